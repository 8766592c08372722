/- Bits of small numbers, in the walk's spelling. -/
import Derived.WalkKit
namespace Go.Proofs.YtlpnicfbgdfbnaaDoor
open Go.RowKit

/-- Row r without column j. -/
def delcol (j r : Nat) : Nat := (r &&& (2 ^ j - 1)) ||| ((r >>> (j + 1)) <<< j)

theorem delcol_walk : ∀ j : Nat, j < 6 → ∀ r : Nat, r < 64 → bits BinOp.or IntKind.i64 (bits BinOp.and IntKind.i64 (r : Int) ((2 : Int) ^ j - 1)) (IntKind.i64.wrap ((r : Int) / (2 ^ (j + 1)) * 2 ^ j)) = ((delcol j r : Nat) : Int) := by decide +kernel
theorem delcol_lt : ∀ j : Nat, j < 6 → ∀ r : Nat, r < 64 → delcol j r < 64 := by decide +kernel

theorem pow_in : ∀ j : Nat, j < 7 → IntKind.i64.wrap ((2 : Int) ^ j) = (2 : Int) ^ j := by decide +kernel
theorem pow_in1 : ∀ j : Nat, j < 7 → IntKind.i64.wrap ((2 : Int) ^ j - 1) = (2 : Int) ^ j - 1 := by decide +kernel
theorem pow_in64 : ∀ j : Nat, j < 7 → wrap64 ((2 : Int) ^ j) = (2 : Int) ^ j := by decide +kernel
theorem pow_in164 : ∀ j : Nat, j < 7 → wrap64 ((2 : Int) ^ j - 1) = (2 : Int) ^ j - 1 := by decide +kernel

/-- The columns of n that are not in r. -/
def otherRow (n r : Nat) : Nat := 2 ^ n - 1 - r
theorem other_walk : ∀ n : Nat, n < 7 → ∀ r : Nat, r < 64 → r < 2 ^ n → bits BinOp.andNot IntKind.i64 ((2 : Int) ^ n - 1) (r : Int) = ((otherRow n r : Nat) : Int) := by decide +kernel
theorem other_lt : ∀ n : Nat, n < 7 → ∀ r : Nat, r < 64 → otherRow n r < 2 ^ n := by decide +kernel
end Go.Proofs.YtlpnicfbgdfbnaaDoor
