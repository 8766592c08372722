/- below, Below: the walks. -/
import Derived.Test.YtmlhecfhhhebnaaDoorPt
import Derived.StillTailTactics
namespace Go.Proofs.YtmlhecfhhhebnaaDoor
open Go.RowKit

def lastX (W : List (List Nat)) (y : Nat) : Nat := (W.getD y []).getD (lenX W y - 1) 0
def belX (W X : List (List Nat)) : Nat → Nat → Nat → Bool
  | 0, x, _ => x == 0
  | f + 1, x, y =>
    if y = 0 then x == 0 else if lenX W y < lenX W x then false else
      belX W X f (if lenX W (stepX X x (lastX W y)) < lenX W x then stepX X x (lastX W y) else x) (stepX X y (lastX W y))
def belG (W X : List (List Nat)) (x y : Nat) : Bool := belX W X 12 x y
/-- Every word but the first is not empty, and its last letter makes it shorter. -/
def lstB (W X : List (List Nat)) : Bool := (List.range W.length).all fun y => y == 0 || (decide (0 < lenX W y) && decide (lenX W (stepX X y (lastX W y)) < lenX W y))
theorem lst_all : (allGroups.all fun g => lstB (litW g.1 g.2) (litX g.1 g.2)) = true := by decide +kernel
theorem lstG {K n : Nat} (hv : validB K n = true) : lstB (wordsG K n) (nextG K n) = true := by
  obtain ⟨e1, e2⟩ := lit_of hv
  rw [e1, e2]
  exact List.all_eq_true.1 lst_all _ (valid_in hv)
theorem lst_at {W X : List (List Nat)} (h : lstB W X = true) {y : Nat} (hy : y < W.length) (h0 : y ≠ 0) : 0 < lenX W y ∧ lenX W (stepX X y (lastX W y)) < lenX W y := by
  have := List.all_eq_true.1 h y (List.mem_range.mpr hy)
  simpa [h0] using this
theorem TabIs.drewN {K n bT : Nat} {W X : List (List Nat)} {w : World} (h : TabIs K n W X w bT) (q : Nat) : TabIs K n W X (w.drewN q) bT := h.below ⟨rfl, rfl, rfl, Nat.le_refl _, fun _ _ => rfl⟩
theorem eqz (x : Nat) : ((x : Int) == 0) = (x == 0) := by
  by_cases h : x = 0
  · subst h; rfl
  · have h2 : ¬ ((x : Int) = 0) := by omega
    rw [beq_false_of_ne h2, beq_false_of_ne h]
theorem below_drewM {B : Nat} {a w : World} (h : Below B a w) (q : Nat) : Below B a (w.drewN q) := ⟨h.os, h.tape, h.output, h.size, h.block⟩

/-- What a function that gives a truth value returns. -/
def TruthOut (b : Bool) (w : World) (e : Ending) (w' : World) : Prop := e = .returned (.tuple #[.bool b, .int .i64 0]) ∧ Below w.heap.size w w'
def TruthErr (w : World) (e : Ending) (w' : World) : Prop := e = .returned (.tuple #[.bool false, .int .i64 2]) ∧ Below w.heap.size w w'

end Go.Proofs.YtmlhecfhhhebnaaDoor
