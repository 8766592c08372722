/- What a function is; what is asked of a group. -/
import Derived.Test.YtdackakjcnnofaaA13
namespace Go.Proofs.Ytdackakjcnnofaa
open Go.RowKit

/-- Whether a slice is a function. -/
def funB (q m : Nat) (l : List Int) : Bool := decide (l.length = m) && l.all fun x => decide (0 ≤ x) && decide (x < (q : Int))
theorem funB_iff {q m : Nat} {l : List Int} : funB q m l = true ↔ l.length = m ∧ ∀ x ∈ l, 0 ≤ x ∧ x < (q : Int) := by
  unfold funB
  simp [List.all_eq_true]
theorem funB_len {q m : Nat} {l : List Int} (h : l.length ≠ m) : funB q m l = false := by unfold funB; simp [h]
/-- What the functions of a group need: out of a group. -/
structure FG (E : List (List Nat)) (d : Nat) : Prop where
  q1 : 1 < primeN E d
  q2 : primeN E d < 62
  n : E.length ≤ 24
  m0 : 0 < (classesN E).length
  m24 : (classesN E).length ≤ 24
  bl : (backC E).length = (classesN E).length
  bb : ∀ b ∈ backC E, b < (classesN E).length
  cl : ∀ l ∈ classesN E, l.length ≤ 24
  ok : okOver (primeN E d) E.length = true
  tab : okG E d = true
  few : (tabG E d).length ≤ 24
  rows : ∀ r ∈ tabG E d, funB (primeN E d) (classesN E).length r = true
end Go.Proofs.Ytdackakjcnnofaa
