/- The reference's tables are the program's (a check of the seventeen groups). -/
import Derived.Test.YtmlhecfhhhebnaaLit
namespace Go.Proofs.Ytmlhecfhhhebnaa

def rfOk (K n : Nat) : Bool :=
  let t := rfN K n 130
  t.W == litW K n && (t.P.length == t.W.length) && decide (t.P.length ≤ 120) && ((List.range t.W.length).map (rowN K n t) == litX K n) && t.P.all (fun p => p.length == (t.P.getD 0 []).length && p.all (fun x => decide (x < p.length)))
theorem rf_all : (allGroups.all fun g => rfOk g.1 g.2) = true := by decide +kernel
theorem rf_of {K n : Nat} (h : validB K n = true) : rfOk K n = true := by
  have := List.all_eq_true.1 rf_all _ (valid_in h)
  dsimp only at this
  exact this
end Go.Proofs.Ytmlhecfhhhebnaa
