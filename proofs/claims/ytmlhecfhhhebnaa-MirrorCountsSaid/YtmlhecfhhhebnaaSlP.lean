/- MirrorCounts answers true for every input and leaves its arguments as they were. -/
import Derived.Test.YtmlhecfhhhebnaaSl2
import Derived.Test.YtmlhecfhhhebnaaAg
import Derived.JoinedOf
namespace Go.Proofs.Ytmlhecfhhhebnaa
open Go Go.RowKit Go.ChangeShapes Go.WideShapes Go.ChangeAt Go.WideElems

set_option maxRecDepth 100000 in
theorem mirrorCounts_lifted (os : Os) (started : os.Started) (H : Type) (enc : TypeId × Value → H) :
    ReturnsInHanded {} Try.checked os 9 .any (Rows.mirrorCountsSpec.pre6 enc Try.prog Try.f9 [] false) (Rows.mirrorCountsSpec.post enc Try.prog Try.f9 false true false false) := by
  refine returnsInHanded_of_change_sized (C := Try.checked) ownK started (by kernel_rfl) Try.func9
    (ChangeSpec.witness6 (enc := enc) (C := Try.checked) false ⟨#[], #[.agg #[.int .u8 0, .int .i64 0]], []⟩ 8 (by kernel_rfl) (by kernel_rfl) (by kernel_rfl) (by kernel_rfl)) ?_
  have hvars0 : Rows.mirrorCountsSpec.vars = [] := rfl
  intro W base args ds gs before hval0 hW _ hsz0 _
  have hval : ∀ (j : Nat) t v, Try.f9.params[j]? = some t → args[j]? = some v → Value.okWide Try.prog W .any base t v := hval0
  have hW' := hW
  obtain ⟨p, q, hA0, hV, rfl, _, _⟩ := hW
  have hA : DataW.TrodAll enc Try.prog W 0 (fun _ => true) true Try.f9.params.toList args.toList ds p := hA0
  rw [Try.params9] at hA hval
  obtain ⟨rfl, rfl⟩ := trodVars_none hV
  obtain ⟨v0, vs0, d0, ds0, p0, q0, hv0, rfl, rfl, h0, hA0⟩ := trodAll_cons hA
  obtain ⟨rfl, rfl, rfl⟩ := trodAll_nil hA0
  have hargs : args = #[v0] := by cases args; simp only [List.toArray] at hv0 ⊢; exact congrArg Array.mk hv0
  subst hargs
  obtain ⟨K0, n0, rfl, hK0⟩ := group_arg (hval 0 23 v0 rfl rfl) h0
  refine (mirrorCounts_true K0 n0 W hK0).mono fun e W' ⟨he, hB⟩ => ?_
  subst he
  have hall : ((Try.f9.params.toList).all fun u => Try.prog.readableRec u && decide (u < Try.prog.types.size)) = true := by kernel_rfl
  refine ⟨_, rfl, post_law hvars0 hW' rfl rfl (fun t ht => ?_) hB⟩
  simpa using List.all_eq_true.1 hall t ht

theorem mirrorCounts_holds : Rows.MirrorCountsSaid :=
  OpenClaim.holds_of_wide 9 Try.f9 rfl rfl rfl rfl rfl rfl rfl ⟨rfl, rfl, rfl, rfl, rfl⟩ rfl rfl rfl rfl rfl (by kernel_rfl) Try.func9 (by kernel_rfl)
    (of_decide_eq_true (by kernel_rfl)) (by unfold Func.isWrapper; first | (rw [if_pos (by decide +kernel)]; kernel_rfl) | (rw [if_neg (by decide +kernel)]; exact ⟨rfl, rfl⟩))
    (fun os started H enc _ => mirrorCounts_lifted os started H enc)
end Go.Proofs.Ytmlhecfhhhebnaa
