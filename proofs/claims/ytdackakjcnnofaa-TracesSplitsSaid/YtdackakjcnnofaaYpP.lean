/- TracesSplits answers true for every input and leaves its arguments as they were. -/
import Derived.Test.YtdackakjcnnofaaYp
import Derived.Test.YtdackakjcnnofaaA8
import Derived.JoinedOf
namespace Go.Proofs.Ytdackakjcnnofaa
open Go Go.RowKit Go.ChangeShapes Go.WideShapes Go.ChangeAt Go.WideElems

set_option maxRecDepth 100000 in
theorem tracesSplits_lifted (os : Os) (started : os.Started) (H : Type) (enc : TypeId × Value → H) :
    ReturnsInHanded {} Try.checked os 5 .any (Rows.tracesSplitsSpec.pre6 enc Try.prog Try.f5 [] false) (Rows.tracesSplitsSpec.post enc Try.prog Try.f5 false true false false) := by
  refine returnsInHanded_of_change_sized (C := Try.checked) ownK started (by kernel_rfl) Try.func5
    (ChangeSpec.witness6 (enc := enc) (C := Try.checked) false ⟨#[], #[.slice none 0 0, .slice none 0 0], []⟩ 8 (by kernel_rfl) (by kernel_rfl) (by kernel_rfl) (by kernel_rfl)) ?_
  have hvars0 : Rows.tracesSplitsSpec.vars = [] := rfl
  intro W base args ds gs before hval0 hW _ hsz0 _
  have hsz : (DataW.weightsEach Try.prog (Try.f5.params.toList ++ Rows.tracesSplitsSpec.plain.varTypes Try.prog) (ds ++ gs)).all (· ≤ reachBytes) = true := hsz0
  have hval : ∀ (j : Nat) t v, Try.f5.params[j]? = some t → args[j]? = some v → Value.okWide Try.prog W .any base t v := hval0
  have hW' := hW
  obtain ⟨p, q, hA0, hV, rfl, _, _⟩ := hW
  have hA : DataW.TrodAll enc Try.prog W 0 (fun _ => true) true Try.f5.params.toList args.toList ds p := hA0
  have hlt : ∀ x ∈ p, x.block < W.heap.size := fun x hx => by simpa using hW'.lt x (List.mem_append_left _ hx)
  rw [Try.params5] at hA hval hsz
  obtain ⟨rfl, rfl⟩ := trodVars_none hV
  obtain ⟨v0, vs0, d0, ds0, p0, q0, hv0, rfl, rfl, h0, hA0⟩ := trodAll_cons hA
  obtain ⟨v1, vs1, d1, ds1, p1, q1, hv1, rfl, rfl, h1, hA1⟩ := trodAll_cons hA0
  obtain ⟨rfl, rfl, rfl⟩ := trodAll_nil hA1
  subst hv1
  have hargs : args = #[v0, v1] := by cases args; simp only [List.toArray] at hv0 ⊢; exact congrArg Array.mk hv0
  subst hargs
  obtain ⟨L0, hL0⟩ := rows_arg (hval 0 22 v0 rfl rfl) h0 (fun n hn => by have := List.all_eq_true.1 hsz _ (DataW.weights_mem_each (j := 0) (t := 22) (d := d0) rfl rfl n hn); simpa using this)
  obtain ⟨xs1, hx1⟩ := slice_arg (hval 1 28 v1 rfl rfl) h1 (fun elems spare he => by have := sized_slice hsz (j := 1) (t := 28) (e := 3) rfl (by rw [he]; rfl) Try.underlying28; rwa [bytesInt] at this) (fun x hx => hlt x (by simp [hx]))
  refine (tracesSplits_true v0 L0 v1 xs1 W hL0 hx1).mono fun e W' ⟨he, hB⟩ => ?_
  subst he
  have hall : ((Try.f5.params.toList).all fun u => Try.prog.readableRec u && decide (u < Try.prog.types.size)) = true := by kernel_rfl
  refine ⟨_, rfl, post_law hvars0 hW' rfl rfl (fun t ht => ?_) hB⟩
  simpa using List.all_eq_true.1 hall t ht

theorem tracesSplits_holds : Rows.TracesSplitsSaid :=
  OpenClaim.holds_of_wide 5 Try.f5 rfl rfl rfl rfl rfl rfl rfl ⟨rfl, rfl, rfl, rfl, rfl⟩ rfl rfl rfl rfl rfl (by kernel_rfl) Try.func5 (by kernel_rfl)
    (of_decide_eq_true (by kernel_rfl)) (by unfold Func.isWrapper; first | (rw [if_pos (by decide +kernel)]; kernel_rfl) | (rw [if_neg (by decide +kernel)]; exact ⟨rfl, rfl⟩))
    (fun os started H enc _ => tracesSplits_lifted os started H enc)
end Go.Proofs.Ytdackakjcnnofaa
