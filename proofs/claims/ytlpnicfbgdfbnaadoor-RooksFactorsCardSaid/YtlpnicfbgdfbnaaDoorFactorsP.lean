/- RooksFactors answers true for every input and leaves its arguments as they were. Conditions: the arguments can be read as data within the form's reach; the tables math/bits.deBruijn32tab and deBruijn64tab hold what the program's text lays (tied by the given tie). -/
import Derived.Test.YtlpnicfbgdfbnaaDoorS8
import Derived.Test.YtlpnicfbgdfbnaaDoorA0
import Derived.Test.YtlpnicfbgdfbnaaDoorCards
import Derived.Test.YtlpnicfbgdfbnaaDoorTie
import Derived.SevenTiedAt
namespace Go.Proofs.YtlpnicfbgdfbnaaDoor
open Go Go.RowKit Go.ChangeShapes Go.WideShapes Go.ChangeAt Go.WideElems

set_option maxRecDepth 100000 in
theorem rooksFactors_lifted (os : Os) (started : os.Started) (H : Type) (enc : TypeId × Value → H) :
    ReturnsInHanded {} Tryd.checked os 13 .any (fun w args => (Rows.rooksFactorsSpec.pre enc Tryd.prog Tryd.f13 [] false w args ∧ laidMetH Tryd.prog laidL w) ∧ sizedMet enc Tryd.prog Tryd.f13 (OpenSpec.ofChange Rows.rooksFactorsSpec) false w args)
      (Rows.rooksFactorsSpec.post enc Tryd.prog Tryd.f13 false true false false) := by
  refine returnsInHanded_of_change_and (C := Tryd.checked) (X := fun w _ => laidMetH Tryd.prog laidL w) (fun _ _ _ hh h => h.of_heap hh) ownK started (by kernel_rfl) Tryd.func13
    (ChangeSpec.witness_shaped (enc := enc) (C := Tryd.checked) (os := os) (X := fun w _ => laidMetH Tryd.prog laidL w) false (World.doorLaid Tryd.prog 1000 os) #[.slice none 0 0, .slice none 0 0, .int .i64 0] 8 rfl (World.shaped_of_RefB (by kernel_rfl) (by kernel_rfl)) (by kernel_rfl) (by kernel_rfl) (by kernel_rfl) (door_met os _)) ?_
  have hvars0 : Rows.rooksFactorsSpec.vars = [] := rfl
  intro W base args ds gs before hval0 hW _ hsz0 hL _
  have hsz : (DataW.weightsEach Tryd.prog (Tryd.f13.params.toList ++ Rows.rooksFactorsSpec.plain.varTypes Tryd.prog) (ds ++ gs)).all (· ≤ reachBytes) = true := hsz0
  have hval : ∀ (j : Nat) t v, Tryd.f13.params[j]? = some t → args[j]? = some v → Value.okWide Tryd.prog W .any base t v := hval0
  have hW' := hW
  obtain ⟨p, q, hA0, hV, rfl, _, _⟩ := hW
  have hA : DataW.TrodAll enc Tryd.prog W 0 (fun _ => true) true Tryd.f13.params.toList args.toList ds p := hA0
  have hlt : ∀ x ∈ p, x.block < W.heap.size := fun x hx => by simpa using hW'.lt x (List.mem_append_left _ hx)
  rw [Tryd.params13] at hA hval hsz
  obtain ⟨rfl, rfl⟩ := trodVars_none hV
  obtain ⟨v0, vs0, d0, ds0, p0, q0, hv0, rfl, rfl, h0, hA0⟩ := trodAll_cons hA
  obtain ⟨v1, vs1, d1, ds1, p1, q1, hv1, rfl, rfl, h1, hA1⟩ := trodAll_cons hA0
  obtain ⟨v2, vs2, d2, ds2, p2, q2, hv2, rfl, rfl, h2, hA2⟩ := trodAll_cons hA1
  obtain ⟨rfl, rfl, rfl⟩ := trodAll_nil hA2
  subst hv2
  subst hv1
  have hargs : args = #[v0, v1, v2] := by cases args; simp only [List.toArray] at hv0 ⊢; exact congrArg Array.mk hv0
  subst hargs
  obtain ⟨xs0, hx0⟩ := slice_arg (hval 0 22 v0 rfl rfl) h0 (fun elems spare he => by have := sized_slice hsz (j := 0) (t := 22) (e := 3) rfl (by rw [he]; rfl) Tryd.underlying22; rwa [bytes3] at this) (fun x hx => hlt x (by simp [hx]))
  obtain ⟨xs1, hx1⟩ := slice_arg (hval 1 22 v1 rfl rfl) h1 (fun elems spare he => by have := sized_slice hsz (j := 1) (t := 22) (e := 3) rfl (by rw [he]; rfl) Tryd.underlying22; rwa [bytes3] at this) (fun x hx => hlt x (by simp [hx]))
  obtain ⟨n2, rfl, rfl, rfl, hn2⟩ := open_int Tryd.underlying3 (hval 2 3 v2 rfl rfl) h2
  have hr2 : -9223372036854775808 ≤ n2 ∧ n2 ≤ 9223372036854775807 := by simpa [Lit.wf, IntKind.min, IntKind.max, IntKind.signed, IntKind.bits] using hn2
  refine (rooksFactors_true v0 xs0 v1 xs1 n2 W hx0 hx1 hr2 (tab_of_laid hL)).mono fun e W' ⟨he, hB⟩ => ?_
  subst he
  have hall : ((Tryd.f13.params.toList).all fun u => Tryd.prog.readableRec u && decide (u < Tryd.prog.types.size)) = true := by kernel_rfl
  refine ⟨_, rfl, post_law hvars0 hW' rfl rfl (fun t ht => ?_) hB⟩
  simpa using List.all_eq_true.1 hall t ht

theorem rooksFactors_row : Rows.RooksFactorsSaid :=
  OpenClaim.holds_of_wide 13 Tryd.f13 rfl rfl rfl rfl rfl rfl rfl ⟨rfl, rfl, rfl, rfl, rfl⟩ rfl rfl rfl rfl rfl (by kernel_rfl) Tryd.func13 (by kernel_rfl)
    (of_decide_eq_true (by kernel_rfl)) (by unfold Func.isWrapper; first | (rw [if_pos (by decide +kernel)]; kernel_rfl) | (rw [if_neg (by decide +kernel)]; exact ⟨rfl, rfl⟩))
    (fun os started H enc _ => rooksFactors_lifted os started H enc)

theorem rooksFactors_holds : Rows.RooksFactorsCardSaid :=
  Claim7.holds_tied_plain_at .later [] [.data, .data] true (true, "a0c0f9662ec1b98a6dfac9bb8549b01bd5f2858b9f6b4a799394105002f283a0") false
    rooksFactors_row (fun _ h => by cases h) (by kernel_rfl) (fun _ h => by cases h) rooksFactors_row_tie rfl ⟨rfl, rfl⟩ (by kernel_rfl) rfl
    (fun f fn hf hfn => by
      obtain rfl : f = 13 := Option.some.inj ((show Tryd.prog.funcNamed "corsage/corsagelaw05.RooksFactors" = some 13 by kernel_rfl).symm.trans hf) |>.symm
      obtain rfl : fn = Tryd.f13 := (Option.some.inj (Tryd.func13.symm.trans hfn)).symm
      exact ⟨by kernel_rfl, fun j t ht => by
        rw [Tryd.params13] at ht
        have hm : t ∈ [22, 22, 3] := by simpa using Array.mem_of_getElem? ht
        have hall : ([22, 22, 3].all fun u => !Tryd.prog.wantsStandIn u) = true := by kernel_rfl
        exact (show Tryd.prog.wantsStandIn t = false by simpa using List.all_eq_true.1 hall t hm)⟩)
    (by kernel_rfl)
end Go.Proofs.YtlpnicfbgdfbnaaDoor
