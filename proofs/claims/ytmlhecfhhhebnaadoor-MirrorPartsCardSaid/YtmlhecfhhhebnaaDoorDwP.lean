/- MirrorParts answers true for every input and leaves its arguments as they were. -/
import Derived.Test.YtmlhecfhhhebnaaDoorDw
import Derived.Test.YtmlhecfhhhebnaaDoorDg
import Derived.Test.YtmlhecfhhhebnaaDoorCards
import Derived.SevenTiedAt
namespace Go.Proofs.YtmlhecfhhhebnaaDoor
open Go Go.RowKit Go.ChangeShapes Go.WideShapes Go.ChangeAt Go.WideElems

set_option maxRecDepth 100000 in
theorem mirrorParts_lifted (os : Os) (started : os.Started) (H : Type) (enc : TypeId × Value → H) :
    ReturnsInHanded {} Tryd.checked os 4 .any (fun w args => (Rows.mirrorPartsSpec.pre enc Tryd.prog Tryd.f4 [] false w args ∧ laidMetH Tryd.prog laidL w) ∧ sizedMet enc Tryd.prog Tryd.f4 (OpenSpec.ofChange Rows.mirrorPartsSpec) false w args) (Rows.mirrorPartsSpec.post enc Tryd.prog Tryd.f4 false true false false) := by
  refine returnsInHanded_of_change_and (C := Tryd.checked) (X := fun w _ => laidMetH Tryd.prog laidL w) (fun _ _ _ hh h => h.of_heap hh) ownK started (by kernel_rfl) Tryd.func4
    (ChangeSpec.witness_shaped (enc := enc) (C := Tryd.checked) (os := os) (X := fun w _ => laidMetH Tryd.prog laidL w) false (World.doorLaid Tryd.prog 1000 os) #[.agg #[.int .u8 0, .int .i64 0], .slice none 0 0, .int .i64 0] 8 rfl (World.shaped_of_RefB (by kernel_rfl) (by kernel_rfl)) (by kernel_rfl) (by kernel_rfl) (by kernel_rfl) (door_met os _)) ?_
  have hvars0 : Rows.mirrorPartsSpec.vars = [] := rfl
  intro W base args ds gs before hval0 hW _ hsz0 hL _
  have hsz : (DataW.weightsEach Tryd.prog (Tryd.f4.params.toList ++ Rows.mirrorPartsSpec.plain.varTypes Tryd.prog) (ds ++ gs)).all (· ≤ reachBytes) = true := hsz0
  have hval : ∀ (j : Nat) t v, Tryd.f4.params[j]? = some t → args[j]? = some v → Value.okWide Tryd.prog W .any base t v := hval0
  have hW' := hW
  obtain ⟨p, q, hA0, hV, rfl, _, _⟩ := hW
  have hA : DataW.TrodAll enc Tryd.prog W 0 (fun _ => true) true Tryd.f4.params.toList args.toList ds p := hA0
  have hlt : ∀ x ∈ p, x.block < W.heap.size := fun x hx => by simpa using hW'.lt x (List.mem_append_left _ hx)
  rw [Tryd.params4] at hA hval hsz
  obtain ⟨rfl, rfl⟩ := trodVars_none hV
  obtain ⟨v0, vs0, d0, ds0, p0, q0, hv0, rfl, rfl, h0, hA0⟩ := trodAll_cons hA
  obtain ⟨v1, vs1, d1, ds1, p1, q1, hv1, rfl, rfl, h1, hA1⟩ := trodAll_cons hA0
  obtain ⟨v2, vs2, d2, ds2, p2, q2, hv2, rfl, rfl, h2, hA2⟩ := trodAll_cons hA1
  obtain ⟨rfl, rfl, rfl⟩ := trodAll_nil hA2
  subst hv2
  subst hv1
  have hargs : args = #[v0, v1, v2] := by cases args; simp only [List.toArray] at hv0 ⊢; exact congrArg Array.mk hv0
  subst hargs
  obtain ⟨K0, n0, rfl, hK0⟩ := group_arg (hval 0 23 v0 rfl rfl) h0
  obtain ⟨xs1, hx1⟩ := slice_arg (hval 1 24 v1 rfl rfl) h1 (fun elems spare he => by have := sized_slice hsz (j := 1) (t := 24) (e := 3) rfl (by rw [he]; rfl) Tryd.underlying24; rwa [bytesInt] at this) (fun x hx => hlt x (by simp [hx]))
  obtain ⟨n2, rfl, rfl, rfl, hn2⟩ := open_int Tryd.underlying3 (hval 2 3 v2 rfl rfl) h2
  have hr2 : -9223372036854775808 ≤ n2 ∧ n2 ≤ 9223372036854775807 := by simpa [Lit.wf, IntKind.min, IntKind.max, IntKind.signed, IntKind.bits] using hn2
  refine (mirrorParts_true K0 n0 v1 xs1 n2 W hK0 hx1 hr2 (tab_of_laid hL)).mono fun e W' ⟨he, hB⟩ => ?_
  subst he
  have hall : ((Tryd.f4.params.toList).all fun u => Tryd.prog.readableRec u && decide (u < Tryd.prog.types.size)) = true := by kernel_rfl
  refine ⟨_, rfl, post_law hvars0 hW' rfl rfl (fun t ht => ?_) hB⟩
  simpa using List.all_eq_true.1 hall t ht

theorem mirrorParts_row : Rows.MirrorPartsSaid :=
  OpenClaim.holds_of_wide 4 Tryd.f4 rfl rfl rfl rfl rfl rfl rfl ⟨rfl, rfl, rfl, rfl, rfl⟩ rfl rfl rfl rfl rfl (by kernel_rfl) Tryd.func4 (by kernel_rfl)
    (of_decide_eq_true (by kernel_rfl)) (by unfold Func.isWrapper; first | (rw [if_pos (by decide +kernel)]; kernel_rfl) | (rw [if_neg (by decide +kernel)]; exact ⟨rfl, rfl⟩))
    (fun os started H enc _ => mirrorParts_lifted os started H enc)

theorem mirrorParts_holds : Rows.MirrorPartsCardSaid :=
  Claim7.holds_tied_plain_at .later [] [.data, .data] true (true, "600a05059ceacfd1f81d008be7c9eb10c1257f76ac16a05b7002d86e1c58cfcc") false
    mirrorParts_row (fun _ h => by cases h) (by kernel_rfl) (fun _ h => by cases h) mirrorParts_row_tie rfl ⟨rfl, rfl⟩ (by kernel_rfl) rfl
    (fun f fn hf hfn => by
      obtain rfl : f = 4 := Option.some.inj ((show Tryd.prog.funcNamed "corsage/corsagelaw02.MirrorParts" = some 4 by kernel_rfl).symm.trans hf) |>.symm
      obtain rfl : fn = Tryd.f4 := (Option.some.inj (Tryd.func4.symm.trans hfn)).symm
      exact ⟨by kernel_rfl, fun j t ht => by
        rw [Tryd.params4] at ht
        have hm : t ∈ [23, 24, 3] := by simpa using Array.mem_of_getElem? ht
        have hall : ([23, 24, 3].all fun u => !Tryd.prog.wantsStandIn u) = true := by kernel_rfl
        exact (show Tryd.prog.wantsStandIn t = false by simpa using List.all_eq_true.1 hall t hm)⟩)
    (by kernel_rfl)
end Go.Proofs.YtmlhecfhhhebnaaDoor
