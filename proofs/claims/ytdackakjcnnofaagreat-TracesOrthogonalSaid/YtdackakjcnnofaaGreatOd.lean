/- The law's inverse: the class of the inverse elements. -/
import Derived.Test.YtdackakjcnnofaaGreatOc
import Derived.Test.YtdackakjcnnofaaGreatB2
namespace Go.Proofs.YtdackakjcnnofaaGreat
open Go.RowKit
attribute [local go_sem] Oper.semAt_some

set_option maxRecDepth 20000 in
set_option maxHeartbeats 2000000 in
theorem inverse_any {d : Nat} {E : List (List Nat)} {S S' : Nat → Prop} {B B' : Nat} (uE uC : Value) (k : Nat) (w : World) (h : Grp d E) (hd : d ≤ 5) (h1d : 0 < d) (h24 : E.length ≤ 24) (hE : RowsF S B w uE E) (hC : RowsF S' B' w uC (classesN E)) (hk : k < (classesN E).length) :
    Calls Tryz.prog 40 #[uE, uC, .int .i64 (k : Nat)] w fun e w' => e = .returned (.int .i64 ((backC E).getD k 0 : Nat)) ∧ Below w.heap.size w w' := by
  have hcl : (classesN E).length = (repsN E E.length).length := by simp [classesN]
  have hk2 : k < (repsN E E.length).length := by omega
  have hml := reps_len (E := E) E.length
  have hcf := h.cls_first hk hk2
  rw [backC_at hk2]
  obtain ⟨a, ha⟩ : ∃ a, (repsN E E.length)[k] = a := ⟨_, rfl⟩
  have hrl : a < E.length := by rw [← ha]; exact (reps_mem.1 (List.getElem_mem hk2)).1
  rw [ha] at hcf ⊢
  have hpe := h.perm _ (elP_mem hrl)
  have hel : elP E a = E[a] := by rw [elP, List.getD_eq_getElem?_getD, List.getElem?_eq_getElem hrl]; rfl
  have HFI := Lib.hid (h.fi_inv (h.inv_spec hrl).1)
  have HFC := Lib.hid (h.fi_cls (h.inv_spec hrl).1)
  have HBE := Lib.hid (h.bkP_end hrl)
  have HUE := Lib.hid (fun (w' : World) (hb : Below w.heap.size w w') => hE.kept (S' := fun _ => True) (Sm.of_below hb) (fun _ _ => trivial) (fun _ _ => trivial))
  have HUC := Lib.hid (fun (w' : World) (hb : Below w.heap.size w w') => hC.kept (S' := fun _ => True) (Sm.of_below hb) (fun _ _ => trivial) (fun _ _ => trivial))
  obtain ⟨aE, cE, rfl⟩ := hE.form
  obtain ⟨aC, cC, rfl⟩ := hC.form
  obtain ⟨-, gE, rfl, hgE⟩ := rows_fix hE h.pos
  obtain ⟨-, gC, rfl, hgC⟩ := rows_fix hC (by omega)
  obtain ⟨aU, cU, hU⟩ := hgC k hk
  obtain ⟨aV, cV, hV⟩ := hgE a hrl
  have hlen : (E[a]).length = d := by rw [← hel]; exact hpe.len
  have hmem := hU w (Below.refl _ _)
  have hc0 := hmem.1
  have hz : 0 < ((classesN E)[k]).length := by
    cases hx : (classesN E)[k] with
    | nil => rw [hx] at hcf; simp at hcf
    | cons y ys => simp
  obtain ⟨_, _, e1, -, -, hc1⟩ := hmem.2
  obtain ⟨b1, o1, e2, hb1, hc1⟩ := hc1 (ne_nil_of_lt (k := 0) (by rw [toI_length]; exact hz))
  have hc2 := hc1 0 (by rw [toI_length]; exact hz)
  obtain ⟨rfl, -, rfl⟩ := Value.slice.inj e1
  subst e2
  have he0 : (toI (classesN E)[k])[0]'(by rw [toI_length]; exact hz) = (a : Int) := by
    have := List.getElem?_eq_getElem hz
    rw [hcf] at this
    simp only [toI, List.getElem_map]
    rw [← Option.some.inj this]
  rw [he0] at hc2
  obtain ⟨n, hn⟩ : ∃ n, ((classesN E)[k]).length = n := ⟨_, rfl⟩
  rw [hn] at hc0 hz
  have hHE := (hV w (Below.refl _ _)).1
  rw [hlen] at hHE hV
  have HV := Lib.hid hV
  obtain ⟨m, hm⟩ : ∃ m, (classesN E).length = m := ⟨_, rfl⟩
  obtain ⟨t, ht⟩ : ∃ t, E.length = t := ⟨_, rfl⟩
  have MZ := fun W => make_Z d (by omega) W
  rw [hm, ht]
  rw [Nat.add_zero] at hc2
  have hmm : m ≤ 24 := by omega
  have hkm : k < m := by omega
  have hat : a < t := by omega
  have ht24 : t ≤ 24 := by omega
  have HM := Lib.hid hm
  have HT := Lib.hid ht
  have HP := Lib.hid hpe
  have HEL := Lib.hid hel
  have hki : (k : Int) < (m : Int) := by omega
  have hki' : decide ((m : Int) ≤ (k : Int)) = false := by simp; omega
  have hk0 : decide ((k : Int) < 0) = false := by simp
  have hai : (a : Int) < (t : Int) := by omega
  have hai' : decide ((t : Int) ≤ (a : Int)) = false := by simp; omega
  have ha0 : decide ((a : Int) < 0) = false := by simp
  have hn0 : ((n : Int) == 0) = false := by simp; omega
  obtain ⟨bx, hbx⟩ : ∃ x, (mkZ d w).heap.size = x := ⟨_, rfl⟩
  have hbxs : bx = w.heap.size + 1 := by rw [← hbx, mkZ_size]
  obtain ⟨W2, hW2⟩ : ∃ x, (mkZ d w).alloc (.cells #[.slice (some ⟨w.heap.size, 0, none⟩) d d] 27) = x := ⟨_, rfl⟩
  have hb2 : Below w.heap.size w W2 := by rw [← hW2]; exact (mkZ_below d w).trans ((Below.refl _ _).alloc (by rw [mkZ_size]; omega) _)
  have HH := Lib.hid (show Held W2 bx 27 [.slice (some ⟨w.heap.size, 0, none⟩) d d] by rw [← hW2]; exact Held.made (l := [_]) hbx)
  have HO := Lib.hid (show OwnI 3 w.heap.size W2 (.slice (some ⟨w.heap.size, 0, none⟩) d d) (toI (bkP d (elP E a) 0)) by rw [← hW2, bkP_zero]; exact (mkZ_own d w (by unfold maxLen; omega)).alloc _)
  have HB2 := Lib.hid hb2
  have HAP := Lib.hid (show w.heap.size ≠ bx by omega)
  have hE2 := (hV W2 hb2).1
  rw [← hW2] at hE2
  have HBS := Lib.hid hbxs
  have HW2 := Lib.hid hW2
  have HHC := Lib.hid hC
  clear hb2 hbxs hW2
  clear hcf hE hC hgE hgC hU hV hmem e1 hc1 he0 hn hm ht hpe hel h ha hk2 hml hcl
  go_enter Tryz.func40, Tryz.ntmps40
  go_wp2
  rw [HW2.out]
  try rw [hbx]
  go_loopw [52] (fun ix wr => ∃ j : Nat, j ≤ d ∧ ix = .int .i64 j ∧ Held wr bx 27 [.slice (some ⟨w.heap.size, 0, none⟩) d d] ∧ OwnI 3 w.heap.size wr (.slice (some ⟨w.heap.size, 0, none⟩) d d) (toI (bkP d (elP E a) j)) ∧ Below w.heap.size w wr) (fun ix _ => d - (intOf ix).toNat)
  case atStart => exact ⟨0, Nat.zero_le _, rfl, HH.out, HO.out, HB2.out⟩
  case round =>
    obtain ⟨j, hj, rfl, hh, ho, hb⟩ := hrel
    have HHH := Lib.hid hh
    have HOO := Lib.hid ho
    have HB := Lib.hid hb
    by_cases hlt : j < d
    · have hji : (j : Int) < (d : Int) := by omega
      have hv := (HV.out wr hb).2
      obtain ⟨_, _, e1, -, -, hc1⟩ := hv
      have hEl : (E[a]'(by rw [HT.out]; exact hat)).length = d := by rw [← HEL.out]; exact HP.out.len
      obtain ⟨b2, o2, e2, -, hc1⟩ := hc1 (ne_nil_of_lt (k := j) (by rw [toI_length, hEl]; exact hlt))
      have hx := hc1 j (by rw [toI_length, hEl]; exact hlt)
      obtain ⟨rfl, -, rfl⟩ := Value.slice.inj e1
      subst e2
      have hjl : j < (elP E a).length := by rw [HP.out.len]; exact hlt
      have hxd : (elP E a)[j] < d := HP.out.lt _ (List.getElem_mem hjl)
      obtain ⟨x, hxx⟩ : ∃ x, (elP E a)[j] = x := ⟨_, rfl⟩
      have HXX := Lib.hid hxx
      have hx0 : (toI (E[a]'(by rw [HT.out]; exact hat)))[j]'(by rw [toI_length, hEl]; exact hlt) = (x : Int) := by
        rw [← hxx]
        simp only [toI, List.getElem_map, HEL.out]
      rw [hx0] at hx
      rw [hxx] at hxd
      have hcb := hh.at (i := 0) rfl
      have hfz := ho.free x (by rw [toI_length, bkP_len])
      have hcx := ho.cellN (j := x) (by rw [toI_length, bkP_len]) (by rw [toI_length, bkP_len]; exact hxd)
      have hxi : (x : Int) < (d : Int) := by omega
      have hxi' : decide ((d : Int) ≤ (x : Int)) = false := by simp; omega
      have hx00 : decide ((x : Int) < 0) = false := by simp
      have HJL := Lib.hid hjl
      clear hh ho hb e1 hc1 hEl hx0 hj
      have HSE := Lib.hid (show toI (bkP d (elP E a) (j + 1)) = (toI (bkP d (elP E a) j)).set x (j : Int) by rw [bkP_succ HP.out hjl, hxx]; simp [toI, List.map_set])
      clear hxx HXX HJL hjl
      go_wp2
      go_roundw
      case rel =>
        refine ⟨j + 1, hlt, by go_num, HHH.out.sm (Sm.put w.heap.size x _) (fun e => HAP.out e.symm), ?_, HB.out.setCell (Nat.le_refl _) _⟩
        rw [HSE.out]
        exact OwnI.storedN HOO.out (by rw [toI_length, bkP_len]) x (j : Int)
      case measure => simp [intOf]; omega
    · obtain rfl : j = d := by omega
      have hji : ¬ (j : Int) < (j : Int) := by omega
      have hcb := hh.at (i := 0) rfl
      have hoi := ho
      rw [HBE.out] at hoi
      have hir := hoi.ints (by rw [← HBE.out, toI_length, bkP_len]; omega)
      have CI := Lib.hid (IndexS_inv (bx := bx) (fun x => decide (toI x = toI (elP E (invN E a)))) _ E wr (HUE.out wr hb) (by rw [HT.out]; omega) (fun w' x k hk hb' hx => inverse1_any bx _ _ x _ w' ((hb'.cell (p := ⟨bx, 0, none⟩) hh.lt).trans hcb) (hir.below hb') hx))
      rw [HFI.out, HT.out] at CI
      have CC := Lib.hid (fun w' (hb' : Below w.heap.size w w') => class_any _ (classesN E) (invN E a : Nat) w' (HUC.out w' hb') (by rw [HM.out]; omega))
      rw [HFC.out, HM.out] at CC
      have hszr := hb.size
      clear hh ho hoi hir hcb hj hb
      go_wp2_with (first
        | (go_at_call 59; refine CI.out.mono ?_; rintro e w3 ⟨rfl, hb3⟩; have HB3 := Lib.hid (HB.out.trans (hb3.mono HB.out.size)); clear hb3)
        | (go_at_call 66; refine (CC.out _ HB3.out).mono ?_; rintro e w4 ⟨rfl, hb4⟩; have HB4 := Lib.hid (HB3.out.trans (hb4.mono HB3.out.size)); clear hb4))
      go_ret
      exact ⟨rfl, HB4.out⟩
end Go.Proofs.YtdackakjcnnofaaGreat
