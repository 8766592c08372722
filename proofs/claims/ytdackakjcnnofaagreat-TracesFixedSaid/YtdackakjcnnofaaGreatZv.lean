/- The reference's Fixed. -/
import Derived.Test.YtdackakjcnnofaaGreatFx
import Derived.Test.YtdackakjcnnofaaGreatR2
namespace Go.Proofs.YtdackakjcnnofaaGreat
open Go.RowKit
attribute [local go_sem] Oper.semAt_some

set_option maxRecDepth 100000 in
set_option maxHeartbeats 4000000 in
theorem RFixed_any {d : Nat} {E : List (List Nat)} (gv : Value) (w : World) (h : Grp d E) (h24 : E.length ≤ 24) (hd : d ≤ 5) (hg : RGI d E w gv) :
    Calls Tryz.prog 37 #[gv] w fun e w' => ∃ v', e = .returned v' ∧ OwnI 3 w.heap.size w' v' (toI (fixedN E)) ∧ Below w.heap.size w w' := by
  obtain ⟨vL, vT, vB, vC, vO, rfl, hL, -, -, hC, -⟩ := hg
  have HG := Lib.hid h
  obtain ⟨aC, cC, rfl⟩ := hC.form
  obtain ⟨aL, cL, rfl⟩ := hL.form
  have HCL := Lib.hid (show (classesN E).length = (repsN E E.length).length by simp [classesN])
  have hml := reps_len (E := E) E.length
  have hmp : 0 < (repsN E E.length).length := by
    have h0 : firstB E 0 = true := first_iff.2 fun b hb => absurd hb (Nat.not_lt_zero _)
    exact List.length_pos_of_mem (reps_mem.2 ⟨h.pos, h0⟩)
  obtain ⟨-, gC, rfl, hgC⟩ := rows_fix hC (by rw [HCL.out]; exact hmp)
  obtain ⟨-, gL, rfl, hgL⟩ := rows_fix hL h.pos
  have HRA := Lib.hid hgC
  have HRL := Lib.hid hgL
  have HFL := Lib.hid (fixedN_length E)
  have HFA := Lib.hid (fun k hk => fixedN_at E (k := k) hk)
  have HCF := Lib.hid (fun k h1 h2 => h.cls_first (k := k) h1 h2)
  obtain ⟨n, hn⟩ : ∃ n, E.length = n := ⟨_, rfl⟩
  have HN := Lib.hid hn
  have HRM := Lib.hid (fun k (hk : k < (repsN E E.length).length) => show (repsN E E.length)[k] < n by have := (reps_mem.1 (List.getElem_mem hk)).1; omega)
  obtain ⟨m, hmm⟩ : ∃ m, (repsN E E.length).length = m := ⟨_, rfl⟩
  have HMM := Lib.hid hmm
  rw [hmm, hn] at hml
  rw [hn] at h24
  rw [HCL.out, hmm, hn]
  clear h hmm hgC hgL hn hC hL
  unfold rgV
  go_enter Tryz.func37, Tryz.ntmps37
  have HX0 := Lib.hid (Held.new w 29 [.slice (some ⟨gL, 0, none⟩) n cL, vT, vB, .slice (some ⟨gC, 0, none⟩) m cC, vO, .int .i64 (primeN E d : Nat)])
  have HB0 := Lib.hid (show Below w.heap.size w (w.alloc (.cells #[.slice (some ⟨gL, 0, none⟩) n cL, vT, vB, .slice (some ⟨gC, 0, none⟩) m cC, vO, .int .i64 (primeN E d : Nat)] 29)) from (Below.refl _ _).alloc (Nat.le_refl _) _)
  go_wp2_with fail
  obtain ⟨bx, hbx⟩ : ∃ x, w.heap.size = x := ⟨_, rfl⟩
  obtain ⟨W0, hW0⟩ : ∃ x, w.alloc (.cells #[.slice (some ⟨gL, 0, none⟩) n cL, vT, vB, .slice (some ⟨gC, 0, none⟩) m cC, vO, .int .i64 (primeN E d : Nat)] 29) = x := ⟨_, rfl⟩
  have HBXW := Lib.hid hbx
  rw [hbx] at HX0 ⊢
  have HX1 := Lib.hid (show Held W0 bx 29 [.slice (some ⟨gL, 0, none⟩) n cL, vT, vB, .slice (some ⟨gC, 0, none⟩) m cC, vO, .int .i64 (primeN E d : Nat)] by rw [← hW0]; exact HX0.out)
  rw [hW0] at HB0 ⊢
  clear hW0 HX0 hbx
  go_loopw [3, 12] (fun vr ix wr => ∃ k : Nat, k ≤ m ∧ ix = .int .i64 k ∧ OwnI 3 W0.heap.size wr vr (toI ((fixedN E).take k)) ∧ Below W0.heap.size W0 wr) (fun _ ix _ => m - (intOf ix).toNat)
  case atStart => exact ⟨0, Nat.zero_le _, rfl, OwnI.nil _ _ _, Below.refl _ _⟩
  case round =>
    obtain ⟨k, hk, rfl, ho, hb0⟩ := hrel
    obtain ⟨wA, rfl⟩ : ∃ x, x = wr := ⟨_, rfl⟩
    have HO := Lib.hid ho
    have HB := Lib.hid (HB0.out.trans (hb0.mono HB0.out.size))
    have HBA := Lib.hid hb0
    obtain ⟨aR, nR, cR, rfl⟩ := own_form ho
    have hle := hb0.size
    clear ho
    by_cases hlt : k < m
    · have hki : (k : Int) < (m : Int) := by omega
      have hk2 : k < (repsN E E.length).length := by rw [HMM.out]; exact hlt
      have hkc : k < (classesN E).length := by rw [HCL.out]; exact hk2
      obtain ⟨aU, cU, hrow⟩ := HRA.out k hkc
      have hcr := (hrow wA HB.out).1
      have hcl := HCF.out k hkc hk2
      have hpos : 0 < ((classesN E)[k]).length := (List.getElem?_eq_some_iff.1 hcl).1
      obtain ⟨b1, o1, c1, he, hb1, hc1⟩ := Ints.atN (hrow wA HB.out).2 hpos
      obtain ⟨rfl, -, -⟩ := Value.slice.inj he
      have hrl := HRM.out k hk2
      have hfa := HFA.out k hk2
      rw [(List.getElem?_eq_some_iff.1 hcl).2, Nat.add_zero] at hc1
      obtain ⟨r, hr⟩ : ∃ r, (repsN E E.length)[k] = r := ⟨_, rfl⟩
      rw [hr] at hc1 hrl hfa
      obtain ⟨x, hx⟩ : ∃ x, E[r]? = some x := ⟨_, List.getElem?_eq_getElem (by rw [HN.out]; exact hrl)⟩
      have hpx := HG.out.perm x (List.mem_of_getElem? hx)
      have hel : elP E r = x := by rw [elP, List.getD_eq_getElem?_getD, hx]; rfl
      rw [hel] at hfa
      have hfx : fixP x = fixTo x d := by unfold fixP fixTo; rw [hpx.1]
      rw [hfx] at hfa
      have HT := Lib.hid (show toI ((fixedN E).take (k + 1)) = toI ((fixedN E).take k) ++ [((fixTo x d : Nat) : Int)] by rw [List.take_add_one, hfa, toI_append]; rfl)
      have hrE : r < E.length := by rw [HN.out]; exact hrl
      have hrx : E[r] = x := (List.getElem?_eq_some_iff.1 hx).2
      obtain ⟨aX, cX, hrow2⟩ := HRL.out r hrE
      rw [hrx] at hrow2
      have hxd : x.length = d := hpx.1
      have hcr2 := (hrow2 wA HB.out).1
      rw [hxd] at hcr2
      have HXR := Lib.hid (fun (W : World) (hW : Below w.heap.size w W) => show Ints W (.slice aX x.length cX) (toI x) from (hrow2 W hW).2)
      have HXD := Lib.hid hxd
      have hbe1 := hc1
      obtain ⟨z, hz⟩ : ∃ z, ((classesN E)[k]).length = z := ⟨_, rfl⟩
      rw [hz] at hcr hpos
      have hzi : (0 : Int) < (z : Int) := by omega
      have hri : (r : Int) < (n : Int) := by omega
      have hr0 : (0 : Int) ≤ (r : Int) := by omega
      have hx0 := (HX1.out.below HBA.out HX1.out.lt).at (i := 0) rfl
      have HTL := Lib.hid (show (toI ((fixedN E).take k)).length < 1000000 by rw [toI_length, List.length_take, HFL.out, HMM.out]; omega)
      clear hx hpx hel hfx hfa hrow hcl he hz hr hbe1 hrow2 hrx hxd
      go_wp2
      go_quiet (fail)
      go_wp2_with fail
      go_loopw [6, 24] (fun s jx wq => ∃ j : Nat, j ≤ d ∧ jx = .int .i64 j ∧ s = .int .i64 (fixTo x j : Nat) ∧ Below wA.heap.size wA wq) (fun _ jx _ => d - (intOf jx).toNat)
      case atStart => exact ⟨0, Nat.zero_le _, rfl, rfl, below_drewN (Below.refl _ _) _⟩
      case round =>
        obtain ⟨j, hj, rfl, rfl, hbq⟩ := hrel
        have HBQ := Lib.hid hbq
        have hfl := fixTo_le x j
        have hleq := hbq.size
        by_cases hjl : j < d
        · have hji : (j : Int) < (d : Int) := by omega
          obtain ⟨b2, o2, c2, he2, -, hcx⟩ := Ints.atN (HXR.out wr (HB.out.trans (hbq.mono (by have := HB0.out.size; omega)))) (i := j) (by rw [HXD.out]; exact hjl)
          obtain ⟨rfl, -, -⟩ := Value.slice.inj he2
          rw [show x[j]'(by rw [HXD.out]; exact hjl) = x.getD j 0 by rw [List.getD_eq_getElem?_getD, List.getElem?_eq_getElem]; rfl] at hcx
          clear he2
          have HFS := Lib.hid (fixTo_succ x j)
          obtain ⟨y, hy⟩ : ∃ y, x.getD j 0 = y := ⟨_, rfl⟩
          rw [hy] at HFS hcx
          obtain ⟨f, hf⟩ : ∃ f, fixTo x j = f := ⟨_, rfl⟩
          rw [hf] at HFS hfl ⊢
          clear hy hf hbq
          by_cases hjy : y = j
          · have HFS2 := Lib.hid (show fixTo x (j + 1) = f + 1 by rw [HFS.out, if_pos hjy])
            subst hjy
            go_wp2
            go_roundw
            case rel => exact ⟨y + 1, hjl, by go_num, by rw [HFS2.out]; go_num, HBQ.out⟩
            case measure => simp [intOf]; omega
          · have hjyi : ¬ (j : Int) = (y : Int) := by omega
            have hjyb : ((j : Int) == (y : Int)) = false := by simp; omega
            have HFS2 := Lib.hid (show fixTo x (j + 1) = f by rw [HFS.out, if_neg hjy]; rfl)
            clear hjy
            go_wp2
            go_roundw
            case rel => exact ⟨j + 1, hjl, by go_num, by rw [HFS2.out], HBQ.out⟩
            case measure => simp [intOf]; omega
        · obtain rfl : j = d := by omega
          have hji : ¬ (j : Int) < (j : Int) := by omega
          obtain ⟨f, hf⟩ : ∃ f, fixTo x j = f := ⟨_, rfl⟩
          rw [hf] at HT hfl ⊢
          have HO2 := Lib.hid (HO.out.below hbq)
          clear hf hbq
          go_wp2_with (at_builtin; refine wpList_app1_at rfl _ _ rfl W0.heap.size _ (toI ((fixedN E).take k)) ((f : Nat) : Int) rfl (HO2.out.alloc _) ⟨_, 0, none⟩ 1 rfl (cell_new1 _ _ _) HTL.out (by simp; omega) ?_; intro v4 w4 ho4 hg4 hl4; have HO4 := Lib.hid ho4; have HG4 := Lib.hid hg4; clear ho4 hg4 hl4)
          go_roundw
          case rel => exact ⟨k + 1, hlt, by go_num, by rw [HT.out]; exact HO4.out, ((HBA.out.trans (HBQ.out.mono hle)).alloc (by omega) _).grown HG4.out (by simp; omega) (fun j hj => (HO.out.lt j hj).1)⟩
          case measure => simp [intOf]; omega
    · obtain rfl : k = m := by omega
      have hki : ¬ (k : Int) < (k : Int) := by omega
      go_wp2
      go_ret
      have h0 := HO.out
      rw [List.take_of_length_le (by rw [HFL.out, HMM.out]; exact Nat.le_refl _)] at h0
      exact ⟨_, rfl, OwnI.mono h0 (by have := HB0.out.size; omega), HB.out⟩
end Go.Proofs.YtdackakjcnnofaaGreat
