/- The reference's Function and Split. -/
import Derived.Test.YtdackakjcnnofaaGreatB4
import Derived.Test.YtdackakjcnnofaaGreatPs
namespace Go.Proofs.YtdackakjcnnofaaGreat
open Go.RowKit
attribute [local go_sem] Oper.semAt_some

theorem funB_ent {q m : Nat} {l : List Int} {k : Nat} (hk : k < l.length) (h : ¬ (0 ≤ l[k] ∧ l[k] < (q : Int))) : funB q m l = false := Bool.eq_false_iff.2 fun hf => h ((funB_iff.1 hf).2 _ (List.getElem_mem hk))
set_option maxRecDepth 20000 in
set_option maxHeartbeats 1000000 in
theorem RFunction_any {d : Nat} {E : List (List Nat)} (gv v : Value) (l : List Int) (w : World) (h : Grp d E) (hg : RGI d E w gv) (hv : Ints w v l) (hl : l.length ≤ 17592186044416) :
    Calls Tryz.prog 32 #[gv, v] w fun e w' => e = .returned (.bool (funB (primeN E d) (repsN E E.length).length l)) ∧ Below w.heap.size w w' := by
  obtain ⟨gL, gT, gB, oB, gC, gO, oO, cL, cT, cB, cC, cO, rfl, -⟩ := hg.open h
  have HF1 := Lib.hid (fun k (hk : k < l.length) hx => funB_ent (q := primeN E d) (m := (repsN E E.length).length) hk hx)
  have HF2 := Lib.hid (fun hx => funB_len (q := primeN E d) (m := (repsN E E.length).length) (l := l) hx)
  have HF3 := Lib.hid (fun h1 h2 => (funB_iff (q := primeN E d) (m := (repsN E E.length).length) (l := l)).2 ⟨h1, h2⟩)
  obtain ⟨q, hq⟩ : ∃ q, primeN E d = q := ⟨_, rfl⟩
  obtain ⟨n, hn⟩ : ∃ n, E.length = n := ⟨_, rfl⟩
  obtain ⟨m, hmm⟩ : ∃ m, (repsN E E.length).length = m := ⟨_, rfl⟩
  rw [hq, hmm] at HF1 HF2 HF3
  rw [hmm, hn, hq]
  have HV := Lib.hid hv
  obtain ⟨av, cv, rfl, -, -, -⟩ := id hv
  clear h hg hq hn hmm hv
  unfold rgV
  go_enter Tryz.func32, Tryz.ntmps32
  have HX0 := Lib.hid (Held.new w 29 [.slice (some ⟨gL, 0, none⟩) n cL, .slice (some ⟨gT, 0, none⟩) n cT, .slice (some ⟨gB, oB, none⟩) n cB, .slice (some ⟨gC, 0, none⟩) m cC, .slice (some ⟨gO, oO, none⟩) n cO, .int .i64 (q : Nat)])
  have HB0 := Lib.hid (show Below w.heap.size w (w.alloc (.cells #[.slice (some ⟨gL, 0, none⟩) n cL, .slice (some ⟨gT, 0, none⟩) n cT, .slice (some ⟨gB, oB, none⟩) n cB, .slice (some ⟨gC, 0, none⟩) m cC, .slice (some ⟨gO, oO, none⟩) n cO, .int .i64 (q : Nat)] 29)) from (Below.refl _ _).alloc (Nat.le_refl _) _)
  go_wp2_with fail
  obtain ⟨bx, hbx⟩ : ∃ x, w.heap.size = x := ⟨_, rfl⟩
  obtain ⟨W0, hW0⟩ : ∃ x, w.alloc (.cells #[.slice (some ⟨gL, 0, none⟩) n cL, .slice (some ⟨gT, 0, none⟩) n cT, .slice (some ⟨gB, oB, none⟩) n cB, .slice (some ⟨gC, 0, none⟩) m cC, .slice (some ⟨gO, oO, none⟩) n cO, .int .i64 (q : Nat)] 29) = x := ⟨_, rfl⟩
  rw [hbx] at HX0 ⊢
  have HX1 := Lib.hid (show Held W0 bx 29 [.slice (some ⟨gL, 0, none⟩) n cL, .slice (some ⟨gT, 0, none⟩) n cT, .slice (some ⟨gB, oB, none⟩) n cB, .slice (some ⟨gC, 0, none⟩) m cC, .slice (some ⟨gO, oO, none⟩) n cO, .int .i64 (q : Nat)] by rw [← hW0]; exact HX0.out)
  rw [hW0] at HB0 ⊢
  clear hW0 HX0 hbx
  have hx3 := HX1.out.at (i := 3) rfl
  have hx5 := HX1.out.at (i := 5) rfl
  have HV0 := Lib.hid (HV.out.below HB0.out)
  obtain ⟨ln, hln⟩ : ∃ ln, l.length = ln := ⟨_, rfl⟩
  have HLN := Lib.hid hln
  rw [hln] at hl HV0 ⊢
  clear hln
  go_loop [9] (fun ix => ∃ k : Nat, k ≤ ln ∧ ix = .int .i64 k ∧ ∀ j (hj : j < l.length), j < k → 0 ≤ l[j] ∧ l[j] < (q : Int)) (fun ix => ln - (intOf ix).toNat)
  case atStart => exact ⟨0, Nat.zero_le _, rfl, fun j hj h => by omega⟩
  case round =>
    obtain ⟨k, hk, rfl, hal⟩ := hrel
    have HAL := Lib.hid hal
    clear hal
    by_cases hlt : k < ln
    · have hki : (k : Int) < (ln : Int) := by omega
      have hkl : k < l.length := by rw [HLN.out]; exact hlt
      obtain ⟨b, o, c, e, -, hc⟩ := Ints.atI HV0.out hkl
      obtain ⟨rfl, -, -⟩ := Value.slice.inj e
      have HNO := Lib.hid (HF1.out k hkl)
      have HST := Lib.hid (fun (hx : 0 ≤ l[k] ∧ l[k] < (q : Int)) => show ∀ j (hj : j < l.length), j < k + 1 → 0 ≤ l[j] ∧ l[j] < (q : Int) from fun j hj hjk => by
        by_cases e : j = k
        · subst e; exact hx
        · exact HAL.out j hj (by omega))
      obtain ⟨x, hx⟩ : ∃ x, l[k] = x := ⟨_, rfl⟩
      rw [hx] at hc HNO HST
      clear hx e hkl
      by_cases h1 : x < 0
      · have HR := Lib.hid (HNO.out (fun hh => by omega))
        have h1b : decide (x < 0) = true := by simpa using h1
        clear HNO HST
        go_wp2
        go_ret
        exact ⟨ret_bool HR.out.symm, HB0.out⟩
      · have h1b : decide (x < 0) = false := by simpa using h1
        by_cases h2 : (q : Int) ≤ x
        · have HR := Lib.hid (HNO.out (fun hh => by omega))
          have h2b : decide ((q : Int) ≤ x) = true := by simpa using h2
          clear HNO HST
          go_wp2
          go_ret
          exact ⟨ret_bool HR.out.symm, HB0.out⟩
        · have HS := Lib.hid (HST.out ⟨by omega, by omega⟩)
          have h2b : decide ((q : Int) ≤ x) = false := by simpa using h2
          clear HNO HST
          go_wp2
          go_round
          case rel => exact ⟨k + 1, hlt, by go_num, HS.out⟩
          case measure => simp [intOf]; omega
    · obtain rfl : ln = k := by omega
      have hki : ¬ (ln : Int) < (ln : Int) := by omega
      have HA2 := Lib.hid (show ∀ x ∈ l, 0 ≤ x ∧ x < (q : Int) from fun x hx => by
        obtain ⟨j, hj, rfl⟩ := List.getElem_of_mem hx
        exact HAL.out j hj (by rw [← HLN.out]; exact hj))
      by_cases hlm : ln = m
      · have HR := Lib.hid (HF3.out (by rw [HLN.out]; exact hlm) HA2.out)
        subst hlm
        go_wp2
        go_ret
        exact ⟨ret_bool (by rw [HR.out]), HB0.out⟩
      · have HR := Lib.hid (HF2.out (by rw [HLN.out]; exact hlm))
        have hmi : ¬ (ln : Int) = (m : Int) := by omega
        have hmb : ((ln : Int) == (m : Int)) = false := by simp; omega
        go_wp2
        go_ret
        exact ⟨ret_bool (by rw [HR.out]), HB0.out⟩
set_option maxRecDepth 20000 in
set_option maxHeartbeats 2000000 in
theorem RSplit_any {d : Nat} {E T : List (List Nat)} (gv vf : Value) (F : List Int) (w : World) (h : Grp d E) (h24 : E.length ≤ 24) (hg : RGI d E w gv) (hq1 : 0 < primeN E d) (hq2 : primeN E d < 62) (hT : tabR (primeN E d) E.length (szE E) (backC E) (ksE E) = T) (hfew : T.length ≤ 1000) (hrow : ∀ t ∈ T, FunQ (primeN E d) (repsN E E.length).length (toI t)) (hF : FunQ (primeN E d) (repsN E E.length).length F) (hvf : Ints w vf F) :
    Calls Tryz.prog 33 #[gv, vf] w fun e w' => ∃ v', e = .returned v' ∧ OwnI 3 w.heap.size w' v' (toI (T.map fun t => prodR (primeN E d) E.length (szE E) (backC E) (toI t) F)) ∧ Below w.heap.size w w' := by
  have hg0 := hg
  obtain ⟨gL, gT, gB, oB, gC, gO, oO, cL, cT, cB, cC, cO, rfl, -⟩ := hg.open h
  have RT := Lib.hid (show ∀ (W : World), Below w.heap.size w W → Calls Tryz.prog 16 #[.agg #[.slice (some ⟨gL, 0, none⟩) E.length cL, .slice (some ⟨gT, 0, none⟩) E.length cT, .slice (some ⟨gB, oB, none⟩) E.length cB, .slice (some ⟨gC, 0, none⟩) (repsN E E.length).length cC, .slice (some ⟨gO, oO, none⟩) E.length cO, .int .i64 (primeN E d : Nat)]] W fun e w' => ∃ v', e = .returned v' ∧ RowsF (fun _ => True) 0 w' v' T ∧ Below W.heap.size W w' from
    fun W hb => by
      have := RTable_any _ W h h24 (hg0.below hb) hq1 hq2 (by rw [hT]; exact hfew)
      rw [hT] at this
      exact this)
  have PR := Lib.hid (show ∀ (vt : Value) (t : List Nat) (W : World), Below w.heap.size w W → t ∈ T → Ints W vt (toI t) → Calls Tryz.prog 34 #[.agg #[.slice (some ⟨gL, 0, none⟩) E.length cL, .slice (some ⟨gT, 0, none⟩) E.length cT, .slice (some ⟨gB, oB, none⟩) E.length cB, .slice (some ⟨gC, 0, none⟩) (repsN E E.length).length cC, .slice (some ⟨gO, oO, none⟩) E.length cO, .int .i64 (primeN E d : Nat)], vt, vf] W fun e w' => e = .returned (.int .i64 (prodR (primeN E d) E.length (szE E) (backC E) (toI t) F : Nat)) ∧ Below W.heap.size W w' from
    fun vt t W hb ht hi => RProduct_any _ vt vf (toI t) F W h h24 (hg0.below hb) hq1 hq2 (hrow t ht) hF hi (hvf.below hb))
  obtain ⟨R, hR⟩ : ∃ R, (T.map fun t => prodR (primeN E d) E.length (szE E) (backC E) (toI t) F) = R := ⟨_, rfl⟩
  have HRL := Lib.hid (show R.length = T.length by rw [← hR, List.length_map])
  have HRT := Lib.hid (fun k (hk : k < T.length) => show toI (R.take (k + 1)) = toI (R.take k) ++ [((prodR (primeN E d) E.length (szE E) (backC E) (toI T[k]) F : Nat) : Int)] by
    have hl : k < R.length := by rw [HRL.out]; exact hk
    rw [List.take_succ_eq_append_getElem hl, toI_append]
    congr 1
    show List.map (fun n : Nat => (n : Int)) [R[k]] = _
    simp only [List.map_cons, List.map_nil, ← hR, List.getElem_map])
  rw [hR]
  obtain ⟨q, hq⟩ : ∃ q, primeN E d = q := ⟨_, rfl⟩
  rw [hq] at RT PR HRT ⊢
  obtain ⟨n, hn⟩ : ∃ n, E.length = n := ⟨_, rfl⟩
  obtain ⟨m, hmm⟩ : ∃ m, (repsN E E.length).length = m := ⟨_, rfl⟩
  rw [hmm, hn] at RT PR
  rw [hn] at HRT
  rw [hmm, hn]
  obtain ⟨af, cf, rfl, -, -, -⟩ := id hvf
  obtain ⟨tn, htn⟩ : ∃ tn, T.length = tn := ⟨_, rfl⟩
  have HTN := Lib.hid htn
  rw [htn] at hfew HRL
  clear h hg hg0 hq hn hmm hq1 hq2 hT hrow hF hvf hR htn
  unfold rgV
  go_enter Tryz.func33, Tryz.ntmps33
  have HX0 := Lib.hid (Held.new w 29 [.slice (some ⟨gL, 0, none⟩) n cL, .slice (some ⟨gT, 0, none⟩) n cT, .slice (some ⟨gB, oB, none⟩) n cB, .slice (some ⟨gC, 0, none⟩) m cC, .slice (some ⟨gO, oO, none⟩) n cO, .int .i64 (q : Nat)])
  have HB0 := Lib.hid (show Below w.heap.size w (w.alloc (.cells #[.slice (some ⟨gL, 0, none⟩) n cL, .slice (some ⟨gT, 0, none⟩) n cT, .slice (some ⟨gB, oB, none⟩) n cB, .slice (some ⟨gC, 0, none⟩) m cC, .slice (some ⟨gO, oO, none⟩) n cO, .int .i64 (q : Nat)] 29)) from (Below.refl _ _).alloc (Nat.le_refl _) _)
  go_upto_region 2 with (fail)
  obtain ⟨bx, hbx⟩ : ∃ x, w.heap.size = x := ⟨_, rfl⟩
  obtain ⟨W0, hW0⟩ : ∃ x, w.alloc (.cells #[.slice (some ⟨gL, 0, none⟩) n cL, .slice (some ⟨gT, 0, none⟩) n cT, .slice (some ⟨gB, oB, none⟩) n cB, .slice (some ⟨gC, 0, none⟩) m cC, .slice (some ⟨gO, oO, none⟩) n cO, .int .i64 (q : Nat)] 29) = x := ⟨_, rfl⟩
  rw [hbx] at HX0 ⊢
  have HX1 := Lib.hid (show Held W0 bx 29 [.slice (some ⟨gL, 0, none⟩) n cL, .slice (some ⟨gT, 0, none⟩) n cT, .slice (some ⟨gB, oB, none⟩) n cB, .slice (some ⟨gC, 0, none⟩) m cC, .slice (some ⟨gO, oO, none⟩) n cO, .int .i64 (q : Nat)] by rw [← hW0]; exact HX0.out)
  rw [hW0] at HB0 ⊢
  clear hW0 HX0
  have hw0 := HB0.out.size
  have hx0 := HX1.out.at (i := 0) rfl
  have hx1 := HX1.out.at (i := 1) rfl
  have hx2 := HX1.out.at (i := 2) rfl
  have hx3 := HX1.out.at (i := 3) rfl
  have hx4 := HX1.out.at (i := 4) rfl
  have hx5 := HX1.out.at (i := 5) rfl
  have R1 := Lib.hid (RT.out W0 HB0.out)
  go_wp2_with (first
    | ((with_reducible refine is_load 29 ?_); refine wpl_load_rg (by rfl) _ (by rfl) bx [.slice (some ⟨gL, 0, none⟩) n cL, .slice (some ⟨gT, 0, none⟩) n cT, .slice (some ⟨gB, oB, none⟩) n cB, .slice (some ⟨gC, 0, none⟩) m cC, .slice (some ⟨gO, oO, none⟩) n cO, .int .i64 (q : Nat)] rfl (by rfl) HX1.out ?_)
    | (go_at_call 16; refine R1.out.mono ?_; rintro e w1 ⟨v1, rfl, hr1, hb1⟩; have HR1 := Lib.hid hr1; have HB1 := Lib.hid (HB0.out.trans (hb1.mono hw0)); have HXW := Lib.hid (HX1.out.below hb1 HX1.out.lt); obtain ⟨a1, c1, rfl⟩ := hr1.form; rw [HTN.out] at HR1 ⊢; clear hr1 hb1))
  have hs1 := HB1.out.size
  clear hx0 hx1 hx2 hx3 hx4 hx5 hbx
  go_loopw [5, 11] (fun vo ix wr => ∃ j : Nat, j ≤ tn ∧ ix = .int .i64 j ∧ OwnI 3 w1.heap.size wr vo (toI (R.take j)) ∧ Below w1.heap.size w1 wr) (fun _ ix _ => tn - (intOf ix).toNat)
  case atStart => exact ⟨0, Nat.zero_le _, rfl, OwnI.nil _ _ _, Below.refl _ _⟩
  case round =>
    obtain ⟨j, hj, rfl, ho, hbj⟩ := hrel
    have HO := Lib.hid ho
    have HBJ := Lib.hid hbj
    have hszj := hbj.size
    obtain ⟨ao, no, co, rfl⟩ := own_form ho
    by_cases hjl : j < tn
    · have hji : (j : Int) < (tn : Int) := by omega
      have hjT : j < T.length := by rw [HTN.out]; exact hjl
      obtain ⟨b1, cc, u, e1, -, hb1, hcu, hu⟩ := (HR1.out.below hbj).at j hjT
      obtain rfl : a1 = some ⟨b1, 0, none⟩ := (Value.slice.inj e1).1
      have HT := Lib.hid (HRT.out j hjT)
      have P1 := Lib.hid (PR.out u T[j] wr (HB1.out.trans (hbj.mono hs1)) (List.getElem_mem hjT) hu.ints)
      obtain ⟨t, ht⟩ : ∃ t, T[j] = t := ⟨_, rfl⟩
      rw [ht] at hu HT P1
      obtain ⟨au, cu, rfl, -, -, -⟩ := hu
      obtain ⟨tl, htl⟩ : ∃ x, (toI t).length = x := ⟨_, rfl⟩
      rw [htl] at P1 hcu
      obtain ⟨pr, hpr⟩ : ∃ x, prodR q n (szE E) (backC E) (toI t) F = x := ⟨_, rfl⟩
      rw [hpr] at P1 HT
      have HLT := Lib.hid (show (toI (R.take j)).length < 1000000 by rw [toI_length, List.length_take]; omega)
      have hxw := HXW.out.below hbj HXW.out.lt
      have hx0 := hxw.at (i := 0) rfl
      have hx1 := hxw.at (i := 1) rfl
      have hx2 := hxw.at (i := 2) rfl
      have hx3 := hxw.at (i := 3) rfl
      have hx4 := hxw.at (i := 4) rfl
      have hx5 := hxw.at (i := 5) rfl
      clear ho hbj e1 hjT ht htl hpr
      go_wp2_with (first
        | ((with_reducible refine is_load 29 ?_); refine wpl_load_rg (by rfl) _ (by rfl) bx [.slice (some ⟨gL, 0, none⟩) n cL, .slice (some ⟨gT, 0, none⟩) n cT, .slice (some ⟨gB, oB, none⟩) n cB, .slice (some ⟨gC, 0, none⟩) m cC, .slice (some ⟨gO, oO, none⟩) n cO, .int .i64 (q : Nat)] rfl (by rfl) hxw ?_)
        | (go_at_call 34; refine P1.out.mono ?_; rintro e w4 ⟨rfl, hb4⟩; have HB4 := Lib.hid hb4; clear hb4)
        | (at_builtin; refine wpList_app1_at rfl _ _ rfl w1.heap.size _ (toI (R.take j)) ((pr : Nat) : Int) rfl ((HO.out.below HB4.out).alloc _) ⟨_, 0, none⟩ 1 rfl (cell_new1 _ _ _) HLT.out (by have := HB4.out.size; simp; omega) ?_; intro v5 w5 ho5 hg5 hl5; have HO5 := Lib.hid ho5; have HB5 := Lib.hid (((HBJ.out.trans (HB4.out.mono hszj)).alloc (by have := HB4.out.size; omega) _).grown hg5 (by have := HB4.out.size; simp; omega) (fun j hj => (HO.out.lt j hj).1)); clear ho5 hg5 hl5))
      go_roundw
      case rel => exact ⟨j + 1, hjl, by go_num, by rw [HT.out]; exact HO5.out, HB5.out⟩
      case measure => simp [intOf]; omega
    · obtain rfl : j = tn := by omega
      have hji : ¬ (j : Int) < (j : Int) := by omega
      clear ho hbj
      go_wp2
      go_ret
      have h0 := HO.out
      rw [List.take_of_length_le (by rw [HRL.out]; exact Nat.le_refl _)] at h0
      exact ⟨_, rfl, OwnI.mono h0 hs1, HB1.out.trans (HBJ.out.mono hs1)⟩
end Go.Proofs.YtdackakjcnnofaaGreat
