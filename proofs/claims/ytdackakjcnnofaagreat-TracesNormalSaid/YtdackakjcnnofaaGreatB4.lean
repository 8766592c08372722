/- Z8 Z9 of the seat's texts, in this order. -/
import Derived.Test.YtdackakjcnnofaaGreatB6

/- The reference's search, whole. -/
namespace Go.Proofs.YtdackakjcnnofaaGreat
open Go.RowKit
attribute [local go_sem] Oper.semAt_some

/-- A slice of rows in memory that stays. -/
def AllR (bo : Nat) (w : World) (va : Value) (A : List (List Nat)) : Prop := RowsF (fun k => k ≠ bo) 0 w va A ∧ ∀ k, va.ownBlock = some k → k ≠ bo
theorem AllR.kept {bo : Nat} {w w' : World} {va : Value} {A : List (List Nat)} (h : AllR bo w va A) (hs : Sm (fun k => k ≠ bo) w w') : AllR bo w' va A := ⟨h.1.kept hs (fun _ hk => hk) h.2, h.2⟩
theorem foldl_rows {q nE : Nat} {sz bk : List Nat} {ks : List (List (List Int))} {m : Nat} (hm : sz.length = m) : ∀ (l : List (List Nat)) (L : List (List Nat)), (∀ b ∈ l, b.length = m) → (∀ r ∈ L, r.length = m) → ∀ r ∈ l.foldl (addR q nE sz bk ks) L, r.length = m
  | [], _, _, h => h
  | b :: l, L, hl, h => foldl_rows hm l _ (fun x hx => hl x (List.mem_cons_of_mem _ hx)) (addR_rows (by rw [hl b List.mem_cons_self, hm]) hm h)
theorem choR_len : ∀ (A : List (List Nat)), ∀ b ∈ choR A, b.length = A.length
  | [], b, hb => by
    obtain rfl := List.mem_singleton.1 hb
    rfl
  | l :: A, b, hb => by
    unfold choR at hb
    obtain ⟨x, _, hx⟩ := List.mem_flatMap.1 hb
    obtain ⟨c, hc, rfl⟩ := List.mem_map.1 hx
    rw [List.length_cons, choR_len A c hc, List.length_cons]
theorem chs_len {A : List (List Nat)} {b : List Nat} (h : b.length ≤ A.length) : ∀ c ∈ chs A b, c.length = A.length := by
  intro c hc
  unfold chs at hc
  obtain ⟨x, hx, rfl⟩ := List.mem_map.1 hc
  rw [List.length_append, choR_len _ x hx, List.length_drop]; omega
/-- What the going-on region has made. -/
structure AppM (w0 : World) (xs : List Int) (x : Int) (dB dP : Bool) (yB yP : Value) (w : World) : Prop where
  low : Below w0.heap.size w0 w
  b : dB = true → dP = false → ∃ g, yB = .slice (some ⟨g, 0, none⟩) 1 1 ∧ w.cell? ⟨g, 0, none⟩ = some (.int .i64 x) ∧ g < w.heap.size
  p : dP = true → OwnI 3 w0.heap.size w yP (xs ++ [x])
def SrF (bo : Nat) (wD : World) (L2 : List (List Nat)) (w : World) : Prop := ∃ v2, Held w bo 22 [v2] ∧ OutI bo w v2 L2 ∧ Sm (fun k => k ≠ bo) wD w
set_option maxRecDepth 100000 in
set_option maxHeartbeats 8000000 in
theorem search_any {d : Nat} {E A : List (List Nat)} {bo : Nat} (gv va : Value) (Wg : World) (h : Grp d E) (h24 : E.length ≤ 24) (hg : RGI d E Wg gv) (hbo : Wg.heap.size ≤ bo) (hq1 : 0 < primeN E d) (hq2 : primeN E d < 62)
    (hA : A.length = (repsN E E.length).length) (hAq : ∀ l ∈ A, l.length ≤ 62 ∧ ∀ x ∈ l, x < 62) : ∀ (t : Nat) (vb vo : Value) (b : List Nat) (L : List (List Nat)) (w : World), b.length + t = (repsN E E.length).length → Below Wg.heap.size Wg w → AllR bo w va A → (∀ x ∈ b, x < 62) → Fz (fun k => k ≠ bo) w vb (toI b) → Held w bo 22 [vo] → OutI bo w vo L → (∀ r ∈ L, r.length = (repsN E E.length).length) →
      ((chs A b).foldl (addR (primeN E d) E.length (szE E) (backC E) (ksE E)) L).length ≤ 1000 →
      Calls Tryz.prog 49 #[gv, va, vb, .pointer (some ⟨bo, 0, none⟩)] w fun e w' => e = .returned (.tuple #[]) ∧ ∃ vo', Held w' bo 22 [vo'] ∧ OutI bo w' vo' ((chs A b).foldl (addR (primeN E d) E.length (szE E) (backC E) (ksE E)) L) ∧ Sm (fun k => k ≠ bo) w w'
  | 0, vb, vo, b, L, w, hbt, hWg, hva, hbq, hbi, hbox, ho, hlr, hfew => by
    have hbl : b.length = (repsN E E.length).length := by omega
    rw [chs_leaf (by rw [hA]; exact hbl)] at hfew ⊢
    exact search_leaf gv va vb vo b L Wg w h h24 hg hWg hbo hq1 hq2 hbl hbq hbi hbox ho hlr hfew
  | t + 1, vb, vo, b, L, w, hbt, hWg, hva, hbq, hbi, hbox, ho, hlr, hfew => by
    have IH := Lib.hid (search_any (A := A) gv va Wg h h24 hg hbo hq1 hq2 hA hAq t)
    obtain ⟨gL, gT, gB, oB, gC, gO, oO, cL, cT, cB, cC, cO, rfl, -⟩ := hg.open h
    have hbA : b.length < A.length := by omega
    have HST := Lib.hid (chs_step hbA)
    have HAQ := Lib.hid (hAq _ (List.getElem_mem hbA))
    have HSZL := Lib.hid (szE_length (E := E))
    have HCH := Lib.hid (fun (x : Nat) => chs_len (A := A) (b := b ++ [x]) (by rw [List.length_append]; simp; omega))
    have HTK := Lib.hid (fun (k : Nat) (hk : k < (A[b.length]).length) => chs_take (A := A) (b := b) (A[b.length]) hk)
    obtain ⟨gA, cA, uA, eA, -, hgA, hcA, hfA⟩ := hva.1.at b.length hbA
    subst eA
    obtain ⟨l, hl⟩ : ∃ l, A[b.length] = l := ⟨_, rfl⟩
    rw [hl] at HST HAQ HTK hfA
    have hgAb : gA ≠ bo := hva.2 gA rfl
    have hll := HAQ.out.1
    obtain ⟨aU, cU, rfl, -, -, -⟩ := id hfA
    rw [toI_length] at hcA hfA
    obtain ⟨ab, cb, rfl, -, hjcb, -⟩ := id hbi
    rw [toI_length] at hbi hjcb ⊢
    have HBI := Lib.hid hbi
    have HFA := Lib.hid hfA
    have HVA := Lib.hid hva
    have HWG := Lib.hid hWg
    have HBX := Lib.hid hbox
    have HOUT := Lib.hid ho
    have HLR := Lib.hid hlr
    have HBQ := Lib.hid hbq
    have HFEW := Lib.hid hfew
    have HBO := Lib.hid hbo
    have HAL := Lib.hid hA
    have hbl := hbox.lt
    have hwsz := hWg.size
    have hml := reps_len (E := E) E.length
    obtain ⟨q, hq⟩ : ∃ q, primeN E d = q := ⟨_, rfl⟩
    rw [hq] at IH HFEW ⊢
    obtain ⟨n, hn⟩ : ∃ n, E.length = n := ⟨_, rfl⟩
    obtain ⟨m, hmm⟩ : ∃ m, (repsN E E.length).length = m := ⟨_, rfl⟩
    rw [hmm] at HAL HLR HSZL hml
    simp only [rgV] at IH
    rw [hmm, hn] at IH
    rw [hn] at HFEW hml
    rw [hmm] at hbt
    rw [HAL.out] at IH HVA hbA ⊢
    have hn24 : n ≤ 24 := by omega
    obtain ⟨j, hj⟩ : ∃ j, b.length = j := ⟨_, rfl⟩
    have HJ := Lib.hid hj
    rw [hj] at hbt hbA hcA HBI hjcb ⊢
    rw [hmm, hn]
    have hjm : (j : Int) < (m : Int) := by omega
    have hj0 : (0 : Int) ≤ (j : Int) := by omega
    obtain ⟨z, hz⟩ : ∃ z, l.length = z := ⟨_, rfl⟩
    have HZ := Lib.hid hz
    rw [hz] at hcA hll HFA
    clear h h24 hg hbo hq1 hq2 hA hAq hWg hva hbq hbi hbox ho hlr hfew hfA hl hq hn hmm hj hz
    unfold rgV
    go_enter Tryz.func49, Tryz.ntmps49
    have HX0 := Lib.hid (Held.new w 29 [.slice (some ⟨gL, 0, none⟩) n cL, .slice (some ⟨gT, 0, none⟩) n cT, .slice (some ⟨gB, oB, none⟩) n cB, .slice (some ⟨gC, 0, none⟩) m cC, .slice (some ⟨gO, oO, none⟩) n cO, .int .i64 (q : Nat)])
    have HB0 := Lib.hid (show Below w.heap.size w (w.alloc (.cells #[.slice (some ⟨gL, 0, none⟩) n cL, .slice (some ⟨gT, 0, none⟩) n cT, .slice (some ⟨gB, oB, none⟩) n cB, .slice (some ⟨gC, 0, none⟩) m cC, .slice (some ⟨gO, oO, none⟩) n cO, .int .i64 (q : Nat)] 29)) from (Below.refl _ _).alloc (Nat.le_refl _) _)
    go_upto_region 1 with (fail)
    obtain ⟨bx, hbx⟩ : ∃ x, w.heap.size = x := ⟨_, rfl⟩
    obtain ⟨W0, hW0⟩ : ∃ x, w.alloc (.cells #[.slice (some ⟨gL, 0, none⟩) n cL, .slice (some ⟨gT, 0, none⟩) n cT, .slice (some ⟨gB, oB, none⟩) n cB, .slice (some ⟨gC, 0, none⟩) m cC, .slice (some ⟨gO, oO, none⟩) n cO, .int .i64 (q : Nat)] 29) = x := ⟨_, rfl⟩
    rw [hbx] at HX0 hbl ⊢
    have HX1 := Lib.hid (show Held W0 bx 29 [.slice (some ⟨gL, 0, none⟩) n cL, .slice (some ⟨gT, 0, none⟩) n cT, .slice (some ⟨gB, oB, none⟩) n cB, .slice (some ⟨gC, 0, none⟩) m cC, .slice (some ⟨gO, oO, none⟩) n cO, .int .i64 (q : Nat)] by rw [← hW0]; exact HX0.out)
    rw [hW0] at HB0 ⊢
    clear hW0 HX0 hbx
    have HWG0 := Lib.hid (HWG.out.trans (HB0.out.mono hwsz))
    have HBX0 := Lib.hid (HBX.out.below HB0.out HBX.out.lt)
    have HOUT0 := Lib.hid (HOUT.out.kept (Sm.of_below HB0.out))
    have HVA0 := Lib.hid (HVA.out.kept (Sm.of_below HB0.out))
    have HBI0 := Lib.hid (HBI.out.kept (Sm.of_below HB0.out))
    have HFA0 := Lib.hid (HFA.out.kept (Sm.of_below HB0.out))
    have hw0 := HB0.out.size
    have hx3 := HX1.out.at (i := 3) rfl
    have hcA0 : W0.cell? ⟨gA, j, none⟩ = some (.slice aU z cU) := (HB0.out.cell (p := ⟨gA, j, none⟩) hgA).trans hcA
    go_wp2_with fail
    go_loopw [34] (fun ix wr => ∃ (k : Nat) (vo' : Value), k ≤ z ∧ ix = .int .i64 k ∧ Held wr bo 22 [vo'] ∧ OutI bo wr vo' (((l.take k).flatMap fun x => chs A (b ++ [x])).foldl (addR q n (szE E) (backC E) (ksE E)) L) ∧ Sm (fun k => k ≠ bo) W0 wr) (fun ix _ => z - (intOf ix).toNat)
    case atStart => exact ⟨0, vo, Nat.zero_le _, rfl, HBX0.out, HOUT0.out, Sm.refl _ _⟩
    case round =>
      obtain ⟨k, vo', hk, rfl, hbx', ho', hsm⟩ := hrel
      obtain ⟨wD, rfl⟩ : ∃ x, x = wr := ⟨_, rfl⟩
      have HBXD := Lib.hid hbx'
      have HOD := Lib.hid ho'
      have HSM := Lib.hid hsm
      have HWD := Lib.hid (hsm.below HWG0.out HBO.out HWG0.out.size)
      have HXD := Lib.hid (HX1.out.sm hsm (by omega))
      have HVAD := Lib.hid (HVA0.out.kept hsm)
      have HBID := Lib.hid (HBI0.out.kept hsm)
      have HFAD := Lib.hid (HFA0.out.kept hsm)
      have hleD := hsm.size
      clear hbx' ho' hsm
      by_cases hkl : k < z
      · have hki : (k : Int) < (z : Int) := by omega
        have hkl2 : k < l.length := by rw [HZ.out]; exact hkl
        obtain ⟨bU, oU, cU', eU, -, hcx⟩ := Ints.atN HFAD.out.ints hkl2
        obtain ⟨rfl, -, -⟩ := Value.slice.inj eU
        have HT2 := Lib.hid (HTK.out k hkl2)
        have hxl := HAQ.out.2 _ (List.getElem_mem hkl2)
        obtain ⟨x, hx⟩ : ∃ x, l[k] = x := ⟨_, rfl⟩
        rw [hx] at hcx HT2 hxl
        obtain ⟨Lk, hLk⟩ : ∃ Lk, ((l.take k).flatMap fun x => chs A (b ++ [x])).foldl (addR q n (szE E) (backC E) (ksE E)) L = Lk := ⟨_, rfl⟩
        have HLK := Lib.hid hLk
        rw [hLk] at HOD
        have HNX := Lib.hid (show ((l.take (k + 1)).flatMap fun x => chs A (b ++ [x])).foldl (addR q n (szE E) (backC E) (ksE E)) L = (chs A (b ++ [x])).foldl (addR q n (szE E) (backC E) (ksE E)) Lk by
          rw [HT2.out, List.foldl_append, HLK.out])
        have HFW := Lib.hid (show ((chs A (b ++ [x])).foldl (addR q n (szE E) (backC E) (ksE E)) Lk).length ≤ 1000 by
          rw [← HNX.out]
          refine Nat.le_trans ?_ HFEW.out
          rw [HST.out]
          conv => rhs; rw [← List.take_append_drop (k + 1) l, List.flatMap_append, List.foldl_append]
          exact addR_fold _ _)
        have HRW := Lib.hid (show ∀ r ∈ Lk, r.length = m by
          rw [← HLK.out]
          refine foldl_rows HSZL.out _ L (fun c hc => ?_) HLR.out
          obtain ⟨y, _, hy⟩ := List.mem_flatMap.1 hc
          rw [HCH.out y c hy, HAL.out])
        have HBX2 := Lib.hid (show ∀ y ∈ b ++ [x], y < 62 from fun y hy => by
          rcases List.mem_append.1 hy with hy | hy
          · exact HBQ.out y hy
          · obtain rfl := List.mem_singleton.1 hy; exact hxl)
        have HLX := Lib.hid (show (b ++ [x]).length + t = m by rw [List.length_append, HJ.out]; simp; omega)
        have HGE := Lib.hid (show bo < wD.heap.size from HBXD.out.lt)
        have hlenj : (toI b).length = j := by rw [toI_length]; exact HJ.out
        have HLB := Lib.hid hlenj
        clear hkl2 eU hx hLk hlenj
        have hjcb1 : ¬ cb < j := by omega
        have hjcb2 : (j : Int) ≤ (cb : Int) := by omega
        go_upto_region 6 with (fail)
        refine wp_region_mem (by kernel_rfl) [38, 39, 40, 41, 42, 43, 44, 45, 46, 47, 48, 49, 50] (by kernel_rfl) (by kernel_rfl) (fun i => match i with | 0 => some (.agg #[.slice (some ⟨gL, 0, none⟩) n cL, .slice (some ⟨gT, 0, none⟩) n cT, .slice (some ⟨gB, oB, none⟩) n cB, .slice (some ⟨gC, 0, none⟩) m cC, .slice (some ⟨gO, oO, none⟩) n cO, .int .i64 (q : Nat)]) | 1 => some (.slice (some ⟨gA, 0, none⟩) m cA) | 2 => some (.slice ab j cb) | 3 => some (.slice ab j cb) | 4 => some (.int .i64 (j : Nat)) | 5 => some (.slice ab j cb) | 6 => some (.int .i64 (j : Nat)) | 7 => some (.slice ab j j) | 8 => some (.int .i64 (x : Nat)) | 11 => some (.pointer (some ⟨bo, 0, none⟩)) | _ => none) (fun d y w => (d 12 = false → AppM wD (toI b) (x : Int) (d 9) (d 10) (y 47) (y 48) w) ∧ (d 12 = true → SrF bo wD ((chs A (b ++ [x])).foldl (addR q n (szE E) (backC E) (ksE E)) Lk) w)) ?_ ?_ ?_ ?_ ?_
        · exact ⟨fun _ => ⟨(Below.refl _ _).drew, fun h => (by cases h), fun h => (by cases h)⟩, fun h => (by cases h)⟩
        · intro i o v ho hv d y wx hdi hcl hd hcst hM
          match i, ho, hv, hdi with
          | 0, ho, hv, hdi =>
            obtain rfl := Option.some.inj ho
            obtain rfl : .agg #[.slice (some ⟨gL, 0, none⟩) n cL, .slice (some ⟨gT, 0, none⟩) n cT, .slice (some ⟨gB, oB, none⟩) n cB, .slice (some ⟨gC, 0, none⟩) m cC, .slice (some ⟨gO, oO, none⟩) n cO, .int .i64 (q : Nat)] = v := Option.some.inj hv
            have n12 : d 12 = false := Bool.eq_false_iff.2 fun h => by have h2 := hcl 12 0 (by kernel_rfl) h; rw [hdi] at h2; cases h2
            have hxF := HXD.out.below (hM.1 n12).low HXD.out.lt
            have c0 := hxF.at (i := 0) rfl
            have c1 := hxF.at (i := 1) rfl
            have c2 := hxF.at (i := 2) rfl
            have c3 := hxF.at (i := 3) rfl
            have c4 := hxF.at (i := 4) rfl
            have c5 := hxF.at (i := 5) rfl
            refine rstep_value rfl (v := .agg #[.slice (some ⟨gL, 0, none⟩) n cL, .slice (some ⟨gT, 0, none⟩) n cT, .slice (some ⟨gB, oB, none⟩) n cB, .slice (some ⟨gC, 0, none⟩) m cC, .slice (some ⟨gO, oO, none⟩) n cO, .int .i64 (q : Nat)]) (w' := wx) ?_ ⟨rfl, rfl⟩
            · simp only [hole, List.foldl_cons, List.foldl_nil, List.setIfInBounds_toArray, List.set_cons_zero, List.set_cons_succ]
              go_simp
          | 1, ho, hv, _ =>
            obtain rfl := Option.some.inj ho
            obtain rfl : .slice (some ⟨gA, 0, none⟩) m cA = v := Option.some.inj hv
            refine rstep_value rfl (v := .slice (some ⟨gA, 0, none⟩) m cA) (w' := wx) ?_ ⟨rfl, rfl⟩
            · simp only [hole, List.foldl_cons, List.foldl_nil, List.setIfInBounds_toArray, List.set_cons_zero, List.set_cons_succ]
              go_simp
          | 2, ho, hv, _ =>
            obtain rfl := Option.some.inj ho
            obtain rfl : .slice ab j cb = v := Option.some.inj hv
            refine rstep_value rfl (v := .slice ab j cb) (w' := wx) ?_ ⟨rfl, rfl⟩
            · simp only [hole, List.foldl_cons, List.foldl_nil, List.setIfInBounds_toArray, List.set_cons_zero, List.set_cons_succ]
              go_simp
          | 3, ho, hv, _ =>
            obtain rfl := Option.some.inj ho
            obtain rfl : .slice ab j cb = v := Option.some.inj hv
            refine rstep_value rfl (v := .slice ab j cb) (w' := wx) ?_ ⟨rfl, rfl⟩
            · simp only [hole, List.foldl_cons, List.foldl_nil, List.setIfInBounds_toArray, List.set_cons_zero, List.set_cons_succ]
              go_simp
          | 4, ho, hv, _ =>
            obtain rfl := Option.some.inj ho
            obtain rfl : .int .i64 (j : Nat) = v := Option.some.inj hv
            have e41 : y 41 = .slice ab j cb := hcst 3 _ _ (by kernel_rfl) rfl rfl
            refine rstep_value rfl (v := .int .i64 (j : Nat)) (w' := wx) ?_ ⟨rfl, rfl⟩
            · simp only [hole, List.foldl_cons, List.foldl_nil, List.setIfInBounds_toArray, List.set_cons_zero, List.set_cons_succ]
              go_simp
          | 5, ho, hv, _ =>
            obtain rfl := Option.some.inj ho
            obtain rfl : .slice ab j cb = v := Option.some.inj hv
            refine rstep_value rfl (v := .slice ab j cb) (w' := wx) ?_ ⟨rfl, rfl⟩
            · simp only [hole, List.foldl_cons, List.foldl_nil, List.setIfInBounds_toArray, List.set_cons_zero, List.set_cons_succ]
              go_simp
          | 6, ho, hv, _ =>
            obtain rfl := Option.some.inj ho
            obtain rfl : .int .i64 (j : Nat) = v := Option.some.inj hv
            have e43 : y 43 = .slice ab j cb := hcst 5 _ _ (by kernel_rfl) rfl rfl
            refine rstep_value rfl (v := .int .i64 (j : Nat)) (w' := wx) ?_ ⟨rfl, rfl⟩
            · simp only [hole, List.foldl_cons, List.foldl_nil, List.setIfInBounds_toArray, List.set_cons_zero, List.set_cons_succ]
              go_simp
          | 7, ho, hv, _ =>
            obtain rfl := Option.some.inj ho
            obtain rfl : .slice ab j j = v := Option.some.inj hv
            have e40 : y 40 = .slice ab j cb := hcst 2 _ _ (by kernel_rfl) rfl rfl
            have e42 : y 42 = .int .i64 (j : Nat) := hcst 4 _ _ (by kernel_rfl) rfl rfl
            have e44 : y 44 = .int .i64 (j : Nat) := hcst 6 _ _ (by kernel_rfl) rfl rfl
            refine rstep_value rfl (v := .slice ab j j) (w' := wx) ?_ ⟨rfl, rfl⟩
            · simp only [hole, List.foldl_cons, List.foldl_nil, List.setIfInBounds_toArray, List.set_cons_zero, List.set_cons_succ]
              cases ab <;> go_simp
          | 8, ho, hv, _ =>
            obtain rfl := Option.some.inj ho
            obtain rfl : .int .i64 (x : Nat) = v := Option.some.inj hv
            refine rstep_value rfl (v := .int .i64 (x : Nat)) (w' := wx) ?_ ⟨rfl, rfl⟩
            · simp only [hole, List.foldl_cons, List.foldl_nil, List.setIfInBounds_toArray, List.set_cons_zero, List.set_cons_succ]
              go_simp
          | 9, _, hv, _ => exact absurd hv (by simp)
          | 10, _, hv, _ => exact absurd hv (by simp)
          | 11, ho, hv, _ =>
            obtain rfl := Option.some.inj ho
            obtain rfl : .pointer (some ⟨bo, 0, none⟩) = v := Option.some.inj hv
            refine rstep_value rfl (v := .pointer (some ⟨bo, 0, none⟩)) (w' := wx) ?_ ⟨rfl, rfl⟩
            · simp only [hole, List.foldl_cons, List.foldl_nil, List.setIfInBounds_toArray, List.set_cons_zero, List.set_cons_succ]
              go_simp
          | 12, _, hv, _ => exact absurd hv (by simp)
          | _ + 13, ho, _, _ => exact absurd ho (by simp)
        · intro i o v ho hv d y wx hM
          match i, ho, hv with
          | 0, ho, _ =>
            obtain rfl := Option.some.inj ho
            exact hM
          | 1, ho, _ =>
            obtain rfl := Option.some.inj ho
            exact hM
          | 2, ho, _ =>
            obtain rfl := Option.some.inj ho
            exact hM
          | 3, ho, _ =>
            obtain rfl := Option.some.inj ho
            exact hM
          | 4, ho, _ =>
            obtain rfl := Option.some.inj ho
            exact hM
          | 5, ho, _ =>
            obtain rfl := Option.some.inj ho
            exact hM
          | 6, ho, _ =>
            obtain rfl := Option.some.inj ho
            exact hM
          | 7, ho, _ =>
            obtain rfl := Option.some.inj ho
            exact hM
          | 8, ho, _ =>
            obtain rfl := Option.some.inj ho
            exact hM
          | 9, _, hv => exact absurd hv (by simp)
          | 10, _, hv => exact absurd hv (by simp)
          | 11, ho, _ =>
            obtain rfl := Option.some.inj ho
            exact hM
          | 12, _, hv => exact absurd hv (by simp)
          | _ + 13, ho, _ => exact absurd ho (by simp)
        · intro i o ho hv d y wx hdi hcl hd hcst hM
          match i, ho, hv, hdi with
          | 0, _, hv, _ => exact absurd hv (by simp)
          | 1, _, hv, _ => exact absurd hv (by simp)
          | 2, _, hv, _ => exact absurd hv (by simp)
          | 3, _, hv, _ => exact absurd hv (by simp)
          | 4, _, hv, _ => exact absurd hv (by simp)
          | 5, _, hv, _ => exact absurd hv (by simp)
          | 6, _, hv, _ => exact absurd hv (by simp)
          | 7, _, hv, _ => exact absurd hv (by simp)
          | 8, _, hv, _ => exact absurd hv (by simp)
          | 9, ho, _, hdi =>
            obtain rfl := Option.some.inj ho
            have e46 : y 46 = .int .i64 (x : Nat) := hcst 8 _ _ (by kernel_rfl) rfl rfl
            have n10 : d 10 = false := Bool.eq_false_iff.2 fun h => by have h2 := hcl 10 9 (by kernel_rfl) h; rw [hdi] at h2; cases h2
            have n12 : d 12 = false := Bool.eq_false_iff.2 fun h => by have h2 := hcl 12 10 (by kernel_rfl) h; rw [n10] at h2; cases h2
            have hm := hM.1 n12
            refine rstep_value rfl (v := .slice (some ⟨wx.heap.size, 0, none⟩) 1 1) (w' := wx.alloc (.cells #[.int .i64 (x : Nat)] 3)) ?_ ⟨fun _ => ⟨hm.low.alloc hm.low.size _, fun _ _ => ⟨_, rfl, cell_new1 _ _ _, by simp⟩, fun h => absurd (show d 10 = true from h) (by rw [n10]; simp)⟩, fun h => absurd (show d 12 = true from h) (by rw [n12]; simp)⟩
            · simp only [hole, List.foldl_cons, List.foldl_nil, List.setIfInBounds_toArray, List.set_cons_zero, List.set_cons_succ]
              go_simp
          | 10, ho, _, hdi =>
            obtain rfl := Option.some.inj ho
            have e45 : y 45 = .slice ab j j := hcst 7 _ _ (by kernel_rfl) rfl rfl
            have d9 : d 9 = true := hd 9 (by kernel_rfl)
            have n12 : d 12 = false := Bool.eq_false_iff.2 fun h => by have h2 := hcl 12 10 (by kernel_rfl) h; rw [hdi] at h2; cases h2
            have hm := hM.1 n12
            obtain ⟨g, e47, hcg, hgl⟩ := hm.b d9 hdi
            obtain ⟨v', w', hrun, ho', hb'⟩ := run_app_cut (ty := 27) (a := ab) (c' := cb) (xs := toI b) (by rw [HLB.out]; exact (HBID.out.kept (Sm.of_below hm.low)).ints) (ad := ⟨g, 0, none⟩) (c := 1) hcg (by rw [HLB.out]; omega)
            rw [HLB.out] at hrun
            refine rstep_value rfl (v := v') (w' := w') ?_ ⟨fun _ => ⟨hm.low.trans (hb'.mono hm.low.size), fun _ h => absurd h (by simp), fun _ => OwnI.mono ho' hm.low.size⟩, fun h => absurd (show d 12 = true from h) (by rw [n12]; simp)⟩
            · simp only [hole, List.foldl_cons, List.foldl_nil, List.setIfInBounds_toArray, List.set_cons_zero, List.set_cons_succ]
              simp [execOp, resolve, invoke, builtin, Act.eval, e45, e47, Result.andThen]
              rw [hrun]
          | 11, _, hv, _ => exact absurd hv (by simp)
          | 12, ho, _, hdi =>
            obtain rfl := Option.some.inj ho
            have e38 : y 38 = .agg #[.slice (some ⟨gL, 0, none⟩) n cL, .slice (some ⟨gT, 0, none⟩) n cT, .slice (some ⟨gB, oB, none⟩) n cB, .slice (some ⟨gC, 0, none⟩) m cC, .slice (some ⟨gO, oO, none⟩) n cO, .int .i64 (q : Nat)] := hcst 0 _ _ (by kernel_rfl) rfl rfl
            have e39 : y 39 = .slice (some ⟨gA, 0, none⟩) m cA := hcst 1 _ _ (by kernel_rfl) rfl rfl
            have e49 : y 49 = .pointer (some ⟨bo, 0, none⟩) := hcst 11 _ _ (by kernel_rfl) rfl rfl
            have d10 : d 10 = true := hd 10 (by kernel_rfl)
            have hm := hM.1 hdi
            have hp := hm.p d10
            have hge := HGE.out
            have hfz : Fz (fun k => k ≠ bo) wx (y 48) (toI (b ++ [x])) := OwnI.fz (by rw [toI_append]; exact hp) (by rw [toI_length, List.length_append, HJ.out]; simp; omega) (fun k hk => by have h1 := (World.ownsRow.lt hp k hk).1; omega)
            have hsx : Sm (fun k => k ≠ bo) wD wx := Sm.of_below hm.low
            refine rstep_call rfl (f := 49) (args := #[.agg #[.slice (some ⟨gL, 0, none⟩) n cL, .slice (some ⟨gT, 0, none⟩) n cT, .slice (some ⟨gB, oB, none⟩) n cB, .slice (some ⟨gC, 0, none⟩) m cC, .slice (some ⟨gO, oO, none⟩) n cO, .int .i64 (q : Nat)], .slice (some ⟨gA, 0, none⟩) m cA, y 48, .pointer (some ⟨bo, 0, none⟩)]) (w' := wx) ?_ (IH.out (y 48) vo' (b ++ [x]) Lk wx HLX.out (HWD.out.trans (hm.low.mono HWD.out.size)) (HVAD.out.kept hsx) HBX2.out hfz (HBXD.out.below hm.low HBXD.out.lt) (HOD.out.kept hsx) HRW.out HFW.out) ?_
            · simp only [hole, List.foldl_cons, List.foldl_nil, List.setIfInBounds_toArray, List.set_cons_zero, List.set_cons_succ]
              obtain ⟨a48, c48, e48⟩ := OwnI.form hp
              rw [e38, e39, e48, e49]
              go_simp
            · rintro e w2 ⟨rfl, v2, h1, h2, h3⟩
              exact ⟨_, rfl, fun h => absurd (show (true || d 12) = false from h) (by simp), fun _ => ⟨v2, h1, h2, hsx.trans h3⟩⟩
          | _ + 13, ho, _, _ => exact absurd ho (by simp)
        · intro d y wx hd hcst hM
          have e38 : y 38 = .agg #[.slice (some ⟨gL, 0, none⟩) n cL, .slice (some ⟨gT, 0, none⟩) n cT, .slice (some ⟨gB, oB, none⟩) n cB, .slice (some ⟨gC, 0, none⟩) m cC, .slice (some ⟨gO, oO, none⟩) n cO, .int .i64 (q : Nat)] := hcst 0 _ _ (by decide) rfl rfl
          have e39 : y 39 = .slice (some ⟨gA, 0, none⟩) m cA := hcst 1 _ _ (by decide) rfl rfl
          have e40 : y 40 = .slice ab j cb := hcst 2 _ _ (by decide) rfl rfl
          have e41 : y 41 = .slice ab j cb := hcst 3 _ _ (by decide) rfl rfl
          have e42 : y 42 = .int .i64 (j : Nat) := hcst 4 _ _ (by decide) rfl rfl
          have e43 : y 43 = .slice ab j cb := hcst 5 _ _ (by decide) rfl rfl
          have e44 : y 44 = .int .i64 (j : Nat) := hcst 6 _ _ (by decide) rfl rfl
          have e45 : y 45 = .slice ab j j := hcst 7 _ _ (by decide) rfl rfl
          have e46 : y 46 = .int .i64 (x : Nat) := hcst 8 _ _ (by decide) rfl rfl
          have d9 : d 9 = true := hd 9 (by decide)
          have d10 : d 10 = true := hd 10 (by decide)
          have e49 : y 49 = .pointer (some ⟨bo, 0, none⟩) := hcst 11 _ _ (by decide) rfl rfl
          have d12 : d 12 = true := hd 12 (by decide)
          obtain ⟨v2, h1, h2, h3⟩ := hM.2 d12
          have HB2 := Lib.hid h1
          have HO2 := Lib.hid h2
          have HS2 := Lib.hid (HSM.out.trans h3)
          clear hd hcst hM h1 h2 h3 d9 d10 d12
          obtain ⟨z47, hz47⟩ : ∃ z, y 47 = z := ⟨_, rfl⟩
          obtain ⟨z48, hz48⟩ : ∃ z, y 48 = z := ⟨_, rfl⟩
          obtain ⟨z50, hz50⟩ : ∃ z, y 50 = z := ⟨_, rfl⟩
          simp only [hole, List.foldl_cons, List.foldl_nil, List.setIfInBounds_toArray, List.set_cons_zero, List.set_cons_succ, e38, e39, e40, e41, e42, e43, e44, e45, e46, e49, hz47, hz48, hz50]
          clear e38 e39 e40 e41 e42 e43 e44 e45 e46 e49 hz47 hz48 hz50
          go_wp2
          go_roundw
          case rel => exact ⟨k + 1, v2, hkl, by go_num, HB2.out, by rw [HNX.out]; exact HO2.out, HS2.out⟩
          case measure => simp [intOf]; omega
      · obtain rfl : z = k := by omega
        have hki : ¬ (z : Int) < (z : Int) := by omega
        have HEND := Lib.hid (show (chs A b).foldl (addR q n (szE E) (backC E) (ksE E)) L = ((l.take z).flatMap fun x => chs A (b ++ [x])).foldl (addR q n (szE E) (backC E) (ksE E)) L by
          rw [HST.out, List.take_of_length_le (by rw [HZ.out]; exact Nat.le_refl _)])
        go_wp2
        (try simp only [Exit.inBlock, Exit.then])
        refine bodyPost_ret (results_none rfl _ _ _) rfl ?_
        exact ⟨rfl, vo', HBXD.out, by rw [HEND.out]; exact HOD.out, (Sm.of_below HB0.out).trans HSM.out⟩
end Go.Proofs.YtdackakjcnnofaaGreat

/- The reference's Table. -/
namespace Go.Proofs.YtdackakjcnnofaaGreat
open Go.RowKit
attribute [local go_sem] Oper.semAt_some

/-- The numbers below some bound that make the determinant 0. -/
def allTo (q n : Nat) (m : List (List Int)) (x : Nat) : List Nat := (List.range x).filter (singR q n m)
theorem allTo_yes {q n x : Nat} {m : List (List Int)} (h : singR q n m x = true) : allTo q n m (x + 1) = allTo q n m x ++ [x] := by simp [allTo, List.range_succ, h]
theorem allTo_no {q n x : Nat} {m : List (List Int)} (h : singR q n m x = false) : allTo q n m (x + 1) = allTo q n m x := by simp [allTo, List.range_succ, h]
theorem allTo_len (q n : Nat) (m : List (List Int)) (x : Nat) : (allTo q n m x).length ≤ x := Nat.le_trans (List.length_filter_le _ _) (by simp)
/-- All choices of a group, class by class. -/
def allE (E : List (List Nat)) (q m : Nat) : List (List Nat) := (List.range m).map fun c => allTo q m (constL E c) q
theorem allE_take {E : List (List Nat)} {q m c : Nat} (h : c < m) : (allE E q m).take (c + 1) = (allE E q m).take c ++ [allTo q m (constL E c) q] := by
  have hl : c < (allE E q m).length := by simp [allE]; exact h
  rw [List.take_succ_eq_append_getElem hl]
  simp [allE]
theorem tabRE_eq {E : List (List Nat)} {d : Nat} : tabR (primeN E d) E.length (szE E) (backC E) (ksE E) = (chs (allE E (primeN E d) (repsN E E.length).length) []).foldl (addR (primeN E d) E.length (szE E) (backC E) (ksE E)) [] := by
  unfold tabR
  congr 1
  unfold chs
  simp only [List.length_nil, List.drop_zero, List.nil_append, List.map_id']
  congr 1
  rw [szE_length]
  refine List.map_congr_left fun c hc => ?_
  unfold allR allTo
  rw [ksE_at (List.mem_range.1 hc)]
set_option maxRecDepth 100000 in
set_option maxHeartbeats 4000000 in
theorem RTable_any {d : Nat} {E : List (List Nat)} (gv : Value) (w : World) (h : Grp d E) (h24 : E.length ≤ 24) (hg : RGI d E w gv) (hq1 : 0 < primeN E d) (hq2 : primeN E d < 62) (hfew : (tabR (primeN E d) E.length (szE E) (backC E) (ksE E)).length ≤ 1000) :
    Calls Tryz.prog 16 #[gv] w fun e w' => ∃ v', e = .returned v' ∧ RowsF (fun _ => True) 0 w' v' (tabR (primeN E d) E.length (szE E) (backC E) (ksE E)) ∧ Below w.heap.size w w' := by
  have hg0 := hg
  rw [tabRE_eq] at hfew ⊢
  obtain ⟨gL, gT, gB, oB, gC, gO, oO, cL, cT, cB, cC, cO, rfl, -⟩ := hg.open h
  have SG := Lib.hid (show ∀ (c x : Nat) (W : World), Below w.heap.size w W → c < (repsN E E.length).length → x < 62 → Calls Tryz.prog 48 #[.agg #[.slice (some ⟨gL, 0, none⟩) E.length cL, .slice (some ⟨gT, 0, none⟩) E.length cT, .slice (some ⟨gB, oB, none⟩) E.length cB, .slice (some ⟨gC, 0, none⟩) (repsN E E.length).length cC, .slice (some ⟨gO, oO, none⟩) E.length cO, .int .i64 (primeN E d : Nat)], .int .i64 (c : Nat), .int .i64 (x : Nat)] W fun e w' => e = .returned (.bool (singR (primeN E d) (repsN E E.length).length (constL E c) x)) ∧ Below W.heap.size W w' from
    fun c x W hb hc hx => RSing_any _ c x W h h24 (hg0.below hb) hc hx hq1 hq2)
  have SE := Lib.hid (show ∀ (va : Value) (Wg W : World) (bo : Nat), Below w.heap.size w Wg → Wg.heap.size ≤ bo → Below Wg.heap.size Wg W → AllR bo W va (allE E (primeN E d) (repsN E E.length).length) → Held W bo 22 [.slice none 0 0] → Calls Tryz.prog 49 #[.agg #[.slice (some ⟨gL, 0, none⟩) E.length cL, .slice (some ⟨gT, 0, none⟩) E.length cT, .slice (some ⟨gB, oB, none⟩) E.length cB, .slice (some ⟨gC, 0, none⟩) (repsN E E.length).length cC, .slice (some ⟨gO, oO, none⟩) E.length cO, .int .i64 (primeN E d : Nat)], va, .slice none 0 0, .pointer (some ⟨bo, 0, none⟩)] W
      fun e w' => e = .returned (.tuple #[]) ∧ ∃ vo', Held w' bo 22 [vo'] ∧ OutI bo w' vo' ((chs (allE E (primeN E d) (repsN E E.length).length) []).foldl (addR (primeN E d) E.length (szE E) (backC E) (ksE E)) []) ∧ Sm (fun k => k ≠ bo) W w' from
    fun va Wg W bo hwg hbo hb ha hbx => search_any _ va Wg h h24 (hg0.below hwg) hbo hq1 hq2 (by simp [allE]) (fun l hl => by
      obtain ⟨c, _, rfl⟩ := List.mem_map.1 hl
      refine ⟨by have := allTo_len (primeN E d) (repsN E E.length).length (constL E c) (primeN E d); omega, fun x hx => ?_⟩
      have := List.mem_range.1 (List.mem_filter.1 hx).1
      omega) (repsN E E.length).length _ _ [] [] W (by simp) hb ha (by simp) ⟨none, 0, rfl, by simp [toI], by simp [toI], fun hne => absurd rfl hne⟩ hbx (.inl ⟨rfl, rfl⟩) (by simp) hfew)
  have hml := reps_len (E := E) E.length
  obtain ⟨R, hR⟩ : ∃ R, (chs (allE E (primeN E d) (repsN E E.length).length) []).foldl (addR (primeN E d) E.length (szE E) (backC E) (ksE E)) [] = R := ⟨_, rfl⟩
  rw [hR] at SE ⊢
  have HTK := Lib.hid (fun c (hc : c < (repsN E E.length).length) => allE_take (E := E) (q := primeN E d) hc)
  have HAL := Lib.hid (show (allE E (primeN E d) (repsN E E.length).length).length = (repsN E E.length).length by simp [allE])
  obtain ⟨q, hq⟩ : ∃ q, primeN E d = q := ⟨_, rfl⟩
  rw [hq] at SG SE hq1 hq2 HTK HAL
  obtain ⟨n, hn⟩ : ∃ n, E.length = n := ⟨_, rfl⟩
  obtain ⟨m, hmm⟩ : ∃ m, (repsN E E.length).length = m := ⟨_, rfl⟩
  rw [hmm, hn] at SG SE
  rw [hmm] at HTK HAL hml
  rw [hn] at hml h24
  rw [hmm, hn, hq]
  obtain ⟨A, hA⟩ : ∃ A, allE E q m = A := ⟨_, rfl⟩
  rw [hA] at SE HTK HAL
  clear h hg hg0 hfew hR hq hn hmm hA hq1
  unfold rgV
  go_enter Tryz.func16, Tryz.ntmps16
  have HX0 := Lib.hid (Held.new w 29 [.slice (some ⟨gL, 0, none⟩) n cL, .slice (some ⟨gT, 0, none⟩) n cT, .slice (some ⟨gB, oB, none⟩) n cB, .slice (some ⟨gC, 0, none⟩) m cC, .slice (some ⟨gO, oO, none⟩) n cO, .int .i64 (q : Nat)])
  have HB0 := Lib.hid (show Below w.heap.size w (w.alloc (.cells #[.slice (some ⟨gL, 0, none⟩) n cL, .slice (some ⟨gT, 0, none⟩) n cT, .slice (some ⟨gB, oB, none⟩) n cB, .slice (some ⟨gC, 0, none⟩) m cC, .slice (some ⟨gO, oO, none⟩) n cO, .int .i64 (q : Nat)] 29)) from (Below.refl _ _).alloc (Nat.le_refl _) _)
  go_wp2_with fail
  obtain ⟨bx, hbx⟩ : ∃ x, w.heap.size = x := ⟨_, rfl⟩
  obtain ⟨W0, hW0⟩ : ∃ x, w.alloc (.cells #[.slice (some ⟨gL, 0, none⟩) n cL, .slice (some ⟨gT, 0, none⟩) n cT, .slice (some ⟨gB, oB, none⟩) n cB, .slice (some ⟨gC, 0, none⟩) m cC, .slice (some ⟨gO, oO, none⟩) n cO, .int .i64 (q : Nat)] 29) = x := ⟨_, rfl⟩
  have HBXW := Lib.hid hbx
  rw [hbx] at HX0 ⊢
  have HX1 := Lib.hid (show Held W0 bx 29 [.slice (some ⟨gL, 0, none⟩) n cL, .slice (some ⟨gT, 0, none⟩) n cT, .slice (some ⟨gB, oB, none⟩) n cB, .slice (some ⟨gC, 0, none⟩) m cC, .slice (some ⟨gO, oO, none⟩) n cO, .int .i64 (q : Nat)] by rw [← hW0]; exact HX0.out)
  rw [hW0] at HB0 ⊢
  clear hW0 HX0 hbx
  go_loopw [4, 13] (fun va ix wr => ∃ (c : Nat) (S : Nat → Prop), c ≤ m ∧ ix = .int .i64 c ∧ GrowR W0.heap.size wr va (A.take c) S ∧ Below W0.heap.size W0 wr) (fun _ ix _ => m - (intOf ix).toNat)
  case atStart => exact ⟨0, _, Nat.zero_le _, rfl, GrowR.nil _ _, Below.refl _ _⟩
  case round =>
    obtain ⟨c, S, hc, rfl, hgr, hb1⟩ := hrel
    obtain ⟨wA, rfl⟩ : ∃ x, x = wr := ⟨_, rfl⟩
    have HG1 := Lib.hid hgr
    have HB1 := Lib.hid hb1
    have HBW := Lib.hid (HB0.out.trans (hb1.mono HB0.out.size))
    have hle1 := hb1.size
    have HCL := Lib.hid (show (A.take c).length = c by rw [List.length_take, HAL.out]; omega)
    obtain ⟨a3, c3, e3⟩ := hgr.1.form
    rw [HCL.out] at e3
    subst e3
    clear hgr hb1
    by_cases hcm : c < m
    · have hci : (c : Int) < (m : Int) := by omega
      have HT := Lib.hid (HTK.out c hcm)
      have hx5 := (HX1.out.below HB1.out HX1.out.lt).at (i := 5) rfl
      go_wp2_with fail
      go_loopw [6, 18] (fun vl jx wq => ∃ x : Nat, x ≤ q ∧ jx = .int .i64 x ∧ OwnI 3 wA.heap.size wq vl (toI (allTo q m (constL E c) x)) ∧ Below wA.heap.size wA wq) (fun _ jx _ => q - (intOf jx).toNat)
      case atStart => exact ⟨0, Nat.zero_le _, rfl, OwnI.nil _ _ _, Below.refl _ _⟩
      case round =>
        obtain ⟨x, hx, rfl, ho, hb2⟩ := hrel
        obtain ⟨wX, rfl⟩ : ∃ x, x = wr := ⟨_, rfl⟩
        have HO := Lib.hid ho
        have HB2 := Lib.hid hb2
        have hle2 := hb2.size
        obtain ⟨a6, n6, c6, rfl⟩ := own_form ho
        have HLU := Lib.hid (allTo_len q m (constL E c) x)
        have HTL := Lib.hid (show (toI (allTo q m (constL E c) x)).length < 1000000 by rw [toI_length]; have := HLU.out; omega)
        have HBX2 := Lib.hid (HBW.out.trans (hb2.mono HBW.out.size))
        have hxX := HX1.out.below (HB1.out.trans (hb2.mono hle1)) HX1.out.lt
        clear ho hb2
        by_cases hxq : x < q
        · have hxi : (x : Int) < (q : Int) := by omega
          have SC := Lib.hid (SG.out c x wX HBX2.out hcm (by omega))
          have hx0' := hxX.at (i := 0) rfl
          have hx1' := hxX.at (i := 1) rfl
          have hx2' := hxX.at (i := 2) rfl
          have hx3' := hxX.at (i := 3) rfl
          have hx4' := hxX.at (i := 4) rfl
          have hx5' := hxX.at (i := 5) rfl
          cases hs : singR q m (constL E c) x with
          | true =>
            rw [hs] at SC
            have HU := Lib.hid (allTo_yes hs)
            clear hs
            go_wp2_with (first
              | ((with_reducible refine is_load 29 ?_); refine wpl_load_rg (by rfl) _ (by rfl) bx [.slice (some ⟨gL, 0, none⟩) n cL, .slice (some ⟨gT, 0, none⟩) n cT, .slice (some ⟨gB, oB, none⟩) n cB, .slice (some ⟨gC, 0, none⟩) m cC, .slice (some ⟨gO, oO, none⟩) n cO, .int .i64 (q : Nat)] rfl (by rfl) hxX ?_)
              | (go_at_call 48; refine SC.out.mono ?_; rintro e w2 ⟨rfl, hb3⟩; have HB3 := Lib.hid hb3; clear hb3)
              | (at_builtin; refine wpList_app1_at rfl _ _ rfl wA.heap.size _ (toI (allTo q m (constL E c) x)) ((x : Nat) : Int) rfl ((HO.out.below HB3.out).alloc _) ⟨_, 0, none⟩ 1 rfl (cell_new1 _ _ _) HTL.out (by have := HB3.out.size; simp; omega) ?_; intro v4 w4 ho4 hg4 hl4; have HO4 := Lib.hid ho4; have HB4 := Lib.hid (((HB2.out.trans (HB3.out.mono hle2)).alloc (by have := HB3.out.size; omega) _).grown hg4 (by have := HB3.out.size; simp; omega) (fun j hj => (HO.out.lt j hj).1)); clear ho4 hg4 hl4))
            go_roundw
            case rel => exact ⟨x + 1, hxq, by go_num, by rw [HU.out, toI_append]; exact HO4.out, HB4.out⟩
            case measure => simp [intOf]; omega
          | false =>
            rw [hs] at SC
            have HU := Lib.hid (allTo_no hs)
            clear hs
            go_wp2_with (first
              | ((with_reducible refine is_load 29 ?_); refine wpl_load_rg (by rfl) _ (by rfl) bx [.slice (some ⟨gL, 0, none⟩) n cL, .slice (some ⟨gT, 0, none⟩) n cT, .slice (some ⟨gB, oB, none⟩) n cB, .slice (some ⟨gC, 0, none⟩) m cC, .slice (some ⟨gO, oO, none⟩) n cO, .int .i64 (q : Nat)] rfl (by rfl) hxX ?_)
              | (go_at_call 48; refine SC.out.mono ?_; rintro e w2 ⟨rfl, hb3⟩; have HB3 := Lib.hid hb3; clear hb3))
            go_roundw
            case rel => exact ⟨x + 1, hxq, by go_num, by rw [HU.out]; exact HO.out.below HB3.out, HB2.out.trans (HB3.out.mono hle2)⟩
            case measure => simp [intOf]; omega
        · obtain rfl : q = x := by omega
          have hxi : ¬ (q : Int) < (q : Int) := by omega
          have HLM := Lib.hid (show (allTo q m (constL E c) q).length ≤ 1000000 by have := HLU.out; omega)
          have HOL := Lib.hid (show (A.take c).length < 1000000 by rw [HCL.out]; omega)
          go_wp2_with (at_builtin; refine wpList_appF rfl _ _ rfl (fun j => S j ∨ (Value.slice a6 n6 c6).ownBlock = some j) W0.heap.size wX.heap.size (.slice a3 c c3) (.slice a6 n6 c6) (A.take c) (allTo q m (constL E c) q) rfl ((HG1.out.grow HB2.out HO.out HLM.out).1.1.alloc _) ((HG1.out.grow HB2.out HO.out HLM.out).2.kept (Sm.of_below ((Below.refl _ _).alloc (Nat.le_refl _) _))) rfl (Held.made rfl) (fun j hj => ((HG1.out.grow HB2.out HO.out HLM.out).1.2 j hj).2) HOL.out (by simp; omega) ?_; intro v5 w5 hr5 hg5 ho5; have HR5 := Lib.hid (GrowR.app (b := 0) (HG1.out.grow HB2.out HO.out HLM.out).1 ((Below.refl _ _).alloc (Nat.le_refl _) _) hr5 hg5 ho5 rfl); have HB5 := Lib.hid (((HB1.out.trans (HB2.out.mono hle1)).alloc (by omega) _).grown hg5 (by simp; omega) (fun j hj => (HG1.out.1.own j hj).1)); clear hr5 hg5 ho5)
          go_roundw
          case rel => exact ⟨c + 1, _, hcm, by go_num, by rw [HT.out]; exact HR5.out, HB5.out⟩
          case measure => simp [intOf]; omega
    · obtain rfl : m = c := by omega
      have hci : ¬ (m : Int) < (m : Int) := by omega
      have hga := HG1.out
      rw [List.take_of_length_le (by rw [HAL.out]; exact Nat.le_refl _)] at hga
      have HAR := Lib.hid (show AllR wA.heap.size (wA.alloc (.cells #[.slice none 0 0] 22)) (.slice a3 m c3) A from ⟨((hga.1.alloc _).mono fun k hk => by have := (hga.2 k hk).1; omega).base (Nat.zero_le _), fun k hk => by have := (hga.1.own k hk).2; omega⟩)
      have HNB := Lib.hid (Held.new wA 22 [.slice none 0 0])
      have SC := Lib.hid (SE.out (.slice a3 m c3) wA (wA.alloc (.cells #[.slice none 0 0] 22)) wA.heap.size HBW.out (Nat.le_refl _) ((Below.refl _ _).alloc (Nat.le_refl _) _) HAR.out HNB.out)
      have hxX := (HX1.out.below HB1.out HX1.out.lt).alloc (.cells #[.slice none 0 0] 22)
      have hx0' := hxX.at (i := 0) rfl
      have hx1' := hxX.at (i := 1) rfl
      have hx2' := hxX.at (i := 2) rfl
      have hx3' := hxX.at (i := 3) rfl
      have hx4' := hxX.at (i := 4) rfl
      have hx5' := hxX.at (i := 5) rfl
      clear hga
      go_wp2_with (first
        | ((with_reducible refine is_load 29 ?_); refine wpl_load_rg (by rfl) _ (by rfl) bx [.slice (some ⟨gL, 0, none⟩) n cL, .slice (some ⟨gT, 0, none⟩) n cT, .slice (some ⟨gB, oB, none⟩) n cB, .slice (some ⟨gC, 0, none⟩) m cC, .slice (some ⟨gO, oO, none⟩) n cO, .int .i64 (q : Nat)] rfl (by rfl) hxX ?_)
        | (go_at_call 49; refine SC.out.mono ?_; rintro e w2 ⟨rfl, vo', hbx2, hout2, hsm2⟩; have HS2 := Lib.hid hsm2; have HO2 := Lib.hid hout2; have hcb2 := hbx2.at (i := 0) rfl; clear hbx2 hout2 hsm2))
      go_ret
      refine ⟨vo', rfl, ?_, HS2.out.below (HBW.out.alloc HBW.out.size _) HBW.out.size (by have := HBW.out.size; simp; omega)⟩
      rcases HO2.out with ⟨e1, e2⟩ | ⟨_, h2, _⟩
      · rw [e1, e2]; exact RowsF.nil _ _ _
      · exact h2.mono fun _ _ => trivial
end Go.Proofs.YtdackakjcnnofaaGreat
