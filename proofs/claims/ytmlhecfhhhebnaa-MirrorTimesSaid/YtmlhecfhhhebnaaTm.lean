/- MirrorTimes: the walks. -/
import Derived.Test.YtmlhecfhhhebnaaTq
import Derived.Test.YtmlhecfhhhebnaaEm
namespace Go.Proofs.Ytmlhecfhhhebnaa
open Go.RowKit
attribute [local go_sem] Oper.semAt_some

set_option maxRecDepth 20000 in
set_option maxHeartbeats 4000000 in
theorem TimesL_no (K : Nat) (n : Int) (vu vw : Value) (xs ys : List Int) (w : World) (hK : K < 256) (hx : Ints w vu xs) (hy : Ints w vw ys) (h : okI K n [xs] = false) :
    Calls Try.prog 3 #[grpI K n, vu, vw] w (TrueM w) := by
  have FN := Lib.hid (fun w' v' (ha : Args w' v' [xs]) => by have := fine_any K n v' [xs] w' hK ha; rw [h] at this; exact this)
  have AW := Lib.hid (fun w' => awake_any w')
  have OF := Lib.hid (fun w' => Of_any K n w')
  have LU := Lib.hid (fun w' (hb : Below (w.heap.size + 1) (w.alloc (.cells #[.int .u8 (K : Nat), .int .i64 n] 23)) w') => list_any vu xs w' (intsS hx hb))
  have LW := Lib.hid (fun w' (hb : Below (w.heap.size + 1) (w.alloc (.cells #[.int .u8 (K : Nat), .int .i64 n] 23)) w') => list_any vw ys w' (intsS hy hb))
  have HU := Lib.hid (fun w' (hb : Below (w.heap.size + 1) (w.alloc (.cells #[.int .u8 (K : Nat), .int .i64 n] 23)) w') => intsS hx hb)
  have TM := Lib.hid (fun u' v' w' (hi : Ints w' u' (xs.take 34)) (hj : Ints w' v' (ys.take 34)) => Times_no K n u' v' _ _ w' hK hi hj (by rw [okI_take2]; exact okI_no1 h))
  have BK := Lib.hid (fun v' w' (hi : Ints w' v' (xs.take 34)) => Back_no K n v' _ w' hK hi (by rw [okI_take1]; exact h))
  have hlu : (xs.take 34).length ≤ 17592186044416 := by rw [List.length_take]; omega
  have hlw : (ys.take 34).length ≤ 17592186044416 := by rw [List.length_take]; omega
  obtain ⟨a, c, rfl, hx1⟩ := hx
  obtain ⟨a2, c2, rfl, hy1⟩ := hy
  unfold grpI at *
  clear hx1 hy1 h
  go_enter Try.func3, Try.ntmps3
  go_wp2_with (first
      | (go_at_call 20; refine (AW.out _).mono ?_; rintro e w9 ⟨rfl, hb9'⟩; have hb9 := chainS hb8 hb9')
      | (go_at_call 19; refine (FN.out _ _ (args1 (HU.out w7 hb7) _ rfl)).mono ?_; rintro e w8 ⟨rfl, hb8q⟩; have hb8' := below_al (Nat.le_refl _) hb8q; have hb8 := chainS hb7 hb8')
      | (go_at_call 18; refine (BK.out v6 w6 (ho6.ints hlu)).mono ?_; rintro e w7 ⟨rfl, hb7'⟩; have hb7 := chainS hb6 hb7'; have g70 := (heldS hb7).at (i := 0) rfl; have g71 := (heldS hb7).at (i := 1) rfl)
      | (go_at_call 17; refine (LU.out w5 hb5).mono ?_; rintro e w6 ⟨v6, rfl, ho6, hb6'⟩; have hb6 := chainS hb5 hb6')
      | (go_at_call 16; refine (OF.out _).mono ?_; rintro e w5 ⟨rfl, hb5'⟩; have hb5 := chainS hb4 hb5')
      | (go_at_call 15; refine (TM.out v2 v3 w3 ((ho2.below hb3').ints hlu) (ho3.ints hlw)).mono ?_; rintro e w4 ⟨rfl, hb4'⟩; have hb4 := chainS hb3 hb4'; have g40 := (heldS hb4).at (i := 0) rfl; have g41 := (heldS hb4).at (i := 1) rfl)
      | (go_at_call 17; refine (LW.out w2 hb2).mono ?_; rintro e w3 ⟨v3, rfl, ho3, hb3'⟩; have hb3 := chainS hb2 hb3')
      | (go_at_call 17; refine (LU.out w1 hb1).mono ?_; rintro e w2 ⟨v2, rfl, ho2, hb2'⟩; have hb2 := chainS hb1 hb2')
      | (go_at_call 16; refine (OF.out _).mono ?_; rintro e w1 ⟨rfl, hb1q⟩; have hb1 := hb1q.mono (show w.heap.size + 1 ≤ _ by simp)))
  go_ret
  exact ⟨rfl, chainE hb9⟩

set_option maxRecDepth 20000 in
set_option maxHeartbeats 8000000 in
theorem TimesL_yes (K n : Nat) (vu vw : Value) (xs ys : List Int) (w : World) (hv : validB K n = true) (hx : Ints w vu xs) (hy : Ints w vw ys) (q1 : wordB (mirs K n) xs = true) (q2 : wordB (mirs K n) ys = true) :
    Calls Try.prog 3 #[.agg #[.int .u8 (K : Nat), .int .i64 (n : Nat)], vu, vw] w (TrueM w) := by
  have hK := K_lt hv
  have hok : okI K (n : Int) [xs] = true := by rw [okI_cast hv]; simp [q1]
  have FN := Lib.hid (fun w' v' (ha : Args w' v' [xs]) => by have := fine_any K (n : Int) v' [xs] w' hK ha; rw [hok] at this; exact this)
  have AW := Lib.hid (fun w' => awake_any w')
  have OF := Lib.hid (fun w' => Of_any K (n : Int) w')
  have hwd := Word_any K n
  have WD := Lib.hid (fun w' (hi : Ints w' vw ys) => by have := Word_any K n vw ys w' hv hi; rw [q2] at this; exact this)
  have EL := Lib.hid (fun w' => Elements_any K n w' hv)
  have n1 := word_nat q1
  have LU := Lib.hid (fun w' (hb : Below (w.heap.size + 1) (w.alloc (.cells #[.int .u8 (K : Nat), .int .i64 (n : Nat)] 23)) w') => by have := list_any vu xs w' (intsS hx hb); rw [List.take_of_length_le (by omega)] at this; exact this)
  have HU := Lib.hid (fun w' (hb : Below (w.heap.size + 1) (w.alloc (.cells #[.int .u8 (K : Nat), .int .i64 (n : Nat)] 23)) w') => intsS hx hb)
  have HW := Lib.hid (fun w' (hb : Below (w.heap.size + 1) (w.alloc (.cells #[.int .u8 (K : Nat), .int .i64 (n : Nat)] 23)) w') => intsS hy hb)
  have BK := Lib.hid (fun v' w' (hi : Ints w' v' xs) => by have := Back_yes K n v' xs w' hv hi q1; rw [inv_walk hv _ n1.2.1] at this; exact this)
  have hlu := word_len q1
  have HX := Lib.hid (ix_lt hv q1)
  have RN := Lib.hid (fun w' v' (ht : RT (wordsG K n) (nextG K n) w' v') (hi : Ints w' vu xs) => show Calls Try.prog 22 #[v', .int .i64 ((0 : Nat) : Int), vu] w' fun e w'' => e = .returned (.int .i64 ((ix K n xs : Nat) : Int)) ∧ Below w'.heap.size w' w'' from RNumber_any v' 0 vu (natW xs) w' ht (tkG hv) (by rw [n1.1]; exact hi) (tkG hv).pos n1.2.1)
  have RB := Lib.hid (fun w' v' (ht : RT (wordsG K n) (nextG K n) w' v') => RBack_any v' (ix K n xs) w' ht (tkG hv) (ix_lt hv q1))
  have HBL := Lib.hid (show walkX (nextG K n) 0 ((wordsG K n).getD (ix K n xs) []).reverse < (wordsG K n).length from (tkG hv).walk _ _ (tkG hv).pos fun x hx => (tkG hv).letter _ (by rw [getDL (ix_lt hv q1)]; exact List.getElem_mem _) x (List.mem_reverse.1 hx))
  have hE : walkX (nextG K n) 0 ((wordsG K n).getD (walkX (nextG K n) 0 (natW xs)) []).reverse = walkX (nextG K n) 0 ((wordsG K n).getD (ix K n xs) []).reverse := rfl
  obtain ⟨B, hB⟩ : ∃ B, walkX (nextG K n) 0 ((wordsG K n).getD (ix K n xs) []).reverse = B := ⟨_, rfl⟩
  rw [hE, hB] at BK
  rw [hB] at HBL RB
  have HTW := Lib.hid (tabW hv)
  have hWl : (wordsG K n).length ≤ 120 := (tkG hv).small
  have hx0 := ix_lt hv q1
  have n2 := word_nat q2
  have LW := Lib.hid (fun w' (hb : Below (w.heap.size + 1) (w.alloc (.cells #[.int .u8 (K : Nat), .int .i64 (n : Nat)] 23)) w') => by have := list_any vw ys w' (intsS hy hb); rw [List.take_of_length_le (by omega)] at this; exact this)
  have TM := Lib.hid (fun u' v' w' (hi : Ints w' u' xs) (hj : Ints w' v' ys) => Times_yes K n u' v' xs ys w' hv hi hj q1 q2)
  have hlw := word_len q2
  have RM := Lib.hid (fun w' v' (ht : RT (wordsG K n) (nextG K n) w' v') (hi : Ints w' vw ys) => RNumber_any v' (ix K n xs) vw (natW ys) w' ht (tkG hv) (by rw [n2.1]; exact hi) hx0 n2.2.1)
  have HPL := Lib.hid (show walkX (nextG K n) (ix K n xs) (natW ys) < (wordsG K n).length from (tkG hv).walk _ _ hx0 n2.2.1)
  obtain ⟨C, hC⟩ : ∃ C, walkX (nextG K n) (ix K n xs) (natW ys) = C := ⟨_, rfl⟩
  rw [hC] at TM RM HPL
  obtain ⟨a, c, rfl, hx1⟩ := hx
  obtain ⟨a2, c2, rfl, hy1⟩ := hy
  obtain ⟨iu, hiu⟩ : ∃ iu, ix K n xs = iu := ⟨_, rfl⟩
  rw [hiu] at *
  unfold grpI at *
  clear hx1 hy1 hok hK n1 q1 q2 hB hE hwd hx0 HX n2 hC
  go_enter Try.func3, Try.ntmps3
  go_upto_region 7 with (first
      | (go_at_call 22; refine (RN.out w10 _ (hr9.below hb10') (HU.out w10 hb10)).mono ?_; rintro e w11 ⟨rfl, hb11'⟩; have hb11 := chainS hb10 hb11')
      | ((with_reducible refine is_store 36 ?_); refine wpl_store_rt (by rfl) _ _ (by rfl) w9.heap.size (.slice (some ⟨gW, 0, none⟩) (wordsG K n).length cW) (.slice aP lP cP) (.slice aX lX cX) [.slice none 0 0, .slice none 0 0, .slice none 0 0] rfl (by rfl) (by rfl) (by rfl) (by rfl) (by rfl) (Held.made (by simp)) ?_; intro w10 hT10 hsm10 hsz10; have hb10' : Below w9.heap.size w9 w10 := hsm10.below ((Below.refl _ _).alloc (Nat.le_refl _) _) (Nat.le_refl _) (by simp); have hb10 := chainS hb9 hb10'; have t0 := hT10.at (i := 0) rfl; have t1 := hT10.at (i := 1) rfl; have t2 := hT10.at (i := 2) rfl; clear hsm10 hsz10)
      | (go_at_call 21; refine (EL.out w8).mono ?_; rintro e w9 ⟨v9, rfl, hrt9, hb9'⟩; have hb9 := chainS hb8 hb9'; have hr9 := hrt9.rt; clear hrt9; obtain ⟨gW, cW, aP, lP, cP, aX, lX, cX, rfl⟩ := RT.made hr9 (tkG hv).pos)
      | (go_at_call 19; refine (FN.out _ _ (args1 (HU.out w7 hb7) _ rfl)).mono ?_; rintro e w8 ⟨rfl, hb8q⟩; have hb8' := below_al (Nat.le_refl _) hb8q; have hb8 := chainS hb7 hb8'; have g80 := (heldS hb8).at (i := 0) rfl; have g81 := (heldS hb8).at (i := 1) rfl)
      | (go_at_call 18; refine (BK.out v6 w6 (ho6.ints hlu)).mono ?_; rintro e w7 ⟨v7, rfl, ho7, hb7'⟩; have hb7 := chainS hb6 hb7'; have g70 := (heldS hb7).at (i := 0) rfl; have g71 := (heldS hb7).at (i := 1) rfl; obtain ⟨a7, c7, rfl⟩ := own_lenX ho7)
      | (go_at_call 17; refine (LU.out w5 hb5).mono ?_; rintro e w6 ⟨v6, rfl, ho6, hb6'⟩; have hb6 := chainS hb5 hb6')
      | (go_at_call 16; refine (OF.out _).mono ?_; rintro e w5 ⟨rfl, hb5'⟩; have hb5 := chainS hb4 hb5')
      | (go_at_call 15; refine (TM.out v2 v3 w3 ((ho2.below hb3').ints hlu) (ho3.ints hlw)).mono ?_; rintro e w4 ⟨v4, rfl, ho4, hb4'⟩; have hb4 := chainS hb3 hb4'; have g40 := (heldS hb4).at (i := 0) rfl; have g41 := (heldS hb4).at (i := 1) rfl; obtain ⟨a4, c4, rfl⟩ := own_lenX ho4)
      | (go_at_call 17; refine (LW.out w2 hb2).mono ?_; rintro e w3 ⟨v3, rfl, ho3, hb3'⟩; have hb3 := chainS hb2 hb3')
      | (go_at_call 17; refine (LU.out w1 hb1).mono ?_; rintro e w2 ⟨v2, rfl, ho2, hb2'⟩; have hb2 := chainS hb1 hb2')
      | (go_at_call 16; refine (OF.out _).mono ?_; rintro e w1 ⟨rfl, hb1q⟩; have hb1 := hb1q.mono (show w.heap.size + 1 ≤ _ by simp)))
  have hr11 := ((hr9.below hb10').below hb11')
  have hT11 := (hT10.below hb11' hT10.lt)
  have s0 := hT11.at (i := 0) rfl
  have s1 := hT11.at (i := 1) rfl
  have s2 := hT11.at (i := 2) rfl
  have HO7 := Lib.hid ((((ho7.below hb8').below hb9').below hb10').below hb11')
  have HLB := Lib.hid (word_len (HTW.out.wd B HBL.out))
  have hBi : (B : Int) < ((wordsG K n).length : Int) := by have := HBL.out; omega
  have HR11 := Lib.hid hr11
  have HT11 := Lib.hid hT11
  have HB11 := Lib.hid hb11
  have HO4 := Lib.hid (((((((ho4.below hb5').below hb6').below hb7').below hb8').below hb9').below hb10').below hb11')
  clear hb2' hb3' hb4' hb5' hb6' hb7' hb8' hb9' hb10' hb11' hb1 hb2 hb3 hb4 hb5 hb6 hb7 hb8 hb9 hb10 hb11 hr11 hT11 hT10 hr9 hb1q hb8q t0 t1 t2 ho2 ho3 ho6 ho7 ho4
  clear g40 g41 g70 g71 g80 g81
  go_cut [75] from 58 to 74 (fun v wq => v = .bool false ∧ Below w11.heap.size w11 wq)
  case first =>
    go_region_with (first
      | (go_at_call 20; refine (AW.out _).mono ?_; rintro e wD ⟨rfl, hbD'⟩; have hbD := chainT hbC hbD')
      | (go_at_call 23; refine (EqualM_any _ _ _ _ wB ((HO7.out.below hbB).ints HLB.out) hinB true (by simp)).mono ?_; rintro e wC ⟨rfl, hbC'⟩; have hbC := chainT hbB hbC')
      | (go_at_call 24; refine (RB.out _ _ (by first | exact HR11.out | exact HR11.out.below ((Below.refl _ _).drew))).mono ?_; rintro e wB ⟨rfl, hbB'⟩; have hbB : Below w11.heap.size w11 wB := (by first | exact hbB' | exact ((Below.refl _ _).drew).trans hbB'); have sB := (HT11.out.below hbB HT11.out.lt).at (i := 0) rfl; obtain ⟨rb, rcB, hgcB, hinB⟩ := rows_at (HR11.out.below hbB) HBL.out))
    all_goals (go_wp2_with fail; go_meet)
    all_goals exact ⟨rfl, hbD⟩
  case rest =>
    rename_i wz
    obtain ⟨rfl, hb12'⟩ := hcut
    have hB12 := chainS HB11.out hb12'
    have g0 := (heldS hB12).at (i := 0) rfl
    have g1 := (heldS hB12).at (i := 1) rfl
    clear s0 s1 s2
    go_upto_region 11 with (go_at_call 25; refine (WD.out _ (HW.out _ hB12)).mono ?_; rintro e w13 ⟨rfl, hb13'⟩; have hb13 := chainS hB12 hb13'; have hbw := chainT hb12' hb13')
    have hr13 := HR11.out.below hbw
    have hT13 := HT11.out.below hbw HT11.out.lt
    have s0 := hT13.at (i := 0) rfl
    have s1 := hT13.at (i := 1) rfl
    have s2 := hT13.at (i := 2) rfl
    have HO413 := Lib.hid (OwnI.below HO4.out hbw)
    have HLC := Lib.hid (word_len (HTW.out.wd C HPL.out))
    have hCi : (C : Int) < ((wordsG K n).length : Int) := by have := HPL.out; omega
    have HR13 := Lib.hid hr13
    have HT13 := Lib.hid hT13
    have HB13 := Lib.hid hb13
    clear hr13 hT13 g0 g1 hb13 hb13' hB12 hb12' hbw hBi
    go_region_with (first
      | (go_at_call 23; refine (EqualM_any _ _ _ _ wE ((HO413.out.below hbE).ints HLC.out) hinE true (by simp)).mono ?_; rintro e wF ⟨rfl, hbF'⟩; have hbF := chainT hbE hbF')
      | (go_at_call 22; refine (RM.out _ _ (by first | exact HR13.out | exact HR13.out.below ((Below.refl _ _).drew)) (HW.out _ (by first | exact HB13.out | exact HB13.out.drew))).mono ?_; rintro e wE ⟨rfl, hbE'⟩; have hbE : Below w13.heap.size w13 wE := (by first | exact hbE' | exact ((Below.refl _ _).drew).trans hbE'); have sE := (HT13.out.below hbE HT13.out.lt).at (i := 0) rfl; obtain ⟨re, rcE, hgcE, hinE⟩ := rows_at (HR13.out.below hbE) HPL.out))
    all_goals
      go_wp2_with fail
      go_ret
      exact ⟨rfl, chainE (chainS HB13.out hbF)⟩

set_option maxRecDepth 20000 in
set_option maxHeartbeats 8000000 in
theorem TimesL_half (K n : Nat) (vu vw : Value) (xs ys : List Int) (w : World) (hv : validB K n = true) (hx : Ints w vu xs) (hy : Ints w vw ys) (q1 : wordB (mirs K n) xs = true) (q2 : wordB (mirs K n) ys = false) :
    Calls Try.prog 3 #[.agg #[.int .u8 (K : Nat), .int .i64 (n : Nat)], vu, vw] w (TrueM w) := by
  have hK := K_lt hv
  have hok : okI K (n : Int) [xs] = true := by rw [okI_cast hv]; simp [q1]
  have FN := Lib.hid (fun w' v' (ha : Args w' v' [xs]) => by have := fine_any K (n : Int) v' [xs] w' hK ha; rw [hok] at this; exact this)
  have AW := Lib.hid (fun w' => awake_any w')
  have OF := Lib.hid (fun w' => Of_any K (n : Int) w')
  have hwd := Word_any K n
  have WD := Lib.hid (fun w' (hi : Ints w' vw ys) => by have := Word_any K n vw ys w' hv hi; rw [q2] at this; exact this)
  have EL := Lib.hid (fun w' => Elements_any K n w' hv)
  have n1 := word_nat q1
  have LU := Lib.hid (fun w' (hb : Below (w.heap.size + 1) (w.alloc (.cells #[.int .u8 (K : Nat), .int .i64 (n : Nat)] 23)) w') => by have := list_any vu xs w' (intsS hx hb); rw [List.take_of_length_le (by omega)] at this; exact this)
  have HU := Lib.hid (fun w' (hb : Below (w.heap.size + 1) (w.alloc (.cells #[.int .u8 (K : Nat), .int .i64 (n : Nat)] 23)) w') => intsS hx hb)
  have HW := Lib.hid (fun w' (hb : Below (w.heap.size + 1) (w.alloc (.cells #[.int .u8 (K : Nat), .int .i64 (n : Nat)] 23)) w') => intsS hy hb)
  have BK := Lib.hid (fun v' w' (hi : Ints w' v' xs) => by have := Back_yes K n v' xs w' hv hi q1; rw [inv_walk hv _ n1.2.1] at this; exact this)
  have hlu := word_len q1
  have HX := Lib.hid (ix_lt hv q1)
  have RN := Lib.hid (fun w' v' (ht : RT (wordsG K n) (nextG K n) w' v') (hi : Ints w' vu xs) => show Calls Try.prog 22 #[v', .int .i64 ((0 : Nat) : Int), vu] w' fun e w'' => e = .returned (.int .i64 ((ix K n xs : Nat) : Int)) ∧ Below w'.heap.size w' w'' from RNumber_any v' 0 vu (natW xs) w' ht (tkG hv) (by rw [n1.1]; exact hi) (tkG hv).pos n1.2.1)
  have RB := Lib.hid (fun w' v' (ht : RT (wordsG K n) (nextG K n) w' v') => RBack_any v' (ix K n xs) w' ht (tkG hv) (ix_lt hv q1))
  have HBL := Lib.hid (show walkX (nextG K n) 0 ((wordsG K n).getD (ix K n xs) []).reverse < (wordsG K n).length from (tkG hv).walk _ _ (tkG hv).pos fun x hx => (tkG hv).letter _ (by rw [getDL (ix_lt hv q1)]; exact List.getElem_mem _) x (List.mem_reverse.1 hx))
  have hE : walkX (nextG K n) 0 ((wordsG K n).getD (walkX (nextG K n) 0 (natW xs)) []).reverse = walkX (nextG K n) 0 ((wordsG K n).getD (ix K n xs) []).reverse := rfl
  obtain ⟨B, hB⟩ : ∃ B, walkX (nextG K n) 0 ((wordsG K n).getD (ix K n xs) []).reverse = B := ⟨_, rfl⟩
  rw [hE, hB] at BK
  rw [hB] at HBL RB
  have HTW := Lib.hid (tabW hv)
  have hWl : (wordsG K n).length ≤ 120 := (tkG hv).small
  have hx0 := ix_lt hv q1
  have LW := Lib.hid (fun w' (hb : Below (w.heap.size + 1) (w.alloc (.cells #[.int .u8 (K : Nat), .int .i64 (n : Nat)] 23)) w') => list_any vw ys w' (intsS hy hb))
  have TM := Lib.hid (fun u' v' w' (hi : Ints w' u' xs) (hj : Ints w' v' (ys.take 34)) => Times_no K (n : Int) u' v' _ _ w' hK hi hj (okI_no2 hv (by rw [wordB_take]; exact q2)))
  have hlw : (ys.take 34).length ≤ 17592186044416 := by rw [List.length_take]; omega
  obtain ⟨a, c, rfl, hx1⟩ := hx
  obtain ⟨a2, c2, rfl, hy1⟩ := hy
  obtain ⟨iu, hiu⟩ : ∃ iu, ix K n xs = iu := ⟨_, rfl⟩
  rw [hiu] at *
  unfold grpI at *
  clear hx1 hy1 hok hK n1 q1 q2 hB hE hwd hx0 HX
  go_enter Try.func3, Try.ntmps3
  go_upto_region 7 with (first
      | (go_at_call 22; refine (RN.out w10 _ (hr9.below hb10') (HU.out w10 hb10)).mono ?_; rintro e w11 ⟨rfl, hb11'⟩; have hb11 := chainS hb10 hb11')
      | ((with_reducible refine is_store 36 ?_); refine wpl_store_rt (by rfl) _ _ (by rfl) w9.heap.size (.slice (some ⟨gW, 0, none⟩) (wordsG K n).length cW) (.slice aP lP cP) (.slice aX lX cX) [.slice none 0 0, .slice none 0 0, .slice none 0 0] rfl (by rfl) (by rfl) (by rfl) (by rfl) (by rfl) (Held.made (by simp)) ?_; intro w10 hT10 hsm10 hsz10; have hb10' : Below w9.heap.size w9 w10 := hsm10.below ((Below.refl _ _).alloc (Nat.le_refl _) _) (Nat.le_refl _) (by simp); have hb10 := chainS hb9 hb10'; have t0 := hT10.at (i := 0) rfl; have t1 := hT10.at (i := 1) rfl; have t2 := hT10.at (i := 2) rfl; clear hsm10 hsz10)
      | (go_at_call 21; refine (EL.out w8).mono ?_; rintro e w9 ⟨v9, rfl, hrt9, hb9'⟩; have hb9 := chainS hb8 hb9'; have hr9 := hrt9.rt; clear hrt9; obtain ⟨gW, cW, aP, lP, cP, aX, lX, cX, rfl⟩ := RT.made hr9 (tkG hv).pos)
      | (go_at_call 19; refine (FN.out _ _ (args1 (HU.out w7 hb7) _ rfl)).mono ?_; rintro e w8 ⟨rfl, hb8q⟩; have hb8' := below_al (Nat.le_refl _) hb8q; have hb8 := chainS hb7 hb8'; have g80 := (heldS hb8).at (i := 0) rfl; have g81 := (heldS hb8).at (i := 1) rfl)
      | (go_at_call 18; refine (BK.out v6 w6 (ho6.ints hlu)).mono ?_; rintro e w7 ⟨v7, rfl, ho7, hb7'⟩; have hb7 := chainS hb6 hb7'; have g70 := (heldS hb7).at (i := 0) rfl; have g71 := (heldS hb7).at (i := 1) rfl; obtain ⟨a7, c7, rfl⟩ := own_lenX ho7)
      | (go_at_call 17; refine (LU.out w5 hb5).mono ?_; rintro e w6 ⟨v6, rfl, ho6, hb6'⟩; have hb6 := chainS hb5 hb6')
      | (go_at_call 16; refine (OF.out _).mono ?_; rintro e w5 ⟨rfl, hb5'⟩; have hb5 := chainS hb4 hb5')
      | (go_at_call 15; refine (TM.out v2 v3 w3 ((ho2.below hb3').ints hlu) (ho3.ints hlw)).mono ?_; rintro e w4 ⟨rfl, hb4'⟩; have hb4 := chainS hb3 hb4'; have g40 := (heldS hb4).at (i := 0) rfl; have g41 := (heldS hb4).at (i := 1) rfl)
      | (go_at_call 17; refine (LW.out w2 hb2).mono ?_; rintro e w3 ⟨v3, rfl, ho3, hb3'⟩; have hb3 := chainS hb2 hb3')
      | (go_at_call 17; refine (LU.out w1 hb1).mono ?_; rintro e w2 ⟨v2, rfl, ho2, hb2'⟩; have hb2 := chainS hb1 hb2')
      | (go_at_call 16; refine (OF.out _).mono ?_; rintro e w1 ⟨rfl, hb1q⟩; have hb1 := hb1q.mono (show w.heap.size + 1 ≤ _ by simp)))
  have hr11 := ((hr9.below hb10').below hb11')
  have hT11 := (hT10.below hb11' hT10.lt)
  have s0 := hT11.at (i := 0) rfl
  have s1 := hT11.at (i := 1) rfl
  have s2 := hT11.at (i := 2) rfl
  have HO7 := Lib.hid ((((ho7.below hb8').below hb9').below hb10').below hb11')
  have HLB := Lib.hid (word_len (HTW.out.wd B HBL.out))
  have hBi : (B : Int) < ((wordsG K n).length : Int) := by have := HBL.out; omega
  have HR11 := Lib.hid hr11
  have HT11 := Lib.hid hT11
  have HB11 := Lib.hid hb11
  clear hb2' hb3' hb4' hb5' hb6' hb7' hb8' hb9' hb10' hb11' hb1 hb2 hb3 hb4 hb5 hb6 hb7 hb8 hb9 hb10 hb11 hr11 hT11 hT10 hr9 hb1q hb8q t0 t1 t2 ho2 ho3 ho6 ho7
  clear g40 g41 g70 g71 g80 g81
  go_cut [75] from 58 to 74 (fun v wq => v = .bool false ∧ Below w11.heap.size w11 wq)
  case first =>
    go_region_with (first
      | (go_at_call 20; refine (AW.out _).mono ?_; rintro e wD ⟨rfl, hbD'⟩; have hbD := chainT hbC hbD')
      | (go_at_call 23; refine (EqualM_any _ _ _ _ wB ((HO7.out.below hbB).ints HLB.out) hinB true (by simp)).mono ?_; rintro e wC ⟨rfl, hbC'⟩; have hbC := chainT hbB hbC')
      | (go_at_call 24; refine (RB.out _ _ (by first | exact HR11.out | exact HR11.out.below ((Below.refl _ _).drew))).mono ?_; rintro e wB ⟨rfl, hbB'⟩; have hbB : Below w11.heap.size w11 wB := (by first | exact hbB' | exact ((Below.refl _ _).drew).trans hbB'); have sB := (HT11.out.below hbB HT11.out.lt).at (i := 0) rfl; obtain ⟨rb, rcB, hgcB, hinB⟩ := rows_at (HR11.out.below hbB) HBL.out))
    all_goals (go_wp2_with fail; go_meet)
    all_goals exact ⟨rfl, hbD⟩
  case rest =>
    rename_i wz
    obtain ⟨rfl, hb12'⟩ := hcut
    have hB12 := chainS HB11.out hb12'
    have g0 := (heldS hB12).at (i := 0) rfl
    have g1 := (heldS hB12).at (i := 1) rfl
    clear s0 s1 s2
    go_wp2_with (go_at_call 25; refine (WD.out _ (HW.out _ hB12)).mono ?_; rintro e w13 ⟨rfl, hb13'⟩; have hb13 := chainS hB12 hb13')
    go_ret
    exact ⟨rfl, chainE hb13⟩

theorem mirrorTimes_true (K : Nat) (n : Int) (vu : Value) (xs : List Int) (vw : Value) (ys : List Int) (w : World) (hK : K < 256) (hx : Ints w vu xs) (hy : Ints w vw ys) :
    Calls Try.prog 3 #[grpI K n, vu, vw] w (TrueM w) := by
  cases hok : okI K n [xs] with
  | false => exact TimesL_no K n vu vw xs ys w hK hx hy hok
  | true =>
    obtain ⟨m, rfl, hv, hall⟩ := okI_nat hok
    simp only [List.all_cons, List.all_nil, Bool.and_true] at hall
    unfold grpI
    cases q2 : wordB (mirs K m) ys with
    | true => exact TimesL_yes K m vu vw xs ys w hv hx hy hall q2
    | false => exact TimesL_half K m vu vw xs ys w hv hx hy hall q2
end Go.Proofs.Ytmlhecfhhhebnaa
