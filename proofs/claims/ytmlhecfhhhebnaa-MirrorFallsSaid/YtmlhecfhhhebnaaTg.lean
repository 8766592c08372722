/- MirrorFalls: the walk where Leave answers; the law. -/
import Derived.Test.YtmlhecfhhhebnaaTf
namespace Go.Proofs.Ytmlhecfhhhebnaa
open Go.RowKit
attribute [local go_sem] Oper.semAt_some

set_option maxRecDepth 20000 in
set_option maxHeartbeats 3000000 in
theorem FallsL_good (K n : Nat) (vu : Value) (xs : List Int) (s : Nat) (w : World) (hv : validB K n = true) (hx : Ints w vu xs) (q1 : wordB (mirs K n) xs = true) (hl : lenX (wordsG K n) (ix K n xs) = xs.length) (hc : s < mirs K n) (r : Option Nat) (hr : leaveAt (nextG K n) (natW xs) (stepX (nextG K n) (ix K n xs) s) = r) :
    Calls Try.prog 4 #[.agg #[.int .u8 (K : Nat), .int .i64 (n : Nat)], vu, .int .i64 (s : Nat)] w (TrueM w) := by
  have hK := K_lt hv
  have hok : okI K (n : Int) [xs] = true := by rw [okI_cast hv]; simp [q1]
  have FN := Lib.hid (fun w' v' (ha : Args w' v' [xs]) => by have := fine_any K (n : Int) v' [xs] w' hK ha; rw [hok] at this; exact this)
  have AW := Lib.hid (fun w' => awake_any w')
  have OF := Lib.hid (fun w' => Of_any K (n : Int) w')
  have EL := Lib.hid (fun w' => Elements_any K n w' hv)
  have HPOS := Lib.hid (tkG hv).pos
  have n1 := word_nat q1
  have hnl := natW_length xs
  have LU := Lib.hid (fun w' (hb : Below (w.heap.size + 1) (w.alloc (.cells #[.int .u8 (K : Nat), .int .i64 (n : Nat)] 23)) w') => by have := list_any vu xs w' (intsS hx hb); rw [List.take_of_length_le (by omega)] at this; exact this)
  have HU := Lib.hid (fun w' (hb : Below (w.heap.size + 1) (w.alloc (.cells #[.int .u8 (K : Nat), .int .i64 (n : Nat)] 23)) w') => intsS hx hb)
  have hlu := word_len q1
  have hm4 := mirs_le hv
  have FA := Lib.hid (fun v' w' (hi : Ints w' v' xs) => Falls_yes K n v' xs w' hv hi q1)
  have RN := Lib.hid (fun w' v' (ht : RT (wordsG K n) (nextG K n) w' v') (hi : Ints w' vu xs) => show Calls Try.prog 22 #[v', .int .i64 ((0 : Nat) : Int), vu] w' fun e w'' => e = .returned (.int .i64 ((ix K n xs : Nat) : Int)) ∧ Below w'.heap.size w' w'' from RNumber_any v' 0 vu (natW xs) w' ht (tkG hv) (by rw [n1.1]; exact hi) (tkG hv).pos n1.2.1)
  have RF := Lib.hid (fun w' v' (ht : RT (wordsG K n) (nextG K n) w' v') => RFalls_any v' (ix K n xs) w' ht (tkG hv) (ix_lt hv q1))
  have RL := Lib.hid (fun w' v' (ht : RT (wordsG K n) (nextG K n) w' v') => RLength_any v' (ix K n xs) w' ht (tkG hv) (ix_lt hv q1))
  have MR := Lib.hid (fun w' => RMirrors_any K n w' hv)
  have LE := Lib.hid (fun v' w' (hi : Ints w' v' xs) => by have := Leave_yes K n v' xs s w' hv hi q1 hc hl; rw [hr] at this; exact this)
  have RE := Lib.hid (fun w' v' (ht : RT (wordsG K n) (nextG K n) w' v') (hi : Ints w' vu xs) => by have := RLeave_any v' vu (natW xs) s w' ht (tkG hv) (by rw [n1.1]; exact hi) n1.2.1 hc; rw [leave_same hv (natW xs) n1.2.1 s hc (by rw [hnl]; exact hl), show walkX (nextG K n) 0 (natW xs) = ix K n xs from rfl, hr] at this; exact this)
  obtain ⟨FV, hFV⟩ : ∃ FV, fallsTo (wordsG K n) (nextG K n) (ix K n xs) (mirs K n) = FV := ⟨_, rfl⟩
  rw [hFV] at FA RF
  obtain ⟨lx, hlx⟩ : ∃ lx, lenX (wordsG K n) (ix K n xs) = lx := ⟨_, rfl⟩
  rw [hl] at RL
  obtain ⟨m, hm⟩ : ∃ m, mirs K n = m := ⟨_, rfl⟩
  rw [hm] at MR hm4 hc
  have d0 : decide ((s : Int) < 0) = false := by simp
  have d1 : decide (m ≤ s) = false := by simp; omega
  have d1' : ¬ m ≤ s := by omega
  clear hc hl hm hr
  obtain ⟨a, c, rfl, hx1⟩ := hx
  obtain ⟨iu, hiu⟩ : ∃ iu, ix K n xs = iu := ⟨_, rfl⟩
  rw [hiu] at *
  unfold grpI at *
  clear hx1 hok hK n1 q1 hv hnl hFV hlx
  cases r with
  | none =>
    have hLV : LvV (none) = .tuple #[.int .i64 0, .int .i64 4] := rfl
    go_enter Try.func4, Try.ntmps4
    go_wp2_with (first
        | (go_at_call 31; refine (RE.out w14 _ ((((((hr8.below hb9').below hb10').below hb11').below hb12').below hb13').below hb14') (HU.out w14 hb14)).mono ?_; rintro e w15 ⟨rfl, hb15'⟩; have hb15 := chainS hb14 hb15')
        | (go_at_call 30; refine (MR.out w13).mono ?_; rintro e w14 ⟨rfl, hb14'⟩; have hb14 := chainS hb13 hb14'; have t140 := (((((hT9.bel hb10').bel hb11').bel hb12').bel hb13').bel hb14').at (i := 0) rfl; have t141 := (((((hT9.bel hb10').bel hb11').bel hb12').bel hb13').bel hb14').at (i := 1) rfl; have t142 := (((((hT9.bel hb10').bel hb11').bel hb12').bel hb13').bel hb14').at (i := 2) rfl)
        | (go_at_call 29; refine (RL.out w12 _ ((((hr8.below hb9').below hb10').below hb11').below hb12')).mono ?_; rintro e w13 ⟨rfl, hb13'⟩; have hb13 := chainS hb12 hb13'; have g130 := (heldS hb13).at (i := 0) rfl; have g131 := (heldS hb13).at (i := 1) rfl; have t130 := ((((hT9.bel hb10').bel hb11').bel hb12').bel hb13').at (i := 0) rfl; have t131 := ((((hT9.bel hb10').bel hb11').bel hb12').bel hb13').at (i := 1) rfl; have t132 := ((((hT9.bel hb10').bel hb11').bel hb12').bel hb13').at (i := 2) rfl)
        | (go_at_call 20; refine (AW.out _).mono ?_; rintro e w12 ⟨rfl, hb12'⟩; have hb12 := chainS hb11 hb12'; have t120 := (((hT9.bel hb10').bel hb11').bel hb12').at (i := 0) rfl; have t121 := (((hT9.bel hb10').bel hb11').bel hb12').at (i := 1) rfl; have t122 := (((hT9.bel hb10').bel hb11').bel hb12').at (i := 2) rfl)
        | (go_at_call 28; refine (RF.out w10 _ ((hr8.below hb9').below hb10')).mono ?_; rintro e w11 ⟨rfl, hb11'⟩; have hb11 := chainS hb10 hb11')
        | (go_at_call 22; refine (RN.out w9 _ (hr8.below hb9') (HU.out w9 hb9)).mono ?_; rintro e w10 ⟨rfl, hb10'⟩; have hb10 := chainS hb9 hb10'; have t100 := (hT9.bel hb10').at (i := 0) rfl; have t101 := (hT9.bel hb10').at (i := 1) rfl; have t102 := (hT9.bel hb10').at (i := 2) rfl)
        | ((with_reducible refine is_store 36 ?_); refine wpl_store_rt (by rfl) _ _ (by rfl) w8.heap.size (.slice (some ⟨gW, 0, none⟩) (wordsG K n).length cW) (.slice aP lP cP) (.slice aX lX cX) [.slice none 0 0, .slice none 0 0, .slice none 0 0] rfl (by rfl) (by rfl) (by rfl) (by rfl) (by rfl) (Held.made (by simp)) ?_; intro w9 hT9 hsm9 hsz9; have hb9' : Below w8.heap.size w8 w9 := hsm9.below ((Below.refl _ _).alloc (Nat.le_refl _) _) (Nat.le_refl _) (by simp); have hb9 := chainS hb8 hb9'; have t0 := hT9.at (i := 0) rfl; have t1 := hT9.at (i := 1) rfl; have t2 := hT9.at (i := 2) rfl; clear hsm9 hsz9)
        | (go_at_call 21; refine (EL.out w7).mono ?_; rintro e w8 ⟨v8, rfl, hrt8, hb8'⟩; have hb8 := chainS hb7 hb8'; have hr8 := hrt8.rt; clear hrt8; obtain ⟨gW, cW, aP, lP, cP, aX, lX, cX, rfl⟩ := RT.made hr8 HPOS.out)
        | (go_at_call 19; refine (FN.out _ _ (args1 (HU.out w6 hb6) _ rfl)).mono ?_; rintro e w7 ⟨rfl, hb7q⟩; have hb7' := below_al (Nat.le_refl _) hb7q; have hb7 := chainS hb6 hb7'; have g70 := (heldS hb7).at (i := 0) rfl; have g71 := (heldS hb7).at (i := 1) rfl)
        | (go_at_call 27; refine (LE.out v5 w5 (ho5.ints hlu)).mono ?_; rintro e w6 ⟨rfl, hb6'⟩; have hb6 := chainS hb5 hb6'; have g60 := (heldS hb6).at (i := 0) rfl; have g61 := (heldS hb6).at (i := 1) rfl)
        | (go_at_call 17; refine (LU.out w4 hb4).mono ?_; rintro e w5 ⟨v5, rfl, ho5, hb5'⟩; have hb5 := chainS hb4 hb5')
        | (go_at_call 16; refine (OF.out _).mono ?_; rintro e w4 ⟨rfl, hb4'⟩; have hb4 := chainS hb3 hb4')
        | (go_at_call 26; refine (FA.out v2 w2 (ho2.ints hlu)).mono ?_; rintro e w3 ⟨rfl, hb3'⟩; have hb3 := chainS hb2 hb3'; have g30 := (heldS hb3).at (i := 0) rfl; have g31 := (heldS hb3).at (i := 1) rfl)
        | (go_at_call 17; refine (LU.out w1 hb1).mono ?_; rintro e w2 ⟨v2, rfl, ho2, hb2'⟩; have hb2 := chainS hb1 hb2')
        | (go_at_call 16; refine (OF.out _).mono ?_; rintro e w1 ⟨rfl, hb1q⟩; have hb1 := hb1q.mono (show w.heap.size + 1 ≤ _ by simp)))
    go_ret
    exact ⟨rfl, chainE hb15⟩
  | some kk =>
    have hLV : LvV (some kk) = .tuple #[.int .i64 (kk : Nat), .int .i64 0] := rfl
    go_enter Try.func4, Try.ntmps4
    go_wp2_with (first
        | (go_at_call 31; refine (RE.out w14 _ ((((((hr8.below hb9').below hb10').below hb11').below hb12').below hb13').below hb14') (HU.out w14 hb14)).mono ?_; rintro e w15 ⟨rfl, hb15'⟩; have hb15 := chainS hb14 hb15')
        | (go_at_call 30; refine (MR.out w13).mono ?_; rintro e w14 ⟨rfl, hb14'⟩; have hb14 := chainS hb13 hb14'; have t140 := (((((hT9.bel hb10').bel hb11').bel hb12').bel hb13').bel hb14').at (i := 0) rfl; have t141 := (((((hT9.bel hb10').bel hb11').bel hb12').bel hb13').bel hb14').at (i := 1) rfl; have t142 := (((((hT9.bel hb10').bel hb11').bel hb12').bel hb13').bel hb14').at (i := 2) rfl)
        | (go_at_call 29; refine (RL.out w12 _ ((((hr8.below hb9').below hb10').below hb11').below hb12')).mono ?_; rintro e w13 ⟨rfl, hb13'⟩; have hb13 := chainS hb12 hb13'; have g130 := (heldS hb13).at (i := 0) rfl; have g131 := (heldS hb13).at (i := 1) rfl; have t130 := ((((hT9.bel hb10').bel hb11').bel hb12').bel hb13').at (i := 0) rfl; have t131 := ((((hT9.bel hb10').bel hb11').bel hb12').bel hb13').at (i := 1) rfl; have t132 := ((((hT9.bel hb10').bel hb11').bel hb12').bel hb13').at (i := 2) rfl)
        | (go_at_call 20; refine (AW.out _).mono ?_; rintro e w12 ⟨rfl, hb12'⟩; have hb12 := chainS hb11 hb12'; have t120 := (((hT9.bel hb10').bel hb11').bel hb12').at (i := 0) rfl; have t121 := (((hT9.bel hb10').bel hb11').bel hb12').at (i := 1) rfl; have t122 := (((hT9.bel hb10').bel hb11').bel hb12').at (i := 2) rfl)
        | (go_at_call 28; refine (RF.out w10 _ ((hr8.below hb9').below hb10')).mono ?_; rintro e w11 ⟨rfl, hb11'⟩; have hb11 := chainS hb10 hb11')
        | (go_at_call 22; refine (RN.out w9 _ (hr8.below hb9') (HU.out w9 hb9)).mono ?_; rintro e w10 ⟨rfl, hb10'⟩; have hb10 := chainS hb9 hb10'; have t100 := (hT9.bel hb10').at (i := 0) rfl; have t101 := (hT9.bel hb10').at (i := 1) rfl; have t102 := (hT9.bel hb10').at (i := 2) rfl)
        | ((with_reducible refine is_store 36 ?_); refine wpl_store_rt (by rfl) _ _ (by rfl) w8.heap.size (.slice (some ⟨gW, 0, none⟩) (wordsG K n).length cW) (.slice aP lP cP) (.slice aX lX cX) [.slice none 0 0, .slice none 0 0, .slice none 0 0] rfl (by rfl) (by rfl) (by rfl) (by rfl) (by rfl) (Held.made (by simp)) ?_; intro w9 hT9 hsm9 hsz9; have hb9' : Below w8.heap.size w8 w9 := hsm9.below ((Below.refl _ _).alloc (Nat.le_refl _) _) (Nat.le_refl _) (by simp); have hb9 := chainS hb8 hb9'; have t0 := hT9.at (i := 0) rfl; have t1 := hT9.at (i := 1) rfl; have t2 := hT9.at (i := 2) rfl; clear hsm9 hsz9)
        | (go_at_call 21; refine (EL.out w7).mono ?_; rintro e w8 ⟨v8, rfl, hrt8, hb8'⟩; have hb8 := chainS hb7 hb8'; have hr8 := hrt8.rt; clear hrt8; obtain ⟨gW, cW, aP, lP, cP, aX, lX, cX, rfl⟩ := RT.made hr8 HPOS.out)
        | (go_at_call 19; refine (FN.out _ _ (args1 (HU.out w6 hb6) _ rfl)).mono ?_; rintro e w7 ⟨rfl, hb7q⟩; have hb7' := below_al (Nat.le_refl _) hb7q; have hb7 := chainS hb6 hb7'; have g70 := (heldS hb7).at (i := 0) rfl; have g71 := (heldS hb7).at (i := 1) rfl)
        | (go_at_call 27; refine (LE.out v5 w5 (ho5.ints hlu)).mono ?_; rintro e w6 ⟨rfl, hb6'⟩; have hb6 := chainS hb5 hb6'; have g60 := (heldS hb6).at (i := 0) rfl; have g61 := (heldS hb6).at (i := 1) rfl)
        | (go_at_call 17; refine (LU.out w4 hb4).mono ?_; rintro e w5 ⟨v5, rfl, ho5, hb5'⟩; have hb5 := chainS hb4 hb5')
        | (go_at_call 16; refine (OF.out _).mono ?_; rintro e w4 ⟨rfl, hb4'⟩; have hb4 := chainS hb3 hb4')
        | (go_at_call 26; refine (FA.out v2 w2 (ho2.ints hlu)).mono ?_; rintro e w3 ⟨rfl, hb3'⟩; have hb3 := chainS hb2 hb3'; have g30 := (heldS hb3).at (i := 0) rfl; have g31 := (heldS hb3).at (i := 1) rfl)
        | (go_at_call 17; refine (LU.out w1 hb1).mono ?_; rintro e w2 ⟨v2, rfl, ho2, hb2'⟩; have hb2 := chainS hb1 hb2')
        | (go_at_call 16; refine (OF.out _).mono ?_; rintro e w1 ⟨rfl, hb1q⟩; have hb1 := hb1q.mono (show w.heap.size + 1 ≤ _ by simp)))
    go_ret
    exact ⟨rfl, chainE hb15⟩

theorem mirrorFalls_true (K : Nat) (n : Int) (vu : Value) (xs : List Int) (s : Int) (w : World) (hK : K < 256) (hx : Ints w vu xs) (_ : -9223372036854775808 ≤ s ∧ s ≤ 9223372036854775807) :
    Calls Try.prog 4 #[grpI K n, vu, .int .i64 s] w (TrueM w) := by
  cases hok : okI K n [xs] with
  | false => exact FallsL_no K n vu xs s w hK hx hok
  | true =>
    obtain ⟨m, rfl, hv, hall⟩ := okI_nat hok
    simp only [List.all_cons, List.all_nil, Bool.and_true] at hall
    unfold grpI
    by_cases hl : lenX (wordsG K m) (ix K m xs) = xs.length
    · by_cases h0 : s < 0
      · exact FallsL_neg K m vu xs s w hv hx hall hl h0
      · by_cases h1 : (mirs K m : Int) ≤ s
        · exact FallsL_big K m vu xs s w hv hx hall hl h0 h1
        · obtain ⟨t, rfl⟩ := Int.eq_ofNat_of_zero_le (Int.not_lt.1 h0)
          exact FallsL_good K m vu xs t w hv hx hall hl (by omega) _ rfl
    · exact FallsL_len K m vu xs s w hv hx hall hl
end Go.Proofs.Ytmlhecfhhhebnaa
