/- MirrorWords: the walks. -/
import Derived.Test.YtmlhecfhhhebnaaW1
namespace Go.Proofs.Ytmlhecfhhhebnaa
open Go.RowKit
attribute [local go_sem] Oper.semAt_some

set_option maxRecDepth 20000 in
set_option maxHeartbeats 4000000 in
theorem WordsL_no (K : Nat) (n : Int) (vu : Value) (xs : List Int) (w : World) (hK : K < 256) (hx : Ints w vu xs) (h : okI K n [xs] = false) :
    Calls Try.prog 8 #[grpI K n, vu] w (TrueM w) := by
  have FN := Lib.hid (fun w' v' (ha : Args w' v' [xs]) => by have := fine_any K n v' [xs] w' hK ha; rw [h] at this; exact this)
  have AW := Lib.hid (fun w' => awake_any w')
  have OF := Lib.hid (fun w' => Of_any K n w')
  have LU := Lib.hid (fun w' (hb : Below (w.heap.size + 1) (w.alloc (.cells #[.int .u8 (K : Nat), .int .i64 n] 23)) w') => list_any vu xs w' (intsS hx hb))
  have HU := Lib.hid (fun w' (hb : Below (w.heap.size + 1) (w.alloc (.cells #[.int .u8 (K : Nat), .int .i64 n] 23)) w') => intsS hx hb)
  have NO := Lib.hid (fun v' w' (hi : Ints w' v' (xs.take 34)) => Normal_no K n v' _ w' hK hi (by rw [okI_take1]; exact h))
  have NL := Lib.hid (fun v' w' (hi : Ints w' v' (xs.take 34)) => Length_no K n v' _ w' hK hi (by rw [okI_take1]; exact h))
  have WS := Lib.hid (fun v' w' (hi : Ints w' v' (xs.take 34)) => Words_no K n v' _ w' hK hi (by rw [okI_take1]; exact h))
  have hlu : (xs.take 34).length ≤ 17592186044416 := by rw [List.length_take]; omega
  obtain ⟨a, c, rfl, hx1⟩ := hx
  unfold grpI at *
  clear hx1 h
  go_enter Try.func8, Try.ntmps8
  go_wp2_with (first
      | (go_at_call 20; refine (AW.out _).mono ?_; rintro e w11 ⟨rfl, hb11'⟩; have hb11 := chainS hb10 hb11')
      | (go_at_call 19; refine (FN.out _ _ (args1 (HU.out w9 hb9) _ rfl)).mono ?_; rintro e w10 ⟨rfl, hb10q⟩; have hb10' := below_al (Nat.le_refl _) hb10q; have hb10 := chainS hb9 hb10'; have g100 := (heldS hb10).at (i := 0) rfl; have g101 := (heldS hb10).at (i := 1) rfl)
      | (go_at_call 42; refine (WS.out v8 w8 (ho8.ints hlu)).mono ?_; rintro e w9 ⟨rfl, hb9'⟩; have hb9 := chainS hb8 hb9'; have g90 := (heldS hb9).at (i := 0) rfl; have g91 := (heldS hb9).at (i := 1) rfl)
      | (go_at_call 17; refine (LU.out w7 hb7).mono ?_; rintro e w8 ⟨v8, rfl, ho8, hb8'⟩; have hb8 := chainS hb7 hb8')
      | (go_at_call 16; refine (OF.out _).mono ?_; rintro e w7 ⟨rfl, hb7'⟩; have hb7 := chainS hb6 hb7')
      | (go_at_call 41; refine (NL.out v5 w5 (ho5.ints hlu)).mono ?_; rintro e w6 ⟨rfl, hb6'⟩; have hb6 := chainS hb5 hb6'; have g60 := (heldS hb6).at (i := 0) rfl; have g61 := (heldS hb6).at (i := 1) rfl)
      | (go_at_call 17; refine (LU.out w4 hb4).mono ?_; rintro e w5 ⟨v5, rfl, ho5, hb5'⟩; have hb5 := chainS hb4 hb5')
      | (go_at_call 16; refine (OF.out _).mono ?_; rintro e w4 ⟨rfl, hb4'⟩; have hb4 := chainS hb3 hb4')
      | (go_at_call 36; refine (NO.out v2 w2 (ho2.ints hlu)).mono ?_; rintro e w3 ⟨rfl, hb3'⟩; have hb3 := chainS hb2 hb3'; have g30 := (heldS hb3).at (i := 0) rfl; have g31 := (heldS hb3).at (i := 1) rfl)
      | (go_at_call 17; refine (LU.out w1 hb1).mono ?_; rintro e w2 ⟨v2, rfl, ho2, hb2'⟩; have hb2 := chainS hb1 hb2')
      | (go_at_call 16; refine (OF.out _).mono ?_; rintro e w1 ⟨rfl, hb1q⟩; have hb1 := hb1q.mono (show w.heap.size + 1 ≤ _ by simp)))
  go_ret
  exact ⟨rfl, chainE hb11⟩

set_option maxRecDepth 20000 in
set_option maxHeartbeats 8000000 in
theorem WordsL_yes (K n : Nat) (vu : Value) (xs : List Int) (w : World) (hv : validB K n = true) (hx : Ints w vu xs) (q1 : wordB (mirs K n) xs = true) :
    Calls Try.prog 8 #[.agg #[.int .u8 (K : Nat), .int .i64 (n : Nat)], vu] w (TrueM w) := by
  have hK := K_lt hv
  have hok : okI K (n : Int) [xs] = true := by rw [okI_cast hv]; simp [q1]
  have FN := Lib.hid (fun w' v' (ha : Args w' v' [xs]) => by have := fine_any K (n : Int) v' [xs] w' hK ha; rw [hok] at this; exact this)
  have AW := Lib.hid (fun w' => awake_any w')
  have OF := Lib.hid (fun w' => Of_any K (n : Int) w')
  have EL := Lib.hid (fun w' => Elements_any K n w' hv)
  have n1 := word_nat q1
  have hil := ix_lt hv q1
  have LU := Lib.hid (fun w' (hb : Below (w.heap.size + 1) (w.alloc (.cells #[.int .u8 (K : Nat), .int .i64 (n : Nat)] 23)) w') => by have := list_any vu xs w' (intsS hx hb); rw [List.take_of_length_le (by omega)] at this; exact this)
  have HU := Lib.hid (fun w' (hb : Below (w.heap.size + 1) (w.alloc (.cells #[.int .u8 (K : Nat), .int .i64 (n : Nat)] 23)) w') => intsS hx hb)
  have hlu := word_len q1
  have RN := Lib.hid (fun w' v' (ht : RT (wordsG K n) (nextG K n) w' v') (hi : Ints w' vu xs) => show Calls Try.prog 22 #[v', .int .i64 ((0 : Nat) : Int), vu] w' fun e w'' => e = .returned (.int .i64 ((ix K n xs : Nat) : Int)) ∧ Below w'.heap.size w' w'' from RNumber_any v' 0 vu (natW xs) w' ht (tkG hv) (by rw [n1.1]; exact hi) (tkG hv).pos n1.2.1)
  have NO := Lib.hid (fun v' w' (hi' : Ints w' v' xs) => Normal_yes K n v' xs w' hv hi' q1)
  have NL := Lib.hid (fun v' w' (hi' : Ints w' v' xs) => Length_yes K n v' xs w' hv hi' q1)
  have WS := Lib.hid (fun v' w' (hi' : Ints w' v' xs) => Words_yes K n v' xs w' hv hi' q1)
  have RL := Lib.hid (fun w' v' (ht : RT (wordsG K n) (nextG K n) w' v') => RLength_any v' (ix K n xs) w' ht (tkG hv) hil)
  have RS := Lib.hid (fun w' v' (ht : RT (wordsG K n) (nextG K n) w' v') => RShort_group hv v' (ix K n xs) w' ht hil)
  have hlL : (toI ((wordsG K n).getD (ix K n xs) [])).length ≤ 17592186044416 := by rw [toI_length]; have := wd_short (tkG hv) hil; omega
  obtain ⟨R, hR⟩ : ∃ R, shR (wordsG K n) (nextG K n) (lenX (wordsG K n) (ix K n xs)) (ix K n xs) = R := ⟨_, rfl⟩
  have hck := ckSG hv
  have hRl : R.length ≤ 1000000 := by rw [← hR, (shR_perm _ _ _ _).length_eq]; have := (shL_few hck.1 hck.2 (inX hv) (f := lenX (wordsG K n) (ix K n xs)) [] hil rfl).1; omega
  rw [hR] at WS RS
  have SA := Lib.hid (fun (v1 v2 : Value) (w' : World) (B B' : Nat) (h1 : RowsF (fun _ => True) B w' v1 R) (h2 : RowsF (fun _ => True) B' w' v2 R) => by have := same_any v1 v2 _ _ w' h1 h2 hRl; rw [decide_eq_true rfl] at this; exact this)
  obtain ⟨iu, hiu⟩ : ∃ iu, ix K n xs = iu := ⟨_, rfl⟩
  rw [hiu] at RN NO NL RL RS hil hlL
  have HIU := Lib.hid hil
  have hii : (iu : Int) < ((wordsG K n).length : Int) := by omega
  obtain ⟨ln, hln⟩ : ∃ ln, lenX (wordsG K n) iu = ln := ⟨_, rfl⟩
  rw [hln] at NL RL
  have HPOS := Lib.hid (tkG hv).pos
  obtain ⟨a, c, rfl, hx1⟩ := hx
  unfold grpI at *
  clear hx1 hv hK hok n1 q1 hR hck hiu hln hil
  go_enter Try.func8, Try.ntmps8
  go_wp2_with (first
      | (go_at_call 20; refine (AW.out _).mono ?_; rintro e w18 ⟨rfl, hb18'⟩; have hb18 := chainS hb17 hb18')
      | (go_at_call 43; refine (SA.out _ _ w16 _ _ (((((((hr9.below hb10').below hb11').below hb12').below hb13').below hb14').below hb15').below hb16') hr16).mono ?_; rintro e w17 ⟨rfl, hb17'⟩; have hb17 := chainS hb16 hb17')
      | (go_at_call 44; refine (RS.out w15 _ ((((hq11.below hb12').below hb13').below hb14').below hb15')).mono ?_; rintro e w16 ⟨v16, rfl, hr16, hb16'⟩; have hb16 := chainS hb15 hb16'; have hT16 := hT15.below hb16' hT15.lt; have t160 := hT16.at (i := 0) rfl; have t161 := hT16.at (i := 1) rfl; have t162 := hT16.at (i := 2) rfl; obtain ⟨a16, n16, c16, rfl⟩ := hr16.nform)
      | (go_at_call 29; refine (RL.out w14 _ (((hq11.below hb12').below hb13').below hb14')).mono ?_; rintro e w15 ⟨rfl, hb15'⟩; have hb15 := chainS hb14 hb15'; have hT15 := hT14.below hb15' hT14.lt; have t150 := hT15.at (i := 0) rfl; have t151 := hT15.at (i := 1) rfl; have t152 := hT15.at (i := 2) rfl)
      | (go_at_call 23; refine (EqualM_any _ _ _ _ w13 (((((((((((ho3.below hb4').below hb5').below hb6').below hb7').below hb8').below hb9').below hb10').below hb11').below hb12').below hb13').ints hlL) hir true (by simp)).mono ?_; rintro e w14 ⟨rfl, hb14'⟩; have hb14 := chainS hb13 hb14'; have hT14 := hT13.below hb14' hT13.lt; have t140 := hT14.at (i := 0) rfl; have t141 := hT14.at (i := 1) rfl; have t142 := hT14.at (i := 2) rfl)
      | (go_at_call 22; refine (RN.out w12 _ (hq11.below hb12') (HU.out w12 hb12)).mono ?_; rintro e w13 ⟨rfl, hb13'⟩; have hb13 := chainS hb12 hb13'; have hT13 := hT12.below hb13' hT12.lt; have t130 := hT13.at (i := 0) rfl; have t131 := hT13.at (i := 1) rfl; have t132 := hT13.at (i := 2) rfl; obtain ⟨ar, cr, hcr, hir⟩ := rows_at (((hq11.below hb12')).below hb13') HIU.out)
      | ((with_reducible refine is_store 36 ?_); refine wpl_store_rt (by rfl) _ _ (by rfl) w11.heap.size (.slice (some ⟨gW, 0, none⟩) (wordsG K n).length cW) (.slice aP lP cP) (.slice aX lX cX) [.slice none 0 0, .slice none 0 0, .slice none 0 0] rfl (by rfl) (by rfl) (by rfl) (by rfl) (by rfl) (Held.made (by simp)) ?_; intro w12 hT12 hsm12 hsz12; have hb12' : Below w11.heap.size w11 w12 := hsm12.below ((Below.refl _ _).alloc (Nat.le_refl _) _) (Nat.le_refl _) (by simp); have hb12 := chainS hb11 hb12'; have t0 := hT12.at (i := 0) rfl; have t1 := hT12.at (i := 1) rfl; have t2 := hT12.at (i := 2) rfl; clear hsm12 hsz12)
      | (go_at_call 21; refine (EL.out w10).mono ?_; rintro e w11 ⟨v11, rfl, hrt11, hb11'⟩; have hb11 := chainS hb10 hb11'; have hq11 := hrt11.rt; clear hrt11; obtain ⟨gW, cW, aP, lP, cP, aX, lX, cX, rfl⟩ := RT.made hq11 HPOS.out)
      | (go_at_call 19; refine (FN.out _ _ (args1 (HU.out w9 hb9) _ rfl)).mono ?_; rintro e w10 ⟨rfl, hb10q⟩; have hb10' := below_al (Nat.le_refl _) hb10q; have hb10 := chainS hb9 hb10'; have g100 := (heldS hb10).at (i := 0) rfl; have g101 := (heldS hb10).at (i := 1) rfl)
      | (go_at_call 42; refine (WS.out v8 w8 (ho8.ints hlu)).mono ?_; rintro e w9 ⟨v9, rfl, hr9, hb9'⟩; have hb9 := chainS hb8 hb9'; have g90 := (heldS hb9).at (i := 0) rfl; have g91 := (heldS hb9).at (i := 1) rfl; obtain ⟨a9, n9, c9, rfl⟩ := hr9.nform)
      | (go_at_call 17; refine (LU.out w7 hb7).mono ?_; rintro e w8 ⟨v8, rfl, ho8, hb8'⟩; have hb8 := chainS hb7 hb8')
      | (go_at_call 16; refine (OF.out _).mono ?_; rintro e w7 ⟨rfl, hb7'⟩; have hb7 := chainS hb6 hb7')
      | (go_at_call 41; refine (NL.out v5 w5 (ho5.ints hlu)).mono ?_; rintro e w6 ⟨rfl, hb6'⟩; have hb6 := chainS hb5 hb6'; have g60 := (heldS hb6).at (i := 0) rfl; have g61 := (heldS hb6).at (i := 1) rfl)
      | (go_at_call 17; refine (LU.out w4 hb4).mono ?_; rintro e w5 ⟨v5, rfl, ho5, hb5'⟩; have hb5 := chainS hb4 hb5')
      | (go_at_call 16; refine (OF.out _).mono ?_; rintro e w4 ⟨rfl, hb4'⟩; have hb4 := chainS hb3 hb4')
      | (go_at_call 36; refine (NO.out v2 w2 (ho2.ints hlu)).mono ?_; rintro e w3 ⟨v3, rfl, ho3, hb3'⟩; have hb3 := chainS hb2 hb3'; have g30 := (heldS hb3).at (i := 0) rfl; have g31 := (heldS hb3).at (i := 1) rfl; obtain ⟨a3, c3, rfl⟩ := own_lenX ho3)
      | (go_at_call 17; refine (LU.out w1 hb1).mono ?_; rintro e w2 ⟨v2, rfl, ho2, hb2'⟩; have hb2 := chainS hb1 hb2')
      | (go_at_call 16; refine (OF.out _).mono ?_; rintro e w1 ⟨rfl, hb1q⟩; have hb1 := hb1q.mono (show w.heap.size + 1 ≤ _ by simp)))
  go_ret
  exact ⟨rfl, chainE hb18⟩

theorem mirrorWords_true (K : Nat) (n : Int) (vu : Value) (xs : List Int) (w : World) (hK : K < 256) (hx : Ints w vu xs) :
    Calls Try.prog 8 #[grpI K n, vu] w (TrueM w) := by
  cases hok : okI K n [xs] with
  | false => exact WordsL_no K n vu xs w hK hx hok
  | true =>
    obtain ⟨m, rfl, hv, hall⟩ := okI_nat hok
    simp only [List.all_cons, List.all_nil, Bool.and_true] at hall
    unfold grpI
    exact WordsL_yes K m vu xs w hv hx hall
end Go.Proofs.Ytmlhecfhhhebnaa
