/- MirrorParts: the walks. -/
import Derived.Test.YtmlhecfhhhebnaaDoorDq
namespace Go.Proofs.YtmlhecfhhhebnaaDoor
open Go.RowKit
attribute [local go_sem] Oper.semAt_some

theorem andNot_wM : ∀ f : Nat, f < 16 → ∀ s : Nat, s < 16 → (∀ j, j < 4 → f.testBit j = true → s.testBit j = true) → bits BinOp.andNot IntKind.i64 (f : Int) (s : Int) = 0 := by decide +kernel
theorem letN_bit : ∀ (ws : List Nat) (o M : Nat), (∀ j, o.testBit j = true → M.testBit j = true) → ws.all (fun s => M.testBit s) = true → ∀ j, (ws.foldl (fun o s => o ||| 2 ^ s) o).testBit j = true → M.testBit j = true
  | [], _, _, h, _, j, hj => h j hj
  | s :: ws, o, M, h, ha, j, hj => by
    simp only [List.all_cons, Bool.and_eq_true] at ha
    refine letN_bit ws _ M (fun i hi => ?_) ha.2 j hj
    rw [Nat.testBit_or, Nat.testBit_two_pow, Bool.or_eq_true] at hi
    rcases hi with hi | hi
    · exact h i hi
    · have : s = i := by simpa using hi
      rw [← this]; exact ha.1

set_option maxRecDepth 20000 in
set_option maxHeartbeats 4000000 in
theorem PartsL_no (K : Nat) (n : Int) (vu : Value) (xs : List Int) (M : Int) (w : World) (hK : K < 256) (hx : Ints w vu xs) (h : okI K n [xs] = false) :
    Calls Tryd.prog 4 #[grpI K n, vu, .int .i64 M] w (TrueM w) := by
  have OF := Lib.hid (fun w' => Of_any K n w')
  have LU := Lib.hid (fun w' (hb : Below (w.heap.size + 1) (w.alloc (.cells #[.int .u8 (K : Nat), .int .i64 n] 23)) w') => list_any vu xs w' (intsS hx hb))
  have AW := Lib.hid (fun w' => awake_any w')
  have hlu : (xs.take 34).length ≤ 17592186044416 := by rw [List.length_take]; omega
  have CO := Lib.hid (fun v' w' (hi : Ints w' v' (xs.take 34)) => Coset_no K n v' _ M w' hK hi (by rw [okI_take1]; exact h))
  obtain ⟨a, c, rfl, hx1⟩ := hx
  unfold grpI at *
  clear hx1 h
  go_enter Tryd.func4, Tryd.ntmps4
  go_wp2_with (first
      | (go_at_call 10; refine (AW.out _).mono ?_; rintro e w4 ⟨rfl, hb4'⟩; have hb4 := chainS hb3 hb4')
      | (go_at_call 5; refine (CO.out v2 w2 (ho2.ints hlu)).mono ?_; rintro e w3 ⟨rfl, hb3'⟩; have hb3 := chainS hb2 hb3'; have g30 := (heldS hb3).at (i := 0) rfl; have g31 := (heldS hb3).at (i := 1) rfl)
      | (go_at_call 7; refine (LU.out w1 hb1).mono ?_; rintro e w2 ⟨v2, rfl, ho2, hb2'⟩; have hb2 := chainS hb1 hb2')
      | (go_at_call 6; refine (OF.out _).mono ?_; rintro e w1 ⟨rfl, hb1q⟩; have hb1 := hb1q.mono (show w.heap.size + 1 ≤ _ by simp)))
  go_ret
  exact ⟨rfl, chainE hb4⟩

set_option maxRecDepth 20000 in
set_option maxHeartbeats 4000000 in
theorem PartsL_bad (K n : Nat) (vu : Value) (xs : List Int) (M : Int) (w : World) (hv : validB K n = true) (hx : Ints w vu xs) (q1 : wordB (mirs K n) xs = true) (hc : M < 0 ∨ (2 : Int) ^ mirs K n ≤ M) :
    Calls Tryd.prog 4 #[.agg #[.int .u8 (K : Nat), .int .i64 (n : Nat)], vu, .int .i64 M] w (TrueM w) := by
  have OF := Lib.hid (fun w' => Of_any K (n : Int) w')
  have LU := Lib.hid (fun w' (hb : Below (w.heap.size + 1) (w.alloc (.cells #[.int .u8 (K : Nat), .int .i64 (n : Nat)] 23)) w') => list_any vu xs w' (intsS hx hb))
  have AW := Lib.hid (fun w' => awake_any w')
  have hlu : (xs.take 34).length ≤ 17592186044416 := by rw [List.length_take]; omega
  have CO := Lib.hid (fun v' w' (hi : Ints w' v' (xs.take 34)) => Coset_bad K n v' _ M w' hv hi (by rw [wordB_take]; exact q1) hc)
  obtain ⟨a, c, rfl, hx1⟩ := hx
  unfold grpI at *
  clear hx1 q1 hc hv
  go_enter Tryd.func4, Tryd.ntmps4
  go_wp2_with (first
      | (go_at_call 10; refine (AW.out _).mono ?_; rintro e w4 ⟨rfl, hb4'⟩; have hb4 := chainS hb3 hb4')
      | (go_at_call 5; refine (CO.out v2 w2 (ho2.ints hlu)).mono ?_; rintro e w3 ⟨rfl, hb3'⟩; have hb3 := chainS hb2 hb3'; have g30 := (heldS hb3).at (i := 0) rfl; have g31 := (heldS hb3).at (i := 1) rfl)
      | (go_at_call 7; refine (LU.out w1 hb1).mono ?_; rintro e w2 ⟨v2, rfl, ho2, hb2'⟩; have hb2 := chainS hb1 hb2')
      | (go_at_call 6; refine (OF.out _).mono ?_; rintro e w1 ⟨rfl, hb1q⟩; have hb1 := hb1q.mono (show w.heap.size + 1 ≤ _ by simp)))
  go_ret
  exact ⟨rfl, chainE hb4⟩

set_option maxRecDepth 20000 in
set_option maxHeartbeats 8000000 in
theorem PartsL_yes (K n : Nat) (vu : Value) (xs : List Int) (M : Nat) (w : World) (hv : validB K n = true) (hx : Ints w vu xs) (q1 : wordB (mirs K n) xs = true) (hM : M < 2 ^ mirs K n) (htab : Tab w) :
    Calls Tryd.prog 4 #[.agg #[.int .u8 (K : Nat), .int .i64 (n : Nat)], vu, .int .i64 (M : Nat)] w (TrueM w) := by
  have hK := K_lt hv
  have hok : okI K (n : Int) [xs] = true := by rw [okI_cast hv]; simp [q1]
  have hm4 := mirs_le hv
  have hM16 : M < 16 := Nat.lt_of_lt_of_le hM (pow_le16 hm4)
  have n1 := word_nat q1
  obtain ⟨C, B, R, P⟩ := partP hv hM (natW xs) n1.2.1
  have T := tabW hv
  have hix : walkX (nextG K n) 0 (natW xs) = ix K n xs := rfl
  rw [hix] at P
  obtain ⟨i, hi⟩ : ∃ i, ix K n xs = i := ⟨_, rfl⟩
  have hil := ix_lt hv q1
  rw [hi] at P hil
  have FN := Lib.hid (fun w' v' (ha : Args w' v' [xs]) => by have := fine_any K (n : Int) v' [xs] w' hK ha; rw [hok] at this; exact this)
  have hokR : okI K (n : Int) [toI ((wordsG K n).getD R [])] = true := by rw [okI_cast hv, List.all_cons, T.wd R P.lR]; rfl
  have FR := Lib.hid (fun w' v' (ha : Args w' v' [toI ((wordsG K n).getD R [])]) => by have := fine_any K (n : Int) v' [toI ((wordsG K n).getD R [])] w' hK ha; rw [hokR] at this; exact this)
  have OF := Lib.hid (fun w' => Of_any K (n : Int) w')
  have AW := Lib.hid (fun w' => awake_any w')
  have LU := Lib.hid (fun w' (hb : Below (w.heap.size + 1) (w.alloc (.cells #[.int .u8 (K : Nat), .int .i64 (n : Nat)] 23)) w') => by have := list_any vu xs w' (intsS hx hb); rw [List.take_of_length_le (by omega)] at this; exact this)
  have HU := Lib.hid (fun w' (hb : Below (w.heap.size + 1) (w.alloc (.cells #[.int .u8 (K : Nat), .int .i64 (n : Nat)] 23)) w') => intsS hx hb)
  have HTB := Lib.hid (fun w' (hb : Below (w.heap.size + 1) (w.alloc (.cells #[.int .u8 (K : Nat), .int .i64 (n : Nat)] 23)) w') => htab.below (chainE hb))
  have CO := Lib.hid (fun v' w' (hi' : Ints w' v' xs) (ht : Tab w') => by have := Coset_yes K n v' xs M w' hv hi' q1 hM ht; rw [hi, P.cC] at this; exact this)
  have CD := Lib.hid (fun v' w' (hi' : Ints w' v' (toI ((wordsG K n).getD C []))) (ht : Tab w') => by have := Coset_yes K n v' _ M w' hv hi' (T.wd C P.lC) hM ht; rw [T.at' C P.lC, P.eC] at this; exact this)
  have BK := Lib.hid (fun v' w' (hi' : Ints w' v' (toI ((wordsG K n).getD C []))) => by have := Back_yes K n v' _ w' hv hi' (T.wd C P.lC); rw [natW_of, P.eB] at this; exact this)
  have TM := Lib.hid (fun u' v' w' (h1 : Ints w' u' (toI ((wordsG K n).getD B []))) (h2 : Ints w' v' xs) => by have := Times_yes K n u' v' _ xs w' hv h1 h2 (T.wd B P.lB) q1; rw [T.at' B P.lB, P.eR] at this; exact this)
  have TI := Lib.hid (fun u' v' w' (h1 : Ints w' u' (toI ((wordsG K n).getD C []))) (h2 : Ints w' v' (toI ((wordsG K n).getD R []))) => by have := Times_yes K n u' v' _ _ w' hv h1 h2 (T.wd C P.lC) (T.wd R P.lR); rw [T.at' C P.lC, natW_of, P.eI] at this; exact this)
  have NO := Lib.hid (fun v' w' (hi' : Ints w' v' xs) => by have := Normal_yes K n v' xs w' hv hi' q1; rw [hi] at this; exact this)
  have FA := Lib.hid (fun v' w' (hi' : Ints w' v' (toI ((wordsG K n).getD C []))) => by have := Falls_yes K n v' _ w' hv hi' (T.wd C P.lC); rw [T.at' C P.lC] at this; exact this)
  have CC := Lib.hid (fun v' w' (hi' : Ints w' v' (toI ((wordsG K n).getD C []))) => Clone_any v' _ w' hi')
  have CR := Lib.hid (fun v' w' (hi' : Ints w' v' (toI ((wordsG K n).getD R []))) => Clone_any v' _ w' hi')
  have hlt4 : ∀ s ∈ (wordsG K n).getD R [], s < 4 := fun s hs => by
    rw [getDL P.lR] at hs
    have := (tkG hv).letter _ (List.getElem_mem P.lR) s hs
    omega
  have LT := Lib.hid (fun v' w' (hi' : Ints w' v' (toI ((wordsG K n).getD R []))) => letters_any v' _ w' hi' hlt4)
  have hF16 := fallsTo_16 (wordsG K n) (nextG K n) C (mirs K n) hm4
  have eF := P.eF
  have hL16 : letN ((wordsG K n).getD R []) < 16 := letN_16 _ 0 (by omega) hlt4
  have x1 := andNot_wM _ hL16 M hM16 (fun j _ hj => letN_bit _ 0 M (fun _ h => by simp at h) P.eS j hj)
  obtain ⟨F, hF⟩ : ∃ F, fallsTo (wordsG K n) (nextG K n) C (mirs K n) = F := ⟨_, rfl⟩
  rw [hF] at FA hF16 eF
  have x2 := and_wM F hF16 M hM16
  rw [eF] at x2
  obtain ⟨l, hl⟩ : ∃ l, letN ((wordsG K n).getD R []) = l := ⟨_, rfl⟩
  rw [hl] at LT x1
  have hlu := word_len q1
  have hlC := word_len (T.wd C P.lC)
  have hlB := word_len (T.wd B P.lB)
  have hlR := word_len (T.wd R P.lR)
  have hlI := word_len (T.wd i hil)
  have eL := P.eL
  have eLi : ((lenX (wordsG K n) C : Nat) : Int) + ((lenX (wordsG K n) R : Nat) : Int) = ((lenX (wordsG K n) i : Nat) : Int) := by omega
  have bC : ((lenX (wordsG K n) C : Nat) : Int) ≤ 1000 := by have := (tkG hv).short _ (List.getElem_mem P.lC); unfold lenX; rw [getDL P.lC]; omega
  have bR : ((lenX (wordsG K n) R : Nat) : Int) ≤ 1000 := by have := (tkG hv).short _ (List.getElem_mem P.lR); unfold lenX; rw [getDL P.lR]; omega
  have HEL := Lib.hid eL
  obtain ⟨a, c, rfl, hx1⟩ := hx
  unfold grpI at *
  clear hx1 hok hK n1 q1 hM hM16 htab P T hix hi hil hokR hlt4 hF16 hL16 hF hl eF eL hv hm4
  go_enter Tryd.func4, Tryd.ntmps4
  go_wp2_with (first
      | (go_at_call 10; refine (AW.out _).mono ?_; rintro e w27 ⟨rfl, hb27'⟩; have hb27 := chainS hb26 hb27')
      | (go_at_call 12; refine (EqualM_any _ _ _ _ w25 (((((((((((((((((((((((ho3.below hb4').below hb5').below hb6').below hb7').below hb8').below hb9').below hb10').below hb11').below hb12').below hb13').below hb14').below hb15').below hb16').below hb17').below hb18').below hb19').below hb20').below hb21').below hb22').below hb23').below hb24').below hb25').ints hlC) ((((((ho20.below hb21').below hb22').below hb23').below hb24').below hb25').ints hlC) true (by simp)).mono ?_; rintro e w26 ⟨rfl, hb26'⟩; have hb26 := chainS hb25 hb26')
      | (go_at_call 12; refine (EqualM_any _ _ _ _ w24 ((((((((((((ho13.below hb14').below hb15').below hb16').below hb17').below hb18').below hb19').below hb20').below hb21').below hb22').below hb23').below hb24').ints hlI) ((((((((ho17.below hb18').below hb19').below hb20').below hb21').below hb22').below hb23').below hb24').ints hlI) true (by simp)).mono ?_; rintro e w25 ⟨rfl, hb25'⟩; have hb25 := chainS hb24 hb25')
      | (go_at_call 20; refine (LT.out _ w24 (((((((((((((((ho10.below hb11').below hb12').below hb13').below hb14').below hb15').below hb16').below hb17').below hb18').below hb19').below hb20').below hb21').below hb22').below hb23').below hb24').ints hlR)).mono ?_; rintro e w25 ⟨rfl, rfl⟩)
      | (go_at_call 8; refine (FR.out _ _ (args1 ((((((((((((((ho10.below hb11').below hb12').below hb13').below hb14').below hb15').below hb16').below hb17').below hb18').below hb19').below hb20').below hb21').below hb22').below hb23').ints hlR) _ rfl)).mono ?_; rintro e w24 ⟨rfl, hb24q⟩; have hb24' := below_al (Nat.le_refl _) hb24q; have hb24 := chainS hb23 hb24')
      | (go_at_call 19; refine (FA.out v22 w22 (ho22.ints hlC)).mono ?_; rintro e w23 ⟨rfl, hb23'⟩; have hb23 := chainS hb22 hb23'; have g230 := (heldS hb23).at (i := 0) rfl; have g231 := (heldS hb23).at (i := 1) rfl)
      | (go_at_call 16; refine (CC.out _ w21 (((((((((((((((((((ho3.below hb4').below hb5').below hb6').below hb7').below hb8').below hb9').below hb10').below hb11').below hb12').below hb13').below hb14').below hb15').below hb16').below hb17').below hb18').below hb19').below hb20').below hb21').ints hlC)).mono ?_; rintro e w22 ⟨v22, rfl, ho22, hb22'⟩; have hb22 := chainS hb21 hb22')
      | (go_at_call 6; refine (OF.out _).mono ?_; rintro e w21 ⟨rfl, hb21'⟩; have hb21 := chainS hb20 hb21')
      | (go_at_call 5; refine (CD.out v19 w19 (ho19.ints hlC) (HTB.out w19 hb19)).mono ?_; rintro e w20 ⟨v20, rfl, ho20, hb20'⟩; have hb20 := chainS hb19 hb20'; have g200 := (heldS hb20).at (i := 0) rfl; have g201 := (heldS hb20).at (i := 1) rfl; obtain ⟨a20, c20, rfl⟩ := own_lenX ho20)
      | (go_at_call 16; refine (CC.out _ w18 ((((((((((((((((ho3.below hb4').below hb5').below hb6').below hb7').below hb8').below hb9').below hb10').below hb11').below hb12').below hb13').below hb14').below hb15').below hb16').below hb17').below hb18').ints hlC)).mono ?_; rintro e w19 ⟨v19, rfl, ho19, hb19'⟩; have hb19 := chainS hb18 hb19')
      | (go_at_call 6; refine (OF.out _).mono ?_; rintro e w18 ⟨rfl, hb18'⟩; have hb18 := chainS hb17 hb18')
      | (go_at_call 17; refine (TI.out v15 v16 w16 ((ho15.below hb16').ints hlC) (ho16.ints hlR)).mono ?_; rintro e w17 ⟨v17, rfl, ho17, hb17'⟩; have hb17 := chainS hb16 hb17'; have g170 := (heldS hb17).at (i := 0) rfl; have g171 := (heldS hb17).at (i := 1) rfl; obtain ⟨a17, c17, rfl⟩ := own_lenX ho17)
      | (go_at_call 16; refine (CR.out _ w15 ((((((ho10.below hb11').below hb12').below hb13').below hb14').below hb15').ints hlR)).mono ?_; rintro e w16 ⟨v16, rfl, ho16, hb16'⟩; have hb16 := chainS hb15 hb16')
      | (go_at_call 16; refine (CC.out _ w14 ((((((((((((ho3.below hb4').below hb5').below hb6').below hb7').below hb8').below hb9').below hb10').below hb11').below hb12').below hb13').below hb14').ints hlC)).mono ?_; rintro e w15 ⟨v15, rfl, ho15, hb15'⟩; have hb15 := chainS hb14 hb15')
      | (go_at_call 6; refine (OF.out _).mono ?_; rintro e w14 ⟨rfl, hb14'⟩; have hb14 := chainS hb13 hb14')
      | (go_at_call 18; refine (NO.out v12 w12 (ho12.ints hlu)).mono ?_; rintro e w13 ⟨v13, rfl, ho13, hb13'⟩; have hb13 := chainS hb12 hb13'; have g130 := (heldS hb13).at (i := 0) rfl; have g131 := (heldS hb13).at (i := 1) rfl; obtain ⟨a13, c13, rfl⟩ := own_lenX ho13)
      | (go_at_call 7; refine (LU.out w11 hb11).mono ?_; rintro e w12 ⟨v12, rfl, ho12, hb12'⟩; have hb12 := chainS hb11 hb12')
      | (go_at_call 6; refine (OF.out _).mono ?_; rintro e w11 ⟨rfl, hb11'⟩; have hb11 := chainS hb10 hb11')
      | (go_at_call 17; refine (TM.out _ v9 w9 (((ho7.below hb8').below hb9').ints hlB) (ho9.ints hlu)).mono ?_; rintro e w10 ⟨v10, rfl, ho10, hb10'⟩; have hb10 := chainS hb9 hb10'; have g100 := (heldS hb10).at (i := 0) rfl; have g101 := (heldS hb10).at (i := 1) rfl; obtain ⟨a10, c10, rfl⟩ := own_lenX ho10)
      | (go_at_call 7; refine (LU.out w8 hb8).mono ?_; rintro e w9 ⟨v9, rfl, ho9, hb9'⟩; have hb9 := chainS hb8 hb9')
      | (go_at_call 6; refine (OF.out _).mono ?_; rintro e w8 ⟨rfl, hb8'⟩; have hb8 := chainS hb7 hb8')
      | (go_at_call 15; refine (BK.out v6 w6 (ho6.ints hlC)).mono ?_; rintro e w7 ⟨v7, rfl, ho7, hb7'⟩; have hb7 := chainS hb6 hb7'; have g70 := (heldS hb7).at (i := 0) rfl; have g71 := (heldS hb7).at (i := 1) rfl; obtain ⟨a7, c7, rfl⟩ := own_lenX ho7)
      | (go_at_call 16; refine (CC.out _ w5 (((ho3.below hb4').below hb5').ints hlC)).mono ?_; rintro e w6 ⟨v6, rfl, ho6, hb6'⟩; have hb6 := chainS hb5 hb6')
      | (go_at_call 6; refine (OF.out _).mono ?_; rintro e w5 ⟨rfl, hb5'⟩; have hb5 := chainS hb4 hb5')
      | (go_at_call 8; refine (FN.out _ _ (args1 (HU.out w3 hb3) _ rfl)).mono ?_; rintro e w4 ⟨rfl, hb4q⟩; have hb4' := below_al (Nat.le_refl _) hb4q; have hb4 := chainS hb3 hb4'; have g40 := (heldS hb4).at (i := 0) rfl; have g41 := (heldS hb4).at (i := 1) rfl)
      | (go_at_call 5; refine (CO.out v2 w2 (ho2.ints hlu) (HTB.out w2 hb2)).mono ?_; rintro e w3 ⟨v3, rfl, ho3, hb3'⟩; have hb3 := chainS hb2 hb3'; have g30 := (heldS hb3).at (i := 0) rfl; have g31 := (heldS hb3).at (i := 1) rfl; obtain ⟨a3, c3, rfl⟩ := own_lenX ho3)
      | (go_at_call 7; refine (LU.out w1 hb1).mono ?_; rintro e w2 ⟨v2, rfl, ho2, hb2'⟩; have hb2 := chainS hb1 hb2')
      | (go_at_call 6; refine (OF.out _).mono ?_; rintro e w1 ⟨rfl, hb1q⟩; have hb1 := hb1q.mono (show w.heap.size + 1 ≤ _ by simp)))
  go_ret
  exact ⟨rfl, chainE hb27⟩

theorem mirrorParts_true (K : Nat) (n : Int) (vu : Value) (xs : List Int) (M : Int) (w : World) (hK : K < 256) (hx : Ints w vu xs) (_ : -9223372036854775808 ≤ M ∧ M ≤ 9223372036854775807) (ht : Tab w) :
    Calls Tryd.prog 4 #[grpI K n, vu, .int .i64 M] w (TrueM w) := by
  cases hok : okI K n [xs] with
  | false => exact PartsL_no K n vu xs M w hK hx hok
  | true =>
    obtain ⟨m, rfl, hv, hall⟩ := okI_nat hok
    simp only [List.all_cons, List.all_nil, Bool.and_true] at hall
    unfold grpI
    by_cases h0 : M < 0
    · exact PartsL_bad K m vu xs M w hv hx hall (.inl h0)
    · by_cases h1 : (2 : Int) ^ mirs K m ≤ M
      · exact PartsL_bad K m vu xs M w hv hx hall (.inr h1)
      · obtain ⟨t, rfl⟩ := Int.eq_ofNat_of_zero_le (Int.not_lt.1 h0)
        have h2 : t < 2 ^ mirs K m := by
          rw [pow_castM] at h1
          omega
        exact PartsL_yes K m vu xs t w hv hx hall h2 ht
end Go.Proofs.YtmlhecfhhhebnaaDoor
