/- MirrorOrder: the walk, part 4. -/
import Derived.Test.YtmlhecfhhhebnaaOr
namespace Go.Proofs.Ytmlhecfhhhebnaa
open Go.RowKit
attribute [local go_sem] Oper.semAt_some

set_option maxRecDepth 20000 in
set_option maxHeartbeats 8000000 in
theorem OrderL_tffl (K n : Nat) (vu vv vw : Value) (xs ys zs : List Int) (iU iW cU cW : Nat) (w : World) (hv : validB K n = true) (hx : Ints w vu xs) (hy : Ints w vv ys) (hz : Ints w vw zs) (q1 : wordB (mirs K n) xs = true) (q2 : wordB (mirs K n) ys = true) (q3 : wordB (mirs K n) zs = true)
    (P : OrdP K n xs ys zs iU iW cU cW true) (T : TabW K n) (his : belG (wordsG K n) (nextG K n) (ix K n xs) (ix K n zs) = true) (e30 : belG (wordsG K n) (nextG K n) (ix K n ys) (ix K n xs) = false) (e32 : belG (wordsG K n) (nextG K n) (ix K n zs) (ix K n xs) = false) (hlt : lenX (wordsG K n) (ix K n xs) < lenX (wordsG K n) (ix K n zs)) :
    Calls Try.prog 5 #[.agg #[.int .u8 (K : Nat), .int .i64 (n : Nat)], vu, vv, vw] w (TrueM w) := by
  have hok : okI K (n : Int) [xs, ys, zs] = true := by rw [okI_cast hv]; simp [q1, q2, q3]
  have hK : K < 256 := by unfold validB at hv; simp only [Bool.or_eq_true, Bool.and_eq_true, beq_iff_eq] at hv; omega
  have FN := Lib.hid (fun w' v' (ha : Args w' v' [xs, ys, zs]) => by have := fine_any K (n : Int) v' [xs, ys, zs] w' hK ha; rw [hok] at this; exact this)
  have AR := Lib.hid (fun o : Obj => args3 (hx.below ((Below.refl _ _).alloc (Nat.le_refl _) o)) (hy.below ((Below.refl _ _).alloc (Nat.le_refl _) o)) (hz.below ((Below.refl _ _).alloc (Nat.le_refl _) o)))
  have AW := Lib.hid (fun w' => awake_any w')
  have OF := Lib.hid (fun w' => Of_any K (n : Int) w')
  have LG := Lib.hid (fun w' => Longest_yes K n w' hv)
  have hlx := word_len q1
  have hly := word_len q2
  have hlz := word_len q3
  have n1 := (word_nat q1).2.2
  have n3 := (word_nat q3).2.2
  have hLN : (wordsG K n).length - 1 < (wordsG K n).length := by have := (tkG hv).pos; omega
  have LX := Lib.hid (fun w' (hb : Below (w.heap.size + 1) (w.alloc (.cells #[.int .u8 (K : Nat), .int .i64 (n : Nat)] 23)) w') => by have := list_any vu xs w' (intsS hx hb); rw [List.take_of_length_le (by omega)] at this; exact this)
  have LZ := Lib.hid (fun w' (hb : Below (w.heap.size + 1) (w.alloc (.cells #[.int .u8 (K : Nat), .int .i64 (n : Nat)] 23)) w') => by have := list_any vw zs w' (intsS hz hb); rw [List.take_of_length_le (by omega)] at this; exact this)
  have BX := Lib.hid (fun v' w' (hi : Ints w' v' xs) => by have := Back_yes K n v' xs w' hv hi q1; rw [P.eU] at this; exact this)
  have BZ := Lib.hid (fun v' w' (hi : Ints w' v' zs) => by have := Back_yes K n v' zs w' hv hi q3; rw [P.eW] at this; exact this)
  have CL := Lib.hid (fun v' w' (hi : Ints w' v' (toI ((wordsG K n).getD ((wordsG K n).length - 1) []))) => Clone_any v' _ w' hi)
  have TX := Lib.hid (fun u' v' w' (hi : Ints w' u' (toI ((wordsG K n).getD ((wordsG K n).length - 1) []))) (hj : Ints w' v' xs) => by have := Times_yes K n u' v' _ xs w' hv hi hj (T.wd _ hLN) q1; rw [T.at' _ hLN, P.fU] at this; exact this)
  have TZ := Lib.hid (fun u' v' w' (hi : Ints w' u' (toI ((wordsG K n).getD ((wordsG K n).length - 1) []))) (hj : Ints w' v' zs) => by have := Times_yes K n u' v' _ zs w' hv hi hj (T.wd _ hLN) q3; rw [T.at' _ hLN, P.fW] at this; exact this)
  have NX := Lib.hid (fun v' w' (hi : Ints w' v' xs) => Normal_yes K n v' xs w' hv hi q1)
  have NZ := Lib.hid (fun v' w' (hi : Ints w' v' zs) => Normal_yes K n v' zs w' hv hi q3)
  have F24 := Lib.hid (fun u' v' w' (hg : Held w' w.heap.size 23 [.int .u8 (K : Nat), .int .i64 (n : Nat)]) (hi : Ints w' u' xs) (hj : Ints w' v' zs) => by have := OrderF_any K n w.heap.size u' v' xs zs w' hv hg hi hj q1 q3; rw [his] at this; exact this)
  have F25 := Lib.hid (fun v' w' (hg : Held w' w.heap.size 23 [.int .u8 (K : Nat), .int .i64 (n : Nat)]) (hj : Ints w' v' xs) => by have := OrderF_any K n w.heap.size (.slice none 0 0) v' [] xs w' hv hg (Ints.nil w') hj rfl q1; rw [show ix K n [] = 0 from rfl, P.h1] at this; exact this)
  have F26 := Lib.hid (fun u' v' w' (hg : Held w' w.heap.size 23 [.int .u8 (K : Nat), .int .i64 (n : Nat)]) (hi : Ints w' u' xs) (hj : Ints w' v' (toI ((wordsG K n).getD ((wordsG K n).length - 1) []))) => by have := OrderF_any K n w.heap.size u' v' xs _ w' hv hg hi hj q1 (T.wd _ hLN); rw [T.at' _ hLN, P.h2] at this; exact this)
  have F27 := Lib.hid (fun u' v' w' (hg : Held w' w.heap.size 23 [.int .u8 (K : Nat), .int .i64 (n : Nat)]) (hi : Ints w' u' xs) (hj : Ints w' v' xs) => by have := OrderF_any K n w.heap.size u' v' xs xs w' hv hg hi hj q1 q1; rw [P.h3] at this; exact this)
  have F28 := Lib.hid (fun u' v' w' (hg : Held w' w.heap.size 23 [.int .u8 (K : Nat), .int .i64 (n : Nat)]) (hi : Ints w' u' (toI ((wordsG K n).getD iU []))) (hj : Ints w' v' (toI ((wordsG K n).getD iW []))) => by have := OrderF_any K n w.heap.size u' v' _ _ w' hv hg hi hj (T.wd _ P.lU) (T.wd _ P.lW); rw [T.at' _ P.lU, T.at' _ P.lW, P.h4] at this; exact this)
  have F29 := Lib.hid (fun u' v' w' (hg : Held w' w.heap.size 23 [.int .u8 (K : Nat), .int .i64 (n : Nat)]) (hi : Ints w' u' (toI ((wordsG K n).getD cW []))) (hj : Ints w' v' (toI ((wordsG K n).getD cU []))) => by have := OrderF_any K n w.heap.size u' v' _ _ w' hv hg hi hj (T.wd _ P.mW) (T.wd _ P.mU); rw [T.at' _ P.mW, T.at' _ P.mU, P.h5] at this; exact this)
  have F30 := Lib.hid (fun u' v' w' (hg : Held w' w.heap.size 23 [.int .u8 (K : Nat), .int .i64 (n : Nat)]) (hi : Ints w' u' ys) (hj : Ints w' v' xs) => by have := OrderF_any K n w.heap.size u' v' ys xs w' hv hg hi hj q2 q1; rw [e30] at this; exact this)
  have F32 := Lib.hid (fun u' v' w' (hg : Held w' w.heap.size 23 [.int .u8 (K : Nat), .int .i64 (n : Nat)]) (hi : Ints w' u' zs) (hj : Ints w' v' xs) => by have := OrderF_any K n w.heap.size u' v' zs xs w' hv hg hi hj q3 q1; rw [e32] at this; exact this)
  have hl1 := word_len (T.wd _ hLN)
  have hl2 := word_len (T.wd _ P.lU)
  have hl3 := word_len (T.wd _ P.lW)
  have hl4 := word_len (T.wd _ P.mU)
  have hl5 := word_len (T.wd _ P.mW)
  have hl6 := word_len (T.wd _ (ix_lt hv q1))
  have hl7 := word_len (T.wd _ (ix_lt hv q3))
  have HVX := Lib.hid (fun w' (hb : Below (w.heap.size + 1) (w.alloc (.cells #[.int .u8 (K : Nat), .int .i64 (n : Nat)] 23)) w') => intsS hx hb)
  have HVY := Lib.hid (fun w' (hb : Below (w.heap.size + 1) (w.alloc (.cells #[.int .u8 (K : Nat), .int .i64 (n : Nat)] 23)) w') => intsS hy hb)
  have HVZ := Lib.hid (fun w' (hb : Below (w.heap.size + 1) (w.alloc (.cells #[.int .u8 (K : Nat), .int .i64 (n : Nat)] 23)) w') => intsS hz hb)
  have HLX := Lib.hid (show ((wordsG K n).getD (ix K n xs) []).length = lenX (wordsG K n) (ix K n xs) from rfl)
  have HLZ := Lib.hid (show ((wordsG K n).getD (ix K n zs) []).length = lenX (wordsG K n) (ix K n zs) from rfl)
  obtain ⟨a, c, rfl, hx1⟩ := hx
  obtain ⟨a2, c2, rfl, hy1⟩ := hy
  obtain ⟨a3, c3, rfl, hz1⟩ := hz
  unfold grpI at *
  have hlti : ((lenX (wordsG K n) (ix K n xs) : Nat) : Int) < ((lenX (wordsG K n) (ix K n zs) : Nat) : Int) := by omega
  have hltd : decide (((lenX (wordsG K n) (ix K n xs) : Nat) : Int) < ((lenX (wordsG K n) (ix K n zs) : Nat) : Int)) = true := by simp; omega
  have hltn : decide (lenX (wordsG K n) (ix K n xs) < lenX (wordsG K n) (ix K n zs)) = true := by simp; omega
  clear hx1 hy1 hz1 hok hK n1 n3 hLN q1 q2 q3 his P T hv e30 e32 hlt
  go_enter Try.func5, Try.ntmps5
  go_wp2_with (first
      | (go_at_call 20; refine (AW.out _).mono ?_; rintro e w32 ⟨rfl, hb32'⟩; have hb32 := chainS hb31 hb32')
      | (go_at_call 32; refine (F32.out _ _ w30 (heldS hb30) (HVZ.out w30 hb30) (HVX.out w30 hb30)).mono ?_; rintro e w31 ⟨rfl, hb31'⟩; have hb31 := chainS hb30 hb31')
      | (go_at_call 32; refine (F30.out _ _ w29 (heldS hb29) (HVY.out w29 hb29) (HVX.out w29 hb29)).mono ?_; rintro e w30 ⟨rfl, hb30'⟩; have hb30 := chainS hb29 hb30')
      | (go_at_call 32; refine (F29.out v17 v13 w28 (heldS hb28) ((((((((((((ho17.below hb18').below hb19').below hb20').below hb21').below hb22').below hb23').below hb24').below hb25').below hb26').below hb27').below hb28').ints hl5) ((((((((((((((((ho13.below hb14').below hb15').below hb16').below hb17').below hb18').below hb19').below hb20').below hb21').below hb22').below hb23').below hb24').below hb25').below hb26').below hb27').below hb28').ints hl4)).mono ?_; rintro e w29 ⟨rfl, hb29'⟩; have hb29 := chainS hb28 hb29')
      | (go_at_call 32; refine (F28.out v6 v9 w27 (heldS hb27) ((((((((((((((((((((((ho6.below hb7').below hb8').below hb9').below hb10').below hb11').below hb12').below hb13').below hb14').below hb15').below hb16').below hb17').below hb18').below hb19').below hb20').below hb21').below hb22').below hb23').below hb24').below hb25').below hb26').below hb27').ints hl2) (((((((((((((((((((ho9.below hb10').below hb11').below hb12').below hb13').below hb14').below hb15').below hb16').below hb17').below hb18').below hb19').below hb20').below hb21').below hb22').below hb23').below hb24').below hb25').below hb26').below hb27').ints hl3)).mono ?_; rintro e w28 ⟨rfl, hb28'⟩; have hb28 := chainS hb27 hb28')
      | (go_at_call 32; refine (F27.out _ _ w26 (heldS hb26) (HVX.out w26 hb26) (HVX.out w26 hb26)).mono ?_; rintro e w27 ⟨rfl, hb27'⟩; have hb27 := chainS hb26 hb27')
      | (go_at_call 32; refine (F26.out _ v3 w25 (heldS hb25) (HVX.out w25 hb25) (((((((((((((((((((((((ho3.below hb4').below hb5').below hb6').below hb7').below hb8').below hb9').below hb10').below hb11').below hb12').below hb13').below hb14').below hb15').below hb16').below hb17').below hb18').below hb19').below hb20').below hb21').below hb22').below hb23').below hb24').below hb25').ints hl1)).mono ?_; rintro e w26 ⟨rfl, hb26'⟩; have hb26 := chainS hb25 hb26')
      | (go_at_call 32; refine (F25.out _ w24 (heldS hb24) (HVX.out w24 hb24)).mono ?_; rintro e w25 ⟨rfl, hb25'⟩; have hb25 := chainS hb24 hb25')
      | (go_at_call 32; refine (F24.out _ _ w23 (heldS hb23) (HVX.out w23 hb23) (HVZ.out w23 hb23)).mono ?_; rintro e w24 ⟨rfl, hb24'⟩; have hb24 := chainS hb23 hb24')
      | (go_at_call 36; refine (NZ.out v22 w22 (ho22.ints hlz)).mono ?_; rintro e w23 ⟨v23, rfl, ho23, hb23'⟩; have hb23 := chainS hb22 hb23'; obtain ⟨az, cz, rfl⟩ := own_lenX ho23)
      | (go_at_call 17; refine (LZ.out w21 hb21).mono ?_; rintro e w22 ⟨v22, rfl, ho22, hb22'⟩; have hb22 := chainS hb21 hb22')
      | (go_at_call 16; refine (OF.out _).mono ?_; rintro e w21 ⟨rfl, hb21'⟩; have hb21 := chainS hb20 hb21')
      | (go_at_call 36; refine (NX.out v19 w19 (ho19.ints hlx)).mono ?_; rintro e w20 ⟨v20, rfl, ho20, hb20'⟩; have hb20 := chainS hb19 hb20'; have k20 := (heldS hb20).at (i := 0) rfl; have l20 := (heldS hb20).at (i := 1) rfl; obtain ⟨ax, cx, rfl⟩ := own_lenX ho20)
      | (go_at_call 17; refine (LX.out w18 hb18).mono ?_; rintro e w19 ⟨v19, rfl, ho19, hb19'⟩; have hb19 := chainS hb18 hb19')
      | (go_at_call 16; refine (OF.out _).mono ?_; rintro e w18 ⟨rfl, hb18'⟩; have hb18 := chainS hb17 hb18')
      | (go_at_call 15; refine (TZ.out v15 v16 w16 ((ho15.below hb16').ints hl1) (ho16.ints hlz)).mono ?_; rintro e w17 ⟨v17, rfl, ho17, hb17'⟩; have hb17 := chainS hb16 hb17'; have k17 := (heldS hb17).at (i := 0) rfl; have l17 := (heldS hb17).at (i := 1) rfl)
      | (go_at_call 17; refine (LZ.out w15 hb15).mono ?_; rintro e w16 ⟨v16, rfl, ho16, hb16'⟩; have hb16 := chainS hb15 hb16')
      | (go_at_call 35; refine (CL.out v3 w14 ((((((((((((ho3.below hb4').below hb5').below hb6').below hb7').below hb8').below hb9').below hb10').below hb11').below hb12').below hb13').below hb14').ints hl1)).mono ?_; rintro e w15 ⟨v15, rfl, ho15, hb15'⟩; have hb15 := chainS hb14 hb15')
      | (go_at_call 16; refine (OF.out _).mono ?_; rintro e w14 ⟨rfl, hb14'⟩; have hb14 := chainS hb13 hb14')
      | (go_at_call 15; refine (TX.out v11 v12 w12 ((ho11.below hb12').ints hl1) (ho12.ints hlx)).mono ?_; rintro e w13 ⟨v13, rfl, ho13, hb13'⟩; have hb13 := chainS hb12 hb13'; have k13 := (heldS hb13).at (i := 0) rfl; have l13 := (heldS hb13).at (i := 1) rfl)
      | (go_at_call 17; refine (LX.out w11 hb11).mono ?_; rintro e w12 ⟨v12, rfl, ho12, hb12'⟩; have hb12 := chainS hb11 hb12')
      | (go_at_call 35; refine (CL.out v3 w10 ((((((((ho3.below hb4').below hb5').below hb6').below hb7').below hb8').below hb9').below hb10').ints hl1)).mono ?_; rintro e w11 ⟨v11, rfl, ho11, hb11'⟩; have hb11 := chainS hb10 hb11')
      | (go_at_call 16; refine (OF.out _).mono ?_; rintro e w10 ⟨rfl, hb10'⟩; have hb10 := chainS hb9 hb10')
      | (go_at_call 18; refine (BZ.out v8 w8 (ho8.ints hlz)).mono ?_; rintro e w9 ⟨v9, rfl, ho9, hb9'⟩; have hb9 := chainS hb8 hb9'; have k9 := (heldS hb9).at (i := 0) rfl; have l9 := (heldS hb9).at (i := 1) rfl)
      | (go_at_call 17; refine (LZ.out w7 hb7).mono ?_; rintro e w8 ⟨v8, rfl, ho8, hb8'⟩; have hb8 := chainS hb7 hb8')
      | (go_at_call 16; refine (OF.out _).mono ?_; rintro e w7 ⟨rfl, hb7'⟩; have hb7 := chainS hb6 hb7')
      | (go_at_call 18; refine (BX.out v5 w5 (ho5.ints hlx)).mono ?_; rintro e w6 ⟨v6, rfl, ho6, hb6'⟩; have hb6 := chainS hb5 hb6'; have k6 := (heldS hb6).at (i := 0) rfl; have l6 := (heldS hb6).at (i := 1) rfl)
      | (go_at_call 17; refine (LX.out w4 hb4).mono ?_; rintro e w5 ⟨v5, rfl, ho5, hb5'⟩; have hb5 := chainS hb4 hb5')
      | (go_at_call 16; refine (OF.out _).mono ?_; rintro e w4 ⟨rfl, hb4'⟩; have hb4 := chainS hb3 hb4')
      | (go_at_call 34; refine (LG.out _).mono ?_; rintro e w3 ⟨v3, rfl, ho3, hb3'⟩; have hb3 := chainS hb2 hb3'; have k3 := (heldS hb3).at (i := 0) rfl; have l3 := (heldS hb3).at (i := 1) rfl)
      | (go_at_call 16; refine (OF.out _).mono ?_; rintro e w2 ⟨rfl, hb2'⟩; have hb2 := chainS hb1 hb2')
      | (go_at_call 19; refine (FN.out _ _ (AR.out _ _ (by simp))).mono ?_; rintro e w1 ⟨rfl, hb1'⟩; have hb1 := chainS0 hb1'; have k1 := (heldS hb1).at (i := 0) rfl; have l1 := (heldS hb1).at (i := 1) rfl))
  go_ret
  exact ⟨rfl, chainE hb32⟩

set_option maxRecDepth 20000 in
set_option maxHeartbeats 8000000 in
theorem OrderL_tffe (K n : Nat) (vu vv vw : Value) (xs ys zs : List Int) (iU iW cU cW : Nat) (w : World) (hv : validB K n = true) (hx : Ints w vu xs) (hy : Ints w vv ys) (hz : Ints w vw zs) (q1 : wordB (mirs K n) xs = true) (q2 : wordB (mirs K n) ys = true) (q3 : wordB (mirs K n) zs = true)
    (P : OrdP K n xs ys zs iU iW cU cW true) (T : TabW K n) (his : belG (wordsG K n) (nextG K n) (ix K n xs) (ix K n zs) = true) (e30 : belG (wordsG K n) (nextG K n) (ix K n ys) (ix K n xs) = false) (e32 : belG (wordsG K n) (nextG K n) (ix K n zs) (ix K n xs) = false) (hlt : ¬ lenX (wordsG K n) (ix K n xs) < lenX (wordsG K n) (ix K n zs)) :
    Calls Try.prog 5 #[.agg #[.int .u8 (K : Nat), .int .i64 (n : Nat)], vu, vv, vw] w (TrueM w) := by
  have hok : okI K (n : Int) [xs, ys, zs] = true := by rw [okI_cast hv]; simp [q1, q2, q3]
  have hK : K < 256 := by unfold validB at hv; simp only [Bool.or_eq_true, Bool.and_eq_true, beq_iff_eq] at hv; omega
  have FN := Lib.hid (fun w' v' (ha : Args w' v' [xs, ys, zs]) => by have := fine_any K (n : Int) v' [xs, ys, zs] w' hK ha; rw [hok] at this; exact this)
  have AR := Lib.hid (fun o : Obj => args3 (hx.below ((Below.refl _ _).alloc (Nat.le_refl _) o)) (hy.below ((Below.refl _ _).alloc (Nat.le_refl _) o)) (hz.below ((Below.refl _ _).alloc (Nat.le_refl _) o)))
  have AW := Lib.hid (fun w' => awake_any w')
  have OF := Lib.hid (fun w' => Of_any K (n : Int) w')
  have LG := Lib.hid (fun w' => Longest_yes K n w' hv)
  have hlx := word_len q1
  have hly := word_len q2
  have hlz := word_len q3
  have n1 := (word_nat q1).2.2
  have n3 := (word_nat q3).2.2
  have hLN : (wordsG K n).length - 1 < (wordsG K n).length := by have := (tkG hv).pos; omega
  have LX := Lib.hid (fun w' (hb : Below (w.heap.size + 1) (w.alloc (.cells #[.int .u8 (K : Nat), .int .i64 (n : Nat)] 23)) w') => by have := list_any vu xs w' (intsS hx hb); rw [List.take_of_length_le (by omega)] at this; exact this)
  have LZ := Lib.hid (fun w' (hb : Below (w.heap.size + 1) (w.alloc (.cells #[.int .u8 (K : Nat), .int .i64 (n : Nat)] 23)) w') => by have := list_any vw zs w' (intsS hz hb); rw [List.take_of_length_le (by omega)] at this; exact this)
  have BX := Lib.hid (fun v' w' (hi : Ints w' v' xs) => by have := Back_yes K n v' xs w' hv hi q1; rw [P.eU] at this; exact this)
  have BZ := Lib.hid (fun v' w' (hi : Ints w' v' zs) => by have := Back_yes K n v' zs w' hv hi q3; rw [P.eW] at this; exact this)
  have CL := Lib.hid (fun v' w' (hi : Ints w' v' (toI ((wordsG K n).getD ((wordsG K n).length - 1) []))) => Clone_any v' _ w' hi)
  have TX := Lib.hid (fun u' v' w' (hi : Ints w' u' (toI ((wordsG K n).getD ((wordsG K n).length - 1) []))) (hj : Ints w' v' xs) => by have := Times_yes K n u' v' _ xs w' hv hi hj (T.wd _ hLN) q1; rw [T.at' _ hLN, P.fU] at this; exact this)
  have TZ := Lib.hid (fun u' v' w' (hi : Ints w' u' (toI ((wordsG K n).getD ((wordsG K n).length - 1) []))) (hj : Ints w' v' zs) => by have := Times_yes K n u' v' _ zs w' hv hi hj (T.wd _ hLN) q3; rw [T.at' _ hLN, P.fW] at this; exact this)
  have NX := Lib.hid (fun v' w' (hi : Ints w' v' xs) => Normal_yes K n v' xs w' hv hi q1)
  have NZ := Lib.hid (fun v' w' (hi : Ints w' v' zs) => Normal_yes K n v' zs w' hv hi q3)
  have F24 := Lib.hid (fun u' v' w' (hg : Held w' w.heap.size 23 [.int .u8 (K : Nat), .int .i64 (n : Nat)]) (hi : Ints w' u' xs) (hj : Ints w' v' zs) => by have := OrderF_any K n w.heap.size u' v' xs zs w' hv hg hi hj q1 q3; rw [his] at this; exact this)
  have F25 := Lib.hid (fun v' w' (hg : Held w' w.heap.size 23 [.int .u8 (K : Nat), .int .i64 (n : Nat)]) (hj : Ints w' v' xs) => by have := OrderF_any K n w.heap.size (.slice none 0 0) v' [] xs w' hv hg (Ints.nil w') hj rfl q1; rw [show ix K n [] = 0 from rfl, P.h1] at this; exact this)
  have F26 := Lib.hid (fun u' v' w' (hg : Held w' w.heap.size 23 [.int .u8 (K : Nat), .int .i64 (n : Nat)]) (hi : Ints w' u' xs) (hj : Ints w' v' (toI ((wordsG K n).getD ((wordsG K n).length - 1) []))) => by have := OrderF_any K n w.heap.size u' v' xs _ w' hv hg hi hj q1 (T.wd _ hLN); rw [T.at' _ hLN, P.h2] at this; exact this)
  have F27 := Lib.hid (fun u' v' w' (hg : Held w' w.heap.size 23 [.int .u8 (K : Nat), .int .i64 (n : Nat)]) (hi : Ints w' u' xs) (hj : Ints w' v' xs) => by have := OrderF_any K n w.heap.size u' v' xs xs w' hv hg hi hj q1 q1; rw [P.h3] at this; exact this)
  have F28 := Lib.hid (fun u' v' w' (hg : Held w' w.heap.size 23 [.int .u8 (K : Nat), .int .i64 (n : Nat)]) (hi : Ints w' u' (toI ((wordsG K n).getD iU []))) (hj : Ints w' v' (toI ((wordsG K n).getD iW []))) => by have := OrderF_any K n w.heap.size u' v' _ _ w' hv hg hi hj (T.wd _ P.lU) (T.wd _ P.lW); rw [T.at' _ P.lU, T.at' _ P.lW, P.h4] at this; exact this)
  have F29 := Lib.hid (fun u' v' w' (hg : Held w' w.heap.size 23 [.int .u8 (K : Nat), .int .i64 (n : Nat)]) (hi : Ints w' u' (toI ((wordsG K n).getD cW []))) (hj : Ints w' v' (toI ((wordsG K n).getD cU []))) => by have := OrderF_any K n w.heap.size u' v' _ _ w' hv hg hi hj (T.wd _ P.mW) (T.wd _ P.mU); rw [T.at' _ P.mW, T.at' _ P.mU, P.h5] at this; exact this)
  have F30 := Lib.hid (fun u' v' w' (hg : Held w' w.heap.size 23 [.int .u8 (K : Nat), .int .i64 (n : Nat)]) (hi : Ints w' u' ys) (hj : Ints w' v' xs) => by have := OrderF_any K n w.heap.size u' v' ys xs w' hv hg hi hj q2 q1; rw [e30] at this; exact this)
  have F32 := Lib.hid (fun u' v' w' (hg : Held w' w.heap.size 23 [.int .u8 (K : Nat), .int .i64 (n : Nat)]) (hi : Ints w' u' zs) (hj : Ints w' v' xs) => by have := OrderF_any K n w.heap.size u' v' zs xs w' hv hg hi hj q3 q1; rw [e32] at this; exact this)
  have EQ := Lib.hid (fun u' v' w' (hi : Ints w' u' (toI ((wordsG K n).getD (ix K n xs) []))) (hj : Ints w' v' (toI ((wordsG K n).getD (ix K n zs) []))) => EqualM_any u' v' _ _ w' hi hj true (by rw [(P.h8 rfl).resolve_left hlt]; simp))
  have hl1 := word_len (T.wd _ hLN)
  have hl2 := word_len (T.wd _ P.lU)
  have hl3 := word_len (T.wd _ P.lW)
  have hl4 := word_len (T.wd _ P.mU)
  have hl5 := word_len (T.wd _ P.mW)
  have hl6 := word_len (T.wd _ (ix_lt hv q1))
  have hl7 := word_len (T.wd _ (ix_lt hv q3))
  have HVX := Lib.hid (fun w' (hb : Below (w.heap.size + 1) (w.alloc (.cells #[.int .u8 (K : Nat), .int .i64 (n : Nat)] 23)) w') => intsS hx hb)
  have HVY := Lib.hid (fun w' (hb : Below (w.heap.size + 1) (w.alloc (.cells #[.int .u8 (K : Nat), .int .i64 (n : Nat)] 23)) w') => intsS hy hb)
  have HVZ := Lib.hid (fun w' (hb : Below (w.heap.size + 1) (w.alloc (.cells #[.int .u8 (K : Nat), .int .i64 (n : Nat)] 23)) w') => intsS hz hb)
  have HLX := Lib.hid (show ((wordsG K n).getD (ix K n xs) []).length = lenX (wordsG K n) (ix K n xs) from rfl)
  have HLZ := Lib.hid (show ((wordsG K n).getD (ix K n zs) []).length = lenX (wordsG K n) (ix K n zs) from rfl)
  obtain ⟨a, c, rfl, hx1⟩ := hx
  obtain ⟨a2, c2, rfl, hy1⟩ := hy
  obtain ⟨a3, c3, rfl, hz1⟩ := hz
  unfold grpI at *
  have hlti : ¬ ((lenX (wordsG K n) (ix K n xs) : Nat) : Int) < ((lenX (wordsG K n) (ix K n zs) : Nat) : Int) := by omega
  have hltd : decide (((lenX (wordsG K n) (ix K n xs) : Nat) : Int) < ((lenX (wordsG K n) (ix K n zs) : Nat) : Int)) = false := by simp; omega
  have hltn : decide (lenX (wordsG K n) (ix K n xs) < lenX (wordsG K n) (ix K n zs)) = false := by simp; omega
  clear hx1 hy1 hz1 hok hK n1 n3 hLN q1 q2 q3 his P T hv e30 e32 hlt
  go_enter Try.func5, Try.ntmps5
  go_wp2_with (first
      | (go_at_call 20; refine (AW.out _).mono ?_; rintro e w33 ⟨rfl, hb33'⟩; have hb33 := chainS hb32 hb33')
      | (go_at_call 23; refine (EQ.out _ _ w31 ((((((((((((ho20.below hb21').below hb22').below hb23').below hb24').below hb25').below hb26').below hb27').below hb28').below hb29').below hb30').below hb31').ints hl6) (((((((((ho23.below hb24').below hb25').below hb26').below hb27').below hb28').below hb29').below hb30').below hb31').ints hl7)).mono ?_; rintro e w32 ⟨rfl, hb32'⟩; have hb32 := chainS hb31 hb32')
      | (go_at_call 32; refine (F32.out _ _ w30 (heldS hb30) (HVZ.out w30 hb30) (HVX.out w30 hb30)).mono ?_; rintro e w31 ⟨rfl, hb31'⟩; have hb31 := chainS hb30 hb31')
      | (go_at_call 32; refine (F30.out _ _ w29 (heldS hb29) (HVY.out w29 hb29) (HVX.out w29 hb29)).mono ?_; rintro e w30 ⟨rfl, hb30'⟩; have hb30 := chainS hb29 hb30')
      | (go_at_call 32; refine (F29.out v17 v13 w28 (heldS hb28) ((((((((((((ho17.below hb18').below hb19').below hb20').below hb21').below hb22').below hb23').below hb24').below hb25').below hb26').below hb27').below hb28').ints hl5) ((((((((((((((((ho13.below hb14').below hb15').below hb16').below hb17').below hb18').below hb19').below hb20').below hb21').below hb22').below hb23').below hb24').below hb25').below hb26').below hb27').below hb28').ints hl4)).mono ?_; rintro e w29 ⟨rfl, hb29'⟩; have hb29 := chainS hb28 hb29')
      | (go_at_call 32; refine (F28.out v6 v9 w27 (heldS hb27) ((((((((((((((((((((((ho6.below hb7').below hb8').below hb9').below hb10').below hb11').below hb12').below hb13').below hb14').below hb15').below hb16').below hb17').below hb18').below hb19').below hb20').below hb21').below hb22').below hb23').below hb24').below hb25').below hb26').below hb27').ints hl2) (((((((((((((((((((ho9.below hb10').below hb11').below hb12').below hb13').below hb14').below hb15').below hb16').below hb17').below hb18').below hb19').below hb20').below hb21').below hb22').below hb23').below hb24').below hb25').below hb26').below hb27').ints hl3)).mono ?_; rintro e w28 ⟨rfl, hb28'⟩; have hb28 := chainS hb27 hb28')
      | (go_at_call 32; refine (F27.out _ _ w26 (heldS hb26) (HVX.out w26 hb26) (HVX.out w26 hb26)).mono ?_; rintro e w27 ⟨rfl, hb27'⟩; have hb27 := chainS hb26 hb27')
      | (go_at_call 32; refine (F26.out _ v3 w25 (heldS hb25) (HVX.out w25 hb25) (((((((((((((((((((((((ho3.below hb4').below hb5').below hb6').below hb7').below hb8').below hb9').below hb10').below hb11').below hb12').below hb13').below hb14').below hb15').below hb16').below hb17').below hb18').below hb19').below hb20').below hb21').below hb22').below hb23').below hb24').below hb25').ints hl1)).mono ?_; rintro e w26 ⟨rfl, hb26'⟩; have hb26 := chainS hb25 hb26')
      | (go_at_call 32; refine (F25.out _ w24 (heldS hb24) (HVX.out w24 hb24)).mono ?_; rintro e w25 ⟨rfl, hb25'⟩; have hb25 := chainS hb24 hb25')
      | (go_at_call 32; refine (F24.out _ _ w23 (heldS hb23) (HVX.out w23 hb23) (HVZ.out w23 hb23)).mono ?_; rintro e w24 ⟨rfl, hb24'⟩; have hb24 := chainS hb23 hb24')
      | (go_at_call 36; refine (NZ.out v22 w22 (ho22.ints hlz)).mono ?_; rintro e w23 ⟨v23, rfl, ho23, hb23'⟩; have hb23 := chainS hb22 hb23'; obtain ⟨az, cz, rfl⟩ := own_lenX ho23)
      | (go_at_call 17; refine (LZ.out w21 hb21).mono ?_; rintro e w22 ⟨v22, rfl, ho22, hb22'⟩; have hb22 := chainS hb21 hb22')
      | (go_at_call 16; refine (OF.out _).mono ?_; rintro e w21 ⟨rfl, hb21'⟩; have hb21 := chainS hb20 hb21')
      | (go_at_call 36; refine (NX.out v19 w19 (ho19.ints hlx)).mono ?_; rintro e w20 ⟨v20, rfl, ho20, hb20'⟩; have hb20 := chainS hb19 hb20'; have k20 := (heldS hb20).at (i := 0) rfl; have l20 := (heldS hb20).at (i := 1) rfl; obtain ⟨ax, cx, rfl⟩ := own_lenX ho20)
      | (go_at_call 17; refine (LX.out w18 hb18).mono ?_; rintro e w19 ⟨v19, rfl, ho19, hb19'⟩; have hb19 := chainS hb18 hb19')
      | (go_at_call 16; refine (OF.out _).mono ?_; rintro e w18 ⟨rfl, hb18'⟩; have hb18 := chainS hb17 hb18')
      | (go_at_call 15; refine (TZ.out v15 v16 w16 ((ho15.below hb16').ints hl1) (ho16.ints hlz)).mono ?_; rintro e w17 ⟨v17, rfl, ho17, hb17'⟩; have hb17 := chainS hb16 hb17'; have k17 := (heldS hb17).at (i := 0) rfl; have l17 := (heldS hb17).at (i := 1) rfl)
      | (go_at_call 17; refine (LZ.out w15 hb15).mono ?_; rintro e w16 ⟨v16, rfl, ho16, hb16'⟩; have hb16 := chainS hb15 hb16')
      | (go_at_call 35; refine (CL.out v3 w14 ((((((((((((ho3.below hb4').below hb5').below hb6').below hb7').below hb8').below hb9').below hb10').below hb11').below hb12').below hb13').below hb14').ints hl1)).mono ?_; rintro e w15 ⟨v15, rfl, ho15, hb15'⟩; have hb15 := chainS hb14 hb15')
      | (go_at_call 16; refine (OF.out _).mono ?_; rintro e w14 ⟨rfl, hb14'⟩; have hb14 := chainS hb13 hb14')
      | (go_at_call 15; refine (TX.out v11 v12 w12 ((ho11.below hb12').ints hl1) (ho12.ints hlx)).mono ?_; rintro e w13 ⟨v13, rfl, ho13, hb13'⟩; have hb13 := chainS hb12 hb13'; have k13 := (heldS hb13).at (i := 0) rfl; have l13 := (heldS hb13).at (i := 1) rfl)
      | (go_at_call 17; refine (LX.out w11 hb11).mono ?_; rintro e w12 ⟨v12, rfl, ho12, hb12'⟩; have hb12 := chainS hb11 hb12')
      | (go_at_call 35; refine (CL.out v3 w10 ((((((((ho3.below hb4').below hb5').below hb6').below hb7').below hb8').below hb9').below hb10').ints hl1)).mono ?_; rintro e w11 ⟨v11, rfl, ho11, hb11'⟩; have hb11 := chainS hb10 hb11')
      | (go_at_call 16; refine (OF.out _).mono ?_; rintro e w10 ⟨rfl, hb10'⟩; have hb10 := chainS hb9 hb10')
      | (go_at_call 18; refine (BZ.out v8 w8 (ho8.ints hlz)).mono ?_; rintro e w9 ⟨v9, rfl, ho9, hb9'⟩; have hb9 := chainS hb8 hb9'; have k9 := (heldS hb9).at (i := 0) rfl; have l9 := (heldS hb9).at (i := 1) rfl)
      | (go_at_call 17; refine (LZ.out w7 hb7).mono ?_; rintro e w8 ⟨v8, rfl, ho8, hb8'⟩; have hb8 := chainS hb7 hb8')
      | (go_at_call 16; refine (OF.out _).mono ?_; rintro e w7 ⟨rfl, hb7'⟩; have hb7 := chainS hb6 hb7')
      | (go_at_call 18; refine (BX.out v5 w5 (ho5.ints hlx)).mono ?_; rintro e w6 ⟨v6, rfl, ho6, hb6'⟩; have hb6 := chainS hb5 hb6'; have k6 := (heldS hb6).at (i := 0) rfl; have l6 := (heldS hb6).at (i := 1) rfl)
      | (go_at_call 17; refine (LX.out w4 hb4).mono ?_; rintro e w5 ⟨v5, rfl, ho5, hb5'⟩; have hb5 := chainS hb4 hb5')
      | (go_at_call 16; refine (OF.out _).mono ?_; rintro e w4 ⟨rfl, hb4'⟩; have hb4 := chainS hb3 hb4')
      | (go_at_call 34; refine (LG.out _).mono ?_; rintro e w3 ⟨v3, rfl, ho3, hb3'⟩; have hb3 := chainS hb2 hb3'; have k3 := (heldS hb3).at (i := 0) rfl; have l3 := (heldS hb3).at (i := 1) rfl)
      | (go_at_call 16; refine (OF.out _).mono ?_; rintro e w2 ⟨rfl, hb2'⟩; have hb2 := chainS hb1 hb2')
      | (go_at_call 19; refine (FN.out _ _ (AR.out _ _ (by simp))).mono ?_; rintro e w1 ⟨rfl, hb1'⟩; have hb1 := chainS0 hb1'; have k1 := (heldS hb1).at (i := 0) rfl; have l1 := (heldS hb1).at (i := 1) rfl))
  go_ret
  exact ⟨rfl, chainE hb33⟩
end Go.Proofs.Ytmlhecfhhhebnaa
