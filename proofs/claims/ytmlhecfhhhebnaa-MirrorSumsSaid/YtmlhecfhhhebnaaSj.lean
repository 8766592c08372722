/- MirrorAll: the walks. -/
import Derived.Test.YtmlhecfhhhebnaaN1
import Derived.Test.YtmlhecfhhhebnaaEm
namespace Go.Proofs.Ytmlhecfhhhebnaa
open Go.RowKit
attribute [local go_sem] Oper.semAt_some

theorem RowsF.below {S : Nat → Prop} {B : Nat} {w w' : World} {v : Value} {ls : List (List Nat)} (h : RowsF S B w v ls) (hb : Below w.heap.size w w') : RowsF S B w' v ls :=
  h.kept (S' := fun _ => True) (Sm.of_below hb) (fun _ _ => trivial) (fun _ _ => trivial)
theorem RT.words {W X : List (List Nat)} {w : World} {vW vP vX : Value} (h : RT W X w (.agg #[vW, vP, vX])) : RowsF (fun _ => True) 0 w vW W := by
  obtain ⟨vW', vP', vX', P', e', hW, _, _⟩ := h
  obtain ⟨rfl, rfl, rfl⟩ : vW = vW' ∧ vP = vP' ∧ vX = vX' := by simpa using e'
  exact hW
theorem RowsF.nform {S : Nat → Prop} {B : Nat} {w : World} {v : Value} {ls : List (List Nat)} (h : RowsF S B w v ls) : ∃ a n c, v = .slice a n c := by
  obtain ⟨a, c, rfl⟩ := h.form
  exact ⟨a, _, c, rfl⟩
theorem okI_nil (K : Nat) (n : Int) : okI K n [] = validI K n := by unfold okI; simp

set_option maxRecDepth 20000 in
set_option maxHeartbeats 4000000 in
theorem AllL_no (K : Nat) (n : Int) (w : World) (hK : K < 256) (h : validI K n = false) :
    Calls Try.prog 12 #[grpI K n] w (TrueM w) := by
  have OF := Lib.hid (fun w' => Of_any K n w')
  have AL := Lib.hid (fun w' => All_no K n w' hK (by rw [okI_nil]; exact h))
  have CN := Lib.hid (fun w' => Counts_no K n w' hK (by rw [okI_nil]; exact h))
  have LG := Lib.hid (fun w' => Longest_bad K n w' hK h)
  have VA := Lib.hid (fun w' => by have := Valid_any K n w' hK; rw [h] at this; exact this)
  have AW := Lib.hid (fun w' => awake_any w')
  unfold grpI at *
  clear h
  go_enter Try.func12, Try.ntmps12
  go_wp2_with (first
      | (go_at_call 20; refine (AW.out _).mono ?_; rintro e w8 ⟨rfl, hb8'⟩; have hb8 := chainS hb7 hb8')
      | (go_at_call 46; refine (VA.out _).mono ?_; rintro e w7 ⟨rfl, hb7'⟩; have hb7 := chainS hb6 hb7'; have g70 := (heldS hb7).at (i := 0) rfl; have g71 := (heldS hb7).at (i := 1) rfl)
      | (go_at_call 34; refine (LG.out _).mono ?_; rintro e w6 ⟨rfl, hb6'⟩; have hb6 := chainS hb5 hb6'; have g60 := (heldS hb6).at (i := 0) rfl; have g61 := (heldS hb6).at (i := 1) rfl)
      | (go_at_call 16; refine (OF.out _).mono ?_; rintro e w5 ⟨rfl, hb5'⟩; have hb5 := chainS hb4 hb5')
      | (go_at_call 45; refine (CN.out _).mono ?_; rintro e w4 ⟨rfl, hb4'⟩; have hb4 := chainS hb3 hb4'; have g40 := (heldS hb4).at (i := 0) rfl; have g41 := (heldS hb4).at (i := 1) rfl)
      | (go_at_call 16; refine (OF.out _).mono ?_; rintro e w3 ⟨rfl, hb3'⟩; have hb3 := chainS hb2 hb3')
      | (go_at_call 52; refine (AL.out _).mono ?_; rintro e w2 ⟨rfl, hb2'⟩; have hb2 := chainS hb1 hb2'; have g20 := (heldS hb2).at (i := 0) rfl; have g21 := (heldS hb2).at (i := 1) rfl)
      | (go_at_call 16; refine (OF.out _).mono ?_; rintro e w1 ⟨rfl, hb1q⟩; have hb1 := hb1q.mono (show w.heap.size + 1 ≤ _ by simp)))
  go_ret
  exact ⟨rfl, chainE hb8⟩

set_option maxRecDepth 20000 in
set_option maxHeartbeats 8000000 in
theorem AllL_yes (K n : Nat) (w : World) (hv : validB K n = true) :
    Calls Try.prog 12 #[.agg #[.int .u8 (K : Nat), .int .i64 (n : Nat)]] w (TrueM w) := by
  have hK := K_lt hv
  have OF := Lib.hid (fun w' => Of_any K (n : Int) w')
  have AL := Lib.hid (fun w' => All_yes K n w' hv)
  have CN := Lib.hid (fun w' => Counts_yes K n w' hv)
  have LG := Lib.hid (fun w' => Longest_yes K n w' hv)
  have VA := Lib.hid (fun w' => by have := Valid_any K (n : Int) w' hK; rw [validI_cast, hv] at this; exact this)
  have AW := Lib.hid (fun w' => awake_any w')
  have EL := Lib.hid (fun w' => Elements_any K n w' hv)
  have HPOS := Lib.hid (tkG hv).pos
  have hpos := (tkG hv).pos
  have hsm := (tkG hv).small
  have SA := Lib.hid (fun (v1 v2 : Value) (w' : World) (B : Nat) (h1 : RowsF (fun _ => True) B w' v1 (wordsG K n)) (h2 : RowsF (fun _ => True) 0 w' v2 (wordsG K n)) => by have := same_any v1 v2 _ _ w' h1 h2 (by omega); rw [decide_eq_true rfl] at this; exact this)
  have RC := Lib.hid (fun (v : Value) (w' : World) (ht : RT (wordsG K n) (nextG K n) w' v) => RCounts_any v w' ht (tkG hv) (cntG hv).2.1)
  have HEC := Lib.hid (show decide (toI (cntTo (wordsG K n) (wordsG K n).length) = toI (rcnTo (wordsG K n) (wordsG K n).length)) = true by rw [(cntG hv).2.2]; simp)
  obtain ⟨p, hp⟩ : ∃ p, (wordsG K n).length - 1 = p := ⟨_, rfl⟩
  have hpl : p < (wordsG K n).length := by omega
  have HPL := Lib.hid hpl
  have hsub : ((wordsG K n).length : Int) - 1 = (p : Int) := by omega
  have hpi : (p : Int) < ((wordsG K n).length : Int) := by omega
  rw [hp] at LG
  have hlC : (toI (cntTo (wordsG K n) (wordsG K n).length)).length ≤ 17592186044416 := by rw [toI_length]; have := cnt_len (wordsG K n) _ (Nat.le_refl _); omega
  have hlR : (toI (rcnTo (wordsG K n) (wordsG K n).length)).length ≤ 17592186044416 := by rw [← (cntG hv).2.2]; exact hlC
  have hlL : (toI ((wordsG K n).getD p [])).length ≤ 17592186044416 := by rw [toI_length]; have := wd_short (tkG hv) hpl; omega
  unfold grpI at *
  clear hp hv hK
  go_enter Try.func12, Try.ntmps12
  go_wp2_with (first
      | (go_at_call 20; refine (AW.out _).mono ?_; rintro e w14 ⟨rfl, hb14'⟩; have hb14 := chainS hb13 hb14')
      | (go_at_call 23; refine (EqualM_any _ _ _ _ w12 (((((((ho6.below hb7').below hb8').below hb9').below hb10').below hb11').below hb12').ints hlL) hir true (by simp)).mono ?_; rintro e w13 ⟨rfl, hb13'⟩; have hb13 := chainS hb12 hb13')
      | (go_at_call 23; refine (EqualM_any _ _ _ _ w11 ((((((((ho4.below hb5').below hb6').below hb7').below hb8').below hb9').below hb10').below hb11').ints hlC) (ho11.ints hlR) true HEC.out).mono ?_; rintro e w12 ⟨rfl, hb12'⟩; have hb12 := chainS hb11 hb12'; have hT12 := hT11.below hb12' hT11.lt; have t120 := hT12.at (i := 0) rfl; have t121 := hT12.at (i := 1) rfl; have t122 := hT12.at (i := 2) rfl; obtain ⟨ar, cr, hcr, hir⟩ := rows_at ((((hq8.below hb9').below hb10').below hb11').below hb12') HPL.out)
      | (go_at_call 53; refine (RC.out _ w10 ((hq8.below hb9').below hb10')).mono ?_; rintro e w11 ⟨v11, rfl, ho11, hb11'⟩; have hb11 := chainS hb10 hb11'; have hT11 := hT10.below hb11' hT10.lt; have t110 := hT11.at (i := 0) rfl; have t111 := hT11.at (i := 1) rfl; have t112 := hT11.at (i := 2) rfl; obtain ⟨a11, n11, c11, rfl⟩ := own_form ho11)
      | (go_at_call 43; refine (SA.out _ _ w9 _ (((((((hr2.below hb3').below hb4').below hb5').below hb6').below hb7').below hb8').below hb9') (hq8.below hb9').words).mono ?_; rintro e w10 ⟨rfl, hb10'⟩; have hb10 := chainS hb9 hb10'; have hT10 := hT9.below hb10' hT9.lt; have t100 := hT10.at (i := 0) rfl; have t101 := hT10.at (i := 1) rfl; have t102 := hT10.at (i := 2) rfl)
      | ((with_reducible refine is_store 36 ?_); refine wpl_store_rt (by rfl) _ _ (by rfl) w8.heap.size (.slice (some ⟨gW, 0, none⟩) (wordsG K n).length cW) (.slice aP lP cP) (.slice aX lX cX) [.slice none 0 0, .slice none 0 0, .slice none 0 0] rfl (by rfl) (by rfl) (by rfl) (by rfl) (by rfl) (Held.made (by simp)) ?_; intro w9 hT9 hsm9 hsz9; have hb9' : Below w8.heap.size w8 w9 := hsm9.below ((Below.refl _ _).alloc (Nat.le_refl _) _) (Nat.le_refl _) (by simp); have hb9 := chainS hb8 hb9'; have t0 := hT9.at (i := 0) rfl; have t1 := hT9.at (i := 1) rfl; have t2 := hT9.at (i := 2) rfl; clear hsm9 hsz9)
      | (go_at_call 21; refine (EL.out w7).mono ?_; rintro e w8 ⟨v8, rfl, hrt8, hb8'⟩; have hb8 := chainS hb7 hb8'; have hq8 := hrt8.rt; clear hrt8; obtain ⟨gW, cW, aP, lP, cP, aX, lX, cX, rfl⟩ := RT.made hq8 HPOS.out)
      | (go_at_call 46; refine (VA.out _).mono ?_; rintro e w7 ⟨rfl, hb7'⟩; have hb7 := chainS hb6 hb7'; have g70 := (heldS hb7).at (i := 0) rfl; have g71 := (heldS hb7).at (i := 1) rfl)
      | (go_at_call 34; refine (LG.out _).mono ?_; rintro e w6 ⟨v6, rfl, ho6, hb6'⟩; have hb6 := chainS hb5 hb6'; have g60 := (heldS hb6).at (i := 0) rfl; have g61 := (heldS hb6).at (i := 1) rfl; obtain ⟨a6, n6, c6, rfl⟩ := own_form ho6)
      | (go_at_call 16; refine (OF.out _).mono ?_; rintro e w5 ⟨rfl, hb5'⟩; have hb5 := chainS hb4 hb5')
      | (go_at_call 45; refine (CN.out _).mono ?_; rintro e w4 ⟨v4, rfl, ho4, hb4'⟩; have hb4 := chainS hb3 hb4'; have g40 := (heldS hb4).at (i := 0) rfl; have g41 := (heldS hb4).at (i := 1) rfl; obtain ⟨a4, n4, c4, rfl⟩ := own_form ho4)
      | (go_at_call 16; refine (OF.out _).mono ?_; rintro e w3 ⟨rfl, hb3'⟩; have hb3 := chainS hb2 hb3')
      | (go_at_call 52; refine (AL.out _).mono ?_; rintro e w2 ⟨v2, rfl, hr2, hb2'⟩; have hb2 := chainS hb1 hb2'; have g20 := (heldS hb2).at (i := 0) rfl; have g21 := (heldS hb2).at (i := 1) rfl; obtain ⟨a2, n2, c2, rfl⟩ := hr2.nform)
      | (go_at_call 16; refine (OF.out _).mono ?_; rintro e w1 ⟨rfl, hb1q⟩; have hb1 := hb1q.mono (show w.heap.size + 1 ≤ _ by simp)))
  go_ret
  exact ⟨rfl, chainE hb14⟩

theorem mirrorAll_true (K : Nat) (n : Int) (w : World) (hK : K < 256) :
    Calls Try.prog 12 #[grpI K n] w (TrueM w) := by
  cases hv : validI K n with
  | false => exact AllL_no K n w hK hv
  | true =>
    obtain ⟨m, rfl, hm⟩ := validI_nat hv
    unfold grpI
    exact AllL_yes K m w hm
end Go.Proofs.Ytmlhecfhhhebnaa
