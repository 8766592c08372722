/- MirrorBelow: the walks, two words. -/
import Derived.Test.YtmlhecfhhhebnaaN2
namespace Go.Proofs.Ytmlhecfhhhebnaa
open Go.RowKit
attribute [local go_sem] Oper.semAt_some

def VBe11 (vt vu : Value) (iw xu N lo : Nat) (r : Bool) : Nat → (Nat → Value) → World → Prop
  | 0, y, _ => y 83 = .bool r
  | 1, y, _ => y 84 = vt
  | 2, y, _ => y 85 = .int .i64 (iw : Nat)
  | 3, y, w => ∃ g cap, y 86 = .slice (some ⟨g, 0, none⟩) N cap ∧ OwnB 0 w (.slice (some ⟨g, 0, none⟩) N cap) (bitL N lo)
  | 4, y, _ => y 87 = vt
  | 5, y, _ => y 88 = vu
  | 6, y, _ => y 89 = .int .i64 (xu : Nat)
  | 7, y, w => ∃ g, y 90 = .pointer (some ⟨g, xu, none⟩) ∧ w.cell? ⟨g, xu, none⟩ = some (.bool r)
  | 8, y, _ => y 91 = .bool r
  | 9, y, _ => y 92 = .bool true
  | 10, y, _ => y 93 = .bool true
  | 11, y, _ => y 94 = .int .i64 0
  | 12, y, _ => y 95 = .bool true
  | 13, y, _ => y 96 = .bool true
  | 14, y, _ => y 6 = .bool true
  | _, _, _ => True

set_option maxRecDepth 20000 in
set_option maxHeartbeats 8000000 in
theorem BelowL_yes (K n : Nat) (vu vw : Value) (xs ys : List Int) (w : World) (hv : validB K n = true) (hx : Ints w vu xs) (hy : Ints w vw ys) (q1 : wordB (mirs K n) xs = true) (q2 : wordB (mirs K n) ys = true) :
    Calls Try.prog 14 #[.agg #[.int .u8 (K : Nat), .int .i64 (n : Nat)], vu, vw] w (TrueM w) := by
  have hK := K_lt hv
  have hok : okI K (n : Int) [ys] = true := by rw [okI_cast hv]; simp [q2]
  have FN := Lib.hid (fun w' v' (ha : Args w' v' [ys]) => by have := fine_any K (n : Int) v' [ys] w' hK ha; rw [hok] at this; exact this)
  have AW := Lib.hid (fun w' => awake_any w')
  have OF := Lib.hid (fun w' => Of_any K (n : Int) w')
  have WD := Lib.hid (fun w' (hi : Ints w' vu xs) => by have := Word_any K n vu xs w' hv hi; rw [q1] at this; exact this)
  have EL := Lib.hid (fun w' => Elements_any K n w' hv)
  have HPOS := Lib.hid (tkG hv).pos
  have n2 := word_nat q2
  have LU := Lib.hid (fun w' (hb : Below (w.heap.size + 1) (w.alloc (.cells #[.int .u8 (K : Nat), .int .i64 (n : Nat)] 23)) w') => list_any vu xs w' (intsS hx hb))
  have LW := Lib.hid (fun w' (hb : Below (w.heap.size + 1) (w.alloc (.cells #[.int .u8 (K : Nat), .int .i64 (n : Nat)] 23)) w') => by have := list_any vw ys w' (intsS hy hb); rw [List.take_of_length_le (by omega)] at this; exact this)
  have HU := Lib.hid (fun w' (hb : Below (w.heap.size + 1) (w.alloc (.cells #[.int .u8 (K : Nat), .int .i64 (n : Nat)] 23)) w') => intsS hx hb)
  have HW := Lib.hid (fun w' (hb : Below (w.heap.size + 1) (w.alloc (.cells #[.int .u8 (K : Nat), .int .i64 (n : Nat)] 23)) w') => intsS hy hb)
  have hiw := ix_lt hv q2
  have n1 := word_nat q1
  have hxu := ix_lt hv q1
  have BW := Lib.hid (fun u' v' w' (hi : Ints w' u' (xs.take 34)) (hj : Ints w' v' ys) => by rw [List.take_of_length_le (by omega)] at hi; exact Below_yes K n u' v' xs ys w' hv hi hj q1 q2)
  have RN2 := Lib.hid (fun w' v' (ht : RT (wordsG K n) (nextG K n) w' v') (hi : Ints w' vu xs) => show Calls Try.prog 22 #[v', .int .i64 0, vu] w' fun e w'' => e = .returned (.int .i64 ((ix K n xs : Nat) : Int)) ∧ Below w'.heap.size w' w'' from RNumber_any v' 0 vu (natW xs) w' ht (tkG hv) (by rw [n1.1]; exact hi) (tkG hv).pos n1.2.1)
  have HLB := Lib.hid (low_bel hv hiw hxu)
  have CV := Lib.hid (fun v' w' (hi : Ints w' v' ys) => Covers_yes K n v' ys w' hv hi q2)
  have RN := Lib.hid (fun w' v' (ht : RT (wordsG K n) (nextG K n) w' v') (hi : Ints w' vw ys) => show Calls Try.prog 22 #[v', .int .i64 0, vw] w' fun e w'' => e = .returned (.int .i64 ((ix K n ys : Nat) : Int)) ∧ Below w'.heap.size w' w'' from RNumber_any v' 0 vw (natW ys) w' ht (tkG hv) (by rw [n2.1]; exact hi) (tkG hv).pos n2.2.1)
  have RC := Lib.hid (fun v' w' (ht : RT (wordsG K n) (nextG K n) w' v') => RCovers_any v' (ix K n ys) w' hv ht hiw)
  have LO := Lib.hid (fun v' w' (ht : RT (wordsG K n) (nextG K n) w' v') => RLower_any v' (ix K n ys) w' ht (tkG hv) hiw)
  have hN : (wordsG K n).length ≤ 120 := (tkG hv).small
  have hcl : ((covL (wordsG K n) (nextG K n) (ix K n ys)).map fun u => (wordsG K n).getD u []).length ≤ 1000000 := by
    rw [List.length_map]
    have := List.length_filter_le (covB (wordsG K n) (nextG K n) (ix K n ys)) (List.range (wordsG K n).length)
    rw [List.length_range] at this
    unfold covL; omega
  have SA := Lib.hid (fun (v1 v2 : Value) (w' : World) (B1 B2 : Nat) (h1 : RowsF (fun _ => True) B1 w' v1 ((covL (wordsG K n) (nextG K n) (ix K n ys)).map fun u => (wordsG K n).getD u [])) (h2 : RowsF (fun _ => True) B2 w' v2 ((covL (wordsG K n) (nextG K n) (ix K n ys)).map fun u => (wordsG K n).getD u [])) => by have := same_any v1 v2 _ _ w' h1 h2 hcl; rw [decide_eq_true rfl] at this; exact this)
  have hlu : (xs.take 34).length ≤ 17592186044416 := by rw [List.length_take]; omega
  have hlw := word_len q2
  obtain ⟨a, c, rfl, hx1⟩ := hx
  obtain ⟨a2, c2, rfl, hy1⟩ := hy
  obtain ⟨N, hNe⟩ : ∃ N, (wordsG K n).length = N := ⟨_, rfl⟩
  have HNE := Lib.hid hNe
  obtain ⟨iw, hiwe⟩ : ∃ iw, ix K n ys = iw := ⟨_, rfl⟩
  rw [hiwe] at BW HLB CV RN RC LO SA hiw
  rw [hNe] at HLB hxu LO hiw hN
  obtain ⟨xu, hxue⟩ : ∃ xu, ix K n xs = xu := ⟨_, rfl⟩
  rw [hxue] at BW RN2 HLB hxu
  obtain ⟨r, hre⟩ : ∃ r, belG (wordsG K n) (nextG K n) xu iw = r := ⟨_, rfl⟩
  rw [hre] at BW HLB
  obtain ⟨lo, hloe⟩ : ∃ lo, lowW (nextG K n) N ((wordsG K n).getD iw []) = lo := ⟨_, rfl⟩
  rw [hloe] at HLB LO
  have HXN := Lib.hid hxu
  have hxNi : (xu : Int) < (N : Int) := by omega
  unfold grpI at *
  clear hx1 hy1 hok hK n1 hxue hre hloe hxu n2 q1 q2 hv hNe hiwe hiw hcl
  go_enter Try.func14, Try.ntmps14
  go_upto_region 11 with (first
      | (go_at_call 25; refine (WD.out w14 (HU.out w14 hb14)).mono ?_; rintro e w15 ⟨rfl, hb15'⟩; have hb15 := chainS hb14 hb15')
      | (go_at_call 20; refine (AW.out _).mono ?_; rintro e w14 ⟨rfl, hb14'⟩; have hb14 := chainS hb13 hb14'; have hT14 := hT13.below hb14' hT13.lt; have t140 := hT14.at (i := 0) rfl; have t141 := hT14.at (i := 1) rfl; have t142 := hT14.at (i := 2) rfl; have g140 := (heldS hb14).at (i := 0) rfl; have g141 := (heldS hb14).at (i := 1) rfl)
      | (go_at_call 43; refine (SA.out _ _ w12 _ _ (((((hr7.below hb8').below hb9').below hb10').below hb11').below hb12') hr12).mono ?_; rintro e w13 ⟨rfl, hb13'⟩; have hb13 := chainS hb12 hb13'; have hT13 := hT12.below hb13' hT12.lt; have t130 := hT13.at (i := 0) rfl; have t131 := hT13.at (i := 1) rfl; have t132 := hT13.at (i := 2) rfl)
      | (go_at_call 57; refine (RC.out _ w11 ((hq9.below hb10').below hb11')).mono ?_; rintro e w12 ⟨v12, rfl, hr12, hb12'⟩; have hb12 := chainS hb11 hb12'; have hT12 := hT11.below hb12' hT11.lt; have t120 := hT12.at (i := 0) rfl; have t121 := hT12.at (i := 1) rfl; have t122 := hT12.at (i := 2) rfl; obtain ⟨a12, n12, c12, rfl⟩ := hr12.nform)
      | (go_at_call 22; refine (RN.out w10 _ (hq9.below hb10') (HW.out w10 hb10)).mono ?_; rintro e w11 ⟨rfl, hb11'⟩; have hb11 := chainS hb10 hb11'; have hT11 := hT10.below hb11' hT10.lt; have t110 := hT11.at (i := 0) rfl; have t111 := hT11.at (i := 1) rfl; have t112 := hT11.at (i := 2) rfl)
      | ((with_reducible refine is_store 36 ?_); refine wpl_store_rt (by rfl) _ _ (by rfl) w9.heap.size (.slice (some ⟨gW, 0, none⟩) N cW) (.slice aP lP cP) (.slice aX lX cX) [.slice none 0 0, .slice none 0 0, .slice none 0 0] rfl (by rfl) (by rfl) (by rfl) (by rfl) (by rfl) (Held.made (by simp)) ?_; intro w10 hT10 hsm10 hsz10; have hb10' : Below w9.heap.size w9 w10 := hsm10.below ((Below.refl _ _).alloc (Nat.le_refl _) _) (Nat.le_refl _) (by simp); have hb10 := chainS hb9 hb10'; have t0 := hT10.at (i := 0) rfl; have t1 := hT10.at (i := 1) rfl; have t2 := hT10.at (i := 2) rfl; clear hsm10 hsz10)
      | (go_at_call 21; refine (EL.out w8).mono ?_; rintro e w9 ⟨v9, rfl, hrt9, hb9'⟩; have hb9 := chainS hb8 hb9'; have hq9 := hrt9.rt; clear hrt9; obtain ⟨gW, cW, aP, lP, cP, aX, lX, cX, rfl⟩ := RT.made hq9 HPOS.out; rw [HNE.out] at hq9; rw [HNE.out])
      | (go_at_call 19; refine (FN.out _ _ (args1 (HW.out w7 hb7) _ rfl)).mono ?_; rintro e w8 ⟨rfl, hb8q⟩; have hb8' := below_al (Nat.le_refl _) hb8q; have hb8 := chainS hb7 hb8'; have g80 := (heldS hb8).at (i := 0) rfl; have g81 := (heldS hb8).at (i := 1) rfl)
      | (go_at_call 54; refine (CV.out v6 w6 (ho6.ints hlw)).mono ?_; rintro e w7 ⟨v7, rfl, hr7, hb7'⟩; have hb7 := chainS hb6 hb7'; have g70 := (heldS hb7).at (i := 0) rfl; have g71 := (heldS hb7).at (i := 1) rfl; obtain ⟨a7, n7, c7, rfl⟩ := hr7.nform)
      | (go_at_call 17; refine (LW.out w5 hb5).mono ?_; rintro e w6 ⟨v6, rfl, ho6, hb6'⟩; have hb6 := chainS hb5 hb6')
      | (go_at_call 16; refine (OF.out _).mono ?_; rintro e w5 ⟨rfl, hb5'⟩; have hb5 := chainS hb4 hb5')
      | (go_at_call 33; refine (BW.out v2 v3 w3 ((ho2.below hb3').ints hlu) (ho3.ints hlw)).mono ?_; rintro e w4 ⟨rfl, hb4'⟩; have hb4 := chainS hb3 hb4'; have g40 := (heldS hb4).at (i := 0) rfl; have g41 := (heldS hb4).at (i := 1) rfl)
      | (go_at_call 17; refine (LW.out w2 hb2).mono ?_; rintro e w3 ⟨v3, rfl, ho3, hb3'⟩; have hb3 := chainS hb2 hb3')
      | (go_at_call 17; refine (LU.out w1 hb1).mono ?_; rintro e w2 ⟨v2, rfl, ho2, hb2'⟩; have hb2 := chainS hb1 hb2')
      | (go_at_call 16; refine (OF.out _).mono ?_; rintro e w1 ⟨rfl, hb1q⟩; have hb1 := hb1q.mono (show w.heap.size + 1 ≤ _ by simp)))
  have HR15 := Lib.hid ((((((hq9.below hb10').below hb11').below hb12').below hb13').below hb14').below hb15')
  have HT15 := Lib.hid (hT14.below hb15' hT14.lt)
  have HB15 := Lib.hid hb15
  clear hb2' hb3' hb4' hb5' hb6' hb7' hb8' hb9' hb10' hb11' hb12' hb13' hb14' hb15' hb1 hb2 hb3 hb4 hb5 hb6 hb7 hb8 hb9 hb10 hb11 hb12 hb13 hb14 hb15 hb1q hb8q hT10 hT11 hT12 hT13 hT14 t0 t1 t2 t110 t111 t112 t120 t121 t122 t130 t131 t132 t140 t141 t142 g40 g41 g70 g71 g80 g81 g140 g141 ho2 ho3 ho6 hr7 hr12 hq9
  refine wp_region_flow (by kernel_rfl) [6, 83, 84, 85, 86, 87, 88, 89, 90, 91, 92, 93, 94, 95, 96] (by kernel_rfl) (by kernel_rfl) (by kernel_rfl) ExtB ExtB.refl (fun _ _ _ => ExtB.trans) (VBe11 (.agg #[.slice (some ⟨gW, 0, none⟩) N cW, .slice aP lP cP, .slice aX lX cX]) (.slice a xs.length c) iw xu N lo r) ?_ ?_ ?_ ?_
  · intro j y wa wb hx hv
    match j, hv with
    | 0, hv => exact hv
    | 1, hv => exact hv
    | 2, hv => exact hv
    | 3, hv =>
      have hv' : VBe11 (.agg #[.slice (some ⟨gW, 0, none⟩) N cW, .slice aP lP cP, .slice aX lX cX]) (.slice a xs.length c) iw xu N lo r 3 y wa := hv
      obtain ⟨g, cap, e, ho⟩ := hv'
      exact ⟨g, cap, e, ho.below hx⟩
    | 4, hv => exact hv
    | 5, hv => exact hv
    | 6, hv => exact hv
    | 7, hv =>
      have hv' : VBe11 (.agg #[.slice (some ⟨gW, 0, none⟩) N cW, .slice aP lP cP, .slice aX lX cX]) (.slice a xs.length c) iw xu N lo r 7 y wa := hv
      obtain ⟨g, e, hc⟩ := hv'
      exact ⟨g, e, (hx.cell (p := ⟨g, xu, none⟩) (World.block_lt_of_cell? _ _ hc)).trans hc⟩
    | 8, hv => exact hv
    | 9, hv => exact hv
    | 10, hv => exact hv
    | 11, hv => exact hv
    | 12, hv => exact hv
    | 13, hv => exact hv
    | 14, hv => exact hv
    | _ + 15, _ => trivial
  · intro j y y' wx hj h hv
    match j, hj, h, hv with
    | 0, _, h, hv =>
      have e83 : y 83 = y' 83 := h 0 83 (.inr rfl) (by kernel_rfl)
      have hv' : VBe11 (.agg #[.slice (some ⟨gW, 0, none⟩) N cW, .slice aP lP cP, .slice aX lX cX]) (.slice a xs.length c) iw xu N lo r 0 y wx := hv
      simp only [VBe11] at hv' ⊢
      rw [← e83]
      exact hv'
    | 1, _, h, hv =>
      have e84 : y 84 = y' 84 := h 1 84 (.inr rfl) (by kernel_rfl)
      have hv' : VBe11 (.agg #[.slice (some ⟨gW, 0, none⟩) N cW, .slice aP lP cP, .slice aX lX cX]) (.slice a xs.length c) iw xu N lo r 1 y wx := hv
      simp only [VBe11] at hv' ⊢
      rw [← e84]
      exact hv'
    | 2, _, h, hv =>
      have e85 : y 85 = y' 85 := h 2 85 (.inr rfl) (by kernel_rfl)
      have hv' : VBe11 (.agg #[.slice (some ⟨gW, 0, none⟩) N cW, .slice aP lP cP, .slice aX lX cX]) (.slice a xs.length c) iw xu N lo r 2 y wx := hv
      simp only [VBe11] at hv' ⊢
      rw [← e85]
      exact hv'
    | 3, _, h, hv =>
      have e86 : y 86 = y' 86 := h 3 86 (.inr rfl) (by kernel_rfl)
      have hv' : VBe11 (.agg #[.slice (some ⟨gW, 0, none⟩) N cW, .slice aP lP cP, .slice aX lX cX]) (.slice a xs.length c) iw xu N lo r 3 y wx := hv
      simp only [VBe11] at hv' ⊢
      rw [← e86]
      exact hv'
    | 4, _, h, hv =>
      have e87 : y 87 = y' 87 := h 4 87 (.inr rfl) (by kernel_rfl)
      have hv' : VBe11 (.agg #[.slice (some ⟨gW, 0, none⟩) N cW, .slice aP lP cP, .slice aX lX cX]) (.slice a xs.length c) iw xu N lo r 4 y wx := hv
      simp only [VBe11] at hv' ⊢
      rw [← e87]
      exact hv'
    | 5, _, h, hv =>
      have e88 : y 88 = y' 88 := h 5 88 (.inr rfl) (by kernel_rfl)
      have hv' : VBe11 (.agg #[.slice (some ⟨gW, 0, none⟩) N cW, .slice aP lP cP, .slice aX lX cX]) (.slice a xs.length c) iw xu N lo r 5 y wx := hv
      simp only [VBe11] at hv' ⊢
      rw [← e88]
      exact hv'
    | 6, _, h, hv =>
      have e89 : y 89 = y' 89 := h 6 89 (.inr rfl) (by kernel_rfl)
      have hv' : VBe11 (.agg #[.slice (some ⟨gW, 0, none⟩) N cW, .slice aP lP cP, .slice aX lX cX]) (.slice a xs.length c) iw xu N lo r 6 y wx := hv
      simp only [VBe11] at hv' ⊢
      rw [← e89]
      exact hv'
    | 7, _, h, hv =>
      have e90 : y 90 = y' 90 := h 7 90 (.inr rfl) (by kernel_rfl)
      have hv' : VBe11 (.agg #[.slice (some ⟨gW, 0, none⟩) N cW, .slice aP lP cP, .slice aX lX cX]) (.slice a xs.length c) iw xu N lo r 7 y wx := hv
      simp only [VBe11] at hv' ⊢
      rw [← e90]
      exact hv'
    | 8, _, h, hv =>
      have e91 : y 91 = y' 91 := h 8 91 (.inr rfl) (by kernel_rfl)
      have hv' : VBe11 (.agg #[.slice (some ⟨gW, 0, none⟩) N cW, .slice aP lP cP, .slice aX lX cX]) (.slice a xs.length c) iw xu N lo r 8 y wx := hv
      simp only [VBe11] at hv' ⊢
      rw [← e91]
      exact hv'
    | 9, _, h, hv =>
      have e92 : y 92 = y' 92 := h 9 92 (.inr rfl) (by kernel_rfl)
      have hv' : VBe11 (.agg #[.slice (some ⟨gW, 0, none⟩) N cW, .slice aP lP cP, .slice aX lX cX]) (.slice a xs.length c) iw xu N lo r 9 y wx := hv
      simp only [VBe11] at hv' ⊢
      rw [← e92]
      exact hv'
    | 10, _, h, hv =>
      have e93 : y 93 = y' 93 := h 10 93 (.inr rfl) (by kernel_rfl)
      have hv' : VBe11 (.agg #[.slice (some ⟨gW, 0, none⟩) N cW, .slice aP lP cP, .slice aX lX cX]) (.slice a xs.length c) iw xu N lo r 10 y wx := hv
      simp only [VBe11] at hv' ⊢
      rw [← e93]
      exact hv'
    | 11, _, h, hv =>
      have e94 : y 94 = y' 94 := h 11 94 (.inr rfl) (by kernel_rfl)
      have hv' : VBe11 (.agg #[.slice (some ⟨gW, 0, none⟩) N cW, .slice aP lP cP, .slice aX lX cX]) (.slice a xs.length c) iw xu N lo r 11 y wx := hv
      simp only [VBe11] at hv' ⊢
      rw [← e94]
      exact hv'
    | 12, _, h, hv =>
      have e95 : y 95 = y' 95 := h 12 95 (.inr rfl) (by kernel_rfl)
      have hv' : VBe11 (.agg #[.slice (some ⟨gW, 0, none⟩) N cW, .slice aP lP cP, .slice aX lX cX]) (.slice a xs.length c) iw xu N lo r 12 y wx := hv
      simp only [VBe11] at hv' ⊢
      rw [← e95]
      exact hv'
    | 13, _, h, hv =>
      have e96 : y 96 = y' 96 := h 13 96 (.inr rfl) (by kernel_rfl)
      have hv' : VBe11 (.agg #[.slice (some ⟨gW, 0, none⟩) N cW, .slice aP lP cP, .slice aX lX cX]) (.slice a xs.length c) iw xu N lo r 13 y wx := hv
      simp only [VBe11] at hv' ⊢
      rw [← e96]
      exact hv'
    | 14, _, h, hv =>
      have e6 : y 6 = y' 6 := h 14 6 (.inr rfl) (by kernel_rfl)
      have hv' : VBe11 (.agg #[.slice (some ⟨gW, 0, none⟩) N cW, .slice aP lP cP, .slice aX lX cX]) (.slice a xs.length c) iw xu N lo r 14 y wx := hv
      simp only [VBe11] at hv' ⊢
      rw [← e6]
      exact hv'
    | j + 15, hj, _, _ => exact absurd hj (by simp)
  · intro i o ho y wx hx hd hini
    match i, ho with
    | 0, ho =>
      obtain rfl := Option.some.inj ho
      refine rstep_value rfl (v := .bool r) (w' := wx) ?_ ⟨ExtB.refl _, rfl⟩
      · simp only [hole, List.foldl_cons, List.foldl_nil, List.setIfInBounds_toArray, List.set_cons_zero, List.set_cons_succ]
        go_simp
    | 1, ho =>
      obtain rfl := Option.some.inj ho
      have hbq := HT15.out.below (((Below.refl _ _).drew).trans hx) HT15.out.lt
      have c0 := hbq.at (i := 0) rfl
      have c1 := hbq.at (i := 1) rfl
      have c2 := hbq.at (i := 2) rfl
      refine rstep_value rfl (v := .agg #[.slice (some ⟨gW, 0, none⟩) N cW, .slice aP lP cP, .slice aX lX cX]) (w' := wx) ?_ ⟨ExtB.refl _, rfl⟩
      · simp only [hole, List.foldl_cons, List.foldl_nil, List.setIfInBounds_toArray, List.set_cons_zero, List.set_cons_succ]
        go_simp
    | 2, ho =>
      obtain rfl := Option.some.inj ho
      refine rstep_value rfl (v := .int .i64 (iw : Nat)) (w' := wx) ?_ ⟨ExtB.refl _, rfl⟩
      · simp only [hole, List.foldl_cons, List.foldl_nil, List.setIfInBounds_toArray, List.set_cons_zero, List.set_cons_succ]
        go_simp
    | 3, ho =>
      obtain rfl := Option.some.inj ho
      have e84 : y 84 = .agg #[.slice (some ⟨gW, 0, none⟩) N cW, .slice aP lP cP, .slice aX lX cX] := hd 1 (by kernel_rfl) (by decide)
      have e85 : y 85 = .int .i64 (iw : Nat) := hd 2 (by kernel_rfl) (by decide)
      refine rstep_call rfl (f := 58) (args := #[.agg #[.slice (some ⟨gW, 0, none⟩) N cW, .slice aP lP cP, .slice aX lX cX], .int .i64 (iw : Nat)]) (w' := wx) ?_ (LO.out _ wx (HR15.out.below (((Below.refl _ _).drew).trans hx))) ?_
      · simp only [hole, List.foldl_cons, List.foldl_nil, List.setIfInBounds_toArray, List.set_cons_zero, List.set_cons_succ]
        go_simp
      · rintro e w'' ⟨g, cap, rfl, ho, hb⟩
        exact ⟨_, rfl, hb, g, cap, rfl, ho.mono (Nat.zero_le _)⟩
    | 4, ho =>
      obtain rfl := Option.some.inj ho
      have hbq := HT15.out.below (((Below.refl _ _).drew).trans hx) HT15.out.lt
      have c0 := hbq.at (i := 0) rfl
      have c1 := hbq.at (i := 1) rfl
      have c2 := hbq.at (i := 2) rfl
      refine rstep_value rfl (v := .agg #[.slice (some ⟨gW, 0, none⟩) N cW, .slice aP lP cP, .slice aX lX cX]) (w' := wx) ?_ ⟨ExtB.refl _, rfl⟩
      · simp only [hole, List.foldl_cons, List.foldl_nil, List.setIfInBounds_toArray, List.set_cons_zero, List.set_cons_succ]
        go_simp
    | 5, ho =>
      obtain rfl := Option.some.inj ho
      refine rstep_value rfl (v := .slice a xs.length c) (w' := wx) ?_ ⟨ExtB.refl _, rfl⟩
      · simp only [hole, List.foldl_cons, List.foldl_nil, List.setIfInBounds_toArray, List.set_cons_zero, List.set_cons_succ]
        go_simp
    | 6, ho =>
      obtain rfl := Option.some.inj ho
      have e87 : y 87 = .agg #[.slice (some ⟨gW, 0, none⟩) N cW, .slice aP lP cP, .slice aX lX cX] := hd 4 (by kernel_rfl) (by decide)
      have e88 : y 88 = .slice a xs.length c := hd 5 (by kernel_rfl) (by decide)
      refine rstep_call rfl (f := 22) (args := #[.agg #[.slice (some ⟨gW, 0, none⟩) N cW, .slice aP lP cP, .slice aX lX cX], .int .i64 0, .slice a xs.length c]) (w' := wx) ?_ (RN2.out wx _ (HR15.out.below (((Below.refl _ _).drew).trans hx)) (HU.out wx (chainS HB15.out (((Below.refl _ _).drew).trans hx)))) ?_
      · simp only [hole, List.foldl_cons, List.foldl_nil, List.setIfInBounds_toArray, List.set_cons_zero, List.set_cons_succ]
        go_simp
      · rintro e w'' ⟨rfl, hb⟩
        exact ⟨_, rfl, hb, rfl⟩
    | 7, ho =>
      obtain rfl := Option.some.inj ho
      have v3 : ∃ g cap, y 86 = .slice (some ⟨g, 0, none⟩) N cap ∧ OwnB 0 wx (.slice (some ⟨g, 0, none⟩) N cap) (bitL N lo) := hd 3 (by kernel_rfl) (by decide)
      have e89 : y 89 = .int .i64 (xu : Nat) := hd 6 (by kernel_rfl) (by decide)
      obtain ⟨g, cap, e86, ho86⟩ := v3
      refine rstep_value rfl (v := .pointer (some ⟨g, xu, none⟩)) (w' := wx) ?_ ⟨ExtB.refl _, g, rfl, ?_⟩
      · simp only [hole, List.foldl_cons, List.foldl_nil, List.setIfInBounds_toArray, List.set_cons_zero, List.set_cons_succ]
        go_simp
      · rw [ho86.cell xu (by rw [bitL_len]; exact HXN.out), bitL_get, HLB.out]
    | 8, ho =>
      obtain rfl := Option.some.inj ho
      have v7 : ∃ g, y 90 = .pointer (some ⟨g, xu, none⟩) ∧ wx.cell? ⟨g, xu, none⟩ = some (.bool r) := hd 7 (by kernel_rfl) (by decide)
      obtain ⟨g, e90, hc⟩ := v7
      refine rstep_value rfl (v := .bool r) (w' := wx) ?_ ⟨ExtB.refl _, rfl⟩
      · simp only [hole, List.foldl_cons, List.foldl_nil, List.setIfInBounds_toArray, List.set_cons_zero, List.set_cons_succ]
        go_simp
    | 9, ho =>
      obtain rfl := Option.some.inj ho
      have e83 : y 83 = .bool r := hd 0 (by kernel_rfl) (by decide)
      have e91 : y 91 = .bool r := hd 8 (by kernel_rfl) (by decide)
      refine rstep_value rfl (v := .bool true) (w' := wx) ?_ ⟨ExtB.refl _, rfl⟩
      · simp only [hole, List.foldl_cons, List.foldl_nil, List.setIfInBounds_toArray, List.set_cons_zero, List.set_cons_succ]
        go_simp
    | 10, ho =>
      obtain rfl := Option.some.inj ho
      have e92 : y 92 = .bool true := hd 9 (by kernel_rfl) (by decide)
      refine rstep_value rfl (v := .bool true) (w' := wx) ?_ ⟨ExtB.refl _, rfl⟩
      · simp only [hole, List.foldl_cons, List.foldl_nil, List.setIfInBounds_toArray, List.set_cons_zero, List.set_cons_succ]
        go_simp
    | 11, ho =>
      obtain rfl := Option.some.inj ho
      have e93 : y 93 = .bool true := hd 10 (by kernel_rfl) (by decide)
      refine rstep_value_w (v := .int .i64 0) (w' := wx) ?_ ?_ ?_
      · simp only [hole, List.foldl_cons, List.foldl_nil, List.setIfInBounds_toArray, List.set_cons_zero, List.set_cons_succ, e93]
        rfl
      · simp only [hole, List.foldl_cons, List.foldl_nil, List.setIfInBounds_toArray, List.set_cons_zero, List.set_cons_succ]
        go_simp
      · exact ⟨ExtB.refl _, rfl⟩
    | 12, ho =>
      obtain rfl := Option.some.inj ho
      have e93 : y 93 = .bool true := hd 10 (by kernel_rfl) (by decide)
      have e94 : y 94 = .int .i64 0 := hd 11 (by kernel_rfl) (by decide)
      refine rstep_value_w (v := .bool true) (w' := wx) ?_ ?_ ?_
      · simp only [hole, List.foldl_cons, List.foldl_nil, List.setIfInBounds_toArray, List.set_cons_zero, List.set_cons_succ, e93]
        rfl
      · simp only [hole, List.foldl_cons, List.foldl_nil, List.setIfInBounds_toArray, List.set_cons_zero, List.set_cons_succ]
        go_simp
      · exact ⟨ExtB.refl _, rfl⟩
    | 13, ho =>
      obtain rfl := Option.some.inj ho
      have e93 : y 93 = .bool true := hd 10 (by kernel_rfl) (by decide)
      have e95 : y 95 = .bool true := hd 12 (by kernel_rfl) (by decide)
      refine rstep_value rfl (v := .bool true) (w' := wx) ?_ ⟨ExtB.refl _, rfl⟩
      · simp only [hole, List.foldl_cons, List.foldl_nil, List.setIfInBounds_toArray, List.set_cons_zero, List.set_cons_succ]
        go_simp
    | 14, ho =>
      obtain rfl := Option.some.inj ho
      have e96 : y 96 = .bool true := hd 13 (by kernel_rfl) (by decide)
      refine rstep_value rfl (v := .bool true) (w' := wx) ?_ ⟨ExtB.refl _, rfl⟩
      · simp only [hole, List.foldl_cons, List.foldl_nil, List.setIfInBounds_toArray, List.set_cons_zero, List.set_cons_succ]
        go_simp
    | _ + 15, ho => exact absurd ho (by simp)
  · intro y wx hx hd
    have e83 : y 83 = .bool r := hd 0 (by decide)
    have e84 : y 84 = .agg #[.slice (some ⟨gW, 0, none⟩) N cW, .slice aP lP cP, .slice aX lX cX] := hd 1 (by decide)
    have e85 : y 85 = .int .i64 (iw : Nat) := hd 2 (by decide)
    have v3 : ∃ g cap, y 86 = .slice (some ⟨g, 0, none⟩) N cap ∧ OwnB 0 wx (.slice (some ⟨g, 0, none⟩) N cap) (bitL N lo) := hd 3 (by decide)
    have e87 : y 87 = .agg #[.slice (some ⟨gW, 0, none⟩) N cW, .slice aP lP cP, .slice aX lX cX] := hd 4 (by decide)
    have e88 : y 88 = .slice a xs.length c := hd 5 (by decide)
    have e89 : y 89 = .int .i64 (xu : Nat) := hd 6 (by decide)
    have v7 : ∃ g, y 90 = .pointer (some ⟨g, xu, none⟩) ∧ wx.cell? ⟨g, xu, none⟩ = some (.bool r) := hd 7 (by decide)
    have e91 : y 91 = .bool r := hd 8 (by decide)
    have e92 : y 92 = .bool true := hd 9 (by decide)
    have e93 : y 93 = .bool true := hd 10 (by decide)
    have e94 : y 94 = .int .i64 0 := hd 11 (by decide)
    have e95 : y 95 = .bool true := hd 12 (by decide)
    have e96 : y 96 = .bool true := hd 13 (by decide)
    have e6 : y 6 = .bool true := hd 14 (by decide)
    clear hd
    simp only [hole, List.foldl_cons, List.foldl_nil, List.setIfInBounds_toArray, List.set_cons_zero, List.set_cons_succ, e6]
    clear e83 e84 e85 e87 e88 e89 e91 e92 e93 e94 e95 e96 v3 v7 e6
    have hbe : Below w15.heap.size w15 wx := ((Below.refl _ _).drew).trans hx
    go_wp2
    go_ret
    exact ⟨rfl, chainE (chainS HB15.out hbe)⟩

theorem mirrorBelow_true (K : Nat) (n : Int) (vu : Value) (xs : List Int) (vw : Value) (ys : List Int) (w : World) (hK : K < 256) (hx : Ints w vu xs) (hy : Ints w vw ys) :
    Calls Try.prog 14 #[grpI K n, vu, vw] w (TrueM w) := by
  cases hok : okI K n [ys] with
  | false => exact BelowL_no K n vu vw xs ys w hK hx hy hok
  | true =>
    obtain ⟨m, rfl, hv, hall⟩ := okI_nat hok
    simp only [List.all_cons, List.all_nil, Bool.and_true] at hall
    unfold grpI
    cases q1 : wordB (mirs K m) xs with
    | true => exact BelowL_yes K m vu vw xs ys w hv hx hy q1 hall
    | false => exact BelowL_half K m vu vw xs ys w hv hx hy q1 hall
end Go.Proofs.Ytmlhecfhhhebnaa
