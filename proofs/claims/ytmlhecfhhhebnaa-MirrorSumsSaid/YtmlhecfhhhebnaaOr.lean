/- MirrorOrder: the walk. -/
import Derived.Test.YtmlhecfhhhebnaaLz
namespace Go.Proofs.Ytmlhecfhhhebnaa
open Go.RowKit
attribute [local go_sem] Oper.semAt_some

def TrueM (w : World) (e : Ending) (w' : World) : Prop := e = .returned (.bool true) ∧ Below w.heap.size w w'
theorem args3 {w : World} {u v s : Value} {xs ys zs : List Int} (h : Ints w u xs) (h2 : Ints w v ys) (h3 : Ints w s zs) (t : TypeId) {g : Nat} (hg : w.heap.size = g) : Args (w.alloc (.cells #[u, v, s] t)) (.slice (some ⟨g, 0, none⟩) 3 3) [xs, ys, zs] := by
  subst hg
  refine ⟨_, 3, rfl, by simp, by simp, fun _ => ⟨w.heap.size, 0, rfl, by simp, fun i hi => ?_⟩⟩
  have hi2 : i = 0 ∨ i = 1 ∨ i = 2 := by simp at hi; omega
  rcases hi2 with rfl | rfl | rfl
  · exact ⟨u, by simp, h.below ((Below.refl _ _).alloc (Nat.le_refl _) _)⟩
  · exact ⟨v, by simp, h2.below ((Below.refl _ _).alloc (Nat.le_refl _) _)⟩
  · exact ⟨s, by simp, h3.below ((Below.refl _ _).alloc (Nat.le_refl _) _)⟩
theorem chainS {w a b : World} {o : Obj} (hb : Below (w.heap.size + 1) (w.alloc o) a) (h : Below a.heap.size a b) : Below (w.heap.size + 1) (w.alloc o) b :=
  hb.trans (h.mono (by have := hb.size; simpa using this))
theorem chainS0 {w b : World} {o o2 : Obj} (h : Below ((w.alloc o).alloc o2).heap.size ((w.alloc o).alloc o2) b) : Below (w.heap.size + 1) (w.alloc o) b :=
  ((Below.refl _ _).alloc (by simp) o2).trans (h.mono (by simp))
theorem chainE {w b : World} {o : Obj} (h : Below (w.heap.size + 1) (w.alloc o) b) : Below w.heap.size w b :=
  ((Below.refl _ _).alloc (Nat.le_refl _) o).trans (h.mono (by omega))
theorem intsS {w w' : World} {o : Obj} {v : Value} {xs : List Int} (hx : Ints w v xs) (h : Below (w.heap.size + 1) (w.alloc o) w') : Ints w' v xs := hx.below (chainE h)
theorem heldS {w w' : World} {l : List Value} {t : TypeId} (h : Below (w.heap.size + 1) (w.alloc (.cells l.toArray t)) w') : Held w' w.heap.size t l := (Held.made (w := w) (l := l) (t := t) rfl).below h (by omega)
theorem chainLt {w a : World} {o : Obj} (hb : Below (w.heap.size + 1) (w.alloc o) a) : w.heap.size < a.heap.size := by have := hb.size; simp at this; omega

/-- What the law asks of three words. -/
structure OrdP (K n : Nat) (xs ys zs : List Int) (iU iW cU cW : Nat) (is : Bool) : Prop where
  h1 : belG (wordsG K n) (nextG K n) 0 (ix K n xs) = true
  h2 : belG (wordsG K n) (nextG K n) (ix K n xs) ((wordsG K n).length - 1) = true
  h3 : belG (wordsG K n) (nextG K n) (ix K n xs) (ix K n xs) = true
  h4 : belG (wordsG K n) (nextG K n) iU iW = is
  h5 : belG (wordsG K n) (nextG K n) cW cU = is
  h6 : is = true → belG (wordsG K n) (nextG K n) (ix K n ys) (ix K n xs) = true → belG (wordsG K n) (nextG K n) (ix K n ys) (ix K n zs) = true
  h7 : is = true → belG (wordsG K n) (nextG K n) (ix K n zs) (ix K n xs) = true → (wordsG K n).getD (ix K n xs) [] = (wordsG K n).getD (ix K n zs) []
  h8 : is = true → lenX (wordsG K n) (ix K n xs) < lenX (wordsG K n) (ix K n zs) ∨ (wordsG K n).getD (ix K n xs) [] = (wordsG K n).getD (ix K n zs) []
  lU : iU < (wordsG K n).length
  lW : iW < (wordsG K n).length
  mU : cU < (wordsG K n).length
  mW : cW < (wordsG K n).length
  eU : walkX (nextG K n) 0 (natW xs).reverse = iU
  eW : walkX (nextG K n) 0 (natW zs).reverse = iW
  fU : walkX (nextG K n) ((wordsG K n).length - 1) (natW xs) = cU
  fW : walkX (nextG K n) ((wordsG K n).length - 1) (natW zs) = cW
/-- What holds of each number's word. -/
structure TabW (K n : Nat) : Prop where
  wd : ∀ i, i < (wordsG K n).length → wordB (mirs K n) (toI ((wordsG K n).getD i [])) = true
  at' : ∀ i, i < (wordsG K n).length → ix K n (toI ((wordsG K n).getD i [])) = i
theorem word_len {m : Nat} {xs : List Int} (h : wordB m xs = true) : xs.length ≤ 17592186044416 := by have := (word_nat h).2.2; omega
theorem own_lenX {e : TypeId} {B : Nat} {w : World} {v : Value} {W : List (List Nat)} {i : Nat} (h : OwnI e B w v (toI (W.getD i []))) : ∃ a c, v = .slice a (lenX W i) c := by
  obtain ⟨a, c, rfl⟩ := h.form
  exact ⟨a, c, by rw [toI_length]; rfl⟩
theorem EqualM_any (v1 v2 : Value) (xs ys : List Int) (w : World) (h1 : Ints w v1 xs) (h2 : Ints w v2 ys) (b : Bool) (hb : decide (xs = ys) = b) :
    Calls Try.prog 23 #[v1, v2] w fun e w' => e = .returned (.bool b) ∧ Below w.heap.size w w' := hb ▸ Equal_any v1 v2 xs ys w h1 h2

set_option maxRecDepth 20000 in
set_option maxHeartbeats 2000000 in
theorem OrderL_no (K : Nat) (n : Int) (vu vv vw : Value) (xs ys zs : List Int) (w : World) (hK : K < 256) (hx : Ints w vu xs) (hy : Ints w vv ys) (hz : Ints w vw zs) (h : okI K n [xs, ys, zs] = false) :
    Calls Try.prog 5 #[grpI K n, vu, vv, vw] w (TrueM w) := by
  have FN := Lib.hid (fun w' v' (ha : Args w' v' [xs, ys, zs]) => by have := fine_any K n v' [xs, ys, zs] w' hK ha; rw [h] at this; exact this)
  have AR := Lib.hid (fun o : Obj => args3 (hx.below ((Below.refl _ _).alloc (Nat.le_refl _) o)) (hy.below ((Below.refl _ _).alloc (Nat.le_refl _) o)) (hz.below ((Below.refl _ _).alloc (Nat.le_refl _) o)))
  have AW := Lib.hid (fun w' => awake_any w')
  obtain ⟨a, c, rfl, hx1⟩ := hx
  obtain ⟨a2, c2, rfl, hy1⟩ := hy
  obtain ⟨a3, c3, rfl, hz1⟩ := hz
  unfold grpI at *
  clear hx1 hy1 hz1 h
  go_enter Try.func5, Try.ntmps5
  go_wp2_with (first
    | (go_at_call 19; refine (FN.out _ _ (AR.out _ _ (by simp))).mono ?_; rintro e w1 ⟨rfl, hb1'⟩; have hb1 := chainS0 hb1')
    | (go_at_call 20; refine (AW.out _).mono ?_; rintro e w2 ⟨rfl, hb2'⟩; have hb2 := chainS hb1 hb2'))
  go_ret
  exact ⟨rfl, chainE hb2⟩

set_option maxRecDepth 20000 in
set_option maxHeartbeats 8000000 in
theorem OrderL_f (K n : Nat) (vu vv vw : Value) (xs ys zs : List Int) (iU iW cU cW : Nat) (w : World) (hv : validB K n = true) (hx : Ints w vu xs) (hy : Ints w vv ys) (hz : Ints w vw zs) (q1 : wordB (mirs K n) xs = true) (q2 : wordB (mirs K n) ys = true) (q3 : wordB (mirs K n) zs = true)
    (P : OrdP K n xs ys zs iU iW cU cW false) (T : TabW K n) (his : belG (wordsG K n) (nextG K n) (ix K n xs) (ix K n zs) = false) :
    Calls Try.prog 5 #[.agg #[.int .u8 (K : Nat), .int .i64 (n : Nat)], vu, vv, vw] w (TrueM w) := by
  have hok : okI K (n : Int) [xs, ys, zs] = true := by rw [okI_cast hv]; simp [q1, q2, q3]
  have hK : K < 256 := by unfold validB at hv; simp only [Bool.or_eq_true, Bool.and_eq_true, beq_iff_eq] at hv; omega
  have FN := Lib.hid (fun w' v' (ha : Args w' v' [xs, ys, zs]) => by have := fine_any K (n : Int) v' [xs, ys, zs] w' hK ha; rw [hok] at this; exact this)
  have AR := Lib.hid (fun o : Obj => args3 (hx.below ((Below.refl _ _).alloc (Nat.le_refl _) o)) (hy.below ((Below.refl _ _).alloc (Nat.le_refl _) o)) (hz.below ((Below.refl _ _).alloc (Nat.le_refl _) o)))
  have AW := Lib.hid (fun w' => awake_any w')
  have OF := Lib.hid (fun w' => Of_any K (n : Int) w')
  have LG := Lib.hid (fun w' => Longest_yes K n w' hv)
  have hlx := word_len q1
  have hly := word_len q2
  have hlz := word_len q3
  have n1 := (word_nat q1).2.2
  have n3 := (word_nat q3).2.2
  have hLN : (wordsG K n).length - 1 < (wordsG K n).length := by have := (tkG hv).pos; omega
  have LX := Lib.hid (fun w' (hb : Below (w.heap.size + 1) (w.alloc (.cells #[.int .u8 (K : Nat), .int .i64 (n : Nat)] 23)) w') => by have := list_any vu xs w' (intsS hx hb); rw [List.take_of_length_le (by omega)] at this; exact this)
  have LZ := Lib.hid (fun w' (hb : Below (w.heap.size + 1) (w.alloc (.cells #[.int .u8 (K : Nat), .int .i64 (n : Nat)] 23)) w') => by have := list_any vw zs w' (intsS hz hb); rw [List.take_of_length_le (by omega)] at this; exact this)
  have BX := Lib.hid (fun v' w' (hi : Ints w' v' xs) => by have := Back_yes K n v' xs w' hv hi q1; rw [P.eU] at this; exact this)
  have BZ := Lib.hid (fun v' w' (hi : Ints w' v' zs) => by have := Back_yes K n v' zs w' hv hi q3; rw [P.eW] at this; exact this)
  have CL := Lib.hid (fun v' w' (hi : Ints w' v' (toI ((wordsG K n).getD ((wordsG K n).length - 1) []))) => Clone_any v' _ w' hi)
  have TX := Lib.hid (fun u' v' w' (hi : Ints w' u' (toI ((wordsG K n).getD ((wordsG K n).length - 1) []))) (hj : Ints w' v' xs) => by have := Times_yes K n u' v' _ xs w' hv hi hj (T.wd _ hLN) q1; rw [T.at' _ hLN, P.fU] at this; exact this)
  have TZ := Lib.hid (fun u' v' w' (hi : Ints w' u' (toI ((wordsG K n).getD ((wordsG K n).length - 1) []))) (hj : Ints w' v' zs) => by have := Times_yes K n u' v' _ zs w' hv hi hj (T.wd _ hLN) q3; rw [T.at' _ hLN, P.fW] at this; exact this)
  have NX := Lib.hid (fun v' w' (hi : Ints w' v' xs) => Normal_yes K n v' xs w' hv hi q1)
  have NZ := Lib.hid (fun v' w' (hi : Ints w' v' zs) => Normal_yes K n v' zs w' hv hi q3)
  have F24 := Lib.hid (fun u' v' w' (hg : Held w' w.heap.size 23 [.int .u8 (K : Nat), .int .i64 (n : Nat)]) (hi : Ints w' u' xs) (hj : Ints w' v' zs) => by have := OrderF_any K n w.heap.size u' v' xs zs w' hv hg hi hj q1 q3; rw [his] at this; exact this)
  have F25 := Lib.hid (fun v' w' (hg : Held w' w.heap.size 23 [.int .u8 (K : Nat), .int .i64 (n : Nat)]) (hj : Ints w' v' xs) => by have := OrderF_any K n w.heap.size (.slice none 0 0) v' [] xs w' hv hg (Ints.nil w') hj rfl q1; rw [show ix K n [] = 0 from rfl, P.h1] at this; exact this)
  have F26 := Lib.hid (fun u' v' w' (hg : Held w' w.heap.size 23 [.int .u8 (K : Nat), .int .i64 (n : Nat)]) (hi : Ints w' u' xs) (hj : Ints w' v' (toI ((wordsG K n).getD ((wordsG K n).length - 1) []))) => by have := OrderF_any K n w.heap.size u' v' xs _ w' hv hg hi hj q1 (T.wd _ hLN); rw [T.at' _ hLN, P.h2] at this; exact this)
  have F27 := Lib.hid (fun u' v' w' (hg : Held w' w.heap.size 23 [.int .u8 (K : Nat), .int .i64 (n : Nat)]) (hi : Ints w' u' xs) (hj : Ints w' v' xs) => by have := OrderF_any K n w.heap.size u' v' xs xs w' hv hg hi hj q1 q1; rw [P.h3] at this; exact this)
  have F28 := Lib.hid (fun u' v' w' (hg : Held w' w.heap.size 23 [.int .u8 (K : Nat), .int .i64 (n : Nat)]) (hi : Ints w' u' (toI ((wordsG K n).getD iU []))) (hj : Ints w' v' (toI ((wordsG K n).getD iW []))) => by have := OrderF_any K n w.heap.size u' v' _ _ w' hv hg hi hj (T.wd _ P.lU) (T.wd _ P.lW); rw [T.at' _ P.lU, T.at' _ P.lW, P.h4] at this; exact this)
  have F29 := Lib.hid (fun u' v' w' (hg : Held w' w.heap.size 23 [.int .u8 (K : Nat), .int .i64 (n : Nat)]) (hi : Ints w' u' (toI ((wordsG K n).getD cW []))) (hj : Ints w' v' (toI ((wordsG K n).getD cU []))) => by have := OrderF_any K n w.heap.size u' v' _ _ w' hv hg hi hj (T.wd _ P.mW) (T.wd _ P.mU); rw [T.at' _ P.mW, T.at' _ P.mU, P.h5] at this; exact this)
  have hl1 := word_len (T.wd _ hLN)
  have hl2 := word_len (T.wd _ P.lU)
  have hl3 := word_len (T.wd _ P.lW)
  have hl4 := word_len (T.wd _ P.mU)
  have hl5 := word_len (T.wd _ P.mW)
  have hl6 := word_len (T.wd _ (ix_lt hv q1))
  have hl7 := word_len (T.wd _ (ix_lt hv q3))
  have HVX := Lib.hid (fun w' (hb : Below (w.heap.size + 1) (w.alloc (.cells #[.int .u8 (K : Nat), .int .i64 (n : Nat)] 23)) w') => intsS hx hb)
  have HVY := Lib.hid (fun w' (hb : Below (w.heap.size + 1) (w.alloc (.cells #[.int .u8 (K : Nat), .int .i64 (n : Nat)] 23)) w') => intsS hy hb)
  have HVZ := Lib.hid (fun w' (hb : Below (w.heap.size + 1) (w.alloc (.cells #[.int .u8 (K : Nat), .int .i64 (n : Nat)] 23)) w') => intsS hz hb)
  obtain ⟨a, c, rfl, hx1⟩ := hx
  obtain ⟨a2, c2, rfl, hy1⟩ := hy
  obtain ⟨a3, c3, rfl, hz1⟩ := hz
  unfold grpI at *
  clear hx1 hy1 hz1 hok hK n1 n3 hLN q1 q2 q3 his P T hv
  go_enter Try.func5, Try.ntmps5
  go_wp2_with (first
      | (go_at_call 20; refine (AW.out _).mono ?_; rintro e w30 ⟨rfl, hb30'⟩; have hb30 := chainS hb29 hb30')
      | (go_at_call 32; refine (F29.out v17 v13 w28 (heldS hb28) ((((((((((((ho17.below hb18').below hb19').below hb20').below hb21').below hb22').below hb23').below hb24').below hb25').below hb26').below hb27').below hb28').ints hl5) ((((((((((((((((ho13.below hb14').below hb15').below hb16').below hb17').below hb18').below hb19').below hb20').below hb21').below hb22').below hb23').below hb24').below hb25').below hb26').below hb27').below hb28').ints hl4)).mono ?_; rintro e w29 ⟨rfl, hb29'⟩; have hb29 := chainS hb28 hb29')
      | (go_at_call 32; refine (F28.out v6 v9 w27 (heldS hb27) ((((((((((((((((((((((ho6.below hb7').below hb8').below hb9').below hb10').below hb11').below hb12').below hb13').below hb14').below hb15').below hb16').below hb17').below hb18').below hb19').below hb20').below hb21').below hb22').below hb23').below hb24').below hb25').below hb26').below hb27').ints hl2) (((((((((((((((((((ho9.below hb10').below hb11').below hb12').below hb13').below hb14').below hb15').below hb16').below hb17').below hb18').below hb19').below hb20').below hb21').below hb22').below hb23').below hb24').below hb25').below hb26').below hb27').ints hl3)).mono ?_; rintro e w28 ⟨rfl, hb28'⟩; have hb28 := chainS hb27 hb28')
      | (go_at_call 32; refine (F27.out _ _ w26 (heldS hb26) (HVX.out w26 hb26) (HVX.out w26 hb26)).mono ?_; rintro e w27 ⟨rfl, hb27'⟩; have hb27 := chainS hb26 hb27')
      | (go_at_call 32; refine (F26.out _ v3 w25 (heldS hb25) (HVX.out w25 hb25) (((((((((((((((((((((((ho3.below hb4').below hb5').below hb6').below hb7').below hb8').below hb9').below hb10').below hb11').below hb12').below hb13').below hb14').below hb15').below hb16').below hb17').below hb18').below hb19').below hb20').below hb21').below hb22').below hb23').below hb24').below hb25').ints hl1)).mono ?_; rintro e w26 ⟨rfl, hb26'⟩; have hb26 := chainS hb25 hb26')
      | (go_at_call 32; refine (F25.out _ w24 (heldS hb24) (HVX.out w24 hb24)).mono ?_; rintro e w25 ⟨rfl, hb25'⟩; have hb25 := chainS hb24 hb25')
      | (go_at_call 32; refine (F24.out _ _ w23 (heldS hb23) (HVX.out w23 hb23) (HVZ.out w23 hb23)).mono ?_; rintro e w24 ⟨rfl, hb24'⟩; have hb24 := chainS hb23 hb24')
      | (go_at_call 36; refine (NZ.out v22 w22 (ho22.ints hlz)).mono ?_; rintro e w23 ⟨v23, rfl, ho23, hb23'⟩; have hb23 := chainS hb22 hb23')
      | (go_at_call 17; refine (LZ.out w21 hb21).mono ?_; rintro e w22 ⟨v22, rfl, ho22, hb22'⟩; have hb22 := chainS hb21 hb22')
      | (go_at_call 16; refine (OF.out _).mono ?_; rintro e w21 ⟨rfl, hb21'⟩; have hb21 := chainS hb20 hb21')
      | (go_at_call 36; refine (NX.out v19 w19 (ho19.ints hlx)).mono ?_; rintro e w20 ⟨v20, rfl, ho20, hb20'⟩; have hb20 := chainS hb19 hb20'; have k20 := (heldS hb20).at (i := 0) rfl; have l20 := (heldS hb20).at (i := 1) rfl)
      | (go_at_call 17; refine (LX.out w18 hb18).mono ?_; rintro e w19 ⟨v19, rfl, ho19, hb19'⟩; have hb19 := chainS hb18 hb19')
      | (go_at_call 16; refine (OF.out _).mono ?_; rintro e w18 ⟨rfl, hb18'⟩; have hb18 := chainS hb17 hb18')
      | (go_at_call 15; refine (TZ.out v15 v16 w16 ((ho15.below hb16').ints hl1) (ho16.ints hlz)).mono ?_; rintro e w17 ⟨v17, rfl, ho17, hb17'⟩; have hb17 := chainS hb16 hb17'; have k17 := (heldS hb17).at (i := 0) rfl; have l17 := (heldS hb17).at (i := 1) rfl)
      | (go_at_call 17; refine (LZ.out w15 hb15).mono ?_; rintro e w16 ⟨v16, rfl, ho16, hb16'⟩; have hb16 := chainS hb15 hb16')
      | (go_at_call 35; refine (CL.out v3 w14 ((((((((((((ho3.below hb4').below hb5').below hb6').below hb7').below hb8').below hb9').below hb10').below hb11').below hb12').below hb13').below hb14').ints hl1)).mono ?_; rintro e w15 ⟨v15, rfl, ho15, hb15'⟩; have hb15 := chainS hb14 hb15')
      | (go_at_call 16; refine (OF.out _).mono ?_; rintro e w14 ⟨rfl, hb14'⟩; have hb14 := chainS hb13 hb14')
      | (go_at_call 15; refine (TX.out v11 v12 w12 ((ho11.below hb12').ints hl1) (ho12.ints hlx)).mono ?_; rintro e w13 ⟨v13, rfl, ho13, hb13'⟩; have hb13 := chainS hb12 hb13'; have k13 := (heldS hb13).at (i := 0) rfl; have l13 := (heldS hb13).at (i := 1) rfl)
      | (go_at_call 17; refine (LX.out w11 hb11).mono ?_; rintro e w12 ⟨v12, rfl, ho12, hb12'⟩; have hb12 := chainS hb11 hb12')
      | (go_at_call 35; refine (CL.out v3 w10 ((((((((ho3.below hb4').below hb5').below hb6').below hb7').below hb8').below hb9').below hb10').ints hl1)).mono ?_; rintro e w11 ⟨v11, rfl, ho11, hb11'⟩; have hb11 := chainS hb10 hb11')
      | (go_at_call 16; refine (OF.out _).mono ?_; rintro e w10 ⟨rfl, hb10'⟩; have hb10 := chainS hb9 hb10')
      | (go_at_call 18; refine (BZ.out v8 w8 (ho8.ints hlz)).mono ?_; rintro e w9 ⟨v9, rfl, ho9, hb9'⟩; have hb9 := chainS hb8 hb9'; have k9 := (heldS hb9).at (i := 0) rfl; have l9 := (heldS hb9).at (i := 1) rfl)
      | (go_at_call 17; refine (LZ.out w7 hb7).mono ?_; rintro e w8 ⟨v8, rfl, ho8, hb8'⟩; have hb8 := chainS hb7 hb8')
      | (go_at_call 16; refine (OF.out _).mono ?_; rintro e w7 ⟨rfl, hb7'⟩; have hb7 := chainS hb6 hb7')
      | (go_at_call 18; refine (BX.out v5 w5 (ho5.ints hlx)).mono ?_; rintro e w6 ⟨v6, rfl, ho6, hb6'⟩; have hb6 := chainS hb5 hb6'; have k6 := (heldS hb6).at (i := 0) rfl; have l6 := (heldS hb6).at (i := 1) rfl)
      | (go_at_call 17; refine (LX.out w4 hb4).mono ?_; rintro e w5 ⟨v5, rfl, ho5, hb5'⟩; have hb5 := chainS hb4 hb5')
      | (go_at_call 16; refine (OF.out _).mono ?_; rintro e w4 ⟨rfl, hb4'⟩; have hb4 := chainS hb3 hb4')
      | (go_at_call 34; refine (LG.out _).mono ?_; rintro e w3 ⟨v3, rfl, ho3, hb3'⟩; have hb3 := chainS hb2 hb3'; have k3 := (heldS hb3).at (i := 0) rfl; have l3 := (heldS hb3).at (i := 1) rfl)
      | (go_at_call 16; refine (OF.out _).mono ?_; rintro e w2 ⟨rfl, hb2'⟩; have hb2 := chainS hb1 hb2')
      | (go_at_call 19; refine (FN.out _ _ (AR.out _ _ (by simp))).mono ?_; rintro e w1 ⟨rfl, hb1'⟩; have hb1 := chainS0 hb1'; have k1 := (heldS hb1).at (i := 0) rfl; have l1 := (heldS hb1).at (i := 1) rfl))
  go_ret
  exact ⟨rfl, chainE hb30⟩
end Go.Proofs.Ytmlhecfhhhebnaa
