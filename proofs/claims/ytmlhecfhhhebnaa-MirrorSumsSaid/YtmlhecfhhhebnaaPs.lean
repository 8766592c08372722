/- Times, Back, Longest, Length, Falls: the walks. -/
import Derived.Test.YtmlhecfhhhebnaaRv
namespace Go.Proofs.Ytmlhecfhhhebnaa
open Go.RowKit

theorem all_two {m : Nat} {xs ys : List Int} (h : wordB m xs = true) (h2 : wordB m ys = true) : [xs, ys].all (wordB m) = true := by simp [h, h2]
theorem word_nat {m : Nat} {xs : List Int} (h : wordB m xs = true) : toI (natW xs) = xs ∧ (∀ s ∈ natW xs, s < m) ∧ xs.length ≤ 30 := by
  unfold wordB at h
  simp only [Bool.and_eq_true, decide_eq_true_eq] at h
  exact ⟨(natW_toI h.2).1, (natW_toI h.2).2, h.1⟩
theorem natW_length (xs : List Int) : (natW xs).length = xs.length := by simp [natW]

set_option maxRecDepth 20000 in
set_option maxHeartbeats 1000000 in
theorem Times_no (K : Nat) (n : Int) (u v : Value) (xs ys : List Int) (w : World) (hK : K < 256) (hx : Ints w u xs) (hy : Ints w v ys) (h : okI K n [xs, ys] = false) :
    Calls Try.prog 15 #[grpI K n, u, v] w (WordErr w) := by
  have RD := Lib.hid (fun w' v' (ha : Args w' v' [xs, ys]) => read_no K n v' [xs, ys] w' hK ha h)
  have HX := Lib.hid (fun o : Obj => hx.below ((Below.refl _ _).alloc (Nat.le_refl _) o))
  have HY := Lib.hid (fun o : Obj => hy.below ((Below.refl _ _).alloc (Nat.le_refl _) o))
  obtain ⟨a, c, rfl, hx1⟩ := hx
  obtain ⟨a2, c2, rfl, hy1⟩ := hy
  unfold grpI at *
  clear h hx1 hy1
  go_enter Try.func15, Try.ntmps15
  go_wp2_with (go_at_call 59; refine (RD.out _ _ (args2 (HX.out _) (HY.out _) _ (by simp))).mono ?_; rintro e w1 ⟨rfl, hb1⟩)
  go_ret2
  exact ⟨rfl, below_al2 (Nat.le_refl _) hb1⟩

set_option maxRecDepth 20000 in
set_option maxHeartbeats 1000000 in
theorem Times_yes (K n : Nat) (u v : Value) (xs ys : List Int) (w : World) (hv : validB K n = true) (hx : Ints w u xs) (hy : Ints w v ys) (h : wordB (mirs K n) xs = true) (h2 : wordB (mirs K n) ys = true) :
    Calls Try.prog 15 #[.agg #[.int .u8 (K : Nat), .int .i64 (n : Nat)], u, v] w (WordOut ((wordsG K n).getD (walkX (nextG K n) (ix K n xs) (natW ys)) []) w) := by
  have RD := Lib.hid (fun w' v' (ha : Args w' v' [xs, ys]) => read_yes K n v' [xs, ys] w' hv ha (all_two h h2))
  have HX := Lib.hid (fun o : Obj => hx.below ((Below.refl _ _).alloc (Nat.le_refl _) o))
  have HY := Lib.hid (fun o : Obj => hy.below ((Below.refl _ _).alloc (Nat.le_refl _) o))
  have HYB := Lib.hid (fun w' (hb : Below w.heap.size w w') => hy.below hb)
  have hn := word_nat h2
  have WK := Lib.hid (fun (bT : Nat) (w' : World) (ht : TabIs K n (wordsG K n) (nextG K n) w' bT) (hyy : Ints w' v ys) => walk_any bT (ix K n xs) v (natW ys) w' ht (tkG hv) (by rw [hn.1]; exact hyy) (ix_lt hv h) hn.2.1)
  have WD := Lib.hid (fun (bT : Nat) (w' : World) (ht : TabIs K n (wordsG K n) (nextG K n) w' bT) => word_any bT (walkX (nextG K n) (ix K n xs) (natW ys)) w' ht (tkG hv) ((tkG hv).walk _ _ (ix_lt hv h) hn.2.1))
  obtain ⟨a, c, rfl, hx1⟩ := hx
  obtain ⟨a2, c2, rfl, hy1⟩ := hy
  clear h h2 hx1 hy1 hv hn
  go_enter Try.func15, Try.ntmps15
  go_wp2_with (first
    | (go_at_call 59; refine (RD.out _ _ (args2 (HX.out _) (HY.out _) _ (by simp))).mono ?_; rintro e w1 ⟨bT, v1, rfl, ht1, ho1, hb1⟩; obtain ⟨g1, c1, rfl, hc1, hc1'⟩ := own_two ho1; clear hc1')
    | (go_at_call 61; refine (WK.out bT w1 ht1 (HYB.out _ (below_al2 (Nat.le_refl _) hb1))).mono ?_; rintro e w2 ⟨rfl, rfl⟩)
    | (go_at_call 60; refine (WD.out bT w1 ht1).mono ?_; rintro e w2 ⟨v2, rfl, ho2, hb2⟩))
  go_ret2
  have hB := below_al2 (Nat.le_refl _) hb1
  exact ⟨_, rfl, ho2.mono hB.size, hB.trans (hb2.mono hB.size)⟩

set_option maxRecDepth 20000 in
set_option maxHeartbeats 1000000 in
theorem Back_no (K : Nat) (n : Int) (v : Value) (xs : List Int) (w : World) (hK : K < 256) (hx : Ints w v xs) (h : okI K n [xs] = false) :
    Calls Try.prog 18 #[grpI K n, v] w (WordErr w) := by
  have RD := Lib.hid (fun w' v' (ha : Args w' v' [xs]) => read_no K n v' [xs] w' hK ha h)
  have HX := Lib.hid (fun o : Obj => hx.below ((Below.refl _ _).alloc (Nat.le_refl _) o))
  obtain ⟨a, c, rfl, hx1⟩ := hx
  unfold grpI at *
  clear h hx1
  go_enter Try.func18, Try.ntmps18
  go_wp2_with (go_at_call 59; refine (RD.out _ _ (args1 (HX.out _) _ (by simp))).mono ?_; rintro e w1 ⟨rfl, hb1⟩)
  go_ret2
  exact ⟨rfl, below_al2 (Nat.le_refl _) hb1⟩

theorem own_rowN {e : TypeId} {B : Nat} {w : World} {v : Value} {L : List Nat} (h : OwnI e B w v (toI L)) (hl : 1 ≤ L.length) : ∃ g c, v = .slice (some ⟨g, 0, none⟩) L.length c := by
  obtain ⟨g, c, rfl⟩ := h.row (k := L.length - 1) (by omega)
  exact ⟨g, c, by rw [show L.length - 1 + 1 = L.length by omega]⟩
theorem own_blk {e : TypeId} {B : Nat} {w : World} {g n c : Nat} {L : List Int} (h : OwnI e B w (.slice (some ⟨g, 0, none⟩) n c) L) : B ≤ g := (h.lt g rfl).1

set_option maxRecDepth 20000 in
set_option maxHeartbeats 1000000 in
theorem Back_yes (K n : Nat) (v : Value) (xs : List Int) (w : World) (hv : validB K n = true) (hx : Ints w v xs) (h : wordB (mirs K n) xs = true) :
    Calls Try.prog 18 #[.agg #[.int .u8 (K : Nat), .int .i64 (n : Nat)], v] w (WordOut ((wordsG K n).getD (walkX (nextG K n) 0 (natW xs).reverse) []) w) := by
  have RD := Lib.hid (fun w' v' (ha : Args w' v' [xs]) => read_yes K n v' [xs] w' hv ha (by simpa using h))
  have HX := Lib.hid (fun o : Obj => hx.below ((Below.refl _ _).alloc (Nat.le_refl _) o))
  have hn := word_nat h
  have hnl := natW_length xs
  have CL := Lib.hid (fun w' (hb : Below w.heap.size w w') => Clone_any v (toI (natW xs)) w' (by rw [hn.1]; exact hx.below hb))
  have hrv : ∀ s ∈ (natW xs).reverse, s < mirs K n := fun s hs => hn.2.1 s (List.mem_reverse.mp hs)
  have WK := Lib.hid (fun (bT : Nat) (w' : World) (v' : Value) (ht : TabIs K n (wordsG K n) (nextG K n) w' bT) (hyy : Ints w' v' (toI (natW xs).reverse)) => walk_any bT 0 v' (natW xs).reverse w' ht (tkG hv) hyy (tkG hv).pos hrv)
  have WD := Lib.hid (fun (bT : Nat) (w' : World) (ht : TabIs K n (wordsG K n) (nextG K n) w' bT) => word_any bT (walkX (nextG K n) 0 (natW xs).reverse) w' ht (tkG hv) ((tkG hv).walk _ _ (tkG hv).pos hrv))
  have HLN := Lib.hid (show (toI (natW xs).reverse).length ≤ 17592186044416 by rw [toI_length, List.length_reverse]; omega)
  have HNL := Lib.hid (show (natW xs).length ≤ 1000 by omega)
  obtain ⟨a, c, rfl, hx1⟩ := hx
  obtain ⟨L, hL⟩ : ∃ L, natW xs = L := ⟨_, rfl⟩
  rw [hL] at CL WK WD HLN HNL ⊢
  clear h hx1 hv hn hnl hrv hL
  by_cases h1 : 1 ≤ L.length
  · have HL1 := Lib.hid h1
    clear h1
    go_enter Try.func18, Try.ntmps18
    go_wp2_with (first
      | (go_at_call 59; refine (RD.out _ _ (args1 (HX.out _) _ (by simp))).mono ?_; rintro e w1 ⟨bT, v1, rfl, ht1, ho1, hb1⟩; have hB1 := below_al2 (Nat.le_refl _) hb1)
      | (go_at_call 35; refine (CL.out w1 hB1).mono ?_; rintro e w2 ⟨v2, rfl, ho2, hb2⟩; obtain ⟨g2, c2, rfl⟩ := own_rowN ho2 HL1.out)
      | (go_at_call 47; refine (Reverse_any L w1.heap.size g2 c2 w2 ho2 HL1.out HNL.out).mono ?_; rintro e w3 ⟨rfl, ho3, hs3⟩; have hb3 : Below w1.heap.size w1 w3 := hs3.below hb2 (own_blk ho2) hb2.size; have hlr : L.reverse.length = L.length := List.length_reverse)
      | (go_at_call 61; refine (WK.out bT w3 _ (ht1.below hb3) (ho3.ints HLN.out)).mono ?_; rintro e w4 ⟨rfl, rfl⟩)
      | (go_at_call 60; refine (WD.out bT w3 (ht1.below hb3)).mono ?_; rintro e w5 ⟨v5, rfl, ho5, hb5⟩))
    go_ret2
    have hB := hB1.trans (hb3.mono hB1.size)
    exact ⟨_, rfl, ho5.mono hB.size, hB.trans (hb5.mono hB.size)⟩
  · obtain rfl : L = [] := List.eq_nil_of_length_eq_zero (by omega)
    clear h1
    go_enter Try.func18, Try.ntmps18
    go_wp2_with (first
      | (go_at_call 59; refine (RD.out _ _ (args1 (HX.out _) _ (by simp))).mono ?_; rintro e w1 ⟨bT, v1, rfl, ht1, ho1, hb1⟩; have hB1 := below_al2 (Nat.le_refl _) hb1)
      | (go_at_call 35; refine (CL.out w1 hB1).mono ?_; rintro e w2 ⟨v2, rfl, ho2, hb2⟩; obtain ⟨a2, c2, rfl⟩ := ho2.form)
      | (go_at_call 47; refine (Reverse0_any a2 c2 w2).mono ?_; rintro e w3 ⟨rfl, rfl⟩)
      | (go_at_call 61; refine (WK.out bT w2 _ (ht1.below hb2) (ho2.ints HLN.out)).mono ?_; rintro e w4 ⟨rfl, rfl⟩)
      | (go_at_call 60; refine (WD.out bT w2 (ht1.below hb2)).mono ?_; rintro e w5 ⟨v5, rfl, ho5, hb5⟩))
    go_ret2
    have hB := hB1.trans (hb2.mono hB1.size)
    exact ⟨_, rfl, ho5.mono hB.size, hB.trans (hb5.mono hB.size)⟩
end Go.Proofs.Ytmlhecfhhhebnaa
