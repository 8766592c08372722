/- Polynomials: the walk of measure for R. -/
import Derived.Test.YtmlhecfhhhebnaaP1

namespace Go.Proofs.Ytmlhecfhhhebnaa
open Go.RowKit
attribute [local go_sem] Oper.semAt_some

set_option maxRecDepth 20000 in
set_option maxHeartbeats 8000000 in
theorem measureR_yes (K n : Nat) (u v : Value) (xs ys : List Int) (w : World) (hv : validB K n = true) (hx : Ints w u xs) (hy : Ints w v ys) (h : wordB (mirs K n) xs = true) (h2 : wordB (mirs K n) ys = true) (hs : ¬ (K = 65 ∧ n = 4)) :
    Calls Try.prog 70 #[.agg #[.int .u8 (K : Nat), .int .i64 (n : Nat)], u, v, .func (.func 71) #[] #[]] w (PolyOut (rT K n (ix K n xs) (ix K n ys)) w) := by
  have RD := Lib.hid (fun w' v' (ha : Args w' v' [xs, ys]) => read_yes K n v' [xs, ys] w' hv ha (all_two h h2))
  have HX := Lib.hid (fun o : Obj => hx.below ((Below.refl _ _).alloc (Nat.le_refl _) o))
  have HY := Lib.hid (fun o : Obj => hy.below ((Below.refl _ _).alloc (Nat.le_refl _) o))
  have hi1 := ix_lt hv h
  have hi2 := ix_lt hv h2
  have hN48 := len_small hv hs
  have MR := Lib.hid (fun (bT bm bR bP : Nat) (w0 : World) (ht : TabIs K n (wordsG K n) (nextG K n) w0 bT) (F : MF bm bR bP w0) (w' : World) (hM : MS (rT K n) (pT K n) bT bm bR bP w0 w') => measure_R hv hs hi1 hi2 bT bm bR bP w0 ht F w' hM)
  have TW := Lib.hid (fun (bT : Nat) (w' : World) (ht : TabIs K n (wordsG K n) (nextG K n) w' bT) => tab_words ht (tkG hv))
  obtain ⟨i1, e1⟩ : ∃ i1, ix K n xs = i1 := ⟨_, rfl⟩
  obtain ⟨i2, e2⟩ : ∃ i2, ix K n ys = i2 := ⟨_, rfl⟩
  obtain ⟨N, eN⟩ : ∃ N, (wordsG K n).length = N := ⟨_, rfl⟩
  have HE1 := Lib.hid e1
  have HE2 := Lib.hid e2
  rw [e1, e2] at MR ⊢
  rw [eN] at TW hN48
  have hgt : ¬ (48 : Int) < (N : Int) := by omega
  obtain ⟨a, c, rfl, hx1⟩ := hx
  obtain ⟨a2, c2, rfl, hy1⟩ := hy
  clear h h2 hx1 hy1 hv hs hi1 hi2 e1 e2 eN
  go_enter Try.func70, Try.ntmps70
  go_upto_region 4 with (go_at_call 59; refine (RD.out _ _ (args2 (HX.out _) (HY.out _) _ (by simp))).mono ?_; rintro e w1 ⟨bT, v1, rfl, ht1, ho1, hb1⟩; obtain ⟨g1, c1, rfl, hc1, hc1'⟩ := own_two ho1)
  have HB1 := Lib.hid (below_al2 (Nat.le_refl _) hb1)
  have HT1 := Lib.hid ht1
  obtain ⟨aW, cW, hcW⟩ := TW.out bT w1 ht1
  rw [HE1.out] at hc1
  rw [HE2.out] at hc1'
  clear hb1 ht1 ho1
  go_upto_region 6 with (fail)
  clear HX HY RD TW HE1 HE2
  have hmm := @run_makeMap Try.prog
  have KP := Lib.hid (fun (w' : World) (hb : Below w1.heap.size w1 w') => (⟨(hb.cell (World.block_lt_of_cell? _ _ hc1)).trans hc1, (hb.cell (World.block_lt_of_cell? _ _ hc1')).trans hc1'⟩ : w'.cell? ⟨g1, 0, none⟩ = some (.int .i64 (i1 : Nat)) ∧ w'.cell? ⟨g1, 1, none⟩ = some (.int .i64 (i2 : Nat))))
  have k1 := KP.out (w1.alloc (.map #[] 0)) ((Below.refl _ _).alloc (Nat.le_refl _) _)
  have k2 := KP.out ((w1.alloc (.map #[] 0)).alloc (.map #[] 0)) (below_twoP w1 _ _)
  have k3 := KP.out (((w1.alloc (.map #[] 0)).alloc (.map #[] 0)).alloc (.cells #[.pointer (some ⟨bT, 0, none⟩), .map (some w1.heap.size), .map (some (w1.heap.size + 1))] 103)) ((below_twoP w1 _ _).alloc (by simp; omega) _)
  have k4 := KP.out (((w1.alloc (.map #[] 0)).alloc (.map #[] 0)).alloc (.cells #[.pointer (some ⟨bT, 0, none⟩), .map (some (w1.heap.size + 1)), .map (some w1.heap.size)] 103)) ((below_twoP w1 _ _).alloc (by simp; omega) _)
  have k11 := k1.1
  have k12 := k1.2
  have k21 := k2.1
  have k22 := k2.2
  have k31 := k3.1
  have k32 := k3.2
  have k41 := k4.1
  have k42 := k4.2
  clear k1 k2 k3 k4
  go_cut [8, 9] from 32 to 45 (fun v8 v9 wq => v9 = .int .i64 0 ∧ OwnI 3 w.heap.size wq v8 (rT K n i1 i2) ∧ Below w.heap.size w wq)
  case first =>
    go_region_with (first
      | (go_at_call 90; refine (CloneP_any v5 _ w5 hf5.ints).mono ?_; rintro e w6 ⟨v6, rfl, ho6, hb6⟩; have HE6 := Lib.hid (measure_end HB1.out HM5.out ho6 hb6); clear ho6 hb6)
      | (go_at_call 71; first
          | (refine (MR.out bT _ _ _ w1 HT1.out (mf_new1 w1) _ (ms_new1 bT w1).2).mono ?_; rintro e w5 ⟨v5, rfl, hf5, hm5, hs5⟩; have HM5 := Lib.hid hm5.bel)
          | (refine (MR.out bT _ _ _ w1 HT1.out (mf_new2 w1) _ (ms_new2 bT w1).2).mono ?_; rintro e w5 ⟨v5, rfl, hf5, hm5, hs5⟩; have HM5 := Lib.hid hm5.bel)))
    all_goals (go_wp2_with fail; go_meet)
    all_goals exact ⟨rfl, HE6.out⟩
  case rest =>
    obtain ⟨rfl, ho, hb⟩ := hcut
    have HO := Lib.hid ho
    have HB := Lib.hid hb
    clear ho hb
    go_wp2
    go_ret2
    exact ⟨_, rfl, HO.out, HB.out⟩
end Go.Proofs.Ytmlhecfhhhebnaa
