/- TracesOrthogonal's walk. -/
import Derived.Test.YtdackakjcnnofaaGreatOd
import Derived.Test.YtdackakjcnnofaaGreatAx
import Derived.Test.YtdackakjcnnofaaGreatZt
import Derived.Test.YtdackakjcnnofaaGreatPs
import Derived.Test.YtdackakjcnnofaaGreatB5
namespace Go.Proofs.YtdackakjcnnofaaGreat
open Go.RowKit
attribute [local go_sem] Oper.semAt_some

set_option maxRecDepth 100000 in
set_option maxHeartbeats 4000000 in
theorem orth_err (v : Value) (L : List (List Int)) (w : World) (h : Args w v L) (k : Int) (hk : k = 2 ∨ k = 6)
    (hT : ∀ u w', Args w' u (tabA L) → Calls Tryz.prog 11 #[u] w' fun e w2 => ∃ a n cp, e = .returned (.tuple #[.slice a n cp, .int .i64 k]) ∧ Below w'.heap.size w' w2)
    (hE : ∀ u w', Args w' u (tabA L) → Calls Tryz.prog 17 #[u] w' fun e w2 => ∃ a n cp, e = .returned (.tuple #[.slice a n cp, .int .i64 k]) ∧ Below w'.heap.size w' w2)
    (hC : ∀ u w', Args w' u (tabA L) → Calls Tryz.prog 18 #[u] w' fun e w2 => ∃ a n cp, e = .returned (.tuple #[.slice a n cp, .int .i64 k]) ∧ Below w'.heap.size w' w2)
    (hP : ∀ u w', Args w' u (tabA L) → Calls Tryz.prog 19 #[u] w' fun e w2 => e = .returned (.tuple #[.int .i64 0, .int .i64 k]) ∧ Below w'.heap.size w' w2) :
    Calls Tryz.prog 9 #[v] w fun e w' => e = .returned (.bool true) ∧ Below w.heap.size w w' := by
  have TA := Lib.hid (fun w' (hb : Below w.heap.size w w') => table_any v L w' (h.below hb))
  have PT := Lib.hid hT
  have PE := Lib.hid hE
  have PC := Lib.hid hC
  have PP := Lib.hid hP
  have AW := Lib.hid awake_any
  have HB := Lib.hid (Below.refl w.heap.size w)
  have HTL := Lib.hid (show (tabA L).length ≤ 1000000 by have := tabA_len L; omega)
  clear h hT hE hC hP
  rcases hk with rfl | rfl
  all_goals go_enter Tryz.func9, Tryz.ntmps9
  all_goals go_wp2_with (first
    | (go_at_call 12; refine (TA.out _ HB.out).mono ?_; rintro e wt ⟨u, S, rfl, hg, hb⟩; have HT := Lib.hid (hg.1.args HTL.out); have HB := Lib.hid (HB.out.trans (hb.mono HB.out.size)); clear hg hb)
    | (go_at_call 11; refine (PT.out _ _ HT.out).mono ?_; rintro e we ⟨ax, nx, cx, rfl, hb⟩; have HB := Lib.hid (HB.out.trans (hb.mono HB.out.size)); clear hb)
    | (go_at_call 17; refine (PE.out _ _ HT.out).mono ?_; rintro e we ⟨ax, nx, cx, rfl, hb⟩; have HB := Lib.hid (HB.out.trans (hb.mono HB.out.size)); clear hb)
    | (go_at_call 18; refine (PC.out _ _ HT.out).mono ?_; rintro e we ⟨ax, nx, cx, rfl, hb⟩; have HB := Lib.hid (HB.out.trans (hb.mono HB.out.size)); clear hb)
    | (go_at_call 19; refine (PP.out _ _ HT.out).mono ?_; rintro e we ⟨rfl, hb⟩; have HB := Lib.hid (HB.out.trans (hb.mono HB.out.size)); clear hb)
    | (go_at_call 14; refine (AW.out _).mono ?_; rintro e wa ⟨rfl, hb⟩; have HB := Lib.hid (HB.out.trans (hb.mono HB.out.size)); clear hb))
  all_goals go_ret
  all_goals exact ⟨rfl, HB.out⟩
/-- The squares of the first rows' degrees, summed. -/
def sqTo (T : List (List Int)) (k : Nat) : Int := ((T.take k).map fun r => r.headD 0 * r.headD 0).sum
theorem sqTo_succ {T : List (List Int)} {k : Nat} (hk : k < T.length) : sqTo T (k + 1) = sqTo T k + T[k].headD 0 * T[k].headD 0 := by
  unfold sqTo
  rw [List.take_succ_eq_append_getElem hk, List.map_append, List.sum_append]; simp
/-- Two columns' products over the first rows, summed. -/
def clTo (T : List (List Int)) (a b k : Nat) : Int := ((T.take k).map fun r => r.getD a 0 * r.getD b 0).sum
theorem clTo_succ {T : List (List Int)} {a b k : Nat} (hk : k < T.length) : clTo T a b (k + 1) = clTo T a b k + T[k].getD a 0 * T[k].getD b 0 := by
  unfold clTo
  rw [List.take_succ_eq_append_getElem hk, List.map_append, List.sum_append]; simp
/-- What the law asks of a table. -/
structure OrF (E : List (List Nat)) (d : Nat) (T : List (List Int)) : Prop where
  fg : FG E d
  nq : E.length < primeN E d
  tl : T.length = (classesN E).length
  rl : ∀ r ∈ T, funB (primeN E d) (classesN E).length r = true
  hd : ∀ r ∈ T, 1 ≤ r.headD 0 ∧ r.headD 0 < 62 ∧ ((E.length : Int)).tmod (r.headD 0) = 0
  sum : sqTo T T.length = (E.length : Nat)
  sb : ∀ k, 0 ≤ sqTo T k ∧ sqTo T k ≤ 1000000
  prod : ∀ a b (ha : a < T.length) (hb : b < T.length), prdI E d T[a] T[b] = if a = b then 1 else 0
  col : ∀ a b, a < (classesN E).length → b < (classesN E).length → (clTo T a ((backC E).getD b 0) T.length - (if a = b then ((E.length / ((classesN E).getD a []).length : Nat) : Int) else 0)).tmod (primeN E d) = 0
  cb : ∀ a b k, a < (classesN E).length → b < (classesN E).length → 0 ≤ clTo T a b k ∧ clTo T a b k ≤ 1000000
  lc : ∀ l ∈ classesN E, 0 < l.length
set_option maxRecDepth 100000 in
set_option maxHeartbeats 4000000 in
theorem orth_ok {E : List (List Nat)} {T : List (List Int)} {d : Nat} (v : Value) (L : List (List Int)) (w : World) (h : Args w v L) (hG : Grp d E) (hd : d ≤ 5) (h1d : 0 < d) (h24 : E.length ≤ 24) (hF : OrF E d T)
    (hT : ∀ u w', Args w' u (tabA L) → Calls Tryz.prog 11 #[u] w' fun e w2 => ∃ x, e = .returned (.tuple #[x, .int .i64 0]) ∧ Args w2 x T ∧ Below w'.heap.size w' w2)
    (hE : ∀ u w', Args w' u (tabA L) → Calls Tryz.prog 17 #[u] w' fun e w2 => ∃ x S H, e = .returned (.tuple #[x, .int .i64 0]) ∧ RowsF S H w2 x E ∧ Below w'.heap.size w' w2)
    (hC : ∀ u w', Args w' u (tabA L) → Calls Tryz.prog 18 #[u] w' fun e w2 => ∃ x S H, e = .returned (.tuple #[x, .int .i64 0]) ∧ RowsF S H w2 x (classesN E) ∧ Below w'.heap.size w' w2)
    (hP : ∀ u w', Args w' u (tabA L) → Calls Tryz.prog 19 #[u] w' fun e w2 => e = .returned (.tuple #[.int .i64 (primeN E d : Nat), .int .i64 0]) ∧ Below w'.heap.size w' w2)
    (hM : ∀ a b (ha : a < T.length) (hb : b < T.length) u x y w', Args w' u (tabA L) → Ints w' x T[a] → Ints w' y T[b] → Calls Tryz.prog 30 #[u, x, y] w' fun e w2 => e = .returned (.tuple #[.int .i64 (if a = b then 1 else 0), .int .i64 0]) ∧ Below w'.heap.size w' w2) :
    Calls Tryz.prog 9 #[v] w fun e w' => e = .returned (.bool true) ∧ Below w.heap.size w w' := by
  have TA := Lib.hid (fun w' (hb : Below w.heap.size w w') => table_any v L w' (h.below hb))
  have PT := Lib.hid hT
  have PE := Lib.hid hE
  have PC := Lib.hid hC
  have PP := Lib.hid hP
  have PM := Lib.hid hM
  have AW := Lib.hid awake_any
  have HB := Lib.hid (Below.refl w.heap.size w)
  have HTL := Lib.hid (show (tabA L).length ≤ 1000000 by have := tabA_len L; omega)
  have HF := Lib.hid hF
  have HGR := Lib.hid hG
  have hpos := hG.pos
  have HPE := Lib.hid hpos
  have HPC := Lib.hid hF.fg.m0
  have hm24 := hF.fg.m24
  have hm0 := hF.fg.m0
  have htl := hF.tl
  have hq62 := hF.fg.q2
  have hnq := hF.nq
  obtain ⟨q, hq⟩ : ∃ q, primeN E d = q := ⟨_, rfl⟩
  obtain ⟨n, hn⟩ : ∃ n, E.length = n := ⟨_, rfl⟩
  obtain ⟨m, hm⟩ : ∃ m, (classesN E).length = m := ⟨_, rfl⟩
  have htm : T.length = m := by rw [htl, hm]
  have HN := Lib.hid hn
  have HM := Lib.hid hm
  have HR := Lib.hid htm
  have HQ := Lib.hid hq
  have H24 := Lib.hid h24
  rw [hn] at h24 hpos hnq
  rw [hm] at hm24 hm0
  rw [hq] at hnq hq62 PP
  have hqi : ¬ (q : Int) ≤ (n : Int) := by omega
  have hqi' : decide ((q : Int) ≤ (n : Int)) = false := by simp; omega
  have hqd : decide (q ≤ n) = false := by simp; omega
  have hqd2 : ¬ q ≤ n := by omega
  have hq1 : ¬ (1000 : Int) < (q : Int) := by omega
  have hq1' : decide ((1000 : Int) < (q : Int)) = false := by simp; omega
  have hn24 : ¬ (24 : Int) < (n : Int) := by omega
  have hn24' : decide ((24 : Int) < (n : Int)) = false := by simp; omega
  have hmm : ((m : Int) != (m : Int)) = false := by simp
  clear h hT hE hC hP hM hF hG htl htm hq hn hm
  go_enter Tryz.func9, Tryz.ntmps9
  go_wp2_with (first
    | (go_at_call 12; refine (TA.out _ HB.out).mono ?_; rintro e wt ⟨u, S, rfl, hg, hb⟩; have HT := Lib.hid (hg.1.args HTL.out); have HB := Lib.hid (HB.out.trans (hb.mono HB.out.size)); (try (have HXT := Lib.hid (HXT.out.below hb))); (try (have HXE := Lib.hid (HXE.out.below hb))); (try (have HXC := Lib.hid (HXC.out.below hb))); clear hg hb)
    | (go_at_call 11; refine (PT.out _ _ HT.out).mono ?_; rintro e we ⟨x1, rfl, hx, hb⟩; obtain ⟨aT, cT, rfl⟩ := hx.form; have HXT := Lib.hid hx; rw [HR.out] at HXT ⊢; have HB := Lib.hid (HB.out.trans (hb.mono HB.out.size)); clear hb hx)
    | (go_at_call 17; refine (PE.out _ _ HT.out).mono ?_; rintro e we ⟨x2, S2, B2, rfl, hx, hb⟩; obtain ⟨aE, cE, rfl⟩ := hx.form; have HXE := Lib.hid hx; rw [HN.out] at HXE ⊢; have HXT := Lib.hid (HXT.out.below hb); have HB := Lib.hid (HB.out.trans (hb.mono HB.out.size)); clear hb hx)
    | (go_at_call 18; refine (PC.out _ _ HT.out).mono ?_; rintro e we ⟨x3, S3, B3, rfl, hx, hb⟩; obtain ⟨aC, cC, rfl⟩ := hx.form; have HXC := Lib.hid hx; rw [HM.out] at HXC ⊢; have HXT := Lib.hid (HXT.out.below hb); have HXE := Lib.hid (HXE.out.below hb); have HB := Lib.hid (HB.out.trans (hb.mono HB.out.size)); clear hb hx)
    | (go_at_call 19; refine (PP.out _ _ HT.out).mono ?_; rintro e we ⟨rfl, hb⟩; have HXC := Lib.hid (HXC.out.below hb); have HXT := Lib.hid (HXT.out.below hb); have HXE := Lib.hid (HXE.out.below hb); have HB := Lib.hid (HB.out.trans (hb.mono HB.out.size)); clear hb))
  try simp only [hqd]
  have HWE := Lib.hid (Below.refl we.heap.size we)
  have hx1 := HXT.out
  obtain ⟨gT, oT, cT2, e1, hgT⟩ := args_fix hx1 (by rw [HR.out]; exact hm0)
  obtain ⟨rfl, -, rfl⟩ := Value.slice.inj e1
  have HRT := Lib.hid hgT
  have HS0 := Lib.hid (show sqTo T 0 = 0 from rfl)
  clear hx1 e1 hgT
  go_loopw [11, 109] (fun sm ix wr => ∃ k : Nat, k ≤ m ∧ ix = .int .i64 k ∧ sm = .int .i64 (sqTo T k) ∧ Below we.heap.size we wr) (fun _ ix _ => m - (intOf ix).toNat)
  case atStart => exact ⟨0, Nat.zero_le _, rfl, rfl, Below.refl _ _⟩
  case round =>
    obtain ⟨k, hk, rfl, rfl, hb⟩ := hrel
    have HB1 := Lib.hid hb
    by_cases hlt : k < m
    · have hki : (k : Int) < (m : Int) := by omega
      have hkT : k < T.length := by rw [HR.out]; exact hlt
      obtain ⟨aU, cU, hrow⟩ := HRT.out k hkT
      have HRU := Lib.hid hrow
      have hrl := funB_iff.1 (HF.out.rl _ (List.getElem_mem hkT))
      have hlx : (T[k]).length = m := by rw [hrl.1, HM.out]
      have hcu := (hrow wr hb).1
      obtain ⟨_, _, e1, -, -, hc1⟩ := (hrow wr hb).2
      obtain ⟨b2, o2, e2, -, hc1⟩ := hc1 (List.ne_nil_of_length_pos (by omega))
      have hc0 := hc1 0 (by omega)
      obtain ⟨rfl, -, rfl⟩ := Value.slice.inj e1
      subst e2
      have hdd := HF.out.hd _ (List.getElem_mem hkT)
      have HS := Lib.hid (sqTo_succ hkT)
      have hsb := HF.out.sb k
      have hsb2 := HF.out.sb (k + 1)
      obtain ⟨y, hy⟩ : ∃ y, (T[k]).headD 0 = y := ⟨_, rfl⟩
      have hhd := (first_at (T[k]) (by omega)).trans hy
      rw [hhd, Nat.add_zero] at hc0
      rw [hy] at HS hdd
      rw [HS.out] at hsb2
      rw [hlx] at hcu HRU
      obtain ⟨s, hs⟩ : ∃ s, sqTo T k = s := ⟨_, rfl⟩
      rw [hs] at hsb hsb2 HS ⊢
      have hy1 : decide (y < 1) = false := by simp; omega
      have hy0 : ¬ y = 0 := by omega
      have hrem := hdd.2.2
      rw [HN.out] at hrem
      have hyy : y * y ≤ 61 * 61 := Int.mul_le_mul (by omega) (by omega) (by omega) (by omega)
      have hyy0 : 0 ≤ y * y := Int.mul_nonneg (by omega) (by omega)
      have hw1 : IntKind.i64.wrap (y * y) = y * y := IntWalk.i64_in _ (by omega)
      have hw2 : IntKind.i64.wrap (s + y * y) = s + y * y := IntWalk.i64_in _ (by omega)
      clear hb hrow hrl hc1 e1 hdd hy hhd hs hlx
      go_wp2
      go_quiet (fail)
      go_wp2
      have HRM := Lib.hid HRU.out
      clear hcu hc0 hy1 hy0 hrem hw1 hw2
      go_loopw [145] (fun ix wq => ∃ j : Nat, j ≤ m ∧ ix = .int .i64 j ∧ Below we.heap.size we wq) (fun ix _ => m - (intOf ix).toNat)
      case atStart => exact ⟨0, Nat.zero_le _, rfl, below_drewN HB1.out _⟩
      case round =>
        obtain ⟨j, hj, rfl, hb⟩ := hrel
        by_cases hlj : j < m
        · have hji : (j : Int) < (m : Int) := by omega
          have hjT : j < T.length := by rw [HR.out]; exact hlj
          obtain ⟨aV, cV, hrow2⟩ := HRT.out j hjT
          have hlx2 : (T[j]).length = m := by rw [(funB_iff.1 (HF.out.rl _ (List.getElem_mem hjT))).1, HM.out]
          rw [hlx2] at hrow2
          have hcv := (hrow2 wr hb).1
          have HRV := Lib.hid hrow2
          have HW := Lib.hid hb
          have PMK := Lib.hid (PM.out k j hkT hjT)
          clear hrow2 hlx2 hb
          by_cases hjk : k = j
          · obtain rfl := hjk
            have PMJ := Lib.hid (fun u x y w' h1 h2 h3 => (by have h9 := PMK.out u x y w' h1 h2 h3; rw [if_pos rfl] at h9; exact h9 : Calls Tryz.prog 30 #[u, x, y] w' fun e w2 => e = .returned (.tuple #[.int .i64 1, .int .i64 0]) ∧ Below w'.heap.size w' w2))
            have hkj : ((k : Int) == (k : Int)) = true := by simp
            clear PMK
            go_wp2_with (first
              | (go_at_call 12; refine (TA.out _ (HB.out.trans (HW.out.mono HB.out.size))).mono ?_; rintro e wt ⟨u, S, rfl, hg, hb⟩; have HT := Lib.hid (hg.1.args HTL.out); have HW := Lib.hid (HW.out.trans (hb.mono HW.out.size)); clear hg hb)
              | (go_at_call 39; refine (Clone_any (.slice (some ⟨b2, o2, none⟩) m cU) T[k] _ (HRM.out _ HW.out).2).mono ?_; rintro e wc ⟨x1, rfl, hx, hb⟩; have HX1 := Lib.hid (hx.ints (by rw [(funB_iff.1 (HF.out.rl _ (List.getElem_mem hkT))).1, HM.out]; omega)); have HT := Lib.hid (HT.out.below hb); have HW := Lib.hid (HW.out.trans (hb.mono HW.out.size)); clear hx hb)
              | (go_at_call 39; refine (Clone_any (.slice aV m cV) T[k] _ (HRV.out _ HW.out).2).mono ?_; rintro e wc ⟨x2, rfl, hx, hb⟩; have HX2 := Lib.hid (hx.ints (by rw [(funB_iff.1 (HF.out.rl _ (List.getElem_mem hkT))).1, HM.out]; omega)); have HX1 := Lib.hid (HX1.out.below hb); have HT := Lib.hid (HT.out.below hb); have HW := Lib.hid (HW.out.trans (hb.mono HW.out.size)); clear hx hb)
              | (go_at_call 30; refine (PMJ.out _ _ _ _ HT.out HX1.out HX2.out).mono ?_; rintro e wp ⟨rfl, hb⟩; have HW := Lib.hid (HW.out.trans (hb.mono HW.out.size)); clear hb))
            go_roundw
            case rel =>
              first
              | exact ⟨k + 1, hlj, by go_num, HW.out⟩
              | (iterate 39 refine Exists.intro _ ?_
                 exact ⟨⟨k + 1, hlj, by go_num, HW.out⟩, rfl⟩)
            case measure => simp [intOf]; omega
          · have PMJ := Lib.hid (fun u x y w' h1 h2 h3 => (by have h9 := PMK.out u x y w' h1 h2 h3; rw [if_neg hjk] at h9; exact h9 : Calls Tryz.prog 30 #[u, x, y] w' fun e w2 => e = .returned (.tuple #[.int .i64 0, .int .i64 0]) ∧ Below w'.heap.size w' w2))
            have hkj : ((k : Int) == (j : Int)) = false := by simp; omega
            have hkj2 : (k == j) = false := by simpa using hjk
            have hkj3 : decide (k = j) = false := by simpa using hjk
            have hkj4 : ¬ (k : Int) = (j : Int) := by omega
            clear PMK
            go_wp2_with (first
              | (go_at_call 12; refine (TA.out _ (HB.out.trans (HW.out.mono HB.out.size))).mono ?_; rintro e wt ⟨u, S, rfl, hg, hb⟩; have HT := Lib.hid (hg.1.args HTL.out); have HW := Lib.hid (HW.out.trans (hb.mono HW.out.size)); clear hg hb)
              | (go_at_call 39; refine (Clone_any (.slice (some ⟨b2, o2, none⟩) m cU) T[k] _ (HRM.out _ HW.out).2).mono ?_; rintro e wc ⟨x1, rfl, hx, hb⟩; have HX1 := Lib.hid (hx.ints (by rw [(funB_iff.1 (HF.out.rl _ (List.getElem_mem hkT))).1, HM.out]; omega)); have HT := Lib.hid (HT.out.below hb); have HW := Lib.hid (HW.out.trans (hb.mono HW.out.size)); clear hx hb)
              | (go_at_call 39; refine (Clone_any (.slice aV m cV) T[j] _ (HRV.out _ HW.out).2).mono ?_; rintro e wc ⟨x2, rfl, hx, hb⟩; have HX2 := Lib.hid (hx.ints (by rw [(funB_iff.1 (HF.out.rl _ (List.getElem_mem hjT))).1, HM.out]; omega)); have HX1 := Lib.hid (HX1.out.below hb); have HT := Lib.hid (HT.out.below hb); have HW := Lib.hid (HW.out.trans (hb.mono HW.out.size)); clear hx hb)
              | (go_at_call 30; refine (PMJ.out _ _ _ _ HT.out HX1.out HX2.out).mono ?_; rintro e wp ⟨rfl, hb⟩; have HW := Lib.hid (HW.out.trans (hb.mono HW.out.size)); clear hb))
            go_roundw
            case rel =>
              first
              | exact ⟨j + 1, hlj, by go_num, HW.out⟩
              | (iterate 39 refine Exists.intro _ ?_
                 exact ⟨⟨j + 1, hlj, by go_num, HW.out⟩, rfl⟩)
            case measure => simp [intOf]; omega
        · obtain rfl : j = m := by omega
          have hji : ¬ (j : Int) < (j : Int) := by omega
          have HW := Lib.hid hb
          clear hb
          go_wp2
          go_roundw
          case rel => exact ⟨k + 1, hlt, by go_num, by rw [HS.out], HW.out⟩
          case measure => simp [intOf]; omega
    · obtain rfl : m = k := by omega
      have hki : ¬ (m : Int) < (m : Int) := by omega
      have hsum : sqTo T m = (n : Int) := by rw [← HN.out, ← HF.out.sum, HR.out]
      rw [hsum]
      have hnn : ((n : Int) != (n : Int)) = false := by simp
      have HW := Lib.hid hb
      clear hb
      go_wp2
      go_loopw [186] (fun ix wr => ∃ a : Nat, a ≤ m ∧ ix = .int .i64 a ∧ Below we.heap.size we wr) (fun ix _ => m - (intOf ix).toNat)
      case atStart => exact ⟨0, Nat.zero_le _, rfl, HW.out⟩
      case round =>
        obtain ⟨a, ha, rfl, hb⟩ := hrel
        have HA := Lib.hid hb
        clear hb
        by_cases hla : a < m
        · have hai : (a : Int) < (m : Int) := by omega
          go_wp2
          go_loopw [191] (fun ix wq => ∃ b : Nat, b ≤ m ∧ ix = .int .i64 b ∧ Below we.heap.size we wq) (fun ix _ => m - (intOf ix).toNat)
          case atStart => exact ⟨0, Nat.zero_le _, rfl, HA.out⟩
          case round =>
            obtain ⟨b, hbm, rfl, hb⟩ := hrel
            have HBB := Lib.hid hb
            clear hb
            by_cases hlb : b < m
            · have hbi : (b : Int) < (m : Int) := by omega
              have IV := Lib.hid (fun W (hb' : Below we.heap.size we W) => inverse_any (.slice aE n cE) (.slice aC m cC) b W HGR.out hd h1d H24.out (HXE.out.below hb') (HXC.out.below hb') (by rw [HM.out]; exact hlb))
              have hkb := HF.out.fg.bb ((backC E).getD b 0) (getD_memN (by rw [HF.out.fg.bl, HM.out]; exact hlb))
              have HCO := Lib.hid (HF.out.col a b (by rw [HM.out]; exact hla) (by rw [HM.out]; exact hlb))
              rw [HM.out] at hkb
              rw [HR.out, HQ.out, HN.out] at HCO
              obtain ⟨c, hc⟩ : ∃ c, (backC E).getD b 0 = c := ⟨_, rfl⟩
              rw [hc] at IV hkb HCO
              clear hc
              have hci : (c : Int) < (m : Int) := by omega
              have hc0 : ¬ (c : Int) < 0 := by omega
              have hc0' : decide ((c : Int) < 0) = false := by simp
              go_wp2_with (go_at_call 40; refine (IV.out _ HBB.out).mono ?_; rintro e wi ⟨rfl, hb⟩; have HW := Lib.hid (HBB.out.trans (hb.mono HBB.out.size)); clear hb)
              clear IV
              go_loopw [21, 202] (fun sm ix wt => ∃ j : Nat, j ≤ m ∧ ix = .int .i64 j ∧ sm = .int .i64 (clTo T a c j) ∧ Below we.heap.size we wt) (fun _ ix _ => m - (intOf ix).toNat)
              case atStart => exact ⟨0, Nat.zero_le _, rfl, rfl, HW.out⟩
              case round =>
                obtain ⟨j, hj, rfl, rfl, hb⟩ := hrel
                have HJ := Lib.hid hb
                by_cases hlj : j < m
                · have hji : (j : Int) < (m : Int) := by omega
                  have hjT : j < T.length := by rw [HR.out]; exact hlj
                  obtain ⟨aV, cV, hrow⟩ := HRT.out j hjT
                  have hfb := funB_iff.1 (HF.out.rl _ (List.getElem_mem hjT))
                  have hlx : (T[j]).length = m := by rw [hfb.1, HM.out]
                  have hrw := hrow wr hb
                  obtain ⟨b3, o3, rfl, hce⟩ := ints_at hrw.2 (by rw [hlx]; omega)
                  have hca := hce a (by rw [hlx]; exact hla)
                  have hcc := hce c (by rw [hlx]; exact hkb)
                  have hcu := hrw.1
                  rw [hlx] at hcu
                  have HS := Lib.hid (clTo_succ (a := a) (b := c) hjT)
                  have hb1 := HF.out.cb a c j (by rw [HM.out]; exact hla) (by rw [HM.out]; exact hkb)
                  have hb2 := HF.out.cb a c (j + 1) (by rw [HM.out]; exact hla) (by rw [HM.out]; exact hkb)
                  rw [HS.out] at hb2
                  have hx := getD_bound (by have := HF.out.fg.q1; omega) hfb.2 a
                  have hy := getD_bound (by have := HF.out.fg.q1; omega) hfb.2 c
                  rw [HQ.out] at hx hy
                  obtain ⟨x, hxe⟩ : ∃ x, (T[j]).getD a 0 = x := ⟨_, rfl⟩
                  obtain ⟨y, hye⟩ : ∃ y, (T[j]).getD c 0 = y := ⟨_, rfl⟩
                  obtain ⟨s, hse⟩ : ∃ s, clTo T a c j = s := ⟨_, rfl⟩
                  rw [hxe] at hca hx HS hb2
                  rw [hye] at hcc hy HS hb2
                  rw [hse] at hb1 hb2 HS ⊢
                  have hxy : x * y ≤ 61 * 61 := Int.mul_le_mul (by omega) (by omega) (by omega) (by omega)
                  have hxy0 : 0 ≤ x * y := Int.mul_nonneg (by omega) (by omega)
                  have hw1 : IntKind.i64.wrap (x * y) = x * y := IntWalk.i64_in _ (by omega)
                  have hw2 : IntKind.i64.wrap (s + x * y) = s + x * y := IntWalk.i64_in _ (by omega)
                  clear hb hrow hfb hlx hrw hce hxe hye hse hx hy hxy hxy0 hb1 hb2
                  go_wp2
                  go_quiet (fail)
                  go_wp2
                  go_roundw
                  case rel => exact ⟨j + 1, hlj, by go_num, by rw [HS.out], below_drewN HJ.out _⟩
                  case measure => simp [intOf]; omega
                · obtain rfl : m = j := by omega
                  have hji : ¬ (m : Int) < (m : Int) := by omega
                  have hb1 := HF.out.cb a c m (by rw [HM.out]; exact hla) (by rw [HM.out]; exact hkb)
                  have hq0 : ¬ (q : Int) = 0 := by omega
                  obtain ⟨s, hse⟩ : ∃ s, clTo T a c m = s := ⟨_, rfl⟩
                  rw [hse] at hb1 HCO ⊢
                  clear hse hb
                  by_cases hab : a = b
                  · obtain rfl := hab
                    have hco := HCO.out
                    rw [if_pos rfl] at hco
                    obtain ⟨-, gC, rfl, hgC⟩ := rows_fix HXC.out (by rw [HM.out]; exact hm0)
                    have haC : a < (classesN E).length := by rw [HM.out]; exact hla
                    obtain ⟨aU, cU, hU⟩ := hgC a haC
                    have hcu := (hU wr HJ.out).1
                    have hlc := HF.out.lc _ (List.getElem_mem haC)
                    have hge : (classesN E).getD a [] = (classesN E)[a] := by rw [List.getD_eq_getElem?_getD, List.getElem?_eq_getElem haC]; rfl
                    rw [hge] at hco
                    obtain ⟨z, hz⟩ : ∃ z, ((classesN E)[a]).length = z := ⟨_, rfl⟩
                    rw [hz] at hco hcu hlc
                    have hz0 : ¬ (z : Int) = 0 := by omega
                    have hdv : Int.tdiv (n : Int) (z : Int) = ((n / z : Nat) : Int) := by rw [← Int.ofNat_tdiv]
                    have hnz : n / z ≤ n := Nat.div_le_self _ _
                    obtain ⟨v, hv⟩ : ∃ v, n / z = v := ⟨_, rfl⟩
                    rw [hv] at hco hdv hnz
                    have hw1 : IntKind.i64.wrap (v : Int) = (v : Int) := IntWalk.i64_in _ (by omega)
                    have hw2 : IntKind.i64.wrap (s - (v : Int)) = s - (v : Int) := IntWalk.i64_in _ (by omega)
                    have hee : ((a : Int) == (a : Int)) = true := by simp
                    clear hU hgC hge hz hv hlc hnz hb1
                    go_wp2
                    go_roundw
                    case rel => exact ⟨a + 1, hlb, by go_num, HJ.out⟩
                    case measure => simp [intOf]; omega
                  · have hco := HCO.out
                    rw [if_neg hab, Int.sub_zero] at hco
                    have hw2 : IntKind.i64.wrap (s - 0) = s := by rw [Int.sub_zero]; exact IntWalk.i64_in _ (by omega)
                    have hw3 : IntKind.i64.wrap s = s := IntWalk.i64_in _ (by omega)
                    have hee : ((a : Int) == (b : Int)) = false := by simp; omega
                    have hee2 : ¬ (a : Int) = (b : Int) := by omega
                    clear hb1
                    go_wp2
                    go_roundw
                    case rel => exact ⟨b + 1, hlb, by go_num, HJ.out⟩
                    case measure => simp [intOf]; omega
            · obtain rfl : m = b := by omega
              have hbi : ¬ (m : Int) < (m : Int) := by omega
              go_wp2
              go_roundw
              case rel => exact ⟨a + 1, hla, by go_num, HBB.out⟩
              case measure => simp [intOf]; omega
        · obtain rfl : m = a := by omega
          have hai : ¬ (m : Int) < (m : Int) := by omega
          go_wp2_with (go_at_call 14; refine (AW.out _).mono ?_; rintro e wa ⟨rfl, hb⟩; have HB := Lib.hid (HB.out.trans ((HA.out.trans (hb.mono HA.out.size)).mono HB.out.size)); clear hb)
          go_ret
          exact ⟨rfl, HB.out⟩
end Go.Proofs.YtdackakjcnnofaaGreat
