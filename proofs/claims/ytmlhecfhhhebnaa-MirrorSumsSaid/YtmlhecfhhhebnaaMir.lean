/- (Group).mirror. -/
import Derived.Test.YtmlhecfhhhebnaaThen
import Derived.RegionTactic
import Derived.ChangeAlike
import Derived.Deep.DeepCutAuto
import Derived.Deep.CutBlock
namespace Go.Proofs.Ytmlhecfhhhebnaa
open Go.RowKit

def mirTo (n s k : Nat) : List Int := (List.range 24).map fun i => if i < k then (((2 * s + 2 * n - i) % (2 * n) + 1 : Nat) : Int) else ((i + 1 : Nat) : Int)
theorem mirTo_length (n s k : Nat) : (mirTo n s k).length = 24 := by simp [mirTo]
theorem mirTo_zero (n s : Nat) : mirTo n s 0 = oneE := by simp [mirTo, oneE]
theorem mirTo_all (n s : Nat) : mirTo n s (2 * n) = mirE 73 n s := by simp [mirTo, mirE]
theorem mirTo_step (n s k : Nat) : (mirTo n s k).set k (((2 * s + 2 * n - k) % (2 * n) + 1 : Nat) : Int) = mirTo n s (k + 1) := by
  refine List.ext_getElem (by simp [mirTo]) fun i h1 h2 => ?_
  rw [List.getElem_set]
  simp only [mirTo, List.getElem_map, List.getElem_range]
  by_cases e : k = i
  · subst e; rw [if_pos rfl, if_pos (by omega)]
  · rw [if_neg e]
    by_cases h : i < k
    · rw [if_pos h, if_pos (by omega)]
    · rw [if_neg h, if_neg (by omega)]
theorem elt_one : Elt oneE := ⟨by decide, by decide, by decide, by decide⟩
theorem elt_mir (K n s : Nat) (hv : validB K n = true) (hs : s < mirs K n) : Elt (mirE K n s) := by
  have key : ∀ K : Nat, K < 74 → ∀ n : Nat, n < 13 → ∀ s : Nat, s < 5 → (!(validB K n && decide (s < mirs K n)) || ((mirE K n s).length == 24 && (mirE K n s).all fun x => decide (x ≠ 0) && decide (-24 ≤ x) && decide (x ≤ 24))) = true := by decide +kernel
  have hK : K < 74 ∧ n < 13 ∧ mirs K n < 5 := by
    unfold validB mirs at *
    simp at hv
    split <;> omega
  have := key K hK.1 n hK.2.1 s (by omega)
  rw [hv, decide_eq_true hs] at this
  simp only [Bool.and_true, Bool.not_true, Bool.false_or, Bool.and_eq_true, beq_iff_eq, List.all_eq_true, decide_eq_true_eq] at this
  exact ⟨this.1, fun x hx => (this.2 x hx).1.1, fun x hx => (this.2 x hx).1.2, fun x hx => (this.2 x hx).2⟩

theorem one_cell (s : Nat) (h : s < 24) : (cs8 oneE)[s]? = some (.int .i8 ((s : Int) + 1)) := by
  simp [cs8, oneE, h]
theorem mirE_B (s : Nat) : mirE 66 (s + 1) s = oneE.set s (-((s : Int) + 1)) := by
  unfold mirE
  rw [if_neg (by decide), if_pos ⟨rfl, rfl⟩]
  push_cast
  rfl

/-- The mirrors' element returned. -/
def MirIs (K n s : Nat) (w : World) (e : Ending) (w' : World) : Prop := e = .returned (.agg (cs8 (mirE K n s)).toArray) ∧ Below w.heap.size w w'

set_option maxRecDepth 100000 in
set_option maxHeartbeats 1000000 in
theorem mirror_I (n s : Nat) (w : World) (hn : 2 ≤ n) (hn2 : n ≤ 12) (hs : s < 2) :
    Calls Try.prog 101 #[grp 73 n, .int .i64 (s : Nat)] w (MirIs 73 n s w) := by
  have hn' : (2 : Int) ≤ (n : Int) := by omega
  have hn2' : (n : Int) ≤ 12 := by omega
  have hs' : (s : Int) < 2 := by omega
  unfold grp
  go_enter Try.func101, Try.ntmps101
  go_wp2_with fail
  refine (one_any 73 n _).mono ?_
  rintro e w1 ⟨rfl, hb1⟩
  have HZ := Lib.hid (Held.made (w := w1) (l := cs8 zeroE) (t := 113) rfl)
  have HT := Lib.hid (show Held w1 w.heap.size 28 [.int .u8 73, .int .i64 (n : Nat)] from (Held.alloc (Held.made (l := [.int .u8 73, .int .i64 (n : Nat)]) rfl) _).below hb1 (by simp; omega))
  have HR := Lib.hid (show Held w1 (w.heap.size + 1) 113 (cs8 zeroE) from (Held.made (l := cs8 zeroE) (by simp)).below hb1 (by simp))
  have HB2 := Lib.hid (show Below w.heap.size w w1 from (((Below.refl _ _).alloc (Nat.le_refl _) _).alloc (by simp) _).trans (hb1.mono (by simp; omega)))
  have hsz1 : w.heap.size + 1 + 1 ≤ w1.heap.size := by have := hb1.size; simpa using this
  clear hb1
  go_wp2_with ((with_reducible refine is_store 113 ?_); refine wpl_store_elem (by rfl) _ _ (by rfl) w1.heap.size oneE zeroE (by rfl) (by rfl) (by rfl) (by rfl) (by exact HZ.out) ?_; intro W hW hsm hsz; have HTW := Lib.hid ((HT.out.alloc _).sm hsm (by show w.heap.size ≠ _; omega)); have HRW := Lib.hid ((HR.out.alloc _).sm hsm (by show w.heap.size + 1 ≠ _; omega)); have HW := Lib.hid hW; have HBW := Lib.hid (hsm.below (HB2.out.alloc (by omega) _) (by omega) (by simp; omega)); clear hW hsm hsz; have c0 := HTW.out.at (i := 0) rfl; have c1 := HTW.out.at (i := 1) rfl)
  go_loopw [28] (fun ix wr => ∃ k : Nat, k ≤ 2 * n ∧ ix = .int .i64 k ∧ Held wr w.heap.size 28 [.int .u8 73, .int .i64 (n : Nat)] ∧ Held wr (w.heap.size + 1) 113 (cs8 zeroE) ∧ Held wr w1.heap.size 113 (cs8 (mirTo n s k)) ∧ Below w.heap.size w wr) (fun ix _ => 2 * n - (intOf ix).toNat)
  case atStart => exact ⟨0, by omega, rfl, HTW.out, HRW.out, by rw [mirTo_zero]; exact HW.out, HBW.out⟩
  case round =>
    obtain ⟨k, hk, rfl, h0, h1, h2, hb⟩ := hrel
    have d0 := h0.at (i := 0) rfl
    have d1 := h0.at (i := 1) rfl
    clear c0 c1
    by_cases hlt : k < 2 * n
    · have hki : (k : Int) < 2 * (n : Int) := by omega
      have hmod : (2 * (s : Int) - (k : Int) + 2 * (n : Int)) % (2 * (n : Int)) = (((2 * s + 2 * n - k) % (2 * n) : Nat) : Int) := by
        rw [show (2 * (s : Int) - (k : Int) + 2 * (n : Int)) = ((2 * s + 2 * n - k : Nat) : Int) by omega]
        push_cast
        rfl
      have hlm : (2 * s + 2 * n - k) % (2 * n) < 2 * n := Nat.mod_lt _ (by omega)
      have hst := mirTo_step n s k
      have hc := h2.at (cs8_get (mirTo n s k) k (by rw [mirTo_length]; omega))
      have hf := h2.free k
      obtain ⟨m, hm⟩ : ∃ m, (2 * s + 2 * n - k) % (2 * n) = m := ⟨_, rfl⟩
      rw [hm] at hmod hlm hst
      have hw : IntKind.i8.wrap ((m : Int) + 1) = (m : Int) + 1 := by simp [IntKind.wrap, IntKind.bits, IntKind.signed]; omega
      have HST := Lib.hid hst
      have H0 := Lib.hid h0
      have H1 := Lib.hid h1
      have H2 := Lib.hid h2
      have HB := Lib.hid hb
      clear hm h0 h1 h2 hb hst
      go_wp2
      refine ⟨⟨k + 1, by omega, by push_cast; rfl, H0.out.far (by omega) _ _, H1.out.far (by omega) _ _, ?_, HB.out.setCell (by simp; omega) _⟩, by simp [intOf]; omega⟩
      rw [← HST.out, ← cs8_set]
      exact H2.out.put k _
    · obtain rfl : k = 2 * n := by omega
      rw [mirTo_all] at h2
      have H1 := Lib.hid h1
      have H2 := Lib.hid h2
      have HB := Lib.hid hb
      have hki : ¬ ((2 * n : Nat) : Int) < 2 * (n : Int) := by omega
      have hel := (elt_mir 73 n s (by simp [validB]; omega) (by simp [mirs]; omega)).len
      clear h0 h1 h2 hb
      go_wp2_with (first
        | ((with_reducible refine is_load 113 ?_); refine wpl_load_elem (by rfl) _ (by rfl) w1.heap.size (mirE 73 n s) hel (by rfl) (by exact H2.out) ?_)
        | ((with_reducible refine is_store 113 ?_); refine wpl_store_elem (by rfl) _ _ (by rfl) (w.heap.size + 1) (mirE 73 n s) zeroE hel (by rfl) (by rfl) (by rfl) (by exact H1.out) ?_; intro W2 hW2 hsm2 hsz2; have HW2 := Lib.hid hW2; have HS2 := Lib.hid hsm2; clear hW2 hsm2 hsz2))
      have hle := HB.out.size
      exact bodyPost_ret (results_elem 4 Try.results101 (by rfl) HW2.out hel) rfl ⟨rfl, HS2.out.below HB.out (by omega) hle⟩

set_option maxRecDepth 100000 in
set_option maxHeartbeats 1000000 in
theorem mirror_B (n s : Nat) (w : World) (hn : 2 ≤ n) (hn2 : n ≤ 3) (hs : s + 1 = n) :
    Calls Try.prog 101 #[grp 66 n, .int .i64 (s : Nat)] w (MirIs 66 n s w) := by
  subst hs
  have hn' : (1 : Int) ≤ (s : Int) := by omega
  have hn2' : (s : Int) ≤ 2 := by omega
  have hel := (elt_mir 66 (s + 1) s (by simp [validB]; omega) (by simp [mirs])).len
  unfold grp
  go_enter Try.func101, Try.ntmps101
  go_wp2_with fail
  refine (one_any 66 (s + 1) _).mono ?_
  rintro e w1 ⟨rfl, hb1⟩
  have HZ := Lib.hid (Held.made (w := w1) (l := cs8 zeroE) (t := 113) rfl)
  have HT := Lib.hid (show Held w1 w.heap.size 28 [.int .u8 66, .int .i64 ((s : Int) + 1)] from (Held.alloc (Held.made (l := [.int .u8 66, .int .i64 ((s : Int) + 1)]) rfl) _).below hb1 (by simp; omega))
  have HR := Lib.hid (show Held w1 (w.heap.size + 1) 113 (cs8 zeroE) from (Held.made (l := cs8 zeroE) (by simp)).below hb1 (by simp))
  have HB2 := Lib.hid (show Below w.heap.size w w1 from (((Below.refl _ _).alloc (Nat.le_refl _) _).alloc (by simp) _).trans (hb1.mono (by simp; omega)))
  have hsz1 : w.heap.size + 1 + 1 ≤ w1.heap.size := by have := hb1.size; simpa using this
  clear hb1
  go_wp2_with (first
    | ((with_reducible refine is_store 113 ?_); have hHZ := HZ.out; clear HZ; refine wpl_store_elem (by rfl) _ _ (by rfl) w1.heap.size oneE zeroE (by rfl) (by rfl) (by rfl) (by rfl) (by exact hHZ) ?_; intro W hW hsm hsz; have HTW := Lib.hid ((HT.out.alloc _).sm hsm (by show w.heap.size ≠ _; omega)); have HRW := Lib.hid ((HR.out.alloc _).sm hsm (by show w.heap.size + 1 ≠ _; omega)); have HW := Lib.hid hW; have HBW := Lib.hid (hsm.below (HB2.out.alloc (by omega) _) (by omega) (by simp; omega)); clear hW hsm hsz hHZ; have c0 := HTW.out.at (i := 0) rfl; have c1 := HTW.out.at (i := 1) rfl; have ck := HW.out.at (i := s) (v := .int .i8 ((s : Int) + 1)) (one_cell s (by omega)); have cf := HW.out.free s; have HF := Lib.hid (show ∀ W', W' = W.setCell ⟨w1.heap.size, s, none⟩ (.int .i8 (-((s : Int) + 1))) → Held W' w1.heap.size 113 (cs8 (mirE 66 (s + 1) s)) from fun W' e => by rw [e, mirE_B, ← cs8_set]; exact HW.out.put s _); have HRF := Lib.hid (fun u => HRW.out.far (b := w1.heap.size) (by omega) s u))
    | ((with_reducible refine is_load 113 ?_); refine wpl_load_elem (by rfl) _ (by rfl) w1.heap.size (mirE 66 (s + 1) s) hel (by rfl) (by exact HF.out _ rfl) ?_)
    | ((with_reducible refine is_store 113 ?_); refine wpl_store_elem (by rfl) _ _ (by rfl) (w.heap.size + 1) (mirE 66 (s + 1) s) zeroE hel (by rfl) (by rfl) (by rfl) (by exact HRF.out _) ?_; intro W2 hW2 hsm2 hsz2; have HW2 := Lib.hid hW2; have HS2 := Lib.hid hsm2; clear hW2 hsm2 hsz2))
  exact bodyPost_ret (results_elem 4 Try.results101 (by rfl) HW2.out hel) rfl ⟨rfl, HS2.out.below (HBW.out.setCell (by simp; omega) _) (by omega) (by have := HBW.out.size; simpa using this)⟩

/-- Swapped neighbours. -/
def swE (s : Nat) : List Int := (oneE.set s ((s : Int) + 2)).set (s + 1) ((s : Int) + 1)
theorem mirE_sw (K n s : Nat) (h : K = 65 ∨ (K = 66 ∧ s + 1 < n)) : mirE K n s = swE s := by
  have h1 : ¬ K = 73 := by omega
  have h2 : ¬ (K = 66 ∧ s + 1 = n) := by omega
  unfold mirE swE
  rw [if_neg h1, if_neg h2]
  push_cast
  rfl
theorem swE_len (s : Nat) : (swE s).length = 24 := by simp [swE, oneE]

set_option maxRecDepth 100000 in
set_option maxHeartbeats 2000000 in
theorem mirror_S65 (n s : Nat) (w : World) (hs : s < 4) (hn : n ≤ 4) :
    Calls Try.prog 101 #[grp 65 n, .int .i64 (s : Nat)] w (MirIs 65 n s w) := by
  have HME := Lib.hid (mirE_sw 65 n s (.inl rfl))
  have hel := swE_len s
  have hs4 : (s : Int) < 4 := by omega
  have hni : (n : Int) ≤ 4 := by omega
  unfold MirIs
  unfold grp
  go_enter Try.func101, Try.ntmps101
  go_wp2_with fail
  refine (one_any 65 n _).mono ?_
  rintro e w1 ⟨rfl, hb1⟩
  have HZ := Lib.hid (Held.made (w := w1) (l := cs8 zeroE) (t := 113) rfl)
  have HT := Lib.hid (show Held w1 w.heap.size 28 [.int .u8 65, .int .i64 (n : Nat)] from (Held.alloc (Held.made (l := [.int .u8 65, .int .i64 (n : Nat)]) rfl) _).below hb1 (by simp; omega))
  have HR := Lib.hid (show Held w1 (w.heap.size + 1) 113 (cs8 zeroE) from (Held.made (l := cs8 zeroE) (by simp)).below hb1 (by simp))
  have HB2 := Lib.hid (show Below w.heap.size w w1 from (((Below.refl _ _).alloc (Nat.le_refl _) _).alloc (by simp) _).trans (hb1.mono (by simp; omega)))
  have hsz1 : w.heap.size + 1 + 1 ≤ w1.heap.size := by have := hb1.size; simpa using this
  clear hb1
  go_upto_region 2 with ((with_reducible refine is_store 113 ?_); have hHZ := HZ.out; clear HZ; refine wpl_store_elem (by rfl) _ _ (by rfl) w1.heap.size oneE zeroE (by rfl) (by rfl) (by rfl) (by rfl) (by exact hHZ) ?_; intro W hW hsm hsz; have HTW := Lib.hid ((HT.out.alloc _).sm hsm (by show w.heap.size ≠ _; omega)); have HRW := Lib.hid ((HR.out.alloc _).sm hsm (by show w.heap.size + 1 ≠ _; omega)); have HW := Lib.hid hW; have HBW := Lib.hid (hsm.below (HB2.out.alloc (by omega) _) (by omega) (by simp; omega)); clear hW hsm hsz hHZ; have c0 := HTW.out.at (i := 0) rfl; have c1 := HTW.out.at (i := 1) rfl)
  have ck := HW.out.at (i := s) (v := .int .i8 ((s : Int) + 1)) (one_cell s (by omega))
  have ck2 := HW.out.at (i := s + 1) (v := .int .i8 ((s : Int) + 2)) (by rw [one_cell (s + 1) (by omega)]; push_cast; rw [Int.add_assoc]; rfl)
  have cf := HW.out.free s
  have cf2 := HW.out.free (s + 1)
  clear c0 c1
  go_region
  obtain ⟨W2, hW2⟩ : ∃ W2, ((W.setCell ⟨w1.heap.size, s, none⟩ (.int .i8 ((s : Int) + 2))).setCell ⟨w1.heap.size, s + 1, none⟩ (.int .i8 ((s : Int) + 1))).drew = W2 := ⟨_, rfl⟩
  have HF := Lib.hid (show Held W2 w1.heap.size 113 (cs8 (swE s)) by rw [← hW2]; unfold swE; rw [← cs8_set, ← cs8_set]; exact ((HW.out.put s _).put (s + 1) _).drew)
  have HR2 := Lib.hid (show Held W2 (w.heap.size + 1) 113 (cs8 zeroE) by rw [← hW2]; exact ((HRW.out.far (by omega) s _).far (by omega) (s + 1) _).drew)
  have HB3 := Lib.hid (show Below w.heap.size w W2 by rw [← hW2]; exact ((HBW.out.setCell (by simp; omega) _).setCell (by simp; omega) _).drew)
  rw [hW2]
  clear hW2 ck ck2 cf cf2
  go_wp2_with (first
    | ((with_reducible refine is_load 113 ?_); refine wpl_load_elem (by rfl) _ (by rfl) w1.heap.size (swE s) hel (by rfl) (by exact HF.out) ?_)
    | ((with_reducible refine is_store 113 ?_); refine wpl_store_elem (by rfl) _ _ (by rfl) (w.heap.size + 1) (swE s) zeroE hel (by rfl) (by rfl) (by rfl) (by exact HR2.out) ?_; intro W3 hW3 hsm3 hsz3; have HW3 := Lib.hid hW3; have HS3 := Lib.hid hsm3; clear hW3 hsm3 hsz3))
  have hle := HB3.out.size
  exact bodyPost_ret (results_elem 4 Try.results101 (by rfl) HW3.out hel) rfl ⟨by rw [HME.out], HS3.out.below HB3.out (by omega) hle⟩

set_option maxRecDepth 100000 in
set_option maxHeartbeats 2000000 in
theorem mirror_S66 (n s : Nat) (w : World) (hlt : s + 1 < n) (hn : n ≤ 3) :
    Calls Try.prog 101 #[grp 66 n, .int .i64 (s : Nat)] w (MirIs 66 n s w) := by
  have HME := Lib.hid (mirE_sw 66 n s (.inr ⟨rfl, hlt⟩))
  have hel := swE_len s
  have hb1 : ((s : Int) == (n : Int) - 1) = false := by simp; omega
  have hb2 : decide ((s : Int) = (n : Int) - 1) = false := by simp; omega
  have hs4 : (s : Int) ≤ 1 := by omega
  have hni : (n : Int) ≤ 4 := by omega
  unfold MirIs
  unfold grp
  go_enter Try.func101, Try.ntmps101
  go_wp2_with fail
  refine (one_any 66 n _).mono ?_
  rintro e w1 ⟨rfl, hb1⟩
  have HZ := Lib.hid (Held.made (w := w1) (l := cs8 zeroE) (t := 113) rfl)
  have HT := Lib.hid (show Held w1 w.heap.size 28 [.int .u8 66, .int .i64 (n : Nat)] from (Held.alloc (Held.made (l := [.int .u8 66, .int .i64 (n : Nat)]) rfl) _).below hb1 (by simp; omega))
  have HR := Lib.hid (show Held w1 (w.heap.size + 1) 113 (cs8 zeroE) from (Held.made (l := cs8 zeroE) (by simp)).below hb1 (by simp))
  have HB2 := Lib.hid (show Below w.heap.size w w1 from (((Below.refl _ _).alloc (Nat.le_refl _) _).alloc (by simp) _).trans (hb1.mono (by simp; omega)))
  have hsz1 : w.heap.size + 1 + 1 ≤ w1.heap.size := by have := hb1.size; simpa using this
  clear hb1
  go_upto_region 2 with ((with_reducible refine is_store 113 ?_); have hHZ := HZ.out; clear HZ; refine wpl_store_elem (by rfl) _ _ (by rfl) w1.heap.size oneE zeroE (by rfl) (by rfl) (by rfl) (by rfl) (by exact hHZ) ?_; intro W hW hsm hsz; have HTW := Lib.hid ((HT.out.alloc _).sm hsm (by show w.heap.size ≠ _; omega)); have HRW := Lib.hid ((HR.out.alloc _).sm hsm (by show w.heap.size + 1 ≠ _; omega)); have HW := Lib.hid hW; have HBW := Lib.hid (hsm.below (HB2.out.alloc (by omega) _) (by omega) (by simp; omega)); clear hW hsm hsz hHZ; have c0 := HTW.out.at (i := 0) rfl; have c1 := HTW.out.at (i := 1) rfl)
  have ck := HW.out.at (i := s) (v := .int .i8 ((s : Int) + 1)) (one_cell s (by omega))
  have ck2 := HW.out.at (i := s + 1) (v := .int .i8 ((s : Int) + 2)) (by rw [one_cell (s + 1) (by omega)]; push_cast; rw [Int.add_assoc]; rfl)
  have cf := HW.out.free s
  have cf2 := HW.out.free (s + 1)
  clear c0 c1
  go_region
  obtain ⟨W2, hW2⟩ : ∃ W2, ((W.setCell ⟨w1.heap.size, s, none⟩ (.int .i8 ((s : Int) + 2))).setCell ⟨w1.heap.size, s + 1, none⟩ (.int .i8 ((s : Int) + 1))).drew = W2 := ⟨_, rfl⟩
  have HF := Lib.hid (show Held W2 w1.heap.size 113 (cs8 (swE s)) by rw [← hW2]; unfold swE; rw [← cs8_set, ← cs8_set]; exact ((HW.out.put s _).put (s + 1) _).drew)
  have HR2 := Lib.hid (show Held W2 (w.heap.size + 1) 113 (cs8 zeroE) by rw [← hW2]; exact ((HRW.out.far (by omega) s _).far (by omega) (s + 1) _).drew)
  have HB3 := Lib.hid (show Below w.heap.size w W2 by rw [← hW2]; exact ((HBW.out.setCell (by simp; omega) _).setCell (by simp; omega) _).drew)
  rw [hW2]
  clear hW2 ck ck2 cf cf2
  go_wp2_with (first
    | ((with_reducible refine is_load 113 ?_); refine wpl_load_elem (by rfl) _ (by rfl) w1.heap.size (swE s) hel (by rfl) (by exact HF.out) ?_)
    | ((with_reducible refine is_store 113 ?_); refine wpl_store_elem (by rfl) _ _ (by rfl) (w.heap.size + 1) (swE s) zeroE hel (by rfl) (by rfl) (by rfl) (by exact HR2.out) ?_; intro W3 hW3 hsm3 hsz3; have HW3 := Lib.hid hW3; have HS3 := Lib.hid hsm3; clear hW3 hsm3 hsz3))
  have hle := HB3.out.size
  exact bodyPost_ret (results_elem 4 Try.results101 (by rfl) HW3.out hel) rfl ⟨by rw [HME.out], HS3.out.below HB3.out (by omega) hle⟩

theorem mirror_any (K n s : Nat) (w : World) (hv : validB K n = true) (hs : s < mirs K n) :
    Calls Try.prog 101 #[grp K n, .int .i64 (s : Nat)] w (MirIs K n s w) := by
  unfold validB at hv
  simp only [Bool.or_eq_true, Bool.and_eq_true, beq_iff_eq, decide_eq_true_eq] at hv
  rcases hv with (⟨⟨rfl, h1⟩, h2⟩ | ⟨⟨rfl, h1⟩, h2⟩) | ⟨⟨rfl, h1⟩, h2⟩
  · exact mirror_S65 n s w (by unfold mirs at hs; simp at hs; omega) h2
  · have hs' : s < n := by unfold mirs at hs; simpa using hs
    by_cases e : s + 1 = n
    · exact mirror_B n s w h1 h2 e
    · exact mirror_S66 n s w (by omega) h2
  · exact mirror_I n s w h1 h2 (by unfold mirs at hs; simpa using hs)
end Go.Proofs.Ytmlhecfhhhebnaa
