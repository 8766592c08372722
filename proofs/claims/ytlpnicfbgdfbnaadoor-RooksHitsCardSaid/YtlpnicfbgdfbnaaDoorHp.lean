/- RooksHits: its plain law; factorial, choose, slices.Reverse. -/
import Derived.Test.YtlpnicfbgdfbnaaDoorCnt
namespace Go.Proofs.YtlpnicfbgdfbnaaDoor
open Go.RowKit Go.Shelf
attribute [local go_sem] Oper.semAt_some

theorem other_board {bs : List Nat} (h : IsBoard bs) : IsBoard (other bs) := by
  have hl : (other bs).length = bs.length := by simp [other]
  refine ⟨by rw [hl]; exact h.pos, by rw [hl]; exact h.le, fun r hr => ?_⟩
  rw [hl]
  unfold other at hr
  obtain ⟨r0, h0, rfl⟩ := List.mem_map.1 hr
  exact other_lt bs.length (by have := h.le; omega) r0 (h.lt r0 h0)
theorem reverse_getD (L : List Nat) (k : Nat) (hk : k < L.length) : L.reverse.getD k 0 = L.getD (L.length - 1 - k) 0 := by
  rw [getD_at (by simpa using hk), getD_at (by omega), List.getElem_reverse]
theorem hits_other {bs : List Nat} (h : IsBoard bs) : hitsL bs = (hitsL (other bs)).reverse := by
  have hlo : (other bs).length = bs.length := by simp [other]
  have l1 := hitsL_length bs
  have l2 := hitsL_length (other bs)
  refine getD_ext (by simp [l1, l2, hlo]) fun m hm => ?_
  rw [reverse_getD _ _ (by omega), l2, hlo, hitsL_getD, hitsL_getD, hlo]
  refine hcount_map _ _ _ _ _ fun l hl => ?_
  have hlen : l.length = bs.length := perms_len _ _ l hl
  obtain ⟨p1, p2, p3⟩ := all_pop bs.length (by have := h.le; omega)
  have h6 := perms_lt _ _ l p2 hl
  have hs := perms_sub _ _ l p2 hl
  have := hitN_other bs.length (otherRow bs.length) bs l hlen (fun r hr c hc => by
    have h1 := other_bit bs.length (by have := h.le; omega) r (h.lt r hr) c (h6 c hc)
    have h2 := hs c hc
    rw [all_bit bs.length (by have := h.le; omega) c (by have := h6 c hc; omega)] at h2
    simp only [decide_eq_true_eq] at h2
    simpa [h.row r hr, h2] using h1)
  have e : other bs = bs.map (otherRow bs.length) := rfl
  rw [e]
  omega

theorem fac_le : ∀ n : Nat, n < 7 → 0 < fac n ∧ fac n ≤ 720 := by decide +kernel
theorem choose_fac : ∀ m : Nat, m < 7 → ∀ k : Nat, k < 7 → (decide (m < k) || decide (fac m / fac k / fac (m - k) = choose m k)) = true := by decide +kernel
theorem choose_le : ∀ m : Nat, m < 7 → ∀ k : Nat, k < 7 → choose m k ≤ 20 := by decide +kernel

set_option maxRecDepth 20000 in
set_option maxHeartbeats 1000000 in
theorem factorial_any (n : Nat) (hn : n ≤ 6) (w : World) :
    Calls Tryd.prog 29 #[.int .i64 (n : Nat)] w fun e w' => e = .returned (.int .i64 (fac n : Nat)) ∧ w = w' := by
  go_enter Tryd.func29, Tryd.ntmps29
  go_wp2
  go_loopw [3, 6] (fun x ix wr => ∃ k : Nat, k ≤ n ∧ ix = .int .i64 k ∧ x = .int .i64 (fac k : Nat) ∧ wr = w) (fun _ i _ => n - (intOf i).toNat)
  case atStart => exact ⟨0, Nat.zero_le _, rfl, rfl, rfl⟩
  case round =>
    obtain ⟨k, hk, rfl, rfl, rfl⟩ := hrel
    by_cases hlt : k < n
    · obtain ⟨h0, h1⟩ := fac_le (k + 1) (by omega)
      have hf : fac (k + 1) = (k + 1) * fac k := rfl
      obtain ⟨x, hx⟩ : ∃ x, fac k = x := ⟨_, rfl⟩
      rw [hx] at hf ⊢
      have hw1 : IntKind.i64.wrap ((k : Int) + 1) = (k : Int) + 1 := IntWalk.i64_in _ (by omega)
      have hm : (x : Int) * ((k : Int) + 1) = ((fac (k + 1) : Nat) : Int) := by rw [hf]; push_cast; rw [Int.mul_comm]
      obtain ⟨z, hz⟩ : ∃ z, fac (k + 1) = z := ⟨_, rfl⟩
      rw [hz] at hm h1
      have hw2 : IntKind.i64.wrap (z : Int) = (z : Int) := IntWalk.i64_in _ (by omega)
      have HZ := Lib.hid hz
      clear hf hx hz h0
      go_wp2
      go_roundw
      case rel => exact ⟨k + 1, by omega, by go_num, by rw [HZ.out], trivial⟩
      case measure => simp [intOf]; omega
    · obtain rfl : k = n := by omega
      go_wp2
      go_ret
      exact ⟨rfl, rfl⟩

theorem factorial_q (n : Nat) (hn : n ≤ 6) (w : World) :
    Calls Tryd.prog 29 #[.int .i64 (n : Nat)] w fun e w' => e = .returned (.int .i64 (fac n : Nat)) ∧ w' = w := (factorial_any n hn w).mono fun _ _ h => ⟨h.1, h.2.symm⟩

set_option maxRecDepth 20000 in
set_option maxHeartbeats 1000000 in
theorem choose_any (m k : Nat) (hm : m ≤ 6) (hk : k ≤ 6) (w : World) :
    Calls Tryd.prog 28 #[.int .i64 (m : Nat), .int .i64 (k : Nat)] w fun e w' => e = .returned (.int .i64 (choose m k : Nat)) ∧ ∃ q, w' = w.drewN q := by
  by_cases hlt : m < k
  · have hc := Lib.hid (choose_gt m k hlt)
    have h1 : (m : Int) < (k : Int) := by omega
    go_enter Tryd.func28, Tryd.ntmps28
    go_wp2
    go_ret
    exact ⟨by rw [hc.out]; rfl, 0, by simp [World.drewN]⟩
  · have hc := choose_fac m (by omega) k (by omega)
    rw [show decide (m < k) = false by simp; omega] at hc
    simp only [Bool.false_or, decide_eq_true_eq] at hc
    have hC := Lib.hid hc
    obtain ⟨hk0, hk1⟩ := fac_le k (by omega)
    obtain ⟨hd0, hd1⟩ := fac_le (m - k) (by omega)
    obtain ⟨hm0, hm1⟩ := fac_le m (by omega)
    have h1 : ¬ (m : Int) < (k : Int) := by omega
    have hsub : IntKind.i64.wrap ((m : Int) - (k : Int)) = ((m - k : Nat) : Int) := by rw [IntWalk.i64_in _ (by omega)]; omega
    obtain ⟨D, hD⟩ : ∃ D, m - k = D := ⟨_, rfl⟩
    rw [hD] at hsub hC hd0 hd1
    have hD6 : D ≤ 6 := by omega
    have hq1 : Int.tdiv ((fac m : Nat) : Int) ((fac k : Nat) : Int) = ((fac m / fac k : Nat) : Int) := (Int.ofNat_tdiv _ _).symm
    have hql : fac m / fac k ≤ fac m := Nat.div_le_self _ _
    obtain ⟨G, hG⟩ : ∃ G, fac m / fac k = G := ⟨_, rfl⟩
    rw [hG] at hq1 hql hC
    have hq2 : Int.tdiv (G : Int) ((fac D : Nat) : Int) = ((G / fac D : Nat) : Int) := (Int.ofNat_tdiv _ _).symm
    have hql2 : G / fac D ≤ G := Nat.div_le_self _ _
    obtain ⟨R, hR⟩ : ∃ R, G / fac D = R := ⟨_, rfl⟩
    rw [hR] at hq2 hql2 hC
    have hwG : IntKind.i64.wrap (G : Int) = (G : Int) := IntWalk.i64_in _ (by omega)
    have hwR : IntKind.i64.wrap (R : Int) = (R : Int) := IntWalk.i64_in _ (by omega)
    have hB0 : ¬ ((fac k : Nat) : Int) = 0 := by omega
    have hE0 : ¬ ((fac D : Nat) : Int) = 0 := by omega
    have hB0' : ¬ fac k = 0 := by omega
    have hE0' : ¬ fac D = 0 := by omega
    clear hR hG hD hc
    go_enter Tryd.func28, Tryd.ntmps28
    go_upto_region 3 with (fail)
    go_quiet (first | (go_at_call 29; exact Calls.quiet_of_same (factorial_q _ (by omega) _)))
    go_wp2
    go_ret
    exact ⟨by rw [← hC.out]; rfl, _, rfl⟩
end Go.Proofs.YtlpnicfbgdfbnaaDoor
