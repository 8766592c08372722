/- slices.Min, slices.Max; isFunction and the product of functions. -/
import Derived.Test.YtdackakjcnnofaaA13
import Derived.Test.YtdackakjcnnofaaB1
import Derived.BigQuiet
namespace Go.Proofs.Ytdackakjcnnofaa
open Go.RowKit
attribute [local go_sem] Oper.semAt_some

def minL : List Int → Int
  | [] => 0
  | x :: l => l.foldl min x
def maxL : List Int → Int
  | [] => 0
  | x :: l => l.foldl max x
theorem minL_take {l : List Int} {k : Nat} (h0 : 0 < k) (hk : k < l.length) : minL (l.take (k + 1)) = min (minL (l.take k)) l[k] := by
  cases l with
  | nil => simp at hk
  | cons x l =>
    obtain ⟨j, rfl⟩ : ∃ j, k = j + 1 := ⟨k - 1, by omega⟩
    have hj : j < l.length := by simpa using hk
    simp only [List.take_succ_cons, minL, List.getElem_cons_succ]
    rw [List.take_succ_eq_append_getElem hj, List.foldl_append]; rfl
theorem maxL_take {l : List Int} {k : Nat} (h0 : 0 < k) (hk : k < l.length) : maxL (l.take (k + 1)) = max (maxL (l.take k)) l[k] := by
  cases l with
  | nil => simp at hk
  | cons x l =>
    obtain ⟨j, rfl⟩ : ∃ j, k = j + 1 := ⟨k - 1, by omega⟩
    have hj : j < l.length := by simpa using hk
    simp only [List.take_succ_cons, maxL, List.getElem_cons_succ]
    rw [List.take_succ_eq_append_getElem hj, List.foldl_append]; rfl
theorem min_fold (a : Int) : ∀ (l : List Int) (x : Int), a ≤ l.foldl min x ↔ a ≤ x ∧ ∀ y ∈ l, a ≤ y
  | [], x => by simp
  | y :: l, x => by
    rw [List.foldl_cons, min_fold a l]
    simp only [List.mem_cons, forall_eq_or_imp]
    exact ⟨fun h => ⟨by have := h.1; omega, by have := h.1; omega, h.2⟩, fun h => ⟨by have := h.1; have := h.2.1; omega, h.2.2⟩⟩
theorem max_fold (a : Int) : ∀ (l : List Int) (x : Int), l.foldl max x < a ↔ x < a ∧ ∀ y ∈ l, y < a
  | [], x => by simp
  | y :: l, x => by
    rw [List.foldl_cons, max_fold a l]
    simp only [List.mem_cons, forall_eq_or_imp]
    exact ⟨fun h => ⟨by have := h.1; omega, by have := h.1; omega, h.2⟩, fun h => ⟨by have := h.1; have := h.2.1; omega, h.2.2⟩⟩
theorem minL_iff {l : List Int} {a : Int} (h : l ≠ []) : a ≤ minL l ↔ ∀ y ∈ l, a ≤ y := by
  cases l with
  | nil => exact absurd rfl h
  | cons x l => simp only [minL, min_fold, List.mem_cons, forall_eq_or_imp]
theorem maxL_iff {l : List Int} {a : Int} (h : l ≠ []) : maxL l < a ↔ ∀ y ∈ l, y < a := by
  cases l with
  | nil => exact absurd rfl h
  | cons x l => simp only [maxL, max_fold, List.mem_cons, forall_eq_or_imp]
set_option maxHeartbeats 400000 in
theorem Min_any (v : Value) (l : List Int) (w : World) (h : Ints w v l) (h0 : 0 < l.length) (hl : l.length ≤ 1000000) : Calls Try.prog 48 #[v] w fun e w' => e = .returned (.int .i64 (minL l)) ∧ w = w' := by
  obtain ⟨a, c, rfl, -, -, h3⟩ := h
  obtain ⟨b, off, rfl, hb, hc⟩ := h3 (fun e => by rw [e] at h0; simp at h0)
  have HC := Lib.hid hc
  have hc0 := hc 0 h0
  rw [Nat.add_zero] at hc0
  have HT := Lib.hid (fun k (h1 : 0 < k) (h2 : k < l.length) => minL_take h1 h2)
  have H1 := Lib.hid (show minL (l.take 1) = l[0] by cases l with
    | nil => simp at h0
    | cons x l => rfl)
  have HE := Lib.hid (show l.take l.length = l from List.take_length)
  have hn1 : ¬ (l.length : Int) < 1 := by omega
  have hn0 : (0 : Int) < (l.length : Int) := by omega
  obtain ⟨x0, hx0⟩ : ∃ x, l[0] = x := ⟨_, rfl⟩
  rw [hx0] at hc0 H1
  clear hc h3 hx0
  go_enter Try.func48, Try.ntmps48
  go_wp2
  go_loop [3, 4] (fun m i => ∃ k : Nat, 1 ≤ k ∧ k ≤ l.length ∧ i = .int .i64 k ∧ m = .int .i64 (minL (l.take k))) (fun _ i => l.length - (intOf i).toNat)
  case atStart => exact ⟨1, Nat.le_refl _, h0, rfl, by rw [H1.out]⟩
  case round =>
    obtain ⟨k, hk1, hk, rfl, rfl⟩ := hrel
    by_cases hlt : k < l.length
    · have hki : (k : Int) < (l.length : Int) := by omega
      have hck := HC.out k hlt
      have HTK := Lib.hid (HT.out k (by omega) hlt)
      obtain ⟨y, hy⟩ : ∃ y, l[k] = y := ⟨_, rfl⟩
      rw [hy] at hck HTK
      obtain ⟨m, hm⟩ : ∃ m, minL (l.take k) = m := ⟨_, rfl⟩
      rw [hm] at HTK ⊢
      clear hy hm
      go_wp2
      go_round
      case rel => exact ⟨k + 1, by omega, hlt, by go_num, by rw [HTK.out]⟩
      case measure => simp [intOf]; omega
    · obtain rfl : k = l.length := by omega
      have hki : ¬ (l.length : Int) < (l.length : Int) := by omega
      rw [HE.out]
      go_wp2
      go_ret
      exact ⟨rfl, rfl⟩
set_option maxHeartbeats 400000 in
theorem Max_any (v : Value) (l : List Int) (w : World) (h : Ints w v l) (h0 : 0 < l.length) (hl : l.length ≤ 1000000) : Calls Try.prog 49 #[v] w fun e w' => e = .returned (.int .i64 (maxL l)) ∧ w = w' := by
  obtain ⟨a, c, rfl, -, -, h3⟩ := h
  obtain ⟨b, off, rfl, hb, hc⟩ := h3 (fun e => by rw [e] at h0; simp at h0)
  have HC := Lib.hid hc
  have hc0 := hc 0 h0
  rw [Nat.add_zero] at hc0
  have HT := Lib.hid (fun k (h1 : 0 < k) (h2 : k < l.length) => maxL_take h1 h2)
  have H1 := Lib.hid (show maxL (l.take 1) = l[0] by cases l with
    | nil => simp at h0
    | cons x l => rfl)
  have HE := Lib.hid (show l.take l.length = l from List.take_length)
  have hn1 : ¬ (l.length : Int) < 1 := by omega
  have hn0 : (0 : Int) < (l.length : Int) := by omega
  obtain ⟨x0, hx0⟩ : ∃ x, l[0] = x := ⟨_, rfl⟩
  rw [hx0] at hc0 H1
  clear hc h3 hx0
  go_enter Try.func49, Try.ntmps49
  go_wp2
  go_loop [3, 4] (fun m i => ∃ k : Nat, 1 ≤ k ∧ k ≤ l.length ∧ i = .int .i64 k ∧ m = .int .i64 (maxL (l.take k))) (fun _ i => l.length - (intOf i).toNat)
  case atStart => exact ⟨1, Nat.le_refl _, h0, rfl, by rw [H1.out]⟩
  case round =>
    obtain ⟨k, hk1, hk, rfl, rfl⟩ := hrel
    by_cases hlt : k < l.length
    · have hki : (k : Int) < (l.length : Int) := by omega
      have hck := HC.out k hlt
      have HTK := Lib.hid (HT.out k (by omega) hlt)
      obtain ⟨y, hy⟩ : ∃ y, l[k] = y := ⟨_, rfl⟩
      rw [hy] at hck HTK
      obtain ⟨m, hm⟩ : ∃ m, maxL (l.take k) = m := ⟨_, rfl⟩
      rw [hm] at HTK ⊢
      clear hy hm
      go_wp2
      go_round
      case rel => exact ⟨k + 1, by omega, hlt, by go_num, by rw [HTK.out]⟩
      case measure => simp [intOf]; omega
    · obtain rfl : k = l.length := by omega
      have hki : ¬ (l.length : Int) < (l.length : Int) := by omega
      rw [HE.out]
      go_wp2
      go_ret
      exact ⟨rfl, rfl⟩
end Go.Proofs.Ytdackakjcnnofaa
