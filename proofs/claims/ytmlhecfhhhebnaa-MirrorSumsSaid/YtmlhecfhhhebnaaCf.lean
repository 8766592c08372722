/- read: its checks. -/
import Derived.Test.YtmlhecfhhhebnaaTab
import Derived.Test.YtmlhecfhhhebnaaLit
namespace Go.Proofs.Ytmlhecfhhhebnaa
open Go.RowKit

def letB (m : Nat) (s : Int) : Bool := decide (0 ≤ s) && decide (s < (m : Int))
theorem letB_yes {m : Nat} {s : Int} (h0 : 0 ≤ s) (h : s < m) : letB m s = true := by unfold letB; simp; omega
theorem letB_no {m : Nat} {s : Int} (h : s < 0 ∨ (m : Int) ≤ s) : letB m s = false := by unfold letB; simp; omega
theorem all_take_succ {xs : List Int} {p : Int → Bool} {k : Nat} (hk : k < xs.length) (h : (xs.take k).all p = true) (hp : p xs[k] = true) : (xs.take (k + 1)).all p = true := by
  rw [take_succ' xs k hk, List.all_append, h]; simp [hp]
set_option maxHeartbeats 400000 in
theorem letF_any (r : Int) (m B : Nat) (w : World) (hc : w.cell? ⟨B, 0, none⟩ = some (.int .i64 (m : Int))) :
    Calls Try.prog 87 #[.int .i64 r, .pointer (some ⟨B, 0, none⟩)] w fun e w' => e = .returned (.bool (!letB m r)) ∧ w = w' := by
  by_cases h0 : r < 0
  · have HB := Lib.hid (letB_no (m := m) (s := r) (.inl h0))
    go_enter Try.func87, Try.ntmps87
    go_wp2
    go_ret
    exact ⟨ret_bool (by rw [HB.out]; rfl), rfl⟩
  · by_cases h1 : r < m
    · have HB := Lib.hid (letB_yes (m := m) (s := r) (by omega) h1)
      have h0' : decide (r < 0) = false := by simpa using h0
      have h1' : decide ((m : Int) ≤ r) = false := by simp; omega
      go_enter Try.func87, Try.ntmps87
      go_wp2
      go_ret
      exact ⟨ret_bool (by rw [HB.out]; first | rfl | simp; omega), rfl⟩
    · have HB := Lib.hid (letB_no (m := m) (s := r) (by omega))
      have h0' : decide (r < 0) = false := by simpa using h0
      have h1' : (m : Int) ≤ r := by omega
      go_enter Try.func87, Try.ntmps87
      go_wp2
      go_ret
      exact ⟨ret_bool (by rw [HB.out]; rfl), rfl⟩

/-- Does no element of the first k fail? -/
theorem all_take_of {xs : List Int} {p : Int → Bool} {k : Nat} (hk : xs.length ≤ k) (h : (xs.take k).all p = true) : xs.all p = true := by
  rwa [List.take_of_length_le hk] at h

set_option maxHeartbeats 400000 in
theorem IndexF_yes (v : Value) (xs : List Int) (m B : Nat) (w : World) (hv : Ints w v xs) (hc : w.cell? ⟨B, 0, none⟩ = some (.int .i64 (m : Int))) (hall : xs.all (letB m) = true) :
    Calls Try.prog 98 #[v, .func (.func 87) #[] #[.pointer (some ⟨B, 0, none⟩)]] w fun e w' => e = .returned (.int .i64 (-1)) ∧ w = w' := by
  obtain ⟨a, c, rfl, hlen, hcl, hcs⟩ := hv
  have HA := Lib.hid hall; clear hall
  have HC := Lib.hid hc; clear hc
  go_enter Try.func98, Try.ntmps98
  go_wp2
  go_loop [8] (fun i => ∃ k : Nat, k ≤ xs.length ∧ i = .int .i64 k) (fun i => xs.length - (intOf i).toNat)
  case atStart => exact ⟨0, Nat.zero_le _, rfl⟩
  case round =>
    obtain ⟨k, hk, rfl⟩ := hrel
    by_cases hlt : k < xs.length
    · obtain ⟨b, off, rfl, hb, hcell⟩ := hcs (by intro h; simp [h] at hlt)
      have hcx := hcell k hlt
      clear hcell hcs
      have hr : (!letB m xs[k]) = false := by
        have := List.all_eq_true.1 HA.out xs[k] (List.getElem_mem _)
        rw [this]; rfl
      go_wp2_with (go_at_call 87; refine (letF_any _ m B _ HC.out).mono ?_; rintro e w' ⟨rfl, rfl⟩)
      go_round
      case rel => exact ⟨k + 1, by omega, by go_num⟩
      case measure => simp [intOf]; omega
    · obtain rfl : k = xs.length := by omega
      go_wp2
      go_ret
      exact ⟨rfl, rfl⟩

def NonNeg (e : Ending) : Prop := ∃ n : Nat, e = .returned (.int .i64 (n : Int))

set_option maxHeartbeats 400000 in
theorem IndexF_no (v : Value) (xs : List Int) (m B : Nat) (w : World) (hv : Ints w v xs) (hc : w.cell? ⟨B, 0, none⟩ = some (.int .i64 (m : Int))) (hall : xs.all (letB m) = false) :
    Calls Try.prog 98 #[v, .func (.func 87) #[] #[.pointer (some ⟨B, 0, none⟩)]] w fun e w' => NonNeg e ∧ w = w' := by
  obtain ⟨a, c, rfl, hlen, hcl, hcs⟩ := hv
  have HA := Lib.hid hall; clear hall
  have HC := Lib.hid hc; clear hc
  go_enter Try.func98, Try.ntmps98
  go_wp2
  go_loop [8] (fun i => ∃ k : Nat, k ≤ xs.length ∧ i = .int .i64 k ∧ (xs.take k).all (letB m) = true) (fun i => xs.length - (intOf i).toNat)
  case atStart => exact ⟨0, Nat.zero_le _, rfl, by simp⟩
  case round =>
    obtain ⟨k, hk, rfl, htk⟩ := hrel
    have HT := Lib.hid htk; clear htk
    by_cases hlt : k < xs.length
    · obtain ⟨b, off, rfl, hb, hcell⟩ := hcs (by intro h; simp [h] at hlt)
      have hcx := hcell k hlt
      clear hcell hcs
      cases hrk : letB m xs[k] with
      | true =>
        have hr : (!letB m xs[k]) = false := by rw [hrk]; rfl
        have HR := Lib.hid hrk; clear hrk
        go_wp2_with (go_at_call 87; refine (letF_any _ m B _ HC.out).mono ?_; rintro e w' ⟨rfl, rfl⟩)
        go_round
        case rel => exact ⟨k + 1, by omega, by go_num, all_take_succ hlt HT.out HR.out⟩
        case measure => simp [intOf]; omega
      | false =>
        have hr : (!letB m xs[k]) = true := by rw [hrk]; rfl
        clear hrk
        go_wp2_with (go_at_call 87; refine (letF_any _ m B _ HC.out).mono ?_; rintro e w' ⟨rfl, rfl⟩)
        go_ret
        exact ⟨⟨k, rfl⟩, rfl⟩
    · exfalso
      have := all_take_of (by omega) HT.out
      rw [HA.out] at this
      cases this

set_option maxHeartbeats 400000 in
theorem Contains_any (v : Value) (xs : List Int) (m B : Nat) (w : World) (hv : Ints w v xs) (hc : w.cell? ⟨B, 0, none⟩ = some (.int .i64 (m : Int))) :
    Calls Try.prog 86 #[v, .func (.func 87) #[] #[.pointer (some ⟨B, 0, none⟩)]] w fun e w' => e = .returned (.bool (!xs.all (letB m))) ∧ w = w' := by
  cases hall : xs.all (letB m) with
  | true =>
    have C := IndexF_yes v xs m B w hv hc hall
    clear hall hv hc
    go_enter Try.func86, Try.ntmps86
    go_wp2_with (go_at_call 98; refine C.mono ?_; rintro e w' ⟨rfl, rfl⟩)
    go_ret
    exact ⟨rfl, rfl⟩
  | false =>
    have C := IndexF_no v xs m B w hv hc hall
    clear hall hv hc
    go_enter Try.func86, Try.ntmps86
    go_wp2_with (go_at_call 98; refine C.mono ?_; rintro e w' ⟨⟨n, rfl⟩, rfl⟩)
    go_ret
    exact ⟨ret_bool (by simp), rfl⟩


end Go.Proofs.Ytmlhecfhhhebnaa
