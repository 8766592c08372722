/- Which slices are boards: the walks of corsageref05.Board and (rooks.board).valid. -/
import Derived.Test.YtlpnicfbgdfbnaaDoorSl
import Derived.Test.YtlpnicfbgdfbnaaDoorBits
import Derived.Test.YtlpnicfbgdfbnaaDoorBp
import Derived.StillTailTactics
import Derived.Deep.RegionHeld3
namespace Go.Proofs.YtlpnicfbgdfbnaaDoor
open Go.RowKit


set_option maxHeartbeats 400000 in
theorem Board_any (v : Value) (xs : List Int) (w : World) (hv : Ints w v xs) :
    Calls Tryd.prog 17 #[v] w fun e w' => e = .returned (.bool (boardB xs)) ∧ w = w' := by
  obtain ⟨a, c, rfl, hlen, hcl, hc⟩ := hv
  by_cases h6 : xs.length ≤ 6
  · have hp := pow_in64 xs.length (by omega)
    go_enter Tryd.func17, Tryd.ntmps17
    go_wp2
    go_loop [7] (fun i => ∃ k : Nat, k ≤ xs.length ∧ i = .int .i64 k ∧ (xs.take k).all (rowB xs.length) = true) (fun i => xs.length - (intOf i).toNat)
    case atStart => exact ⟨0, Nat.zero_le _, rfl, by simp⟩
    case round =>
      obtain ⟨k, hk, rfl, hall⟩ := hrel
      by_cases hlt : k < xs.length
      · obtain ⟨b, off, rfl, hb, hcell⟩ := hc (by intro h; simp [h] at hlt)
        have hcx := hcell k hlt
        clear hcell hc
        have HA := Lib.hid hall; clear hall
        by_cases hrow : 0 ≤ xs[k] ∧ xs[k] < (2 : Int) ^ xs.length
        · obtain ⟨hr0, hr1⟩ := hrow
          go_wp2
          go_round
          case rel => exact ⟨k + 1, by omega, by go_num, all_take_succ hlt HA.out (rowB_yes hr0 hr1)⟩
          case measure => simp [intOf]; omega
        · have hrow' : xs[k] < 0 ∨ (0 ≤ xs[k] ∧ (2 : Int) ^ xs.length ≤ xs[k]) := by omega
          have HB := Lib.hid (boardB_no_row hlt (rowB_no (by omega)))
          clear hrow
          rcases hrow' with h | ⟨h0, h⟩
          · go_wp2
            go_ret
            exact ⟨ret_bool HB.out.symm, rfl⟩
          · go_wp2
            go_ret
            exact ⟨ret_bool HB.out.symm, rfl⟩
      · obtain rfl : k = xs.length := by omega
        rw [List.take_length] at hall
        have HA := Lib.hid hall; clear hall
        by_cases h1 : 1 ≤ xs.length
        · go_wp2
          go_ret
          exact ⟨ret_bool (by rw [boardB_yes h1 h6 HA.out]; simp; omega), rfl⟩
        · go_wp2
          go_ret
          exact ⟨ret_bool (boardB_no_len (by omega)).symm, rfl⟩
  · have HB := Lib.hid (boardB_no_len (xs := xs) (by omega))
    go_enter Tryd.func17, Tryd.ntmps17
    go_wp2
    go_loop [7] (fun i => ∃ k : Nat, k ≤ xs.length ∧ i = .int .i64 k) (fun i => xs.length - (intOf i).toNat)
    case atStart => exact ⟨0, Nat.zero_le _, rfl⟩
    case round =>
      obtain ⟨k, hk, rfl⟩ := hrel
      by_cases hlt : k < xs.length
      · obtain ⟨b, off, rfl, hb, hcell⟩ := hc (by intro h; simp [h] at hlt)
        have hcx := hcell k hlt
        clear hcell hc
        have hp : wrap64 64 = 64 := by decide +kernel
        by_cases hrow : 0 ≤ xs[k] ∧ xs[k] < 64
        · obtain ⟨hr0, hr1⟩ := hrow
          go_wp2
          go_round
          case rel => exact ⟨k + 1, by omega, by go_num⟩
          case measure => simp [intOf]; omega
        · have hrow' : xs[k] < 0 ∨ (0 ≤ xs[k] ∧ 64 ≤ xs[k]) := by omega
          clear hrow
          rcases hrow' with h | ⟨h0, h⟩
          · go_wp2
            go_ret
            exact ⟨ret_bool HB.out.symm, rfl⟩
          · go_wp2
            go_ret
            exact ⟨ret_bool HB.out.symm, rfl⟩
      · obtain rfl : k = xs.length := by omega
        go_wp2
        go_ret
        exact ⟨ret_bool (by rw [HB.out]; simp; omega), rfl⟩

set_option maxHeartbeats 400000 in
theorem validF_any (r : Int) (n B : Nat) (w : World) (hn : n ≤ 6) (hc : w.cell? ⟨B, 0, none⟩ = some (.int .i64 (n : Int))) :
    Calls Tryd.prog 69 #[.int .i64 r, .pointer (some ⟨B, 0, none⟩)] w fun e w' => e = .returned (.bool (!rowB n r)) ∧ w = w' := by
  have hp := pow_in64 n (by omega)
  by_cases hrow : 0 ≤ r ∧ r < (2 : Int) ^ n
  · obtain ⟨h0, h1⟩ := hrow
    have HB := Lib.hid (rowB_yes h0 h1)
    go_enter Tryd.func69, Tryd.ntmps69
    go_wp2
    go_ret
    exact ⟨ret_bool (by rw [HB.out]; simp; omega), rfl⟩
  · have hrow' : r < 0 ∨ (0 ≤ r ∧ (2 : Int) ^ n ≤ r) := by omega
    have HB := Lib.hid (rowB_no (n := n) (r := r) (by omega))
    clear hrow
    rcases hrow' with h | ⟨h0, h⟩
    · go_enter Tryd.func69, Tryd.ntmps69
      go_wp2
      go_ret
      exact ⟨ret_bool (by rw [HB.out]; rfl), rfl⟩
    · go_enter Tryd.func69, Tryd.ntmps69
      go_wp2
      go_ret
      exact ⟨ret_bool (by rw [HB.out]; rfl), rfl⟩

/-- Does no element of the first k fail? -/
theorem all_take_of {xs : List Int} {p : Int → Bool} {k : Nat} (hk : xs.length ≤ k) (h : (xs.take k).all p = true) : xs.all p = true := by
  rwa [List.take_of_length_le hk] at h

set_option maxHeartbeats 400000 in
theorem IndexF_yes (v : Value) (xs : List Int) (B : Nat) (w : World) (hv : Ints w v xs) (hn : xs.length ≤ 6) (hc : w.cell? ⟨B, 0, none⟩ = some (.int .i64 (xs.length : Int))) (hall : xs.all (rowB xs.length) = true) :
    Calls Tryd.prog 83 #[v, .func (.func 69) #[] #[.pointer (some ⟨B, 0, none⟩)]] w fun e w' => e = .returned (.int .i64 (-1)) ∧ w = w' := by
  obtain ⟨a, c, rfl, hlen, hcl, hcs⟩ := hv
  have HA := Lib.hid hall; clear hall
  have HC := Lib.hid hc; clear hc
  go_enter Tryd.func83, Tryd.ntmps83
  go_wp2
  go_loop [8] (fun i => ∃ k : Nat, k ≤ xs.length ∧ i = .int .i64 k) (fun i => xs.length - (intOf i).toNat)
  case atStart => exact ⟨0, Nat.zero_le _, rfl⟩
  case round =>
    obtain ⟨k, hk, rfl⟩ := hrel
    by_cases hlt : k < xs.length
    · obtain ⟨b, off, rfl, hb, hcell⟩ := hcs (by intro h; simp [h] at hlt)
      have hcx := hcell k hlt
      clear hcell hcs
      have hr : (!rowB xs.length xs[k]) = false := by
        have := List.all_eq_true.1 HA.out xs[k] (List.getElem_mem _)
        rw [this]; rfl
      go_wp2_with (go_at_call 69; refine (validF_any _ xs.length B _ hn HC.out).mono ?_; rintro e w' ⟨rfl, rfl⟩)
      go_round
      case rel => exact ⟨k + 1, by omega, by go_num⟩
      case measure => simp [intOf]; omega
    · obtain rfl : k = xs.length := by omega
      go_wp2
      go_ret
      exact ⟨rfl, rfl⟩

def NonNeg (e : Ending) : Prop := ∃ n : Nat, e = .returned (.int .i64 (n : Int))

set_option maxHeartbeats 400000 in
theorem IndexF_no (v : Value) (xs : List Int) (B : Nat) (w : World) (hv : Ints w v xs) (hn : xs.length ≤ 6) (hc : w.cell? ⟨B, 0, none⟩ = some (.int .i64 (xs.length : Int))) (hall : xs.all (rowB xs.length) = false) :
    Calls Tryd.prog 83 #[v, .func (.func 69) #[] #[.pointer (some ⟨B, 0, none⟩)]] w fun e w' => NonNeg e ∧ w = w' := by
  obtain ⟨a, c, rfl, hlen, hcl, hcs⟩ := hv
  have HA := Lib.hid hall; clear hall
  have HC := Lib.hid hc; clear hc
  go_enter Tryd.func83, Tryd.ntmps83
  go_wp2
  go_loop [8] (fun i => ∃ k : Nat, k ≤ xs.length ∧ i = .int .i64 k ∧ (xs.take k).all (rowB xs.length) = true) (fun i => xs.length - (intOf i).toNat)
  case atStart => exact ⟨0, Nat.zero_le _, rfl, by simp⟩
  case round =>
    obtain ⟨k, hk, rfl, htk⟩ := hrel
    have HT := Lib.hid htk; clear htk
    by_cases hlt : k < xs.length
    · obtain ⟨b, off, rfl, hb, hcell⟩ := hcs (by intro h; simp [h] at hlt)
      have hcx := hcell k hlt
      clear hcell hcs
      cases hrk : rowB xs.length xs[k] with
      | true =>
        have hr : (!rowB xs.length xs[k]) = false := by rw [hrk]; rfl
        have HR := Lib.hid hrk; clear hrk
        go_wp2_with (go_at_call 69; refine (validF_any _ xs.length B _ hn HC.out).mono ?_; rintro e w' ⟨rfl, rfl⟩)
        go_round
        case rel => exact ⟨k + 1, by omega, by go_num, all_take_succ hlt HT.out HR.out⟩
        case measure => simp [intOf]; omega
      | false =>
        have hr : (!rowB xs.length xs[k]) = true := by rw [hrk]; rfl
        clear hrk
        go_wp2_with (go_at_call 69; refine (validF_any _ xs.length B _ hn HC.out).mono ?_; rintro e w' ⟨rfl, rfl⟩)
        go_ret
        exact ⟨⟨k, rfl⟩, rfl⟩
    · exfalso
      have := all_take_of (by omega) HT.out
      rw [HA.out] at this
      cases this

set_option maxHeartbeats 400000 in
theorem Contains_any (v : Value) (xs : List Int) (B : Nat) (w : World) (hv : Ints w v xs) (hn : xs.length ≤ 6) (hc : w.cell? ⟨B, 0, none⟩ = some (.int .i64 (xs.length : Int))) :
    Calls Tryd.prog 68 #[v, .func (.func 69) #[] #[.pointer (some ⟨B, 0, none⟩)]] w fun e w' => e = .returned (.bool (!xs.all (rowB xs.length))) ∧ w = w' := by
  cases hall : xs.all (rowB xs.length) with
  | true =>
    have C := IndexF_yes v xs B w hv hn hc hall
    clear hall hv hn hc
    go_enter Tryd.func68, Tryd.ntmps68
    go_wp2_with (go_at_call 83; refine C.mono ?_; rintro e w' ⟨rfl, rfl⟩)
    go_ret
    exact ⟨rfl, rfl⟩
  | false =>
    have C := IndexF_no v xs B w hv hn hc hall
    clear hall hv hn hc
    go_enter Tryd.func68, Tryd.ntmps68
    go_wp2_with (go_at_call 83; refine C.mono ?_; rintro e w' ⟨⟨n, rfl⟩, rfl⟩)
    go_ret
    exact ⟨ret_bool (by simp), rfl⟩

set_option maxHeartbeats 400000 in
theorem valid_any (v : Value) (xs : List Int) (w : World) (hv : Ints w v xs) :
    Calls Tryd.prog 46 #[v] w fun e w' => e = .returned (.bool (boardB xs)) ∧ Below w.heap.size w w' := by
  have hb1 : Below w.heap.size w (w.alloc (.cells #[.int .i64 (xs.length : Int)] 3)) := (Below.refl _ _).alloc (Nat.le_refl _) _
  have hv1 := hv.below hb1
  obtain ⟨a, c, rfl, hlen, hcl, hcs⟩ := hv
  clear hcs
  by_cases h1 : 1 ≤ xs.length
  · by_cases h6 : xs.length ≤ 6
    · have C := Contains_any _ xs w.heap.size _ hv1 h6 (by simp)
      have HB : Hid (boardB xs = xs.all (rowB xs.length)) := Lib.hid (by unfold boardB; simp [h1, h6])
      clear hv1
      go_enter Tryd.func46, Tryd.ntmps46
      go_wp2_with (go_at_call 68; refine C.mono ?_; rintro e w' ⟨rfl, rfl⟩)
      go_ret
      exact ⟨ret_bool (by rw [HB.out]), hb1⟩
    · have HB := Lib.hid (boardB_no_len (xs := xs) (by omega))
      clear hv1
      go_enter Tryd.func46, Tryd.ntmps46
      go_wp2
      go_ret
      exact ⟨ret_bool HB.out.symm, hb1⟩
  · have HB := Lib.hid (boardB_no_len (xs := xs) (by omega))
    clear hv1
    go_enter Tryd.func46, Tryd.ntmps46
    go_wp2
    go_ret
    exact ⟨ret_bool HB.out.symm, hb1⟩
end Go.Proofs.YtlpnicfbgdfbnaaDoor
