/- RooksGuests. -/
import Derived.Test.YtlpnicfbgdfbnaaDoorGl
namespace Go.Proofs.YtlpnicfbgdfbnaaDoor
open Go.RowKit Go.Shelf

set_option maxRecDepth 20000 in
set_option maxHeartbeats 2000000 in
theorem GuestsL_no (n : Int) (w : World) (ht : Tab w) (h : n < 2 ∨ 8 < n) : Calls Tryd.prog 6 #[.int .i64 n] w (True1 w) := by
  have C26 := Lib.hid (Guests_no n w h)
  have C18 := Lib.hid (fun w' (hb : Below w.heap.size w w') => awake_any w' (ht.below hb))
  clear ht
  rcases h with h | h
  · go_enter Tryd.func6, Tryd.ntmps6
    go_wp2_with (first
      | (go_at_call 18; refine (C18.out w1 hb1).mono ?_; rintro e w2 ⟨rfl, hb2⟩; replace hb2 := hb1.trans (hb2.mono hb1.size))
      | (go_at_call 26; refine C26.out.mono ?_; rintro e w1 ⟨rfl, hb1⟩))
    go_ret
    exact ⟨rfl, hb2⟩
  · have h2 : ¬ n < 2 := by omega
    go_enter Tryd.func6, Tryd.ntmps6
    go_wp2_with (first
      | (go_at_call 18; refine (C18.out w1 hb1).mono ?_; rintro e w2 ⟨rfl, hb2⟩; replace hb2 := hb1.trans (hb2.mono hb1.size))
      | (go_at_call 26; refine C26.out.mono ?_; rintro e w1 ⟨rfl, hb1⟩))
    go_ret
    exact ⟨rfl, hb2⟩

set_option maxRecDepth 20000 in
set_option maxHeartbeats 2000000 in
theorem GuestsL_big (n : Nat) (w : World) (ht : Tab w) (h6 : 6 < n) (h8 : n ≤ 8) : Calls Tryd.prog 6 #[.int .i64 (n : Nat)] w (True1 w) := by
  have C26 := Lib.hid (Guests_yes n w ht (by omega) h8)
  have C27 := Lib.hid (fun w' => refGuests_any n (by omega) h8 w')
  have C18 := Lib.hid (fun w' (hb : Below w.heap.size w w') => awake_any w' (ht.below hb))
  obtain ⟨z, hz⟩ : ∃ z, gst n n 0 0 = z := ⟨_, rfl⟩
  rw [hz] at C26 C27
  have h2 : ¬ (n : Int) < 2 := by omega
  have h3 : ¬ (8 : Int) < (n : Int) := by omega
  have h4 : (6 : Int) < (n : Int) := by omega
  have hn2' : ¬ n < 2 := by omega
  have hn8' : ¬ 8 < n := by omega
  clear ht hz
  go_enter Tryd.func6, Tryd.ntmps6
  go_wp2_with (first
    | (go_at_call 18; refine (C18.out w1 hb1).mono ?_; rintro e w2 ⟨rfl, hb2⟩; replace hb2 := hb1.trans (hb2.mono hb1.size))
    | (go_at_call 27; refine (C27.out w1).mono ?_; rintro e w3 ⟨rfl, rfl⟩)
    | (go_at_call 26; refine C26.out.mono ?_; rintro e w1 ⟨rfl, hb1⟩))
  go_ret
  exact ⟨rfl, hb2⟩

theorem seats_len (n : Nat) : (seats n).length = n := by simp [seats]
def seatsTo (n k : Nat) : List Nat := (List.range k).map fun i => 2 ^ i ||| 2 ^ ((i + 1) % n)
theorem seatsTo_succ (n k : Nat) : seatsTo n (k + 1) = seatsTo n k ++ [2 ^ k ||| 2 ^ ((k + 1) % n)] := by unfold seatsTo; rw [List.range_succ, List.map_append]; rfl
theorem seatsTo_len (n k : Nat) : (seatsTo n k).length = k := by simp [seatsTo]

set_option maxRecDepth 20000 in
set_option maxHeartbeats 4000000 in
theorem GuestsL_small (n : Nat) (w : World) (ht : Tab w) (h2 : 2 ≤ n) (h6 : n ≤ 6) : Calls Tryd.prog 6 #[.int .i64 (n : Nat)] w (True1 w) := by
  have hsb : IsBoard (seats n) := by
    refine ⟨by rw [seats_len]; omega, by rw [seats_len]; exact h6, ?_⟩
    have := seats_board n (by omega)
    rw [show decide (n < 2) = false by simp; omega] at this
    rw [seats_len]
    intro r hr
    simpa using List.all_eq_true.1 this r hr
  have hval : (hitsL (seats n)).getD 0 0 = gst n n 0 0 := by
    have := seats_hits n (by omega)
    rw [show decide (n < 2) = false by simp; omega] at this
    simpa using this
  have C26 := Lib.hid (Guests_yes n w ht h2 (by omega))
  have C27 := Lib.hid (fun w' => refGuests_any n h2 (by omega) w')
  have C18 := Lib.hid (fun w' (hb : Below w.heap.size w w') => awake_any w' (ht.below hb))
  have C23 := Lib.hid (fun v' w' (hv : Ints w' v' (toI (seats n))) (hb : Below w.heap.size w w') => Hits_yes v' (seats n) w' hv hsb (ht.below hb))
  have HSN := Lib.hid (show seatsTo n n = seats n from rfl)
  have HSL := Lib.hid (seats_len n)
  have hhl := hitsL_length (seats n)
  rw [seats_len] at hhl
  obtain ⟨z, hz⟩ : ∃ z, gst n n 0 0 = z := ⟨_, rfl⟩
  obtain ⟨L, hL⟩ : ∃ L, hitsL (seats n) = L := ⟨_, rfl⟩
  rw [hL] at hval hhl C23
  rw [hz] at C26 C27 hval
  rw [getD_at (by omega)] at hval
  have g2 : ¬ (n : Int) < 2 := by omega
  have g3 : ¬ (8 : Int) < (n : Int) := by omega
  have g4 : ¬ (6 : Int) < (n : Int) := by omega
  have hn2' : ¬ n < 2 := by omega
  have hn8' : ¬ 8 < n := by omega
  have hn6' : ¬ 6 < n := by omega
  have hn0 : ¬ n = 0 := by omega
  have hwn : IntKind.i64.wrap ((n : Int) + 1) = (n : Int) + 1 := IntWalk.i64_in _ (by omega)
  have HV := Lib.hid hval
  clear ht hz hL hsb hval
  go_enter Tryd.func6, Tryd.ntmps6
  go_wp2_with (first
    | (go_at_call 27; refine (C27.out w1).mono ?_; rintro e w3 ⟨rfl, rfl⟩)
    | (go_at_call 26; refine C26.out.mono ?_; rintro e w1 ⟨rfl, hb1⟩))
  go_loopw [5, 40] (fun o ix wr => ∃ k : Nat, k ≤ n ∧ ix = .int .i64 k ∧ OwnI 3 w.heap.size wr o (toI (seatsTo n k)) ∧ Below w.heap.size w wr) (fun _ i _ => n - (intOf i).toNat)
  case atStart => exact ⟨0, Nat.zero_le _, rfl, OwnI.nil _ _ _, hb1⟩
  case round =>
    obtain ⟨k, hk, rfl, ho, hb⟩ := hrel
    by_cases hlt : k < n
    · have hw1 : IntKind.i64.wrap ((k : Int) + 1) = (k : Int) + 1 := IntWalk.i64_in _ (by omega)
      obtain ⟨m, hm⟩ : ∃ m, (k + 1) % n = m := ⟨_, rfl⟩
      have hmn : m < n := by rw [← hm]; exact Nat.mod_lt _ (by omega)
      have htm := tmod_nat k n
      rw [hm] at htm
      have hwm : IntKind.i64.wrap (m : Int) = (m : Int) := IntWalk.i64_in _ (by omega)
      have HS := Lib.hid (seatsTo_succ n k)
      rw [hm] at HS
      have hp1 := pow_in9 k (by omega)
      have hp2 := pow_in9 m (by omega)
      have hk8 : 2 ^ k < 2 ^ 8 := Nat.pow_lt_pow_right (by decide) (by omega)
      have hor := or_w8 (u := 2 ^ k) (j := m) (by omega) (by omega)
      rw [show ((2 ^ k : Nat) : Int) = (2 : Int) ^ k by simp] at hor
      have hle := hb.size
      clear hm hk8
      go_upto_region 12 with (fail)
      go_region_law (refine step_app1 rfl _ _ 22 rfl 3 Tryd.underlying22 info3 w.heap.size _ (toI (seatsTo n k)) _ rfl (ho.alloc _) ⟨wr.heap.size, 0, none⟩ 1 rfl (cell_new1 _ _ _) (by rw [toI_length, seatsTo_len]; omega) (by simp; omega) ?_; intro v' w3 ho1 hg1 hb3; clear hg1)
      go_wp2
      go_roundw
      case rel => exact ⟨k + 1, by omega, by go_num, by rw [HS.out]; exact own_snoc ho1 (by first | rfl | exact hor), below_app hb hle hb3 rfl⟩
      case measure => simp [intOf]; omega
    · obtain rfl : k = n := by omega
      rw [HSN.out] at ho
      obtain ⟨a5, c5, e5⟩ := ho.form
      rw [toI_length, HSL.out] at e5
      subst e5
      have hoi := ho.ints (by rw [toI_length, HSL.out]; omega)
      have hx := Lib.hid hoi
      have HB := Lib.hid hb
      clear ho hoi hb hb1
      go_wp2_with (first
        | (go_at_call 18; refine (C18.out w4 hb4).mono ?_; rintro e w5 ⟨rfl, hb5⟩; replace hb5 := hb4.trans (hb5.mono hb4.size))
        | (go_at_call 23; refine (C23.out _ wr hx.out HB.out).mono ?_; rintro e w4 ⟨v4, rfl, ho4, hb4'⟩; obtain ⟨g4, k4, rfl⟩ := ho4.row (by rw [hhl]); have c4 := ho4.cellN 0 (by omega); rw [HV.out] at c4; have hb4 := HB.out.trans (hb4'.mono HB.out.size); clear hb4'))
      go_ret
      exact ⟨rfl, hb5⟩

theorem rooksGuests_true (n : Int) (w : World) (_ : -9223372036854775808 ≤ n ∧ n ≤ 9223372036854775807) (ht : Tab w) :
    Calls Tryd.prog 6 #[.int .i64 n] w (True1 w) := by
  by_cases h : n < 2 ∨ 8 < n
  · exact GuestsL_no n w ht h
  · obtain ⟨n', rfl⟩ := Int.eq_ofNat_of_zero_le (show 0 ≤ n by omega)
    by_cases h6 : n' ≤ 6
    · exact GuestsL_small n' w ht (by omega) h6
    · exact GuestsL_big n' w ht (by omega) (by omega)
end Go.Proofs.YtlpnicfbgdfbnaaDoor
