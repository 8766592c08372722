/- slices.Equal at []int. -/
import Derived.Test.YtmlhecfhhhebnaaSl
import Derived.Test.YtmlhecfhhhebnaaPl
namespace Go.Proofs.Ytmlhecfhhhebnaa
open Go.RowKit

theorem ne_of_len {xs ys : List Int} (h : xs.length ≠ ys.length) : decide (xs = ys) = false := by
  rw [decide_eq_false_iff_not]; intro e; exact h (by rw [e])
theorem ne_of_at {xs ys : List Int} {k : Nat} (h1 : k < xs.length) (h2 : k < ys.length) (h : ¬ xs[k] = ys[k]) : decide (xs = ys) = false := by
  rw [decide_eq_false_iff_not]; intro e; subst e; exact h rfl
theorem eq_step {xs ys : List Int} {k : Nat} (h1 : k < xs.length) (h2 : k < ys.length) (h : xs[k] = ys[k]) (ht : xs.take k = ys.take k) : xs.take (k + 1) = ys.take (k + 1) := by
  rw [take_succ' xs k h1, take_succ' ys k h2, h, ht]
theorem eq_end {xs ys : List Int} {k : Nat} (h1 : xs.length ≤ k) (h2 : ys.length ≤ k) (ht : xs.take k = ys.take k) : decide (xs = ys) = true := by
  rw [List.take_of_length_le h1, List.take_of_length_le h2] at ht; simp [ht]


set_option maxHeartbeats 400000 in
theorem Equal_any (v1 v2 : Value) (xs ys : List Int) (w : World) (h1 : Ints w v1 xs) (h2 : Ints w v2 ys) :
    Calls Try.prog 23 #[v1, v2] w fun e w' => e = .returned (.bool (decide (xs = ys))) ∧ Below w.heap.size w w' := by
  obtain ⟨a, c, rfl, hl1, _, hc1⟩ := h1
  obtain ⟨a', c', rfl, hl2, _, hc2⟩ := h2
  by_cases hl : xs.length = ys.length
  · have HL := Lib.hid hl; clear hl
    have hle : xs.length ≤ ys.length := by have := HL.out; omega
    have hge : ys.length ≤ xs.length := by have := HL.out; omega
    go_enter Try.func23, Try.ntmps23
    go_wp2
    go_loopw [13] (fun i wr => ∃ k : Nat, k ≤ xs.length ∧ i = .int .i64 k ∧ xs.take k = ys.take k ∧ Below w.heap.size w wr) (fun i _ => xs.length - (intOf i).toNat)
    case atStart => exact ⟨0, Nat.zero_le _, rfl, rfl, Below.refl _ _⟩
    case round =>
      obtain ⟨k, hk, rfl, ht, hb⟩ := hrel
      have HT := Lib.hid ht; clear ht
      by_cases hlt : k < xs.length
      · have hlt2 : k < ys.length := by omega
        obtain ⟨b, off, rfl, hbl, hcell⟩ := hc1 (ne_nil_of_lt hlt)
        obtain ⟨b2, off2, rfl, hbl2, hcell2⟩ := hc2 (ne_nil_of_lt hlt2)
        have hcx := (hb.cell (p := ⟨b, off + k, none⟩) hbl).trans (hcell k hlt)
        have hcy := (hb.cell (p := ⟨b2, off2 + k, none⟩) hbl2).trans (hcell2 k hlt2)
        clear hcell hcell2 hc1 hc2
        by_cases hxy : xs[k] = ys[k]
        · have HXY := Lib.hid hxy
          have hne : (xs[k] != ys[k]) = false := by rw [hxy]; simp
          clear hxy
          go_wp2
          go_quiet (fail)
          go_wp2
          go_roundw
          case rel => exact ⟨k + 1, by omega, by go_num, eq_step hlt hlt2 HXY.out HT.out, below_drewN hb _⟩
          case measure => simp [intOf]; omega
        · have HXY := Lib.hid (ne_of_at hlt hlt2 hxy)
          have hne : (xs[k] != ys[k]) = true := by simpa using hxy
          clear hxy
          go_wp2
          go_quiet (fail)
          go_wp2
          go_ret
          exact ⟨ret_bool HXY.out.symm, below_drewN hb _⟩
      · have HE := Lib.hid (eq_end (k := k) (by omega) (by omega) HT.out)
        go_wp2
        go_ret
        exact ⟨ret_bool HE.out.symm, hb⟩
  · have HE := Lib.hid (ne_of_len hl)
    go_enter Try.func23, Try.ntmps23
    go_wp2
    go_ret
    exact ⟨ret_bool HE.out.symm, Below.refl _ _⟩
end Go.Proofs.Ytmlhecfhhhebnaa
