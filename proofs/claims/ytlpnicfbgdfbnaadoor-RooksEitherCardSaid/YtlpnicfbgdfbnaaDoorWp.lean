/- rooks.Without. -/
import Derived.Test.YtlpnicfbgdfbnaaDoorBd
import Derived.Test.YtlpnicfbgdfbnaaDoorWo
namespace Go.Proofs.YtlpnicfbgdfbnaaDoor
open Go.RowKit

/-- The arguments of Without that it takes. -/
def WArgs (n : Nat) (i j : Int) : Prop := 2 ≤ n ∧ 0 ≤ i ∧ i < n ∧ 0 ≤ j ∧ j < n

set_option maxHeartbeats 1000000 in
theorem Without_no (v : Value) (xs : List Int) (i j : Int) (w : World) (hv : Ints w v xs) (h : boardB xs = false) :
    Calls Tryd.prog 16 #[v, .int .i64 i, .int .i64 j] w fun e w' => e = .returned (.tuple #[.slice none 0 0, .int .i64 2]) ∧ Below w.heap.size w w' := by
  have C := valid_any v xs w hv
  rw [h] at C
  obtain ⟨a, c, rfl, hlen, hcl, hc⟩ := hv
  clear h hc
  go_enter Tryd.func16, Tryd.ntmps16
  go_wp2_with (go_at_call 46; refine C.mono ?_; rintro e w1 ⟨rfl, hb1⟩)
  go_ret2
  exact ⟨rfl, hb1⟩

set_option maxHeartbeats 1000000 in
theorem Without_bad (v : Value) (bs : List Nat) (i j : Int) (w : World) (hv : Ints w v (toI bs)) (h : IsBoard bs) (hbad : ¬ WArgs bs.length i j) :
    Calls Tryd.prog 16 #[v, .int .i64 i, .int .i64 j] w fun e w' => e = .returned (.tuple #[.slice none 0 0, .int .i64 2]) ∧ Below w.heap.size w w' := by
  have C := valid_any v _ w hv
  rw [boardB_board h] at C
  obtain ⟨a, c, rfl, hlen, hcl, hc⟩ := hv.openN
  clear h hc hv
  have hb : (bs.length < 2 ∨ (2 ≤ bs.length ∧ (i < 0 ∨ j < 0))) ∨ (2 ≤ bs.length ∧ 0 ≤ i ∧ 0 ≤ j ∧ ((bs.length : Int) ≤ i ∨ (bs.length : Int) ≤ j)) := by unfold WArgs at hbad; omega
  have hij : i ≤ j ∨ j < i := by omega
  clear hbad
  rcases hb with (hb | ⟨hb, hb' | hb'⟩) | ⟨hb, h1, h2, hb' | hb'⟩ <;> rcases hij with hij | hij
  all_goals
    go_enter Tryd.func16, Tryd.ntmps16
    go_wp2_with (go_at_call 46; refine C.mono ?_; rintro e w1 ⟨rfl, hb1⟩)
    all_goals (go_ret2; exact ⟨rfl, hb1⟩)

set_option maxHeartbeats 1000000 in
theorem Without_yes (v : Value) (bs : List Nat) (i j : Nat) (w : World) (hv : Ints w v (toI bs)) (h : IsBoard bs) (h2 : 2 ≤ bs.length) (hi : i < bs.length) (hj : j < bs.length) :
    Calls Tryd.prog 16 #[v, .int .i64 i, .int .i64 j] w fun e w' => ∃ v', e = .returned (.tuple #[v', .int .i64 0]) ∧ OwnI 3 w.heap.size w' v' (toI (without bs i j)) ∧ Below w.heap.size w w' := by
  have C := valid_any v _ w hv
  rw [boardB_board h] at C
  obtain ⟨a, c, rfl, hlen, hcl, hc⟩ := hv.openN
  clear hv
  have HB := Lib.hid h; clear h
  have h6 : bs.length ≤ 6 := HB.out.le
  have hij : i < j ∨ (i ≤ j ∧ j ≤ i) ∨ j < i := by omega
  rcases hij with hij | ⟨hij, hji⟩ | hij
  all_goals
    go_enter Tryd.func16, Tryd.ntmps16
    go_wp2_with (go_at_call 46; refine C.mono ?_; rintro e w1 ⟨rfl, hb1⟩)
    go_loopw [9, 36] (fun o ix wr => ∃ k : Nat, k ≤ bs.length ∧ ix = .int .i64 k ∧ OwnI 3 w.heap.size wr o (toI (without (bs.take k) i j)) ∧ Below w.heap.size w wr) (fun _ i _ => bs.length - (intOf i).toNat)
    case atStart => exact ⟨0, Nat.zero_le _, rfl, OwnI.nil _ _ _, hb1⟩
    case round =>
      obtain ⟨k, hk, rfl, ho, hb⟩ := hrel
      by_cases hlt : k < bs.length
      · obtain ⟨b, off, rfl, hbl, hcell⟩ := hc (ne_nil_of_lt hlt)
        have hcx := (hb.cell (p := ⟨b, off + k, none⟩) hbl).trans (hcell k hlt)
        clear hcell hc
        have hx1 : bs[k] < 64 := HB.out.lt _ (List.getElem_mem _)
        have hle := hb.size
        have hp := pow_in j (by omega)
        have hp1 := pow_in1 j (by omega)
        have hpj : IntKind.i64.wrap ((j : Int) + 1) = (j : Int) + 1 := IntWalk.i64_in _ (by omega)
        by_cases hik : i = k
        · have H := Lib.hid (without_skip bs i j k hlt hik)
          have H2 := Lib.hid hik; clear hik
          have hik' : i ≤ k := by have := H2.out; omega
          have hki' : k ≤ i := by have := H2.out; omega
          go_wp2
          go_roundw
          case rel => exact ⟨k + 1, by omega, by go_num, by rw [H.out]; exact ho, hb⟩
          case measure => simp [intOf]; omega
        · have H := Lib.hid (without_snoc bs i j k hlt hik)
          have hsl : (without (bs.take k) i j).length ≤ k := Nat.le_trans (sel_length_le _ _) (by simp; omega)
          go_wp2
          go_region_law (refine step_app1 rfl _ _ 22 rfl 3 Tryd.underlying22 info3 w.heap.size _ (toI (without (bs.take k) i j)) _ rfl (ho.alloc _) ⟨wr.heap.size, 0, none⟩ 1 rfl (cell_new1 _ _ _) (by rw [toI_length]; omega) (by simp; omega) ?_; intro v' w1 ho1 hg1 hb1; clear hg1)
          have HO := Lib.hid ho1; clear ho1
          go_wp2
          go_roundw
          case rel => exact ⟨k + 1, by omega, by go_num, by rw [H.out]; exact own_snoc HO.out (delcol_walk j (by omega) _ hx1), below_app hb hle hb1 rfl⟩
          case measure => simp [intOf]; omega
      · obtain rfl : k = bs.length := by omega
        rw [List.take_length] at ho
        go_wp2
        go_ret2
        exact ⟨_, rfl, ho, hb⟩
end Go.Proofs.YtlpnicfbgdfbnaaDoor
