/- (rooks.board).all, rooks.Other, corsageref05.Other, rooks.Without. -/
import Derived.Test.YtlpnicfbgdfbnaaDoorBd
import Derived.Test.YtlpnicfbgdfbnaaDoorWo
namespace Go.Proofs.YtlpnicfbgdfbnaaDoor
open Go.RowKit

set_option maxHeartbeats 400000 in
theorem all_any (v : Value) (bs : List Nat) (w : World) (hv : Ints w v (toI bs)) (h6 : bs.length ≤ 6) :
    Calls Tryd.prog 48 #[v] w fun e w' => e = .returned (.int .i64 (2 ^ bs.length - 1)) ∧ w = w' := by
  obtain ⟨a, c, rfl, hlen, hcl, hc⟩ := hv.openN
  clear hc hv
  have hp := pow_in64 bs.length (by omega)
  have hp1 := pow_in164 bs.length (by omega)
  go_enter Tryd.func48, Tryd.ntmps48
  go_wp2
  go_ret
  exact ⟨ret_int hp1, rfl⟩

/-- The squares that are not on the board. -/
def other (bs : List Nat) : List Nat := bs.map fun r => otherRow bs.length r

set_option maxHeartbeats 400000 in
theorem refOther_any (v : Value) (bs : List Nat) (w : World) (hv : Ints w v (toI bs)) (h : IsBoard bs) :
    Calls Tryd.prog 21 #[v] w fun e w' => ∃ v', e = .returned v' ∧ OwnI 3 w.heap.size w' v' (toI (other bs)) ∧ Below w.heap.size w w' := by
  obtain ⟨a, c, rfl, hlen, hcl, hc⟩ := hv.openN
  clear hv
  have hp := pow_in64 bs.length (by have := h.le; omega)
  have hp1 := pow_in164 bs.length (by have := h.le; omega)
  have HB := Lib.hid h; clear h
  go_enter Tryd.func21, Tryd.ntmps21
  go_wp2
  go_loopw [3, 8] (fun o ix wr => ∃ k : Nat, k ≤ bs.length ∧ ix = .int .i64 k ∧ OwnI 3 w.heap.size wr o (toI ((bs.take k).map fun r => otherRow bs.length r)) ∧ Below w.heap.size w wr) (fun _ i _ => bs.length - (intOf i).toNat)
  case atStart => exact ⟨0, Nat.zero_le _, rfl, OwnI.nil _ _ _, Below.refl _ _⟩
  case round =>
    obtain ⟨k, hk, rfl, ho, hb⟩ := hrel
    by_cases hlt : k < bs.length
    · obtain ⟨b, off, rfl, hbl, hcell⟩ := hc (ne_nil_of_lt hlt)
      have hcx := (hb.cell (p := ⟨b, off + k, none⟩) hbl).trans (hcell k hlt)
      clear hcell hc
      have hle := hb.size
      have H := Lib.hid (map_take_succ (fun r => otherRow bs.length r) bs k hlt)
      have hn6 : bs.length ≤ 6 := HB.out.le
      have hw := other_walk bs.length (by have := HB.out.le; omega) bs[k] (HB.out.lt _ (List.getElem_mem _)) (HB.out.row _ (List.getElem_mem _))
      go_wp2_with (at_builtin; refine wpList_app1 rfl _ _ 22 rfl 3 Tryd.underlying22 info3 w.heap.size _ (toI ((bs.take k).map fun r => otherRow bs.length r)) _ rfl (ho.alloc _) ⟨wr.heap.size, 0, none⟩ 1 rfl (cell_new1 _ _ _) (by simp [toI_length]; omega) (by simp; omega) ?_; intro v' w1 ho1 hg1 hb1; clear hg1)
      go_roundw
      case rel => exact ⟨k + 1, by omega, by go_num, by rw [H.out]; exact own_snoc ho1 (by first | rfl | (rw [hp]; rw [hp1]; exact hw) | (rw [hp1]; exact hw)), (hb.alloc hle _).trans hb1⟩
      case measure => simp [intOf]; omega
    · obtain rfl : k = bs.length := by omega
      rw [List.take_length] at ho
      go_wp2
      go_ret
      exact ⟨_, rfl, ho, hb⟩

set_option maxHeartbeats 400000 in
theorem Other_no (v : Value) (xs : List Int) (w : World) (hv : Ints w v xs) (h : boardB xs = false) :
    Calls Tryd.prog 19 #[v] w fun e w' => e = .returned (.tuple #[.slice none 0 0, .int .i64 2]) ∧ Below w.heap.size w w' := by
  have C := valid_any v xs w hv
  rw [h] at C
  clear h hv
  go_enter Tryd.func19, Tryd.ntmps19
  go_wp2_with (go_at_call 46; refine C.mono ?_; rintro e w1 ⟨rfl, hb1⟩)
  go_ret2
  exact ⟨rfl, hb1⟩

set_option maxHeartbeats 400000 in
theorem Other_yes (v : Value) (bs : List Nat) (w : World) (hv : Ints w v (toI bs)) (h : IsBoard bs) :
    Calls Tryd.prog 19 #[v] w fun e w' => ∃ v', e = .returned (.tuple #[v', .int .i64 0]) ∧ OwnI 3 w.heap.size w' v' (toI (other bs)) ∧ Below w.heap.size w w' := by
  have C := valid_any v _ w hv
  rw [boardB_board h] at C
  have hv' := hv
  obtain ⟨a, c, rfl, hlen, hcl, hc⟩ := hv.openN
  clear hv
  have HB := Lib.hid h; clear h
  have HV := Lib.hid hv'; clear hv'
  go_enter Tryd.func19, Tryd.ntmps19
  go_wp2_with (go_at_call 46; refine C.mono ?_; rintro e w1 ⟨rfl, hb1⟩)
  go_loopw [5, 14] (fun o ix wr => ∃ k : Nat, k ≤ bs.length ∧ ix = .int .i64 k ∧ OwnI 3 w.heap.size wr o (toI ((bs.take k).map fun r => otherRow bs.length r)) ∧ Below w.heap.size w wr) (fun _ i _ => bs.length - (intOf i).toNat)
  case atStart => exact ⟨0, Nat.zero_le _, rfl, OwnI.nil _ _ _, hb1⟩
  case round =>
    obtain ⟨k, hk, rfl, ho, hb⟩ := hrel
    have HV2 := Lib.hid (HV.out.below hb)
    by_cases hlt : k < bs.length
    · obtain ⟨b, off, rfl, hbl, hcell⟩ := hc (ne_nil_of_lt hlt)
      have hcx := (hb.cell (p := ⟨b, off + k, none⟩) hbl).trans (hcell k hlt)
      clear hcell hc
      have hle := hb.size
      have H := Lib.hid (map_take_succ (fun r => otherRow bs.length r) bs k hlt)
      have hn6 : bs.length ≤ 6 := HB.out.le
      have hw := other_walk bs.length (by have := HB.out.le; omega) bs[k] (HB.out.lt _ (List.getElem_mem _)) (HB.out.row _ (List.getElem_mem _))
      go_wp2_with (first
        | (go_at_call 48; refine (all_any _ bs _ HV2.out HB.out.le).mono ?_; rintro e w2 ⟨rfl, rfl⟩)
        | (at_builtin; refine wpList_app1 rfl _ _ 22 rfl 3 Tryd.underlying22 info3 w.heap.size _ (toI ((bs.take k).map fun r => otherRow bs.length r)) _ rfl (ho.alloc _) ⟨wr.heap.size, 0, none⟩ 1 rfl (cell_new1 _ _ _) (by simp [toI_length]; omega) (by simp; omega) ?_; intro v' w1 ho1 hg1 hb1; clear hg1))
      go_roundw
      case rel => exact ⟨k + 1, by omega, by go_num, by rw [H.out]; exact own_snoc ho1 (by first | rfl | (rw [hp]; rw [hp1]; exact hw) | (rw [hp1]; exact hw)), (hb.alloc hle _).trans hb1⟩
      case measure => simp [intOf]; omega
    · obtain rfl : k = bs.length := by omega
      rw [List.take_length] at ho
      go_wp2
      go_ret2
      exact ⟨_, rfl, ho, hb⟩
end Go.Proofs.YtlpnicfbgdfbnaaDoor
