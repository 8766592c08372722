/- A3: Wo, Wp, Ot, Less, Cp, Cut, CutY, Rr, Rr2, Ht of the seat's texts, in this order. -/
import Derived.Test.YtlpnicfbgdfbnaaDoorA1
import Derived.StillTailTactics
import Derived.Deep.RegionHeld3
import Derived.Test.YtlpnicfbgdfbnaaDoorA2
import Derived.Deep.OwnRows

/- corsageref05.Without. -/
namespace Go.Proofs.YtlpnicfbgdfbnaaDoor
open Go.RowKit

/-- The rows of the board, row i left out, column j cut out of the others. -/
def without (bs : List Nat) (i j : Nat) : List Nat := sel (fun k r => if k = i then none else some (delcol j r)) bs

theorem without_skip (bs : List Nat) (i j k : Nat) (hk : k < bs.length) (h : i = k) : without (bs.take (k + 1)) i j = without (bs.take k) i j := by
  unfold without; rw [sel_take_succ _ _ _ hk, if_pos h.symm]; simp
theorem without_snoc (bs : List Nat) (i j k : Nat) (hk : k < bs.length) (h : ¬ i = k) : without (bs.take (k + 1)) i j = without (bs.take k) i j ++ [delcol j bs[k]] := by
  unfold without; rw [sel_take_succ _ _ _ hk, if_neg (fun e => h e.symm)]; simp

theorem own_snoc {e : TypeId} {B : Nat} {w : World} {v : Value} {xs : List Nat} {y : Int} {n : Nat} (h : OwnI e B w v (toI xs ++ [y])) (hy : y = n) : OwnI e B w v (toI (xs ++ [n])) := by
  subst hy; rw [toI_append]; exact h

theorem below_app {B n : Nat} {w0 w w1 : World} {o : Obj} (h : Below B w0 w) (hB : B ≤ w.heap.size) (hb : Below B (w.alloc o).drew w1) (_ : n = 0) : Below B w0 w1 :=
  (((h.alloc hB o).drew).trans hb)

set_option maxHeartbeats 400000 in
theorem refWithout_any (v : Value) (bs : List Nat) (i j : Nat) (w : World) (hv : Ints w v (toI bs)) (h6 : bs.length ≤ 6) (hr : ∀ r ∈ bs, r < 64) (hi : i < bs.length) (hj : j < bs.length) :
    Calls Tryd.prog 22 #[v, .int .i64 i, .int .i64 j] w fun e w' => ∃ v', e = .returned v' ∧ OwnI 3 w.heap.size w' v' (toI (without bs i j)) ∧ Below w.heap.size w w' := by
  obtain ⟨a, c, rfl, hlen, hcl, hc⟩ := hv.openN
  clear hv
  go_enter Tryd.func22, Tryd.ntmps22
  go_wp2
  go_loopw [7, 12] (fun o ix wr => ∃ k : Nat, k ≤ bs.length ∧ ix = .int .i64 k ∧ OwnI 3 w.heap.size wr o (toI (without (bs.take k) i j)) ∧ Below w.heap.size w wr) (fun _ i _ => bs.length - (intOf i).toNat)
  case atStart => exact ⟨0, Nat.zero_le _, rfl, OwnI.nil _ _ _, Below.refl _ _⟩
  case round =>
    obtain ⟨k, hk, rfl, ho, hb⟩ := hrel
    by_cases hlt : k < bs.length
    · obtain ⟨b, off, rfl, hbl, hcell⟩ := hc (by intro h; simp [h] at hlt)
      have hcx := (hb.cell (p := ⟨b, off + k, none⟩) hbl).trans (hcell k hlt)
      clear hcell hc
      have hx1 : bs[k] < 64 := hr _ (List.getElem_mem _)
      have hle := hb.size
      have hp := pow_in j (by omega)
      have hp1 := pow_in1 j (by omega)
      have hpj : IntKind.i64.wrap ((j : Int) + 1) = (j : Int) + 1 := IntWalk.i64_in _ (by omega)
      by_cases hik : i = k
      · have H := Lib.hid (without_skip bs i j k hlt hik)
        have H2 := Lib.hid hik; clear hik
        have hik' : i ≤ k := by have := H2.out; omega
        have hki' : k ≤ i := by have := H2.out; omega
        go_wp2
        go_roundw
        case rel => exact ⟨k + 1, by omega, by go_num, by rw [H.out]; exact ho, hb⟩
        case measure => simp [intOf]; omega
      · have H := Lib.hid (without_snoc bs i j k hlt hik)
        have hsl : (without (bs.take k) i j).length ≤ k := Nat.le_trans (sel_length_le _ _) (by simp; omega)
        go_wp2
        go_region_law (refine step_app1 rfl _ _ 22 rfl 3 Tryd.underlying22 info3 w.heap.size _ (toI (without (bs.take k) i j)) _ rfl (ho.alloc _) ⟨wr.heap.size, 0, none⟩ 1 rfl (cell_new1 _ _ _) (by rw [toI_length]; omega) (by simp; omega) ?_; intro v' w1 ho1 hg1 hb1; clear hg1)
        have HO := Lib.hid ho1; clear ho1
        go_wp2
        go_roundw
        case rel => exact ⟨k + 1, by omega, by go_num, by rw [H.out]; exact own_snoc HO.out (delcol_walk j (by omega) _ hx1), below_app hb hle hb1 rfl⟩
        case measure => simp [intOf]; omega
    · obtain rfl : k = bs.length := by omega
      rw [List.take_length] at ho
      go_wp2
      go_ret
      exact ⟨_, rfl, ho, hb⟩
end Go.Proofs.YtlpnicfbgdfbnaaDoor

/- rooks.Without. -/
namespace Go.Proofs.YtlpnicfbgdfbnaaDoor
open Go.RowKit

/-- The arguments of Without that it takes. -/
def WArgs (n : Nat) (i j : Int) : Prop := 2 ≤ n ∧ 0 ≤ i ∧ i < n ∧ 0 ≤ j ∧ j < n

set_option maxHeartbeats 1000000 in
theorem Without_no (v : Value) (xs : List Int) (i j : Int) (w : World) (hv : Ints w v xs) (h : boardB xs = false) :
    Calls Tryd.prog 16 #[v, .int .i64 i, .int .i64 j] w fun e w' => e = .returned (.tuple #[.slice none 0 0, .int .i64 2]) ∧ Below w.heap.size w w' := by
  have C := valid_any v xs w hv
  rw [h] at C
  obtain ⟨a, c, rfl, hlen, hcl, hc⟩ := hv
  clear h hc
  go_enter Tryd.func16, Tryd.ntmps16
  go_wp2_with (go_at_call 46; refine C.mono ?_; rintro e w1 ⟨rfl, hb1⟩)
  go_ret2
  exact ⟨rfl, hb1⟩

set_option maxHeartbeats 1000000 in
theorem Without_bad (v : Value) (bs : List Nat) (i j : Int) (w : World) (hv : Ints w v (toI bs)) (h : IsBoard bs) (hbad : ¬ WArgs bs.length i j) :
    Calls Tryd.prog 16 #[v, .int .i64 i, .int .i64 j] w fun e w' => e = .returned (.tuple #[.slice none 0 0, .int .i64 2]) ∧ Below w.heap.size w w' := by
  have C := valid_any v _ w hv
  rw [boardB_board h] at C
  obtain ⟨a, c, rfl, hlen, hcl, hc⟩ := hv.openN
  clear h hc hv
  have hb : (bs.length < 2 ∨ (2 ≤ bs.length ∧ (i < 0 ∨ j < 0))) ∨ (2 ≤ bs.length ∧ 0 ≤ i ∧ 0 ≤ j ∧ ((bs.length : Int) ≤ i ∨ (bs.length : Int) ≤ j)) := by unfold WArgs at hbad; omega
  have hij : i ≤ j ∨ j < i := by omega
  clear hbad
  rcases hb with (hb | ⟨hb, hb' | hb'⟩) | ⟨hb, h1, h2, hb' | hb'⟩ <;> rcases hij with hij | hij
  all_goals
    go_enter Tryd.func16, Tryd.ntmps16
    go_wp2_with (go_at_call 46; refine C.mono ?_; rintro e w1 ⟨rfl, hb1⟩)
    all_goals (go_ret2; exact ⟨rfl, hb1⟩)

set_option maxHeartbeats 1000000 in
theorem Without_yes (v : Value) (bs : List Nat) (i j : Nat) (w : World) (hv : Ints w v (toI bs)) (h : IsBoard bs) (h2 : 2 ≤ bs.length) (hi : i < bs.length) (hj : j < bs.length) :
    Calls Tryd.prog 16 #[v, .int .i64 i, .int .i64 j] w fun e w' => ∃ v', e = .returned (.tuple #[v', .int .i64 0]) ∧ OwnI 3 w.heap.size w' v' (toI (without bs i j)) ∧ Below w.heap.size w w' := by
  have C := valid_any v _ w hv
  rw [boardB_board h] at C
  obtain ⟨a, c, rfl, hlen, hcl, hc⟩ := hv.openN
  clear hv
  have HB := Lib.hid h; clear h
  have h6 : bs.length ≤ 6 := HB.out.le
  have hij : i < j ∨ (i ≤ j ∧ j ≤ i) ∨ j < i := by omega
  rcases hij with hij | ⟨hij, hji⟩ | hij
  all_goals
    go_enter Tryd.func16, Tryd.ntmps16
    go_wp2_with (go_at_call 46; refine C.mono ?_; rintro e w1 ⟨rfl, hb1⟩)
    go_loopw [9, 36] (fun o ix wr => ∃ k : Nat, k ≤ bs.length ∧ ix = .int .i64 k ∧ OwnI 3 w.heap.size wr o (toI (without (bs.take k) i j)) ∧ Below w.heap.size w wr) (fun _ i _ => bs.length - (intOf i).toNat)
    case atStart => exact ⟨0, Nat.zero_le _, rfl, OwnI.nil _ _ _, hb1⟩
    case round =>
      obtain ⟨k, hk, rfl, ho, hb⟩ := hrel
      by_cases hlt : k < bs.length
      · obtain ⟨b, off, rfl, hbl, hcell⟩ := hc (ne_nil_of_lt hlt)
        have hcx := (hb.cell (p := ⟨b, off + k, none⟩) hbl).trans (hcell k hlt)
        clear hcell hc
        have hx1 : bs[k] < 64 := HB.out.lt _ (List.getElem_mem _)
        have hle := hb.size
        have hp := pow_in j (by omega)
        have hp1 := pow_in1 j (by omega)
        have hpj : IntKind.i64.wrap ((j : Int) + 1) = (j : Int) + 1 := IntWalk.i64_in _ (by omega)
        by_cases hik : i = k
        · have H := Lib.hid (without_skip bs i j k hlt hik)
          have H2 := Lib.hid hik; clear hik
          have hik' : i ≤ k := by have := H2.out; omega
          have hki' : k ≤ i := by have := H2.out; omega
          go_wp2
          go_roundw
          case rel => exact ⟨k + 1, by omega, by go_num, by rw [H.out]; exact ho, hb⟩
          case measure => simp [intOf]; omega
        · have H := Lib.hid (without_snoc bs i j k hlt hik)
          have hsl : (without (bs.take k) i j).length ≤ k := Nat.le_trans (sel_length_le _ _) (by simp; omega)
          go_wp2
          go_region_law (refine step_app1 rfl _ _ 22 rfl 3 Tryd.underlying22 info3 w.heap.size _ (toI (without (bs.take k) i j)) _ rfl (ho.alloc _) ⟨wr.heap.size, 0, none⟩ 1 rfl (cell_new1 _ _ _) (by rw [toI_length]; omega) (by simp; omega) ?_; intro v' w1 ho1 hg1 hb1; clear hg1)
          have HO := Lib.hid ho1; clear ho1
          go_wp2
          go_roundw
          case rel => exact ⟨k + 1, by omega, by go_num, by rw [H.out]; exact own_snoc HO.out (delcol_walk j (by omega) _ hx1), below_app hb hle hb1 rfl⟩
          case measure => simp [intOf]; omega
      · obtain rfl : k = bs.length := by omega
        rw [List.take_length] at ho
        go_wp2
        go_ret2
        exact ⟨_, rfl, ho, hb⟩
end Go.Proofs.YtlpnicfbgdfbnaaDoor

/- (rooks.board).all, rooks.Other, corsageref05.Other, rooks.Without. -/
namespace Go.Proofs.YtlpnicfbgdfbnaaDoor
open Go.RowKit

set_option maxHeartbeats 400000 in
theorem all_any (v : Value) (bs : List Nat) (w : World) (hv : Ints w v (toI bs)) (h6 : bs.length ≤ 6) :
    Calls Tryd.prog 48 #[v] w fun e w' => e = .returned (.int .i64 (2 ^ bs.length - 1)) ∧ w = w' := by
  obtain ⟨a, c, rfl, hlen, hcl, hc⟩ := hv.openN
  clear hc hv
  have hp := pow_in64 bs.length (by omega)
  have hp1 := pow_in164 bs.length (by omega)
  go_enter Tryd.func48, Tryd.ntmps48
  go_wp2
  go_ret
  exact ⟨ret_int hp1, rfl⟩

/-- The squares that are not on the board. -/
def other (bs : List Nat) : List Nat := bs.map fun r => otherRow bs.length r

set_option maxHeartbeats 400000 in
theorem refOther_any (v : Value) (bs : List Nat) (w : World) (hv : Ints w v (toI bs)) (h : IsBoard bs) :
    Calls Tryd.prog 21 #[v] w fun e w' => ∃ v', e = .returned v' ∧ OwnI 3 w.heap.size w' v' (toI (other bs)) ∧ Below w.heap.size w w' := by
  obtain ⟨a, c, rfl, hlen, hcl, hc⟩ := hv.openN
  clear hv
  have hp := pow_in64 bs.length (by have := h.le; omega)
  have hp1 := pow_in164 bs.length (by have := h.le; omega)
  have HB := Lib.hid h; clear h
  go_enter Tryd.func21, Tryd.ntmps21
  go_wp2
  go_loopw [3, 8] (fun o ix wr => ∃ k : Nat, k ≤ bs.length ∧ ix = .int .i64 k ∧ OwnI 3 w.heap.size wr o (toI ((bs.take k).map fun r => otherRow bs.length r)) ∧ Below w.heap.size w wr) (fun _ i _ => bs.length - (intOf i).toNat)
  case atStart => exact ⟨0, Nat.zero_le _, rfl, OwnI.nil _ _ _, Below.refl _ _⟩
  case round =>
    obtain ⟨k, hk, rfl, ho, hb⟩ := hrel
    by_cases hlt : k < bs.length
    · obtain ⟨b, off, rfl, hbl, hcell⟩ := hc (ne_nil_of_lt hlt)
      have hcx := (hb.cell (p := ⟨b, off + k, none⟩) hbl).trans (hcell k hlt)
      clear hcell hc
      have hle := hb.size
      have H := Lib.hid (map_take_succ (fun r => otherRow bs.length r) bs k hlt)
      have hn6 : bs.length ≤ 6 := HB.out.le
      have hw := other_walk bs.length (by have := HB.out.le; omega) bs[k] (HB.out.lt _ (List.getElem_mem _)) (HB.out.row _ (List.getElem_mem _))
      go_wp2_with (at_builtin; refine wpList_app1 rfl _ _ 22 rfl 3 Tryd.underlying22 info3 w.heap.size _ (toI ((bs.take k).map fun r => otherRow bs.length r)) _ rfl (ho.alloc _) ⟨wr.heap.size, 0, none⟩ 1 rfl (cell_new1 _ _ _) (by simp [toI_length]; omega) (by simp; omega) ?_; intro v' w1 ho1 hg1 hb1; clear hg1)
      go_roundw
      case rel => exact ⟨k + 1, by omega, by go_num, by rw [H.out]; exact own_snoc ho1 (by first | rfl | (rw [hp]; rw [hp1]; exact hw) | (rw [hp1]; exact hw)), (hb.alloc hle _).trans hb1⟩
      case measure => simp [intOf]; omega
    · obtain rfl : k = bs.length := by omega
      rw [List.take_length] at ho
      go_wp2
      go_ret
      exact ⟨_, rfl, ho, hb⟩

set_option maxHeartbeats 400000 in
theorem Other_no (v : Value) (xs : List Int) (w : World) (hv : Ints w v xs) (h : boardB xs = false) :
    Calls Tryd.prog 19 #[v] w fun e w' => e = .returned (.tuple #[.slice none 0 0, .int .i64 2]) ∧ Below w.heap.size w w' := by
  have C := valid_any v xs w hv
  rw [h] at C
  clear h hv
  go_enter Tryd.func19, Tryd.ntmps19
  go_wp2_with (go_at_call 46; refine C.mono ?_; rintro e w1 ⟨rfl, hb1⟩)
  go_ret2
  exact ⟨rfl, hb1⟩

set_option maxHeartbeats 400000 in
theorem Other_yes (v : Value) (bs : List Nat) (w : World) (hv : Ints w v (toI bs)) (h : IsBoard bs) :
    Calls Tryd.prog 19 #[v] w fun e w' => ∃ v', e = .returned (.tuple #[v', .int .i64 0]) ∧ OwnI 3 w.heap.size w' v' (toI (other bs)) ∧ Below w.heap.size w w' := by
  have C := valid_any v _ w hv
  rw [boardB_board h] at C
  have hv' := hv
  obtain ⟨a, c, rfl, hlen, hcl, hc⟩ := hv.openN
  clear hv
  have HB := Lib.hid h; clear h
  have HV := Lib.hid hv'; clear hv'
  go_enter Tryd.func19, Tryd.ntmps19
  go_wp2_with (go_at_call 46; refine C.mono ?_; rintro e w1 ⟨rfl, hb1⟩)
  go_loopw [5, 14] (fun o ix wr => ∃ k : Nat, k ≤ bs.length ∧ ix = .int .i64 k ∧ OwnI 3 w.heap.size wr o (toI ((bs.take k).map fun r => otherRow bs.length r)) ∧ Below w.heap.size w wr) (fun _ i _ => bs.length - (intOf i).toNat)
  case atStart => exact ⟨0, Nat.zero_le _, rfl, OwnI.nil _ _ _, hb1⟩
  case round =>
    obtain ⟨k, hk, rfl, ho, hb⟩ := hrel
    have HV2 := Lib.hid (HV.out.below hb)
    by_cases hlt : k < bs.length
    · obtain ⟨b, off, rfl, hbl, hcell⟩ := hc (ne_nil_of_lt hlt)
      have hcx := (hb.cell (p := ⟨b, off + k, none⟩) hbl).trans (hcell k hlt)
      clear hcell hc
      have hle := hb.size
      have H := Lib.hid (map_take_succ (fun r => otherRow bs.length r) bs k hlt)
      have hn6 : bs.length ≤ 6 := HB.out.le
      have hw := other_walk bs.length (by have := HB.out.le; omega) bs[k] (HB.out.lt _ (List.getElem_mem _)) (HB.out.row _ (List.getElem_mem _))
      go_wp2_with (first
        | (go_at_call 48; refine (all_any _ bs _ HV2.out HB.out.le).mono ?_; rintro e w2 ⟨rfl, rfl⟩)
        | (at_builtin; refine wpList_app1 rfl _ _ 22 rfl 3 Tryd.underlying22 info3 w.heap.size _ (toI ((bs.take k).map fun r => otherRow bs.length r)) _ rfl (ho.alloc _) ⟨wr.heap.size, 0, none⟩ 1 rfl (cell_new1 _ _ _) (by simp [toI_length]; omega) (by simp; omega) ?_; intro v' w1 ho1 hg1 hb1; clear hg1))
      go_roundw
      case rel => exact ⟨k + 1, by omega, by go_num, by rw [H.out]; exact own_snoc ho1 (by first | rfl | (rw [hp]; rw [hp1]; exact hw) | (rw [hp1]; exact hw)), (hb.alloc hle _).trans hb1⟩
      case measure => simp [intOf]; omega
    · obtain rfl : k = bs.length := by omega
      rw [List.take_length] at ho
      go_wp2
      go_ret2
      exact ⟨_, rfl, ho, hb⟩
end Go.Proofs.YtlpnicfbgdfbnaaDoor

/- RooksLess. -/
namespace Go.Proofs.YtlpnicfbgdfbnaaDoor
open Go.RowKit

theorem boardB_take {xs : List Int} : boardB (xs.take 9) = boardB xs := by
  by_cases h : xs.length ≤ 9
  · rw [List.take_of_length_le h]
  · rw [boardB_no_len (.inr (by simp; omega)), boardB_no_len (.inr (by omega))]
theorem take_board {bs : List Nat} (h : IsBoard bs) : (toI bs).take 9 = toI bs := List.take_of_length_le (by rw [toI_length]; have := h.le; omega)

def True1 (w : World) (e : Ending) (w' : World) : Prop := e = .returned (.bool true) ∧ Below w.heap.size w w'

set_option maxHeartbeats 2000000 in
theorem Less_no (v : Value) (xs : List Int) (i j : Int) (w : World) (hv : Ints w v xs) (ht : Tab w) (h : boardB xs = false) :
    Calls Tryd.prog 4 #[v, .int .i64 i, .int .i64 j] w (True1 w) := by
  have C15 := Lib.hid (fun w' (hb : Below w.heap.size w w') => list_any v xs w' (hv.below hb))
  have C16 := Lib.hid (fun v' w' (hb : Ints w' v' (xs.take 9)) => Without_no v' (xs.take 9) i j w' hb (by rw [boardB_take]; exact h))
  have C19 := Lib.hid (fun v' w' (hb : Ints w' v' (xs.take 9)) => Other_no v' (xs.take 9) w' hb (by rw [boardB_take]; exact h))
  have C17 := Lib.hid (fun w' (hb : Below w.heap.size w w') => by have := Board_any v xs w' (hv.below hb); rw [h] at this; exact this)
  have C18 := Lib.hid (fun w' (hb : Below w.heap.size w w') => awake_any w' (ht.below hb))
  have hl9 : (xs.take 9).length ≤ 17592186044416 := by simp; omega
  have hb0 := Below.refl w.heap.size w
  clear hv ht h
  go_enter Tryd.func4, Tryd.ntmps4
  go_wp2_with (first
      | (go_at_call 18; refine (C18.out w4 hb4).mono ?_; rintro e w6 ⟨rfl, hb6⟩; replace hb6 := hb4.trans (hb6.mono hb4.size))
      | (go_at_call 17; refine (C17.out w4 hb4).mono ?_; rintro e w5 ⟨rfl, rfl⟩)
      | (go_at_call 19; refine (C19.out v3 w3 (ho3.ints hl9)).mono ?_; rintro e w4 ⟨rfl, hb4⟩; replace hb4 := hb3.trans (hb4.mono hb3.size))
      | (go_at_call 15; refine (C15.out w2 hb2).mono ?_; rintro e w3 ⟨v3, rfl, ho3, hb3⟩; replace hb3 := hb2.trans (hb3.mono hb2.size))
      | (go_at_call 16; refine (C16.out v1 w1 (ho1.ints hl9)).mono ?_; rintro e w2 ⟨rfl, hb2⟩; replace hb2 := hb1.trans (hb2.mono hb1.size))
      | (go_at_call 15; refine (C15.out w hb0).mono ?_; rintro e w1 ⟨v1, rfl, ho1, hb1⟩))
  go_ret
  exact ⟨rfl, hb6⟩

set_option maxHeartbeats 2000000 in
theorem Less_bad (v : Value) (bs : List Nat) (i j : Int) (w : World) (hv : Ints w v (toI bs)) (ht : Tab w) (h : IsBoard bs) (hbad : ¬ WArgs bs.length i j) :
    Calls Tryd.prog 4 #[v, .int .i64 i, .int .i64 j] w (True1 w) := by
  have C15 := Lib.hid (fun w' (hb : Below w.heap.size w w') => by have := list_any v _ w' (hv.below hb); rw [take_board h] at this; exact this)
  have C16 := Lib.hid (fun v' w' (hb : Ints w' v' (toI bs)) => Without_bad v' bs i j w' hb h hbad)
  have C19 := Lib.hid (fun v' w' (hb : Ints w' v' (toI bs)) => Other_yes v' bs w' hb h)
  have C17 := Lib.hid (fun w' (hb : Below w.heap.size w w') => by have := Board_any v _ w' (hv.below hb); rw [boardB_board h] at this; exact this)
  have C18 := Lib.hid (fun w' (hb : Below w.heap.size w w') => awake_any w' (ht.below hb))
  have C21 := Lib.hid (fun w' (hb : Below w.heap.size w w') => refOther_any v bs w' (hv.below hb) h)
  have C20 := Lib.hid (fun v1 v2 w' (h1 : Ints w' v1 (toI (other bs))) (h2 : Ints w' v2 (toI (other bs))) => by have := Equal_any v1 v2 _ _ w' h1 h2; rw [show decide (toI (other bs) = toI (other bs)) = true by simp] at this; exact this)
  have hl9 : (toI bs).length ≤ 17592186044416 := hv.len
  have hlo : (toI (other bs)).length ≤ 17592186044416 := by have := hv.len; unfold other; simp [toI] at this ⊢; omega
  obtain ⟨a, c, rfl, hlen, hcl, hc⟩ := hv.openN
  have hb0 := Below.refl w.heap.size w
  have hbad' : (bs.length < 2 ∨ (2 ≤ bs.length ∧ i < 0)) ∨ (2 ≤ bs.length ∧ 0 ≤ i ∧ (bs.length : Int) ≤ i) ∨ (2 ≤ bs.length ∧ 0 ≤ i ∧ i < bs.length ∧ (j < 0 ∨ (0 ≤ j ∧ (bs.length : Int) ≤ j))) := by unfold WArgs at hbad; omega
  clear hv ht h hc hbad
  rcases hbad' with (hb | ⟨hb, hi⟩) | ⟨hb, hi, hi2⟩ | ⟨hb, hi, hi2, (hj | ⟨hj, hj2⟩)⟩
  all_goals
    go_enter Tryd.func4, Tryd.ntmps4
    go_wp2_with (first
      | (go_at_call 18; refine (C18.out w6 hb6).mono ?_; rintro e w7 ⟨rfl, hb7⟩; replace hb7 := hb6.trans (hb7.mono hb6.size))
      | (go_at_call 20; refine (C20.out v4 v5 w5 ((ho4.below hb5').ints hlo) (ho5.ints hlo)).mono ?_; rintro e w6 ⟨rfl, hb6⟩; replace hb6 := hb5.trans (hb6.mono hb5.size))
      | (go_at_call 21; refine (C21.out w4 hb4).mono ?_; rintro e w5 ⟨v5, rfl, ho5, hb5'⟩; have hb5 := hb4.trans (hb5'.mono hb4.size))
      | (go_at_call 17; refine (C17.out w4 hb4).mono ?_; rintro e w5 ⟨rfl, rfl⟩)
      | (go_at_call 19; refine (C19.out v3 w3 (ho3.ints hl9)).mono ?_; rintro e w4 ⟨v4, rfl, ho4, hb4'⟩; have hb4 := hb3.trans (hb4'.mono hb3.size))
      | (go_at_call 15; refine (C15.out w2 hb2).mono ?_; rintro e w3 ⟨v3, rfl, ho3, hb3⟩; replace hb3 := hb2.trans (hb3.mono hb2.size))
      | (go_at_call 16; refine (C16.out v1 w1 (ho1.ints hl9)).mono ?_; rintro e w2 ⟨rfl, hb2⟩; replace hb2 := hb1.trans (hb2.mono hb1.size))
      | (go_at_call 15; refine (C15.out w hb0).mono ?_; rintro e w1 ⟨v1, rfl, ho1, hb1⟩))
    go_ret
    exact ⟨rfl, hb7⟩

theorem without_le (bs : List Nat) (i j : Nat) : (without bs i j).length ≤ bs.length := by
  unfold without sel
  exact Nat.le_trans (List.length_filterMap_le _ _) (by simp)

set_option maxHeartbeats 2000000 in
theorem Less_yes (v : Value) (bs : List Nat) (i j : Nat) (w : World) (hv : Ints w v (toI bs)) (ht : Tab w) (h : IsBoard bs) (h2 : 2 ≤ bs.length) (hi : i < bs.length) (hj : j < bs.length) :
    Calls Tryd.prog 4 #[v, .int .i64 i, .int .i64 j] w (True1 w) := by
  have C15 := Lib.hid (fun w' (hb : Below w.heap.size w w') => by have := list_any v _ w' (hv.below hb); rw [take_board h] at this; exact this)
  have C16 := Lib.hid (fun v' w' (hb : Ints w' v' (toI bs)) => Without_yes v' bs i j w' hb h h2 hi hj)
  have C22 := Lib.hid (fun w' (hb : Below w.heap.size w w') => refWithout_any v bs i j w' (hv.below hb) h.le h.lt hi hj)
  have C19 := Lib.hid (fun v' w' (hb : Ints w' v' (toI bs)) => Other_yes v' bs w' hb h)
  have C17 := Lib.hid (fun w' (hb : Below w.heap.size w w') => by have := Board_any v _ w' (hv.below hb); rw [boardB_board h] at this; exact this)
  have C18 := Lib.hid (fun w' (hb : Below w.heap.size w w') => awake_any w' (ht.below hb))
  have C21 := Lib.hid (fun w' (hb : Below w.heap.size w w') => refOther_any v bs w' (hv.below hb) h)
  have C20 := Lib.hid (fun v1 v2 w' (h1 : Ints w' v1 (toI (other bs))) (h2 : Ints w' v2 (toI (other bs))) => by have := Equal_any v1 v2 _ _ w' h1 h2; rw [show decide (toI (other bs) = toI (other bs)) = true by simp] at this; exact this)
  have C20b := Lib.hid (fun v1 v2 w' (h1 : Ints w' v1 (toI (without bs i j))) (h2 : Ints w' v2 (toI (without bs i j))) => by have := Equal_any v1 v2 _ _ w' h1 h2; rw [show decide (toI (without bs i j) = toI (without bs i j)) = true by simp] at this; exact this)
  have hl9 : (toI bs).length ≤ 17592186044416 := hv.len
  have hlo : (toI (other bs)).length ≤ 17592186044416 := by have := hv.len; unfold other; simp [toI] at this ⊢; omega
  have hlw : (toI (without bs i j)).length ≤ 17592186044416 := by rw [toI_length]; exact Nat.le_trans (without_le bs i j) (by have := h.le; omega)
  obtain ⟨a, c, rfl, hlen, hcl, hc⟩ := hv.openN
  have hb0 := Below.refl w.heap.size w
  clear hv ht h hc
  go_enter Tryd.func4, Tryd.ntmps4
  go_wp2_with (first
      | (go_at_call 20; refine (C20b.out v2 v8 w8 hk8 hl8).mono ?_; rintro e w9 ⟨rfl, hb9'⟩; have hb9 := hb8.trans (hb9'.mono hb8.size))
      | (go_at_call 22; refine (C22.out w7 hb7).mono ?_; rintro e w8 ⟨v8, rfl, ho8, hb8'⟩; have hb8 := hb7.trans (hb8'.mono hb7.size); have hk8 := ((((hk4.below hb5').below hb6').below hb7').below hb8').ints hlw; have hl8 := ho8.ints hlw)
      | (go_at_call 18; refine (C18.out w6 hb6).mono ?_; rintro e w7 ⟨rfl, hb7'⟩; have hb7 := hb6.trans (hb7'.mono hb6.size))
      | (go_at_call 20; refine (C20.out v4 v5 w5 ((ho4.below hb5').ints hlo) (ho5.ints hlo)).mono ?_; rintro e w6 ⟨rfl, hb6'⟩; have hb6 := hb5.trans (hb6'.mono hb5.size))
      | (go_at_call 21; refine (C21.out w4 hb4).mono ?_; rintro e w5 ⟨v5, rfl, ho5, hb5'⟩; have hb5 := hb4.trans (hb5'.mono hb4.size))
      | (go_at_call 17; refine (C17.out w4 hb4).mono ?_; rintro e w5 ⟨rfl, rfl⟩)
      | (go_at_call 19; refine (C19.out v3 w3 (ho3.ints hl9)).mono ?_; rintro e w4 ⟨v4, rfl, ho4, hb4'⟩; have hb4 := hb3.trans (hb4'.mono hb3.size); have hk4 := ho2.below (hb3'.trans (hb4'.mono hb3'.size)))
      | (go_at_call 15; refine (C15.out w2 hb2).mono ?_; rintro e w3 ⟨v3, rfl, ho3, hb3'⟩; have hb3 := hb2.trans (hb3'.mono hb2.size))
      | (go_at_call 16; refine (C16.out v1 w1 (ho1.ints hl9)).mono ?_; rintro e w2 ⟨v2, rfl, ho2, hb2'⟩; have hb2 := hb1.trans (hb2'.mono hb1.size))
      | (go_at_call 15; refine (C15.out w hb0).mono ?_; rintro e w1 ⟨v1, rfl, ho1, hb1⟩))
  go_ret
  exact ⟨rfl, hb9⟩

theorem rooksLess_true (v : Value) (xs : List Int) (i j : Int) (w : World) (hv : Ints w v xs) (_ : -9223372036854775808 ≤ i ∧ i ≤ 9223372036854775807) (_ : -9223372036854775808 ≤ j ∧ j ≤ 9223372036854775807) (ht : Tab w) :
    Calls Tryd.prog 4 #[v, .int .i64 i, .int .i64 j] w (True1 w) := by
  cases hb : boardB xs with
  | false => exact Less_no v xs i j w hv ht hb
  | true =>
    obtain ⟨bs, rfl, h⟩ := board_of hb
    by_cases hbad : WArgs bs.length i j
    · unfold WArgs at hbad
      obtain ⟨i', rfl⟩ := Int.eq_ofNat_of_zero_le (show 0 ≤ i by omega)
      obtain ⟨j', rfl⟩ := Int.eq_ofNat_of_zero_le (show 0 ≤ j by omega)
      exact Less_yes v bs i' j' w hv ht h (by omega) (by omega) (by omega)
    · exact Less_bad v bs i j w hv ht h hbad
end Go.Proofs.YtlpnicfbgdfbnaaDoor

/- The rook numbers counted one by one (cnt), and the cut: a square is taken away, or its row and its column are. -/
namespace Go.Proofs.YtlpnicfbgdfbnaaDoor

/-- A sum over six columns. -/
def csum (f : Nat → Nat) : Nat := f 0 + f 1 + f 2 + f 3 + f 4 + f 5
theorem csum_add (f g : Nat → Nat) : csum (fun c => f c + g c) = csum f + csum g := by simp only [csum]; omega
theorem csum_congr {f g : Nat → Nat} (h : ∀ c, c < 6 → f c = g c) : csum f = csum g := by
  unfold csum; rw [h 0 (by omega), h 1 (by omega), h 2 (by omega), h 3 (by omega), h 4 (by omega), h 5 (by omega)]
theorem csum_one (j : Nat) (hj : j < 6) (x : Nat) : csum (fun c => if c = j then x else 0) = x := by
  unfold csum
  obtain rfl | rfl | rfl | rfl | rfl | rfl : j = 0 ∨ j = 1 ∨ j = 2 ∨ j = 3 ∨ j = 4 ∨ j = 5 := by omega
  all_goals simp

def free (r u c : Nat) : Bool := r.testBit c && !u.testBit c

/-- The ways to place k rooks on some rows where some columns are used. -/
def cnt : List Nat → Nat → Nat → Nat
  | _, _, 0 => 1
  | [], _, _ + 1 => 0
  | r :: rs, u, k + 1 => cnt rs u (k + 1) + csum fun c => if free r u c then cnt rs (u ||| 2 ^ c) k else 0

theorem cnt_zero (rs : List Nat) (u : Nat) : cnt rs u 0 = 1 := by cases rs <;> rfl

theorem sum_filter {α : Type} (p : α → Bool) (g : α → Nat) : ∀ l : List α, ((l.filter p).map g).sum = (l.map fun c => if p c then g c else 0).sum
  | [] => rfl
  | x :: l => by
    rw [List.filter_cons]
    by_cases h : p x <;> simp [h, sum_filter p g l]

theorem foldl_addSh_getD {α : Type} (f : α → List Nat) (k : Nat) : ∀ (l : List α) (cur : List Nat), k + 1 < cur.length →
    (l.foldl (fun out j => addSh out (f j)) cur).getD (k + 1) 0 = cur.getD (k + 1) 0 + (l.map fun j => (f j).getD k 0).sum
  | [], cur, _ => by simp
  | x :: l, cur, h => by
    rw [List.foldl_cons, foldl_addSh_getD f k l _ (by rw [addSh_length]; exact h), addSh_getD_succ _ _ _ h]
    simp; omega
theorem foldl_addSh_getD0 {α : Type} (f : α → List Nat) : ∀ (l : List α) (cur : List Nat), (l.foldl (fun out j => addSh out (f j)) cur).getD 0 0 = cur.getD 0 0
  | [], cur => by simp
  | x :: l, cur => by rw [List.foldl_cons, foldl_addSh_getD0 f l, addSh_getD_zero]

theorem diffS_bit (r u c : Nat) : (diffS r u).testBit c = free r u c := by
  unfold diffS free
  rw [Nat.testBit_xor, Nat.testBit_and]
  cases r.testBit c <;> cases u.testBit c <;> rfl

theorem bit_high {r c : Nat} (h : r < 64) (hc : 6 ≤ c) : r.testBit c = false :=
  Nat.testBit_lt_two_pow (Nat.lt_of_lt_of_le h (Nat.pow_le_pow_right (by decide) hc : 2 ^ 6 ≤ 2 ^ c))

theorem elems_sum (r u : Nat) (hr : r < 64) (g : Nat → Nat) : ((elems (diffS r u)).map g).sum = csum fun c => if free r u c then g c else 0 := by
  unfold elems
  rw [sum_filter]
  have e : List.range 8 = [0, 1, 2, 3, 4, 5, 6, 7] := by decide
  rw [e]
  simp only [List.map_cons, List.map_nil, List.sum_cons, List.sum_nil, diffS_bit]
  have h6 : free r u 6 = false := by unfold free; rw [bit_high hr (by omega)]; rfl
  have h7 : free r u 7 = false := by unfold free; rw [bit_high hr (by omega)]; rfl
  rw [h6, h7]
  unfold csum
  simp; omega

theorem getD_left {a b : List Nat} {i : Nat} (h : i < a.length) : (a ++ b).getD i 0 = a.getD i 0 := by simp [List.getD, List.getElem?_append_left h]
theorem getD_right {a b : List Nat} {i : Nat} (h : a.length ≤ i) : (a ++ b).getD i 0 = b.getD (i - a.length) 0 := by simp [List.getD, List.getElem?_append_right h]

theorem numL_cnt : ∀ (rs : List Nat) (u k : Nat), (∀ r ∈ rs, r < 64) → (numL rs u).getD k 0 = cnt rs u k
  | [], u, 0, _ => rfl
  | [], u, k + 1, _ => by simp [numL, cnt]
  | r :: rs, u, 0, h => by
    rw [numL, foldl_addSh_getD0, cnt_zero]
    have := numL_cnt rs u 0 (fun x hx => h x (List.mem_cons_of_mem _ hx))
    rw [cnt_zero] at this
    have hl := numL_length rs u
    rw [getD_left (by omega)]
    exact this
  | r :: rs, u, k + 1, h => by
    have ih := fun u k => numL_cnt rs u k (fun x hx => h x (List.mem_cons_of_mem _ hx))
    by_cases hk : k + 1 < rs.length + 2
    · rw [numL, foldl_addSh_getD _ _ _ _ (by simp [numL_length]; omega), elems_sum _ _ (h r List.mem_cons_self), cnt]
      have e1 : (numL rs u ++ [0]).getD (k + 1) 0 = cnt rs u (k + 1) := by
        rw [← ih]
        by_cases h2 : k + 1 < (numL rs u).length
        · rw [getD_left h2]
        · rw [getD_out (by omega : (numL rs u).length ≤ k + 1)]
          have := numL_length rs u
          rw [getD_right (by omega)]
          cases hh : k + 1 - (numL rs u).length <;> simp
      rw [e1]
      congr 1
      exact csum_congr fun c _ => by rw [ih]
    · rw [getD_out (by rw [numL_length]; simp; omega), cnt]
      have e1 : ∀ u k, rs.length < k → cnt rs u k = 0 := fun u k hk => by rw [← ih, getD_out (by rw [numL_length]; omega)]
      rw [e1 u (k + 1) (by omega)]
      have : csum (fun c => if free r u c = true then cnt rs (u ||| 2 ^ c) k else 0) = csum fun _ => 0 := csum_congr fun c _ => by rw [e1 _ k (by omega)]; simp
      rw [this]; rfl

/-- **THE CUT.** -/
def cutAt (rs : List Nat) (i j : Nat) : List Nat := rs.modify i (fun r => diffS r (2 ^ j))

theorem free_cut (r u j c : Nat) : free (diffS r (2 ^ j)) u c = (free r u c && !decide (c = j)) := by
  unfold free
  rw [diffS_bit]; unfold free
  rw [Nat.testBit_two_pow]
  by_cases h : j = c
  · subst h; simp
  · have h' : ¬ c = j := fun e => h e.symm
    simp [h, h']
theorem free_or (r u j c : Nat) : free r (u ||| 2 ^ j) c = (free r u c && !decide (c = j)) := by
  unfold free
  rw [Nat.testBit_or, Nat.testBit_two_pow]
  by_cases h : j = c
  · subst h; simp
  · have h' : ¬ c = j := fun e => h e.symm
    simp [h, h']
theorem or_swap (u a b : Nat) : u ||| a ||| b = u ||| b ||| a := by rw [Nat.or_assoc, Nat.or_comm a b, ← Nat.or_assoc]

theorem cnt_cut : ∀ (rs : List Nat) (i j u k : Nat), j < 6 → (h : i < rs.length) → rs[i].testBit j = true →
    cnt rs u (k + 1) = cnt (cutAt rs i j) u (k + 1) + if u.testBit j then 0 else cnt (rs.eraseIdx i) (u ||| 2 ^ j) k
  | [], i, j, u, k, _, h, _ => by simp at h
  | r :: rs, 0, j, u, k, hj, _, hb => by
    have hb : r.testBit j = true := hb
    simp only [cutAt, List.modify_zero_cons, List.eraseIdx_cons_zero]
    rw [cnt, cnt, Nat.add_assoc]
    congr 1
    rw [← csum_one j hj (if u.testBit j = true then 0 else cnt rs (u ||| 2 ^ j) k), ← csum_add]
    refine csum_congr fun c _ => ?_
    rw [free_cut]
    by_cases h : c = j
    · subst h
      by_cases hu : u.testBit c <;> simp [free, hb, hu]
    · simp [h]
  | r :: rs, i + 1, j, u, k, hj, h, hb => by
    have h' : i < rs.length := by simpa using h
    have hb' : rs[i].testBit j = true := hb
    have ih := fun u k => cnt_cut rs i j u k hj h' hb'
    have e1 : cutAt (r :: rs) (i + 1) j = r :: cutAt rs i j := rfl
    have e2 : (r :: rs).eraseIdx (i + 1) = r :: rs.eraseIdx i := rfl
    rw [e1, e2, cnt, cnt, ih u k]
    cases k with
    | zero =>
      have : (csum fun c => if free r u c = true then cnt rs (u ||| 2 ^ c) 0 else 0) = csum fun c => if free r u c = true then cnt (cutAt rs i j) (u ||| 2 ^ c) 0 else 0 := csum_congr fun c _ => by rw [cnt_zero, cnt_zero]
      rw [this, cnt_zero, cnt_zero]
      omega
    | succ k =>
      by_cases hu : u.testBit j = true
      · have : (csum fun c => if free r u c = true then cnt rs (u ||| 2 ^ c) (k + 1) else 0) = csum fun c => if free r u c = true then cnt (cutAt rs i j) (u ||| 2 ^ c) (k + 1) else 0 :=
          csum_congr fun c _ => by rw [ih]; simp [Nat.testBit_or, hu]
        rw [this]
        simp [hu]
      · rw [if_neg hu, if_neg hu, cnt]
        have : (csum fun c => if free r u c = true then cnt rs (u ||| 2 ^ c) (k + 1) else 0) = csum (fun c => (if free r u c = true then cnt (cutAt rs i j) (u ||| 2 ^ c) (k + 1) else 0) + if free r (u ||| 2 ^ j) c then cnt (rs.eraseIdx i) (u ||| 2 ^ j ||| 2 ^ c) k else 0) :=
          csum_congr fun c _ => by
            rw [ih, free_or, or_swap u (2 ^ j) (2 ^ c)]
            by_cases hf : free r u c = true
            · by_cases hc : c = j
              · subst hc; simp [hf, Nat.testBit_or]
              · simp [hf, hc, Nat.testBit_or, hu]
            · simp [hf]
        rw [this, csum_add]
        omega

/-! ### A column that is used may as well be deleted -/
theorem delcol_bit : ∀ r : Nat, r < 64 → ∀ j : Nat, j < 6 → ∀ c : Nat, c < 6 → (delcol j r).testBit c = if c < j then r.testBit c else r.testBit (c + 1) := by decide +kernel
theorem delcol_or1 : ∀ u : Nat, u < 64 → ∀ j : Nat, j < 6 → ∀ c : Nat, c < 6 → (!decide (c < j) || decide (delcol j u ||| 2 ^ c = delcol j (u ||| 2 ^ c))) = true := by decide +kernel
theorem delcol_or2 : ∀ u : Nat, u < 64 → ∀ j : Nat, j < 6 → ∀ c : Nat, c < 5 → (decide (c < j) || decide (delcol j u ||| 2 ^ c = delcol j (u ||| 2 ^ (c + 1)))) = true := by decide +kernel
theorem or_pow_lt {u c : Nat} (hu : u < 64) (hc : c < 6) : u ||| 2 ^ c < 64 := by
  have h2 : 2 ^ c < 2 ^ 6 := Nat.pow_lt_pow_right (by decide) hc
  have : u ||| 2 ^ c < 2 ^ 6 := Nat.or_lt_two_pow (by omega) h2
  omega

theorem cnt_del (j : Nat) (hj : j < 6) : ∀ (rs : List Nat) (u k : Nat), (∀ r ∈ rs, r < 64) → u < 64 → u.testBit j = true → cnt (rs.map (delcol j)) (delcol j u) k = cnt rs u k
  | _, _, 0, _, _, _ => by rw [cnt_zero, cnt_zero]
  | [], _, _ + 1, _, _, _ => rfl
  | r :: rs, u, k + 1, hr, hu, hb => by
    have hr0 := hr r List.mem_cons_self
    have ih := fun u k (hu : u < 64) (hb : u.testBit j = true) => cnt_del j hj rs u k (fun x hx => hr x (List.mem_cons_of_mem _ hx)) hu hb
    rw [List.map_cons, cnt, cnt, ih u _ hu hb]
    congr 1
    have key : ∀ c, c < 6 → (if free (delcol j r) (delcol j u) c = true then cnt (rs.map (delcol j)) (delcol j u ||| 2 ^ c) k else 0) =
        if c < j then (if free r u c = true then cnt rs (u ||| 2 ^ c) k else 0) else if c < 5 then (if free r u (c + 1) = true then cnt rs (u ||| 2 ^ (c + 1)) k else 0) else 0 := by
      intro c hc
      have o1 : c < j → delcol j u ||| 2 ^ c = delcol j (u ||| 2 ^ c) := fun h => by have := delcol_or1 u hu j hj c hc; simpa [h] using this
      have o2 : j ≤ c → c < 5 → delcol j u ||| 2 ^ c = delcol j (u ||| 2 ^ (c + 1)) := fun h h5 => by have := delcol_or2 u hu j hj c h5; simpa [show ¬ c < j by omega] using this
      have d1 := delcol_bit r hr0 j hj c hc
      have d2 := delcol_bit u hu j hj c hc
      by_cases h : c < j
      · rw [if_pos h] at d1 d2 ⊢
        unfold free
        rw [d1, d2, o1 h, ih _ k (or_pow_lt hu hc) (by rw [Nat.testBit_or, hb]; rfl)]
      · rw [if_neg h] at d1 d2 ⊢
        unfold free
        rw [d1, d2]
        by_cases h5 : c < 5
        · rw [if_pos h5, o2 (by omega) h5, ih _ k (or_pow_lt hu (by omega)) (by rw [Nat.testBit_or, hb]; rfl)]
        · rw [if_neg h5, bit_high hr0 (by omega)]; simp
    rw [csum_congr key]
    have hz : (if free r u j = true then cnt rs (u ||| 2 ^ j) k else 0) = 0 := by simp [free, hb]
    obtain ⟨g, hg⟩ : ∃ g : Nat → Nat, (fun c => if free r u c = true then cnt rs (u ||| 2 ^ c) k else 0) = g := ⟨_, rfl⟩
    have hg' : ∀ c, (if free r u c = true then cnt rs (u ||| 2 ^ c) k else 0) = g c := fun c => congrFun hg c
    simp only [hg'] at hz ⊢
    unfold csum
    obtain rfl | rfl | rfl | rfl | rfl | rfl : j = 0 ∨ j = 1 ∨ j = 2 ∨ j = 3 ∨ j = 4 ∨ j = 5 := by omega
    all_goals simp [hz] <;> omega

theorem without_go {α β : Type} (g : α → β) (i : Nat) : ∀ (l : List α) (o : Nat), (l.zipIdx o).filterMap (fun p => if p.2 = i then none else some (g p.1)) = if o ≤ i then (l.eraseIdx (i - o)).map g else l.map g
  | [], o => by simp
  | x :: l, o => by
    rw [List.zipIdx_cons, List.filterMap_cons]
    by_cases h : o = i
    · subst h
      have := without_go g o l (o + 1)
      rw [if_neg (by omega)] at this
      simp [this]
    · have := without_go g i l (o + 1)
      rw [if_neg h]
      simp only [this]
      by_cases h2 : o ≤ i
      · rw [if_pos h2, if_pos (by omega)]
        obtain ⟨d, hd⟩ : ∃ d, i - o = d + 1 := ⟨i - o - 1, by omega⟩
        rw [hd, show i - (o + 1) = d by omega]
        simp
      · rw [if_neg h2, if_neg (by omega)]; simp
theorem without_eq (bs : List Nat) (i j : Nat) : without bs i j = (bs.eraseIdx i).map (delcol j) := by
  unfold without sel
  have := without_go (delcol j) i bs 0
  simpa using this

theorem delcol_self : ∀ j : Nat, j < 6 → delcol j (2 ^ j) = 0 := by decide +kernel

theorem diffS_lt6 {r u : Nat} (hr : r < 64) : diffS r u < 64 := by
  have h : r &&& u < 2 ^ 6 := Nat.lt_of_le_of_lt Nat.and_le_left hr
  have : diffS r u < 2 ^ 6 := Nat.xor_lt_two_pow (by omega) h
  omega
theorem mem_cut {rs : List Nat} {i j x : Nat} (hr : ∀ r ∈ rs, r < 64) (h : x ∈ cutAt rs i j) : x < 64 := by
  obtain ⟨k, hk, rfl⟩ := List.mem_iff_getElem.1 h
  unfold cutAt at hk ⊢
  rw [List.getElem_modify]
  have hk' : k < rs.length := by simpa using hk
  split
  · exact diffS_lt6 (hr _ (List.getElem_mem hk'))
  · exact hr _ (List.getElem_mem hk')

/-- **THE LAW OF THE CUT**, at one place. -/
theorem numL_cut (bs : List Nat) (i j k : Nat) (hr : ∀ r ∈ bs, r < 64) (hj : j < 6) (hi : i < bs.length) (hb : bs[i].testBit j = true) :
    (numL bs 0).getD k 0 = (numL (cutAt bs i j) 0).getD k 0 + if k = 0 then 0 else (numL (without bs i j) 0).getD (k - 1) 0 := by
  have hw : ∀ r ∈ without bs i j, r < 64 := by
    intro r h
    rw [without_eq] at h
    obtain ⟨x, hx, rfl⟩ := List.mem_map.1 h
    exact delcol_lt j hj x (hr x (List.mem_of_mem_eraseIdx hx))
  rw [numL_cnt _ _ _ hr, numL_cnt _ _ _ (fun x hx => mem_cut hr hx), numL_cnt _ _ _ hw]
  cases k with
  | zero => rw [cnt_zero, cnt_zero]; simp
  | succ k =>
    rw [cnt_cut bs i j 0 k hj hi hb, without_eq]
    have e := cnt_del j hj (bs.eraseIdx i) (2 ^ j) k (fun x hx => hr x (List.mem_of_mem_eraseIdx hx)) (by have := or_pow_lt (u := 0) (by decide) hj; simpa using this) (by simp)
    rw [delcol_self j hj] at e
    simp [e]
end Go.Proofs.YtlpnicfbgdfbnaaDoor

/- RooksCut. -/
namespace Go.Proofs.YtlpnicfbgdfbnaaDoor
open Go.RowKit

theorem cut_board {bs : List Nat} {i j : Nat} (h : IsBoard bs) : IsBoard (cutAt bs i j) := by
  have hl : (cutAt bs i j).length = bs.length := by simp [cutAt]
  refine ⟨by rw [hl]; exact h.pos, by rw [hl]; exact h.le, ?_⟩
  intro x hx
  rw [hl]
  obtain ⟨k, hk, rfl⟩ := List.mem_iff_getElem.1 hx
  unfold cutAt at hk ⊢
  rw [List.getElem_modify]
  have hk' : k < bs.length := by simpa using hk
  have hr := h.row _ (List.getElem_mem hk')
  split
  · unfold diffS
    exact Nat.xor_lt_two_pow hr (Nat.lt_of_le_of_lt Nat.and_le_left hr)
  · exact hr

theorem delcol_small : ∀ r : Nat, r < 64 → ∀ n : Nat, n < 7 → ∀ j : Nat, j < 6 → (!(decide (j < n) && decide (r < 2 ^ n)) || decide (delcol j r < 2 ^ (n - 1))) = true := by decide +kernel
theorem eraseIdx_len {bs : List Nat} {i : Nat} (hi : i < bs.length) : (bs.eraseIdx i).length = bs.length - 1 := by simp [List.length_eraseIdx, hi]
theorem without_len {bs : List Nat} {i j : Nat} (hi : i < bs.length) : (without bs i j).length = bs.length - 1 := by rw [without_eq]; simp [eraseIdx_len hi]
theorem without_board {bs : List Nat} {i j : Nat} (h : IsBoard bs) (h2 : 2 ≤ bs.length) (hi : i < bs.length) (hj : j < bs.length) : IsBoard (without bs i j) := by
  refine ⟨by rw [without_len hi]; omega, by rw [without_len hi]; have := h.le; omega, ?_⟩
  intro x hx
  rw [without_len hi]
  rw [without_eq] at hx
  obtain ⟨r, hr, rfl⟩ := List.mem_map.1 hx
  have hr' := List.mem_of_mem_eraseIdx hr
  have := delcol_small r (h.lt r hr') bs.length (by have := h.le; omega) j (by have := h.le; omega)
  simpa [hj, h.row r hr'] using this

theorem bit_walk : ∀ j : Nat, j < 6 → ∀ r : Nat, r < 64 → bits BinOp.and IntKind.i64 ((r : Int) / (2 : Int) ^ j) 1 = if r.testBit j then 1 else 0 := by decide +kernel
theorem cut_walk : ∀ j : Nat, j < 6 → ∀ r : Nat, r < 64 → bits BinOp.andNot IntKind.i64 (r : Int) ((2 : Int) ^ j) = ((diffS r (2 ^ j) : Nat) : Int) := by decide +kernel

set_option maxHeartbeats 2000000 in
theorem Cut_no (v : Value) (xs : List Int) (i j : Int) (w : World) (hv : Ints w v xs) (ht : Tab w) (h : boardB xs = false) :
    Calls Tryd.prog 3 #[v, .int .i64 i, .int .i64 j] w (True1 w) := by
  have C15 := Lib.hid (fun w' (hb : Below w.heap.size w w') => list_any v xs w' (hv.below hb))
  have C14 := Lib.hid (fun v' w' (hb : Ints w' v' (xs.take 9)) => Rooks_no v' (xs.take 9) w' hb (by rw [boardB_take]; exact h))
  have C16 := Lib.hid (fun v' w' (hb : Ints w' v' (xs.take 9)) => Without_no v' (xs.take 9) i j w' hb (by rw [boardB_take]; exact h))
  have C18 := Lib.hid (fun w' (hb : Below w.heap.size w w') => awake_any w' (ht.below hb))
  have hl9 : (xs.take 9).length ≤ 17592186044416 := by simp; omega
  have hb0 := Below.refl w.heap.size w
  clear hv ht h
  go_enter Tryd.func3, Tryd.ntmps3
  go_wp2_with (first
    | (go_at_call 18; refine (C18.out w4 hb4).mono ?_; rintro e w6 ⟨rfl, hb6⟩; replace hb6 := hb4.trans (hb6.mono hb4.size))
    | (go_at_call 16; refine (C16.out v3 w3 (ho3.ints hl9)).mono ?_; rintro e w4 ⟨rfl, hb4⟩; replace hb4 := hb3.trans (hb4.mono hb3.size))
    | (go_at_call 15; refine (C15.out w2 hb2).mono ?_; rintro e w3 ⟨v3, rfl, ho3, hb3⟩; replace hb3 := hb2.trans (hb3.mono hb2.size))
    | (go_at_call 14; refine (C14.out v1 w1 (ho1.ints hl9)).mono ?_; rintro e w2 ⟨rfl, hb2⟩; replace hb2 := hb1.trans (hb2.mono hb1.size))
    | (go_at_call 15; refine (C15.out w hb0).mono ?_; rintro e w1 ⟨v1, rfl, ho1, hb1⟩))
  go_ret
  exact ⟨rfl, hb6⟩

set_option maxHeartbeats 2000000 in
theorem Cut_bad (v : Value) (bs : List Nat) (i j : Int) (w : World) (hv : Ints w v (toI bs)) (ht : Tab w) (h : IsBoard bs) (hbad : ¬ WArgs bs.length i j) :
    Calls Tryd.prog 3 #[v, .int .i64 i, .int .i64 j] w (True1 w) := by
  have C15 := Lib.hid (fun w' (hb : Below w.heap.size w w') => by have := list_any v _ w' (hv.below hb); rw [take_board h] at this; exact this)
  have C14 := Lib.hid (fun v' w' (hb : Ints w' v' (toI bs)) (hk : Below w.heap.size w w') => Rooks_yes v' bs w' hb h (ht.below hk))
  have C16 := Lib.hid (fun v' w' (hb : Ints w' v' (toI bs)) => Without_bad v' bs i j w' hb h hbad)
  have C18 := Lib.hid (fun w' (hb : Below w.heap.size w w') => awake_any w' (ht.below hb))
  have hl9 : (toI bs).length ≤ 17592186044416 := hv.len
  have hb0 := Below.refl w.heap.size w
  clear hv ht h hbad
  go_enter Tryd.func3, Tryd.ntmps3
  go_wp2_with (first
    | (go_at_call 18; refine (C18.out w4 hb4).mono ?_; rintro e w6 ⟨rfl, hb6⟩; replace hb6 := hb4.trans (hb6.mono hb4.size))
    | (go_at_call 16; refine (C16.out v3 w3 (ho3.ints hl9)).mono ?_; rintro e w4 ⟨rfl, hb4⟩; replace hb4 := hb3.trans (hb4.mono hb3.size))
    | (go_at_call 15; refine (C15.out w2 hb2).mono ?_; rintro e w3 ⟨v3, rfl, ho3, hb3⟩; replace hb3 := hb2.trans (hb3.mono hb2.size))
    | (go_at_call 14; refine (C14.out v1 w1 (ho1.ints hl9) hb1).mono ?_; rintro e w2 ⟨v2, rfl, ho2, hb2⟩; replace hb2 := hb1.trans (hb2.mono hb1.size))
    | (go_at_call 15; refine (C15.out w hb0).mono ?_; rintro e w1 ⟨v1, rfl, ho1, hb1⟩))
  go_ret
  exact ⟨rfl, hb6⟩

set_option maxRecDepth 20000 in
set_option maxHeartbeats 2000000 in
theorem Cut_clear (v : Value) (bs : List Nat) (i j : Nat) (w : World) (hv : Ints w v (toI bs)) (ht : Tab w) (h : IsBoard bs) (h2 : 2 ≤ bs.length) (hi : i < bs.length) (hj : j < bs.length) (hbit : bs[i].testBit j = false) :
    Calls Tryd.prog 3 #[v, .int .i64 i, .int .i64 j] w (True1 w) := by
  have C15 := Lib.hid (fun w' (hb : Below w.heap.size w w') => by have := list_any v _ w' (hv.below hb); rw [take_board h] at this; exact this)
  have C14 := Lib.hid (fun v' w' (hb : Ints w' v' (toI bs)) (hk : Below w.heap.size w w') => Rooks_yes v' bs w' hb h (ht.below hk))
  have C16 := Lib.hid (fun v' w' (hb : Ints w' v' (toI bs)) => Without_yes v' bs i j w' hb h h2 hi hj)
  have C17 := Lib.hid (fun w' (hb : Below w.heap.size w w') => by have := Board_any v _ w' (hv.below hb); rw [boardB_board h] at this; exact this)
  have C18 := Lib.hid (fun w' (hb : Below w.heap.size w w') => awake_any w' (ht.below hb))
  have hl9 : (toI bs).length ≤ 17592186044416 := hv.len
  obtain ⟨a, c, rfl, hlen, hcl, hc⟩ := hv.openN
  obtain ⟨b, off, rfl, hbl, hcell⟩ := hc (ne_nil_of_lt hi)
  have hci := hcell i hi
  have hr64 := h.lt _ (List.getElem_mem hi)
  have hw := bit_walk j (by have := h.le; omega) _ hr64
  rw [hbit] at hw
  have h6 := h.le
  have hb0 := Below.refl w.heap.size w
  clear hv ht h hc hcell hbit
  go_enter Tryd.func3, Tryd.ntmps3
  go_wp2_with (first
    | (go_at_call 18; refine (C18.out w4 hb4).mono ?_; rintro e w6 ⟨rfl, hb6⟩; replace hb6 := hb4.trans (hb6.mono hb4.size))
    | (go_at_call 17; refine (C17.out w4 hb4).mono ?_; rintro e w5 ⟨rfl, rfl⟩; have hci4 := (hb4.cell (p := ⟨b, off + i, none⟩) hbl).trans hci)
    | (go_at_call 16; refine (C16.out v3 w3 (ho3.ints hl9)).mono ?_; rintro e w4 ⟨v4, rfl, ho4, hb4⟩; replace hb4 := hb3.trans (hb4.mono hb3.size))
    | (go_at_call 15; refine (C15.out w2 hb2).mono ?_; rintro e w3 ⟨v3, rfl, ho3, hb3⟩; replace hb3 := hb2.trans (hb3.mono hb2.size))
    | (go_at_call 14; refine (C14.out v1 w1 (ho1.ints hl9) hb1).mono ?_; rintro e w2 ⟨v2, rfl, ho2, hb2⟩; replace hb2 := hb1.trans (hb2.mono hb1.size))
    | (go_at_call 15; refine (C15.out w hb0).mono ?_; rintro e w1 ⟨v1, rfl, ho1, hb1⟩))
  go_ret
  exact ⟨rfl, hb6⟩
end Go.Proofs.YtlpnicfbgdfbnaaDoor

/- RooksCut, where the square is on the board. -/
namespace Go.Proofs.YtlpnicfbgdfbnaaDoor
open Go.RowKit

theorem cut_set (bs : List Nat) (i j : Nat) (hi : i < bs.length) : bs.set i (diffS bs[i] (2 ^ j)) = cutAt bs i j := by
  unfold cutAt
  refine List.ext_getElem (by simp) fun k h1 h2 => ?_
  rw [List.getElem_modify, List.getElem_set]
  split
  · rename_i e; subst e; rfl
  · rfl

/-- A row of the call's own that is not empty, at its own length. -/
theorem OwnI.rowN {e : TypeId} {B : Nat} {w : World} {v : Value} {L : List Nat} (h : OwnI e B w v (toI L)) (hl : 0 < L.length) : ∃ g cap, v = .slice (some ⟨g, 0, none⟩) L.length cap := by
  obtain ⟨g, cap, e⟩ := h.row (k := L.length - 1) (by omega)
  exact ⟨g, cap, by rw [e]; congr 1; omega⟩

theorem cut_at (bs : List Nat) (i j k : Nat) (h : IsBoard bs) (hj : j < 6) (hi : i < bs.length) (hb : bs[i].testBit j = true) (hk : k < (numL bs 0).length) (hk2 : k < (numL (cutAt bs i j) 0).length) :
    (k = 0 → (numL bs 0)[k] = (numL (cutAt bs i j) 0)[k]) ∧ (0 < k → ∀ h3 : k - 1 < (numL (without bs i j) 0).length, (numL bs 0)[k] = (numL (cutAt bs i j) 0)[k] + (numL (without bs i j) 0)[k - 1]) := by
  have := numL_cut bs i j k h.lt hj hi hb
  rw [getD_at hk, getD_at hk2] at this
  refine ⟨fun e => by rw [if_pos e] at this; exact this, fun e h3 => ?_⟩
  rw [if_neg (by omega), getD_at h3] at this
  exact this

set_option maxRecDepth 20000 in
set_option maxHeartbeats 4000000 in
theorem Cut_set (v : Value) (bs : List Nat) (i j : Nat) (w : World) (hv : Ints w v (toI bs)) (ht : Tab w) (h : IsBoard bs) (h2 : 2 ≤ bs.length) (hi : i < bs.length) (hj : j < bs.length) (hbit : bs[i].testBit j = true) :
    Calls Tryd.prog 3 #[v, .int .i64 i, .int .i64 j] w (True1 w) := by
  have hj6 : j < 6 := by have := h.le; omega
  have C15 := Lib.hid (fun w' (hb : Below w.heap.size w w') => by have := list_any v _ w' (hv.below hb); rw [take_board h] at this; exact this)
  have C14 := Lib.hid (fun v' w' (hb : Ints w' v' (toI bs)) (hk : Below w.heap.size w w') => Rooks_yes v' bs w' hb h (ht.below hk))
  have C14c := Lib.hid (fun v' w' (hb : Ints w' v' (toI (cutAt bs i j))) (hk : Below w.heap.size w w') => Rooks_yes v' _ w' hb (cut_board h) (ht.below hk))
  have C14l := Lib.hid (fun v' w' (hb : Ints w' v' (toI (without bs i j))) (hk : Below w.heap.size w w') => Rooks_yes v' _ w' hb (without_board h h2 hi hj) (ht.below hk))
  have C16 := Lib.hid (fun v' w' (hb : Ints w' v' (toI bs)) => Without_yes v' bs i j w' hb h h2 hi hj)
  have C17 := Lib.hid (fun w' (hb : Below w.heap.size w w') => by have := Board_any v _ w' (hv.below hb); rw [boardB_board h] at this; exact this)
  have C18 := Lib.hid (fun w' (hb : Below w.heap.size w w') => awake_any w' (ht.below hb))
  have hl9 : (toI bs).length ≤ 17592186044416 := hv.len
  have hlw : (toI (without bs i j)).length ≤ 17592186044416 := by rw [toI_length]; exact Nat.le_trans (without_le bs i j) (by have := h.le; omega)
  have LAW := Lib.hid (fun k => cut_at bs i j k h hj6 hi hbit)
  have LW := Lib.hid (without_len (bs := bs) (i := i) (j := j) hi)
  have LC : (cutAt bs i j).length = bs.length := by simp [cutAt]
  have CS := Lib.hid (cut_set bs i j hi)
  have BND := Lib.hid (fun k => numL_lt bs 0 k h.le)
  obtain ⟨a, c, rfl, hlen, hcl, hc⟩ := hv.openN
  obtain ⟨b, off, rfl, hbl, hcell⟩ := hc (ne_nil_of_lt hi)
  have hci := hcell i hi
  have hr64 := h.lt _ (List.getElem_mem hi)
  have hw := bit_walk j hj6 _ hr64
  have hw2 := cut_walk j hj6 _ hr64
  have hp := pow_in j (by omega)
  rw [hbit] at hw
  have h6 := h.le
  have hb0 := Below.refl w.heap.size w
  obtain ⟨r, hr⟩ : ∃ r, bs[i] = r := ⟨_, rfl⟩
  rw [hr] at hci hr64 hw hw2
  have HR := Lib.hid hr
  clear hv ht h hc hcell hbit hr
  go_enter Tryd.func3, Tryd.ntmps3
  go_wp2_with (first
    | (go_at_call 15; refine (C15.out w4 hb4).mono ?_; rintro e w5 ⟨v5, rfl, ho5, hb5'⟩; have hb5 := hb4.trans (hb5'.mono hb4.size); obtain ⟨g5, c5, rfl⟩ := ho5.rowN (by omega); have cG := ho5.cellN i hi; rw [HR.out] at cG; have fG := ho5.frozenN i)
    | (go_at_call 17; refine (C17.out w4 hb4).mono ?_; rintro e w5 ⟨rfl, rfl⟩; have hci4 := (hb4.cell (p := ⟨b, off + i, none⟩) hbl).trans hci)
    | (go_at_call 16; refine (C16.out v3 w3 (ho3.ints hl9)).mono ?_; rintro e w4 ⟨v4, rfl, ho4, hb4'⟩; have hb4 := hb3.trans (hb4'.mono hb3.size); have ho2 := (ho2.below hb3').below hb4')
    | (go_at_call 15; refine (C15.out w2 hb2).mono ?_; rintro e w3 ⟨v3, rfl, ho3, hb3'⟩; have hb3 := hb2.trans (hb3'.mono hb2.size))
    | (go_at_call 14; refine (C14.out v1 w1 (ho1.ints hl9) hb1).mono ?_; rintro e w2 ⟨v2, rfl, ho2, hb2⟩; replace hb2 := hb1.trans (hb2.mono hb1.size))
    | (go_at_call 15; refine (C15.out w hb0).mono ?_; rintro e w1 ⟨v1, rfl, ho1, hb1⟩))
  go_region
  rename_i Kx hKx
  refine hKx _ _ ?_
  clear hKx Kx
  have hg5 : w4.heap.size ≤ g5 := ho5.blockEq.1
  have hb6' : Below w4.heap.size w4 (w5.setCell ⟨g5, i, none⟩ (.int .i64 (diffS r (2 ^ j) : Nat))).drew := (hb5'.setCell (by exact hg5) _).drew
  have ho6 : OwnI 3 w4.heap.size (w5.setCell ⟨g5, i, none⟩ (.int .i64 (diffS r (2 ^ j) : Nat))).drew (.slice (some ⟨g5, 0, none⟩) bs.length c5) (toI (cutAt bs i j)) := by
    have := (ho5.storedN i (diffS r (2 ^ j))).drew
    rw [← HR.out, CS.out, HR.out] at this
    exact this
  have hl6 := ho6.ints (by rw [toI_length, LC]; omega)
  obtain ⟨w6, hw6⟩ : ∃ w6, (w5.setCell ⟨g5, i, none⟩ (.int .i64 (diffS r (2 ^ j) : Nat))).drew = w6 := ⟨_, rfl⟩
  rw [hw6] at hb6' ho6 hl6 ⊢
  clear hw6 ho6 cG fG ho5 hb5 hb5'
  have hb6 := hb4.trans (hb6'.mono hb4.size)
  replace ho2 := ho2.below hb6'
  replace ho4 := ho4.below hb6'
  have hl4 := ho4.ints hlw
  obtain ⟨R, hR⟩ : ∃ R, numL bs 0 = R := ⟨_, rfl⟩
  obtain ⟨RC, hRC⟩ : ∃ RC, numL (cutAt bs i j) 0 = RC := ⟨_, rfl⟩
  obtain ⟨RL, hRL⟩ : ∃ RL, numL (without bs i j) 0 = RL := ⟨_, rfl⟩
  have LAW2 := Lib.hid (show ∀ k (hk : k < R.length) (hk2 : k < RC.length), (k = 0 → R[k] = RC[k]) ∧ (0 < k → ∀ h3 : k - 1 < RL.length, R[k] = RC[k] + RL[k - 1]) from by subst hR hRC hRL; exact LAW.out)
  have l1 : R.length = bs.length + 1 := by rw [← hR, numL_length]
  have l2 : RC.length = bs.length + 1 := by rw [← hRC, numL_length, LC]
  have l3 : RL.length = bs.length := by rw [← hRL, numL_length, LW.out]; omega
  have BND2 : ∀ k, R.getD k 0 ≤ 531441 := by rw [← hR]; exact BND.out
  rw [hR] at ho2
  have C14c2 := Lib.hid (show ∀ v' w', Ints w' v' (toI (cutAt bs i j)) → Below w.heap.size w w' → _ from C14c.out)
  rw [hRC] at C14c2
  clear C14c C14 C15 C16 C17 LAW LW CS BND
  rw [hRL] at C14l
  obtain ⟨g2, c2, rfl⟩ := ho2.rowN (by omega)
  rw [l1] at ho2
  go_wp2_with (first
    | (go_at_call 14; refine (C14l.out v4 w7 (hl4.below hb7') hb7).mono ?_; rintro e w8 ⟨v8, rfl, ho8, hb8'⟩; have hb8 := hb7.trans (hb8'.mono hb7.size); obtain ⟨g8, c8, rfl⟩ := ho8.rowN (by omega); rw [l3] at ho8)
    | (go_at_call 14; refine (C14c2.out _ w6 hl6 hb6).mono ?_; rintro e w7 ⟨v7, rfl, ho7, hb7'⟩; have hb7 := hb6.trans (hb7'.mono hb6.size); obtain ⟨g7, c7, rfl⟩ := ho7.rowN (by omega); rw [l2] at ho7))
  have hk2 := ((ho2.below hb7').below hb8')
  have hk7 := ho7.below hb8'
  go_loopw [134] (fun p wr => ∃ k : Nat, p = .int .i64 k ∧ k ≤ bs.length + 1 ∧ wr = w8) (fun p _ => bs.length + 1 - (intOf p).toNat)
  case atStart => exact ⟨0, rfl, by omega, rfl⟩
  case round =>
    obtain ⟨k, rfl, hk, rfl⟩ := hrel
    by_cases hlt : k < bs.length + 1
    · have cR := hk2.cellN k (by omega)
      have cC := hk7.cellN k (by omega)
      obtain ⟨q1, q2⟩ := LAW2.out k (by omega) (by omega)
      obtain ⟨x, hx⟩ : ∃ x, R[k]'(by omega) = x := ⟨_, rfl⟩
      obtain ⟨y, hy⟩ : ∃ y, RC[k]'(by omega) = y := ⟨_, rfl⟩
      rw [hx] at cR q1 q2
      rw [hy] at cC q1 q2
      have hB := BND2 k
      rw [getD_at (by omega), hx] at hB
      have HX := Lib.hid hx
      have HY := Lib.hid hy
      clear hx hy
      by_cases h0 : k = 0
      · obtain rfl : x = y := q1 h0
        subst h0
        clear q1 q2
        go_wp2
        go_roundw
        case rel => exact ⟨1, by go_num, by omega, trivial⟩
        case measure => simp [intOf]
      · have h3 : k - 1 < RL.length := by omega
        have cL := ho8.cellN (k - 1) h3
        have q3 := q2 (by omega) h3
        obtain ⟨z, hz⟩ : ∃ z, RL[k - 1] = z := ⟨_, rfl⟩
        rw [hz] at cL q3
        have HZ := Lib.hid hz
        clear hz q1 q2
        obtain ⟨k', rfl⟩ : ∃ k', k = k' + 1 := ⟨k - 1, by omega⟩
        have e1 : ((k' + 1 : Nat) : Int) - 1 = (k' : Int) := by omega
        have e2 : k' + 1 - 1 = k' := by omega
        rw [e2] at cL
        have w1 : IntKind.i64.wrap ((y : Int) + (z : Int)) = (x : Int) := by rw [IntWalk.i64_in _ (by omega)]; omega
        have w2 : IntKind.i64.wrap (((k' + 1 : Nat) : Int) - 1) = (k' : Int) := by rw [IntWalk.i64_in _ (by omega)]; omega
        go_wp2
        go_roundw
        case rel => exact ⟨k' + 1 + 1, by go_num, by omega, trivial⟩
        case measure => simp [intOf]; omega
    · obtain rfl : k = bs.length + 1 := by omega
      go_wp2_with (go_at_call 18; refine (C18.out _ hb8).mono ?_; rintro e w9 ⟨rfl, hb9'⟩; have hb9 := hb8.trans (hb9'.mono hb8.size))
      go_ret
      exact ⟨rfl, hb9⟩

theorem rooksCut_true (v : Value) (xs : List Int) (i j : Int) (w : World) (hv : Ints w v xs) (_ : -9223372036854775808 ≤ i ∧ i ≤ 9223372036854775807) (_ : -9223372036854775808 ≤ j ∧ j ≤ 9223372036854775807) (ht : Tab w) :
    Calls Tryd.prog 3 #[v, .int .i64 i, .int .i64 j] w (True1 w) := by
  cases hb : boardB xs with
  | false => exact Cut_no v xs i j w hv ht hb
  | true =>
    obtain ⟨bs, rfl, h⟩ := board_of hb
    by_cases hbad : WArgs bs.length i j
    · unfold WArgs at hbad
      obtain ⟨i', rfl⟩ := Int.eq_ofNat_of_zero_le (show 0 ≤ i by omega)
      obtain ⟨j', rfl⟩ := Int.eq_ofNat_of_zero_le (show 0 ≤ j by omega)
      have hi : i' < bs.length := by omega
      cases hbit : bs[i'].testBit j' with
      | false => exact Cut_clear v bs i' j' w hv ht h (by omega) hi (by omega) hbit
      | true => exact Cut_set v bs i' j' w hv ht h (by omega) hi (by omega) hbit
    · exact Cut_bad v bs i j w hv ht h hbad
end Go.Proofs.YtlpnicfbgdfbnaaDoor

/- ref.rooks, ref.Rooks. -/
namespace Go.Proofs.YtlpnicfbgdfbnaaDoor
open Go.RowKit

def sh (k : Nat) (f : Nat → Nat) (m : Nat) : Nat := if k ≤ m then f (m - k) else 0
def psum (f : Nat → Nat) : Nat → Nat
  | 0 => 0
  | c + 1 => psum f c + f c
theorem psum_six (f : Nat → Nat) : psum f 6 = csum f := by simp only [psum, csum]; omega
theorem psum_le (f : Nat → Nat) {a : Nat} : ∀ {b : Nat}, a ≤ b → psum f a ≤ psum f b := by
  intro b hb
  induction hb with
  | refl => exact Nat.le_refl _
  | step _ ih => exact Nat.le_trans ih (Nat.le_add_right _ _)
theorem psum_zero (f : Nat → Nat) {n : Nat} : ∀ {b : Nat}, n ≤ b → (∀ c, n ≤ c → f c = 0) → psum f b = psum f n := by
  intro b hb h
  induction hb with
  | refl => rfl
  | step hm ih => rw [psum, ih, h _ hm]; rfl

theorem sh_cnt (k : Nat) (r : Nat) (rs : List Nat) (u m : Nat) :
    sh k (cnt (r :: rs) u) m = sh k (cnt rs u) m + csum fun c => if free r u c then sh (k + 1) (cnt rs (u ||| 2 ^ c)) m else 0 := by
  unfold sh
  by_cases h : k ≤ m
  · rw [if_pos h, if_pos h]
    by_cases h2 : k + 1 ≤ m
    · obtain ⟨d, hd⟩ : ∃ d, m - k = d + 1 := ⟨m - k - 1, by omega⟩
      rw [hd, cnt]
      simp only [if_pos h2]
      rw [show m - (k + 1) = d by omega]
    · have e : m - k = 0 := by omega
      rw [e, cnt_zero, cnt_zero]
      have : csum (fun c => if free r u c = true then (if k + 1 ≤ m then cnt rs (u ||| 2 ^ c) (m - (k + 1)) else 0) else 0) = csum fun _ => 0 := csum_congr fun c _ => by rw [if_neg h2]; simp
      rw [this]; rfl
  · rw [if_neg h, if_neg h]
    have : csum (fun c => if free r u c = true then (if k + 1 ≤ m then cnt rs (u ||| 2 ^ c) (m - (k + 1)) else 0) else 0) = csum fun _ => 0 := csum_congr fun c _ => by simp [show ¬ k + 1 ≤ m by omega]
    rw [this]; rfl
theorem sh_nil (k u m : Nat) : sh k (cnt [] u) m = if m = k then 1 else 0 := by
  unfold sh
  by_cases h : m = k
  · subst h; simp [cnt_zero]
  · rw [if_neg h]
    by_cases h2 : k ≤ m
    · rw [if_pos h2]
      obtain ⟨d, hd⟩ : ∃ d, m - k = d + 1 := ⟨m - k - 1, by omega⟩
      rw [hd]; rfl
    · rw [if_neg h2]

/-- What ref.rooks leaves in its counts. -/
def Added (k : Nat) (f : Nat → Nat) (cur cur' : List Nat) : Prop := cur'.length = cur.length ∧ ∀ m, m < cur.length → cur'.getD m 0 = cur.getD m 0 + sh k f m

theorem getD_set {l : List Nat} {i x m : Nat} (hi : i < l.length) : (l.set i x).getD m 0 = if m = i then x else l.getD m 0 := by
  simp only [List.getD, List.getElem?_set]
  by_cases h : i = m
  · subst h; simp [hi]
  · simp [h, Ne.symm h]

def RrPost (W0 : World) (cv : Value) (k : Nat) (f : Nat → Nat) (cur : List Nat) (e : Ending) (W' : World) : Prop :=
  e = .returned (.tuple #[]) ∧ ∃ cur', OwnI 3 W0.heap.size W' cv (toI cur') ∧ Below W0.heap.size W0 W' ∧ Added k f cur cur'

set_option maxRecDepth 20000 in
set_option maxHeartbeats 2000000 in
theorem rr_leaf (v : Value) (bs : List Nat) (W0 W : World) (hv : Ints W0 v (toI bs)) (used k : Nat) (g cap : Nat) (cur : List Nat) (hk : k < cur.length) (hb : Below W0.heap.size W0 W)
    (ho : OwnI 3 W0.heap.size W (.slice (some ⟨g, 0, none⟩) cur.length cap) (toI cur)) (hbnd : cur.getD k 0 ≤ 1099511627776) :
    Calls Tryd.prog 52 #[v, .int .i64 (bs.length : Nat), .int .i64 used, .int .i64 k, .slice (some ⟨g, 0, none⟩) cur.length cap] W (RrPost W0 (.slice (some ⟨g, 0, none⟩) cur.length cap) k (cnt [] used) cur) := by
  obtain ⟨a, c, rfl, hlen, hcl2, hc⟩ := hv.openN
  clear hv hc
  have cG := ho.cellN k hk
  have fG := ho.frozenN k
  obtain ⟨x, hx⟩ : ∃ x, cur[k] = x := ⟨_, rfl⟩
  rw [hx] at cG
  rw [getD_at hk, hx] at hbnd
  have HO := Lib.hid ho
  have HX := Lib.hid hx
  clear ho hx
  have w1 : IntKind.i64.wrap ((x : Int) + 1) = (x : Int) + 1 := IntWalk.i64_in _ (by omega)
  go_enter Tryd.func52, Tryd.ntmps52
  go_wp2
  go_end0
  refine ⟨rfl, cur.set k (x + 1), ?_, hb.setCell (by exact HO.out.blockEq.1) _, by simp, fun m hm => ?_⟩
  · have := HO.out.storedN k (x + 1)
    push_cast at this
    exact this
  · rw [getD_set hk, sh_nil]
    by_cases h : m = k
    · subst h; rw [if_pos rfl, if_pos rfl, getD_at hk, HX.out]
    · rw [if_neg h, if_neg h]; rfl

theorem bit_walk0 {j r : Nat} (hj : j < 6) (hr : r < 64) (h : r.testBit j = false) : bits BinOp.and IntKind.i64 ((r : Int) / (2 : Int) ^ j) 1 = 0 := by rw [bit_walk j hj r hr, h]; rfl
theorem bit_walk1 {j r : Nat} (hj : j < 6) (hr : r < 64) (h : r.testBit j = true) : bits BinOp.and IntKind.i64 ((r : Int) / (2 : Int) ^ j) 1 = 1 := by rw [bit_walk j hj r hr, h]; rfl
theorem free_of {r u c : Nat} {a b : Bool} (h1 : r.testBit c = a) (h2 : u.testBit c = b) : free r u c = (a && !b) := by unfold free; rw [h1, h2]

def rrF (r : Nat) (rs : List Nat) (used k m c : Nat) : Nat := if free r used c then sh (k + 1) (cnt rs (used ||| 2 ^ c)) m else 0

set_option maxRecDepth 20000 in
set_option maxHeartbeats 4000000 in
theorem rr_node (v : Value) (bs : List Nat) (h : IsBoard bs) (W0 W : World) (hv : Ints W0 v (toI bs)) (i used k : Nat) (r : Nat) (rs : List Nat) (hi : i < bs.length) (hr : bs[i] = r) (hu : used < 64) (g cap : Nat) (cur : List Nat) (hkk : k + rs.length + 1 < cur.length) (hcl : cur.length ≤ 1000)
    (hb : Below W0.heap.size W0 W) (ho : OwnI 3 W0.heap.size W (.slice (some ⟨g, 0, none⟩) cur.length cap) (toI cur)) (hbnd : ∀ m, m < cur.length → cur.getD m 0 + sh k (cnt (r :: rs) used) m ≤ 1099511627776)
    (ih : ∀ (used k : Nat) (cur' : List Nat) (W : World), used < 64 → cur'.length = cur.length → k + rs.length < cur'.length → Below W0.heap.size W0 W → OwnI 3 W0.heap.size W (.slice (some ⟨g, 0, none⟩) cur.length cap) (toI cur') →
      (∀ m, m < cur'.length → cur'.getD m 0 + sh k (cnt rs used) m ≤ 1099511627776) →
      Calls Tryd.prog 52 #[v, .int .i64 ((i + 1 : Nat) : Int), .int .i64 used, .int .i64 k, .slice (some ⟨g, 0, none⟩) cur.length cap] W (RrPost W0 (.slice (some ⟨g, 0, none⟩) cur.length cap) k (cnt rs used) cur')) :
    Calls Tryd.prog 52 #[v, .int .i64 (i : Nat), .int .i64 used, .int .i64 k, .slice (some ⟨g, 0, none⟩) cur.length cap] W (RrPost W0 (.slice (some ⟨g, 0, none⟩) cur.length cap) k (cnt (r :: rs) used) cur) := by
  have hr64 : r < 64 := by rw [← hr]; exact h.lt _ (List.getElem_mem hi)
  have h6 := h.le
  have hrow := h.row _ (List.getElem_mem hi)
  rw [hr] at hrow
  obtain ⟨a, c, rfl, hlen, hcl2, hc⟩ := hv.openN
  obtain ⟨b, off, rfl, hbl, hcell⟩ := hc (ne_nil_of_lt hi)
  have hci := hcell i hi
  rw [hr] at hci
  have IH := Lib.hid ih
  have HB := Lib.hid hbnd
  have SH := Lib.hid (fun m => sh_cnt k r rs used m)
  have w1 : IntKind.i64.wrap ((i : Int) + 1) = ((i + 1 : Nat) : Int) := by rw [IntWalk.i64_in _ (by omega)]; omega
  have HZ := Lib.hid (show ∀ m c, bs.length ≤ c → rrF r rs used k m c = 0 from fun m c hc => by
    unfold rrF free
    rw [Nat.testBit_lt_two_pow (Nat.lt_of_lt_of_le hrow (Nat.pow_le_pow_right (by decide) hc))]; simp)
  clear hv hc hcell ih hbnd hr h hrow
  go_enter Tryd.func52, Tryd.ntmps52
  go_wp2_with (go_at_call 52; refine (IH.out used k cur W hu rfl (by omega) hb ho (fun m hm => Nat.le_trans (by rw [SH.out]; omega) (HB.out m hm))).mono ?_; rintro e w2 ⟨rfl, cur1, ho1, hb1, hl1, hadd1⟩)
  go_loopw [30] (fun p wr => ∃ (c : Nat) (cu : List Nat), p = .int .i64 c ∧ c ≤ bs.length ∧ OwnI 3 W0.heap.size wr (.slice (some ⟨g, 0, none⟩) cur.length cap) (toI cu) ∧ Below W0.heap.size W0 wr ∧ cu.length = cur.length ∧
      ∀ m, m < cur.length → cu.getD m 0 = cur.getD m 0 + sh k (cnt rs used) m + psum (rrF r rs used k m) c) (fun p _ => bs.length - (intOf p).toNat)
  case atStart => exact ⟨0, cur1, rfl, by omega, ho1, hb1, hl1, fun m hm => by rw [hadd1 m hm]; rfl⟩
  case round =>
    obtain ⟨c, cu, rfl, hc, hoc, hbc, hlc, hadd⟩ := hrel
    have HADD := Lib.hid hadd
    clear hadd hadd1
    by_cases hlt : c < bs.length
    · have hcw := (hbc.cell (p := ⟨b, off + i, none⟩) hbl).trans hci
      have hp := pow_in c (by omega)
      cases hrb : r.testBit c with
      | false =>
        have e1 := bit_walk0 (by omega) hr64 hrb
        have HF := Lib.hid (free_of hrb (rfl : used.testBit c = _))
        clear hrb
        go_wp2
        go_roundw
        case rel => exact ⟨c + 1, cu, by go_num, by omega, hoc, hbc, hlc, fun m hm => by rw [HADD.out m hm, psum]; simp [rrF, HF.out]⟩
        case measure => simp [intOf]; omega
      | true =>
        have e1 := bit_walk1 (by omega) hr64 hrb
        cases hub : used.testBit c with
        | true =>
          have e2 := bit_walk1 (by omega) hu hub
          have HF := Lib.hid (free_of hrb hub)
          clear hrb hub
          go_wp2
          go_roundw
          case rel => exact ⟨c + 1, cu, by go_num, by omega, hoc, hbc, hlc, fun m hm => by rw [HADD.out m hm, psum]; simp [rrF, HF.out]⟩
          case measure => simp [intOf]; omega
        | false =>
          have e2 := bit_walk0 (by omega) hu hub
          have HF := Lib.hid (free_of hrb hub)
          have hor := or_w hu (show c < 6 by omega)
          have hou := or_lt hu (show c < 6 by omega)
          have w2 : IntKind.i64.wrap ((k : Int) + 1) = ((k + 1 : Nat) : Int) := by rw [IntWalk.i64_in _ (by omega)]; omega
          clear hrb hub
          have hB2 : ∀ m, m < cu.length → cu.getD m 0 + sh (k + 1) (cnt rs (used ||| 2 ^ c)) m ≤ 1099511627776 := fun m hm => by
            refine Nat.le_trans ?_ (HB.out m (by omega))
            rw [HADD.out m (by omega), SH.out]
            have h1 : psum (rrF r rs used k m) (c + 1) ≤ psum (rrF r rs used k m) 6 := psum_le _ (by omega)
            rw [psum_six] at h1
            have h2 : rrF r rs used k m c = sh (k + 1) (cnt rs (used ||| 2 ^ c)) m := by simp [rrF, HF.out]
            rw [psum, h2] at h1
            have h3 : csum (rrF r rs used k m) = csum fun c => if free r used c = true then sh (k + 1) (cnt rs (used ||| 2 ^ c)) m else 0 := rfl
            omega
          go_wp2_with (go_at_call 52; refine (IH.out (used ||| 2 ^ c) (k + 1) cu wr hou hlc (by omega) hbc hoc hB2).mono ?_; rintro e w3 ⟨rfl, cur3, ho3, hb3, hl3, hadd3⟩)
          have HA3 := Lib.hid hadd3
          clear hadd3
          go_roundw
          case rel => exact ⟨c + 1, cur3, by go_num, by omega, ho3, hb3, by omega, fun m hm => by rw [HA3.out m (by omega), HADD.out m hm, psum]; simp [rrF, HF.out]; omega⟩
          case measure => simp [intOf]; omega
    · obtain rfl : c = bs.length := by omega
      go_wp2
      go_end0
      refine ⟨rfl, cu, hoc, hbc, hlc, fun m hm => ?_⟩
      rw [HADD.out m hm, SH.out]
      have := psum_zero (rrF r rs used k m) (b := 6) (show bs.length ≤ 6 by omega) (HZ.out m)
      rw [psum_six] at this
      have h3 : csum (rrF r rs used k m) = csum fun c => if free r used c = true then sh (k + 1) (cnt rs (used ||| 2 ^ c)) m else 0 := rfl
      omega

/-- **ref.rooks(a, i, used, k, counts)**. -/
theorem rr_any (v : Value) (bs : List Nat) (h : IsBoard bs) (W0 : World) (hv : Ints W0 v (toI bs)) (g cap N : Nat) (hN : N ≤ 1000) : ∀ (rs : List Nat) (i : Nat), bs.drop i = rs → i ≤ bs.length →
    ∀ (used k : Nat) (cur : List Nat) (W : World), used < 64 → cur.length = N → k + rs.length < cur.length → Below W0.heap.size W0 W → OwnI 3 W0.heap.size W (.slice (some ⟨g, 0, none⟩) N cap) (toI cur) →
      (∀ m, m < cur.length → cur.getD m 0 + sh k (cnt rs used) m ≤ 1099511627776) →
      Calls Tryd.prog 52 #[v, .int .i64 (i : Nat), .int .i64 used, .int .i64 k, .slice (some ⟨g, 0, none⟩) N cap] W (RrPost W0 (.slice (some ⟨g, 0, none⟩) N cap) k (cnt rs used) cur)
  | [], i, hd, hi, used, k, cur, W, hu, hl, hk, hb, ho, hbnd => by
    have : i = bs.length := by have := congrArg List.length hd; simp at this; omega
    subst this
    subst hl
    exact rr_leaf v bs W0 W hv used k g cap cur (by simpa using hk) hb ho (Nat.le_trans (Nat.le_add_right _ _) (hbnd k (by simpa using hk)))
  | r :: rs, i, hd, _, used, k, cur, W, hu, hl, hk, hb, ho, hbnd => by
    have hi : i < bs.length := by have := congrArg List.length hd; simp at this; omega
    have hd' : bs[i] :: bs.drop (i + 1) = r :: rs := by rw [← hd, List.drop_eq_getElem_cons hi]
    obtain ⟨hr, hrs⟩ := List.cons.inj hd'
    subst hl
    refine rr_node v bs h W0 W hv i used k r rs hi hr hu g cap cur (by simp at hk; omega) hN hb ho hbnd ?_
    intro used k cur' W hu hl' hk' hb' ho' hbnd'
    exact rr_any v bs h W0 hv g cap _ hN rs (i + 1) hrs (by omega) used k cur' W hu hl' hk' hb' ho' hbnd'
end Go.Proofs.YtlpnicfbgdfbnaaDoor

/- ref.Rooks. -/
namespace Go.Proofs.YtlpnicfbgdfbnaaDoor
open Go.RowKit

theorem madeCells_replicate (z : Value) (n : Nat) : madeCells #[z] n = (List.replicate n z).toArray := by
  refine Array.ext (by simp [madeCells]) fun i h1 h2 => ?_
  simp [madeCells, Nat.mod_one]
/-- `make([]int, n)`. -/
theorem make_ints (n : Nat) (hn : n ≤ 35184372088832) (w : World) : (Instr.makeSlice 22 (.int .i64 (n : Int)) (.int .i64 (n : Int))).run Tryd.prog w = .ok (.slice (some ⟨w.heap.size, 0, none⟩) n n) (w.alloc (.cells ((toI (List.replicate n 0)).map (Value.int .i64)).toArray 3)) := by
  rw [run_make_row' (P := Tryd.prog) 22 3 (.int .i64 0) 8 Tryd.underlying22 info3 rfl .i64 .i64 n (by omega) (by omega) w, madeCells_replicate]
  simp [toI]
theorem make_ints1 (n : Nat) (hn : n + 1 ≤ 35184372088832) (w : World) : (Instr.makeSlice 22 (.int .i64 ((n : Int) + 1)) (.int .i64 ((n : Int) + 1))).run Tryd.prog w = .ok (.slice (some ⟨w.heap.size, 0, none⟩) (n + 1) (n + 1)) (w.alloc (.cells ((toI (List.replicate (n + 1) 0)).map (Value.int .i64)).toArray 3)) := by
  have := make_ints (n + 1) hn w
  push_cast at this
  exact this
theorem own_zeros {B : Nat} (w : World) (n : Nat) (hB : B ≤ w.heap.size) (hm : n ≤ maxLen) : OwnI 3 B (w.alloc (.cells ((toI (List.replicate n 0)).map (Value.int .i64)).toArray 3)) (.slice (some ⟨w.heap.size, 0, none⟩) n n) (toI (List.replicate n 0)) := by
  have := own_fresh (B := B) w 3 (toI (List.replicate n 0)) hB (by simpa [toI] using hm)
  have e : (toI (List.replicate n 0)).length = n := by simp [toI]
  rw [e] at this
  exact this

theorem sh_zero (f : Nat → Nat) (m : Nat) : sh 0 f m = f m := by simp [sh]

set_option maxRecDepth 20000 in
set_option maxHeartbeats 2000000 in
theorem refRooks_any (v : Value) (bs : List Nat) (w : World) (hv : Ints w v (toI bs)) (h : IsBoard bs) :
    Calls Tryd.prog 24 #[v] w fun e w' => ∃ v', e = .returned v' ∧ OwnI 3 w.heap.size w' v' (toI (numL bs 0)) ∧ Below w.heap.size w w' := by
  have h6 := h.le
  have w1 : IntKind.i64.wrap ((bs.length : Int) + 1) = (bs.length : Int) + 1 := IntWalk.i64_in _ (by omega)
  have hmk := make_ints1 bs.length (by omega)
  have hb0 : Below w.heap.size w (w.alloc (.cells ((toI (List.replicate (bs.length + 1) 0)).map (Value.int .i64)).toArray 3)) := (Below.refl _ _).alloc (Nat.le_refl _) _
  have C := Lib.hid (rr_any v bs h w hv w.heap.size (bs.length + 1) (bs.length + 1) (by omega) bs 0 rfl (by omega) 0 0 (List.replicate (bs.length + 1) 0) _ (by decide) (by simp) (by simp) hb0 (own_zeros w _ (Nat.le_refl _) (by unfold maxLen; omega))
    (fun m hm => by
      rw [sh_zero, ← numL_cnt _ _ _ h.lt]
      have := numL_lt bs 0 m h.le
      have e : (List.replicate (bs.length + 1) 0).getD m 0 = 0 := by simp [List.getD, List.getElem?_replicate]; split <;> rfl
      omega))
  have LT := Lib.hid h.lt
  obtain ⟨a, c, rfl, hlen, hcl2, hc⟩ := hv.openN
  clear hv h hc
  go_enter Tryd.func24, Tryd.ntmps24
  go_wp2_with (go_at_call 52; refine C.out.mono ?_; rintro e w2 ⟨rfl, cur1, ho1, hb1, hl1, hadd1⟩)
  go_ret
  refine ⟨_, rfl, ?_, hb1⟩
  have : cur1 = numL bs 0 := by
    refine getD_ext (by rw [hl1, numL_length]; simp) fun m hm => ?_
    rw [hadd1 m (by omega), sh_zero, ← numL_cnt _ _ _ LT.out]
    have e : (List.replicate (bs.length + 1) 0).getD m 0 = 0 := by simp [List.getD, List.getElem?_replicate]; split <;> rfl
    omega
  rw [← this]
  exact ho1
end Go.Proofs.YtlpnicfbgdfbnaaDoor

/- ref.hits, board.hit: how many rooks of a permutation stand on the board. -/
namespace Go.Proofs.YtlpnicfbgdfbnaaDoor
open Go.RowKit

def hitN : List Nat → List Nat → Nat
  | r :: bs, c :: p => (if r.testBit c then 1 else 0) + hitN bs p
  | _, _ => 0
theorem hitN_nil (bs : List Nat) : hitN bs [] = 0 := by cases bs <;> rfl
theorem hitN_take_succ : ∀ (bs p : List Nat) (k : Nat) (hk : k < p.length) (hb : k < bs.length), hitN bs (p.take (k + 1)) = hitN bs (p.take k) + if bs[k].testBit p[k] then 1 else 0
  | [], _, _, _, hb => by simp at hb
  | _ :: _, [], _, hk, _ => by simp at hk
  | r :: bs, c :: p, 0, _, _ => by simp [hitN, hitN_nil]
  | r :: bs, c :: p, k + 1, hk, hb => by
    have := hitN_take_succ bs p k (by simpa using hk) (by simpa using hb)
    simp only [List.take_succ_cons, hitN, List.getElem_cons_succ] at this ⊢
    omega
theorem hitN_le : ∀ (bs p : List Nat), hitN bs p ≤ p.length
  | [], _ => by simp [hitN]
  | _ :: _, [] => by simp [hitN]
  | r :: bs, c :: p => by
    have := hitN_le bs p
    simp only [hitN, List.length_cons]
    split <;> omega

set_option maxRecDepth 20000 in
set_option maxHeartbeats 2000000 in
theorem refhits_any (v vp : Value) (bs p : List Nat) (w : World) (hv : Ints w v (toI bs)) (hp : Ints w vp (toI p)) (h64 : ∀ r ∈ bs, r < 64) (h6 : ∀ c ∈ p, c < 6) (hl : p.length ≤ bs.length) (hl6 : bs.length ≤ 6) :
    Calls Tryd.prog 54 #[v, vp] w fun e w' => e = .returned (.int .i64 (hitN bs p : Nat)) ∧ w = w' := by
  obtain ⟨a, c, rfl, hlen, hcl, hc⟩ := hv.openN
  obtain ⟨a', c', rfl, hlen', hcl', hc'⟩ := hp.openN
  clear hv hp
  go_enter Tryd.func54, Tryd.ntmps54
  go_wp2
  go_loopw [5, 10] (fun s p1 wr => ∃ k : Nat, p1 = .int .i64 k ∧ s = .int .i64 (hitN bs (p.take k) : Nat) ∧ k ≤ p.length ∧ wr = w) (fun _ p1 _ => p.length - (intOf p1).toNat)
  case atStart => exact ⟨0, rfl, by simp [hitN_nil], by omega, rfl⟩
  case round =>
    obtain ⟨k, rfl, rfl, hk, rfl⟩ := hrel
    by_cases hlt : k < p.length
    · obtain ⟨b, off, rfl, hbl, hcell⟩ := hc (ne_nil_of_lt (show k < bs.length by omega))
      obtain ⟨b2, off2, rfl, hbl2, hcell2⟩ := hc' (ne_nil_of_lt hlt)
      have c1 := hcell k (by omega)
      have c2 := hcell2 k hlt
      have hr := h64 _ (List.getElem_mem (show k < bs.length by omega))
      have hj := h6 _ (List.getElem_mem hlt)
      have hs := Lib.hid (hitN_take_succ bs p k hlt (by omega))
      have hle : hitN bs (p.take k) ≤ 6 := Nat.le_trans (hitN_le _ _) (by simp; omega)
      obtain ⟨s, hs0⟩ : ∃ s, hitN bs (p.take k) = s := ⟨_, rfl⟩
      obtain ⟨r, hr0⟩ : ∃ r, bs[k]'(by omega) = r := ⟨_, rfl⟩
      obtain ⟨j, hj0⟩ : ∃ j, p[k] = j := ⟨_, rfl⟩
      rw [hs0] at hs hle ⊢
      rw [hr0] at c1 hr hs
      rw [hj0] at c2 hj hs
      clear hcell hcell2 hc hc' hs0 hr0 hj0
      cases hb : r.testBit j with
      | false =>
        have e1 := bit_walk0 hj hr hb
        have w1 : IntKind.i64.wrap ((s : Int) + 0) = (s : Int) := by rw [Int.add_zero]; exact IntWalk.i64_in _ (by omega)
        have HS := Lib.hid (show hitN bs (p.take (k + 1)) = s by rw [hs.out, hb]; simp)
        clear hs hb
        go_wp2
        go_roundw
        case rel => exact ⟨k + 1, by go_num, by rw [HS.out], by omega, trivial⟩
        case measure => simp [intOf]; omega
      | true =>
        have e1 := bit_walk1 hj hr hb
        have w1 : IntKind.i64.wrap ((s : Int) + 1) = (s : Int) + 1 := IntWalk.i64_in _ (by omega)
        have HS := Lib.hid (show hitN bs (p.take (k + 1)) = s + 1 by rw [hs.out, hb]; simp)
        clear hs hb
        go_wp2
        go_roundw
        case rel => exact ⟨k + 1, by go_num, by rw [HS.out]; simp, by omega, trivial⟩
        case measure => simp [intOf]; omega
    · obtain rfl : k = p.length := by omega
      have HT := Lib.hid (show p.take p.length = p from List.take_length)
      go_wp2
      go_ret
      exact ⟨by rw [HT.out]; rfl, rfl⟩

set_option maxRecDepth 20000 in
set_option maxHeartbeats 2000000 in
theorem hit_any (v vp : Value) (bs p : List Nat) (w : World) (hv : Ints w v (toI bs)) (hp : Ints w vp (toI p)) (h64 : ∀ r ∈ bs, r < 64) (h6 : ∀ c ∈ p, c < 6) (hl : p.length ≤ bs.length) (hl6 : bs.length ≤ 6) :
    Calls Tryd.prog 51 #[v, vp] w fun e w' => e = .returned (.int .i64 (hitN bs p : Nat)) ∧ w = w' := by
  obtain ⟨a, c, rfl, hlen, hcl, hc⟩ := hv.openN
  obtain ⟨a', c', rfl, hlen', hcl', hc'⟩ := hp.openN
  clear hv hp
  go_enter Tryd.func51, Tryd.ntmps51
  go_wp2
  go_loopw [5, 10] (fun s p1 wr => ∃ k : Nat, p1 = .int .i64 k ∧ s = .int .i64 (hitN bs (p.take k) : Nat) ∧ k ≤ p.length ∧ wr = w) (fun _ p1 _ => p.length - (intOf p1).toNat)
  case atStart => exact ⟨0, rfl, by simp [hitN_nil], by omega, rfl⟩
  case round =>
    obtain ⟨k, rfl, rfl, hk, rfl⟩ := hrel
    by_cases hlt : k < p.length
    · obtain ⟨b, off, rfl, hbl, hcell⟩ := hc (ne_nil_of_lt (show k < bs.length by omega))
      obtain ⟨b2, off2, rfl, hbl2, hcell2⟩ := hc' (ne_nil_of_lt hlt)
      have c1 := hcell k (by omega)
      have c2 := hcell2 k hlt
      have hr := h64 _ (List.getElem_mem (show k < bs.length by omega))
      have hj := h6 _ (List.getElem_mem hlt)
      have hs := Lib.hid (hitN_take_succ bs p k hlt (by omega))
      have hle : hitN bs (p.take k) ≤ 6 := Nat.le_trans (hitN_le _ _) (by simp; omega)
      obtain ⟨s, hs0⟩ : ∃ s, hitN bs (p.take k) = s := ⟨_, rfl⟩
      obtain ⟨r, hr0⟩ : ∃ r, bs[k]'(by omega) = r := ⟨_, rfl⟩
      obtain ⟨j, hj0⟩ : ∃ j, p[k] = j := ⟨_, rfl⟩
      rw [hs0] at hs hle ⊢
      rw [hr0] at c1 hr hs
      rw [hj0] at c2 hj hs
      clear hcell hcell2 hc hc' hs0 hr0 hj0
      cases hb : r.testBit j with
      | false =>
        have e1 := bit_walk0 hj hr hb
        have w1 : IntKind.i64.wrap ((s : Int) + 0) = (s : Int) := by rw [Int.add_zero]; exact IntWalk.i64_in _ (by omega)
        have HS := Lib.hid (show hitN bs (p.take (k + 1)) = s by rw [hs.out, hb]; simp)
        clear hs hb
        go_wp2
        go_roundw
        case rel => exact ⟨k + 1, by go_num, by rw [HS.out], by omega, trivial⟩
        case measure => simp [intOf]; omega
      | true =>
        have e1 := bit_walk1 hj hr hb
        have w1 : IntKind.i64.wrap ((s : Int) + 1) = (s : Int) + 1 := IntWalk.i64_in _ (by omega)
        have HS := Lib.hid (show hitN bs (p.take (k + 1)) = s + 1 by rw [hs.out, hb]; simp)
        clear hs hb
        go_wp2
        go_roundw
        case rel => exact ⟨k + 1, by go_num, by rw [HS.out]; simp, by omega, trivial⟩
        case measure => simp [intOf]; omega
    · obtain rfl : k = p.length := by omega
      have HT := Lib.hid (show p.take p.length = p from List.take_length)
      go_wp2
      go_ret
      exact ⟨by rw [HT.out]; rfl, rfl⟩
end Go.Proofs.YtlpnicfbgdfbnaaDoor
