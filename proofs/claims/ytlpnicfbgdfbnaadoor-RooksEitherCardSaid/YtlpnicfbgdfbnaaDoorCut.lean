/- RooksCut. -/
import Derived.Test.YtlpnicfbgdfbnaaDoorLess
import Derived.Test.YtlpnicfbgdfbnaaDoorCp
namespace Go.Proofs.YtlpnicfbgdfbnaaDoor
open Go.RowKit

theorem cut_board {bs : List Nat} {i j : Nat} (h : IsBoard bs) : IsBoard (cutAt bs i j) := by
  have hl : (cutAt bs i j).length = bs.length := by simp [cutAt]
  refine ⟨by rw [hl]; exact h.pos, by rw [hl]; exact h.le, ?_⟩
  intro x hx
  rw [hl]
  obtain ⟨k, hk, rfl⟩ := List.mem_iff_getElem.1 hx
  unfold cutAt at hk ⊢
  rw [List.getElem_modify]
  have hk' : k < bs.length := by simpa using hk
  have hr := h.row _ (List.getElem_mem hk')
  split
  · unfold diffS
    exact Nat.xor_lt_two_pow hr (Nat.lt_of_le_of_lt Nat.and_le_left hr)
  · exact hr

theorem delcol_small : ∀ r : Nat, r < 64 → ∀ n : Nat, n < 7 → ∀ j : Nat, j < 6 → (!(decide (j < n) && decide (r < 2 ^ n)) || decide (delcol j r < 2 ^ (n - 1))) = true := by decide +kernel
theorem eraseIdx_len {bs : List Nat} {i : Nat} (hi : i < bs.length) : (bs.eraseIdx i).length = bs.length - 1 := by simp [List.length_eraseIdx, hi]
theorem without_len {bs : List Nat} {i j : Nat} (hi : i < bs.length) : (without bs i j).length = bs.length - 1 := by rw [without_eq]; simp [eraseIdx_len hi]
theorem without_board {bs : List Nat} {i j : Nat} (h : IsBoard bs) (h2 : 2 ≤ bs.length) (hi : i < bs.length) (hj : j < bs.length) : IsBoard (without bs i j) := by
  refine ⟨by rw [without_len hi]; omega, by rw [without_len hi]; have := h.le; omega, ?_⟩
  intro x hx
  rw [without_len hi]
  rw [without_eq] at hx
  obtain ⟨r, hr, rfl⟩ := List.mem_map.1 hx
  have hr' := List.mem_of_mem_eraseIdx hr
  have := delcol_small r (h.lt r hr') bs.length (by have := h.le; omega) j (by have := h.le; omega)
  simpa [hj, h.row r hr'] using this

theorem bit_walk : ∀ j : Nat, j < 6 → ∀ r : Nat, r < 64 → bits BinOp.and IntKind.i64 ((r : Int) / (2 : Int) ^ j) 1 = if r.testBit j then 1 else 0 := by decide +kernel
theorem cut_walk : ∀ j : Nat, j < 6 → ∀ r : Nat, r < 64 → bits BinOp.andNot IntKind.i64 (r : Int) ((2 : Int) ^ j) = ((diffS r (2 ^ j) : Nat) : Int) := by decide +kernel

set_option maxHeartbeats 2000000 in
theorem Cut_no (v : Value) (xs : List Int) (i j : Int) (w : World) (hv : Ints w v xs) (ht : Tab w) (h : boardB xs = false) :
    Calls Tryd.prog 3 #[v, .int .i64 i, .int .i64 j] w (True1 w) := by
  have C15 := Lib.hid (fun w' (hb : Below w.heap.size w w') => list_any v xs w' (hv.below hb))
  have C14 := Lib.hid (fun v' w' (hb : Ints w' v' (xs.take 9)) => Rooks_no v' (xs.take 9) w' hb (by rw [boardB_take]; exact h))
  have C16 := Lib.hid (fun v' w' (hb : Ints w' v' (xs.take 9)) => Without_no v' (xs.take 9) i j w' hb (by rw [boardB_take]; exact h))
  have C18 := Lib.hid (fun w' (hb : Below w.heap.size w w') => awake_any w' (ht.below hb))
  have hl9 : (xs.take 9).length ≤ 17592186044416 := by simp; omega
  have hb0 := Below.refl w.heap.size w
  clear hv ht h
  go_enter Tryd.func3, Tryd.ntmps3
  go_wp2_with (first
    | (go_at_call 18; refine (C18.out w4 hb4).mono ?_; rintro e w6 ⟨rfl, hb6⟩; replace hb6 := hb4.trans (hb6.mono hb4.size))
    | (go_at_call 16; refine (C16.out v3 w3 (ho3.ints hl9)).mono ?_; rintro e w4 ⟨rfl, hb4⟩; replace hb4 := hb3.trans (hb4.mono hb3.size))
    | (go_at_call 15; refine (C15.out w2 hb2).mono ?_; rintro e w3 ⟨v3, rfl, ho3, hb3⟩; replace hb3 := hb2.trans (hb3.mono hb2.size))
    | (go_at_call 14; refine (C14.out v1 w1 (ho1.ints hl9)).mono ?_; rintro e w2 ⟨rfl, hb2⟩; replace hb2 := hb1.trans (hb2.mono hb1.size))
    | (go_at_call 15; refine (C15.out w hb0).mono ?_; rintro e w1 ⟨v1, rfl, ho1, hb1⟩))
  go_ret
  exact ⟨rfl, hb6⟩

set_option maxHeartbeats 2000000 in
theorem Cut_bad (v : Value) (bs : List Nat) (i j : Int) (w : World) (hv : Ints w v (toI bs)) (ht : Tab w) (h : IsBoard bs) (hbad : ¬ WArgs bs.length i j) :
    Calls Tryd.prog 3 #[v, .int .i64 i, .int .i64 j] w (True1 w) := by
  have C15 := Lib.hid (fun w' (hb : Below w.heap.size w w') => by have := list_any v _ w' (hv.below hb); rw [take_board h] at this; exact this)
  have C14 := Lib.hid (fun v' w' (hb : Ints w' v' (toI bs)) (hk : Below w.heap.size w w') => Rooks_yes v' bs w' hb h (ht.below hk))
  have C16 := Lib.hid (fun v' w' (hb : Ints w' v' (toI bs)) => Without_bad v' bs i j w' hb h hbad)
  have C18 := Lib.hid (fun w' (hb : Below w.heap.size w w') => awake_any w' (ht.below hb))
  have hl9 : (toI bs).length ≤ 17592186044416 := hv.len
  have hb0 := Below.refl w.heap.size w
  clear hv ht h hbad
  go_enter Tryd.func3, Tryd.ntmps3
  go_wp2_with (first
    | (go_at_call 18; refine (C18.out w4 hb4).mono ?_; rintro e w6 ⟨rfl, hb6⟩; replace hb6 := hb4.trans (hb6.mono hb4.size))
    | (go_at_call 16; refine (C16.out v3 w3 (ho3.ints hl9)).mono ?_; rintro e w4 ⟨rfl, hb4⟩; replace hb4 := hb3.trans (hb4.mono hb3.size))
    | (go_at_call 15; refine (C15.out w2 hb2).mono ?_; rintro e w3 ⟨v3, rfl, ho3, hb3⟩; replace hb3 := hb2.trans (hb3.mono hb2.size))
    | (go_at_call 14; refine (C14.out v1 w1 (ho1.ints hl9) hb1).mono ?_; rintro e w2 ⟨v2, rfl, ho2, hb2⟩; replace hb2 := hb1.trans (hb2.mono hb1.size))
    | (go_at_call 15; refine (C15.out w hb0).mono ?_; rintro e w1 ⟨v1, rfl, ho1, hb1⟩))
  go_ret
  exact ⟨rfl, hb6⟩

set_option maxRecDepth 20000 in
set_option maxHeartbeats 2000000 in
theorem Cut_clear (v : Value) (bs : List Nat) (i j : Nat) (w : World) (hv : Ints w v (toI bs)) (ht : Tab w) (h : IsBoard bs) (h2 : 2 ≤ bs.length) (hi : i < bs.length) (hj : j < bs.length) (hbit : bs[i].testBit j = false) :
    Calls Tryd.prog 3 #[v, .int .i64 i, .int .i64 j] w (True1 w) := by
  have C15 := Lib.hid (fun w' (hb : Below w.heap.size w w') => by have := list_any v _ w' (hv.below hb); rw [take_board h] at this; exact this)
  have C14 := Lib.hid (fun v' w' (hb : Ints w' v' (toI bs)) (hk : Below w.heap.size w w') => Rooks_yes v' bs w' hb h (ht.below hk))
  have C16 := Lib.hid (fun v' w' (hb : Ints w' v' (toI bs)) => Without_yes v' bs i j w' hb h h2 hi hj)
  have C17 := Lib.hid (fun w' (hb : Below w.heap.size w w') => by have := Board_any v _ w' (hv.below hb); rw [boardB_board h] at this; exact this)
  have C18 := Lib.hid (fun w' (hb : Below w.heap.size w w') => awake_any w' (ht.below hb))
  have hl9 : (toI bs).length ≤ 17592186044416 := hv.len
  obtain ⟨a, c, rfl, hlen, hcl, hc⟩ := hv.openN
  obtain ⟨b, off, rfl, hbl, hcell⟩ := hc (ne_nil_of_lt hi)
  have hci := hcell i hi
  have hr64 := h.lt _ (List.getElem_mem hi)
  have hw := bit_walk j (by have := h.le; omega) _ hr64
  rw [hbit] at hw
  have h6 := h.le
  have hb0 := Below.refl w.heap.size w
  clear hv ht h hc hcell hbit
  go_enter Tryd.func3, Tryd.ntmps3
  go_wp2_with (first
    | (go_at_call 18; refine (C18.out w4 hb4).mono ?_; rintro e w6 ⟨rfl, hb6⟩; replace hb6 := hb4.trans (hb6.mono hb4.size))
    | (go_at_call 17; refine (C17.out w4 hb4).mono ?_; rintro e w5 ⟨rfl, rfl⟩; have hci4 := (hb4.cell (p := ⟨b, off + i, none⟩) hbl).trans hci)
    | (go_at_call 16; refine (C16.out v3 w3 (ho3.ints hl9)).mono ?_; rintro e w4 ⟨v4, rfl, ho4, hb4⟩; replace hb4 := hb3.trans (hb4.mono hb3.size))
    | (go_at_call 15; refine (C15.out w2 hb2).mono ?_; rintro e w3 ⟨v3, rfl, ho3, hb3⟩; replace hb3 := hb2.trans (hb3.mono hb2.size))
    | (go_at_call 14; refine (C14.out v1 w1 (ho1.ints hl9) hb1).mono ?_; rintro e w2 ⟨v2, rfl, ho2, hb2⟩; replace hb2 := hb1.trans (hb2.mono hb1.size))
    | (go_at_call 15; refine (C15.out w hb0).mono ?_; rintro e w1 ⟨v1, rfl, ho1, hb1⟩))
  go_ret
  exact ⟨rfl, hb6⟩
end Go.Proofs.YtlpnicfbgdfbnaaDoor
