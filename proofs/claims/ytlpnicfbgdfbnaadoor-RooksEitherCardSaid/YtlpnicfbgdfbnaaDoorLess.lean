/- RooksLess. -/
import Derived.Test.YtlpnicfbgdfbnaaDoorRk
import Derived.Test.YtlpnicfbgdfbnaaDoorWp
import Derived.Test.YtlpnicfbgdfbnaaDoorOt
import Derived.Test.YtlpnicfbgdfbnaaDoorWo
namespace Go.Proofs.YtlpnicfbgdfbnaaDoor
open Go.RowKit

theorem boardB_take {xs : List Int} : boardB (xs.take 9) = boardB xs := by
  by_cases h : xs.length ≤ 9
  · rw [List.take_of_length_le h]
  · rw [boardB_no_len (.inr (by simp; omega)), boardB_no_len (.inr (by omega))]
theorem take_board {bs : List Nat} (h : IsBoard bs) : (toI bs).take 9 = toI bs := List.take_of_length_le (by rw [toI_length]; have := h.le; omega)

def True1 (w : World) (e : Ending) (w' : World) : Prop := e = .returned (.bool true) ∧ Below w.heap.size w w'

set_option maxHeartbeats 2000000 in
theorem Less_no (v : Value) (xs : List Int) (i j : Int) (w : World) (hv : Ints w v xs) (ht : Tab w) (h : boardB xs = false) :
    Calls Tryd.prog 4 #[v, .int .i64 i, .int .i64 j] w (True1 w) := by
  have C15 := Lib.hid (fun w' (hb : Below w.heap.size w w') => list_any v xs w' (hv.below hb))
  have C16 := Lib.hid (fun v' w' (hb : Ints w' v' (xs.take 9)) => Without_no v' (xs.take 9) i j w' hb (by rw [boardB_take]; exact h))
  have C19 := Lib.hid (fun v' w' (hb : Ints w' v' (xs.take 9)) => Other_no v' (xs.take 9) w' hb (by rw [boardB_take]; exact h))
  have C17 := Lib.hid (fun w' (hb : Below w.heap.size w w') => by have := Board_any v xs w' (hv.below hb); rw [h] at this; exact this)
  have C18 := Lib.hid (fun w' (hb : Below w.heap.size w w') => awake_any w' (ht.below hb))
  have hl9 : (xs.take 9).length ≤ 17592186044416 := by simp; omega
  have hb0 := Below.refl w.heap.size w
  clear hv ht h
  go_enter Tryd.func4, Tryd.ntmps4
  go_wp2_with (first
      | (go_at_call 18; refine (C18.out w4 hb4).mono ?_; rintro e w6 ⟨rfl, hb6⟩; replace hb6 := hb4.trans (hb6.mono hb4.size))
      | (go_at_call 17; refine (C17.out w4 hb4).mono ?_; rintro e w5 ⟨rfl, rfl⟩)
      | (go_at_call 19; refine (C19.out v3 w3 (ho3.ints hl9)).mono ?_; rintro e w4 ⟨rfl, hb4⟩; replace hb4 := hb3.trans (hb4.mono hb3.size))
      | (go_at_call 15; refine (C15.out w2 hb2).mono ?_; rintro e w3 ⟨v3, rfl, ho3, hb3⟩; replace hb3 := hb2.trans (hb3.mono hb2.size))
      | (go_at_call 16; refine (C16.out v1 w1 (ho1.ints hl9)).mono ?_; rintro e w2 ⟨rfl, hb2⟩; replace hb2 := hb1.trans (hb2.mono hb1.size))
      | (go_at_call 15; refine (C15.out w hb0).mono ?_; rintro e w1 ⟨v1, rfl, ho1, hb1⟩))
  go_ret
  exact ⟨rfl, hb6⟩

set_option maxHeartbeats 2000000 in
theorem Less_bad (v : Value) (bs : List Nat) (i j : Int) (w : World) (hv : Ints w v (toI bs)) (ht : Tab w) (h : IsBoard bs) (hbad : ¬ WArgs bs.length i j) :
    Calls Tryd.prog 4 #[v, .int .i64 i, .int .i64 j] w (True1 w) := by
  have C15 := Lib.hid (fun w' (hb : Below w.heap.size w w') => by have := list_any v _ w' (hv.below hb); rw [take_board h] at this; exact this)
  have C16 := Lib.hid (fun v' w' (hb : Ints w' v' (toI bs)) => Without_bad v' bs i j w' hb h hbad)
  have C19 := Lib.hid (fun v' w' (hb : Ints w' v' (toI bs)) => Other_yes v' bs w' hb h)
  have C17 := Lib.hid (fun w' (hb : Below w.heap.size w w') => by have := Board_any v _ w' (hv.below hb); rw [boardB_board h] at this; exact this)
  have C18 := Lib.hid (fun w' (hb : Below w.heap.size w w') => awake_any w' (ht.below hb))
  have C21 := Lib.hid (fun w' (hb : Below w.heap.size w w') => refOther_any v bs w' (hv.below hb) h)
  have C20 := Lib.hid (fun v1 v2 w' (h1 : Ints w' v1 (toI (other bs))) (h2 : Ints w' v2 (toI (other bs))) => by have := Equal_any v1 v2 _ _ w' h1 h2; rw [show decide (toI (other bs) = toI (other bs)) = true by simp] at this; exact this)
  have hl9 : (toI bs).length ≤ 17592186044416 := hv.len
  have hlo : (toI (other bs)).length ≤ 17592186044416 := by have := hv.len; unfold other; simp [toI] at this ⊢; omega
  obtain ⟨a, c, rfl, hlen, hcl, hc⟩ := hv.openN
  have hb0 := Below.refl w.heap.size w
  have hbad' : (bs.length < 2 ∨ (2 ≤ bs.length ∧ i < 0)) ∨ (2 ≤ bs.length ∧ 0 ≤ i ∧ (bs.length : Int) ≤ i) ∨ (2 ≤ bs.length ∧ 0 ≤ i ∧ i < bs.length ∧ (j < 0 ∨ (0 ≤ j ∧ (bs.length : Int) ≤ j))) := by unfold WArgs at hbad; omega
  clear hv ht h hc hbad
  rcases hbad' with (hb | ⟨hb, hi⟩) | ⟨hb, hi, hi2⟩ | ⟨hb, hi, hi2, (hj | ⟨hj, hj2⟩)⟩
  all_goals
    go_enter Tryd.func4, Tryd.ntmps4
    go_wp2_with (first
      | (go_at_call 18; refine (C18.out w6 hb6).mono ?_; rintro e w7 ⟨rfl, hb7⟩; replace hb7 := hb6.trans (hb7.mono hb6.size))
      | (go_at_call 20; refine (C20.out v4 v5 w5 ((ho4.below hb5').ints hlo) (ho5.ints hlo)).mono ?_; rintro e w6 ⟨rfl, hb6⟩; replace hb6 := hb5.trans (hb6.mono hb5.size))
      | (go_at_call 21; refine (C21.out w4 hb4).mono ?_; rintro e w5 ⟨v5, rfl, ho5, hb5'⟩; have hb5 := hb4.trans (hb5'.mono hb4.size))
      | (go_at_call 17; refine (C17.out w4 hb4).mono ?_; rintro e w5 ⟨rfl, rfl⟩)
      | (go_at_call 19; refine (C19.out v3 w3 (ho3.ints hl9)).mono ?_; rintro e w4 ⟨v4, rfl, ho4, hb4'⟩; have hb4 := hb3.trans (hb4'.mono hb3.size))
      | (go_at_call 15; refine (C15.out w2 hb2).mono ?_; rintro e w3 ⟨v3, rfl, ho3, hb3⟩; replace hb3 := hb2.trans (hb3.mono hb2.size))
      | (go_at_call 16; refine (C16.out v1 w1 (ho1.ints hl9)).mono ?_; rintro e w2 ⟨rfl, hb2⟩; replace hb2 := hb1.trans (hb2.mono hb1.size))
      | (go_at_call 15; refine (C15.out w hb0).mono ?_; rintro e w1 ⟨v1, rfl, ho1, hb1⟩))
    go_ret
    exact ⟨rfl, hb7⟩

theorem without_le (bs : List Nat) (i j : Nat) : (without bs i j).length ≤ bs.length := by
  unfold without sel
  exact Nat.le_trans (List.length_filterMap_le _ _) (by simp)

set_option maxHeartbeats 2000000 in
theorem Less_yes (v : Value) (bs : List Nat) (i j : Nat) (w : World) (hv : Ints w v (toI bs)) (ht : Tab w) (h : IsBoard bs) (h2 : 2 ≤ bs.length) (hi : i < bs.length) (hj : j < bs.length) :
    Calls Tryd.prog 4 #[v, .int .i64 i, .int .i64 j] w (True1 w) := by
  have C15 := Lib.hid (fun w' (hb : Below w.heap.size w w') => by have := list_any v _ w' (hv.below hb); rw [take_board h] at this; exact this)
  have C16 := Lib.hid (fun v' w' (hb : Ints w' v' (toI bs)) => Without_yes v' bs i j w' hb h h2 hi hj)
  have C22 := Lib.hid (fun w' (hb : Below w.heap.size w w') => refWithout_any v bs i j w' (hv.below hb) h.le h.lt hi hj)
  have C19 := Lib.hid (fun v' w' (hb : Ints w' v' (toI bs)) => Other_yes v' bs w' hb h)
  have C17 := Lib.hid (fun w' (hb : Below w.heap.size w w') => by have := Board_any v _ w' (hv.below hb); rw [boardB_board h] at this; exact this)
  have C18 := Lib.hid (fun w' (hb : Below w.heap.size w w') => awake_any w' (ht.below hb))
  have C21 := Lib.hid (fun w' (hb : Below w.heap.size w w') => refOther_any v bs w' (hv.below hb) h)
  have C20 := Lib.hid (fun v1 v2 w' (h1 : Ints w' v1 (toI (other bs))) (h2 : Ints w' v2 (toI (other bs))) => by have := Equal_any v1 v2 _ _ w' h1 h2; rw [show decide (toI (other bs) = toI (other bs)) = true by simp] at this; exact this)
  have C20b := Lib.hid (fun v1 v2 w' (h1 : Ints w' v1 (toI (without bs i j))) (h2 : Ints w' v2 (toI (without bs i j))) => by have := Equal_any v1 v2 _ _ w' h1 h2; rw [show decide (toI (without bs i j) = toI (without bs i j)) = true by simp] at this; exact this)
  have hl9 : (toI bs).length ≤ 17592186044416 := hv.len
  have hlo : (toI (other bs)).length ≤ 17592186044416 := by have := hv.len; unfold other; simp [toI] at this ⊢; omega
  have hlw : (toI (without bs i j)).length ≤ 17592186044416 := by rw [toI_length]; exact Nat.le_trans (without_le bs i j) (by have := h.le; omega)
  obtain ⟨a, c, rfl, hlen, hcl, hc⟩ := hv.openN
  have hb0 := Below.refl w.heap.size w
  clear hv ht h hc
  go_enter Tryd.func4, Tryd.ntmps4
  go_wp2_with (first
      | (go_at_call 20; refine (C20b.out v2 v8 w8 hk8 hl8).mono ?_; rintro e w9 ⟨rfl, hb9'⟩; have hb9 := hb8.trans (hb9'.mono hb8.size))
      | (go_at_call 22; refine (C22.out w7 hb7).mono ?_; rintro e w8 ⟨v8, rfl, ho8, hb8'⟩; have hb8 := hb7.trans (hb8'.mono hb7.size); have hk8 := ((((hk4.below hb5').below hb6').below hb7').below hb8').ints hlw; have hl8 := ho8.ints hlw)
      | (go_at_call 18; refine (C18.out w6 hb6).mono ?_; rintro e w7 ⟨rfl, hb7'⟩; have hb7 := hb6.trans (hb7'.mono hb6.size))
      | (go_at_call 20; refine (C20.out v4 v5 w5 ((ho4.below hb5').ints hlo) (ho5.ints hlo)).mono ?_; rintro e w6 ⟨rfl, hb6'⟩; have hb6 := hb5.trans (hb6'.mono hb5.size))
      | (go_at_call 21; refine (C21.out w4 hb4).mono ?_; rintro e w5 ⟨v5, rfl, ho5, hb5'⟩; have hb5 := hb4.trans (hb5'.mono hb4.size))
      | (go_at_call 17; refine (C17.out w4 hb4).mono ?_; rintro e w5 ⟨rfl, rfl⟩)
      | (go_at_call 19; refine (C19.out v3 w3 (ho3.ints hl9)).mono ?_; rintro e w4 ⟨v4, rfl, ho4, hb4'⟩; have hb4 := hb3.trans (hb4'.mono hb3.size); have hk4 := ho2.below (hb3'.trans (hb4'.mono hb3'.size)))
      | (go_at_call 15; refine (C15.out w2 hb2).mono ?_; rintro e w3 ⟨v3, rfl, ho3, hb3'⟩; have hb3 := hb2.trans (hb3'.mono hb2.size))
      | (go_at_call 16; refine (C16.out v1 w1 (ho1.ints hl9)).mono ?_; rintro e w2 ⟨v2, rfl, ho2, hb2'⟩; have hb2 := hb1.trans (hb2'.mono hb1.size))
      | (go_at_call 15; refine (C15.out w hb0).mono ?_; rintro e w1 ⟨v1, rfl, ho1, hb1⟩))
  go_ret
  exact ⟨rfl, hb9⟩

theorem rooksLess_true (v : Value) (xs : List Int) (i j : Int) (w : World) (hv : Ints w v xs) (_ : -9223372036854775808 ≤ i ∧ i ≤ 9223372036854775807) (_ : -9223372036854775808 ≤ j ∧ j ≤ 9223372036854775807) (ht : Tab w) :
    Calls Tryd.prog 4 #[v, .int .i64 i, .int .i64 j] w (True1 w) := by
  cases hb : boardB xs with
  | false => exact Less_no v xs i j w hv ht hb
  | true =>
    obtain ⟨bs, rfl, h⟩ := board_of hb
    by_cases hbad : WArgs bs.length i j
    · unfold WArgs at hbad
      obtain ⟨i', rfl⟩ := Int.eq_ofNat_of_zero_le (show 0 ≤ i by omega)
      obtain ⟨j', rfl⟩ := Int.eq_ofNat_of_zero_le (show 0 ≤ j by omega)
      exact Less_yes v bs i' j' w hv ht h (by omega) (by omega) (by omega)
    · exact Less_bad v bs i j w hv ht h hbad
end Go.Proofs.YtlpnicfbgdfbnaaDoor
