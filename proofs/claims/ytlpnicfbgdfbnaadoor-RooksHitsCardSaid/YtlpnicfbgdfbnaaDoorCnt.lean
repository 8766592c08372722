/- RooksCounts. -/
import Derived.Test.YtlpnicfbgdfbnaaDoorLess
import Derived.Test.YtlpnicfbgdfbnaaDoorRr2
import Derived.Test.YtlpnicfbgdfbnaaDoorRh
namespace Go.Proofs.YtlpnicfbgdfbnaaDoor
open Go.RowKit

set_option maxRecDepth 20000 in
set_option maxHeartbeats 2000000 in
theorem Counts_no (v : Value) (xs : List Int) (w : World) (hv : Ints w v xs) (ht : Tab w) (h : boardB xs = false) :
    Calls Tryd.prog 5 #[v] w (True1 w) := by
  have C15 := Lib.hid (fun w' (hb : Below w.heap.size w w') => list_any v xs w' (hv.below hb))
  have C14 := Lib.hid (fun v' w' (hb : Ints w' v' (xs.take 9)) => Rooks_no v' (xs.take 9) w' hb (by rw [boardB_take]; exact h))
  have C23 := Lib.hid (fun v' w' (hb : Ints w' v' (xs.take 9)) => Hits_no v' (xs.take 9) w' hb (by rw [boardB_take]; exact h))
  have C17 := Lib.hid (fun w' (hb : Below w.heap.size w w') => by have := Board_any v xs w' (hv.below hb); rw [h] at this; exact this)
  have C18 := Lib.hid (fun w' (hb : Below w.heap.size w w') => awake_any w' (ht.below hb))
  have hl9 : (xs.take 9).length ≤ 17592186044416 := by simp; omega
  have hb0 := Below.refl w.heap.size w
  clear hv ht h
  go_enter Tryd.func5, Tryd.ntmps5
  go_wp2_with (first
      | (go_at_call 18; refine (C18.out w4 hb4).mono ?_; rintro e w6 ⟨rfl, hb6⟩; replace hb6 := hb4.trans (hb6.mono hb4.size))
      | (go_at_call 17; refine (C17.out w4 hb4).mono ?_; rintro e w5 ⟨rfl, rfl⟩)
      | (go_at_call 23; refine (C23.out v3 w3 (ho3.ints hl9)).mono ?_; rintro e w4 ⟨rfl, hb4⟩; replace hb4 := hb3.trans (hb4.mono hb3.size))
      | (go_at_call 15; refine (C15.out w2 hb2).mono ?_; rintro e w3 ⟨v3, rfl, ho3, hb3⟩; replace hb3 := hb2.trans (hb3.mono hb2.size))
      | (go_at_call 14; refine (C14.out v1 w1 (ho1.ints hl9)).mono ?_; rintro e w2 ⟨rfl, hb2⟩; replace hb2 := hb1.trans (hb2.mono hb1.size))
      | (go_at_call 15; refine (C15.out w hb0).mono ?_; rintro e w1 ⟨v1, rfl, ho1, hb1⟩))
  go_ret
  exact ⟨rfl, hb6⟩

set_option maxRecDepth 20000 in
set_option maxHeartbeats 2000000 in
theorem Counts_yes (v : Value) (bs : List Nat) (w : World) (hv : Ints w v (toI bs)) (ht : Tab w) (h : IsBoard bs) :
    Calls Tryd.prog 5 #[v] w (True1 w) := by
  have C15 := Lib.hid (fun w' (hb : Below w.heap.size w w') => by have := list_any v _ w' (hv.below hb); rw [take_board h] at this; exact this)
  have C14 := Lib.hid (fun v' w' (hb : Ints w' v' (toI bs)) (hw : Below w.heap.size w w') => Rooks_yes v' bs w' hb h (ht.below hw))
  have C23 := Lib.hid (fun v' w' (hb : Ints w' v' (toI bs)) (hw : Below w.heap.size w w') => Hits_yes v' bs w' hb h (ht.below hw))
  have C17 := Lib.hid (fun w' (hb : Below w.heap.size w w') => by have := Board_any v _ w' (hv.below hb); rw [boardB_board h] at this; exact this)
  have C18 := Lib.hid (fun w' (hb : Below w.heap.size w w') => awake_any w' (ht.below hb))
  have C24 := Lib.hid (fun w' (hb : Below w.heap.size w w') => refRooks_any v bs w' (hv.below hb) h)
  have C25 := Lib.hid (fun w' (hb : Below w.heap.size w w') => refHits_any v bs w' (hv.below hb) h)
  have C20 := Lib.hid (fun v1 v2 (xs : List Int) w' (h1 : Ints w' v1 xs) (h2 : Ints w' v2 xs) => by have := Equal_any v1 v2 _ _ w' h1 h2; rw [show decide (xs = xs) = true by simp] at this; exact this)
  have hl9 : (toI bs).length ≤ 17592186044416 := hv.len
  have hln : (toI (numL bs 0)).length ≤ 17592186044416 := by rw [toI_length, numL_length]; have := h.le; omega
  have hlh : (toI (hitsL bs)).length ≤ 17592186044416 := by rw [toI_length, hitsL_length]; have := h.le; omega
  obtain ⟨a, c, rfl, hlen, hcl, hc⟩ := hv.openN
  have hb0 := Below.refl w.heap.size w
  clear hv ht h hc
  go_enter Tryd.func5, Tryd.ntmps5
  go_wp2_with (first
      | (go_at_call 18; refine (C18.out w8 hb8).mono ?_; rintro e w9 ⟨rfl, hb9'⟩; have hb9 := hb8.trans (hb9'.mono hb8.size))
      | (go_at_call 20; refine (C20.out v4 v7 _ w7 ((ho4.below (hb45.trans ((hb6'.mono hb5'.size).trans (hb7'.mono (Nat.le_trans hb5'.size hb6'.size))))).ints hlh) (ho7.ints hlh)).mono ?_; rintro e w8 ⟨rfl, hb8'⟩; have hb8 := hb7.trans (hb8'.mono hb7.size))
      | (go_at_call 25; refine (C25.out w6 hb6).mono ?_; rintro e w7 ⟨v7, rfl, ho7, hb7'⟩; have hb7 := hb6.trans (hb7'.mono hb6.size))
      | (go_at_call 20; refine (C20.out v2 v5 _ w5 ((ho2.below ((hb3'.trans (hb4'.mono hb3'.size)).trans (hb5'.mono (Nat.le_trans hb3'.size hb4'.size)))).ints hln) (ho5.ints hln)).mono ?_; rintro e w6 ⟨rfl, hb6'⟩; have hb6 := hb5.trans (hb6'.mono hb5.size))
      | (go_at_call 24; refine (C24.out w4 hb4).mono ?_; rintro e w5 ⟨v5, rfl, ho5, hb5'⟩; have hb5 := hb4.trans (hb5'.mono hb4.size); have hb45 := hb5')
      | (go_at_call 17; refine (C17.out w4 hb4).mono ?_; rintro e w5 ⟨rfl, rfl⟩)
      | (go_at_call 23; refine (C23.out v3 w3 (ho3.ints hl9) hb3).mono ?_; rintro e w4 ⟨v4, rfl, ho4, hb4'⟩; have hb4 := hb3.trans (hb4'.mono hb3.size))
      | (go_at_call 15; refine (C15.out w2 hb2).mono ?_; rintro e w3 ⟨v3, rfl, ho3, hb3'⟩; have hb3 := hb2.trans (hb3'.mono hb2.size))
      | (go_at_call 14; refine (C14.out v1 w1 (ho1.ints hl9) hb1).mono ?_; rintro e w2 ⟨v2, rfl, ho2, hb2'⟩; have hb2 := hb1.trans (hb2'.mono hb1.size))
      | (go_at_call 15; refine (C15.out w hb0).mono ?_; rintro e w1 ⟨v1, rfl, ho1, hb1⟩))
  go_ret
  exact ⟨rfl, hb9⟩

theorem rooksCounts_true (v : Value) (xs : List Int) (w : World) (hv : Ints w v xs) (ht : Tab w) :
    Calls Tryd.prog 5 #[v] w (True1 w) := by
  cases hb : boardB xs with
  | false => exact Counts_no v xs w hv ht hb
  | true =>
    obtain ⟨bs, rfl, h⟩ := board_of hb
    exact Counts_yes v bs w hv ht h
end Go.Proofs.YtlpnicfbgdfbnaaDoor
