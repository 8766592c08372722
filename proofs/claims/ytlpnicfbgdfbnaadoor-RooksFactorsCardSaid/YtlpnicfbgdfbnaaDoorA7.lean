/- A7: Sl2 of the seat's texts, in this order. -/
import Derived.Test.YtlpnicfbgdfbnaaDoorA6

/- RooksStairs: the walk. -/
namespace Go.Proofs.YtlpnicfbgdfbnaaDoor
open Go.RowKit Go.Shelf
attribute [local go_sem] Oper.semAt_some

theorem stairB_take {xs : List Int} : stairB (xs.take 9) = stairB xs := by
  by_cases h : xs.length ≤ 9
  · rw [List.take_of_length_le h]
  · have h1 : decide ((xs.take 9).length ≤ 6) = false := by simp; omega
    have h2 : decide (xs.length ≤ 6) = false := by simp; omega
    unfold stairB
    rw [h1, h2]
    simp
theorem take_stair {hs : List Nat} (h : Stp hs) : (toI hs).take 9 = toI hs := List.take_of_length_le (by rw [toI_length]; have := h.le; omega)
theorem resHt_len (bs : List Nat) : (resHt bs).1.length ≤ bs.length := by
  unfold resHt
  split
  · rw [riseN_len, List.length_map]; exact Nat.le_refl _
  · simp

set_option maxRecDepth 20000 in
set_option maxHeartbeats 2000000 in
theorem StairsL_nn (v u : Value) (xs : List Int) (ys : List Int) (w : World) (hv : Ints w v (xs)) (hu : Ints w u (ys)) (ht : Tab w) (hl : stairB xs = false) (h : boardB ys = false) :
    Calls Tryd.prog 10 #[v, u] w (True1 w) := by
  have C15 := Lib.hid (fun w' (hb : Below w.heap.size w w') => list_any v xs w' (hv.below hb))
  have C35 := Lib.hid (fun v' w' (hb : Ints w' v' (xs.take 9)) => Stair_no v' _ w' hb (by rw [stairB_take]; exact hl))
  have C37 := Lib.hid (fun w' (hb : Below w.heap.size w w') => by have := Steps_any v _ w' (hv.below hb); rw [hl] at this; exact this)
  have hl9 : (xs.take 9).length ≤ 17592186044416 := by simp; omega
  have D15 := Lib.hid (fun w' (hb : Below w.heap.size w w') => list_any u ys w' (hu.below hb))
  have C36 := Lib.hid (fun v' w' (hb : Ints w' v' (ys.take 9)) => Heights_no v' _ w' hb (by rw [boardB_take]; exact h))
  have C17 := Lib.hid (fun w' (hb : Below w.heap.size w w') => by have := Board_any u _ w' (hu.below hb); rw [h] at this; exact this)
  have hm9 : (ys.take 9).length ≤ 17592186044416 := by simp; omega
  have C18 := Lib.hid (fun w' (hb : Below w.heap.size w w') => awake_any w' (ht.below hb))
  have C20 := Lib.hid (fun v1 v2 (xs : List Int) w' (h1 : Ints w' v1 xs) (h2 : Ints w' v2 xs) => by have := Equal_any v1 v2 _ _ w' h1 h2; rw [show decide (xs = xs) = true by simp] at this; exact this)
  obtain ⟨a, c, rfl, hlen, hcl, hc⟩ := hv
  obtain ⟨a2, c2, rfl, hlen2, hcl2, hc2⟩ := hu
  have hb0 := Below.refl w.heap.size w
  clear hc hc2 ht hl h
  go_enter Tryd.func10, Tryd.ntmps10
  go_wp2_with (first
      | (go_at_call 17; refine (C17.out w6 hb6).mono ?_; rintro e w7 ⟨rfl, rfl⟩; have tok7 : True := trivial)
      | (go_at_call 18; refine (C18.out w4 hb4).mono ?_; rintro e w6 ⟨rfl, hb6'⟩; have hb6 := hb4.trans (hb6'.mono hb4.size))
      | (go_at_call 37; refine (C37.out w4 hb4).mono ?_; rintro e w5 ⟨rfl, rfl⟩; have tok5 : True := trivial)
      | (go_at_call 36; refine (C36.out v3 w3 (ho3.ints hm9)).mono ?_; rintro e w4 ⟨rfl, hb4'⟩; have hb4 := hb3.trans (hb4'.mono hb3.size))
      | (go_at_call 15; refine (D15.out w2 hb2).mono ?_; rintro e w3 ⟨v3, rfl, ho3, hb3'⟩; have hb3 := hb2.trans (hb3'.mono hb2.size))
      | (go_at_call 35; refine (C35.out v1 w1 (ho1.ints hl9)).mono ?_; rintro e w2 ⟨rfl, hb2'⟩; have hb2 := hb1.trans (hb2'.mono hb1.size))
      | (go_at_call 15; refine (C15.out w hb0).mono ?_; rintro e w1 ⟨v1, rfl, ho1, hb1'⟩; have hb1 := hb1'))
  go_ret
  exact ⟨rfl, hb6⟩

set_option maxRecDepth 20000 in
set_option maxHeartbeats 2000000 in
theorem StairsL_ny (v u : Value) (xs : List Int) (bs : List Nat) (w : World) (hv : Ints w v (xs)) (hu : Ints w u (toI bs)) (ht : Tab w) (hl : stairB xs = false) (h : IsBoard bs) :
    Calls Tryd.prog 10 #[v, u] w (True1 w) := by
  have C15 := Lib.hid (fun w' (hb : Below w.heap.size w w') => list_any v xs w' (hv.below hb))
  have C35 := Lib.hid (fun v' w' (hb : Ints w' v' (xs.take 9)) => Stair_no v' _ w' hb (by rw [stairB_take]; exact hl))
  have C37 := Lib.hid (fun w' (hb : Below w.heap.size w w') => by have := Steps_any v _ w' (hv.below hb); rw [hl] at this; exact this)
  have hl9 : (xs.take 9).length ≤ 17592186044416 := by simp; omega
  have D15 := Lib.hid (fun w' (hb : Below w.heap.size w w') => by have := list_any u _ w' (hu.below hb); rw [take_board h] at this; exact this)
  have C36 := Lib.hid (fun v' w' (hb : Ints w' v' (toI bs)) => Heights_yes v' bs w' hb h)
  have C39 := Lib.hid (fun w' (hb : Below w.heap.size w w') => refHeights_any u bs w' (hu.below hb) h)
  have C17 := Lib.hid (fun w' (hb : Below w.heap.size w w') => by have := Board_any u _ w' (hu.below hb); rw [boardB_board h] at this; exact this)
  have hm9 : (toI bs).length ≤ 17592186044416 := hu.len
  have hlH : (toI (resHt bs).1).length ≤ 17592186044416 := by rw [toI_length]; have := resHt_len bs; have := h.le; omega
  unfold HtIs at C36 C39
  obtain ⟨A, hA⟩ : ∃ A, resHt bs = A := ⟨_, rfl⟩
  rw [hA] at C36 C39 hlH
  obtain ⟨rl, re⟩ := A
  have C18 := Lib.hid (fun w' (hb : Below w.heap.size w w') => awake_any w' (ht.below hb))
  have C20 := Lib.hid (fun v1 v2 (xs : List Int) w' (h1 : Ints w' v1 xs) (h2 : Ints w' v2 xs) => by have := Equal_any v1 v2 _ _ w' h1 h2; rw [show decide (xs = xs) = true by simp] at this; exact this)
  obtain ⟨a, c, rfl, hlen, hcl, hc⟩ := hv
  obtain ⟨a2, c2, rfl, hlen2, hcl2, hc2⟩ := hu
  have hb0 := Below.refl w.heap.size w
  clear hc hc2 ht hl h hA
  go_enter Tryd.func10, Tryd.ntmps10
  go_wp2_with (first
      | (go_at_call 20; refine (C20.out v4 v9 _ w8 hk9 (ho9.ints hlH)).mono ?_; rintro e w9 ⟨rfl, hb9'⟩; have hb9 := hb8.trans (hb9'.mono hb8.size))
      | (go_at_call 39; refine (C39.out w6 hb6).mono ?_; rintro e w8 ⟨v9, rfl, ho9, hb8'⟩; have hb8 := hb6.trans (hb8'.mono hb6.size); have hk9 := ((ho4.below hb6').below hb8').ints hlH)
      | (go_at_call 17; refine (C17.out w6 hb6).mono ?_; rintro e w7 ⟨rfl, rfl⟩; have tok7 : True := trivial)
      | (go_at_call 18; refine (C18.out w4 hb4).mono ?_; rintro e w6 ⟨rfl, hb6'⟩; have hb6 := hb4.trans (hb6'.mono hb4.size))
      | (go_at_call 37; refine (C37.out w4 hb4).mono ?_; rintro e w5 ⟨rfl, rfl⟩; have tok5 : True := trivial)
      | (go_at_call 36; refine (C36.out v3 w3 (ho3.ints hm9)).mono ?_; rintro e w4 ⟨v4, rfl, ho4, hb4'⟩; have hb4 := hb3.trans (hb4'.mono hb3.size))
      | (go_at_call 15; refine (D15.out w2 hb2).mono ?_; rintro e w3 ⟨v3, rfl, ho3, hb3'⟩; have hb3 := hb2.trans (hb3'.mono hb2.size))
      | (go_at_call 35; refine (C35.out v1 w1 (ho1.ints hl9)).mono ?_; rintro e w2 ⟨rfl, hb2'⟩; have hb2 := hb1.trans (hb2'.mono hb1.size))
      | (go_at_call 15; refine (C15.out w hb0).mono ?_; rintro e w1 ⟨v1, rfl, ho1, hb1'⟩; have hb1 := hb1'))
  go_ret
  exact ⟨rfl, hb9⟩

set_option maxRecDepth 20000 in
set_option maxHeartbeats 2000000 in
theorem StairsL_yn (v u : Value) (hs : List Nat) (ys : List Int) (w : World) (hv : Ints w v (toI hs)) (hu : Ints w u (ys)) (ht : Tab w) (hl : Stp hs) (h : boardB ys = false) :
    Calls Tryd.prog 10 #[v, u] w (True1 w) := by
  have C15 := Lib.hid (fun w' (hb : Below w.heap.size w w') => by have := list_any v _ w' (hv.below hb); rw [take_stair hl] at this; exact this)
  have C35 := Lib.hid (fun v' w' (hb : Ints w' v' (toI hs)) => Stair_yes v' hs w' hb hl)
  have C37 := Lib.hid (fun w' (hb : Below w.heap.size w w') => by have := Steps_any v _ w' (hv.below hb); rw [stairB_of hl] at this; exact this)
  have C38 := Lib.hid (fun w' (hb : Below w.heap.size w w') => refStair_any v hs w' (hv.below hb) hl)
  have hl9 : (toI hs).length ≤ 17592186044416 := hv.len
  have hlS : (toI (stairL hs)).length ≤ 17592186044416 := by rw [toI_length, stairL_length]; have := hl.le; omega
  have D15 := Lib.hid (fun w' (hb : Below w.heap.size w w') => list_any u ys w' (hu.below hb))
  have C36 := Lib.hid (fun v' w' (hb : Ints w' v' (ys.take 9)) => Heights_no v' _ w' hb (by rw [boardB_take]; exact h))
  have C17 := Lib.hid (fun w' (hb : Below w.heap.size w w') => by have := Board_any u _ w' (hu.below hb); rw [h] at this; exact this)
  have hm9 : (ys.take 9).length ≤ 17592186044416 := by simp; omega
  have C18 := Lib.hid (fun w' (hb : Below w.heap.size w w') => awake_any w' (ht.below hb))
  have C20 := Lib.hid (fun v1 v2 (xs : List Int) w' (h1 : Ints w' v1 xs) (h2 : Ints w' v2 xs) => by have := Equal_any v1 v2 _ _ w' h1 h2; rw [show decide (xs = xs) = true by simp] at this; exact this)
  obtain ⟨a, c, rfl, hlen, hcl, hc⟩ := hv
  obtain ⟨a2, c2, rfl, hlen2, hcl2, hc2⟩ := hu
  have hb0 := Below.refl w.heap.size w
  clear hc hc2 ht hl h
  go_enter Tryd.func10, Tryd.ntmps10
  go_wp2_with (first
      | (go_at_call 17; refine (C17.out w9 hb9).mono ?_; rintro e w10 ⟨rfl, rfl⟩; have tok10 : True := trivial)
      | (go_at_call 18; refine (C18.out w7 hb7).mono ?_; rintro e w9 ⟨rfl, hb9'⟩; have hb9 := hb7.trans (hb9'.mono hb7.size))
      | (go_at_call 37; refine (C37.out w7 hb7).mono ?_; rintro e w8 ⟨rfl, rfl⟩; have tok8 : True := trivial)
      | (go_at_call 20; refine (C20.out v2 v6 _ w6 hk6 (ho6.ints hlS)).mono ?_; rintro e w7 ⟨rfl, hb7'⟩; have hb7 := hb6.trans (hb7'.mono hb6.size))
      | (go_at_call 38; refine (C38.out w4 hb4).mono ?_; rintro e w6 ⟨v6, rfl, ho6, hb6'⟩; have hb6 := hb4.trans (hb6'.mono hb4.size); have hk6 := (((ho2.below hb3').below hb4').below hb6').ints hlS)
      | (go_at_call 37; refine (C37.out w4 hb4).mono ?_; rintro e w5 ⟨rfl, rfl⟩; have tok5 : True := trivial)
      | (go_at_call 36; refine (C36.out v3 w3 (ho3.ints hm9)).mono ?_; rintro e w4 ⟨rfl, hb4'⟩; have hb4 := hb3.trans (hb4'.mono hb3.size))
      | (go_at_call 15; refine (D15.out w2 hb2).mono ?_; rintro e w3 ⟨v3, rfl, ho3, hb3'⟩; have hb3 := hb2.trans (hb3'.mono hb2.size))
      | (go_at_call 35; refine (C35.out v1 w1 (ho1.ints hl9)).mono ?_; rintro e w2 ⟨v2, rfl, ho2, hb2'⟩; have hb2 := hb1.trans (hb2'.mono hb1.size))
      | (go_at_call 15; refine (C15.out w hb0).mono ?_; rintro e w1 ⟨v1, rfl, ho1, hb1'⟩; have hb1 := hb1'))
  go_ret
  exact ⟨rfl, hb9⟩

set_option maxRecDepth 20000 in
set_option maxHeartbeats 2000000 in
theorem StairsL_yy (v u : Value) (hs : List Nat) (bs : List Nat) (w : World) (hv : Ints w v (toI hs)) (hu : Ints w u (toI bs)) (ht : Tab w) (hl : Stp hs) (h : IsBoard bs) :
    Calls Tryd.prog 10 #[v, u] w (True1 w) := by
  have C15 := Lib.hid (fun w' (hb : Below w.heap.size w w') => by have := list_any v _ w' (hv.below hb); rw [take_stair hl] at this; exact this)
  have C35 := Lib.hid (fun v' w' (hb : Ints w' v' (toI hs)) => Stair_yes v' hs w' hb hl)
  have C37 := Lib.hid (fun w' (hb : Below w.heap.size w w') => by have := Steps_any v _ w' (hv.below hb); rw [stairB_of hl] at this; exact this)
  have C38 := Lib.hid (fun w' (hb : Below w.heap.size w w') => refStair_any v hs w' (hv.below hb) hl)
  have hl9 : (toI hs).length ≤ 17592186044416 := hv.len
  have hlS : (toI (stairL hs)).length ≤ 17592186044416 := by rw [toI_length, stairL_length]; have := hl.le; omega
  have D15 := Lib.hid (fun w' (hb : Below w.heap.size w w') => by have := list_any u _ w' (hu.below hb); rw [take_board h] at this; exact this)
  have C36 := Lib.hid (fun v' w' (hb : Ints w' v' (toI bs)) => Heights_yes v' bs w' hb h)
  have C39 := Lib.hid (fun w' (hb : Below w.heap.size w w') => refHeights_any u bs w' (hu.below hb) h)
  have C17 := Lib.hid (fun w' (hb : Below w.heap.size w w') => by have := Board_any u _ w' (hu.below hb); rw [boardB_board h] at this; exact this)
  have hm9 : (toI bs).length ≤ 17592186044416 := hu.len
  have hlH : (toI (resHt bs).1).length ≤ 17592186044416 := by rw [toI_length]; have := resHt_len bs; have := h.le; omega
  unfold HtIs at C36 C39
  obtain ⟨A, hA⟩ : ∃ A, resHt bs = A := ⟨_, rfl⟩
  rw [hA] at C36 C39 hlH
  obtain ⟨rl, re⟩ := A
  have C18 := Lib.hid (fun w' (hb : Below w.heap.size w w') => awake_any w' (ht.below hb))
  have C20 := Lib.hid (fun v1 v2 (xs : List Int) w' (h1 : Ints w' v1 xs) (h2 : Ints w' v2 xs) => by have := Equal_any v1 v2 _ _ w' h1 h2; rw [show decide (xs = xs) = true by simp] at this; exact this)
  obtain ⟨a, c, rfl, hlen, hcl, hc⟩ := hv
  obtain ⟨a2, c2, rfl, hlen2, hcl2, hc2⟩ := hu
  have hb0 := Below.refl w.heap.size w
  clear hc hc2 ht hl h hA
  go_enter Tryd.func10, Tryd.ntmps10
  go_wp2_with (first
      | (go_at_call 20; refine (C20.out v4 v9 _ w11 hk9 (ho9.ints hlH)).mono ?_; rintro e w12 ⟨rfl, hb12'⟩; have hb12 := hb11.trans (hb12'.mono hb11.size))
      | (go_at_call 39; refine (C39.out w9 hb9).mono ?_; rintro e w11 ⟨v9, rfl, ho9, hb11'⟩; have hb11 := hb9.trans (hb11'.mono hb9.size); have hk9 := ((((ho4.below hb6').below hb7').below hb9').below hb11').ints hlH)
      | (go_at_call 17; refine (C17.out w9 hb9).mono ?_; rintro e w10 ⟨rfl, rfl⟩; have tok10 : True := trivial)
      | (go_at_call 18; refine (C18.out w7 hb7).mono ?_; rintro e w9 ⟨rfl, hb9'⟩; have hb9 := hb7.trans (hb9'.mono hb7.size))
      | (go_at_call 37; refine (C37.out w7 hb7).mono ?_; rintro e w8 ⟨rfl, rfl⟩; have tok8 : True := trivial)
      | (go_at_call 20; refine (C20.out v2 v6 _ w6 hk6 (ho6.ints hlS)).mono ?_; rintro e w7 ⟨rfl, hb7'⟩; have hb7 := hb6.trans (hb7'.mono hb6.size))
      | (go_at_call 38; refine (C38.out w4 hb4).mono ?_; rintro e w6 ⟨v6, rfl, ho6, hb6'⟩; have hb6 := hb4.trans (hb6'.mono hb4.size); have hk6 := (((ho2.below hb3').below hb4').below hb6').ints hlS)
      | (go_at_call 37; refine (C37.out w4 hb4).mono ?_; rintro e w5 ⟨rfl, rfl⟩; have tok5 : True := trivial)
      | (go_at_call 36; refine (C36.out v3 w3 (ho3.ints hm9)).mono ?_; rintro e w4 ⟨v4, rfl, ho4, hb4'⟩; have hb4 := hb3.trans (hb4'.mono hb3.size))
      | (go_at_call 15; refine (D15.out w2 hb2).mono ?_; rintro e w3 ⟨v3, rfl, ho3, hb3'⟩; have hb3 := hb2.trans (hb3'.mono hb2.size))
      | (go_at_call 35; refine (C35.out v1 w1 (ho1.ints hl9)).mono ?_; rintro e w2 ⟨v2, rfl, ho2, hb2'⟩; have hb2 := hb1.trans (hb2'.mono hb1.size))
      | (go_at_call 15; refine (C15.out w hb0).mono ?_; rintro e w1 ⟨v1, rfl, ho1, hb1'⟩; have hb1 := hb1'))
  go_ret
  exact ⟨rfl, hb12⟩

theorem rooksStairs_true (v : Value) (xs : List Int) (u : Value) (ys : List Int) (w : World) (hv : Ints w v xs) (hu : Ints w u ys) (ht : Tab w) :
    Calls Tryd.prog 10 #[v, u] w (True1 w) := by
  cases hl : stairB xs with
  | false =>
    cases hb : boardB ys with
    | false => exact StairsL_nn v u xs ys w hv hu ht hl hb
    | true =>
      obtain ⟨bs, rfl, h⟩ := board_of hb
      exact StairsL_ny v u xs bs w hv hu ht hl h
  | true =>
    obtain ⟨hs, rfl, hs'⟩ := stair_of hl
    cases hb : boardB ys with
    | false => exact StairsL_yn v u hs ys w hv hu ht hs' hb
    | true =>
      obtain ⟨bs, rfl, h⟩ := board_of hb
      exact StairsL_yy v u hs bs w hv hu ht hs' h
end Go.Proofs.YtlpnicfbgdfbnaaDoor
