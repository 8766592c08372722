/- RooksAvoids. -/
import Derived.Test.YtlpnicfbgdfbnaaDoorBar
namespace Go.Proofs.YtlpnicfbgdfbnaaDoor
open Go.RowKit Go.Shelf

def resA (bs : List Nat) : List Nat × Nat := match firstA bs with | none => ([], 4) | some l => (l, 0)
def resB (bs : List Nat) : Nat × Nat × Nat := match firstB bs with | none => (0, 0, 4) | some S => (S, comm bs S bs.length, 0)

theorem Avoid_res (v : Value) (bs : List Nat) (w : World) (hv : Ints w v (toI bs)) (h : IsBoard bs) (ht : Tab w) :
    Calls Tryd.prog 31 #[v] w fun e w' => ∃ v', e = .returned (.tuple #[v', .int .i64 ((resA bs).2 : Nat)]) ∧ OwnI 3 w.heap.size w' v' (toI (resA bs).1) ∧ Below w.heap.size w w' := by
  unfold resA
  cases hf : firstA bs with
  | none => exact (Avoid_none v bs w hv h ht hf).mono fun e w' ⟨h1, h2⟩ => ⟨_, h1, OwnI.nil _ _ _, h2⟩
  | some l => exact (Avoid_some v bs l w hv h ht hf).mono fun e w' ⟨v', h1, h2, h3⟩ => ⟨v', h1, h2, h3⟩
theorem refAvoid_res (v : Value) (bs : List Nat) (w : World) (hv : Ints w v (toI bs)) (h : IsBoard bs) :
    Calls Tryd.prog 33 #[v] w fun e w' => ∃ v', e = .returned (.tuple #[v', .int .i64 ((resA bs).2 : Nat)]) ∧ OwnI 3 w.heap.size w' v' (toI (resA bs).1) ∧ Below w.heap.size w w' := by
  refine (refAvoid_any v bs w hv h).mono fun e w' ⟨hb, h2⟩ => ?_
  unfold resA
  cases hf : firstA bs with
  | none => rw [hf] at h2; exact ⟨_, h2, OwnI.nil _ _ _, hb⟩
  | some l => rw [hf] at h2; obtain ⟨v', h3, h4⟩ := h2; exact ⟨v', h3, h4, hb⟩
theorem bar_res {bs : List Nat} {w w' : World} {e : Ending} (h : BarIs bs w e w') : e = .returned (.tuple #[.int .i64 ((resB bs).1 : Nat), .int .i64 ((resB bs).2.1 : Nat), .int .i64 ((resB bs).2.2 : Nat)]) ∧ Below w.heap.size w w' := by
  refine ⟨?_, h.1⟩
  have h2 := h.2
  unfold resB
  cases hf : firstB bs with
  | none => rw [hf] at h2; exact h2
  | some S => rw [hf] at h2; exact h2

set_option maxRecDepth 20000 in
set_option maxHeartbeats 2000000 in
theorem AvoidsL_no (v : Value) (xs : List Int) (w : World) (hv : Ints w v xs) (ht : Tab w) (h : boardB xs = false) :
    Calls Tryd.prog 8 #[v] w (True1 w) := by
  have C15 := Lib.hid (fun w' (hb : Below w.heap.size w w') => list_any v xs w' (hv.below hb))
  have C31 := Lib.hid (fun v' w' (hb : Ints w' v' (xs.take 9)) => Avoid_no v' (xs.take 9) w' hb (by rw [boardB_take]; exact h))
  have C32 := Lib.hid (fun v' w' (hb : Ints w' v' (xs.take 9)) => Barrier_no v' (xs.take 9) w' hb (by rw [boardB_take]; exact h))
  have C17 := Lib.hid (fun w' (hb : Below w.heap.size w w') => by have := Board_any v xs w' (hv.below hb); rw [h] at this; exact this)
  have C18 := Lib.hid (fun w' (hb : Below w.heap.size w w') => awake_any w' (ht.below hb))
  have hl9 : (xs.take 9).length ≤ 17592186044416 := by simp; omega
  have hb0 := Below.refl w.heap.size w
  clear hv ht h
  go_enter Tryd.func8, Tryd.ntmps8
  go_wp2_with (first
      | (go_at_call 18; refine (C18.out w4 hb4).mono ?_; rintro e w6 ⟨rfl, hb6⟩; replace hb6 := hb4.trans (hb6.mono hb4.size))
      | (go_at_call 17; refine (C17.out w4 hb4).mono ?_; rintro e w5 ⟨rfl, rfl⟩)
      | (go_at_call 32; refine (C32.out v3 w3 (ho3.ints hl9)).mono ?_; rintro e w4 ⟨rfl, hb4⟩; replace hb4 := hb3.trans (hb4.mono hb3.size))
      | (go_at_call 15; refine (C15.out w2 hb2).mono ?_; rintro e w3 ⟨v3, rfl, ho3, hb3⟩; replace hb3 := hb2.trans (hb3.mono hb2.size))
      | (go_at_call 31; refine (C31.out v1 w1 (ho1.ints hl9)).mono ?_; rintro e w2 ⟨rfl, hb2⟩; replace hb2 := hb1.trans (hb2.mono hb1.size))
      | (go_at_call 15; refine (C15.out w hb0).mono ?_; rintro e w1 ⟨v1, rfl, ho1, hb1⟩))
  go_ret
  exact ⟨rfl, hb6⟩

set_option maxRecDepth 20000 in
set_option maxHeartbeats 2000000 in
theorem AvoidsL_yes (v : Value) (bs : List Nat) (w : World) (hv : Ints w v (toI bs)) (ht : Tab w) (h : IsBoard bs) :
    Calls Tryd.prog 8 #[v] w (True1 w) := by
  have C15 := Lib.hid (fun w' (hb : Below w.heap.size w w') => by have := list_any v _ w' (hv.below hb); rw [take_board h] at this; exact this)
  have C31 := Lib.hid (fun v' w' (hb : Ints w' v' (toI bs)) (hw : Below w.heap.size w w') => Avoid_res v' bs w' hb h (ht.below hw))
  have C32 := Lib.hid (fun v' w' (hb : Ints w' v' (toI bs)) => (Barrier_yes v' bs w' hb h).mono fun _ _ h => bar_res h)
  have C17 := Lib.hid (fun w' (hb : Below w.heap.size w w') => by have := Board_any v _ w' (hv.below hb); rw [boardB_board h] at this; exact this)
  have C18 := Lib.hid (fun w' (hb : Below w.heap.size w w') => awake_any w' (ht.below hb))
  have C33 := Lib.hid (fun w' (hb : Below w.heap.size w w') => refAvoid_res v bs w' (hv.below hb) h)
  have C34 := Lib.hid (fun w' (hb : Below w.heap.size w w') => (refBarrier_any v bs w' (hv.below hb) h).mono fun _ _ h => bar_res h)
  have C20 := Lib.hid (fun v1 v2 (xs : List Int) w' (h1 : Ints w' v1 xs) (h2 : Ints w' v2 xs) => by have := Equal_any v1 v2 _ _ w' h1 h2; rw [show decide (xs = xs) = true by simp] at this; exact this)
  have hl9 : (toI bs).length ≤ 17592186044416 := hv.len
  have hlA : (toI (resA bs).1).length ≤ 17592186044416 := by
    rw [toI_length]
    unfold resA
    cases hf : firstA bs with
    | none => simp
    | some l => have := firstA_len hf; have := h.le; simp only; omega
  obtain ⟨A, hA⟩ : ∃ A, resA bs = A := ⟨_, rfl⟩
  obtain ⟨B, hB⟩ : ∃ B, resB bs = B := ⟨_, rfl⟩
  rw [hA] at C31 C33 hlA
  rw [hB] at C32 C34
  obtain ⟨l, ea⟩ := A
  obtain ⟨p, q, eb⟩ := B
  obtain ⟨a, c, rfl, hlen, hcl, hc⟩ := hv.openN
  have hb0 := Below.refl w.heap.size w
  clear hv ht h hc hA hB
  go_enter Tryd.func8, Tryd.ntmps8
  go_wp2_with (first
      | (go_at_call 18; refine (C18.out w7 hb7).mono ?_; rintro e w8 ⟨rfl, hb8'⟩; have hb8 := hb7.trans (hb8'.mono hb7.size))
      | (go_at_call 20; refine (C20.out v2 v5 _ w6 (hk6.ints hlA) ((ho5.below hb6').ints hlA)).mono ?_; rintro e w7 ⟨rfl, hb7'⟩; have hb7 := hb6.trans (hb7'.mono hb6.size))
      | (go_at_call 34; refine (C34.out w5 hb5).mono ?_; rintro e w6 ⟨rfl, hb6'⟩; have hb6 := hb5.trans (hb6'.mono hb5.size); have hk6 := (((ho2.below hb3').below hb4').below hb5').below hb6')
      | (go_at_call 33; refine (C33.out w4 hb4).mono ?_; rintro e w5 ⟨v5, rfl, ho5, hb5'⟩; have hb5 := hb4.trans (hb5'.mono hb4.size))
      | (go_at_call 17; refine (C17.out w4 hb4).mono ?_; rintro e w5 ⟨rfl, rfl⟩)
      | (go_at_call 32; refine (C32.out v3 w3 (ho3.ints hl9)).mono ?_; rintro e w4 ⟨rfl, hb4'⟩; have hb4 := hb3.trans (hb4'.mono hb3.size))
      | (go_at_call 15; refine (C15.out w2 hb2).mono ?_; rintro e w3 ⟨v3, rfl, ho3, hb3'⟩; have hb3 := hb2.trans (hb3'.mono hb2.size))
      | (go_at_call 31; refine (C31.out v1 w1 (ho1.ints hl9) hb1).mono ?_; rintro e w2 ⟨v2, rfl, ho2, hb2'⟩; have hb2 := hb1.trans (hb2'.mono hb1.size))
      | (go_at_call 15; refine (C15.out w hb0).mono ?_; rintro e w1 ⟨v1, rfl, ho1, hb1⟩))
  go_ret
  exact ⟨rfl, hb8⟩

theorem rooksAvoids_true (v : Value) (xs : List Int) (w : World) (hv : Ints w v xs) (ht : Tab w) :
    Calls Tryd.prog 8 #[v] w (True1 w) := by
  cases hb : boardB xs with
  | false => exact AvoidsL_no v xs w hv ht hb
  | true =>
    obtain ⟨bs, rfl, h⟩ := board_of hb
    exact AvoidsL_yes v bs w hv ht h
end Go.Proofs.YtlpnicfbgdfbnaaDoor
