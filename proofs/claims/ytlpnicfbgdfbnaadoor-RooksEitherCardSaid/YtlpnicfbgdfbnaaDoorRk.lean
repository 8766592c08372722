/- rooks.Rooks, awake. -/
import Derived.Test.YtlpnicfbgdfbnaaDoorNu
import Derived.Test.YtlpnicfbgdfbnaaDoorBd
import Derived.Test.YtlpnicfbgdfbnaaDoorEq
namespace Go.Proofs.YtlpnicfbgdfbnaaDoor
open Go.RowKit

set_option maxHeartbeats 400000 in
theorem Rooks_no (v : Value) (xs : List Int) (w : World) (hv : Ints w v xs) (h : boardB xs = false) :
    Calls Tryd.prog 14 #[v] w fun e w' => e = .returned (.tuple #[.slice none 0 0, .int .i64 2]) ∧ Below w.heap.size w w' := by
  have C := valid_any v xs w hv
  rw [h] at C
  go_enter Tryd.func14, Tryd.ntmps14
  go_wp2_with (go_at_call 46; refine C.mono ?_; rintro e w1 ⟨rfl, hb⟩)
  go_ret2
  exact ⟨rfl, hb⟩

set_option maxHeartbeats 400000 in
theorem Rooks_yes (v : Value) (bs : List Nat) (w : World) (hv : Ints w v (toI bs)) (h : IsBoard bs) (ht : Tab w) :
    Calls Tryd.prog 14 #[v] w fun e w' => ∃ v', e = .returned (.tuple #[v', .int .i64 0]) ∧ OwnI 3 w.heap.size w' v' (toI (numL bs 0)) ∧ Below w.heap.size w w' := by
  have C := valid_any v _ w hv
  rw [boardB_board h] at C
  have N := Lib.hid (fun w1 (hb : Below w.heap.size w w1) => numbers_any bs 0 v w1 h.lt h.le (by decide) (hv.below hb) (ht.below hb))
  go_enter Tryd.func14, Tryd.ntmps14
  go_wp2_with (first | (go_at_call 46; refine C.mono ?_; rintro e w1 ⟨rfl, hb⟩) | (go_at_call 47; refine (N.out _ hb).mono ?_; rintro e w2 ⟨v2, rfl, ho, hb2⟩))
  go_ret2
  exact ⟨v2, rfl, ho.mono hb.size, hb.trans (hb2.mono hb.size)⟩

theorem numL_one : numL [1] 0 = [1, 1] := by decide

set_option maxHeartbeats 400000 in
theorem awake_any (w : World) (ht : Tab w) : Calls Tryd.prog 18 #[] w fun e w' => e = .returned (.bool true) ∧ Below w.heap.size w w' := by
  have hb0 : Below w.heap.size w (w.alloc (.cells #[.int .i64 1] 3)) := (Below.refl _ _).alloc (Nat.le_refl _) _
  have o1 := own_fresh (B := w.heap.size) w 3 [1] (Nat.le_refl _) (by decide)
  have C := Rooks_yes (.slice (some ⟨w.heap.size, 0, none⟩) 1 1) [1] _ (o1.ints (by decide)) ⟨by decide, by decide, by decide⟩ (ht.below hb0)
  rw [numL_one] at C
  go_enter Tryd.func18, Tryd.ntmps18
  go_wp2_with (go_at_call 14; refine C.mono ?_; rintro e w1 ⟨v1, rfl, ho1, hb1⟩)
  have hb1' := hb1.mono hb0.size
  have o2 := own_fresh (B := w.heap.size) w1 3 [1, 1] (by have := (hb0.trans hb1').size; omega) (by decide)
  have hb2 : Below w.heap.size w (w1.alloc (.cells #[.int .i64 1, .int .i64 1] 3)) := (hb0.trans hb1').alloc (by have := (hb0.trans hb1').size; omega) _
  have E := Equal_any v1 (.slice (some ⟨w1.heap.size, 0, none⟩) 2 2) _ [1, 1] _ ((ho1.alloc _).ints (by decide)) (o2.ints (by decide))
  rw [show decide (toI [1, 1] = [1, 1]) = true by decide] at E
  refine Calls.mono E ?_
  rintro e w2 ⟨rfl, hb3⟩
  rename_i Kx hKx
  refine hKx _ _ ?_
  go_wp2
  go_ret
  exact ⟨rfl, hb2.trans (hb3.mono hb2.size)⟩
end Go.Proofs.YtlpnicfbgdfbnaaDoor
