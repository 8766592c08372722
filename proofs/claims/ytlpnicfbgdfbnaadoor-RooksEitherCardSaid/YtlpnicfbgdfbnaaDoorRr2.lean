/- ref.Rooks. -/
import Derived.Test.YtlpnicfbgdfbnaaDoorRr
import Derived.Deep.OwnRows
namespace Go.Proofs.YtlpnicfbgdfbnaaDoor
open Go.RowKit

theorem madeCells_replicate (z : Value) (n : Nat) : madeCells #[z] n = (List.replicate n z).toArray := by
  refine Array.ext (by simp [madeCells]) fun i h1 h2 => ?_
  simp [madeCells, Nat.mod_one]
/-- `make([]int, n)`. -/
theorem make_ints (n : Nat) (hn : n ≤ 35184372088832) (w : World) : (Instr.makeSlice 22 (.int .i64 (n : Int)) (.int .i64 (n : Int))).run Tryd.prog w = .ok (.slice (some ⟨w.heap.size, 0, none⟩) n n) (w.alloc (.cells ((toI (List.replicate n 0)).map (Value.int .i64)).toArray 3)) := by
  rw [run_make_row' (P := Tryd.prog) 22 3 (.int .i64 0) 8 Tryd.underlying22 info3 rfl .i64 .i64 n (by omega) (by omega) w, madeCells_replicate]
  simp [toI]
theorem make_ints1 (n : Nat) (hn : n + 1 ≤ 35184372088832) (w : World) : (Instr.makeSlice 22 (.int .i64 ((n : Int) + 1)) (.int .i64 ((n : Int) + 1))).run Tryd.prog w = .ok (.slice (some ⟨w.heap.size, 0, none⟩) (n + 1) (n + 1)) (w.alloc (.cells ((toI (List.replicate (n + 1) 0)).map (Value.int .i64)).toArray 3)) := by
  have := make_ints (n + 1) hn w
  push_cast at this
  exact this
theorem own_zeros {B : Nat} (w : World) (n : Nat) (hB : B ≤ w.heap.size) (hm : n ≤ maxLen) : OwnI 3 B (w.alloc (.cells ((toI (List.replicate n 0)).map (Value.int .i64)).toArray 3)) (.slice (some ⟨w.heap.size, 0, none⟩) n n) (toI (List.replicate n 0)) := by
  have := own_fresh (B := B) w 3 (toI (List.replicate n 0)) hB (by simpa [toI] using hm)
  have e : (toI (List.replicate n 0)).length = n := by simp [toI]
  rw [e] at this
  exact this

theorem sh_zero (f : Nat → Nat) (m : Nat) : sh 0 f m = f m := by simp [sh]

set_option maxRecDepth 20000 in
set_option maxHeartbeats 2000000 in
theorem refRooks_any (v : Value) (bs : List Nat) (w : World) (hv : Ints w v (toI bs)) (h : IsBoard bs) :
    Calls Tryd.prog 24 #[v] w fun e w' => ∃ v', e = .returned v' ∧ OwnI 3 w.heap.size w' v' (toI (numL bs 0)) ∧ Below w.heap.size w w' := by
  have h6 := h.le
  have w1 : IntKind.i64.wrap ((bs.length : Int) + 1) = (bs.length : Int) + 1 := IntWalk.i64_in _ (by omega)
  have hmk := make_ints1 bs.length (by omega)
  have hb0 : Below w.heap.size w (w.alloc (.cells ((toI (List.replicate (bs.length + 1) 0)).map (Value.int .i64)).toArray 3)) := (Below.refl _ _).alloc (Nat.le_refl _) _
  have C := Lib.hid (rr_any v bs h w hv w.heap.size (bs.length + 1) (bs.length + 1) (by omega) bs 0 rfl (by omega) 0 0 (List.replicate (bs.length + 1) 0) _ (by decide) (by simp) (by simp) hb0 (own_zeros w _ (Nat.le_refl _) (by unfold maxLen; omega))
    (fun m hm => by
      rw [sh_zero, ← numL_cnt _ _ _ h.lt]
      have := numL_lt bs 0 m h.le
      have e : (List.replicate (bs.length + 1) 0).getD m 0 = 0 := by simp [List.getD, List.getElem?_replicate]; split <;> rfl
      omega))
  have LT := Lib.hid h.lt
  obtain ⟨a, c, rfl, hlen, hcl2, hc⟩ := hv.openN
  clear hv h hc
  go_enter Tryd.func24, Tryd.ntmps24
  go_wp2_with (go_at_call 52; refine C.out.mono ?_; rintro e w2 ⟨rfl, cur1, ho1, hb1, hl1, hadd1⟩)
  go_ret
  refine ⟨_, rfl, ?_, hb1⟩
  have : cur1 = numL bs 0 := by
    refine getD_ext (by rw [hl1, numL_length]; simp) fun m hm => ?_
    rw [hadd1 m (by omega), sh_zero, ← numL_cnt _ _ _ LT.out]
    have e : (List.replicate (bs.length + 1) 0).getD m 0 = 0 := by simp [List.getD, List.getElem?_replicate]; split <;> rfl
    omega
  rw [← this]
  exact ho1
end Go.Proofs.YtlpnicfbgdfbnaaDoor
