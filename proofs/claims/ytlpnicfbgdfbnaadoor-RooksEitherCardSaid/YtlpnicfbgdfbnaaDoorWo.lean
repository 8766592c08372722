/- corsageref05.Without. -/
import Derived.Test.YtlpnicfbgdfbnaaDoorSl
import Derived.Test.YtlpnicfbgdfbnaaDoorBits
import Derived.Test.YtlpnicfbgdfbnaaDoorPl
import Derived.StillTailTactics
import Derived.Deep.RegionHeld3
namespace Go.Proofs.YtlpnicfbgdfbnaaDoor
open Go.RowKit

/-- The rows of the board, row i left out, column j cut out of the others. -/
def without (bs : List Nat) (i j : Nat) : List Nat := sel (fun k r => if k = i then none else some (delcol j r)) bs

theorem without_skip (bs : List Nat) (i j k : Nat) (hk : k < bs.length) (h : i = k) : without (bs.take (k + 1)) i j = without (bs.take k) i j := by
  unfold without; rw [sel_take_succ _ _ _ hk, if_pos h.symm]; simp
theorem without_snoc (bs : List Nat) (i j k : Nat) (hk : k < bs.length) (h : ¬ i = k) : without (bs.take (k + 1)) i j = without (bs.take k) i j ++ [delcol j bs[k]] := by
  unfold without; rw [sel_take_succ _ _ _ hk, if_neg (fun e => h e.symm)]; simp

theorem own_snoc {e : TypeId} {B : Nat} {w : World} {v : Value} {xs : List Nat} {y : Int} {n : Nat} (h : OwnI e B w v (toI xs ++ [y])) (hy : y = n) : OwnI e B w v (toI (xs ++ [n])) := by
  subst hy; rw [toI_append]; exact h

theorem below_app {B n : Nat} {w0 w w1 : World} {o : Obj} (h : Below B w0 w) (hB : B ≤ w.heap.size) (hb : Below B (w.alloc o).drew w1) (_ : n = 0) : Below B w0 w1 :=
  (((h.alloc hB o).drew).trans hb)

set_option maxHeartbeats 400000 in
theorem refWithout_any (v : Value) (bs : List Nat) (i j : Nat) (w : World) (hv : Ints w v (toI bs)) (h6 : bs.length ≤ 6) (hr : ∀ r ∈ bs, r < 64) (hi : i < bs.length) (hj : j < bs.length) :
    Calls Tryd.prog 22 #[v, .int .i64 i, .int .i64 j] w fun e w' => ∃ v', e = .returned v' ∧ OwnI 3 w.heap.size w' v' (toI (without bs i j)) ∧ Below w.heap.size w w' := by
  obtain ⟨a, c, rfl, hlen, hcl, hc⟩ := hv.openN
  clear hv
  go_enter Tryd.func22, Tryd.ntmps22
  go_wp2
  go_loopw [7, 12] (fun o ix wr => ∃ k : Nat, k ≤ bs.length ∧ ix = .int .i64 k ∧ OwnI 3 w.heap.size wr o (toI (without (bs.take k) i j)) ∧ Below w.heap.size w wr) (fun _ i _ => bs.length - (intOf i).toNat)
  case atStart => exact ⟨0, Nat.zero_le _, rfl, OwnI.nil _ _ _, Below.refl _ _⟩
  case round =>
    obtain ⟨k, hk, rfl, ho, hb⟩ := hrel
    by_cases hlt : k < bs.length
    · obtain ⟨b, off, rfl, hbl, hcell⟩ := hc (by intro h; simp [h] at hlt)
      have hcx := (hb.cell (p := ⟨b, off + k, none⟩) hbl).trans (hcell k hlt)
      clear hcell hc
      have hx1 : bs[k] < 64 := hr _ (List.getElem_mem _)
      have hle := hb.size
      have hp := pow_in j (by omega)
      have hp1 := pow_in1 j (by omega)
      have hpj : IntKind.i64.wrap ((j : Int) + 1) = (j : Int) + 1 := IntWalk.i64_in _ (by omega)
      by_cases hik : i = k
      · have H := Lib.hid (without_skip bs i j k hlt hik)
        have H2 := Lib.hid hik; clear hik
        have hik' : i ≤ k := by have := H2.out; omega
        have hki' : k ≤ i := by have := H2.out; omega
        go_wp2
        go_roundw
        case rel => exact ⟨k + 1, by omega, by go_num, by rw [H.out]; exact ho, hb⟩
        case measure => simp [intOf]; omega
      · have H := Lib.hid (without_snoc bs i j k hlt hik)
        have hsl : (without (bs.take k) i j).length ≤ k := Nat.le_trans (sel_length_le _ _) (by simp; omega)
        go_wp2
        go_region_law (refine step_app1 rfl _ _ 22 rfl 3 Tryd.underlying22 info3 w.heap.size _ (toI (without (bs.take k) i j)) _ rfl (ho.alloc _) ⟨wr.heap.size, 0, none⟩ 1 rfl (cell_new1 _ _ _) (by rw [toI_length]; omega) (by simp; omega) ?_; intro v' w1 ho1 hg1 hb1; clear hg1)
        have HO := Lib.hid ho1; clear ho1
        go_wp2
        go_roundw
        case rel => exact ⟨k + 1, by omega, by go_num, by rw [H.out]; exact own_snoc HO.out (delcol_walk j (by omega) _ hx1), below_app hb hle hb1 rfl⟩
        case measure => simp [intOf]; omega
    · obtain rfl : k = bs.length := by omega
      rw [List.take_length] at ho
      go_wp2
      go_ret
      exact ⟨_, rfl, ho, hb⟩
end Go.Proofs.YtlpnicfbgdfbnaaDoor
