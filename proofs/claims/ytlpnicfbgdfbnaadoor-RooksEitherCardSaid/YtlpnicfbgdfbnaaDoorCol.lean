/- rooks.columns: the iterator over the elements of a set. -/
import Derived.RangeFuncNested
import Derived.RangeFuncBound
import Derived.RangeFuncCalls
import Derived.RangeFuncLeaves
import Derived.WalkKit
import Derived.OwnWalkIn
import Derived.TacticsInMore
import Derived.LoopNIn
import Derived.LoopIn
import Derived.Test.YtlpnicfbgdfbnaaDoorCt
namespace Go.Proofs.YtlpnicfbgdfbnaaDoor
open Go.RowKit
attribute [local go_sem] Oper.semAt_some

set_option maxHeartbeats 400000 in
theorem columns_any (s : Int) (w : World) :
    Calls Tryd.prog 56 #[.int .i64 s] w fun e w' => e = .returned (.func (.func 72) #[] #[.pointer (some ⟨w.heap.size, 0, none⟩)]) ∧ w' = w.alloc (.cells #[.int .i64 s] 3) := by
  go_enter Tryd.func56, Tryd.ntmps56
  go_wp2
  go_ret
  exact ⟨rfl, rfl⟩

/-- The box at block B holds the number s. -/
def BoxN (W : World) (B s : Nat) : Prop := W.heap[B]? = some (.cells #[.int .i64 (s : Int)] 3 (0, 0))
theorem BoxN.cell {W : World} {B s : Nat} (h : BoxN W B s) : W.cell? ⟨B, 0, none⟩ = some (.int .i64 (s : Int)) := cell_of_one h
theorem BoxN.frozen {W : World} {B s : Nat} (h : BoxN W B s) : W.frozen? ⟨B, 0, none⟩ = false := free_of_one h

/-- What is left of the set behind its least element. -/
def nextS (s : Nat) : Nat := s &&& (s - 1)
theorem nextS_w : ∀ s : Nat, s < 256 → 0 < s → bits BinOp.and IntKind.i64 (s : Int) ((s : Int) - 1) = ((nextS s : Nat) : Int) := by decide +kernel
theorem nextS_lt : ∀ s : Nat, s < 256 → 0 < s → nextS s < s := by decide +kernel

theorem tz_lt6 : ∀ s : Nat, s < 64 → 0 < s → tz s < 6 := by decide +kernel

set_option maxHeartbeats 1000000 in
theorem cols_in (n l B : Nat) (hn : 1 ≤ n) (J J' : Nat → World → Prop) (Jx : World → Prop)
    (hround : ∀ s W, s < 256 → 0 < s → J s W → YieldAt Fence.wide (n - 1) Tryd.prog l #[.int .i64 (tz s : Nat)] W fun e W' =>
      (e = .returned (.bool true) ∧ J' s W') ∨ (e = .returned (.bool false) ∧ Jx W'))
    (hbox : ∀ s W, J s W → BoxN W B s ∧ Tab W) (hbox' : ∀ s W, J' s W → BoxN W B s)
    (hnext : ∀ s W, s < 256 → 0 < s → J' s W → J (nextS s) (W.setCell ⟨B, 0, none⟩ (.int .i64 (nextS s : Nat))))
    (s0 : Nat) (W : World) (hs0 : s0 < 256) (h0 : J s0 W) :
    CallsIn Fence.wide n Tryd.prog 72 #[.func (.yield l) #[] #[], .pointer (some ⟨B, 0, none⟩)] W fun e W' => (∃ v, e = .returned v) ∧ (J 0 W' ∨ Jx W') := by
  refine callsIn_of_wp Tryd.func72 rfl trivial ?_ rfl
  simp only [Tryd.ntmps72, List.size_toArray, List.length_cons, List.length_nil, Nat.reduceAdd, Nat.reduceSub, Array.replicate_succ, Array.replicate_zero, List.push_toArray, List.append_toArray, List.nil_append, List.cons_append]
  gi_wp2
  gi_loopw [3] (fun _ wr => ∃ s, s < 256 ∧ J s wr) (fun _ wr => (intOf ((wr.cell? ⟨B, 0, none⟩).getD undef)).toNat)
  case atStart => exact ⟨s0, hs0, h0⟩
  case round =>
    obtain ⟨s, hs, hJ⟩ := hrel
    have hc := (hbox s wr hJ).1.cell
    by_cases h1 : 0 < s
    · have ht := Lib.hid (hbox s wr hJ).2
      obtain ⟨fn, tmps, assign, body, hy, hR⟩ := hround s wr hs h1 hJ
      have hu : IntKind.u64.wrap (s : Int) = s := by simp [IntKind.wrap, IntKind.bits, IntKind.signed]; omega
      have H1 := Lib.hid (hbox'); have H2 := Lib.hid hnext
      clear hround hbox' hnext hJ
      gi_wp2_with (refine ⟨trivial, ?_⟩; gi_at_call 73; refine (callsIn_wide.2 (tzeros_any s _ hs h1 ht.out)).mono ?_; rintro e w1 ⟨rfl, rfl⟩)
      refine hR.mono ?_
      rintro e W2 (⟨rfl, hJ2⟩ | ⟨rfl, hJx⟩)
      · have hb2 := H1.out s W2 hJ2
        have hc2 := hb2.cell
        have hf2 := hb2.frozen
        have hw := nextS_w s hs h1
        have H3 := Lib.hid hJ2
        clear hJ2 hb2
        gi_wp2
        go_roundw
        case rel => exact ⟨nextS s, by have := nextS_lt s hs h1; omega, H2.out s W2 hs h1 H3.out⟩
        case measure =>
          have := nextS_lt s hs h1
          rw [hc, World.cell?_setCell_same' _ _ _ (by rw [hc2]; rfl)]
          simp [intOf]; omega
      · gi_wp2
        refine bodyPost_ret (results_none rfl _ _ _) rfl ?_
        exact ⟨⟨_, rfl⟩, .inr hJx⟩
    · obtain rfl : s = 0 := by omega
      have HJ := Lib.hid hJ
      clear hround hbox' hnext hJ
      gi_wp2
      go_end0
      exact ⟨⟨_, rfl⟩, .inl HJ.out⟩
end Go.Proofs.YtlpnicfbgdfbnaaDoor
