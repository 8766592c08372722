/- The law's Of, awake: the walks. -/
import Derived.Test.YtmlhecfhhhebnaaLx
namespace Go.Proofs.Ytmlhecfhhhebnaa
open Go.RowKit

theorem infoG : (Try.prog.info? 28).map (·.size) = some 2 := by kernel_rfl
theorem results_group {fn : Func} {tmps : Array Value} {w : World} {g : Nat} {l : List Value} (s : Nat) (hfn : fn.results = #[.cell s 28]) (hs : tmps.getD s undef = .pointer (some ⟨g, 0, none⟩)) (h : Held w g 28 l) (hl : l.length = 2) :
    (results fn tmps).run Try.prog w = .ok (.agg l.toArray) w := by
  have hr := run_loadVar_mid (P := Try.prog) w g 0 28 l _ h.range Try.underlying28 rfl (by rw [infoG, hl])
  unfold results
  rw [hfn]
  have hs' : tmps[s]?.getD undef = .pointer (some ⟨g, 0, none⟩) := by simpa using hs
  simp [hs', hr, asAddr]

set_option maxRecDepth 20000 in
set_option maxHeartbeats 1000000 in
theorem Of_any (K : Nat) (n : Int) (w : World) :
    Calls Try.prog 16 #[grpI K n] w fun e w' => e = .returned (grpI K n) ∧ Below w.heap.size w w' := by
  unfold grpI
  go_enter Try.func16, Try.ntmps16
  go_wp2
  exact bodyPost_ret (results_group 2 Try.results16 (by rfl) (Held.made (l := [.int .u8 (K : Nat), .int .i64 n]) (by simp)) rfl) rfl ⟨rfl, ((Below.refl _ _).alloc (Nat.le_refl _) _).alloc (by simp) _⟩

theorem lit_awake : (litW 65 2).getD (walkX (litX 65 2) 0 [1, 1, 0]) [] = [0] := by decide +kernel
theorem word_awake : (wordsG 65 2).getD (ix 65 2 [1, 1, 0]) [] = [0] := by
  obtain ⟨e1, e2⟩ := lit_of (K := 65) (n := 2) (by decide)
  unfold ix
  rw [e1, e2]
  exact lit_awake

set_option maxRecDepth 20000 in
set_option maxHeartbeats 1000000 in
theorem awake_any (w : World) : Calls Try.prog 20 #[] w fun e w' => e = .returned (.bool true) ∧ Below w.heap.size w w' := by
  have hb0 : Below w.heap.size w (w.alloc (.cells #[.int .i64 1, .int .i64 1, .int .i64 0] 3)) := (Below.refl _ _).alloc (Nat.le_refl _) _
  have o1 := own_fresh (B := w.heap.size) w 3 [1, 1, 0] (Nat.le_refl _) (by decide)
  have C := Normal_yes 65 2 (.slice (some ⟨w.heap.size, 0, none⟩) 3 3) [1, 1, 0] _ (by decide) (o1.ints (by decide)) (by decide)
  rw [word_awake] at C
  have CC := Lib.hid C
  clear C
  go_enter Try.func20, Try.ntmps20
  go_wp2_with (go_at_call 36; refine CC.out.mono ?_; rintro e w1 ⟨v1, rfl, ho1, hb1⟩)
  have hb1' := hb1.mono hb0.size
  have o2 := own_fresh (B := w.heap.size) w1 3 [0] (by have := (hb0.trans hb1').size; omega) (by decide)
  have hb2 : Below w.heap.size w (w1.alloc (.cells #[.int .i64 0] 3)) := (hb0.trans hb1').alloc (by have := (hb0.trans hb1').size; omega) _
  have E := Equal_any v1 (.slice (some ⟨w1.heap.size, 0, none⟩) 1 1) _ [0] _ ((ho1.alloc _).ints (by decide)) (o2.ints (by decide))
  rw [show decide (toI [0] = [0]) = true by decide] at E
  refine Calls.mono E ?_
  rintro e w2 ⟨rfl, hb3⟩
  rename_i Kx hKx
  refine hKx _ _ ?_
  go_wp2
  go_ret
  exact ⟨rfl, hb2.trans (hb3.mono hb2.size)⟩
end Go.Proofs.Ytmlhecfhhhebnaa
