/- MirrorOrder$1: the walk. -/
import Derived.Test.YtmlhecfhhhebnaaLy
namespace Go.Proofs.Ytmlhecfhhhebnaa
open Go.RowKit
attribute [local go_sem] Oper.semAt_some

set_option maxRecDepth 20000 in
set_option maxHeartbeats 1000000 in
theorem OrderF_any (K n g : Nat) (u v : Value) (xs ys : List Int) (w : World) (hv : validB K n = true) (hg : Held w g 23 [.int .u8 (K : Nat), .int .i64 (n : Nat)]) (hx : Ints w u xs) (hy : Ints w v ys) (h : wordB (mirs K n) xs = true) (h2 : wordB (mirs K n) ys = true) :
    Calls Try.prog 32 #[u, v, .pointer (some ⟨g, 0, none⟩)] w fun e w' => e = .returned (.bool (belG (wordsG K n) (nextG K n) (ix K n xs) (ix K n ys))) ∧ Below w.heap.size w w' := by
  have OF := Lib.hid (fun w' => Of_any K (n : Int) w')
  have hn1 := (word_nat h).2.2
  have hn2 := (word_nat h2).2.2
  have LX := Lib.hid (fun w' (hb : Below w.heap.size w w') => by have := list_any u xs w' (hx.below hb); rw [List.take_of_length_le (by omega)] at this; exact this)
  have LY := Lib.hid (fun w' (hb : Below w.heap.size w w') => by have := list_any v ys w' (hy.below hb); rw [List.take_of_length_le (by omega)] at this; exact this)
  have BW := Lib.hid (fun (u' v' : Value) (w' : World) (hx' : Ints w' u' xs) (hy' : Ints w' v' ys) => Below_yes K n u' v' xs ys w' hv hx' hy' h h2)
  have c0 := hg.at (i := 0) rfl
  have c1 := hg.at (i := 1) rfl
  have hlx : xs.length ≤ 17592186044416 := by omega
  have hly : ys.length ≤ 17592186044416 := by omega
  obtain ⟨B, hB⟩ : ∃ B, belG (wordsG K n) (nextG K n) (ix K n xs) (ix K n ys) = B := ⟨_, rfl⟩
  rw [hB] at BW ⊢
  obtain ⟨a, c, rfl, hx1⟩ := hx
  obtain ⟨a2, c2, rfl, hy1⟩ := hy
  unfold grpI at *
  clear hx1 hy1 h h2 hv hg hn1 hn2 hB
  go_enter Try.func32, Try.ntmps32
  cases B
  all_goals
    go_wp2_with (first
      | (go_at_call 33; refine (BW.out _ _ _ ((ho2.below hb3).ints hlx) (ho3.ints hly)).mono ?_; rintro e w4 ⟨rfl, hb4⟩)
      | (go_at_call 17; refine (LY.out _ (hb1.trans (hb2.mono hb1.size))).mono ?_; rintro e w3 ⟨v3, rfl, ho3, hb3⟩)
      | (go_at_call 17; refine (LX.out _ hb1).mono ?_; rintro e w2 ⟨v2, rfl, ho2, hb2⟩)
      | (go_at_call 16; refine (OF.out _).mono ?_; rintro e w1 ⟨rfl, hb1⟩))
    go_ret
    have e2 := hb1.trans (hb2.mono hb1.size)
    have e3 := e2.trans (hb3.mono e2.size)
    exact ⟨rfl, e3.trans (hb4.mono e3.size)⟩
end Go.Proofs.Ytmlhecfhhhebnaa
