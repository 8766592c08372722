/- RooksHits: the walk. -/
import Derived.Test.YtlpnicfbgdfbnaaDoorRv
namespace Go.Proofs.YtlpnicfbgdfbnaaDoor
open Go.RowKit Go.Shelf
attribute [local go_sem] Oper.semAt_some

set_option maxRecDepth 20000 in
set_option maxHeartbeats 4000000 in
theorem HitsL_no (v : Value) (xs : List Int) (w : World) (hv : Ints w v xs) (ht : Tab w) (h : boardB xs = false) :
    Calls Tryd.prog 7 #[v] w (True1 w) := by
  have C15 := Lib.hid (fun w' (hb : Below w.heap.size w w') => list_any v xs w' (hv.below hb))
  have C14 := Lib.hid (fun v' w' (hb : Ints w' v' (xs.take 9)) => Rooks_no v' (xs.take 9) w' hb (by rw [boardB_take]; exact h))
  have C23 := Lib.hid (fun v' w' (hb : Ints w' v' (xs.take 9)) => Hits_no v' (xs.take 9) w' hb (by rw [boardB_take]; exact h))
  have C19 := Lib.hid (fun v' w' (hb : Ints w' v' (xs.take 9)) => Other_no v' (xs.take 9) w' hb (by rw [boardB_take]; exact h))
  have C18 := Lib.hid (fun w' (hb : Below w.heap.size w w') => awake_any w' (ht.below hb))
  have hl9 : (xs.take 9).length ≤ 17592186044416 := by simp; omega
  have hb0 := Below.refl w.heap.size w
  clear hv ht h
  go_enter Tryd.func7, Tryd.ntmps7
  go_wp2_with (first
      | (go_at_call 18; refine (C18.out w6 hb6).mono ?_; rintro e w7 ⟨rfl, hb7⟩; replace hb7 := hb6.trans (hb7.mono hb6.size))
      | (go_at_call 19; refine (C19.out v5 w5 (ho5.ints hl9)).mono ?_; rintro e w6 ⟨rfl, hb6⟩; replace hb6 := hb5.trans (hb6.mono hb5.size))
      | (go_at_call 15; refine (C15.out w4 hb4).mono ?_; rintro e w5 ⟨v5, rfl, ho5, hb5⟩; replace hb5 := hb4.trans (hb5.mono hb4.size))
      | (go_at_call 23; refine (C23.out v3 w3 (ho3.ints hl9)).mono ?_; rintro e w4 ⟨rfl, hb4⟩; replace hb4 := hb3.trans (hb4.mono hb3.size))
      | (go_at_call 15; refine (C15.out w2 hb2).mono ?_; rintro e w3 ⟨v3, rfl, ho3, hb3⟩; replace hb3 := hb2.trans (hb3.mono hb2.size))
      | (go_at_call 14; refine (C14.out v1 w1 (ho1.ints hl9)).mono ?_; rintro e w2 ⟨rfl, hb2⟩; replace hb2 := hb1.trans (hb2.mono hb1.size))
      | (go_at_call 15; refine (C15.out w hb0).mono ?_; rintro e w1 ⟨v1, rfl, ho1, hb1⟩))
  go_ret
  exact ⟨rfl, hb7⟩

theorem below_drewN (B : Nat) (w : World) (q : Nat) : Below B w (w.drewN q) := ⟨rfl, rfl, rfl, Nat.le_refl _, fun _ _ => rfl⟩
theorem choose_b (m k : Nat) (hm : m ≤ 6) (hk : k ≤ 6) (w : World) :
    Calls Tryd.prog 28 #[.int .i64 (m : Nat), .int .i64 (k : Nat)] w fun e w' => e = .returned (.int .i64 (choose m k : Nat)) ∧ Below w.heap.size w w' :=
  (choose_any m k hm hk w).mono fun _ _ ⟨h1, q, h2⟩ => ⟨h1, by rw [h2]; exact below_drewN _ _ _⟩
theorem nsum_le_choose (Y : List Nat) (k : Nat) (hk : k ≤ 6) (hY : ∀ m, Y.getD m 0 ≤ 720) (j : Nat) (hj : j ≤ 7) : nsum (fun m => Y.getD m 0 * choose m k) j ≤ 100800 := by
  have := nsum_le (f := fun m => Y.getD m 0 * choose m k) (M := 14400) j fun m hm => Nat.mul_le_mul (hY m) (choose_le m (by omega) k (by omega))
  omega

set_option maxRecDepth 20000 in
set_option maxHeartbeats 8000000 in
theorem HitsL_yes (v : Value) (bs : List Nat) (w : World) (hv : Ints w v (toI bs)) (ht : Tab w) (h : IsBoard bs) :
    Calls Tryd.prog 7 #[v] w (True1 w) := by
  have C15 := Lib.hid (fun w' (hb : Below w.heap.size w w') => by have := list_any v _ w' (hv.below hb); rw [take_board h] at this; exact this)
  have C14 := Lib.hid (fun v' w' (hb : Ints w' v' (toI bs)) (hw : Below w.heap.size w w') => Rooks_yes v' bs w' hb h (ht.below hw))
  have C23 := Lib.hid (fun v' w' (hb : Ints w' v' (toI bs)) (hw : Below w.heap.size w w') => Hits_yes v' bs w' hb h (ht.below hw))
  have C19 := Lib.hid (fun v' w' (hb : Ints w' v' (toI bs)) => Other_yes v' bs w' hb h)
  have C23b := Lib.hid (fun v' w' (hb : Ints w' v' (toI (other bs))) (hw : Below w.heap.size w w') => Hits_yes v' (other bs) w' hb (other_board h) (ht.below hw))
  have C18 := Lib.hid (fun w' (hb : Below w.heap.size w w') => awake_any w' (ht.below hb))
  have C20 := Lib.hid (fun v1 v2 (xs : List Int) w' (h1 : Ints w' v1 xs) (h2 : Ints w' v2 xs) => by have := Equal_any v1 v2 _ _ w' h1 h2; rw [show decide (xs = xs) = true by simp] at this; exact this)
  have h6 := h.le
  have h1p := h.pos
  have hl9 : (toI bs).length ≤ 17592186044416 := hv.len
  have hlo : (toI (other bs)).length ≤ 17592186044416 := by have := hv.len; unfold other; simp [toI] at this ⊢; omega
  have hX := numL_length bs 0
  have hY := hitsL_length bs
  have hZ := hitsL_length (other bs)
  rw [show (other bs).length = bs.length by simp [other]] at hZ
  have hYle := Lib.hid (fun m => hitsL_le bs h6 m)
  have hLaw := Lib.hid (fun k hk => hits_rooks bs h6 h.row k hk)
  have hRev := Lib.hid (hits_other h)
  have hXle := Lib.hid (fun m => numL_lt bs 0 m h6)
  obtain ⟨X, hXe⟩ : ∃ X, numL bs 0 = X := ⟨_, rfl⟩
  obtain ⟨Y, hYe⟩ : ∃ Y, hitsL bs = Y := ⟨_, rfl⟩
  obtain ⟨Z, hZe⟩ : ∃ Z, hitsL (other bs) = Z := ⟨_, rfl⟩
  obtain ⟨O, hOe⟩ : ∃ O, other bs = O := ⟨_, rfl⟩
  rw [hXe] at hX hLaw C14 hXle
  rw [hYe] at hY hYle hLaw hRev C23
  rw [hZe] at hZ hRev C23b
  rw [hOe] at C19 hlo C23b
  obtain ⟨a, c, rfl, hlen, hcl, hc⟩ := hv.openN
  have hb0 := Below.refl w.heap.size w
  have hlX : (toI X).length ≤ 17592186044416 := by rw [toI_length]; omega
  have hlY : (toI Y).length ≤ 17592186044416 := by rw [toI_length]; omega
  have hlZ : (toI Z).length ≤ 17592186044416 := by rw [toI_length]; omega
  have hw1 : IntKind.i64.wrap ((bs.length : Int) + 1) = (bs.length : Int) + 1 := IntWalk.i64_in _ (by omega)
  have hn6 : ¬ (6 : Int) < (bs.length : Int) := by omega
  clear hv ht h hc hXe hYe hZe hOe
  go_enter Tryd.func7, Tryd.ntmps7
  go_wp2_with (first
      | (go_at_call 23; refine (C23b.out v6 w6 (ho6.ints hlo) hb6).mono ?_; rintro e w7 ⟨v7, rfl, ho7, hb7'⟩; have hb7 := hb6.trans (hb7'.mono hb6.size); obtain ⟨g7, k7, rfl⟩ := ho7.row hZ)
      | (go_at_call 19; refine (C19.out v5 w5 (ho5.ints hl9)).mono ?_; rintro e w6 ⟨v6, rfl, ho6, hb6'⟩; have hb6 := hb5.trans (hb6'.mono hb5.size))
      | (go_at_call 15; refine (C15.out w4 hb4).mono ?_; rintro e w5 ⟨v5, rfl, ho5, hb5'⟩; have hb5 := hb4.trans (hb5'.mono hb4.size))
      | (go_at_call 23; refine (C23.out v3 w3 (ho3.ints hl9) hb3).mono ?_; rintro e w4 ⟨v4, rfl, ho4, hb4'⟩; have hb4 := hb3.trans (hb4'.mono hb3.size); obtain ⟨g4, k4, rfl⟩ := ho4.row hY)
      | (go_at_call 15; refine (C15.out w2 hb2).mono ?_; rintro e w3 ⟨v3, rfl, ho3, hb3'⟩; have hb3 := hb2.trans (hb3'.mono hb2.size))
      | (go_at_call 14; refine (C14.out v1 w1 (ho1.ints hl9) hb1).mono ?_; rintro e w2 ⟨v2, rfl, ho2, hb2'⟩; have hb2 := hb1.trans (hb2'.mono hb1.size); obtain ⟨g2, k2, rfl⟩ := ho2.row hX)
      | (go_at_call 15; refine (C15.out w hb0).mono ?_; rintro e w1 ⟨v1, rfl, ho1, hb1⟩))
  have b34 := hb3'.trans (hb4'.mono hb3'.size)
  have b35 := b34.trans (hb5'.mono b34.size)
  have b36 := b35.trans (hb6'.mono b35.size)
  have b37 := b36.trans (hb7'.mono b36.size)
  have b56 := hb5'.trans (hb6'.mono hb5'.size)
  have b57 := b56.trans (hb7'.mono b56.size)
  have hX7 := ho2.below b37
  have hY7 := ho4.below b57
  have hZ7 := ho7
  have hg7 := ho7.blockEq
  have hg4 := ho4.blockEq
  have s46 : w4.heap.size ≤ w6.heap.size := b56.size
  have s6 : w.heap.size ≤ w6.heap.size := hb6.size
  have HX7 := Lib.hid hX7
  have HY7 := Lib.hid hY7
  have HZ7 := Lib.hid hZ7
  have HB7 := Lib.hid hb7
  clear hX7 hY7 hZ7 hb0 hb1 hb2 hb3 hb4 hb5 hb6 hb7 ho1 ho2 ho3 ho4 ho5 ho6 ho7 hb2' hb3' hb4' hb5' hb6' hb7' b34 b35 b36 b37 b56 b57 C14 C15 C19 C23 C23b
  go_loopw [86] (fun ix wr => ∃ k : Nat, k ≤ bs.length + 1 ∧ ix = .int .i64 k ∧ Below w7.heap.size w7 wr) (fun i _ => bs.length + 1 - (intOf i).toNat)
  case atStart => exact ⟨0, Nat.zero_le _, rfl, Below.refl _ _⟩
  case round =>
    obtain ⟨k, hk, rfl, hb⟩ := hrel
    by_cases hlt : k < bs.length + 1
    · have hki : (k : Int) < (bs.length : Int) + 1 := by omega
      have HB := Lib.hid hb
      clear hb
      go_upto_region 15 with (fail)
      go_loopw [13, 91] (fun s ix wq => ∃ j : Nat, j ≤ bs.length + 1 ∧ ix = .int .i64 j ∧ s = .int .i64 (nsum (fun m => Y.getD m 0 * choose m k) j : Nat) ∧ Below w7.heap.size w7 wq) (fun _ i _ => bs.length + 1 - (intOf i).toNat)
      case atStart => exact ⟨0, Nat.zero_le _, rfl, rfl, HB.out⟩
      case round =>
        obtain ⟨j, hj, rfl, rfl, hb⟩ := hrel
        have hSb := nsum_le_choose Y k (by omega) hYle.out j (by omega)
        by_cases hjl : j < bs.length + 1
        · have hji : (j : Int) < (bs.length : Int) + 1 := by omega
          have cj := (HY7.out.below hb).cellN j (by omega)
          have hyj := hYle.out j
          rw [getD_at (by omega)] at hyj
          have hstep : nsum (fun m => Y.getD m 0 * choose m k) (j + 1) = nsum (fun m => Y.getD m 0 * choose m k) j + Y.getD j 0 * choose j k := rfl
          rw [getD_at (show j < Y.length by omega)] at hstep
          have hch := choose_le j (by omega) k (by omega)
          have CC := Lib.hid (fun w' => choose_b j k (by omega) (by omega) w')
          obtain ⟨c, hc⟩ : ∃ c, Y[j]'(by omega) = c := ⟨_, rfl⟩
          obtain ⟨z, hz⟩ : ∃ z, choose j k = z := ⟨_, rfl⟩
          obtain ⟨S, hS⟩ : ∃ S, nsum (fun m => Y.getD m 0 * choose m k) j = S := ⟨_, rfl⟩
          rw [hc] at cj hyj
          rw [hS, hc, hz] at hstep
          rw [hz] at hch CC
          rw [hS] at hSb ⊢
          have hcz : c * z ≤ 720 * 20 := Nat.mul_le_mul hyj hch
          have hw2 : IntKind.i64.wrap ((c : Int) * (z : Int)) = ((c * z : Nat) : Int) := by
            rw [show (c : Int) * (z : Int) = ((c * z : Nat) : Int) by push_cast; rfl]; exact IntWalk.i64_in _ (by omega)
          obtain ⟨T, hT⟩ : ∃ T, c * z = T := ⟨_, rfl⟩
          rw [hT] at hw2 hstep hcz
          have hw3 : IntKind.i64.wrap ((S : Int) + (T : Int)) = (S : Int) + (T : Int) := IntWalk.i64_in _ (by omega)
          have HST := Lib.hid hstep
          have HBB := Lib.hid hb
          clear hc hz hS hT hstep hb
          go_wp2_with (go_at_call 28; refine (CC.out _).mono ?_; rintro e w8 ⟨rfl, hb8⟩)
          go_roundw
          case rel => exact ⟨j + 1, by omega, by go_num, by rw [HST.out]; go_num, HBB.out.trans (hb8.mono HBB.out.size)⟩
          case measure => simp [intOf]; omega
        · obtain rfl : j = bs.length + 1 := by omega
          have hL := hLaw.out k (by omega)
          have cX := (HX7.out.below hb).cellN k (by omega)
          have hxk := hXle.out k
          rw [getD_at (show k < X.length by omega)] at hL hxk
          obtain ⟨x, hx⟩ : ∃ x, X[k]'(by omega) = x := ⟨_, rfl⟩
          rw [hx] at hL cX hxk
          have hsub : IntKind.i64.wrap ((bs.length : Int) - (k : Int)) = ((bs.length - k : Nat) : Int) := by rw [IntWalk.i64_in _ (by omega)]; omega
          obtain ⟨D, hD⟩ : ∃ D, bs.length - k = D := ⟨_, rfl⟩
          rw [hD] at hL hsub
          have hD6 : D ≤ 6 := by omega
          obtain ⟨S, hS⟩ : ∃ S, nsum (fun m => Y.getD m 0 * choose m k) (bs.length + 1) = S := ⟨_, rfl⟩
          rw [hS] at hL hSb ⊢
          have hmul : (x : Int) * ((fac D : Nat) : Int) = (S : Int) := by rw [hL]; push_cast; rfl
          have hwS : IntKind.i64.wrap (S : Int) = (S : Int) := IntWalk.i64_in _ (by omega)
          have HBB := Lib.hid hb
          clear hL hx hD hS hb
          go_upto_region 19 with (fail)
          go_quiet (first | (go_at_call 29; exact Calls.quiet_of_same (factorial_q _ (by omega) _)))
          go_wp2
          go_roundw
          case rel => exact ⟨k + 1, by omega, by go_num, HBB.out.trans (below_drewN _ _ _)⟩
          case measure => simp [intOf]; omega
    · obtain rfl : k = bs.length + 1 := by omega
      have hZr := HZ7.out.below hb
      have C30 := Reverse_any Z w6.heap.size g7 k7 wr (by rw [hZ]; exact hZr) (by omega) (by omega)
      rw [hZ, ← hRev.out] at C30
      have C30 := Lib.hid C30
      have HB := Lib.hid hb
      clear hZr hb
      go_wp2_with (first
        | (go_at_call 18; refine (C18.out w9 hb9).mono ?_; rintro e w10 ⟨rfl, hb10⟩; replace hb10 := hb9.trans (hb10.mono hb9.size))
        | (go_at_call 20; refine (C20.out _ _ _ w8 (hY8.ints hlY) (hz8.ints hlY)).mono ?_; rintro e w9 ⟨rfl, hb9'⟩; have hb9 := hb8.trans (hb9'.mono hb8.size))
        | (go_at_call 30; refine C30.out.mono ?_; rintro e w8 ⟨rfl, hz8, hs8⟩; have hY8 := hs8.own (HY7.out.below HB.out) (fun k hk => by simp only [Value.ownBlock, Option.some.injEq] at hk; omega); have hb8 : Below w.heap.size w w8 := (HB7.out.trans (HB.out.mono HB7.out.size)).trans ⟨hs8.os, hs8.tape, hs8.output, hs8.size, fun k hk => hs8.block k (by omega) (by have := HB7.out.size; have := HB.out.size; omega)⟩))
      go_ret
      exact ⟨rfl, hb10⟩
theorem rooksHits_true (v : Value) (xs : List Int) (w : World) (hv : Ints w v xs) (ht : Tab w) :
    Calls Tryd.prog 7 #[v] w (True1 w) := by
  cases hb : boardB xs with
  | false => exact HitsL_no v xs w hv ht hb
  | true =>
    obtain ⟨bs, rfl, h⟩ := board_of hb
    exact HitsL_yes v bs w hv ht h
end Go.Proofs.YtlpnicfbgdfbnaaDoor
