/- RooksCut, where the square is on the board. -/
import Derived.Test.YtlpnicfbgdfbnaaDoorCut
namespace Go.Proofs.YtlpnicfbgdfbnaaDoor
open Go.RowKit

theorem cut_set (bs : List Nat) (i j : Nat) (hi : i < bs.length) : bs.set i (diffS bs[i] (2 ^ j)) = cutAt bs i j := by
  unfold cutAt
  refine List.ext_getElem (by simp) fun k h1 h2 => ?_
  rw [List.getElem_modify, List.getElem_set]
  split
  · rename_i e; subst e; rfl
  · rfl

/-- A row of the call's own that is not empty, at its own length. -/
theorem OwnI.rowN {e : TypeId} {B : Nat} {w : World} {v : Value} {L : List Nat} (h : OwnI e B w v (toI L)) (hl : 0 < L.length) : ∃ g cap, v = .slice (some ⟨g, 0, none⟩) L.length cap := by
  obtain ⟨g, cap, e⟩ := h.row (k := L.length - 1) (by omega)
  exact ⟨g, cap, by rw [e]; congr 1; omega⟩

theorem cut_at (bs : List Nat) (i j k : Nat) (h : IsBoard bs) (hj : j < 6) (hi : i < bs.length) (hb : bs[i].testBit j = true) (hk : k < (numL bs 0).length) (hk2 : k < (numL (cutAt bs i j) 0).length) :
    (k = 0 → (numL bs 0)[k] = (numL (cutAt bs i j) 0)[k]) ∧ (0 < k → ∀ h3 : k - 1 < (numL (without bs i j) 0).length, (numL bs 0)[k] = (numL (cutAt bs i j) 0)[k] + (numL (without bs i j) 0)[k - 1]) := by
  have := numL_cut bs i j k h.lt hj hi hb
  rw [getD_at hk, getD_at hk2] at this
  refine ⟨fun e => by rw [if_pos e] at this; exact this, fun e h3 => ?_⟩
  rw [if_neg (by omega), getD_at h3] at this
  exact this

set_option maxRecDepth 20000 in
set_option maxHeartbeats 4000000 in
theorem Cut_set (v : Value) (bs : List Nat) (i j : Nat) (w : World) (hv : Ints w v (toI bs)) (ht : Tab w) (h : IsBoard bs) (h2 : 2 ≤ bs.length) (hi : i < bs.length) (hj : j < bs.length) (hbit : bs[i].testBit j = true) :
    Calls Tryd.prog 3 #[v, .int .i64 i, .int .i64 j] w (True1 w) := by
  have hj6 : j < 6 := by have := h.le; omega
  have C15 := Lib.hid (fun w' (hb : Below w.heap.size w w') => by have := list_any v _ w' (hv.below hb); rw [take_board h] at this; exact this)
  have C14 := Lib.hid (fun v' w' (hb : Ints w' v' (toI bs)) (hk : Below w.heap.size w w') => Rooks_yes v' bs w' hb h (ht.below hk))
  have C14c := Lib.hid (fun v' w' (hb : Ints w' v' (toI (cutAt bs i j))) (hk : Below w.heap.size w w') => Rooks_yes v' _ w' hb (cut_board h) (ht.below hk))
  have C14l := Lib.hid (fun v' w' (hb : Ints w' v' (toI (without bs i j))) (hk : Below w.heap.size w w') => Rooks_yes v' _ w' hb (without_board h h2 hi hj) (ht.below hk))
  have C16 := Lib.hid (fun v' w' (hb : Ints w' v' (toI bs)) => Without_yes v' bs i j w' hb h h2 hi hj)
  have C17 := Lib.hid (fun w' (hb : Below w.heap.size w w') => by have := Board_any v _ w' (hv.below hb); rw [boardB_board h] at this; exact this)
  have C18 := Lib.hid (fun w' (hb : Below w.heap.size w w') => awake_any w' (ht.below hb))
  have hl9 : (toI bs).length ≤ 17592186044416 := hv.len
  have hlw : (toI (without bs i j)).length ≤ 17592186044416 := by rw [toI_length]; exact Nat.le_trans (without_le bs i j) (by have := h.le; omega)
  have LAW := Lib.hid (fun k => cut_at bs i j k h hj6 hi hbit)
  have LW := Lib.hid (without_len (bs := bs) (i := i) (j := j) hi)
  have LC : (cutAt bs i j).length = bs.length := by simp [cutAt]
  have CS := Lib.hid (cut_set bs i j hi)
  have BND := Lib.hid (fun k => numL_lt bs 0 k h.le)
  obtain ⟨a, c, rfl, hlen, hcl, hc⟩ := hv.openN
  obtain ⟨b, off, rfl, hbl, hcell⟩ := hc (ne_nil_of_lt hi)
  have hci := hcell i hi
  have hr64 := h.lt _ (List.getElem_mem hi)
  have hw := bit_walk j hj6 _ hr64
  have hw2 := cut_walk j hj6 _ hr64
  have hp := pow_in j (by omega)
  rw [hbit] at hw
  have h6 := h.le
  have hb0 := Below.refl w.heap.size w
  obtain ⟨r, hr⟩ : ∃ r, bs[i] = r := ⟨_, rfl⟩
  rw [hr] at hci hr64 hw hw2
  have HR := Lib.hid hr
  clear hv ht h hc hcell hbit hr
  go_enter Tryd.func3, Tryd.ntmps3
  go_wp2_with (first
    | (go_at_call 15; refine (C15.out w4 hb4).mono ?_; rintro e w5 ⟨v5, rfl, ho5, hb5'⟩; have hb5 := hb4.trans (hb5'.mono hb4.size); obtain ⟨g5, c5, rfl⟩ := ho5.rowN (by omega); have cG := ho5.cellN i hi; rw [HR.out] at cG; have fG := ho5.frozenN i)
    | (go_at_call 17; refine (C17.out w4 hb4).mono ?_; rintro e w5 ⟨rfl, rfl⟩; have hci4 := (hb4.cell (p := ⟨b, off + i, none⟩) hbl).trans hci)
    | (go_at_call 16; refine (C16.out v3 w3 (ho3.ints hl9)).mono ?_; rintro e w4 ⟨v4, rfl, ho4, hb4'⟩; have hb4 := hb3.trans (hb4'.mono hb3.size); have ho2 := (ho2.below hb3').below hb4')
    | (go_at_call 15; refine (C15.out w2 hb2).mono ?_; rintro e w3 ⟨v3, rfl, ho3, hb3'⟩; have hb3 := hb2.trans (hb3'.mono hb2.size))
    | (go_at_call 14; refine (C14.out v1 w1 (ho1.ints hl9) hb1).mono ?_; rintro e w2 ⟨v2, rfl, ho2, hb2⟩; replace hb2 := hb1.trans (hb2.mono hb1.size))
    | (go_at_call 15; refine (C15.out w hb0).mono ?_; rintro e w1 ⟨v1, rfl, ho1, hb1⟩))
  go_region
  rename_i Kx hKx
  refine hKx _ _ ?_
  clear hKx Kx
  have hg5 : w4.heap.size ≤ g5 := ho5.blockEq.1
  have hb6' : Below w4.heap.size w4 (w5.setCell ⟨g5, i, none⟩ (.int .i64 (diffS r (2 ^ j) : Nat))).drew := (hb5'.setCell (by exact hg5) _).drew
  have ho6 : OwnI 3 w4.heap.size (w5.setCell ⟨g5, i, none⟩ (.int .i64 (diffS r (2 ^ j) : Nat))).drew (.slice (some ⟨g5, 0, none⟩) bs.length c5) (toI (cutAt bs i j)) := by
    have := (ho5.storedN i (diffS r (2 ^ j))).drew
    rw [← HR.out, CS.out, HR.out] at this
    exact this
  have hl6 := ho6.ints (by rw [toI_length, LC]; omega)
  obtain ⟨w6, hw6⟩ : ∃ w6, (w5.setCell ⟨g5, i, none⟩ (.int .i64 (diffS r (2 ^ j) : Nat))).drew = w6 := ⟨_, rfl⟩
  rw [hw6] at hb6' ho6 hl6 ⊢
  clear hw6 ho6 cG fG ho5 hb5 hb5'
  have hb6 := hb4.trans (hb6'.mono hb4.size)
  replace ho2 := ho2.below hb6'
  replace ho4 := ho4.below hb6'
  have hl4 := ho4.ints hlw
  obtain ⟨R, hR⟩ : ∃ R, numL bs 0 = R := ⟨_, rfl⟩
  obtain ⟨RC, hRC⟩ : ∃ RC, numL (cutAt bs i j) 0 = RC := ⟨_, rfl⟩
  obtain ⟨RL, hRL⟩ : ∃ RL, numL (without bs i j) 0 = RL := ⟨_, rfl⟩
  have LAW2 := Lib.hid (show ∀ k (hk : k < R.length) (hk2 : k < RC.length), (k = 0 → R[k] = RC[k]) ∧ (0 < k → ∀ h3 : k - 1 < RL.length, R[k] = RC[k] + RL[k - 1]) from by subst hR hRC hRL; exact LAW.out)
  have l1 : R.length = bs.length + 1 := by rw [← hR, numL_length]
  have l2 : RC.length = bs.length + 1 := by rw [← hRC, numL_length, LC]
  have l3 : RL.length = bs.length := by rw [← hRL, numL_length, LW.out]; omega
  have BND2 : ∀ k, R.getD k 0 ≤ 531441 := by rw [← hR]; exact BND.out
  rw [hR] at ho2
  have C14c2 := Lib.hid (show ∀ v' w', Ints w' v' (toI (cutAt bs i j)) → Below w.heap.size w w' → _ from C14c.out)
  rw [hRC] at C14c2
  clear C14c C14 C15 C16 C17 LAW LW CS BND
  rw [hRL] at C14l
  obtain ⟨g2, c2, rfl⟩ := ho2.rowN (by omega)
  rw [l1] at ho2
  go_wp2_with (first
    | (go_at_call 14; refine (C14l.out v4 w7 (hl4.below hb7') hb7).mono ?_; rintro e w8 ⟨v8, rfl, ho8, hb8'⟩; have hb8 := hb7.trans (hb8'.mono hb7.size); obtain ⟨g8, c8, rfl⟩ := ho8.rowN (by omega); rw [l3] at ho8)
    | (go_at_call 14; refine (C14c2.out _ w6 hl6 hb6).mono ?_; rintro e w7 ⟨v7, rfl, ho7, hb7'⟩; have hb7 := hb6.trans (hb7'.mono hb6.size); obtain ⟨g7, c7, rfl⟩ := ho7.rowN (by omega); rw [l2] at ho7))
  have hk2 := ((ho2.below hb7').below hb8')
  have hk7 := ho7.below hb8'
  go_loopw [134] (fun p wr => ∃ k : Nat, p = .int .i64 k ∧ k ≤ bs.length + 1 ∧ wr = w8) (fun p _ => bs.length + 1 - (intOf p).toNat)
  case atStart => exact ⟨0, rfl, by omega, rfl⟩
  case round =>
    obtain ⟨k, rfl, hk, rfl⟩ := hrel
    by_cases hlt : k < bs.length + 1
    · have cR := hk2.cellN k (by omega)
      have cC := hk7.cellN k (by omega)
      obtain ⟨q1, q2⟩ := LAW2.out k (by omega) (by omega)
      obtain ⟨x, hx⟩ : ∃ x, R[k]'(by omega) = x := ⟨_, rfl⟩
      obtain ⟨y, hy⟩ : ∃ y, RC[k]'(by omega) = y := ⟨_, rfl⟩
      rw [hx] at cR q1 q2
      rw [hy] at cC q1 q2
      have hB := BND2 k
      rw [getD_at (by omega), hx] at hB
      have HX := Lib.hid hx
      have HY := Lib.hid hy
      clear hx hy
      by_cases h0 : k = 0
      · obtain rfl : x = y := q1 h0
        subst h0
        clear q1 q2
        go_wp2
        go_roundw
        case rel => exact ⟨1, by go_num, by omega, trivial⟩
        case measure => simp [intOf]
      · have h3 : k - 1 < RL.length := by omega
        have cL := ho8.cellN (k - 1) h3
        have q3 := q2 (by omega) h3
        obtain ⟨z, hz⟩ : ∃ z, RL[k - 1] = z := ⟨_, rfl⟩
        rw [hz] at cL q3
        have HZ := Lib.hid hz
        clear hz q1 q2
        obtain ⟨k', rfl⟩ : ∃ k', k = k' + 1 := ⟨k - 1, by omega⟩
        have e1 : ((k' + 1 : Nat) : Int) - 1 = (k' : Int) := by omega
        have e2 : k' + 1 - 1 = k' := by omega
        rw [e2] at cL
        have w1 : IntKind.i64.wrap ((y : Int) + (z : Int)) = (x : Int) := by rw [IntWalk.i64_in _ (by omega)]; omega
        have w2 : IntKind.i64.wrap (((k' + 1 : Nat) : Int) - 1) = (k' : Int) := by rw [IntWalk.i64_in _ (by omega)]; omega
        go_wp2
        go_roundw
        case rel => exact ⟨k' + 1 + 1, by go_num, by omega, trivial⟩
        case measure => simp [intOf]; omega
    · obtain rfl : k = bs.length + 1 := by omega
      go_wp2_with (go_at_call 18; refine (C18.out _ hb8).mono ?_; rintro e w9 ⟨rfl, hb9'⟩; have hb9 := hb8.trans (hb9'.mono hb8.size))
      go_ret
      exact ⟨rfl, hb9⟩

theorem rooksCut_true (v : Value) (xs : List Int) (i j : Int) (w : World) (hv : Ints w v xs) (_ : -9223372036854775808 ≤ i ∧ i ≤ 9223372036854775807) (_ : -9223372036854775808 ≤ j ∧ j ≤ 9223372036854775807) (ht : Tab w) :
    Calls Tryd.prog 3 #[v, .int .i64 i, .int .i64 j] w (True1 w) := by
  cases hb : boardB xs with
  | false => exact Cut_no v xs i j w hv ht hb
  | true =>
    obtain ⟨bs, rfl, h⟩ := board_of hb
    by_cases hbad : WArgs bs.length i j
    · unfold WArgs at hbad
      obtain ⟨i', rfl⟩ := Int.eq_ofNat_of_zero_le (show 0 ≤ i by omega)
      obtain ⟨j', rfl⟩ := Int.eq_ofNat_of_zero_le (show 0 ≤ j by omega)
      have hi : i' < bs.length := by omega
      cases hbit : bs[i'].testBit j' with
      | false => exact Cut_clear v bs i' j' w hv ht h (by omega) hi (by omega) hbit
      | true => exact Cut_set v bs i' j' w hv ht h (by omega) hi (by omega) hbit
    · exact Cut_bad v bs i j w hv ht h hbad
end Go.Proofs.YtlpnicfbgdfbnaaDoor
