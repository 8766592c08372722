/- RooksEither. -/
import Derived.Test.YtlpnicfbgdfbnaaDoorHb
import Derived.Test.YtlpnicfbgdfbnaaDoorAvL
namespace Go.Proofs.YtlpnicfbgdfbnaaDoor
open Go.RowKit Go.Shelf
attribute [local go_sem] Oper.semAt_some

set_option maxRecDepth 20000 in
set_option maxHeartbeats 2000000 in
theorem EitherL_no (v : Value) (xs : List Int) (w : World) (hv : Ints w v xs) (ht : Tab w) (h : boardB xs = false) :
    Calls Tryd.prog 9 #[v] w (True1 w) := by
  have C15 := Lib.hid (fun w' (hb : Below w.heap.size w w') => list_any v xs w' (hv.below hb))
  have C31 := Lib.hid (fun v' w' (hb : Ints w' v' (xs.take 9)) => Avoid_no v' (xs.take 9) w' hb (by rw [boardB_take]; exact h))
  have C32 := Lib.hid (fun v' w' (hb : Ints w' v' (xs.take 9)) => Barrier_no v' (xs.take 9) w' hb (by rw [boardB_take]; exact h))
  have C23 := Lib.hid (fun v' w' (hb : Ints w' v' (xs.take 9)) => Hits_no v' (xs.take 9) w' hb (by rw [boardB_take]; exact h))
  have C18 := Lib.hid (fun w' (hb : Below w.heap.size w w') => awake_any w' (ht.below hb))
  have hl9 : (xs.take 9).length ≤ 17592186044416 := by simp; omega
  have hb0 := Below.refl w.heap.size w
  clear hv ht h
  go_enter Tryd.func9, Tryd.ntmps9
  go_wp2_with (first
      | (go_at_call 18; refine (C18.out w6 hb6).mono ?_; rintro e w7 ⟨rfl, hb7⟩; replace hb7 := hb6.trans (hb7.mono hb6.size))
      | (go_at_call 23; refine (C23.out v5 w5 (ho5.ints hl9)).mono ?_; rintro e w6 ⟨rfl, hb6⟩; replace hb6 := hb5.trans (hb6.mono hb5.size))
      | (go_at_call 15; refine (C15.out w4 hb4).mono ?_; rintro e w5 ⟨v5, rfl, ho5, hb5⟩; replace hb5 := hb4.trans (hb5.mono hb4.size))
      | (go_at_call 32; refine (C32.out v3 w3 (ho3.ints hl9)).mono ?_; rintro e w4 ⟨rfl, hb4⟩; replace hb4 := hb3.trans (hb4.mono hb3.size))
      | (go_at_call 15; refine (C15.out w2 hb2).mono ?_; rintro e w3 ⟨v3, rfl, ho3, hb3⟩; replace hb3 := hb2.trans (hb3.mono hb2.size))
      | (go_at_call 31; refine (C31.out v1 w1 (ho1.ints hl9)).mono ?_; rintro e w2 ⟨rfl, hb2⟩; replace hb2 := hb1.trans (hb2.mono hb1.size))
      | (go_at_call 15; refine (C15.out w hb0).mono ?_; rintro e w1 ⟨v1, rfl, ho1, hb1⟩))
  go_ret
  exact ⟨rfl, hb7⟩

/-- The columns of the first rows. -/
def tkn (l : List Nat) : Nat → Nat
  | 0 => 0
  | k + 1 => tkn l k ||| 2 ^ l.getD k 0
theorem tkn_bit (l : List Nat) (c : Nat) : ∀ k, (tkn l k).testBit c = true ↔ ∃ i, i < k ∧ l.getD i 0 = c
  | 0 => by simp [tkn]
  | k + 1 => by
    rw [tkn, Nat.testBit_or, Bool.or_eq_true, tkn_bit l c k, Nat.testBit_two_pow, decide_eq_true_eq]
    constructor
    · rintro (⟨i, h1, h2⟩ | h)
      · exact ⟨i, by omega, h2⟩
      · exact ⟨k, by omega, h⟩
    · rintro ⟨i, h1, h2⟩
      by_cases e : i = k
      · subst e; exact .inr h2
      · exact .inl ⟨i, by omega, h2⟩

structure Good (bs l : List Nat) : Prop where
  len : l.length = bs.length
  lt : ∀ i, i < bs.length → l.getD i 0 < bs.length
  new : ∀ i, i < bs.length → (tkn l i).testBit (l.getD i 0) = false
  off : ∀ i, i < bs.length → (bs.getD i 0).testBit (l.getD i 0) = false
theorem good {bs l : List Nat} (h : IsBoard bs) (hf : firstA bs = some l) : Good bs l := by
  have h6 := h.le
  obtain ⟨p1, p2, p3⟩ := all_pop bs.length (by omega)
  have hl : l ∈ allP bs.length := List.mem_of_find?_eq_some hf
  have h0 : hitN bs l = 0 := by have := List.find?_some hf; simpa using this
  have hlen : l.length = bs.length := perms_len _ _ l hl
  have hnd := perms_nodup _ _ l p2 hl
  have hbits := perms_sub _ _ l p2 hl
  have hlt6 := perms_lt _ _ l p2 hl
  have hmem : ∀ i, i < bs.length → l.getD i 0 ∈ l := fun i hi => by rw [getD_at (by omega)]; exact List.getElem_mem _
  refine ⟨hlen, fun i hi => ?_, fun i hi => Bool.eq_false_iff.2 fun hc => ?_, (hitN_zero bs l hlen).1 h0⟩
  · have h1 := hbits _ (hmem i hi)
    rw [all_bit bs.length (by omega) _ (by have := hlt6 _ (hmem i hi); omega)] at h1
    simpa using h1
  · obtain ⟨j, hj, e⟩ := (tkn_bit l _ i).1 hc
    rw [getD_at (by omega), getD_at (by omega)] at e
    exact List.pairwise_iff_getElem.1 hnd j i (by omega) (by omega) hj e
theorem tkn_lt {bs l : List Nat} (g : Good bs l) (h6 : bs.length ≤ 6) (k : Nat) (hk : k ≤ bs.length) : tkn l k < 64 :=
  lt_of_bits (n := 6) fun c hc => by
    obtain ⟨i, hi, e⟩ := (tkn_bit l c k).1 hc
    have := g.lt i (by omega)
    omega

set_option maxRecDepth 20000 in
set_option maxHeartbeats 4000000 in
theorem EitherL_some (v : Value) (bs l : List Nat) (w : World) (hv : Ints w v (toI bs)) (ht : Tab w) (h : IsBoard bs) (hf : firstA bs = some l) :
    Calls Tryd.prog 9 #[v] w (True1 w) := by
  have G := Lib.hid (good h hf)
  have hfB : firstB bs = none := by
    have := either h
    rw [hf] at this
    cases hB : firstB bs with
    | none => rfl
    | some S => rw [hB] at this; cases this
  have h00 := (hits0 (bs := bs)).2 (by rw [hf]; rfl)
  have C15 := Lib.hid (fun w' (hb : Below w.heap.size w w') => by have := list_any v _ w' (hv.below hb); rw [take_board h] at this; exact this)
  have C31 := Lib.hid (fun v' w' (hb : Ints w' v' (toI bs)) (hw : Below w.heap.size w w') => Avoid_some v' bs l w' hb h (ht.below hw) hf)
  have C32 := Lib.hid (fun v' w' (hb : Ints w' v' (toI bs)) => (Barrier_yes v' bs w' hb h).mono fun _ _ hh => by have := bar_res hh; unfold resB at this; rw [hfB] at this; exact this)
  have C23 := Lib.hid (fun v' w' (hb : Ints w' v' (toI bs)) (hw : Below w.heap.size w w') => Hits_yes v' bs w' hb h (ht.below hw))
  have C17 := Lib.hid (fun w' (hb : Below w.heap.size w w') => by have := Board_any v _ w' (hv.below hb); rw [boardB_board h] at this; exact this)
  have C18 := Lib.hid (fun w' (hb : Below w.heap.size w w') => awake_any w' (ht.below hb))
  have hl9 : (toI bs).length ≤ 17592186044416 := hv.len
  have h6 := h.le
  have H64 := Lib.hid h.lt
  have hlen' := G.out.len
  have hpos := h.pos
  have HT := Lib.hid (fun k hk => tkn_lt G.out h6 k hk)
  have hHl := hitsL_length bs
  obtain ⟨Hh, hHe⟩ : ∃ Hh, hitsL bs = Hh := ⟨_, rfl⟩
  rw [hHe] at h00 hHl C23
  rw [getD_at (by omega)] at h00
  obtain ⟨z, hz⟩ : ∃ z, Hh[0]'(by omega) = z := ⟨_, rfl⟩
  rw [hz] at h00
  have HZ := Lib.hid (show Hh.getD 0 0 = z by rw [getD_at (by omega)]; exact hz)
  obtain ⟨a, c, rfl, hlen, hcl, hc⟩ := hv.openN
  have HCC := Lib.hid hc
  have hb0 := Below.refl w.heap.size w
  have HL := Lib.hid hlen'
  have HLn := Lib.hid (show l.length = (l.length - 1) + 1 by omega)
  have hzi : (0 : Int) < (z : Int) := by omega
  clear hv ht h hc hf hfB hHe hz hlen'
  go_enter Tryd.func9, Tryd.ntmps9
  go_wp2_with (first
      | (go_at_call 17; refine (C17.out w6 hb6).mono ?_; rintro e w7 ⟨rfl, rfl⟩)
      | (
        go_at_call 23
        refine (C23.out v5 w5 (ho5.ints hl9) hb5).mono ?_
        rintro e w6 ⟨v6, rfl, ho6, hb6'⟩
        have hb6 := hb5.trans (hb6'.mono hb5.size)
        obtain ⟨g6, k6, rfl⟩ := ho6.row hHl
        have c60 := ho6.cellN 0 (by omega)
        rw [← getD_at, HZ.out] at c60
        have hl6 := ((((ho2.below hb3').below hb4').below hb5').below hb6'))
      | (go_at_call 15; refine (C15.out w4 hb4).mono ?_; rintro e w5 ⟨v5, rfl, ho5, hb5'⟩; have hb5 := hb4.trans (hb5'.mono hb4.size))
      | (go_at_call 32; refine (C32.out v3 w3 (ho3.ints hl9)).mono ?_; rintro e w4 ⟨rfl, hb4'⟩; have hb4 := hb3.trans (hb4'.mono hb3.size))
      | (go_at_call 15; refine (C15.out w2 hb2).mono ?_; rintro e w3 ⟨v3, rfl, ho3, hb3'⟩; have hb3 := hb2.trans (hb3'.mono hb2.size))
      | (go_at_call 31; refine (C31.out v1 w1 (ho1.ints hl9) hb1).mono ?_; rintro e w2 ⟨v2, rfl, ho2, hb2'⟩; have hb2 := hb1.trans (hb2'.mono hb1.size); obtain ⟨g2, k2, e2⟩ := ho2.row HLn.out; rw [← HLn.out] at e2; subst e2)
      | (go_at_call 15; refine (C15.out w hb0).mono ?_; rintro e w1 ⟨v1, rfl, ho1, hb1⟩))
  have HL6 := Lib.hid hl6
  have HB6 := Lib.hid hb6
  clear hl6 hb6 ho1 ho2 ho3 ho5 ho6 hb1 hb2 hb3 hb4 hb5 hb2' hb3' hb4' hb5' hb6' C15 C31 C32 C23 C17 c60 hb0
  go_loopw [11, 96] (fun t ix wr => ∃ k : Nat, k ≤ l.length ∧ ix = .int .i64 k ∧ t = .int .i64 (tkn l k : Nat) ∧ wr = w6) (fun _ ix _ => l.length - (intOf ix).toNat)
  case atStart => exact ⟨0, Nat.zero_le _, rfl, rfl, rfl⟩
  case round =>
    obtain ⟨k, hk, rfl, rfl, rfl⟩ := hrel
    by_cases hlt : k < l.length
    · have hkn : k < bs.length := by have := HL.out; omega
      have ck := HL6.out.cellN k hlt
      have g1 := G.out.lt k hkn
      have g2 := G.out.new k hkn
      have g3 := G.out.off k hkn
      obtain ⟨b, off, rfl, hbl, hcell⟩ := HCC.out (ne_nil_of_lt hkn)
      have hci := (HB6.out.cell (p := ⟨b, off + k, none⟩) hbl).trans (hcell k hkn)
      rw [getD_at (show k < l.length by omega)] at g1 g2 g3
      rw [getD_at hkn] at g3
      have hr64 := H64.out _ (List.getElem_mem hkn)
      have ht64 := HT.out k (by omega)
      have hst : tkn l (k + 1) = tkn l k ||| 2 ^ l.getD k 0 := rfl
      rw [getD_at hlt] at hst
      obtain ⟨r, hr⟩ : ∃ r, bs[k] = r := ⟨_, rfl⟩
      obtain ⟨j, hj⟩ : ∃ j, l[k] = j := ⟨_, rfl⟩
      obtain ⟨t, htk⟩ : ∃ t, tkn l k = t := ⟨_, rfl⟩
      rw [hr] at hci hr64 g3
      rw [hj] at ck g1 g2 g3 hst
      rw [htk] at g2 ht64 hst ⊢
      have e1 := bit_walk0 (show j < 6 by omega) ht64 g2
      have e2 := bit_walk0 (show j < 6 by omega) hr64 g3
      have hp := pow_in j (by omega)
      have hor := or_w ht64 (show j < 6 by omega)
      have hkl : (k : Int) < (l.length : Int) := by omega
      have hkb : (k : Int) < (bs.length : Int) := by omega
      have hjb : (j : Int) < (bs.length : Int) := by omega
      have n1 : ¬ (bs.length : Int) ≤ (k : Int) := by omega
      have n2 : ¬ (bs.length : Int) ≤ (j : Int) := by omega
      have n3 : ¬ (j : Int) < 0 := by omega
      have n1' : ¬ bs.length ≤ k := by omega
      have n2' : ¬ bs.length ≤ j := by omega
      have HST := Lib.hid hst
      clear hst g2 g3 htk hj hr hcell
      go_wp2
      go_roundw
      case rel => exact ⟨k + 1, by omega, by go_num, by rw [HST.out], trivial⟩
      case measure => simp [intOf]; omega
    · obtain rfl : k = l.length := by omega
      have hle : ((l.length : Int) == (bs.length : Int)) = true := by have := HL.out; simp; omega
      go_wp2_with (go_at_call 18; refine (C18.out _ HB6.out).mono ?_; rintro e w7 ⟨rfl, hb7⟩; replace hb7 := HB6.out.trans (hb7.mono HB6.out.size))
      go_ret
      exact ⟨rfl, hb7⟩
end Go.Proofs.YtlpnicfbgdfbnaaDoor
