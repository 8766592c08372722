/- RooksEither: the boards with a barrier. -/
import Derived.Test.YtlpnicfbgdfbnaaDoorEi
import Derived.Deep.QuietTactic
import Derived.BigQuiet
namespace Go.Proofs.YtlpnicfbgdfbnaaDoor
open Go.RowKit Go.Shelf
attribute [local go_sem] Oper.semAt_some

theorem below_drewQ (B : Nat) (w : World) (q : Nat) : Below B w (w.drewN q) := ⟨rfl, rfl, rfl, Nat.le_refl _, fun _ _ => rfl⟩
theorem popTo_le (S : Nat) : ∀ k, popTo S k ≤ k
  | 0 => by simp [popTo]
  | k + 1 => by
    have := popTo_le S k
    rw [popTo]
    split <;> omega

set_option maxRecDepth 20000 in
set_option maxHeartbeats 4000000 in
theorem EitherL_none (v : Value) (bs : List Nat) (S : Nat) (w : World) (hv : Ints w v (toI bs)) (ht : Tab w) (h : IsBoard bs) (hf : firstA bs = none) (hB : firstB bs = some S) :
    Calls Tryd.prog 9 #[v] w (True1 w) := by
  have h00 : ¬ 0 < (hitsL bs).getD 0 0 := by rw [hits0, hf]; simp
  have hSlt : S < 2 ^ bs.length := List.mem_range.1 (List.mem_of_find?_eq_some hB)
  have hbar : isBar bs S = true := List.find?_some hB
  have C15 := Lib.hid (fun w' (hb : Below w.heap.size w w') => by have := list_any v _ w' (hv.below hb); rw [take_board h] at this; exact this)
  have C31 := Lib.hid (fun v' w' (hb : Ints w' v' (toI bs)) (hw : Below w.heap.size w w') => Avoid_none v' bs w' hb h (ht.below hw) hf)
  have C32 := Lib.hid (fun v' w' (hb : Ints w' v' (toI bs)) => (Barrier_yes v' bs w' hb h).mono fun _ _ hh => by have := bar_res hh; simp only [resB, hB] at this; exact this)
  have C23 := Lib.hid (fun v' w' (hb : Ints w' v' (toI bs)) (hw : Below w.heap.size w w') => Hits_yes v' bs w' hb h (ht.below hw))
  have C17 := Lib.hid (fun w' (hb : Below w.heap.size w w') => by have := Board_any v _ w' (hv.below hb); rw [boardB_board h] at this; exact this)
  have C18 := Lib.hid (fun w' (hb : Below w.heap.size w w') => awake_any w' (ht.below hb))
  have hl9 : (toI bs).length ≤ 17592186044416 := hv.len
  have h6 := h.le
  have h64 := two_pow_le h6
  have H64 := Lib.hid h.lt
  have hC64 := comm_lt bs S h6 bs.length
  have hClt : comm bs S bs.length < 2 ^ bs.length := lt_of_bits fun c hc => by
    by_cases hc8 : c < 8
    · exact ((comm_bit bs S c h6 hc8 bs.length).1 hc).1
    · have h64c : 64 ≤ 2 ^ c := by
        have : 2 ^ 6 ≤ 2 ^ c := Nat.pow_le_pow_right (by decide) (by omega)
        omega
      rw [Nat.testBit_lt_two_pow (Nat.lt_of_lt_of_le hC64 h64c)] at hc
      cases hc
  have HSub := Lib.hid (show ∀ i, i < bs.length → S.testBit i = true → bs.getD i 0 &&& comm bs S bs.length = comm bs S bs.length from fun i hi hS => Nat.eq_of_testBit_eq fun c => by
    rw [Nat.testBit_and]
    cases hc : (comm bs S bs.length).testBit c with
    | false => simp
    | true =>
      have hc8 : c < 8 := by have := bits_lt hClt hc; omega
      rw [((comm_bit bs S c h6 hc8 bs.length).1 hc).2 i hi hS]; rfl)
  have hcnt : bs.length < popTo S bs.length + popTo (comm bs S bs.length) bs.length := by
    have h1 := pop_popTo bs.length (by omega) S (by omega)
    have h2 := pop_popTo bs.length (by omega) (comm bs S bs.length) hC64
    simp only [hSlt, hClt, decide_true, Bool.not_true, Bool.false_or, decide_eq_true_eq] at h1 h2
    unfold isBar at hbar
    rw [decide_eq_true_eq] at hbar
    omega
  have H2 := Lib.hid (show ((2 ^ bs.length : Nat) : Int) = (2 : Int) ^ bs.length by simp)
  have hpw := pow_in bs.length (by omega)
  obtain ⟨C, hC⟩ : ∃ C, comm bs S bs.length = C := ⟨_, rfl⟩
  rw [hC] at hC64 hClt HSub hcnt C32
  have hSi : (S : Int) < (2 : Int) ^ bs.length := by rw [← H2.out]; omega
  have hCi : (C : Int) < (2 : Int) ^ bs.length := by rw [← H2.out]; omega
  have hS64 : S < 64 := by omega
  have hHl := hitsL_length bs
  have hpos := h.pos
  obtain ⟨Hh, hHe⟩ : ∃ Hh, hitsL bs = Hh := ⟨_, rfl⟩
  rw [hHe] at h00 hHl C23
  have HZ := Lib.hid (show Hh.getD 0 0 = 0 by omega)
  obtain ⟨a, c, rfl, hlen, hcl, hc⟩ := hv.openN
  have HCC := Lib.hid hc
  have hb0 := Below.refl w.heap.size w
  have HCN := Lib.hid hcnt
  clear hv ht h hc hf hB hHe h00 hbar hSlt hClt hC h64 hcnt
  go_enter Tryd.func9, Tryd.ntmps9
  go_wp2_with (first
      | (go_at_call 17; refine (C17.out w6 hb6).mono ?_; rintro e w7 ⟨rfl, rfl⟩)
      | (
        go_at_call 23
        refine (C23.out v5 w5 (ho5.ints hl9) hb5).mono ?_
        rintro e w6 ⟨v6, rfl, ho6, hb6'⟩
        have hb6 := hb5.trans (hb6'.mono hb5.size)
        obtain ⟨g6, k6, rfl⟩ := ho6.row hHl
        have c60 := ho6.cellN 0 (by omega)
        rw [← getD_at, HZ.out] at c60)
      | (go_at_call 15; refine (C15.out w4 hb4).mono ?_; rintro e w5 ⟨v5, rfl, ho5, hb5'⟩; have hb5 := hb4.trans (hb5'.mono hb4.size))
      | (go_at_call 32; refine (C32.out v3 w3 (ho3.ints hl9)).mono ?_; rintro e w4 ⟨rfl, hb4'⟩; have hb4 := hb3.trans (hb4'.mono hb3.size))
      | (go_at_call 15; refine (C15.out w2 hb2).mono ?_; rintro e w3 ⟨v3, rfl, ho3, hb3'⟩; have hb3 := hb2.trans (hb3'.mono hb2.size))
      | (go_at_call 31; refine (C31.out v1 w1 (ho1.ints hl9) hb1).mono ?_; rintro e w2 ⟨rfl, hb2'⟩; have hb2 := hb1.trans (hb2'.mono hb1.size))
      | (go_at_call 15; refine (C15.out w hb0).mono ?_; rintro e w1 ⟨v1, rfl, ho1, hb1⟩))
  have HB6 := Lib.hid hb6
  clear hb6 ho1 ho3 ho5 ho6 hb1 hb2 hb3 hb4 hb5 hb2' hb3' hb4' hb5' hb6' C15 C31 C32 C23 C17 c60 hb0
  go_loopw [14, 143] (fun t ix wr => ∃ k : Nat, k ≤ bs.length ∧ ix = .int .i64 k ∧ t = .int .i64 (popTo S k + popTo C k : Nat) ∧ Below w.heap.size w wr) (fun _ ix _ => bs.length - (intOf ix).toNat)
  case atStart => exact ⟨0, Nat.zero_le _, rfl, rfl, HB6.out⟩
  case round =>
    obtain ⟨k, hk, rfl, rfl, hb⟩ := hrel
    by_cases hlt : k < bs.length
    · obtain ⟨b, off, rfl, hbl, hcell⟩ := HCC.out (ne_nil_of_lt hlt)
      have hci := (hb.cell (p := ⟨b, off + k, none⟩) hbl).trans (hcell k hlt)
      have hsub := HSub.out k hlt
      rw [getD_at hlt] at hsub
      have hr64 := H64.out _ (List.getElem_mem hlt)
      obtain ⟨r, hr⟩ : ∃ r, bs[k] = r := ⟨_, rfl⟩
      rw [hr] at hci hr64 hsub
      have hand := i64_and r C (by omega) (by omega)
      have hki : (k : Int) < (bs.length : Int) := by omega
      have l1 := popTo_le S k
      have l2 := popTo_le C k
      have s1 : popTo S (k + 1) = popTo S k + if S.testBit k then 1 else 0 := rfl
      have s2 : popTo C (k + 1) = popTo C k + if C.testBit k then 1 else 0 := rfl
      obtain ⟨t, htt⟩ : ∃ t, popTo S k + popTo C k = t := ⟨_, rfl⟩
      have htl : t ≤ 12 := by omega
      rw [htt]
      have HB := Lib.hid hb
      clear hb hcell hr
      cases hbS : S.testBit k with
      | true =>
        have e1 := bit_walk1 (show k < 6 by omega) hS64 hbS
        rw [hsub hbS] at hand
        rw [hbS, if_pos rfl] at s1
        cases hbC : C.testBit k with
        | true =>
          have e2 := bit_walk1 (show k < 6 by omega) hC64 hbC
          rw [hbC, if_pos rfl] at s2
          have hw2 : IntKind.i64.wrap ((t : Int) + 2) = (t : Int) + 2 := IntWalk.i64_in _ (by omega)
          have HE := Lib.hid (show popTo S (k + 1) + popTo C (k + 1) = t + 2 by omega)
          clear s1 s2 htt hsub hbS hbC l1 l2
          go_upto_region 23 with (fail)
          go_quiet (fail)
          go_wp2
          go_roundw
          case rel => exact ⟨k + 1, by omega, by go_num, by rw [HE.out]; go_num, HB.out.trans (below_drewQ _ _ _)⟩
          case measure => simp [intOf]; omega
        | false =>
          have e2 := bit_walk0 (show k < 6 by omega) hC64 hbC
          rw [hbC, if_neg (by simp)] at s2
          have hw2 : IntKind.i64.wrap ((t : Int) + 1) = (t : Int) + 1 := IntWalk.i64_in _ (by omega)
          have HE := Lib.hid (show popTo S (k + 1) + popTo C (k + 1) = t + 1 by omega)
          clear s1 s2 htt hsub hbS hbC l1 l2
          go_upto_region 23 with (fail)
          go_quiet (fail)
          go_wp2
          go_roundw
          case rel => exact ⟨k + 1, by omega, by go_num, by rw [HE.out]; go_num, HB.out.trans (below_drewQ _ _ _)⟩
          case measure => simp [intOf]; omega
      | false =>
        have e1 := bit_walk0 (show k < 6 by omega) hS64 hbS
        rw [hbS, if_neg (by simp)] at s1
        cases hbC : C.testBit k with
        | true =>
          have e2 := bit_walk1 (show k < 6 by omega) hC64 hbC
          rw [hbC, if_pos rfl] at s2
          have hw2 : IntKind.i64.wrap ((t : Int) + 1) = (t : Int) + 1 := IntWalk.i64_in _ (by omega)
          have HE := Lib.hid (show popTo S (k + 1) + popTo C (k + 1) = t + 1 by omega)
          clear s1 s2 htt hsub hbS hbC l1 l2
          go_upto_region 23 with (fail)
          go_quiet (fail)
          go_wp2
          go_roundw
          case rel => exact ⟨k + 1, by omega, by go_num, by rw [HE.out]; go_num, HB.out.trans (below_drewQ _ _ _)⟩
          case measure => simp [intOf]; omega
        | false =>
          have e2 := bit_walk0 (show k < 6 by omega) hC64 hbC
          rw [hbC, if_neg (by simp)] at s2
          have hw2 : IntKind.i64.wrap (t : Int) = (t : Int) := IntWalk.i64_in _ (by omega)
          have HE := Lib.hid (show popTo S (k + 1) + popTo C (k + 1) = t by omega)
          clear s1 s2 htt hsub hbS hbC l1 l2
          go_upto_region 23 with (fail)
          go_quiet (fail)
          go_wp2
          go_roundw
          case rel => exact ⟨k + 1, by omega, by go_num, by rw [HE.out], HB.out.trans (below_drewQ _ _ _)⟩
          case measure => simp [intOf]; omega
    · obtain rfl : k = bs.length := by omega
      obtain ⟨t, htt⟩ : ∃ t, popTo S bs.length + popTo C bs.length = t := ⟨_, rfl⟩
      rw [htt] at HCN ⊢
      have hti : (bs.length : Int) < (t : Int) := by have := HCN.out; omega
      have HB := Lib.hid hb
      clear hb htt
      go_wp2_with (go_at_call 18; refine (C18.out _ HB.out).mono ?_; rintro e w7 ⟨rfl, hb7⟩; replace hb7 := HB.out.trans (hb7.mono HB.out.size))
      go_ret
      exact ⟨rfl, hb7⟩

theorem rooksEither_true (v : Value) (xs : List Int) (w : World) (hv : Ints w v xs) (ht : Tab w) :
    Calls Tryd.prog 9 #[v] w (True1 w) := by
  cases hb : boardB xs with
  | false => exact EitherL_no v xs w hv ht hb
  | true =>
    obtain ⟨bs, rfl, h⟩ := board_of hb
    cases hf : firstA bs with
    | some l => exact EitherL_some v bs l w hv ht h hf
    | none =>
      have := either h
      rw [hf] at this
      cases hB : firstB bs with
      | none => rw [hB] at this; cases this
      | some S => exact EitherL_none v bs S w hv ht h hf hB
end Go.Proofs.YtlpnicfbgdfbnaaDoor
