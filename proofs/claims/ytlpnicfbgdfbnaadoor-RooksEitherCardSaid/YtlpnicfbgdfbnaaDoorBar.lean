/- Barrier; RooksAvoids. -/
import Derived.Test.YtlpnicfbgdfbnaaDoorAv
namespace Go.Proofs.YtlpnicfbgdfbnaaDoor
open Go.RowKit Go.Shelf
attribute [local go_sem] Oper.semAt_some

set_option maxRecDepth 20000 in
set_option maxHeartbeats 800000 in
theorem Barrier_no (v : Value) (xs : List Int) (w : World) (hv : Ints w v xs) (h : boardB xs = false) :
    Calls Tryd.prog 32 #[v] w fun e w' => e = .returned (.tuple #[.int .i64 0, .int .i64 0, .int .i64 2]) ∧ Below w.heap.size w w' := by
  have C := valid_any v xs w hv
  rw [h] at C
  go_enter Tryd.func32, Tryd.ntmps32
  go_wp2_with (go_at_call 46; refine C.mono ?_; rintro e w1 ⟨rfl, hb⟩)
  go_ret3
  exact ⟨rfl, hb⟩

set_option maxRecDepth 20000 in
set_option maxHeartbeats 2000000 in
theorem Barrier_yes (v : Value) (bs : List Nat) (w : World) (hv : Ints w v (toI bs)) (h : IsBoard bs) :
    Calls Tryd.prog 32 #[v] w (BarIs bs w) := by
  have CV := valid_any v _ w hv
  rw [boardB_board h] at CV
  have HV := Lib.hid hv
  have h6 := h.le
  have hlt64 := Lib.hid h.lt
  have h2le := two_pow_le h6
  have hpw := pow_in bs.length (by omega)
  have hpw1 := pow_in1 bs.length (by omega)
  have hcast : (2 : Int) ^ bs.length - 1 = ((2 ^ bs.length - 1 : Nat) : Int) := by
    have : 1 ≤ 2 ^ bs.length := Nat.one_le_two_pow
    rw [Int.ofNat_sub this]; simp
  have HC := Lib.hid hcast
  have HCL := Lib.hid (fun S k => comm_lt bs S h6 k)
  have H2 := Lib.hid (show ((2 ^ bs.length : Nat) : Int) = (2 : Int) ^ bs.length by simp)
  obtain ⟨a, c, rfl, hlen, hcl, hc⟩ := hv.openN
  have HCC := Lib.hid hc
  clear hv h hcast hc
  go_enter Tryd.func32, Tryd.ntmps32
  go_wp2_with (go_at_call 46; refine CV.mono ?_; rintro e w1 ⟨rfl, hb⟩)
  have HB := Lib.hid hb
  have CA := Lib.hid (all_any (.slice a bs.length c) bs w1 (HV.out.below hb) h6)
  clear hb
  go_loopw [17] (fun ix wr => ∃ S : Nat, S ≤ 2 ^ bs.length ∧ ix = .int .i64 S ∧ wr = w1 ∧ ∀ i, i < S → isBar bs i = false) (fun i _ => 2 ^ bs.length - (intOf i).toNat)
  case atStart => exact ⟨0, Nat.zero_le _, rfl, rfl, fun i h => by omega⟩
  case round =>
    obtain ⟨S, hS, rfl, rfl, hbefore⟩ := hrel
    have HBF := Lib.hid hbefore
    clear hbefore
    by_cases hlt : S < 2 ^ bs.length
    · have hSi : (S : Int) < (2 : Int) ^ bs.length := by rw [← H2.out]; omega
      have hS64 : S < 64 := by omega
      have HS := Lib.hid hS
      have HLT := Lib.hid hlt
      clear hS hlt
      go_upto_region 9 with (go_at_call 48; refine CA.out.mono ?_; rintro e w2 ⟨rfl, rfl⟩)
      go_loopw [7, 24] (fun cc ix wq => ∃ k : Nat, k ≤ bs.length ∧ ix = .int .i64 k ∧ cc = .int .i64 (comm bs S k : Nat) ∧ wq = wr) (fun _ i _ => bs.length - (intOf i).toNat)
      case atStart => exact ⟨0, Nat.zero_le _, rfl, by rw [comm_zero, ← HC.out], rfl⟩
      case round =>
        obtain ⟨k, hk, rfl, rfl, rfl⟩ := hrel
        have hcm := HCL.out S k
        have hcs := comm_succ bs S k
        obtain ⟨C, hC⟩ : ∃ C, comm bs S k = C := ⟨_, rfl⟩
        by_cases hkl : k < bs.length
        · obtain ⟨b, off, rfl, hbl, hcell⟩ := HCC.out (ne_nil_of_lt hkl)
          have hci := (HB.out.cell (p := ⟨b, off + k, none⟩) hbl).trans (hcell k hkl)
          rw [getD_at hkl] at hcs
          have hr64 := hlt64.out _ (List.getElem_mem hkl)
          obtain ⟨r, hr⟩ : ∃ r, bs[k] = r := ⟨_, rfl⟩
          rw [hr] at hci hcs hr64
          rw [hC] at hcs hcm ⊢
          have hand := i64_and C r (by omega) (by omega)
          have hki : (k : Int) < (bs.length : Int) := by omega
          cases hb : S.testBit k with
          | true =>
            have e1 := bit_walk1 (show k < 6 by omega) hS64 hb
            rw [hb, if_pos rfl] at hcs
            have HCS := Lib.hid hcs
            clear hcs hb hC hr hcell
            go_wp2
            go_roundw
            case rel => exact ⟨k + 1, by omega, by go_num, by rw [HCS.out], trivial⟩
            case measure => simp [intOf]; omega
          | false =>
            have e1 := bit_walk0 (show k < 6 by omega) hS64 hb
            rw [hb, if_neg (by simp)] at hcs
            have HCS := Lib.hid hcs
            clear hcs hb hC hr hcell
            go_wp2
            go_roundw
            case rel => exact ⟨k + 1, by omega, by go_num, by rw [HCS.out], trivial⟩
            case measure => simp [intOf]; omega
        · obtain rfl : k = bs.length := by omega
          have hC256 : C < 256 := by rw [← hC]; omega
          have p1 := pop_le S (by omega)
          have p2 := pop_le C hC256
          have hib : isBar bs S = decide (bs.length < pop S + pop C) := by unfold isBar; rw [hC]
          have HCE := Lib.hid hC
          rw [hC]
          have hwa : IntKind.i64.wrap ((pop S : Int) + (pop C : Int)) = (pop S : Int) + (pop C : Int) := IntWalk.i64_in _ (by omega)
          clear hcm hcs hC
          by_cases hbar : bs.length < pop S + pop C
          · have hbi : (bs.length : Int) < (pop S : Int) + (pop C : Int) := by omega
            rw [decide_eq_true hbar] at hib
            have HF := Lib.hid (firstB_some (HBF.out) HLT.out hib)
            clear hib hbar
            go_wp2_with (go_at_call 59; refine (count_any _ _ (by omega)).mono ?_; rintro e w3 ⟨rfl, rfl⟩)
            go_ret3
            refine ⟨HB.out, ?_⟩
            rw [HF.out]
            show _ = Ending.returned (.tuple #[.int .i64 (S : Nat), .int .i64 (comm bs S bs.length : Nat), .int .i64 0])
            rw [HCE.out]
            rfl
          · have hbi : ¬ (bs.length : Int) < (pop S : Int) + (pop C : Int) := by omega
            rw [decide_eq_false hbar] at hib
            have HI := Lib.hid hib
            clear hib
            go_wp2_with (go_at_call 59; refine (count_any _ _ (by omega)).mono ?_; rintro e w3 ⟨rfl, rfl⟩)
            go_roundw
            case rel =>
              refine ⟨S + 1, by have := HLT.out; omega, by go_num, trivial, fun i hi => ?_⟩
              by_cases hie : i = S
              · subst hie; exact HI.out
              · exact HBF.out i (by omega)
            case measure => have := HLT.out; simp [intOf]; omega
    · obtain rfl : S = 2 ^ bs.length := by omega
      have HF := Lib.hid (firstB_none HBF.out)
      have hSi : ¬ ((2 ^ bs.length : Nat) : Int) < (2 : Int) ^ bs.length := by rw [H2.out]; omega
      go_wp2
      go_ret3
      refine ⟨HB.out, ?_⟩
      rw [HF.out]
      rfl
end Go.Proofs.YtlpnicfbgdfbnaaDoor
