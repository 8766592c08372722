/- Avoid, ref.Avoid; Barrier, ref.Barrier. -/
import Derived.Test.YtlpnicfbgdfbnaaDoorAy
namespace Go.Proofs.YtlpnicfbgdfbnaaDoor
open Go.RowKit Go.Shelf
attribute [local go_sem] Oper.semAt_some

set_option maxRecDepth 20000 in
set_option maxHeartbeats 800000 in
theorem Avoid_no (v : Value) (xs : List Int) (w : World) (hv : Ints w v xs) (h : boardB xs = false) :
    Calls Tryd.prog 31 #[v] w fun e w' => e = .returned (.tuple #[.slice none 0 0, .int .i64 2]) ∧ Below w.heap.size w w' := by
  have C := valid_any v xs w hv
  rw [h] at C
  go_enter Tryd.func31, Tryd.ntmps31
  go_wp2_with (go_at_call 46; refine C.mono ?_; rintro e w1 ⟨rfl, hb⟩)
  go_ret2
  exact ⟨rfl, hb⟩

set_option maxRecDepth 20000 in
set_option maxHeartbeats 800000 in
theorem Avoid_none (v : Value) (bs : List Nat) (w : World) (hv : Ints w v (toI bs)) (h : IsBoard bs) (ht : Tab w) (hf : firstA bs = none) :
    Calls Tryd.prog 31 #[v] w fun e w' => e = .returned (.tuple #[.slice none 0 0, .int .i64 4]) ∧ Below w.heap.size w w' := by
  have C := valid_any v _ w hv
  rw [boardB_board h] at C
  have CA := Lib.hid (fun w' (hb : Below w.heap.size w w') => by have := avoid_any v bs w' (hv.below hb) h (ht.below hb); unfold AvoidIs at this; rw [hf] at this; exact this)
  have q22 : ∀ (w : World) (a : Option Addr) (n c n' c' : Nat), (binOp .eql 22 (.slice a n c) (.slice none n' c')).run Tryd.prog w = .ok (.bool a.isNone) w := fun w a n c n' c' => Lib.run_eql_slice_nil w _ _ a n c n' c' Tryd.underlying22
  clear hv h ht hf
  go_enter Tryd.func31, Tryd.ntmps31
  go_wp2_with (first
    | (go_at_call 46; refine C.mono ?_; rintro e w1 ⟨rfl, hb⟩)
    | (go_at_call 58; refine (CA.out w1 hb).mono ?_; rintro e w2 ⟨v2, rfl, rfl, hb2⟩; replace hb2 := hb.trans (hb2.mono hb.size)))
  go_ret2
  exact ⟨rfl, hb2⟩

set_option maxRecDepth 20000 in
set_option maxHeartbeats 800000 in
theorem Avoid_some (v : Value) (bs l : List Nat) (w : World) (hv : Ints w v (toI bs)) (h : IsBoard bs) (ht : Tab w) (hf : firstA bs = some l) :
    Calls Tryd.prog 31 #[v] w fun e w' => ∃ v', e = .returned (.tuple #[v', .int .i64 0]) ∧ OwnI 3 w.heap.size w' v' (toI l) ∧ Below w.heap.size w w' := by
  have C := valid_any v _ w hv
  rw [boardB_board h] at C
  have CA := Lib.hid (fun w' (hb : Below w.heap.size w w') => by have := avoid_any v bs w' (hv.below hb) h (ht.below hb); unfold AvoidIs at this; rw [hf] at this; exact this)
  have q22 : ∀ (w : World) (a : Option Addr) (n c n' c' : Nat), (binOp .eql 22 (.slice a n c) (.slice none n' c')).run Tryd.prog w = .ok (.bool a.isNone) w := fun w a n c n' c' => Lib.run_eql_slice_nil w _ _ a n c n' c' Tryd.underlying22
  have HL := Lib.hid (show l.length = (l.length - 1) + 1 by have := firstA_len hf; have := h.pos; omega)
  clear hv h ht hf
  go_enter Tryd.func31, Tryd.ntmps31
  go_wp2_with (first
    | (go_at_call 46; refine C.mono ?_; rintro e w1 ⟨rfl, hb⟩)
    | (go_at_call 58; refine (CA.out w1 hb).mono ?_; rintro e w2 ⟨v2, rfl, ho2, hb2⟩; replace ho2 := ho2.mono hb.size; replace hb2 := hb.trans (hb2.mono hb.size); obtain ⟨g2, k2, rfl⟩ := ho2.row HL.out))
  go_ret2
  exact ⟨_, rfl, ho2, hb2⟩

theorem find_take {α : Type} (p : α → Bool) (l : List α) (k : Nat) (h : ∀ i, (hi : i < l.length) → i < k → p l[i] = false) (hk : k < l.length) (hp : p l[k] = true) : l.find? p = some l[k] := by
  induction l generalizing k with
  | nil => simp at hk
  | cons x l ih =>
    rw [List.find?_cons]
    cases k with
    | zero => simp at hp; simp [hp]
    | succ k =>
      have h0 := h 0 (by simp) (by omega)
      simp at h0
      rw [h0]
      simp only [List.getElem_cons_succ] at hp ⊢
      exact ih k (fun i hi hik => by have := h (i + 1) (by simpa using hi) (by omega); simpa using this) (by simpa using hk) hp
theorem find_none {α : Type} (p : α → Bool) (l : List α) (h : ∀ i, (hi : i < l.length) → p l[i] = false) : l.find? p = none := by
  rw [List.find?_eq_none]
  intro x hx
  obtain ⟨i, hi, rfl⟩ := List.mem_iff_getElem.1 hx
  rw [h i hi]; simp

def RefAvoid (bs : List Nat) (w : World) (e : Ending) (w' : World) : Prop := Below w.heap.size w w' ∧ match firstA bs with
  | none => e = .returned (.tuple #[.slice none 0 0, .int .i64 4])
  | some l => ∃ v', e = .returned (.tuple #[v', .int .i64 0]) ∧ OwnI 3 w.heap.size w' v' (toI l)

set_option maxRecDepth 20000 in
set_option maxHeartbeats 2000000 in
theorem refAvoid_any (v : Value) (bs : List Nat) (w : World) (hv : Ints w v (toI bs)) (h : IsBoard bs) :
    Calls Tryd.prog 33 #[v] w (RefAvoid bs w) := by
  have h6 := h.le
  have H := Lib.hid h
  have HV := Lib.hid hv
  have HL := Lib.hid (show ∀ l ∈ allP bs.length, l.length = bs.length from perms_len _ _)
  have H6 := Lib.hid (show ∀ l ∈ allP bs.length, ∀ c ∈ l, c < 6 from fun l hl => perms_lt _ _ l (all_pop bs.length (by omega)).2.1 hl)
  have HN := Lib.hid (allP_length bs.length (by omega))
  obtain ⟨a, c, rfl, hlen, hcl2, hc⟩ := hv.openN
  clear hv h hc
  have C := Lib.hid (permutations_any bs.length h6 w)
  go_enter Tryd.func33, Tryd.ntmps33
  go_wp2_with (go_at_call 53; refine C.out.mono ?_; rintro e w2 ⟨v2, rfl, hr2, hb2⟩; obtain ⟨a2, c2, rfl⟩ := hr2.form)
  obtain ⟨P, hP⟩ : ∃ P, allP bs.length = P := ⟨_, rfl⟩
  have hfin := Lib.hid (show firstA bs = P.find? (fun l => decide (hitN bs l = 0)) from by rw [← hP]; rfl)
  rw [hP] at HL H6 HN hr2 ⊢
  have hPl := HN.out
  clear hP C
  go_loopw [10] (fun ix wr => ∃ k : Nat, k ≤ P.length ∧ ix = .int .i64 k ∧ wr = w2 ∧ ∀ i, (hi : i < P.length) → i < k → hitN bs P[i] ≠ 0) (fun i _ => P.length - (intOf i).toNat)
  case atStart => exact ⟨0, Nat.zero_le _, rfl, rfl, fun i _ h => by omega⟩
  case round =>
    obtain ⟨k, hk, rfl, rfl, hbefore⟩ := hrel
    have HBF := Lib.hid hbefore
    clear hbefore
    by_cases hlt : k < P.length
    · obtain ⟨g2, cap2, u, e2, hg2, hcu, hu⟩ := hr2.at k hlt
      obtain ⟨rfl, _, rfl⟩ := Value.slice.inj e2
      have hlk := HL.out _ (List.getElem_mem hlt)
      have h6k := H6.out _ (List.getElem_mem hlt)
      have CH := Lib.hid (refhits_any (.slice a bs.length c) u bs P[k] wr (HV.out.below hb2) (hu.ints (by rw [toI_length]; omega)) H.out.lt h6k (by omega) h6)
      obtain ⟨hit, hhit⟩ : ∃ x, hitN bs P[k] = x := ⟨_, rfl⟩
      have hhle : hit ≤ 6 := by rw [← hhit]; exact Nat.le_trans (hitN_le _ _) (by omega)
      rw [hhit] at CH
      have HH := Lib.hid hhit
      have HU := Lib.hid hu
      have HB2 := Lib.hid hb2
      have HR2 := Lib.hid hr2
      obtain ⟨au, lu, hfu⟩ := hu.form
      rw [toI_length] at hfu
      rw [hfu] at hcu CH HU
      clear hu hfu hhit hlk h6k hb2 hr2
      by_cases hz : hit = 0
      · subst hz
        have HF := Lib.hid (find_take (fun l => decide (hitN bs l = 0)) P k (fun i hi hik => by simpa using HBF.out i hi hik) hlt (by simpa using HH.out))
        go_wp2_with (go_at_call 54; refine CH.out.mono ?_; rintro e w3 ⟨rfl, rfl⟩)
        go_ret2
        refine ⟨HB2.out, ?_⟩
        rw [hfin.out, HF.out]
        exact ⟨_, rfl, HU.out⟩
      · have hzb : ((hit : Int) == 0) = false := by simp; omega
        go_wp2_with (go_at_call 54; refine CH.out.mono ?_; rintro e w3 ⟨rfl, rfl⟩)
        go_roundw
        case rel =>
          refine ⟨k + 1, by omega, by go_num, trivial, fun i hi hik => ?_⟩
          by_cases hie : i = k
          · subst hie; rw [HH.out]; exact hz
          · exact HBF.out i hi (by omega)
        case measure => simp [intOf]; omega
    · obtain rfl : k = P.length := by omega
      have HF := Lib.hid (find_none (fun l => decide (hitN bs l = 0)) P (fun i hi => by simpa using HBF.out i hi hi))
      have HB2 := Lib.hid hb2
      go_wp2
      go_ret2
      refine ⟨HB2.out, ?_⟩
      rw [hfin.out, HF.out]
      rfl

/-! ### barriers -/
/-- The columns that the rows of a set have in common. -/
def comm (bs : List Nat) (S k : Nat) : Nat := (List.range k).foldl (fun c i => if S.testBit i then c &&& bs.getD i 0 else c) (2 ^ bs.length - 1)
theorem comm_zero (bs : List Nat) (S : Nat) : comm bs S 0 = 2 ^ bs.length - 1 := rfl
theorem comm_succ (bs : List Nat) (S k : Nat) : comm bs S (k + 1) = if S.testBit k then comm bs S k &&& bs.getD k 0 else comm bs S k := by
  unfold comm; rw [List.range_succ, List.foldl_append]; rfl
theorem comm_lt (bs : List Nat) (S : Nat) (h6 : bs.length ≤ 6) : ∀ k, comm bs S k < 64
  | 0 => by rw [comm_zero]; have := two_pow_le h6; have := Nat.one_le_two_pow (n := bs.length); omega
  | k + 1 => by
    rw [comm_succ]
    split
    · exact Nat.lt_of_le_of_lt Nat.and_le_left (comm_lt bs S h6 k)
    · exact comm_lt bs S h6 k
def isBar (bs : List Nat) (S : Nat) : Bool := decide (bs.length < pop S + pop (comm bs S bs.length))
def firstB (bs : List Nat) : Option Nat := (List.range (2 ^ bs.length)).find? (isBar bs)
theorem firstB_some {bs : List Nat} {k : Nat} (h : ∀ i, i < k → isBar bs i = false) (hk : k < 2 ^ bs.length) (hp : isBar bs k = true) : firstB bs = some k := by
  have := find_take (isBar bs) (List.range (2 ^ bs.length)) k (fun i _ hik => by simpa using h i hik) (by simpa using hk) (by simpa using hp)
  unfold firstB
  rw [this, List.getElem_range]
theorem firstB_none {bs : List Nat} (h : ∀ i, i < 2 ^ bs.length → isBar bs i = false) : firstB bs = none :=
  find_none _ _ fun i hi => by simpa using h i (by simpa using hi)

def BarIs (bs : List Nat) (w : World) (e : Ending) (w' : World) : Prop := Below w.heap.size w w' ∧ e = .returned (.tuple (match firstB bs with
  | none => #[.int .i64 0, .int .i64 0, .int .i64 4]
  | some S => #[.int .i64 (S : Nat), .int .i64 (comm bs S bs.length : Nat), .int .i64 0]))

theorem pop_next : ∀ x : Nat, x < 256 → 0 < x → pop x = pop (nextS x) + 1 := by decide +kernel
theorem nextS_lt' : ∀ x : Nat, x < 256 → nextS x < 256 := by decide +kernel

set_option maxRecDepth 20000 in
set_option maxHeartbeats 800000 in
theorem size_any (x : Nat) (w : World) (hx : x < 256) : Calls Tryd.prog 60 #[.int .i64 (x : Nat)] w fun e w' => e = .returned (.int .i64 (pop x : Nat)) ∧ w = w' := by
  have hp8 := pop_le x hx
  go_enter Tryd.func60, Tryd.ntmps60
  go_wp2
  go_loopw [0, 3] (fun s k wr => ∃ y j : Nat, s = .int .i64 y ∧ k = .int .i64 j ∧ y < 256 ∧ j + pop y = pop x ∧ wr = w) (fun s _ _ => (intOf s).toNat)
  case atStart => exact ⟨x, 0, rfl, rfl, hx, by omega, rfl⟩
  case round =>
    obtain ⟨y, j, rfl, rfl, hy, hj, rfl⟩ := hrel
    by_cases hpos : 0 < y
    · have hn := nextS_w y hy hpos
      have hnl := nextS_lt y hy hpos
      have hpn := pop_next y hy hpos
      have hn8 := nextS_lt' y hy
      have hyi : (0 : Int) < (y : Int) := by omega
      have hw1 : IntKind.i64.wrap ((y : Int) - 1) = (y : Int) - 1 := IntWalk.i64_in _ (by omega)
      have hw2 : IntKind.i64.wrap ((j : Int) + 1) = (j : Int) + 1 := IntWalk.i64_in _ (by omega)
      obtain ⟨z, hz⟩ : ∃ z, nextS y = z := ⟨_, rfl⟩
      rw [hz] at hn hnl hpn hn8
      have HJ := Lib.hid hj
      have HP := Lib.hid hpn
      clear hj hpn hz
      go_wp2
      go_roundw
      case rel => exact ⟨z, j + 1, rfl, by go_num, hn8, by have := HJ.out; have := HP.out; omega, trivial⟩
      case measure => simp [intOf]; omega
    · obtain rfl : y = 0 := by omega
      have e0 : pop 0 = 0 := by decide
      rw [e0] at hj
      have HJ := Lib.hid hj
      clear hj e0
      go_wp2
      go_ret
      exact ⟨by rw [← HJ.out]; rfl, rfl⟩

set_option maxRecDepth 20000 in
set_option maxHeartbeats 2000000 in
theorem refBarrier_any (v : Value) (bs : List Nat) (w : World) (hv : Ints w v (toI bs)) (h : IsBoard bs) :
    Calls Tryd.prog 34 #[v] w (BarIs bs w) := by
  have h6 := h.le
  have hlt64 := Lib.hid h.lt
  have h2le := two_pow_le h6
  have hpw := pow_in bs.length (by omega)
  have hpw1 := pow_in1 bs.length (by omega)
  have hcast : (2 : Int) ^ bs.length - 1 = ((2 ^ bs.length - 1 : Nat) : Int) := by
    have : 1 ≤ 2 ^ bs.length := Nat.one_le_two_pow
    rw [Int.ofNat_sub this]; simp
  have HC := Lib.hid hcast
  have HCL := Lib.hid (fun S k => comm_lt bs S h6 k)
  have H2 := Lib.hid (show ((2 ^ bs.length : Nat) : Int) = (2 : Int) ^ bs.length by simp)
  obtain ⟨a, c, rfl, hlen, hcl, hc⟩ := hv.openN
  have HCC := Lib.hid hc
  clear hv h hcast hc
  go_enter Tryd.func34, Tryd.ntmps34
  go_wp2
  have HB := Lib.hid (Below.refl w.heap.size w)
  go_loopw [12] (fun ix wr => ∃ S : Nat, S ≤ 2 ^ bs.length ∧ ix = .int .i64 S ∧ wr = w ∧ ∀ i, i < S → isBar bs i = false) (fun i _ => 2 ^ bs.length - (intOf i).toNat)
  case atStart => exact ⟨0, Nat.zero_le _, rfl, rfl, fun i h => by omega⟩
  case round =>
    obtain ⟨S, hS, rfl, rfl, hbefore⟩ := hrel
    have HBF := Lib.hid hbefore
    clear hbefore
    by_cases hlt : S < 2 ^ bs.length
    · have hSi : (S : Int) < (2 : Int) ^ bs.length := by rw [← H2.out]; omega
      have hS64 : S < 64 := by omega
      have HS := Lib.hid hS
      have HLT := Lib.hid hlt
      clear hS hlt
      go_upto_region 6 with (fail)
      go_loopw [6, 21] (fun cc ix wq => ∃ k : Nat, k ≤ bs.length ∧ ix = .int .i64 k ∧ cc = .int .i64 (comm bs S k : Nat) ∧ wq = wr) (fun _ i _ => bs.length - (intOf i).toNat)
      case atStart => exact ⟨0, Nat.zero_le _, rfl, by rw [comm_zero, ← HC.out], rfl⟩
      case round =>
        obtain ⟨k, hk, rfl, rfl, rfl⟩ := hrel
        have hcm := HCL.out S k
        have hcs := comm_succ bs S k
        obtain ⟨C, hC⟩ : ∃ C, comm bs S k = C := ⟨_, rfl⟩
        by_cases hkl : k < bs.length
        · obtain ⟨b, off, rfl, hbl, hcell⟩ := HCC.out (ne_nil_of_lt hkl)
          have hci := (HB.out.cell (p := ⟨b, off + k, none⟩) hbl).trans (hcell k hkl)
          rw [getD_at hkl] at hcs
          have hr64 := hlt64.out _ (List.getElem_mem hkl)
          obtain ⟨r, hr⟩ : ∃ r, bs[k] = r := ⟨_, rfl⟩
          rw [hr] at hci hcs hr64
          rw [hC] at hcs hcm ⊢
          have hand := i64_and C r (by omega) (by omega)
          have hki : (k : Int) < (bs.length : Int) := by omega
          cases hb : S.testBit k with
          | true =>
            have e1 := bit_walk1 (show k < 6 by omega) hS64 hb
            rw [hb, if_pos rfl] at hcs
            have HCS := Lib.hid hcs
            clear hcs hb hC hr hcell
            go_wp2
            go_roundw
            case rel => exact ⟨k + 1, by omega, by go_num, by rw [HCS.out], trivial⟩
            case measure => simp [intOf]; omega
          | false =>
            have e1 := bit_walk0 (show k < 6 by omega) hS64 hb
            rw [hb, if_neg (by simp)] at hcs
            have HCS := Lib.hid hcs
            clear hcs hb hC hr hcell
            go_wp2
            go_roundw
            case rel => exact ⟨k + 1, by omega, by go_num, by rw [HCS.out], trivial⟩
            case measure => simp [intOf]; omega
        · obtain rfl : k = bs.length := by omega
          have hC256 : C < 256 := by rw [← hC]; omega
          have p1 := pop_le S (by omega)
          have p2 := pop_le C hC256
          have hib : isBar bs S = decide (bs.length < pop S + pop C) := by unfold isBar; rw [hC]
          have HCE := Lib.hid hC
          rw [hC]
          have hwa : IntKind.i64.wrap ((pop S : Int) + (pop C : Int)) = (pop S : Int) + (pop C : Int) := IntWalk.i64_in _ (by omega)
          clear hcm hcs hC
          by_cases hbar : bs.length < pop S + pop C
          · have hbi : (bs.length : Int) < (pop S : Int) + (pop C : Int) := by omega
            rw [decide_eq_true hbar] at hib
            have HF := Lib.hid (firstB_some (HBF.out) HLT.out hib)
            clear hib hbar
            go_wp2_with (go_at_call 60; refine (size_any _ _ (by omega)).mono ?_; rintro e w3 ⟨rfl, rfl⟩)
            go_ret3
            refine ⟨HB.out, ?_⟩
            rw [HF.out]
            show _ = Ending.returned (.tuple #[.int .i64 (S : Nat), .int .i64 (comm bs S bs.length : Nat), .int .i64 0])
            rw [HCE.out]
            rfl
          · have hbi : ¬ (bs.length : Int) < (pop S : Int) + (pop C : Int) := by omega
            rw [decide_eq_false hbar] at hib
            have HI := Lib.hid hib
            clear hib
            go_wp2_with (go_at_call 60; refine (size_any _ _ (by omega)).mono ?_; rintro e w3 ⟨rfl, rfl⟩)
            go_roundw
            case rel =>
              refine ⟨S + 1, by have := HLT.out; omega, by go_num, trivial, fun i hi => ?_⟩
              by_cases hie : i = S
              · subst hie; exact HI.out
              · exact HBF.out i (by omega)
            case measure => have := HLT.out; simp [intOf]; omega
    · obtain rfl : S = 2 ^ bs.length := by omega
      have HF := Lib.hid (firstB_none HBF.out)
      have hSi : ¬ ((2 ^ bs.length : Nat) : Int) < (2 : Int) ^ bs.length := by rw [H2.out]; omega
      go_wp2
      go_ret3
      refine ⟨HB.out, ?_⟩
      rw [HF.out]
      rfl
end Go.Proofs.YtlpnicfbgdfbnaaDoor
