/- The reference's Word; the law's fine: the walks. -/
import Derived.Test.YtmlhecfhhhebnaaLw
namespace Go.Proofs.Ytmlhecfhhhebnaa
open Go.RowKit
attribute [local go_sem] Oper.semAt_some

set_option maxRecDepth 20000 in
set_option maxHeartbeats 2000000 in
theorem Word_any (K n : Nat) (v : Value) (xs : List Int) (w : World) (hv : validB K n = true) (hx : Ints w v xs) :
    Calls Try.prog 25 #[.agg #[.int .u8 (K : Nat), .int .i64 (n : Nat)], v] w fun e w' => e = .returned (.bool (wordB (mirs K n) xs)) ∧ Below w.heap.size w w' := by
  have MS := Lib.hid (fun w' => RMirrors_any K n w' hv)
  have hm4 := mirs_le hv
  obtain ⟨m, hm⟩ : ∃ m, mirs K n = m := ⟨_, rfl⟩
  rw [hm] at MS hm4 ⊢
  obtain ⟨a, c, rfl, hlen, hcl, hc⟩ := hx
  have HC := Lib.hid hc
  clear hc hv hm
  go_enter Try.func25, Try.ntmps25
  go_wp2
  go_loopw [9] (fun ix wr => ∃ k : Nat, k ≤ xs.length ∧ ix = .int .i64 k ∧ (xs.take k).all (letB m) = true ∧ Held wr w.heap.size 23 [.int .u8 (K : Nat), .int .i64 (n : Nat)] ∧ Below w.heap.size w wr ∧ w.heap.size < wr.heap.size) (fun ix _ => xs.length - (intOf ix).toNat)
  case atStart => exact ⟨0, Nat.zero_le _, rfl, by simp, Held.made rfl, (Below.refl _ _).alloc (Nat.le_refl _) _, by simp⟩
  case round =>
    obtain ⟨k, hk, rfl, hall, hh, hb, hsz⟩ := hrel
    by_cases hlt : k < xs.length
    · obtain ⟨b, off, rfl, hbl, hcell⟩ := HC.out (by intro e; rw [e] at hlt; simp at hlt)
      have hki : (k : Int) < (xs.length : Int) := by omega
      have hcx := (hb.cell (p := ⟨b, off + k, none⟩) hbl).trans (hcell k hlt)
      have c0 := hh.at (i := 0) rfl
      have c1 := hh.at (i := 1) rfl
      have HTA := Lib.hid (take_succ' xs k hlt)
      have HALL := Lib.hid hall
      have HH := Lib.hid hh
      have HB := Lib.hid hb
      have HFA := Lib.hid (fun (h : letB m xs[k] = false) => all_false_at (p := letB m) hlt h)
      obtain ⟨x, hx⟩ : ∃ x, xs[k] = x := ⟨_, rfl⟩
      rw [hx] at hcx HTA HFA
      clear hx hcell hall hh hb
      by_cases x0 : x < 0
      · have HF := Lib.hid (show wordB m xs = false by unfold wordB; rw [HFA.out (by unfold letB; simp; omega)]; simp)
        have d0 : decide (x < 0) = true := by simpa using x0
        go_wp2
        go_ret
        exact ⟨ret_bool HF.out.symm, HB.out⟩
      · have d0 : decide (x < 0) = false := by simpa using x0
        by_cases xm : (m : Int) ≤ x
        · have HF := Lib.hid (show wordB m xs = false by unfold wordB; rw [HFA.out (by unfold letB; simp; omega)]; simp)
          have d1 : decide ((m : Int) ≤ x) = true := by simpa using xm
          go_wp2_with (go_at_call 30; refine (MS.out _).mono ?_; rintro e w1 ⟨rfl, hb1⟩)
          go_ret
          exact ⟨ret_bool HF.out.symm, HB.out.trans (hb1.mono HB.out.size)⟩
        · have d1 : decide ((m : Int) ≤ x) = false := by simpa using xm
          have HL := Lib.hid (show letB m x = true by unfold letB; simp; omega)
          go_wp2_with (go_at_call 30; refine (MS.out _).mono ?_; rintro e w1 ⟨rfl, hb1⟩)
          go_roundw
          case rel => exact ⟨k + 1, by omega, by go_num, by rw [HTA.out, List.all_append, HALL.out]; simp [HL.out], HH.out.below hb1 hsz, HB.out.trans (hb1.mono HB.out.size), by have := hb1.size; omega⟩
          case measure => simp [intOf]; omega
    · obtain rfl : k = xs.length := by omega
      rw [List.take_length] at hall
      have HALL := Lib.hid hall
      have HB := Lib.hid hb
      clear hall hb hh
      by_cases h30 : xs.length ≤ 30
      · have HF := Lib.hid (show wordB m xs = true by unfold wordB; rw [HALL.out]; simpa using h30)
        have d1 : ((xs.length : Int) ≤ 30) := by omega
        go_wp2
        go_ret
        exact ⟨ret_bool HF.out.symm, HB.out⟩
      · have HF := Lib.hid (show wordB m xs = false by unfold wordB; rw [HALL.out]; simpa using h30)
        have d1 : ¬ ((xs.length : Int) ≤ 30) := by omega
        go_wp2
        go_ret
        exact ⟨ret_bool HF.out.symm, HB.out⟩

set_option maxRecDepth 20000 in
set_option maxHeartbeats 2000000 in
theorem fine_any (K : Nat) (n : Int) (v : Value) (xss : List (List Int)) (w : World) (hK : K < 256) (ha : Args w v xss) :
    Calls Try.prog 19 #[grpI K n, v] w fun e w' => e = .returned (.bool (okI K n xss)) ∧ Below w.heap.size w w' := by
  have VA := Valid_any K n
  cases hv : validI K n with
  | false =>
    have HF := Lib.hid (show okI K n xss = false by unfold okI; rw [hv]; rfl)
    have VV := Lib.hid (fun w' => by have := VA w' hK; rw [hv] at this; exact this)
    obtain ⟨a, c, rfl, ha1⟩ := ha
    unfold grpI at *
    clear ha1 hv VA
    go_enter Try.func19, Try.ntmps19
    go_wp2_with (go_at_call 46; refine (VV.out _).mono ?_; rintro e w1 ⟨rfl, hb1⟩)
    go_ret
    exact ⟨ret_bool HF.out.symm, below_al (Nat.le_refl _) hb1⟩
  | true =>
    obtain ⟨m, rfl, hm⟩ := validI_nat hv
    have HO := Lib.hid (okI_cast (xss := xss) hm)
    have VV := Lib.hid (fun w' => by have := VA w' hK; rw [hv] at this; exact this)
    have WD := Lib.hid (fun (v' : Value) (xs : List Int) (w' : World) (hx : Ints w' v' xs) => Word_any K m v' xs w' hm hx)
    obtain ⟨M, hM⟩ : ∃ M, mirs K m = M := ⟨_, rfl⟩
    rw [hM] at WD HO
    obtain ⟨a, c, rfl, hlen, hcl, hc⟩ := ha
    have HC := Lib.hid hc
    unfold grpI at *
    clear hc hv VA hm hM
    go_enter Try.func19, Try.ntmps19
    go_wp2_with (go_at_call 46; refine (VV.out _).mono ?_; rintro e w1 ⟨rfl, hb1⟩; have HB1 := Lib.hid (below_al (Nat.le_refl _) hb1); have HH1 := Lib.hid ((Held.made (w := w) (l := [.int .u8 (K : Nat), .int .i64 (m : Nat)]) (t := 23) rfl).below hb1 (by simp)); have hs1 := hb1.size; simp at hs1; clear hb1)
    go_loopw [12] (fun ix wr => ∃ k : Nat, k ≤ xss.length ∧ ix = .int .i64 k ∧ (xss.take k).all (wordB M) = true ∧ Held wr w.heap.size 23 [.int .u8 (K : Nat), .int .i64 (m : Nat)] ∧ Below w.heap.size w wr ∧ w.heap.size < wr.heap.size) (fun ix _ => xss.length - (intOf ix).toNat)
    case atStart => exact ⟨0, Nat.zero_le _, rfl, by simp, HH1.out, HB1.out, by omega⟩
    case round =>
      obtain ⟨k, hk, rfl, hall, hh, hb, hsz⟩ := hrel
      by_cases hlt : k < xss.length
      · obtain ⟨b, off, rfl, hbl, hrows⟩ := HC.out (ne_nil_of_lt hlt)
        obtain ⟨u, hcu, hu⟩ := hrows k hlt
        have hki : (k : Int) < (xss.length : Int) := by omega
        have hcx := (hb.cell (p := ⟨b, off + k, none⟩) hbl).trans hcu
        have HU := Lib.hid (hu.below hb)
        have c0 := hh.at (i := 0) rfl
        have c1 := hh.at (i := 1) rfl
        have HTA := Lib.hid (take_succ' xss k hlt)
        have HALL := Lib.hid hall
        have HH := Lib.hid hh
        have HB := Lib.hid hb
        have HFA := Lib.hid (fun (h : wordB M xss[k] = false) => all_false_at (p := wordB M) hlt h)
        obtain ⟨xs, hxs⟩ : ∃ xs, xss[k] = xs := ⟨_, rfl⟩
        rw [hxs] at HTA HFA HU
        obtain ⟨ua, uc, huf, hu2⟩ := hu
        rw [hxs] at huf
        subst huf
        clear hxs hrows hall hh hb hu2 hcu
        cases hw : wordB M xs with
        | false =>
          have HF := Lib.hid (show okI K (m : Int) xss = false by rw [HO.out, HFA.out hw])
          have HW := Lib.hid hw
          clear hw
          go_wp2_with (go_at_call 25; refine (WD.out _ xs _ HU.out).mono ?_; rintro e w2 ⟨rfl, hb2⟩; rw [HW.out])
          go_ret
          exact ⟨ret_bool HF.out.symm, HB.out.trans (hb2.mono HB.out.size)⟩
        | true =>
          have HW := Lib.hid hw
          clear hw
          go_wp2_with (go_at_call 25; refine (WD.out _ xs _ HU.out).mono ?_; rintro e w2 ⟨rfl, hb2⟩; rw [HW.out])
          go_roundw
          case rel => exact ⟨k + 1, by omega, by go_num, by rw [HTA.out, List.all_append, HALL.out]; simp [HW.out], HH.out.below hb2 hsz, HB.out.trans (hb2.mono HB.out.size), by have := hb2.size; omega⟩
          case measure => simp [intOf]; omega
      · obtain rfl : k = xss.length := by omega
        rw [List.take_length] at hall
        have HF := Lib.hid (show okI K (m : Int) xss = true by rw [HO.out, hall])
        have HB := Lib.hid hb
        clear hall hb hh
        go_wp2
        go_ret
        exact ⟨ret_bool HF.out.symm, HB.out⟩
end Go.Proofs.Ytmlhecfhhhebnaa
