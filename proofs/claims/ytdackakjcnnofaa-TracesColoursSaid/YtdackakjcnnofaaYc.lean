/- TracesColours answers true. -/
import Derived.Test.YtdackakjcnnofaaOb
import Derived.Test.YtdackakjcnnofaaCb
import Derived.Test.YtdackakjcnnofaaYt
namespace Go.Proofs.Ytdackakjcnnofaa
open Go.RowKit
attribute [local go_sem] Oper.semAt_some

set_option maxRecDepth 100000 in
set_option maxHeartbeats 4000000 in
theorem colours_err (v : Value) (L : List (List Int)) (w : World) (h : Args w v L) (c k kf : Int) (hk : k = 2 ∨ (k = 6 ∧ kf = 6))
    (hB : ∀ u w', Args w' u (tabA L) → Calls Try.prog 15 #[u, .int .i64 c] w' fun e w2 => e = .returned (.tuple #[.int .i64 0, .int .i64 k]) ∧ Below w'.heap.size w' w2)
    (hE : ∀ u w', Args w' u (tabA L) → Calls Try.prog 8 #[u] w' fun e w2 => ∃ a n cp, e = .returned (.tuple #[.slice a n cp, .int .i64 kf]) ∧ Below w'.heap.size w' w2) :
    Calls Try.prog 4 #[v, .int .i64 c] w fun e w' => e = .returned (.bool true) ∧ Below w.heap.size w w' := by
  have TA := Lib.hid (fun w' (hb : Below w.heap.size w w') => table_any v L w' (h.below hb))
  have PB := Lib.hid hB
  have PE := Lib.hid hE
  have AW := Lib.hid awake_any
  have HB := Lib.hid (Below.refl w.heap.size w)
  have HTL := Lib.hid (show (tabA L).length ≤ 1000000 by have := tabA_len L; omega)
  clear h hB hE
  rcases hk with rfl | ⟨rfl, rfl⟩
  all_goals go_enter Try.func4, Try.ntmps4
  all_goals go_wp2_with (first
    | (go_at_call 7; refine (TA.out _ HB.out).mono ?_; rintro e wt ⟨u, S, rfl, hg, hb⟩; have HT := Lib.hid (hg.1.args HTL.out); have HB := Lib.hid (HB.out.trans (hb.mono HB.out.size)); clear hg hb)
    | (go_at_call 15; refine (PB.out _ _ HT.out).mono ?_; rintro e we ⟨rfl, hb⟩; have HB := Lib.hid (HB.out.trans (hb.mono HB.out.size)); clear hb)
    | (go_at_call 8; refine (PE.out _ _ HT.out).mono ?_; rintro e we ⟨ax, nx, cx, rfl, hb⟩; have HB := Lib.hid (HB.out.trans (hb.mono HB.out.size)); clear hb)
    | (go_at_call 10; refine (AW.out _).mono ?_; rintro e wa ⟨rfl, hb⟩; have HB := Lib.hid (HB.out.trans (hb.mono HB.out.size)); clear hb))
  all_goals go_ret
  all_goals exact ⟨rfl, HB.out⟩
set_option maxRecDepth 100000 in
set_option maxHeartbeats 4000000 in
theorem colours_ok {E : List (List Nat)} {d c : Nat} (v : Value) (L : List (List Int)) (w : World) (h : Args w v L) (hc : c ≤ 8) (hG : Grp d E) (h1 : 0 < d) (hd : d ≤ 5) (h24 : E.length ≤ 24)
    (hB : ∀ u w', Args w' u (tabA L) → Calls Try.prog 15 #[u, .int .i64 (c : Nat)] w' fun e w2 => e = .returned (.tuple #[.int .i64 (bouN c d E : Nat), .int .i64 0]) ∧ Below w'.heap.size w' w2)
    (hE : ∀ u w', Args w' u (tabA L) → Calls Try.prog 8 #[u] w' fun e w2 => ∃ x S H, e = .returned (.tuple #[x, .int .i64 0]) ∧ RowsF S H w2 x E ∧ Below w'.heap.size w' w2) :
    Calls Try.prog 4 #[v, .int .i64 (c : Nat)] w fun e w' => e = .returned (.bool true) ∧ Below w.heap.size w w' := by
  have TA := Lib.hid (fun w' (hb : Below w.heap.size w w') => table_any v L w' (h.below hb))
  have PB := Lib.hid hB
  have PE := Lib.hid hE
  have AW := Lib.hid awake_any
  have HB := Lib.hid (Below.refl w.heap.size w)
  have HTL := Lib.hid (show (tabA L).length ≤ 1000000 by have := tabA_len L; omega)
  have HPM := Lib.hid hG.perm
  have HPS := Lib.hid hG.pos
  have HBO := Lib.hid (hG.bou (c := c) h1 hd)
  have hpos := hG.pos
  obtain ⟨n, hn⟩ : ∃ n, E.length = n := ⟨_, rfl⟩
  have HN := Lib.hid hn
  rw [hn] at h24 HBO hpos
  have hn0 : ¬ (n : Int) = 0 := by omega
  have hn0' : ((n : Int) == 0) = false := by simp; omega
  have hnn : ¬ n = 0 := by omega
  obtain ⟨b, hb0⟩ : ∃ b, bouN c d E = b := ⟨_, rfl⟩
  rw [hb0] at HBO PB
  clear h hB hE hG hn hb0
  go_enter Try.func4, Try.ntmps4
  go_wp2_with (first
    | (go_at_call 7; refine (TA.out _ HB.out).mono ?_; rintro e wt ⟨u, S, rfl, hg, hb⟩; have HT := Lib.hid (hg.1.args HTL.out); have HB := Lib.hid (HB.out.trans (hb.mono HB.out.size)); clear hg hb)
    | (go_at_call 15; refine (PB.out _ _ HT.out).mono ?_; rintro e we ⟨rfl, hb⟩; have HB := Lib.hid (HB.out.trans (hb.mono HB.out.size)); clear hb)
    | (go_at_call 8; refine (PE.out _ _ HT.out).mono ?_; rintro e we ⟨x1, S1, H1, rfl, hr, hb⟩; obtain ⟨ax, cx, rfl⟩ := hr.form; obtain ⟨-, gL, rfl, hgL⟩ := rows_fix hr HPS.out; have HRL := Lib.hid hgL; rw [HN.out]; have HBE := Lib.hid (HB.out.trans (hb.mono HB.out.size)); clear hb hr hgL))
  go_loopw [9, 54] (fun s ix wr => ∃ k : Nat, k ≤ n ∧ ix = .int .i64 k ∧ s = .int .i64 (sumC c d (E.take k) : Nat) ∧ Below we.heap.size we wr) (fun _ ix _ => n - (intOf ix).toNat)
  case atStart => exact ⟨0, Nat.zero_le _, rfl, rfl, Below.refl _ _⟩
  case round =>
    obtain ⟨k, hk, rfl, rfl, hb1⟩ := hrel
    obtain ⟨wA, rfl⟩ : ∃ x, x = wr := ⟨_, rfl⟩
    have HB1 := Lib.hid hb1
    have hle1 := hb1.size
    have hsl := sumC_le (c := c) (d := d) hc hd (E.take k)
    have htl : (E.take k).length ≤ 24 := by rw [List.length_take, HN.out]; omega
    clear hb1
    by_cases hlt : k < n
    · have hki : (k : Int) < (n : Int) := by omega
      have hkE : k < E.length := by rw [HN.out]; exact hlt
      obtain ⟨aX, cX, hrow⟩ := HRL.out k hkE
      have hpx := HPM.out _ (List.getElem_mem hkE)
      have HT := Lib.hid (show sumC c d (E.take (k + 1)) = sumC c d (E.take k) + c ^ cycN d E[k] by rw [List.take_succ_eq_append_getElem hkE]; exact sumC_snoc _ _ _ _)
      obtain ⟨x, hx⟩ : ∃ x, E[k] = x := ⟨_, rfl⟩
      rw [hx] at hrow hpx HT
      have HO := Lib.hid (cyc_ok hd hpx)
      have HX := Lib.hid hpx
      have hcr := (hrow wA HB1.out).1
      rw [hpx.len] at hcr
      have HXR := Lib.hid (fun (W : World) (hW : Below we.heap.size we W) => (hrow W hW).2)
      obtain ⟨s, hs⟩ : ∃ s, sumC c d (E.take k) = s := ⟨_, rfl⟩
      rw [hs] at hsl HT ⊢
      clear hrow hx hs hpx
      go_wp2_with fail
      go_loopw [12, 13, 60] (fun mt xx ix wr => ∃ i : Nat, i ≤ d ∧ ix = .int .i64 i ∧ mt = .int .i64 ((outC x i).1 : Nat) ∧ xx = .int .i64 (c ^ (outC x i).2 : Nat) ∧ Below we.heap.size we wr) (fun _ _ ix _ => d - (intOf ix).toNat)
      case atStart => exact ⟨0, Nat.zero_le _, rfl, rfl, rfl, HB1.out⟩
      case round =>
        obtain ⟨i, hi, rfl, rfl, rfl, hb⟩ := hrel
        obtain ⟨wC, rfl⟩ : ∃ x, x = wr := ⟨_, rfl⟩
        have HB := Lib.hid hb
        by_cases hil : i < d
        · have hii : (i : Int) < (d : Int) := by omega
          have hs32 := HO.out.lt i hil
          have hnl := HO.out.le i hil
          have HST := Lib.hid (HO.out.stop i hil)
          have HNX := Lib.hid (show outC x (i + 1) = ((inC x 6 ((outC x i).1, i)).1, if (outC x i).1.testBit i then (outC x i).2 else (outC x i).2 + 1) from rfl)
          obtain ⟨⟨m, nn⟩, hsn⟩ : ∃ p, outC x i = p := ⟨_, rfl⟩
          rw [hsn] at hs32 hnl HST HNX ⊢
          simp only at hs32 hnl HST HNX ⊢
          have hbit := div_bit i (by omega) m hs32
          have hpw := pow_le8 (c := c) (k := nn) hc (by omega)
          have HPS2 := Lib.hid (show c ^ (nn + 1) = c ^ nn * c from Nat.pow_succ c nn)
          obtain ⟨p, hpp⟩ : ∃ p, c ^ nn = p := ⟨_, rfl⟩
          have HPP := Lib.hid hpp
          rw [hpp] at hpw HPS2 ⊢
          have hw := IntWalk.i64_in ((p : Int) * (c : Int)) (by
            have h1 : (p : Int) * (c : Int) ≤ 32768 * 8 := Int.mul_le_mul (by omega) (by omega) (by omega) (by omega)
            have h2 : 0 ≤ (p : Int) * (c : Int) := Int.mul_nonneg (by omega) (by omega)
            omega)
          clear hsn hb hpp
          cases hbt : m.testBit i with
          | true =>
            rw [hbt] at hbit HNX
            have HNN := Lib.hid (show (outC x (i + 1)).2 = nn by rw [HNX.out]; rfl)
            have HNS := Lib.hid (show (outC x (i + 1)).1 = m by rw [HNX.out]; show (inC x 6 (m, i)).1 = m; rw [inC_stop (by exact hbt)])
            rw [if_pos rfl] at hbit
            clear hbt HNX
            go_wp2
            go_roundw
            case rel => exact ⟨i + 1, hil, by go_num, by rw [HNS.out], by rw [HNN.out, HPP.out], HB.out⟩
            case measure => simp [intOf]; omega
          | false =>
            rw [hbt] at hbit HNX
            have HNN := Lib.hid (show (outC x (i + 1)).2 = nn + 1 by rw [HNX.out]; rfl)
            have HNS := Lib.hid (show (outC x (i + 1)).1 = (inC x 6 (m, i)).1 by rw [HNX.out])
            rw [if_neg (by simp)] at hbit
            clear hbt HNX
            go_wp2_with fail
            go_loopg [12, 15] 6 (fun g se jx wr => ∃ a j : Nat, se = .int .i64 a ∧ jx = .int .i64 j ∧ a < 32 ∧ j < d ∧ inC x g (a, j) = inC x 6 (m, i) ∧ Below we.heap.size we wr)
            case atStart => exact ⟨m, i, rfl, rfl, hs32, hil, rfl, HB.out⟩
            case round =>
              obtain ⟨a, j, rfl, rfl, ha, hj, hin, hb⟩ := hrel
              have HB2 := Lib.hid hb
              have hbj := div_bit j (by omega) a ha
              have HIN := Lib.hid hin
              have hji : (j : Int) < (d : Int) := by omega
              have hj0 : (0 : Int) ≤ (j : Int) := by omega
              clear hin
              cases hbt : a.testBit j with
              | true =>
                rw [hbt, if_pos rfl] at hbj
                have HIS := Lib.hid (show (outC x (i + 1)).1 = a by rw [HNS.out, ← HIN.out, inC_stop (by exact hbt)])
                clear hbt hb
                go_wp2
                go_roundw
                case rel => exact ⟨i + 1, hil, by go_num, by rw [HIS.out], by rw [HNN.out, HPS2.out, Int.natCast_mul], HB2.out⟩
                case measure => simp [intOf]; omega
              | false =>
                rw [hbt, if_neg (by simp)] at hbj
                have HGK := Lib.hid (show ∃ k', gk = k' + 1 ∧ inC x k' (a ||| 2 ^ j, x.getD j 0) = inC x 6 (m, i) from by
                  cases gk with
                  | zero =>
                    exfalso
                    have h1 := HIN.out
                    have h2 := HST.out
                    rw [← h1] at h2
                    change a.testBit j = true at h2
                    rw [hbt] at h2
                    cases h2
                  | succ k' => exact ⟨k', rfl, by have h1 := HIN.out; rw [inC_go (by exact hbt)] at h1; exact h1⟩)
                have q1 := pow_in64 j (by omega)
                have q3 := pow_in j (by omega)
                have q5 := or_walk j (by omega) a ha
                have q6 := or_lt32 j (by omega) a ha
                have hxj := perm_getD_lt HX.out hj
                have hjx : j < x.length := by rw [HX.out.len]; exact hj
                obtain ⟨b2, o2, c2, he2, -, hcx⟩ := Ints.atN (HXR.out wr hb) hjx
                obtain ⟨rfl, -, -⟩ := Value.slice.inj he2
                rw [show x[j]'hjx = x.getD j 0 by rw [List.getD_eq_getElem?_getD, List.getElem?_eq_getElem hjx]; rfl] at hcx
                obtain ⟨xj, hxx⟩ : ∃ y, x.getD j 0 = y := ⟨_, rfl⟩
                rw [hxx] at HGK hxj hcx
                obtain ⟨a2, ha2⟩ : ∃ y, a ||| 2 ^ j = y := ⟨_, rfl⟩
                rw [ha2] at HGK q5 q6
                clear hbt hb hxx ha2 he2
                go_wp2
                go_roundg (gk - 1)
                case measure => obtain ⟨k', e, _⟩ := HGK.out; omega
                case rel => obtain ⟨k', e, h2⟩ := HGK.out; exact ⟨a2, xj, rfl, rfl, q6, hxj, by rw [e, Nat.add_sub_cancel]; exact h2, HB2.out⟩
        · obtain rfl : i = d := by omega
          have hii : ¬ (i : Int) < (i : Int) := by omega
          have hpw := pow_le8 (c := c) (k := cycN i x) hc (by have := cycN_le i x; omega)
          rw [HO.out.all]
          obtain ⟨p, hpp⟩ : ∃ p, c ^ cycN i x = p := ⟨_, rfl⟩
          rw [hpp] at hpw HT ⊢
          clear hpp hb
          go_wp2
          go_roundw
          case rel => exact ⟨k + 1, hlt, by go_num, by rw [HT.out]; go_num, HB.out⟩
          case measure => simp [intOf]; omega
    · obtain rfl : k = n := by omega
      have hki : ¬ (k : Int) < (k : Int) := by omega
      have HFI := Lib.hid (show sumC c d (E.take k) = k * b by rw [List.take_of_length_le (by rw [HN.out]; exact Nat.le_refl _)]; exact HBO.out)
      rw [HFI.out] at hsl ⊢
      have hdv : Int.tdiv (((k * b : Nat)) : Int) (k : Int) = (b : Int) := by
        rw [← Int.ofNat_tdiv, Nat.mul_div_cancel_left _ hpos]
      have hmd : Int.tmod (((k * b : Nat)) : Int) (k : Int) = 0 := by
        rw [← Int.ofNat_tmod, Nat.mul_mod_right]; rfl
      have hbl : b ≤ 800000 := by
        have h1 : b ≤ k * b := Nat.le_mul_of_pos_left _ hpos
        omega
      have hbw : IntKind.i64.wrap (b : Int) = (b : Int) := IntWalk.i64_in _ (by omega)
      obtain ⟨s, hs⟩ : ∃ s, k * b = s := ⟨_, rfl⟩
      rw [hs] at hdv hmd hsl ⊢
      have hbb : ((b : Int) == (b : Int)) = true := by simp
      clear hs
      go_wp2_with (go_at_call 10; refine (AW.out _).mono ?_; rintro e wa ⟨rfl, hb⟩; have HBW := Lib.hid (HBE.out.trans ((HB1.out.trans (hb.mono hle1)).mono HBE.out.size)); clear hb)
      go_ret
      exact ⟨rfl, HBW.out⟩
theorem tracesColours_true (v : Value) (L : List (List Int)) (c : Int) (w : World) (h : Args w v L) (_ : -9223372036854775808 ≤ c ∧ c ≤ 9223372036854775807) : Calls Try.prog 4 #[v, .int .i64 c] w fun e w' => e = .returned (.bool true) ∧ Below w.heap.size w w' := by
  have hE : ∃ kf : Int, (∀ u w', Args w' u (tabA L) → Calls Try.prog 8 #[u] w' fun e w2 => ∃ a n cp, e = .returned (.tuple #[.slice a n cp, .int .i64 kf]) ∧ Below w'.heap.size w' w2) ∧ (genQ L = true → Over (L.headD []).length (L.map natP) → kf = 6) := by
    rcases three L with hq | ⟨hq, ho⟩ | ⟨hq, E, hg⟩
    · exact ⟨2, fun u w' ha => (PElements_no ha (by rw [genQ_tabA]; exact hq)).mono fun e w2 ⟨he, hb⟩ => ⟨_, _, _, he, hb⟩, fun h2 => by rw [hq] at h2; cases h2⟩
    · refine ⟨6, fun u w' ha => ?_, fun _ _ => rfl⟩
      rw [tabA_eq (.inl hq)] at ha
      exact (PElements_over ha hq ho).mono fun e w2 ⟨he, hb⟩ => ⟨_, _, _, he, hb⟩
    · refine ⟨0, fun u w' ha => ?_, fun _ ho => absurd ho hg.not_over⟩
      rw [tabA_eq (.inl hq)] at ha
      refine (PElements_yes ha hq hg).mono fun e w2 ⟨x, S, he, hr, hb⟩ => ?_
      obtain ⟨ax, cx, rfl⟩ := hr.1.form
      exact ⟨_, _, _, he, hb⟩
  obtain ⟨kf, hE, h6⟩ := hE
  by_cases hc : c < 0 ∨ 8 < c
  · exact colours_err v L w h c 2 kf (.inl rfl) (fun u w' ha => Bouquets_bad ha hc) hE
  · have h0 : 0 ≤ c ∧ c ≤ 8 := by omega
    rcases three L with hq | ⟨hq, ho⟩ | ⟨hq, E, hg⟩
    · exact colours_err v L w h c 2 kf (.inl rfl) (fun u w' ha => Bouquets_no ha (by rw [genQ_tabA]; exact hq)) hE
    · refine colours_err v L w h c 6 kf (.inr ⟨rfl, h6 hq ho⟩) (fun u w' ha => ?_) hE
      rw [tabA_eq (.inl hq)] at ha
      exact Bouquets_over ha hq ho h0.1 h0.2
    · obtain ⟨k, rfl⟩ : ∃ k : Nat, c = (k : Int) := ⟨c.toNat, by omega⟩
      have hp := genQ_perm hq
      have hgr := hg.grp fun q hq => by obtain ⟨p, hp1, rfl⟩ := List.mem_map.1 hq; exact hp.2.2.2.2.1 p hp1
      refine colours_ok (d := (L.headD []).length) v L w h (by omega) hgr (by have := hp.2.2.1; omega) hp.2.2.2.1 hg.few (fun u w' ha => ?_) (fun u w' ha => ?_)
      · rw [tabA_eq (.inl hq)] at ha
        exact Bouquets_yes ha hq hg (by omega)
      · rw [tabA_eq (.inl hq)] at ha
        exact (PElements_yes ha hq hg).mono fun e w2 ⟨x, S, he, hr, hb⟩ => ⟨x, _, _, he, hr.1, hb⟩
end Go.Proofs.Ytdackakjcnnofaa
