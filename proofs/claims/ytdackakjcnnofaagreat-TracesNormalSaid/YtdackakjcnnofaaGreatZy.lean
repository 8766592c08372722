/- The reference's ahead and Normal. -/
import Derived.Test.YtdackakjcnnofaaGreatNi
import Derived.Test.YtdackakjcnnofaaGreatB2
import Derived.Test.YtdackakjcnnofaaGreatR1
namespace Go.Proofs.YtdackakjcnnofaaGreat
open Go.RowKit
attribute [local go_sem] Oper.semAt_some

theorem pre_same (r s : List Int) : ∀ p : List Int, p ++ r < p ++ s ↔ r < s
  | [] => by simp
  | c :: p => by
    rw [List.cons_append, List.cons_append, List.cons_lt_cons_iff, pre_same r s p]
    exact ⟨fun h1 => h1.elim (fun h2 => absurd h2 (by omega)) And.right, fun h1 => Or.inr ⟨rfl, h1⟩⟩
theorem lt_over {xs ys : List Int} {k : Nat} (h2 : ys.length ≤ k) (ht : xs.take k = ys.take k) : decide (xs < ys) = false := by
  rw [List.take_of_length_le h2] at ht
  rw [decide_eq_false_iff_not]
  conv => rw [← List.take_append_drop k xs, ht]
  intro h
  have := (pre_same (xs.drop k) [] ys).1 (by simpa using h)
  exact List.not_lt_nil _ this
theorem lt_under {xs ys : List Int} {k : Nat} (h1 : xs.length ≤ k) (h2 : k < ys.length) (ht : xs.take k = ys.take k) : decide (xs < ys) = true := by
  rw [List.take_of_length_le h1] at ht
  rw [decide_eq_true_eq]
  have e : ys = xs ++ ys.drop k := by rw [ht, List.take_append_drop]
  rw [e]
  have := (pre_same [] (ys.drop k) xs).2 (by
    cases hd : ys.drop k with
    | nil => have := congrArg List.length hd; simp at this; omega
    | cons a l => exact List.nil_lt_cons a l)
  simpa using this
set_option maxHeartbeats 800000 in
theorem ahead_any (v1 v2 : Value) (xs ys : List Int) (w : World) (h1 : Ints w v1 xs) (h2 : Ints w v2 ys) :
    Calls Tryz.prog 58 #[v1, v2] w fun e w' => e = .returned (.bool (decide (xs < ys))) ∧ w = w' := by
  obtain ⟨a, c, rfl, hl1, _, hc1⟩ := h1
  obtain ⟨a', c', rfl, hl2, _, hc2⟩ := h2
  have H1 := Lib.hid hc1
  have H2 := Lib.hid hc2
  clear hc1 hc2
  go_enter Tryz.func58, Tryz.ntmps58
  go_wp2
  go_loop [9] (fun ix => ∃ k : Nat, k ≤ xs.length ∧ ix = .int .i64 k ∧ k ≤ ys.length ∧ xs.take k = ys.take k) (fun i => xs.length - (intOf i).toNat)
  case atStart => exact ⟨0, Nat.zero_le _, rfl, Nat.zero_le _, rfl⟩
  case round =>
    obtain ⟨k, hk, rfl, hk2, ht⟩ := hrel
    have HT := Lib.hid ht; clear ht
    by_cases hlt : k < xs.length
    · obtain ⟨b, off, rfl, hbl, hcell⟩ := H1.out (ne_nil_of_lt hlt)
      have hcx := hcell k hlt
      have hki : (k : Int) < (xs.length : Int) := by omega
      clear hcell
      by_cases hlt2 : k < ys.length
      · obtain ⟨b2, off2, rfl, hbl2, hcell2⟩ := H2.out (ne_nil_of_lt hlt2)
        have hcy := hcell2 k hlt2
        have hkj : ¬ (ys.length : Int) ≤ (k : Int) := by omega
        have hkj2 : (k : Int) < (ys.length : Int) := by omega
        clear hcell2
        by_cases hxy : xs[k] = ys[k]
        · have HXY := Lib.hid hxy
          have hne : (xs[k] != ys[k]) = false := by rw [hxy]; simp
          clear hxy
          go_wp2
          go_round
          case rel => exact ⟨k + 1, by omega, by go_num, by omega, take_step hlt hlt2 HXY.out HT.out⟩
          case measure => simp [intOf]; omega
        · have HXY := Lib.hid (lt_at hlt hlt2 HT.out hxy)
          have hne : (xs[k] != ys[k]) = true := by simpa using hxy
          clear hxy
          go_wp2
          go_ret
          exact ⟨ret_bool HXY.out.symm, rfl⟩
      · have hkj : (ys.length : Int) ≤ (k : Int) := by omega
        have HE := Lib.hid (lt_over (k := k) (by omega) HT.out)
        go_wp2
        go_ret
        exact ⟨ret_bool HE.out.symm, rfl⟩
    · have hki : ¬ (k : Int) < (xs.length : Int) := by omega
      have hkl : xs.length = k := by omega
      by_cases hlt2 : k < ys.length
      · have HE := Lib.hid (lt_under (k := k) (by omega) hlt2 HT.out)
        have hll : (xs.length : Int) < (ys.length : Int) := by omega
        have hll2 : xs.length < ys.length := by omega
        clear hkl
        go_wp2
        go_ret
        exact ⟨ret_bool (by rw [HE.out]), rfl⟩
      · have HE := Lib.hid (lt_over (k := k) (by omega) HT.out)
        have hll : ¬ (xs.length : Int) < (ys.length : Int) := by omega
        have hll2 : ¬ xs.length < ys.length := by omega
        clear hkl
        go_wp2
        go_ret
        exact ⟨ret_bool (by rw [HE.out]), rfl⟩
/-- Rows that grow by insertion: none yet, or some. -/
def OutN (B : Nat) (w : World) (v : Value) (L : List (List Nat)) : Prop := (L = [] ∧ v = .slice none 0 0) ∨ (L ≠ [] ∧ RowsF (fun j => B ≤ j) B w v L)
theorem OutN.below {B : Nat} {w w' : World} {v : Value} {L : List (List Nat)} (h : OutN B w v L) (hb : Below w.heap.size w w') : OutN B w' v L := by
  rcases h with h | ⟨h1, h2⟩
  · exact .inl h
  · exact .inr ⟨h1, RowsF.below h2 hb⟩
theorem OutN.form {B : Nat} {w : World} {v : Value} {L : List (List Nat)} (h : OutN B w v L) : ∃ a n c, v = .slice a n c := by
  rcases h with ⟨-, rfl⟩ | ⟨-, h2⟩
  · exact ⟨_, _, _, rfl⟩
  · obtain ⟨a, c, rfl⟩ := RowsF.form h2
    exact ⟨_, _, _, rfl⟩
theorem OwnI.fzB {B : Nat} {w : World} {v : Value} {xs : List Int} (h : OwnI 3 B w v xs) (hl : xs.length ≤ 1000000) : Fz (fun j => B ≤ j ∧ j < w.heap.size) w v xs := by
  obtain ⟨a, c, rfl, h1, h2, h3⟩ := h.ints (by omega)
  refine ⟨a, c, rfl, hl, h2, fun hne => ?_⟩
  obtain ⟨b, off, rfl, hb, hc⟩ := h3 hne
  exact ⟨b, off, rfl, ⟨(h.lt b rfl).1, hb⟩, hb, hc⟩
theorem sortP_snoc (l : List (List Nat)) (y : List Nat) : sortP (l ++ [y]) = insP (sortP l) y := by simp [sortP]
theorem sortP_len {l : List (List Nat)} (hn : l.Nodup) : (sortP l).length = l.length := (sortP_perm hn).length_eq
theorem div_bit6r : ∀ j : Nat, j < 6 → ∀ m : Nat, m < 64 → bits BinOp.and IntKind.i64 ((m : Int) / (2 : Int) ^ j) 1 = if m.testBit j then 1 else 0 := by decide +kernel
theorem pow_in64r : ∀ j : Nat, j < 8 → wrap64 ((2 : Int) ^ j) = ((2 ^ j : Nat) : Int) := by decide +kernel
theorem pow_inr : ∀ j : Nat, j < 8 → IntKind.i64.wrap ((2 : Int) ^ j) = ((2 ^ j : Nat) : Int) := by decide +kernel
theorem pow_natr : ∀ j : Nat, j < 8 → ((2 : Int) ^ j) = ((2 ^ j : Nat) : Int) := by decide +kernel
theorem pow_halfr : ∀ j : Nat, j < 7 → 0 < j → 2 ^ j = 2 * 2 ^ (j - 1) ∧ 2 ^ j ≤ 64 := by decide +kernel
set_option maxRecDepth 100000 in
set_option maxHeartbeats 8000000 in
theorem RNormal_any {d : Nat} {E : List (List Nat)} (gv : Value) (w : World) (h : Grp d E) (h24 : E.length ≤ 24) (hg : RGI d E w gv) (hm6 : (repsN E E.length).length ≤ 6) :
    Calls Tryz.prog 25 #[gv] w fun e w' => ∃ v', e = .returned v' ∧ OutN w.heap.size w' v' (normN E (repsN E E.length).length) ∧ Below w.heap.size w w' := by
  obtain ⟨gL, gT, gB, oB, gC, gO, oO, cL, cT, cB, cC, cO, rfl, hro⟩ := hg.open h
  have HR := Lib.hid hro
  have HTL := Lib.hid (fun a b ha hb => h.timesN_lt (a := a) (b := b) ha hb)
  have HKL := Lib.hid (fun a (ha : a < E.length) => h.cls_lt ha)
  have hm0 : 0 < (repsN E E.length).length := by
    have h0 := h.cls_lt h.pos
    omega
  have hpw := pow_halfr _ (show (repsN E E.length).length < 7 by omega) hm0
  have q1 := pow_in64r _ (show (repsN E E.length).length < 8 by omega)
  have q2 := pow_inr _ (show (repsN E E.length).length < 8 by omega)
  have q3 := pow_natr _ (show (repsN E E.length).length < 8 by omega)
  have HND := Lib.hid (normTo_nodup E hm0)
  have HNN := Lib.hid (show normN E (repsN E E.length).length = sortP (normTo E (repsN E E.length).length (2 ^ ((repsN E E.length).length - 1))) from rfl)
  have HNL := Lib.hid (show normL E (repsN E E.length).length = normTo E (repsN E E.length).length (2 ^ ((repsN E E.length).length - 1)) from rfl)
  obtain ⟨n, hn⟩ : ∃ n, E.length = n := ⟨_, rfl⟩
  have HN := Lib.hid hn
  obtain ⟨m, hm⟩ : ∃ m, (repsN E E.length).length = m := ⟨_, rfl⟩
  rw [hm] at hm6 hm0 hpw q1 q2 q3 HND HNN HNL ⊢
  have HMM := Lib.hid hm
  rw [hn]
  rw [hn] at h24
  obtain ⟨N, hNe⟩ : ∃ N, 2 ^ (m - 1) = N := ⟨_, rfl⟩
  obtain ⟨M, hM⟩ : ∃ M, 2 ^ m = M := ⟨_, rfl⟩
  rw [hNe, hM] at hpw
  rw [hNe] at HNN HNL
  rw [hM] at q1 q2 q3
  clear h hg hro hm hn hNe hM
  unfold rgV
  go_enter Tryz.func25, Tryz.ntmps25
  have HX0 := Lib.hid (Held.new w 29 [.slice (some ⟨gL, 0, none⟩) n cL, .slice (some ⟨gT, 0, none⟩) n cT, .slice (some ⟨gB, oB, none⟩) n cB, .slice (some ⟨gC, 0, none⟩) m cC, .slice (some ⟨gO, oO, none⟩) n cO, .int .i64 (primeN E d : Nat)])
  have HB0 := Lib.hid (show Below w.heap.size w (w.alloc (.cells #[.slice (some ⟨gL, 0, none⟩) n cL, .slice (some ⟨gT, 0, none⟩) n cT, .slice (some ⟨gB, oB, none⟩) n cB, .slice (some ⟨gC, 0, none⟩) m cC, .slice (some ⟨gO, oO, none⟩) n cO, .int .i64 (primeN E d : Nat)] 29)) from (Below.refl _ _).alloc (Nat.le_refl _) _)
  go_wp2_with fail
  obtain ⟨bx, hbx⟩ : ∃ x, w.heap.size = x := ⟨_, rfl⟩
  obtain ⟨W0, hW0⟩ : ∃ x, w.alloc (.cells #[.slice (some ⟨gL, 0, none⟩) n cL, .slice (some ⟨gT, 0, none⟩) n cT, .slice (some ⟨gB, oB, none⟩) n cB, .slice (some ⟨gC, 0, none⟩) m cC, .slice (some ⟨gO, oO, none⟩) n cO, .int .i64 (primeN E d : Nat)] 29) = x := ⟨_, rfl⟩
  have HBXW := Lib.hid hbx
  rw [hbx] at HX0 ⊢
  have HX1 := Lib.hid (show Held W0 bx 29 [.slice (some ⟨gL, 0, none⟩) n cL, .slice (some ⟨gT, 0, none⟩) n cT, .slice (some ⟨gB, oB, none⟩) n cB, .slice (some ⟨gC, 0, none⟩) m cC, .slice (some ⟨gO, oO, none⟩) n cO, .int .i64 (primeN E d : Nat)] by rw [← hW0]; exact HX0.out)
  rw [hW0] at HB0 ⊢
  clear hW0 HX0 hbx
  obtain ⟨B, hB⟩ : ∃ x, W0.heap.size = x := ⟨_, rfl⟩
  have HBS := Lib.hid hB
  clear hB
  go_loopw [3, 4] (fun vo sx wr => ∃ i : Nat, i ≤ N ∧ sx = .int .i64 (2 * i + 1 : Nat) ∧ OutN B wr vo (sortP (normTo E m i)) ∧ Below W0.heap.size W0 wr) (fun _ sx _ => M + 1 - (intOf sx).toNat)
  case atStart => exact ⟨0, Nat.zero_le _, rfl, .inl ⟨rfl, rfl⟩, Below.refl _ _⟩
  case round =>
    obtain ⟨i, hi, rfl, ho, hb⟩ := hrel
    obtain ⟨wA, rfl⟩ : ∃ x, x = wr := ⟨_, rfl⟩
    have HO := Lib.hid ho
    have HB1 := Lib.hid hb
    have HBW := Lib.hid (HB0.out.trans (hb.mono HB0.out.size))
    have hle1 := hb.size
    have HBA := Lib.hid (show B ≤ wA.heap.size by rw [← HBS.out]; exact hle1)
    have hxA := HX1.out.below hb HX1.out.lt
    have hx3 := hxA.at (i := 3) rfl
    have hx4 := hxA.at (i := 4) rfl
    obtain ⟨a6, n6, c6, rfl⟩ := ho.form
    clear ho hb hxA
    by_cases hlt : i < N
    · obtain ⟨set, hset⟩ : ∃ s, 2 * i + 1 = s := ⟨_, rfl⟩
      have hsM : (set : Int) < (M : Int) := by omega
      have hs64 : set < 64 := by omega
      have HNX := Lib.hid (normTo_succ E m i)
      rw [hset] at HNX ⊢
      have HSE := Lib.hid hset
      have HS64 := Lib.hid hs64
      clear hset
      go_upto_region 7 with (fail)
      go_loopw [5, 24] (fun ob ax wq => ∃ a : Nat, a ≤ n ∧ ax = .int .i64 a ∧ ob = .bool (closTo E set a) ∧ Below wA.heap.size wA wq) (fun _ ax _ => n - (intOf ax).toNat)
      case atStart => exact ⟨0, Nat.zero_le _, rfl, rfl, Below.refl _ _⟩
      case round =>
        obtain ⟨a, ha, rfl, rfl, hb2⟩ := hrel
        have HB2 := Lib.hid hb2
        have HBW2 := Lib.hid (HBW.out.trans (hb2.mono HBW.out.size))
        have hx4 := (HX1.out.below (HB1.out.trans (hb2.mono HB1.out.size)) HX1.out.lt).at (i := 4) rfl
        by_cases hal : a < n
        · have hai : (a : Int) < (n : Int) := by omega
          have haE : a < E.length := by rw [HN.out]; exact hal
          have hof := HR.out.of a haE wr HBW2.out
          have k1 := HKL.out a haE
          have HCS := Lib.hid (closTo_succ E set a)
          obtain ⟨x1, e1⟩ : ∃ y, clsOf E a = y := ⟨_, rfl⟩
          have HE1 := Lib.hid e1
          rw [e1] at hof k1
          rw [HMM.out] at k1
          obtain ⟨P, hP⟩ : ∃ P, closTo E set a = P := ⟨_, rfl⟩
          rw [hP] at HCS ⊢
          have HA0 := Lib.hid (show (P && closA E set a 0) = P by simp [closA])
          clear hb2 e1 hP
          go_upto_region 10 with (fail)
          go_loopw [5, 32] (fun ob bx wq => ∃ b : Nat, b ≤ n ∧ bx = .int .i64 b ∧ ob = .bool (P && closA E set a b) ∧ Below wA.heap.size wA wq) (fun _ bx _ => n - (intOf bx).toNat)
          case atStart => exact ⟨0, Nat.zero_le _, rfl, by rw [HA0.out], HB2.out⟩
          case round =>
            obtain ⟨b, hbn, rfl, rfl, hb3⟩ := hrel
            have HB3 := Lib.hid hb3
            have HBW3 := Lib.hid (HBW.out.trans (hb3.mono HBW.out.size))
            have hx4 := (HX1.out.below (HB1.out.trans (hb3.mono HB1.out.size)) HX1.out.lt).at (i := 4) rfl
            have hx1 := (HX1.out.below (HB1.out.trans (hb3.mono HB1.out.size)) HX1.out.lt).at (i := 1) rfl
            by_cases hbl : b < n
            · have hbi : (b : Int) < (n : Int) := by omega
              have hbE : b < E.length := by rw [HN.out]; exact hbl
              have hof2 := HR.out.of b hbE wr HBW3.out
              have k2 := HKL.out b hbE
              obtain ⟨g2, p2, c2, htab⟩ := HR.out.tab a b haE hbE
              obtain ⟨ht1, ht2⟩ := htab wr HBW3.out
              have htl := HTL.out a b haE hbE
              have hof3 := HR.out.of _ htl wr HBW3.out
              have k3 := HKL.out _ htl
              have HCS2 := Lib.hid (closA_succ E set a b)
              have HCR := Lib.hid (show closR E set a b = (!(set.testBit (clsOf E a)) || !(set.testBit (clsOf E b)) || set.testBit (clsOf E (timesN E a b))) from rfl)
              rw [HE1.out] at HCR
              rw [HN.out] at htl ht1
              obtain ⟨t, ht⟩ : ∃ t, timesN E a b = t := ⟨_, rfl⟩
              rw [ht] at ht2 htl hof3 k3 HCR
              obtain ⟨x2, e2⟩ : ∃ y, clsOf E b = y := ⟨_, rfl⟩
              obtain ⟨x3, e3⟩ : ∃ y, clsOf E t = y := ⟨_, rfl⟩
              rw [e2] at hof2 k2 HCR
              rw [e3] at hof3 k3 HCR
              rw [HMM.out] at k2 k3
              have b1 := div_bit6r x1 (by omega) set HS64.out
              have b2 := div_bit6r x2 (by omega) set HS64.out
              have b3 := div_bit6r x3 (by omega) set HS64.out
              have hti : (t : Int) < (n : Int) := by omega
              have ht0 : (0 : Int) ≤ (t : Int) := by omega
              have h01 : ¬ (x1 : Int) < 0 := by omega
              have h02 : ¬ (x2 : Int) < 0 := by omega
              have h03 : ¬ (x3 : Int) < 0 := by omega
              have g01 : decide ((x1 : Int) < 0) = false := by simp
              have g02 : decide ((x2 : Int) < 0) = false := by simp
              have g03 : decide ((x3 : Int) < 0) = false := by simp
              have g04 : decide ((t : Int) < 0) = false := by simp
              have g05 : decide ((n : Int) ≤ (t : Int)) = false := by simp; omega
              obtain ⟨K, hK⟩ : ∃ K, closA E set a b = K := ⟨_, rfl⟩
              rw [hK] at HCS2 ⊢
              obtain ⟨PK, hPK⟩ : ∃ PK, (P && K) = PK := ⟨_, rfl⟩
              have HPK := Lib.hid hPK
              rw [hPK]
              clear hb3 htab ht e2 e3 hK hPK
              cases PK with
              | false =>
                have HRS := Lib.hid (show (P && closA E set a (b + 1)) = false by rw [HCS2.out, ← Bool.and_assoc, HPK.out]; rfl)
                clear b1 b2 b3
                go_upto_region 12 with (fail)
                go_quiet (fail)
                go_wp2
                go_roundw
                case rel => exact ⟨b + 1, hbl, by go_num, by rw [HRS.out], below_drewN HB3.out _⟩
                case measure => simp [intOf]; omega
              | true =>
                have HRS := Lib.hid (show (P && closA E set a (b + 1)) = closR E set a b by rw [HCS2.out, ← Bool.and_assoc, HPK.out]; rfl)
                rw [HCR.out] at HRS
                cases hx : set.testBit x1 with
                | false =>
                  rw [hx] at HRS b1
                  rw [if_neg (by simp)] at b1
                  clear hx b2 b3
                  go_upto_region 12 with (fail)
                  go_quiet (fail)
                  go_wp2
                  go_roundw
                  case rel => exact ⟨b + 1, hbl, by go_num, by rw [HRS.out]; rfl, below_drewN HB3.out _⟩
                  case measure => simp [intOf]; omega
                | true =>
                  rw [hx] at HRS b1
                  rw [if_pos rfl] at b1
                  clear hx
                  cases hy : set.testBit x2 with
                  | false =>
                    rw [hy] at HRS b2
                    rw [if_neg (by simp)] at b2
                    clear hy b3
                    go_upto_region 12 with (fail)
                    go_quiet (fail)
                    go_wp2
                    go_roundw
                    case rel => exact ⟨b + 1, hbl, by go_num, by rw [HRS.out]; rfl, below_drewN HB3.out _⟩
                    case measure => simp [intOf]; omega
                  | true =>
                    rw [hy] at HRS b2
                    rw [if_pos rfl] at b2
                    clear hy
                    cases hz : set.testBit x3 with
                    | false =>
                      rw [hz] at HRS b3
                      rw [if_neg (by simp)] at b3
                      clear hz
                      go_upto_region 12 with (fail)
                      go_quiet (fail)
                      go_wp2
                      go_roundw
                      case rel => exact ⟨b + 1, hbl, by go_num, by rw [HRS.out]; rfl, below_drewN HB3.out _⟩
                      case measure => simp [intOf]; omega
                    | true =>
                      rw [hz] at HRS b3
                      rw [if_pos rfl] at b3
                      clear hz
                      go_upto_region 12 with (fail)
                      go_quiet (fail)
                      go_wp2
                      go_roundw
                      case rel => exact ⟨b + 1, hbl, by go_num, by rw [HRS.out]; rfl, below_drewN HB3.out _⟩
                      case measure => simp [intOf]; omega
            · obtain rfl : n = b := by omega
              have hbi : ¬ (n : Int) < (n : Int) := by omega
              have HCN := Lib.hid (show (P && closA E set a n) = closTo E set (a + 1) by rw [HCS.out, HN.out])
              rw [HCN.out]
              go_wp2
              go_roundw
              case rel => exact ⟨a + 1, hal, by go_num, rfl, HB3.out⟩
              case measure => simp [intOf]; omega
        · obtain rfl : n = a := by omega
          have hai : ¬ (n : Int) < (n : Int) := by omega
          have HCB := Lib.hid (show closTo E set n = closB E set by unfold closB; rw [HN.out])
          have hx3 := (HX1.out.below (HB1.out.trans (hb2.mono HB1.out.size)) HX1.out.lt).at (i := 3) rfl
          rw [HCB.out]
          clear hb2
          cases hcb : closB E set with
          | false =>
            have HNX2 := Lib.hid (show sortP (normTo E m (i + 1)) = sortP (normTo E m i) by rw [HNX.out, hcb]; simp)
            clear hcb HNX
            go_wp2
            go_roundw
            case rel => exact ⟨i + 1, hlt, by have := HSE.out; go_num, by rw [HNX2.out]; exact HO.out.below HB2.out, HB1.out.trans (HB2.out.mono hle1)⟩
            case measure => have := HSE.out; simp [intOf]; omega
          | true =>
            have HNX2 := Lib.hid (show sortP (normTo E m (i + 1)) = insP (sortP (normTo E m i)) (setN m set) by rw [HNX.out, if_pos hcb, sortP_snoc])
            have HBITS := Lib.hid (fun c (hc : c < m) => div_bit6r c (by omega) set HS64.out)
            clear hcb HNX
            go_wp2
            obtain ⟨wB, rfl⟩ : ∃ x, x = wr := ⟨_, rfl⟩
            have hle2 := HB2.out.size
            go_loopw [10, 77] (fun vl jx wq => ∃ c : Nat, c ≤ m ∧ jx = .int .i64 c ∧ OwnI 3 wB.heap.size wq vl (toI (setN c set)) ∧ Below wB.heap.size wB wq) (fun _ jx _ => m - (intOf jx).toNat)
            case atStart => exact ⟨0, Nat.zero_le _, rfl, OwnI.nil _ _ _, Below.refl _ _⟩
            case round =>
              obtain ⟨c, hc, rfl, ho, hb⟩ := hrel
              have HOI := Lib.hid ho
              have HB4 := Lib.hid hb
              have hle3 := hb.size
              obtain ⟨a8, n8, c8, rfl⟩ := own_form ho
              clear ho hb hx3
              by_cases hcl : c < m
              · have hci : (c : Int) < (m : Int) := by omega
                have hbt := HBITS.out c hcl
                have HSS := Lib.hid (setN_succ c set)
                have HSL := Lib.hid (show (toI (setN c set)).length < 1000000 by rw [toI_length]; have := setN_len c set; omega)
                cases hx : set.testBit c with
                | false =>
                  rw [hx] at HSS
                  rw [hx, if_neg (by simp)] at hbt
                  have HSS2 := Lib.hid (show setN (c + 1) set = setN c set by rw [HSS.out]; simp)
                  clear hx HSS
                  go_wp2
                  go_roundw
                  case rel => exact ⟨c + 1, hcl, by go_num, by rw [HSS2.out]; exact HOI.out, HB4.out⟩
                  case measure => simp [intOf]; omega
                | true =>
                  rw [hx] at HSS
                  rw [hx, if_pos rfl] at hbt
                  have HSS2 := Lib.hid (show toI (setN (c + 1) set) = toI (setN c set) ++ [(c : Int)] by rw [HSS.out, if_pos rfl, toI_append]; rfl)
                  clear hx HSS
                  go_wp2_with (at_builtin; refine wpList_app1_at rfl _ _ rfl wB.heap.size _ (toI (setN c set)) (c : Int) rfl (HOI.out.alloc _) ⟨_, 0, none⟩ 1 rfl (cell_new1 _ _ _) HSL.out (by simp; omega) ?_; intro v4 w4 ho4 hg4 hl4; have HO4 := Lib.hid ho4; have HB5 := Lib.hid ((HB4.out.alloc hle3 _).grown hg4 (by simp; omega) (fun j hj => (HOI.out.lt j hj).1)); clear ho4 hg4 hl4)
                  go_roundw
                  case rel => exact ⟨c + 1, hcl, by go_num, by rw [HSS2.out]; exact HO4.out, HB5.out⟩
                  case measure => simp [intOf]; omega
              · obtain rfl : m = c := by omega
                have hci : ¬ (m : Int) < (m : Int) := by omega
                have HYZ := Lib.hid (show Fz (fun j => B ≤ j ∧ j < wr.heap.size) wr (.slice a8 n8 c8) (toI (setN m set)) from by
                  obtain ⟨a9, c9, e9, j1, j2, j3⟩ := HOI.out.fzB (by rw [toI_length]; have := setN_len m set; omega)
                  refine ⟨a9, c9, e9, j1, j2, fun hne => ?_⟩
                  obtain ⟨b9, o9, rfl, j6, j4, j5⟩ := j3 hne
                  exact ⟨b9, o9, rfl, ⟨by have := HBA.out; have := j6.1; omega, j4⟩, j4, j5⟩)
                have HYL := Lib.hid (show n8 = (setN m set).length by
                  obtain ⟨a9, c9, e9, -⟩ := HYZ.out
                  rw [(Value.slice.inj e9).2.1, toI_length])
                have HOW := Lib.hid ((HO.out.below HB2.out).below HB4.out)
                have HB14 := Lib.hid ((HB1.out.trans (HB2.out.mono hle1)).trans (HB4.out.mono (Nat.le_trans hle1 hle2)))
                have HBR := Lib.hid (show B ≤ wr.heap.size by have := HBA.out; omega)
                have HLN := Lib.hid (show (sortP (normTo E m i)).length ≤ i by
                  have hs : (normTo E m i).Nodup := by
                    refine List.Sublist.nodup ?_ HND.out
                    rw [HNL.out]
                    unfold normTo
                    exact ((List.range_sublist.2 hi).map _ |>.filter _).map _
                  rw [sortP_len hs]; exact normTo_len E m i)
                obtain ⟨y, hy⟩ : ∃ y, setN m set = y := ⟨_, rfl⟩
                rw [hy] at HYZ HYL HNX2
                obtain ⟨ls, hls⟩ : ∃ ls, sortP (normTo E m i) = ls := ⟨_, rfl⟩
                rw [hls] at HLN HOW HNX2
                have hls24 : ls.length ≤ 64 := by have := HLN.out; omega
                have HST := HNX2
                have HU := HYZ
                clear hy hls HO
                have hsm : IntKind.i64.wrap ((set : Int) + 2) = (set : Int) + 2 := IntWalk.i64_in _ (by omega)
                rcases HOW.out with ⟨hls0, hv0⟩ | ⟨hne, hrow⟩
                · subst hls0
                  obtain ⟨rfl, rfl, rfl⟩ := Value.slice.inj hv0
                  have HI0 := Lib.hid (show insP [] y = [y] from rfl)
                  have hki0 : ¬ ((0 : Nat) : Int) < 0 := by omega
                  clear HOW hv0
                  go_wp2
                  go_loop [12] (fun at' => at' = .int .i64 0) (fun _ => 0)
                  case atStart => rfl
                  case round =>
                    subst hrel
                    go_upto_region 26 with (fail)
                    go_region_law (first
                      | (refine step_ins2 (w0 := wr) (by rfl) _ _ (by rfl) (ls := []) (by rfl) (by rfl) HU.out (fun _ hk => hk.2) ?hb2 ?h2 ?hc2 (by decide) ?_; (case hb2 => exact (below_two' wr _ _).drew); (case h2 => first | exact RowsF.drew (rows_fresh1 wr _) | exact RowsF.drew ((rows_fresh wr rfl (Nat.le_refl _)).alloc _)); (case hc2 => first | exact held_n1 wr _ _ | exact held_n2 wr _ _); intro v2 w2 hr2 hb2; obtain ⟨g2, c2, rfl, hc2⟩ := rows_one1 hr2)
                      | (refine step_none (by rfl) _ _ (by rfl) (by rfl) (by rfl) hc2 ?_)
                      | (refine step_none (by rfl) _ _ (by rfl) (by rfl) (by rfl) (Nat.le_refl _) ?_))
                    all_goals
                      go_wp2
                      go_roundw
                      case rel => exact ⟨i + 1, hlt, by have := HSE.out; go_num, by rw [HST.out, HI0.out]; exact .inr ⟨by simp, (hr2.mono fun _ hj => hj.1).base HBR.out⟩, HB14.out.trans (hb2.mono HB14.out.size)⟩
                      case measure => have := HSE.out; simp [intOf]; omega
                · have HNE := Lib.hid (show insP ls y ≠ [] by
                    intro e
                    have := (insP_perm ls y).length_eq
                    rw [e] at this; simp at this)
                  have hlpos := List.length_pos_iff.2 hne
                  obtain ⟨vs, hov, hrv⟩ := hrow
                  have hvl : vs.length = ls.length := by have := hov.1; omega
                  rcases hov.2 with ⟨_, hnn⟩ | ⟨g, cap, cur, hve, _, hbg, hcap, _⟩
                  · exfalso; omega
                  obtain ⟨rfl, rfl, rfl⟩ := Value.slice.inj hve
                  have HRR := Lib.hid (show RowsR (fun j => B ≤ j ∧ j < wr.heap.size) wr g 0 vs ls from ⟨hvl, (Array.getElem?_eq_some_iff.1 hbg).1, fun j x hj => by
                      rw [Nat.zero_add, World.ownsRow.cellAt hov j (by have := (List.getElem?_eq_some_iff.1 hj).1; omega)]
                      exact hj, fun j x q hx hq => by
                      obtain ⟨a9, c9, rfl, j1, j2, j3⟩ := hrv j x q hx hq
                      refine ⟨a9, c9, rfl, j1, j2, fun hne => ?_⟩
                      obtain ⟨b9, o9, rfl, j6, j4, j5⟩ := j3 hne
                      exact ⟨b9, o9, rfl, ⟨j6, j4⟩, j4, j5⟩⟩)
                  have HIN := Lib.hid (fun z (hz : z ≤ ls.length) => insP_at y ls z hz)
                  clear hov hrv hbg HOW hve hvl hne
                  go_wp2
                  go_loop [12] (fun at' => ∃ z : Nat, z ≤ ls.length ∧ at' = .int .i64 z ∧ LtTo ls y z) (fun at' => ls.length - (intOf at').toNat)
                  case atStart => exact ⟨0, Nat.zero_le _, rfl, fun _ _ h => absurd h (Nat.not_lt_zero _)⟩
                  case round =>
                    obtain ⟨z, hz, rfl, hin⟩ := hrel
                    have HI := Lib.hid hin
                    clear hin
                    by_cases hgo : ∃ h : z < ls.length, ls[z] < y
                    · obtain ⟨hzl, hzy⟩ := hgo
                      have hki : (z : Int) < (ls.length : Int) := by omega
                      have hvk : vs[z]? = some (vs[z]'(by rw [HRR.out.len]; exact hzl)) := List.getElem?_eq_getElem _
                      obtain ⟨uk, huk⟩ : ∃ uk, vs[z]'(by rw [HRR.out.len]; exact hzl) = uk := ⟨_, rfl⟩
                      rw [huk] at hvk
                      have hcx := HRR.out.cell z uk hvk
                      rw [Nat.zero_add] at hcx
                      have hfz := HRR.out.row z uk _ hvk (List.getElem?_eq_getElem hzl)
                      have BF := Lib.hid (ahead_any uk _ (toI ls[z]) (toI y) wr hfz.ints HU.out.ints)
                      rw [decide_eq_true (toI_lt.2 hzy)] at BF
                      have HI2 := Lib.hid (show LtTo ls y (z + 1) from fun j h hj => by
                        by_cases e : j = z
                        · subst e; exact hzy
                        · exact HI.out j h (by omega))
                      obtain ⟨ak, ck, rfl, -⟩ := hfz
                      clear hvk huk hzy
                      go_wp2_with (go_at_call 58; refine BF.out.mono ?_; rintro e w1 ⟨rfl, rfl⟩)
                      go_round
                      case rel => exact ⟨z + 1, by omega, by go_num, HI2.out⟩
                      case measure => simp [intOf]; omega
                    · have HE2 := Lib.hid (HIN.out z hz HI.out (fun h hz => hgo ⟨h, hz⟩))
                      obtain ⟨ad2, had⟩ : ∃ ad2 : Addr, (if c6 = z then some (⟨g, 0, none⟩ : Addr) else some ⟨g, 0 + z, none⟩) = some ad2 := by split <;> exact ⟨_, rfl⟩
                      have HT1 := Lib.hid (fun w' (hb : Below wr.heap.size wr w') => (HRR.out.below hb).take z)
                      have HT3 := Lib.hid (fun w' (hb : Below wr.heap.size wr w') => (HRR.out.below hb).drop hz hcap had)
                      rw [Nat.zero_add] at had
                      have HN1 := Lib.hid (show (ls.take z).length = z by rw [List.length_take]; omega)
                      have HN3 := Lib.hid (show (ls.drop z).length = ls.length - z by rw [List.length_drop])
                      have HU1 := Lib.hid (show (vs.take z).length = (ls.take z).length by rw [List.length_take, List.length_take, HRR.out.len])
                      have HU3 := Lib.hid (show (vs.drop z).length = (ls.drop z).length by rw [List.length_drop, List.length_drop, HRR.out.len])
                      have hle3' : (ls.take z).length + 1 + (ls.length - z) < 900002 := by rw [HN1.out]; omega
                      have hle1' : (ls.take z).length < 1000000 := by rw [HN1.out]; omega
                      have hkc : (z : Int) ≤ (c6 : Int) := by omega
                      have hkl : (z : Int) ≤ (ls.length : Int) := by omega
                      by_cases hzl : z < ls.length
                      · have hzy : ¬ ls[z] < y := fun hz => hgo ⟨hzl, hz⟩
                        have hki : (z : Int) < (ls.length : Int) := by omega
                        have hvk : vs[z]? = some (vs[z]'(by rw [HRR.out.len]; exact hzl)) := List.getElem?_eq_getElem _
                        obtain ⟨uk, huk⟩ : ∃ uk, vs[z]'(by rw [HRR.out.len]; exact hzl) = uk := ⟨_, rfl⟩
                        rw [huk] at hvk
                        have hcx := HRR.out.cell z uk hvk
                        rw [Nat.zero_add] at hcx
                        have hfz := HRR.out.row z uk _ hvk (List.getElem?_eq_getElem hzl)
                        have BF := Lib.hid (ahead_any uk _ (toI ls[z]) (toI y) wr hfz.ints HU.out.ints)
                        rw [decide_eq_false (fun h => hzy (toI_lt.1 h))] at BF
                        obtain ⟨ak, ck, rfl, -⟩ := hfz
                        clear hvk huk hzy hgo
                        go_upto_region 26 with (go_at_call 58; refine BF.out.mono ?_; rintro e w1 ⟨rfl, rfl⟩)
                        go_region_law (first
                            | (refine step_ins1 (w0 := wr) (by rfl) _ _ (by rfl) (ls := []) (by rfl) (by rfl) HN1.out HU1.out HT1.out (fun _ hk => hk.2) ?hb ?h (by simp; omega) ?_; (case hb => first | exact (below_two' wr _ _).drew | exact ((Below.refl _ _).alloc (Nat.le_refl _) _).drew); (case h => first | exact RowsF.drew (rows_fresh1 wr _) | exact RowsF.drew ((rows_fresh wr rfl (Nat.le_refl _)).alloc _) | exact RowsF.drew (rows_fresh wr rfl (Nat.le_refl _))); intro v1 w1 hr1 hb1 hg1)
                            | (refine step_ins2 (w0 := wr) (by rfl) _ _ (by rfl) (ls := [] ++ ls.take z) (by rfl) (by rfl) HU.out (fun _ hk => hk.2) ?hb2 ?h2 ?hc2 (by simp; omega) ?_; (case hb2 => first | exact hb1 | exact hb1.alloc hb1.size _); (case h2 => first | exact hr1 | exact hr1.alloc _); (case hc2 => first | exact Held.new _ _ [_] | exact held_ins1 wr _ hg1 | exact held_ins2 wr _ hg1); intro v2 w2 hr2 hb2)
                            | (refine step_ins1 (w0 := wr) (by rfl) _ _ (by rfl) (ls := [] ++ ls.take z ++ [y]) (by rfl) (by rfl) HN3.out HU3.out HT3.out (fun _ hk => hk.2) hb2 hr2 (by simp; omega) ?_; intro v3 w3 hr3 hb3 _))
                        all_goals
                          go_wp2
                          go_roundw
                          case rel => exact ⟨i + 1, hlt, by have := HSE.out; go_num, by rw [HST.out]; exact .inr ⟨HNE.out, by rw [HE2.out]; exact (hr3.mono fun _ hj => hj.1).base HBR.out⟩, HB14.out.trans (hb3.mono HB14.out.size)⟩
                          case measure => have := HSE.out; simp [intOf]; omega
                      · have hki : ¬ (z : Int) < (ls.length : Int) := by omega
                        clear hgo
                        go_upto_region 26 with (fail)
                        go_region_law (first
                            | (refine step_ins1 (w0 := wr) (by rfl) _ _ (by rfl) (ls := []) (by rfl) (by rfl) HN1.out HU1.out HT1.out (fun _ hk => hk.2) ?hb ?h (by simp; omega) ?_; (case hb => first | exact (below_two' wr _ _).drew | exact ((Below.refl _ _).alloc (Nat.le_refl _) _).drew); (case h => first | exact RowsF.drew (rows_fresh1 wr _) | exact RowsF.drew ((rows_fresh wr rfl (Nat.le_refl _)).alloc _) | exact RowsF.drew (rows_fresh wr rfl (Nat.le_refl _))); intro v1 w1 hr1 hb1 hg1)
                            | (refine step_ins2 (w0 := wr) (by rfl) _ _ (by rfl) (ls := [] ++ ls.take z) (by rfl) (by rfl) HU.out (fun _ hk => hk.2) ?hb2 ?h2 ?hc2 (by simp; omega) ?_; (case hb2 => first | exact hb1 | exact hb1.alloc hb1.size _); (case h2 => first | exact hr1 | exact hr1.alloc _); (case hc2 => first | exact Held.new _ _ [_] | exact held_ins1 wr _ hg1 | exact held_ins2 wr _ hg1); intro v2 w2 hr2 hb2)
                            | (refine step_ins1 (w0 := wr) (by rfl) _ _ (by rfl) (ls := [] ++ ls.take z ++ [y]) (by rfl) (by rfl) HN3.out HU3.out HT3.out (fun _ hk => hk.2) hb2 hr2 (by simp; omega) ?_; intro v3 w3 hr3 hb3 _))
                        all_goals
                          go_wp2
                          go_roundw
                          case rel => exact ⟨i + 1, hlt, by have := HSE.out; go_num, by rw [HST.out]; exact .inr ⟨HNE.out, by rw [HE2.out]; exact (hr3.mono fun _ hj => hj.1).base HBR.out⟩, HB14.out.trans (hb3.mono HB14.out.size)⟩
                          case measure => have := HSE.out; simp [intOf]; omega
    · obtain rfl : N = i := by omega
      have hsM : ¬ ((2 * N + 1 : Nat) : Int) < (M : Int) := by omega
      obtain ⟨set, hset⟩ : ∃ s, 2 * N + 1 = s := ⟨_, rfl⟩
      rw [hset] at hsM ⊢
      clear hset
      rw [← HNN.out] at HO
      go_wp2
      go_ret
      refine ⟨_, rfl, ?_, HBW.out⟩
      have hbb : w.heap.size ≤ B := by rw [← HBS.out]; exact HB0.out.size
      rcases HO.out with h1 | ⟨h1, h2⟩
      · exact .inl h1
      · exact .inr ⟨h1, (h2.mono fun _ hj => Nat.le_trans hbb hj).base hbb⟩
end Go.Proofs.YtdackakjcnnofaaGreat
