/- The reference's Orbits. -/
import Derived.Test.YtdackakjcnnofaaGreatOb
import Derived.Test.YtdackakjcnnofaaGreatZv
namespace Go.Proofs.YtdackakjcnnofaaGreat
open Go.RowKit
attribute [local go_sem] Oper.semAt_some

theorem or32 : ∀ a : Nat, a < 32 → ∀ b : Nat, b < 32 → bits BinOp.or IntKind.i64 (a : Int) (b : Int) = ((a ||| b : Nat) : Int) := by decide +kernel
theorem or32_lt : ∀ a : Nat, a < 32 → ∀ b : Nat, b < 32 → a ||| b < 32 := by decide +kernel
/-- The numbers to which the first elements take one. -/
def mskO (E : List (List Nat)) (i : Nat) : Nat := E.foldl (fun s x => s ||| 2 ^ x.getD i 0) 0
theorem mskO_snoc (E : List (List Nat)) (x : List Nat) (i : Nat) : mskO (E ++ [x]) i = mskO E i ||| 2 ^ x.getD i 0 := by simp [mskO]
theorem foldl_or_bit (i j : Nat) : ∀ (E : List (List Nat)) (s : Nat), (E.foldl (fun s x => s ||| 2 ^ x.getD i 0) s).testBit j = (s.testBit j || orbB E i j)
  | [], s => by simp [orbB]
  | x :: E, s => by
    rw [List.foldl_cons, foldl_or_bit i j E, Nat.testBit_or, Nat.testBit_two_pow]
    simp only [orbB, List.any_cons, Bool.or_assoc]
    congr 1
theorem mskO_bit (E : List (List Nat)) (i j : Nat) : (mskO E i).testBit j = orbB E i j := by
  unfold mskO
  rw [foldl_or_bit]
  simp
theorem foldl_or_lt {d i : Nat} (hd : d ≤ 5) (hi : i < d) : ∀ (E : List (List Nat)) (s : Nat), (∀ x ∈ E, Perm1 d x) → s < 32 → E.foldl (fun s x => s ||| 2 ^ x.getD i 0) s < 32
  | [], s, _, hs => hs
  | x :: E, s, hp, hs => foldl_or_lt hd hi E _ (fun y hy => hp y (List.mem_cons_of_mem _ hy)) (or_lt32 _ (by have := perm_getD_lt (hp x List.mem_cons_self) hi; omega) s hs)
theorem mskO_lt {d i : Nat} (hd : d ≤ 5) (hi : i < d) {E : List (List Nat)} (hp : ∀ x ∈ E, Perm1 d x) : mskO E i < 32 := foldl_or_lt hd hi E 0 hp (by omega)
/-- The numbers met in the orbits of the first ones. -/
def seenO (E : List (List Nat)) : Nat → Nat
  | 0 => 0
  | i + 1 => if firstO E i then seenO E i ||| mskO E i else seenO E i
theorem seenO_bit (E : List (List Nat)) (j : Nat) : ∀ i, (seenO E i).testBit j = true ↔ ∃ r, r < i ∧ firstO E r = true ∧ orbB E r j = true
  | 0 => by simp [seenO]
  | i + 1 => by
    have ih := seenO_bit E j i
    unfold seenO
    by_cases hf : firstO E i = true
    · rw [if_pos hf, Nat.testBit_or, Bool.or_eq_true, ih, mskO_bit]
      constructor
      · rintro (⟨r, h1, h2, h3⟩ | h)
        · exact ⟨r, by omega, h2, h3⟩
        · exact ⟨i, by omega, hf, h⟩
      · rintro ⟨r, h1, h2, h3⟩
        by_cases e : r = i
        · subst e; exact .inr h3
        · exact .inl ⟨r, by omega, h2, h3⟩
    · rw [if_neg hf, ih]
      constructor
      · rintro ⟨r, h1, h2, h3⟩
        exact ⟨r, by omega, h2, h3⟩
      · rintro ⟨r, h1, h2, h3⟩
        by_cases e : r = i
        · subst e; exact absurd h2 hf
        · exact ⟨r, by omega, h2, h3⟩
theorem Grp.seen_first {d : Nat} {E : List (List Nat)} (h : Grp d E) {i : Nat} (hi : i < d) : (seenO E i).testBit i = !firstO E i := by
  cases hf : firstO E i
  · exact (seenO_bit E i i).2 ((h.orb_met d i (by omega) hi).1 hf)
  · refine Bool.eq_false_iff.2 fun hb => ?_
    rw [(h.orb_met d i (by omega) hi).2 ((seenO_bit E i i).1 hb)] at hf
    cases hf
theorem seenO_lt {d : Nat} {E : List (List Nat)} (h : Grp d E) (hd : d ≤ 5) : ∀ i, i ≤ d → seenO E i < 32
  | 0, _ => by simp [seenO]
  | i + 1, hi => by
    have ih := seenO_lt h hd i (by omega)
    unfold seenO
    split
    · exact or32_lt _ ih _ (mskO_lt hd (by omega) h.perm)
    · exact ih
/-- The first members of an orbit. -/
def orbUp (E : List (List Nat)) (i j : Nat) : List Nat := (List.range j).filter (orbB E i)
theorem orbUp_yes {E : List (List Nat)} {i j : Nat} (h : orbB E i j = true) : orbUp E i (j + 1) = orbUp E i j ++ [j] := by simp [orbUp, List.range_succ, h]
theorem orbUp_no {E : List (List Nat)} {i j : Nat} (h : orbB E i j = false) : orbUp E i (j + 1) = orbUp E i j := by simp [orbUp, List.range_succ, h]
theorem orbUp_len (E : List (List Nat)) (i j : Nat) : (orbUp E i j).length ≤ j := Nat.le_trans (List.length_filter_le _ _) (by simp)
set_option maxRecDepth 100000 in
set_option maxHeartbeats 4000000 in
theorem ROrbits_any {d : Nat} {E : List (List Nat)} (gv : Value) (w : World) (h : Grp d E) (h24 : E.length ≤ 24) (hd : d ≤ 5) (hg : RGI d E w gv) :
    Calls Tryz.prog 38 #[gv] w fun e w' => ∃ v' S, e = .returned v' ∧ GrowR w.heap.size w' v' (orbitsN E d) S ∧ Below w.heap.size w w' := by
  obtain ⟨vL, vT, vB, vC, vO, rfl, hL, -, -, -, -⟩ := hg
  have HG := Lib.hid h
  have HPM := Lib.hid h.perm
  obtain ⟨aL, cL, rfl⟩ := hL.form
  obtain ⟨-, gL, rfl, hgL⟩ := rows_fix hL h.pos
  have HRL := Lib.hid hgL
  have HSF := Lib.hid (fun i hi => h.seen_first (i := i) hi)
  have HSL := Lib.hid (seenO_lt h hd)
  have hpos := h.pos
  obtain ⟨aX, cX, hrow⟩ := hgL 0 hpos
  have hp0 := (h.perm _ (List.getElem_mem hpos)).len
  rw [hp0] at hrow
  have HR0 := Lib.hid (fun W hW => (hrow W hW).1)
  obtain ⟨n, hn⟩ : ∃ n, E.length = n := ⟨_, rfl⟩
  have HN := Lib.hid hn
  rw [hn] at h24 hpos
  rw [hn]
  clear h hgL hn hL hp0 hrow
  unfold rgV
  go_enter Tryz.func38, Tryz.ntmps38
  have HX0 := Lib.hid (Held.new w 29 [.slice (some ⟨gL, 0, none⟩) n cL, vT, vB, vC, vO, .int .i64 (primeN E d : Nat)])
  have HB0 := Lib.hid (show Below w.heap.size w (w.alloc (.cells #[.slice (some ⟨gL, 0, none⟩) n cL, vT, vB, vC, vO, .int .i64 (primeN E d : Nat)] 29)) from (Below.refl _ _).alloc (Nat.le_refl _) _)
  have hr0 := HR0.out _ HB0.out
  go_wp2_with fail
  obtain ⟨bx, hbx⟩ : ∃ x, w.heap.size = x := ⟨_, rfl⟩
  obtain ⟨W0, hW0⟩ : ∃ x, w.alloc (.cells #[.slice (some ⟨gL, 0, none⟩) n cL, vT, vB, vC, vO, .int .i64 (primeN E d : Nat)] 29) = x := ⟨_, rfl⟩
  rw [hbx] at HX0 ⊢
  have HX1 := Lib.hid (show Held W0 bx 29 [.slice (some ⟨gL, 0, none⟩) n cL, vT, vB, vC, vO, .int .i64 (primeN E d : Nat)] by rw [← hW0]; exact HX0.out)
  rw [hW0] at HB0 ⊢
  clear hW0 HX0 hbx hr0
  go_loopw [3, 4, 16] (fun vr sn ix wr => ∃ (i : Nat) (S : Nat → Prop), i ≤ d ∧ ix = .int .i64 i ∧ sn = .int .i64 (seenO E i : Nat) ∧ GrowR W0.heap.size wr vr (orbTo E d i) S ∧ Below W0.heap.size W0 wr) (fun _ _ ix _ => d - (intOf ix).toNat)
  case atStart => exact ⟨0, _, Nat.zero_le _, rfl, rfl, GrowR.nil _ _, Below.refl _ _⟩
  case round =>
    obtain ⟨i, S, hi, rfl, rfl, hg, hb1⟩ := hrel
    obtain ⟨wA, rfl⟩ : ∃ x, x = wr := ⟨_, rfl⟩
    have HG1 := Lib.hid hg
    have HB1 := Lib.hid hb1
    have HBW := Lib.hid (HB0.out.trans (hb1.mono HB0.out.size))
    have hle1 := hb1.size
    obtain ⟨a3, c3, rfl⟩ := hg.1.form
    have HOL := Lib.hid (show (orbTo E d i).length < 1000000 by have := orbTo_len E d i; omega)
    clear hg hb1
    by_cases hlt : i < d
    · have hii : (i : Int) < (d : Int) := by omega
      have hs32 := HSL.out i hi
      have hbit := div_bit i (by omega) (seenO E i) hs32
      rw [HSF.out i hlt] at hbit
      have HOT := Lib.hid (show orbTo E d (i + 1) = if firstO E i = true then orbTo E d i ++ [orbUp E i d] else orbTo E d i by
        cases hf : firstO E i
        · rw [orbTo_no hf]; rfl
        · rw [orbTo_first hf]; rfl)
      have HSN := Lib.hid (show seenO E (i + 1) = if firstO E i = true then seenO E i ||| mskO E i else seenO E i from rfl)
      obtain ⟨s, hs⟩ : ∃ s, seenO E i = s := ⟨_, rfl⟩
      rw [hs] at hs32 hbit HSN ⊢
      have hc0 := (HX1.out.below HB1.out HX1.out.lt).at (i := 0) rfl
      have hm32 := mskO_lt hd hlt HPM.out
      clear hs
      cases hf : firstO E i with
      | false =>
        rw [hf] at hbit HOT HSN
        rw [Bool.not_false, if_pos rfl] at hbit
        have HOT2 := Lib.hid (show orbTo E d (i + 1) = orbTo E d i from HOT.out)
        have HSN2 := Lib.hid (show seenO E (i + 1) = s from HSN.out)
        clear HOT HSN hf
        go_wp2
        go_roundw
        case rel => exact ⟨i + 1, S, hlt, by go_num, by rw [HSN2.out], by rw [HOT2.out]; exact HG1.out, HB1.out⟩
        case measure => simp [intOf]; omega
      | true =>
        rw [hf] at hbit HOT HSN
        rw [Bool.not_true, if_neg (by simp)] at hbit
        have HOT2 := Lib.hid (show orbTo E d (i + 1) = orbTo E d i ++ [orbUp E i d] from HOT.out)
        have HSN2 := Lib.hid (show seenO E (i + 1) = s ||| mskO E i from HSN.out)
        clear HOT HSN hf
        go_wp2_with fail
        go_loopw [6, 27] (fun mk jx wq => ∃ j : Nat, j ≤ n ∧ jx = .int .i64 j ∧ mk = .int .i64 (mskO (E.take j) i : Nat) ∧ wq = wA) (fun _ jx _ => n - (intOf jx).toNat)
        case atStart => exact ⟨0, Nat.zero_le _, rfl, rfl, rfl⟩
        case round =>
          obtain ⟨j, hj, rfl, rfl, rfl⟩ := hrel
          obtain ⟨wA, rfl⟩ : ∃ x, x = wr := ⟨_, rfl⟩
          by_cases hjl : j < n
          · have hji : (j : Int) < (n : Int) := by omega
            have hmj := mskO_lt hd hlt (E := E.take j) (fun x hx => HPM.out x (List.mem_of_mem_take hx))
            have hjE : j < E.length := by rw [HN.out]; exact hjl
            obtain ⟨aY, cY, hrow⟩ := HRL.out j hjE
            have hpx := HPM.out _ (List.getElem_mem hjE)
            have hyl := perm_getD_lt hpx hlt
            have HT := Lib.hid (show mskO (E.take (j + 1)) i = mskO (E.take j) i ||| 2 ^ (E[j]).getD i 0 by rw [List.take_succ_eq_append_getElem hjE, mskO_snoc])
            obtain ⟨x, hx⟩ : ∃ x, E[j] = x := ⟨_, rfl⟩
            rw [hx] at hrow hpx hyl HT
            have hxl := hpx.len
            have hcr := (hrow wA HBW.out).1
            obtain ⟨b2, o2, c2, he2, -, hcx⟩ := Ints.atN (hrow wA HBW.out).2 (i := i) (by rw [hxl]; exact hlt)
            obtain ⟨rfl, -, -⟩ := Value.slice.inj he2
            rw [show x[i]'(by rw [hxl]; exact hlt) = x.getD i 0 by rw [List.getD_eq_getElem?_getD, List.getElem?_eq_getElem]; rfl] at hcx
            rw [hxl] at hcr
            obtain ⟨y, hy⟩ : ∃ y, x.getD i 0 = y := ⟨_, rfl⟩
            rw [hy] at hcx hyl HT
            obtain ⟨m, hm⟩ : ∃ m, mskO (E.take j) i = m := ⟨_, rfl⟩
            rw [hm] at hmj HT ⊢
            have q1 := pow_in64 y (by omega)
            have q3 := pow_in y (by omega)
            have q5 := or_walk y (by omega) m hmj
            clear he2 hrow hx hpx hy hm
            go_wp2
            go_roundw
            case rel => exact ⟨j + 1, hjl, by go_num, by rw [HT.out], trivial⟩
            case measure => simp [intOf]; omega
          · obtain rfl : j = n := by omega
            have hji : ¬ (j : Int) < (j : Int) := by omega
            rw [List.take_of_length_le (by rw [HN.out]; exact Nat.le_refl _)]
            have HMB := Lib.hid (mskO_bit E i)
            obtain ⟨m, hm⟩ : ∃ m, mskO E i = m := ⟨_, rfl⟩
            rw [hm] at hm32 HMB HSN2 ⊢
            have q5 := or32 s hs32 m hm32
            have hr0 := HR0.out _ HBW.out
            clear hm
            go_wp2_with fail
            go_loopw [9, 47] (fun vl jx wq => ∃ k : Nat, k ≤ d ∧ jx = .int .i64 k ∧ OwnI 3 wA.heap.size wq vl (toI (orbUp E i k)) ∧ Below wA.heap.size wA wq) (fun _ jx _ => d - (intOf jx).toNat)
            case atStart => exact ⟨0, Nat.zero_le _, rfl, OwnI.nil _ _ _, Below.refl _ _⟩
            case round =>
              obtain ⟨k, hk, rfl, ho, hb2⟩ := hrel
              have HO := Lib.hid ho
              have HB2 := Lib.hid hb2
              have hle2 := hb2.size
              obtain ⟨a9, n9, c9, rfl⟩ := own_form ho
              have HLU := Lib.hid (orbUp_len E i k)
              have HTL := Lib.hid (show (toI (orbUp E i k)).length < 1000000 by rw [toI_length]; have := HLU.out; omega)
              clear ho hb2
              by_cases hkl : k < d
              · have hki : (k : Int) < (d : Int) := by omega
                have hbk := div_bit k (by omega) m hm32
                rw [HMB.out k] at hbk
                cases hob : orbB E i k with
                | true =>
                  rw [hob, if_pos rfl] at hbk
                  have HU := Lib.hid (orbUp_yes hob)
                  clear hob
                  go_wp2_with (at_builtin; refine wpList_app1_at rfl _ _ rfl wA.heap.size _ (toI (orbUp E i k)) ((k : Nat) : Int) rfl (HO.out.alloc _) ⟨_, 0, none⟩ 1 rfl (cell_new1 _ _ _) HTL.out (by simp; omega) ?_; intro v4 w4 ho4 hg4 hl4; have HO4 := Lib.hid ho4; have HB4 := Lib.hid ((HB2.out.alloc hle2 _).grown hg4 (by simp; omega) (fun j hj => (HO.out.lt j hj).1)); clear ho4 hg4 hl4)
                  go_roundw
                  case rel => exact ⟨k + 1, hkl, by go_num, by rw [HU.out, toI_append]; exact HO4.out, HB4.out⟩
                  case measure => simp [intOf]; omega
                | false =>
                  rw [hob, if_neg (by simp)] at hbk
                  have HU := Lib.hid (orbUp_no hob)
                  clear hob
                  go_wp2
                  go_roundw
                  case rel => exact ⟨k + 1, hkl, by go_num, by rw [HU.out]; exact HO.out, HB2.out⟩
                  case measure => simp [intOf]; omega
              · obtain rfl : k = d := by omega
                have hki : ¬ (k : Int) < (k : Int) := by omega
                have HLM := Lib.hid (show (orbUp E i k).length ≤ 1000000 by have := HLU.out; omega)
                go_wp2_with (at_builtin; refine wpList_appF rfl _ _ rfl (fun j => S j ∨ (Value.slice a9 n9 c9).ownBlock = some j) W0.heap.size wr.heap.size (.slice a3 (orbTo E k i).length c3) (.slice a9 n9 c9) (orbTo E k i) (orbUp E i k) rfl ((HG1.out.grow HB2.out HO.out HLM.out).1.1.alloc _) ((HG1.out.grow HB2.out HO.out HLM.out).2.kept (Sm.of_below ((Below.refl _ _).alloc (Nat.le_refl _) _))) rfl (Held.made rfl) (fun j hj => ((HG1.out.grow HB2.out HO.out HLM.out).1.2 j hj).2) HOL.out (by simp; omega) ?_; intro v5 w5 hr5 hg5 ho5; have HR5 := Lib.hid (GrowR.app (b := 0) (HG1.out.grow HB2.out HO.out HLM.out).1 ((Below.refl _ _).alloc (Nat.le_refl _) _) hr5 hg5 ho5 rfl); have HB5 := Lib.hid (((HB1.out.trans (HB2.out.mono hle1)).alloc (by omega) _).grown hg5 (by simp; omega) (fun j hj => (HG1.out.1.own j hj).1)); clear hr5 hg5 ho5)
                go_roundw
                case rel => exact ⟨i + 1, _, hlt, by go_num, by rw [HSN2.out], by rw [HOT2.out]; exact HR5.out, HB5.out⟩
                case measure => simp [intOf]; omega
    · obtain rfl : i = d := by omega
      have hii : ¬ (i : Int) < (i : Int) := by omega
      go_wp2_with fail
      go_ret
      have h0 := HG1.out
      rw [orbTo_end] at h0
      exact ⟨_, rfl, ⟨_, h0.1.base (by have := HB0.out.size; omega), h0.2⟩, HBW.out⟩
end Go.Proofs.YtdackakjcnnofaaGreat
