/- Z6 of the seat's texts, in this order. -/
import Derived.Test.YtdackakjcnnofaaGreatB3
import Derived.Test.YtdackakjcnnofaaGreatB2
import Derived.Test.YtdackakjcnnofaaGreatB1

/- The reference's search: a whole choice. -/
namespace Go.Proofs.YtdackakjcnnofaaGreat
open Go.RowKit
attribute [local go_sem] Oper.semAt_some

/-- The list under way, its head in block bo. -/
def OutI (bo : Nat) (w : World) (vo : Value) (L : List (List Nat)) : Prop :=
  (L = [] ∧ vo = .slice none 0 0) ∨ (0 < L.length ∧ RowsF (fun k => k ≠ bo) 0 w vo L ∧ ∀ k, vo.ownBlock = some k → k ≠ bo)
theorem OutI.kept {bo : Nat} {w w' : World} {vo : Value} {L : List (List Nat)} (h : OutI bo w vo L) (hs : Sm (fun k => k ≠ bo) w w') : OutI bo w' vo L := by
  rcases h with h | ⟨h1, h2, h3⟩
  · exact .inl h
  · exact .inr ⟨h1, h2.kept hs (fun _ hk => hk) h3, h3⟩
theorem toI_getElem' {l : List Nat} {i : Nat} (h : i < l.length) : ∃ hl : i < (toI l).length, (toI l)[i]'hl = (l[i] : Int) := ⟨by rw [toI_length]; exact h, by rw [toI_getElem]⟩
/-- What the insertion leaves. -/
def InsF (bo : Nat) (wP : World) (l2 : List (List Nat)) (w : World) : Prop := ∃ v2 w3, RowsF (fun k => k ≠ bo ∧ k < wP.heap.size) wP.heap.size w3 v2 l2 ∧ Below wP.heap.size wP w3 ∧ w = w3.setCell ⟨bo, 0, none⟩ v2
set_option maxRecDepth 100000 in
set_option maxHeartbeats 8000000 in
theorem search_leaf {d : Nat} {E : List (List Nat)} {bo : Nat} (gv va vb vo : Value) (b : List Nat) (L : List (List Nat)) (Wg w : World) (h : Grp d E) (h24 : E.length ≤ 24) (hg : RGI d E Wg gv) (hWg : Below Wg.heap.size Wg w) (hbo : Wg.heap.size ≤ bo)
    (hq1 : 0 < primeN E d) (hq2 : primeN E d < 62) (hb : b.length = (repsN E E.length).length) (hbq : ∀ x ∈ b, x < 62) (hbi : Fz (fun k => k ≠ bo) w vb (toI b)) (hbox : Held w bo 22 [vo]) (ho : OutI bo w vo L) (hlr : ∀ r ∈ L, r.length = (repsN E E.length).length)
    (hfew : (addR (primeN E d) E.length (szE E) (backC E) (ksE E) L b).length ≤ 1000) :
    Calls Tryz.prog 49 #[gv, va, vb, .pointer (some ⟨bo, 0, none⟩)] w fun e w' => e = .returned (.tuple #[]) ∧ ∃ vo', Held w' bo 22 [vo'] ∧ OutI bo w' vo' (addR (primeN E d) E.length (szE E) (backC E) (ksE E) L b) ∧ Sm (fun k => k ≠ bo) w w' := by
  have hg0 := hg
  obtain ⟨gL, gT, gB, oB, gC, gO, oO, cL, cT, cB, cC, cO, rfl, hro⟩ := hg.open h
  have HRO := Lib.hid hro
  have CN := Lib.hid (show ∀ (c k : Nat) (W : World), c < (repsN E E.length).length → Below Wg.heap.size Wg W → Calls Tryz.prog 87 #[.agg #[.slice (some ⟨gL, 0, none⟩) E.length cL, .slice (some ⟨gT, 0, none⟩) E.length cT, .slice (some ⟨gB, oB, none⟩) E.length cB, .slice (some ⟨gC, 0, none⟩) (repsN E E.length).length cC, .slice (some ⟨gO, oO, none⟩) E.length cO, .int .i64 (primeN E d : Nat)], .int .i64 (c : Nat), .int .i64 (k : Nat)] W fun e w' => ∃ v', e = .returned v' ∧ OwnI 3 W.heap.size w' v' (toI (cntsR E c k)) ∧ Below W.heap.size W w' from
    fun c k W hc hb => RCounts2_any _ c k W h h24 (hg0.below hb) hc)
  have OV := Lib.hid (show ∀ (a b : Int) (W : World), (-10000000 ≤ a ∧ a ≤ 10000000) → (-10000000 ≤ b ∧ b ≤ 10000000) → Calls Tryz.prog 62 #[.agg #[.slice (some ⟨gL, 0, none⟩) E.length cL, .slice (some ⟨gT, 0, none⟩) E.length cT, .slice (some ⟨gB, oB, none⟩) E.length cB, .slice (some ⟨gC, 0, none⟩) (repsN E E.length).length cC, .slice (some ⟨gO, oO, none⟩) E.length cO, .int .i64 (primeN E d : Nat)], .int .i64 a, .int .i64 b] W fun e w' => e = .returned (.int .i64 (ovR (primeN E d) a b : Nat)) ∧ Below W.heap.size W w' from
    fun a b W ha hb => ROver_any _ _ _ _ _ (primeN E d) a b W hq1 hq2 ha hb)
  have PR := Lib.hid (show ∀ (vf : Value) (F : List Int) (W : World), Below Wg.heap.size Wg W → FunQ (primeN E d) (repsN E E.length).length F → Ints W vf F → Calls Tryz.prog 34 #[.agg #[.slice (some ⟨gL, 0, none⟩) E.length cL, .slice (some ⟨gT, 0, none⟩) E.length cT, .slice (some ⟨gB, oB, none⟩) E.length cB, .slice (some ⟨gC, 0, none⟩) (repsN E E.length).length cC, .slice (some ⟨gO, oO, none⟩) E.length cO, .int .i64 (primeN E d : Nat)], vf, vf] W fun e w' => e = .returned (.int .i64 (prodR (primeN E d) E.length (szE E) (backC E) F F : Nat)) ∧ Below W.heap.size W w' from
    fun vf F W hb hF hi => RProduct_any _ vf vf F F W h h24 (hg0.below hb) hq1 hq2 hF hF hi hi)
  have HKE := Lib.hid (fun c k (hk : k < (repsN E E.length).length) => h.cnts_eq (c := c) hk)
  have HKS := Lib.hid (fun c hc => ksE_at (E := E) (c := c) hc)
  have hml := reps_len (E := E) E.length
  have HCL := Lib.hid (show (classesN E).length = (repsN E E.length).length by simp [classesN])
  have HKL := Lib.hid (fun c => constL_length (E := E) c)
  have HKR := Lib.hid (fun c => constL_row (E := E) c)
  have HKB := Lib.hid (fun c => constL_le (E := E) (c := c) h24)
  have HSZ := Lib.hid (fun k hk => szE_at (E := E) (k := k) hk)
  have HSZL := Lib.hid (szE_length (E := E))
  have HCLE := Lib.hid (fun D (hD : D ∈ classesN E) => (classes_len hD).1)
  have hm0 : 0 < (repsN E E.length).length := List.length_pos_of_mem (reps_mem.2 ⟨h.pos, first_iff.2 fun b hb => absurd hb (Nat.not_lt_zero _)⟩)
  obtain ⟨q, hq⟩ : ∃ q, primeN E d = q := ⟨_, rfl⟩
  rw [hq] at CN OV PR hq1 hq2 hfew ⊢
  obtain ⟨n, hn⟩ : ∃ n, E.length = n := ⟨_, rfl⟩
  have HN := Lib.hid hn
  obtain ⟨m, hmm⟩ : ∃ m, (repsN E E.length).length = m := ⟨_, rfl⟩
  rw [hmm, hn] at CN OV PR
  rw [hmm] at HKE HKS HCL HKL HKR HSZL hb hlr
  rw [hmm] at hml hm0
  rw [hn] at hml h24 hfew
  rw [hmm, hn]
  have HWG := Lib.hid hWg
  have HBO := Lib.hid hbo
  have HBL := Lib.hid hb
  have HBQ := Lib.hid hbq
  have HLR := Lib.hid hlr
  have HFEW := Lib.hid hfew
  have HBX := Lib.hid hbox
  have HOUT := Lib.hid ho
  have HVB := Lib.hid hbi
  have hvbi := hbi.ints
  obtain ⟨ab, cb, rfl, -, -, -⟩ := id hvbi
  rw [toI_length, hb] at HVB hvbi ⊢
  have HVI := Lib.hid hvbi
  have hq0 : ¬ (q : Int) = 0 := by omega
  have hq0' : ((q : Int) == 0) = false := by simp; omega
  have hqn : ¬ q = 0 := by omega
  have HQ1 := Lib.hid hq1
  have hbl := hbox.lt
  have hwsz := hWg.size
  obtain ⟨b1, o1, c1, e1, hb1, hc1⟩ := Ints.atI hvbi (i := 0) (by rw [toI_length, hb]; exact hm0)
  obtain ⟨rfl, -, -⟩ := Value.slice.inj e1
  have hb0e : (toI b)[0]'(by rw [toI_length, hb]; exact hm0) = ((b.getD 0 0 : Nat) : Int) := by
    rw [toI_getElem, List.getD_eq_getElem?_getD, List.getElem?_eq_getElem]; rfl
  rw [hb0e, Nat.add_zero] at hc1
  have HADN := Lib.hid (fun hx => addR_no (q := q) (nE := n) (sz := szE E) (bk := backC E) (ks := ksE E) (L := L) (b := b) hx)
  have HADY := Lib.hid (fun h1 h2 => addR_yes (q := q) (nE := n) (sz := szE E) (bk := backC E) (ks := ksE E) (L := L) (b := b) h1 h2)
  rw [HSZL.out] at HADN HADY
  obtain ⟨b0, hb0⟩ : ∃ x, b.getD 0 0 = x := ⟨_, rfl⟩
  rw [hb0] at hc1 HADN HADY
  have hmi : (0 : Int) < (m : Int) := by omega
  clear h hg hg0 hro hq hn hmm hq1 hWg hbo hb hbq hlr hfew hbox ho hbi hvbi e1 hb0e hb0
  unfold rgV
  go_enter Tryz.func49, Tryz.ntmps49
  have HX0 := Lib.hid (Held.new w 29 [.slice (some ⟨gL, 0, none⟩) n cL, .slice (some ⟨gT, 0, none⟩) n cT, .slice (some ⟨gB, oB, none⟩) n cB, .slice (some ⟨gC, 0, none⟩) m cC, .slice (some ⟨gO, oO, none⟩) n cO, .int .i64 (q : Nat)])
  have HB0 := Lib.hid (show Below w.heap.size w (w.alloc (.cells #[.slice (some ⟨gL, 0, none⟩) n cL, .slice (some ⟨gT, 0, none⟩) n cT, .slice (some ⟨gB, oB, none⟩) n cB, .slice (some ⟨gC, 0, none⟩) m cC, .slice (some ⟨gO, oO, none⟩) n cO, .int .i64 (q : Nat)] 29)) from (Below.refl _ _).alloc (Nat.le_refl _) _)
  go_upto_region 1 with (fail)
  obtain ⟨bx, hbx⟩ : ∃ x, w.heap.size = x := ⟨_, rfl⟩
  obtain ⟨W0, hW0⟩ : ∃ x, w.alloc (.cells #[.slice (some ⟨gL, 0, none⟩) n cL, .slice (some ⟨gT, 0, none⟩) n cT, .slice (some ⟨gB, oB, none⟩) n cB, .slice (some ⟨gC, 0, none⟩) m cC, .slice (some ⟨gO, oO, none⟩) n cO, .int .i64 (q : Nat)] 29) = x := ⟨_, rfl⟩
  rw [hbx] at HX0 hbl ⊢
  have HX1 := Lib.hid (show Held W0 bx 29 [.slice (some ⟨gL, 0, none⟩) n cL, .slice (some ⟨gT, 0, none⟩) n cT, .slice (some ⟨gB, oB, none⟩) n cB, .slice (some ⟨gC, 0, none⟩) m cC, .slice (some ⟨gO, oO, none⟩) n cO, .int .i64 (q : Nat)] by rw [← hW0]; exact HX0.out)
  rw [hW0] at HB0 ⊢
  clear hW0 HX0 hbx
  have HWG0 := Lib.hid (HWG.out.trans (HB0.out.mono hwsz))
  have HBX0 := Lib.hid (HBX.out.below HB0.out HBX.out.lt)
  have HOUT0 := Lib.hid (HOUT.out.kept (Sm.of_below HB0.out))
  have HVI0 := Lib.hid (HVI.out.below HB0.out)
  have hc10 : W0.cell? ⟨b1, o1, none⟩ = some (.int .i64 (b0 : Nat)) := (HB0.out.cell (p := ⟨b1, o1, none⟩) hb1).trans hc1
  have hw0 := HB0.out.size
  have hx3 := HX1.out.at (i := 3) rfl
  have hmm2 : ¬ (m : Int) < (m : Int) := by omega
  by_cases hb01 : b0 = 1
  · subst hb01
    have HADN0 := Lib.hid HADN.out
    clear hc1 HADN
    go_wp2_with fail
    go_loopw [57] (fun ix wr => ∃ c : Nat, c ≤ m ∧ ix = .int .i64 c ∧ okTo q m (ksE E) b c 0 ∧ Below W0.heap.size W0 wr) (fun ix _ => m - (intOf ix).toNat)
    case atStart => exact ⟨0, Nat.zero_le _, rfl, okTo.start _ _ _ _, Below.refl _ _⟩
    case round =>
      obtain ⟨c, hc, rfl, hok, hbc⟩ := hrel
      obtain ⟨wC, rfl⟩ : ∃ x, x = wr := ⟨_, rfl⟩
      have HOK := Lib.hid hok
      have HBC := Lib.hid hbc
      have hleC := hbc.size
      clear hok hbc
      by_cases hcm : c < m
      · have hci : (c : Int) < (m : Int) := by omega
        have hc0 : (0 : Int) ≤ (c : Int) := by omega
        have HKS1 := Lib.hid (HKS.out c hcm)
        go_wp2_with fail
        go_loopw [61] (fun ix wq => ∃ k : Nat, k ≤ m ∧ ix = .int .i64 k ∧ okTo q m (ksE E) b c k ∧ Below W0.heap.size W0 wq) (fun ix _ => m - (intOf ix).toNat)
        case atStart => exact ⟨0, Nat.zero_le _, rfl, HOK.out, HBC.out⟩
        case round =>
          obtain ⟨k, hk, rfl, hok, hbc⟩ := hrel
          obtain ⟨wK, rfl⟩ : ∃ x, x = wr := ⟨_, rfl⟩
          have HOK1 := Lib.hid hok
          have HBK := Lib.hid hbc
          have HBKW := Lib.hid (HB0.out.trans (hbc.mono hw0))
          have HWGK := Lib.hid (HWG0.out.trans (hbc.mono (by have := HWG0.out.size; omega)))
          have hleK := hbc.size
          clear hok hbc
          by_cases hkm : k < m
          · have hki : (k : Int) < (m : Int) := by omega
            have hk0 : (0 : Int) ≤ (k : Int) := by omega
            have hxA := HX1.out.below HBK.out HX1.out.lt
            have hx0 := hxA.at (i := 0) rfl
            have hx1 := hxA.at (i := 1) rfl
            have hx2 := hxA.at (i := 2) rfl
            have hx3' := hxA.at (i := 3) rfl
            have hx4 := hxA.at (i := 4) rfl
            have hx5 := hxA.at (i := 5) rfl
            have HE := Lib.hid (HKE.out c k hkm)
            have hkK : k < (constL E c).length := by rw [HKL.out]; exact hkm
            have hrl := HKR.out c _ (List.getElem_mem hkK)
            have HRB := Lib.hid (HKB.out c _ (List.getElem_mem hkK))
            have HMU := Lib.hid (show mulR (ksE E) b c k = dotI ((constL E c).getD k []) (toI b) - ((b.getD c 0 : Nat) : Int) * ((b.getD k 0 : Nat) : Int) by unfold mulR; rw [HKS1.out])
            rw [getD_at hkK] at HE HMU
            obtain ⟨R, hR⟩ : ∃ R, (constL E c)[k] = R := ⟨_, rfl⟩
            rw [hR] at HE HMU HRB hrl
            have HRL := Lib.hid hrl
            clear hxA hkK hrl hR
            go_upto_region 17 with (first
              | ((with_reducible refine is_load 29 ?_); refine wpl_load_rg (by rfl) _ (by rfl) bx [.slice (some ⟨gL, 0, none⟩) n cL, .slice (some ⟨gT, 0, none⟩) n cT, .slice (some ⟨gB, oB, none⟩) n cB, .slice (some ⟨gC, 0, none⟩) m cC, .slice (some ⟨gO, oO, none⟩) n cO, .int .i64 (q : Nat)] rfl (by rfl) (HX1.out.below HBK.out HX1.out.lt) ?_)
              | (go_at_call 87; refine (CN.out c k _ hcm HWGK.out).mono ?_; rintro e w2 ⟨v', rfl, ho2, hb2⟩; rw [HE.out] at ho2; have HRI := Lib.hid (ho2.ints (by rw [HRL.out]; omega)); obtain ⟨aR, cR, rfl⟩ := OwnI.form ho2; rw [HRL.out] at HRI ⊢; have HB2 := Lib.hid (HBK.out.trans (hb2.mono hleK)); clear ho2 hb2))
            have hbe : ∀ x ∈ toI b, 0 ≤ x ∧ x ≤ 62 := fun x hx => by
              obtain ⟨y, hy, rfl⟩ := List.mem_map.1 hx
              have := HBQ.out y hy
              omega
            have HBE := Lib.hid hbe
            have hle2 := HB2.out.size
            have HVI2 := Lib.hid (HVI0.out.below HB2.out)
            clear hbe hx0 hx1 hx2 hx3' hx4 hx5
            go_loopw [13, 69] (fun s ix wz => ∃ e : Nat, e ≤ m ∧ ix = .int .i64 e ∧ s = .int .i64 (dotI (R.take e) ((toI b).take e)) ∧ wz = w2) (fun _ ix _ => m - (intOf ix).toNat)
            case atStart => exact ⟨0, Nat.zero_le _, rfl, by rw [List.take_zero, dotI_nil], rfl⟩
            case round =>
              obtain ⟨e, he, rfl, rfl, rfl⟩ := hrel
              obtain ⟨w2, rfl⟩ : ∃ x, x = wr := ⟨_, rfl⟩
              have hdl := dotI_le (a := 1000) (b := 62) (by omega) (by omega) (R.take e) ((toI b).take e) (fun x hx => HRB.out x (List.mem_of_mem_take hx)) (fun x hx => HBE.out x (List.mem_of_mem_take hx))
              have hdl2 : ((R.take e).length : Int) ≤ 24 := by rw [List.length_take]; omega
              have hdu : dotI (R.take e) ((toI b).take e) ≤ 1000 * 62 * 24 := Int.le_trans hdl.2 (Int.mul_le_mul_of_nonneg_left hdl2 (by omega))
              have hd0 := hdl.1
              clear hdl hdl2
              by_cases hem : e < m
              · have hei : (e : Int) < (m : Int) := by omega
                have heR : e < R.length := by rw [HRL.out]; exact hem
                have heb : e < (toI b).length := by rw [toI_length, HBL.out]; exact hem
                obtain ⟨bR, oR, cR', eR, -, hcR⟩ := Ints.atI HRI.out heR
                obtain ⟨rfl, -, -⟩ := Value.slice.inj eR
                obtain ⟨b2, o2, c2, e2, -, hcB⟩ := Ints.atI HVI2.out heb
                obtain ⟨rfl, rfl⟩ : b1 = b2 ∧ o1 = o2 := by have := (Value.slice.inj e2).1; simpa using this
                have HS := Lib.hid (dotI_take R (toI b) e heR heb)
                have h1 := HRB.out _ (List.getElem_mem heR)
                have h2 := HBE.out _ (List.getElem_mem heb)
                obtain ⟨x1, hx1⟩ : ∃ x, R[e] = x := ⟨_, rfl⟩
                obtain ⟨x2, hx2⟩ : ∃ x, (toI b)[e] = x := ⟨_, rfl⟩
                rw [hx1] at hcR HS h1
                rw [hx2] at hcB HS h2
                obtain ⟨s, hs⟩ : ∃ s, dotI (R.take e) ((toI b).take e) = s := ⟨_, rfl⟩
                rw [hs] at HS hd0 hdu ⊢
                have hp : 0 ≤ x1 * x2 ∧ x1 * x2 ≤ 1000 * 62 := ⟨Int.mul_nonneg h1.1 h2.1, Int.mul_le_mul h1.2 h2.2 h2.1 (by omega)⟩
                have w3 : IntKind.i64.wrap (x1 * x2) = x1 * x2 := IntWalk.i64_in _ (by omega)
                have w4 : IntKind.i64.wrap (s + x1 * x2) = s + x1 * x2 := IntWalk.i64_in _ (by omega)
                clear heR heb eR e2 hx1 hx2 hs
                go_wp2
                go_roundw
                case rel => exact ⟨e + 1, hem, by go_num, by rw [HS.out], trivial⟩
                case measure => simp [intOf]; omega
              · obtain rfl : e = m := by omega
                have hei : ¬ (e : Int) < (e : Int) := by omega
                have HTR := Lib.hid (show R.take e = R from List.take_of_length_le (by rw [HRL.out]; exact Nat.le_refl _))
                have HTB := Lib.hid (show (toI b).take e = toI b from List.take_of_length_le (by rw [toI_length, HBL.out]; exact Nat.le_refl _))
                rw [HTR.out, HTB.out] at hd0 hdu ⊢
                have hcb : c < (toI b).length := by rw [toI_length, HBL.out]; exact hcm
                have hkb : k < (toI b).length := by rw [toI_length, HBL.out]; exact hkm
                obtain ⟨b2, o2, c2, e2, -, hcC⟩ := Ints.atI HVI2.out hcb
                obtain ⟨rfl, rfl⟩ : b1 = b2 ∧ o1 = o2 := by have := (Value.slice.inj e2).1; simpa using this
                obtain ⟨b3, o3, c3, e3, -, hcK⟩ := Ints.atI HVI2.out hkb
                obtain ⟨rfl, rfl⟩ : b1 = b3 ∧ o1 = o3 := by have := (Value.slice.inj e3).1; simpa using this
                have h1 := HBE.out _ (List.getElem_mem hcb)
                have h2 := HBE.out _ (List.getElem_mem hkb)
                rw [← getD_at hcb 0, toI_getD] at hcC h1
                rw [← getD_at hkb 0, toI_getD] at hcK h2
                obtain ⟨x1, hx1⟩ : ∃ x, b.getD c 0 = x := ⟨_, rfl⟩
                obtain ⟨x2, hx2⟩ : ∃ x, b.getD k 0 = x := ⟨_, rfl⟩
                rw [hx1] at hcC h1 HMU
                rw [hx2] at hcK h2 HMU
                obtain ⟨s, hs⟩ : ∃ s, dotI R (toI b) = s := ⟨_, rfl⟩
                rw [hs] at HMU hd0 hdu ⊢
                have hp : 0 ≤ (x1 : Int) * (x2 : Int) ∧ (x1 : Int) * (x2 : Int) ≤ 62 * 62 := ⟨Int.mul_nonneg (by omega) (by omega), Int.mul_le_mul (by omega) (by omega) (by omega) (by omega)⟩
                have w3 : IntKind.i64.wrap ((x1 : Int) * (x2 : Int)) = (x1 : Int) * (x2 : Int) := IntWalk.i64_in _ (by omega)
                have w4 : IntKind.i64.wrap (s - (x1 : Int) * (x2 : Int)) = s - (x1 : Int) * (x2 : Int) := IntWalk.i64_in _ (by omega)
                have hx5 := (HX1.out.below HB2.out HX1.out.lt).at (i := 5) rfl
                have hts := tmod_small (s - (x1 : Int) * (x2 : Int)) q HQ1.out hq2
                obtain ⟨t, ht⟩ : ∃ t, (s - (x1 : Int) * (x2 : Int)).tmod q = t := ⟨_, rfl⟩
                have HT := Lib.hid (show (mulR (ksE E) b c k).tmod q = t by rw [HMU.out]; exact ht)
                clear hcb hkb e2 e3 hx1 hx2 hs
                by_cases ht0 : t = 0
                · have HN2 := Lib.hid (HOK1.out.next (HT.out.trans ht0))
                  subst ht0
                  go_wp2_with fail
                  go_quiet (fail)
                  go_wp2
                  go_roundw
                  case rel => exact ⟨k + 1, hkm, by go_num, HN2.out, below_drewN HB2.out _⟩
                  case measure => simp [intOf]; omega
                · have htb : (t != 0) = true := by simpa using ht0
                  have HR := Lib.hid (HADN0.out (.inr (okR_no hcm hkm (fun e0 => ht0 (HT.out.symm.trans e0)))))
                  go_wp2_with fail
                  go_quiet (fail)
                  go_wp2
                  (try simp only [Exit.inBlock, Exit.then])
                  refine bodyPost_ret (results_none rfl _ _ _) rfl ?_
                  have hbz := HB0.out.trans ((below_drewN HB2.out nq).mono hw0)
                  exact ⟨rfl, _, HBX.out.below hbz HBX.out.lt, by rw [HR.out]; exact HOUT.out.kept (Sm.of_below hbz), Sm.of_below hbz⟩
          · obtain rfl : k = m := by omega
            have hki : ¬ (k : Int) < (k : Int) := by omega
            have HOKN := Lib.hid HOK1.out.row
            go_wp2
            go_roundw
            case rel => exact ⟨c + 1, hcm, by go_num, HOKN.out, HBK.out⟩
            case measure => simp [intOf]; omega
      · obtain rfl : m = c := by omega
        have hci : ¬ (m : Int) < (m : Int) := by omega
        have HAD := Lib.hid (HADY.out (by simp) (okTo.done HOK.out))
        have HVB0 := Lib.hid (HVB.out.kept (Sm.of_below HB0.out))
        have HSMC := Lib.hid (show Sm (fun k => k ≠ bo) W0 wC from Sm.of_below HBC.out)
        have HBXC := Lib.hid (HBX0.out.below HBC.out HBX0.out.lt)
        have HOUTC := Lib.hid (HOUT0.out.kept HSMC.out)
        go_upto_region 24 with (fail)
        go_wp2_with fail
        go_loopw [16] (fun dx wr => ∃ (dd : Nat) (vo' : Value), dd ≤ 4 ∧ dx = .int .i64 ((dd + 1 : Nat) : Int) ∧ Held wr bo 22 [vo'] ∧ OutI bo wr vo' (degR q n (szE E) (backC E) b dd L) ∧ Sm (fun k => k ≠ bo) W0 wr) (fun dx _ => 10 - (intOf dx).toNat)
        case atStart => exact ⟨0, vo, by omega, rfl, HBXC.out, HOUTC.out, HSMC.out⟩
        case round =>
          clear HBXC HOUTC HSMC
          obtain ⟨dd, vo', hdd, rfl, hbx', ho', hsm⟩ := hrel
          obtain ⟨wD, rfl⟩ : ∃ x, x = wr := ⟨_, rfl⟩
          have HBXD := Lib.hid hbx'
          have HOD := Lib.hid ho'
          have HSM := Lib.hid hsm
          have HWD := Lib.hid (hsm.below HWG0.out HBO.out HWG0.out.size)
          have HXD := Lib.hid (HX1.out.sm hsm (by omega))
          have HVD := Lib.hid (HVB0.out.kept hsm)
          have hleD := hsm.size
          clear hbx' ho' hsm
          obtain ⟨D, hD⟩ : ∃ D, dd + 1 = D := ⟨_, rfl⟩
          have HD := Lib.hid hD
          rw [hD]
          have hD5 : D ≤ 5 := by omega
          have hD0 : 1 ≤ D := by omega
          clear hD
          have hDD : (D : Int) * (D : Int) = ((D * D : Nat) : Int) := by rw [Int.natCast_mul]
          have hD25 : D * D ≤ 25 := Nat.mul_le_mul hD5 hD5
          have wD1 : IntKind.i64.wrap ((D : Int) * (D : Int)) = (D : Int) * (D : Int) := IntWalk.i64_in _ (by rw [hDD]; omega)
          have hx0 := HXD.out.at (i := 0) rfl
          by_cases hdn : D * D ≤ n
          · have hdni : (D : Int) * (D : Int) ≤ (n : Int) := by rw [hDD]; omega
            have hD4 : D ≤ 4 := by
              rcases Nat.lt_or_ge 4 D with hh | hh
              · have := Nat.mul_le_mul hh hh; omega
              · exact hh
            have HDN := Lib.hid (show (dd + 1) * (dd + 1) ≤ n by rw [HD.out]; exact hdn)
            clear hDD hdn hD25
            go_wp2_with fail
            go_loopw [17, 111] (fun vf ix wq => ∃ j : Nat, j ≤ m ∧ ix = .int .i64 j ∧ OwnI 3 wD.heap.size wq vf (toI ((fR q (szE E) b D).take j)) ∧ Below wD.heap.size wD wq) (fun _ ix _ => m - (intOf ix).toNat)
            case atStart => exact ⟨0, Nat.zero_le _, rfl, OwnI.nil _ _ _, Below.refl _ _⟩
            case round =>
              obtain ⟨j, hj, rfl, ho, hb⟩ := hrel
              obtain ⟨wF, rfl⟩ : ∃ x, x = wr := ⟨_, rfl⟩
              have HO := Lib.hid ho
              have HBF := Lib.hid hb
              have hleF := hb.size
              have HWF := Lib.hid (HWD.out.trans (hb.mono HWD.out.size))
              have hxF := HXD.out.below hb HXD.out.lt
              obtain ⟨aF, nF, cF, rfl⟩ := own_form ho
              clear ho hb
              by_cases hjm : j < m
              · have hji : (j : Int) < (m : Int) := by omega
                have hj0 : (0 : Int) ≤ (j : Int) := by omega
                have hjb : j < b.length := by rw [HBL.out]; exact hjm
                have hjs : j < (szE E).length := by rw [HSZL.out]; exact hjm
                have hjC : j < (classesN E).length := by rw [HCL.out]; exact hjm
                obtain ⟨aU, cU, hrow⟩ := HRO.out.cls j hjC
                have hcU := (hrow wF HWF.out).1
                have hzl := HCLE.out _ (List.getElem_mem hjC)
                have hsz := HSZ.out j hjC
                rw [getD_at hjs] at hsz
                have HFT := Lib.hid (fR_take (q := q) (d := D) hjb hjs)
                rw [hsz] at HFT
                obtain ⟨b2, o2, c2, e2, hb2l, hcX⟩ := Ints.atN (HVD.out.ints.below HBF.out) hjb
                obtain ⟨rfl, rfl⟩ : b1 = b2 ∧ o1 = o2 := by have := (Value.slice.inj e2).1; simpa using this
                have hbx2 := HBQ.out _ (List.getElem_mem hjb)
                obtain ⟨x, hx⟩ : ∃ x, b[j] = x := ⟨_, rfl⟩
                obtain ⟨z, hz⟩ : ∃ z, ((classesN E)[j]).length = z := ⟨_, rfl⟩
                rw [hx] at hcX HFT hbx2
                rw [hz] at hcU HFT hzl
                rw [HN.out] at hzl
                have hDx : (D : Int) * (x : Int) = ((D * x : Nat) : Int) := by rw [Int.natCast_mul]
                have hDx2 : D * x ≤ 4 * 62 := Nat.mul_le_mul hD4 (by omega)
                have w5 : IntKind.i64.wrap ((D : Int) * (x : Int)) = (D : Int) * (x : Int) := IntWalk.i64_in _ (by rw [hDx]; omega)
                have O1 := Lib.hid (fun (W : World) => OV.out ((D : Int) * (x : Int)) (z : Int) W (by rw [hDx]; omega) (by omega))
                obtain ⟨f, hf⟩ : ∃ f, ovR q ((D : Int) * (x : Int)) (z : Int) = f := ⟨_, rfl⟩
                rw [hf] at O1 HFT
                have hx0' := hxF.at (i := 0) rfl
                have hx1' := hxF.at (i := 1) rfl
                have hx2' := hxF.at (i := 2) rfl
                have hx3' := hxF.at (i := 3) rfl
                have hx4' := hxF.at (i := 4) rfl
                have hx5' := hxF.at (i := 5) rfl
                have HLT := Lib.hid (show (toI ((fR q (szE E) b D).take j)).length < 1000000 by rw [toI_length, List.length_take]; omega)
                clear hjb hjs hjC hrow hsz e2 hx hz hDx hDx2 hf hb2l
                go_upto_region 31 with (fail)
                go_region_law (first
                  | (refine step_call (by rfl) 62 #[.agg #[.slice (some ⟨gL, 0, none⟩) n cL, .slice (some ⟨gT, 0, none⟩) n cT, .slice (some ⟨gB, oB, none⟩) n cB, .slice (some ⟨gC, 0, none⟩) m cC, .slice (some ⟨gO, oO, none⟩) n cO, .int .i64 (q : Nat)], .int .i64 ((D : Int) * (x : Int)), .int .i64 (z : Nat)] ?hr (O1.out _) ?_; (case hr => go_simp); rintro e w6 ⟨rfl, hb6⟩; refine ⟨_, rfl, ?_⟩; have HB6 := Lib.hid (show Below wF.heap.size wF w6 from ((Below.refl _ _).drew).trans hb6); clear hb6)
                  | (refine step_app1_at (by rfl) (.tmp 116) (.tmp 128) (by rfl) wD.heap.size (.slice aF nF cF) (toI ((fR q (szE E) b D).take j)) ((f : Nat) : Int) (by rfl) ((HO.out.below HB6.out).alloc _) ⟨w6.heap.size, 0, none⟩ 1 (by rfl) (cell_new1 _ _ _) HLT.out (by have := HB6.out.size; simp; omega) ?_; intro v9 w9 ho9 hg9 hl9; have HO9 := Lib.hid ho9; have HB9 := Lib.hid (((HBF.out.trans (HB6.out.mono hleF)).alloc (by have := HB6.out.size; omega) _).grown hg9 (by have := HB6.out.size; simp; omega) (fun j hj => (HO.out.lt j hj).1)); clear ho9 hg9 hl9))
                all_goals
                  go_wp2
                  go_roundw
                  case rel => exact ⟨j + 1, hjm, by go_num, by rw [HFT.out]; exact HO9.out, HB9.out⟩
                  case measure => simp [intOf]; omega
              · obtain rfl : m = j := by omega
                have hji : ¬ (m : Int) < (m : Int) := by omega
                have HFF := Lib.hid (show (fR q (szE E) b D).take m = fR q (szE E) b D from List.take_of_length_le (by rw [fR_length (by rw [HBL.out, HSZL.out]), HSZL.out]; exact Nat.le_refl _))
                have HFL := Lib.hid (show (fR q (szE E) b D).length = m by rw [fR_length (by rw [HBL.out, HSZL.out]), HSZL.out])
                have HFQ := Lib.hid (show FunQ q m (toI (fR q (szE E) b D)) from ⟨by rw [toI_length]; exact HFL.out, fR_lt HQ1.out⟩)
                have HDY := Lib.hid (fun hp => degR_yes (q := q) (sz := szE E) (bk := backC E) (b := b) (L := L) HDN.out hp)
                have HDNO := Lib.hid (fun hp => degR_no (q := q) (nE := n) (sz := szE E) (bk := backC E) (b := b) (L := L) (d := dd) (.inr hp))
                rw [HD.out] at HDY HDNO
                have ho := HO.out
                rw [HFF.out] at ho
                obtain ⟨F, hF⟩ : ∃ F, fR q (szE E) b D = F := ⟨_, rfl⟩
                rw [hF] at HFF HFL HFQ HDY HDNO ho
                obtain ⟨a', c', e'⟩ := OwnI.form ho
                rw [toI_length, HFL.out] at e'
                obtain ⟨rfl, rfl, rfl⟩ := Value.slice.inj e'
                have HFO := Lib.hid ho
                have HFI := Lib.hid (ho.ints (by rw [toI_length, HFL.out]; omega))
                have P1 := Lib.hid (PR.out _ (toI F) wF HWF.out HFQ.out HFI.out)
                obtain ⟨pr, hpr⟩ : ∃ p, prodR q n (szE E) (backC E) (toI F) (toI F) = p := ⟨_, rfl⟩
                rw [hpr] at P1 HDY HDNO
                have hx0' := hxF.at (i := 0) rfl
                have hx1' := hxF.at (i := 1) rfl
                have hx2' := hxF.at (i := 2) rfl
                have hx3' := hxF.at (i := 3) rfl
                have hx4' := hxF.at (i := 4) rfl
                have hx5' := hxF.at (i := 5) rfl
                have HBXF := Lib.hid (HBXD.out.below HBF.out HBXD.out.lt)
                have HSMF := Lib.hid (HSM.out.trans (Sm.of_below HBF.out))
                have HODF := Lib.hid (HOD.out.kept (Sm.of_below HBF.out))
                clear ho e' hF hpr HO HFF
                by_cases hp1 : pr = 1
                · have HDY2 := Lib.hid (HDY.out hp1)
                  subst hp1
                  clear HDY HDNO
                  go_upto_region 34 with (first
                    | ((with_reducible refine is_load 29 ?_); refine wpl_load_rg (by rfl) _ (by rfl) bx [.slice (some ⟨gL, 0, none⟩) n cL, .slice (some ⟨gT, 0, none⟩) n cT, .slice (some ⟨gB, oB, none⟩) n cB, .slice (some ⟨gC, 0, none⟩) m cC, .slice (some ⟨gO, oO, none⟩) n cO, .int .i64 (q : Nat)] rfl (by rfl) hxF ?_)
                    | (go_at_call 34; refine P1.out.mono ?_; rintro e wP ⟨rfl, hbP⟩; have HBP := Lib.hid hbP; clear hbP))
                  have HBXP := Lib.hid (HBXF.out.below HBP.out HBXF.out.lt)
                  have HSMP := Lib.hid (HSMF.out.trans (Sm.of_below HBP.out))
                  have HODP := Lib.hid (HODF.out.kept (Sm.of_below HBP.out))
                  have HFOP := Lib.hid (HFO.out.below HBP.out)
                  have HGE := Lib.hid (show bo < wD.heap.size from HBXD.out.lt)
                  have HU := Lib.hid (show Fz (fun k => k ≠ bo ∧ k < wP.heap.size) wP (.slice aF nF cF) (toI F) from OwnI.fz HFOP.out (by rw [toI_length, HFL.out]; omega) (fun k hk => by have hk1 := World.ownsRow.lt HFOP.out k hk; have hk2 := HGE.out; exact ⟨by omega, hk1.2⟩))
                  have HLSD := Lib.hid (degR_rows (q := q) (nE := n) (bk := backC E) (by rw [HBL.out, HSZL.out]) HSZL.out HLR.out dd)
                  have HLEN := Lib.hid (show (degR q n (szE E) (backC E) b dd L).length + 1 ≤ 1000 by
                    have h1 := HFEW.out
                    have h2 : degR q n (szE E) (backC E) b D L = degR q n (szE E) (backC E) b (dd + 1) L := by rw [HD.out]
                    have h3 := congrArg List.length HDY2.out
                    rw [insP_length] at h3
                    have h4 : (degR q n (szE E) (backC E) b D L).length ≤ (addR q n (szE E) (backC E) (ksE E) L b).length := by
                      rw [HAD.out]
                      exact degR_mono b L (by omega)
                    omega)
                  obtain ⟨ls, hls⟩ : ∃ ls, degR q n (szE E) (backC E) b dd L = ls := ⟨_, rfl⟩
                  rw [hls] at HODP HDY2 HLSD HLEN
                  clear hx0' hx1' hx2' hx3' hx4' hx5' P1 hls
                  rcases HODP.out with ⟨hls0, hv0⟩ | ⟨hpos, hrow, hown⟩
                  · subst hls0
                    subst hv0
                    have HI0 := Lib.hid (show degR q n (szE E) (backC E) b D L = [F] by rw [HDY2.out]; rfl)
                    have hcb := HBXP.out.at (i := 0) rfl
                    have hcb1 := fun o => (HBXP.out.alloc o).at (i := 0) rfl
                    have hcb2 := fun o o' => ((HBXP.out.alloc o).alloc o').at (i := 0) rfl
                    have hki0 : ¬ ((0 : Nat) : Int) < 0 := by omega
                    clear HODP
                    go_wp2_with fail
                    go_loop [20] (fun at' => at' = .int .i64 0) (fun _ => 0)
                    case atStart => rfl
                    case round =>
                      subst hrel
                      go_upto_region 37 with (fail)
                      refine wp_region_mem (by kernel_rfl) [154, 155, 156, 157, 158, 159, 160, 161, 162, 163, 164, 165, 166, 167, 168, 169, 170, 171] (by kernel_rfl) (by kernel_rfl) (fun i => match i with | 0 => some (.pointer (some ⟨bo, 0, none⟩)) | 2 => some (.pointer (some ⟨bo, 0, none⟩)) | 3 => some (.pointer (some ⟨bo, 0, none⟩)) | 4 => some (.slice none 0 0) | 5 => some (.int .i64 0) | 6 => some (.slice none 0 0) | 8 => some (.slice aF nF cF) | 11 => some (.pointer (some ⟨bo, 0, none⟩)) | 12 => some (.pointer (some ⟨bo, 0, none⟩)) | 13 => some (.slice none 0 0) | 14 => some (.int .i64 0) | 15 => some (.slice none 0 0) | 17 => some (.pointer (some ⟨bo, 0, none⟩)) | _ => none) (fun d y w => (d 18 = false → InsM (fun k => k ≠ bo ∧ k < wP.heap.size) wP (.slice aF nF cF) ([]) ([F]) ([F]) (d 1) (d 7) (d 9) (d 10) (d 16) (y 155) (y 161) (y 163) (y 164) (y 170) w) ∧ (d 18 = true → InsF bo wP ([F]) w)) ?_ ?_ ?_ ?_ ?_
                      · exact ⟨fun _ => InsM.start _ _ _ _ _, fun h => (by cases h)⟩
                      · intro i o v ho hv d y wx hdi hcl hd hcst hM
                        match i, ho, hv, hdi with
                        | 0, ho, hv, _ =>
                          obtain rfl := Option.some.inj ho
                          obtain rfl : .pointer (some ⟨bo, 0, none⟩) = v := Option.some.inj hv
                          refine rstep_value rfl (v := .pointer (some ⟨bo, 0, none⟩)) (w' := wx) ?_ ⟨rfl, rfl⟩
                          · simp only [hole, List.foldl_cons, List.foldl_nil, List.setIfInBounds_toArray, List.set_cons_zero, List.set_cons_succ]
                            go_simp
                        | 1, _, hv, _ => exact absurd hv (by simp)
                        | 2, ho, hv, _ =>
                          obtain rfl := Option.some.inj ho
                          obtain rfl : .pointer (some ⟨bo, 0, none⟩) = v := Option.some.inj hv
                          refine rstep_value rfl (v := .pointer (some ⟨bo, 0, none⟩)) (w' := wx) ?_ ⟨rfl, rfl⟩
                          · simp only [hole, List.foldl_cons, List.foldl_nil, List.setIfInBounds_toArray, List.set_cons_zero, List.set_cons_succ]
                            go_simp
                        | 3, ho, hv, _ =>
                          obtain rfl := Option.some.inj ho
                          obtain rfl : .pointer (some ⟨bo, 0, none⟩) = v := Option.some.inj hv
                          have e156 : y 156 = .pointer (some ⟨bo, 0, none⟩) := hcst 2 _ _ (by kernel_rfl) rfl rfl
                          refine rstep_value rfl (v := .pointer (some ⟨bo, 0, none⟩)) (w' := wx) ?_ ⟨rfl, rfl⟩
                          · simp only [hole, List.foldl_cons, List.foldl_nil, List.setIfInBounds_toArray, List.set_cons_zero, List.set_cons_succ]
                            go_simp
                        | 4, ho, hv, hdi =>
                          obtain rfl := Option.some.inj ho
                          obtain rfl : .slice none 0 0 = v := Option.some.inj hv
                          have e157 : y 157 = .pointer (some ⟨bo, 0, none⟩) := hcst 3 _ _ (by kernel_rfl) rfl rfl
                          have n18 : d 18 = false := Bool.eq_false_iff.2 fun h => by have h2 := hcl 18 4 (by kernel_rfl) h; rw [hdi] at h2; cases h2
                          have c0 := (HBXP.out.below ((hM.1 n18).low) HBXP.out.lt).at (i := 0) rfl
                          refine rstep_value rfl (v := .slice none 0 0) (w' := wx) ?_ ⟨rfl, rfl⟩
                          · simp only [hole, List.foldl_cons, List.foldl_nil, List.setIfInBounds_toArray, List.set_cons_zero, List.set_cons_succ]
                            go_simp
                        | 5, ho, hv, _ =>
                          obtain rfl := Option.some.inj ho
                          obtain rfl : .int .i64 0 = v := Option.some.inj hv
                          refine rstep_value rfl (v := .int .i64 0) (w' := wx) ?_ ⟨rfl, rfl⟩
                          · simp only [hole, List.foldl_cons, List.foldl_nil, List.setIfInBounds_toArray, List.set_cons_zero, List.set_cons_succ]
                            go_simp
                        | 6, ho, hv, _ =>
                          obtain rfl := Option.some.inj ho
                          obtain rfl : .slice none 0 0 = v := Option.some.inj hv
                          have e158 : y 158 = .slice none 0 0 := hcst 4 _ _ (by kernel_rfl) rfl rfl
                          have e159 : y 159 = .int .i64 0 := hcst 5 _ _ (by kernel_rfl) rfl rfl
                          refine rstep_value rfl (v := .slice none 0 0) (w' := wx) ?_ ⟨rfl, rfl⟩
                          · simp only [hole, List.foldl_cons, List.foldl_nil, List.setIfInBounds_toArray, List.set_cons_zero, List.set_cons_succ]
                            go_simp
                        | 7, _, hv, _ => exact absurd hv (by simp)
                        | 8, ho, hv, _ =>
                          obtain rfl := Option.some.inj ho
                          obtain rfl : .slice aF nF cF = v := Option.some.inj hv
                          refine rstep_value rfl (v := .slice aF nF cF) (w' := wx) ?_ ⟨rfl, rfl⟩
                          · simp only [hole, List.foldl_cons, List.foldl_nil, List.setIfInBounds_toArray, List.set_cons_zero, List.set_cons_succ]
                            go_simp
                        | 9, _, hv, _ => exact absurd hv (by simp)
                        | 10, _, hv, _ => exact absurd hv (by simp)
                        | 11, ho, hv, _ =>
                          obtain rfl := Option.some.inj ho
                          obtain rfl : .pointer (some ⟨bo, 0, none⟩) = v := Option.some.inj hv
                          refine rstep_value rfl (v := .pointer (some ⟨bo, 0, none⟩)) (w' := wx) ?_ ⟨rfl, rfl⟩
                          · simp only [hole, List.foldl_cons, List.foldl_nil, List.setIfInBounds_toArray, List.set_cons_zero, List.set_cons_succ]
                            go_simp
                        | 12, ho, hv, _ =>
                          obtain rfl := Option.some.inj ho
                          obtain rfl : .pointer (some ⟨bo, 0, none⟩) = v := Option.some.inj hv
                          have e165 : y 165 = .pointer (some ⟨bo, 0, none⟩) := hcst 11 _ _ (by kernel_rfl) rfl rfl
                          refine rstep_value rfl (v := .pointer (some ⟨bo, 0, none⟩)) (w' := wx) ?_ ⟨rfl, rfl⟩
                          · simp only [hole, List.foldl_cons, List.foldl_nil, List.setIfInBounds_toArray, List.set_cons_zero, List.set_cons_succ]
                            go_simp
                        | 13, ho, hv, hdi =>
                          obtain rfl := Option.some.inj ho
                          obtain rfl : .slice none 0 0 = v := Option.some.inj hv
                          have e166 : y 166 = .pointer (some ⟨bo, 0, none⟩) := hcst 12 _ _ (by kernel_rfl) rfl rfl
                          have n18 : d 18 = false := Bool.eq_false_iff.2 fun h => by have h2 := hcl 18 13 (by kernel_rfl) h; rw [hdi] at h2; cases h2
                          have c0 := (HBXP.out.below ((hM.1 n18).low) HBXP.out.lt).at (i := 0) rfl
                          refine rstep_value rfl (v := .slice none 0 0) (w' := wx) ?_ ⟨rfl, rfl⟩
                          · simp only [hole, List.foldl_cons, List.foldl_nil, List.setIfInBounds_toArray, List.set_cons_zero, List.set_cons_succ]
                            go_simp
                        | 14, ho, hv, _ =>
                          obtain rfl := Option.some.inj ho
                          obtain rfl : .int .i64 0 = v := Option.some.inj hv
                          refine rstep_value rfl (v := .int .i64 0) (w' := wx) ?_ ⟨rfl, rfl⟩
                          · simp only [hole, List.foldl_cons, List.foldl_nil, List.setIfInBounds_toArray, List.set_cons_zero, List.set_cons_succ]
                            go_simp
                        | 15, ho, hv, _ =>
                          obtain rfl := Option.some.inj ho
                          obtain rfl : .slice none 0 0 = v := Option.some.inj hv
                          have e167 : y 167 = .slice none 0 0 := hcst 13 _ _ (by kernel_rfl) rfl rfl
                          have e168 : y 168 = .int .i64 0 := hcst 14 _ _ (by kernel_rfl) rfl rfl
                          refine rstep_value rfl (v := .slice none 0 0) (w' := wx) ?_ ⟨rfl, rfl⟩
                          · simp only [hole, List.foldl_cons, List.foldl_nil, List.setIfInBounds_toArray, List.set_cons_zero, List.set_cons_succ]
                            go_simp
                        | 16, _, hv, _ => exact absurd hv (by simp)
                        | 17, ho, hv, _ =>
                          obtain rfl := Option.some.inj ho
                          obtain rfl : .pointer (some ⟨bo, 0, none⟩) = v := Option.some.inj hv
                          have e154 : y 154 = .pointer (some ⟨bo, 0, none⟩) := hcst 0 _ _ (by kernel_rfl) rfl rfl
                          refine rstep_value rfl (v := .pointer (some ⟨bo, 0, none⟩)) (w' := wx) ?_ ⟨rfl, rfl⟩
                          · simp only [hole, List.foldl_cons, List.foldl_nil, List.setIfInBounds_toArray, List.set_cons_zero, List.set_cons_succ]
                            go_simp
                        | 18, _, hv, _ => exact absurd hv (by simp)
                        | _ + 19, ho, _, _ => exact absurd ho (by simp)
                      · intro i o v ho hv d y wx hM
                        match i, ho, hv with
                        | 0, ho, _ =>
                          obtain rfl := Option.some.inj ho
                          exact hM
                        | 1, _, hv => exact absurd hv (by simp)
                        | 2, ho, _ =>
                          obtain rfl := Option.some.inj ho
                          exact hM
                        | 3, ho, _ =>
                          obtain rfl := Option.some.inj ho
                          exact hM
                        | 4, ho, _ =>
                          obtain rfl := Option.some.inj ho
                          exact hM
                        | 5, ho, _ =>
                          obtain rfl := Option.some.inj ho
                          exact hM
                        | 6, ho, _ =>
                          obtain rfl := Option.some.inj ho
                          exact hM
                        | 7, _, hv => exact absurd hv (by simp)
                        | 8, ho, _ =>
                          obtain rfl := Option.some.inj ho
                          exact hM
                        | 9, _, hv => exact absurd hv (by simp)
                        | 10, _, hv => exact absurd hv (by simp)
                        | 11, ho, _ =>
                          obtain rfl := Option.some.inj ho
                          exact hM
                        | 12, ho, _ =>
                          obtain rfl := Option.some.inj ho
                          exact hM
                        | 13, ho, _ =>
                          obtain rfl := Option.some.inj ho
                          exact hM
                        | 14, ho, _ =>
                          obtain rfl := Option.some.inj ho
                          exact hM
                        | 15, ho, _ =>
                          obtain rfl := Option.some.inj ho
                          exact hM
                        | 16, _, hv => exact absurd hv (by simp)
                        | 17, ho, _ =>
                          obtain rfl := Option.some.inj ho
                          exact hM
                        | 18, _, hv => exact absurd hv (by simp)
                        | _ + 19, ho, _ => exact absurd ho (by simp)
                      · intro i o ho hv d y wx hdi hcl hd hcst hM
                        match i, ho, hv, hdi with
                        | 0, _, hv, _ => exact absurd hv (by simp)
                        | 1, ho, _, hdi =>
                          obtain rfl := Option.some.inj ho
                          have n7 : d 7 = false := Bool.eq_false_iff.2 fun h => by have h2 := hcl 7 1 (by kernel_rfl) h; rw [hdi] at h2; cases h2
                          have n10 : d 10 = false := Bool.eq_false_iff.2 fun h => by have h2 := hcl 10 7 (by kernel_rfl) h; rw [n7] at h2; cases h2
                          have n16 : d 16 = false := Bool.eq_false_iff.2 fun h => by have h2 := hcl 16 10 (by kernel_rfl) h; rw [n10] at h2; cases h2
                          have n18 : d 18 = false := Bool.eq_false_iff.2 fun h => by have h2 := hcl 18 1 (by kernel_rfl) h; rw [hdi] at h2; cases h2
                          refine rstep_value rfl (v := .slice (some ⟨wx.heap.size, 0, none⟩) 0 0) (w' := wx.alloc (.cells #[] 27)) ?_ ⟨fun _ => (hM.1 n18).allocA n7 n10 n16, fun h => absurd (show d 18 = true from h) (by rw [n18]; simp)⟩
                          · simp only [hole, List.foldl_cons, List.foldl_nil, List.setIfInBounds_toArray, List.set_cons_zero, List.set_cons_succ]
                            go_simp
                        | 2, _, hv, _ => exact absurd hv (by simp)
                        | 3, _, hv, _ => exact absurd hv (by simp)
                        | 4, _, hv, _ => exact absurd hv (by simp)
                        | 5, _, hv, _ => exact absurd hv (by simp)
                        | 6, _, hv, _ => exact absurd hv (by simp)
                        | 7, ho, _, hdi =>
                          obtain rfl := Option.some.inj ho
                          have e160 : y 160 = .slice none 0 0 := hcst 6 _ _ (by kernel_rfl) rfl rfl
                          have d1 : d 1 = true := hd 1 (by kernel_rfl)
                          have n10 : d 10 = false := Bool.eq_false_iff.2 fun h => by have h2 := hcl 10 7 (by kernel_rfl) h; rw [hdi] at h2; cases h2
                          have n16 : d 16 = false := Bool.eq_false_iff.2 fun h => by have h2 := hcl 16 10 (by kernel_rfl) h; rw [n10] at h2; cases h2
                          have n18 : d 18 = false := Bool.eq_false_iff.2 fun h => by have h2 := hcl 18 7 (by kernel_rfl) h; rw [hdi] at h2; cases h2
                          have hm := hM.1 n18
                          obtain ⟨hrA, g, e155⟩ := hm.a d1 hdi
                          refine rstep_value rfl (v := y 155) (w' := wx) ?_ ⟨fun _ => hm.app0n d1 hdi n10 n16, fun h => absurd (show d 18 = true from h) (by rw [n18]; simp)⟩
                          · simp only [hole, List.foldl_cons, List.foldl_nil, List.setIfInBounds_toArray, List.set_cons_zero, List.set_cons_succ]
                            simp [execOp, resolve, invoke, builtin, Act.eval, e155, e160, Result.andThen]
                            rw [run_none wx (Nat.le_refl _)]
                        | 8, _, hv, _ => exact absurd hv (by simp)
                        | 9, ho, _, hdi =>
                          obtain rfl := Option.some.inj ho
                          have e162 : y 162 = .slice aF nF cF := hcst 8 _ _ (by kernel_rfl) rfl rfl
                          have n10 : d 10 = false := Bool.eq_false_iff.2 fun h => by have h2 := hcl 10 9 (by kernel_rfl) h; rw [hdi] at h2; cases h2
                          have n16 : d 16 = false := Bool.eq_false_iff.2 fun h => by have h2 := hcl 16 10 (by kernel_rfl) h; rw [n10] at h2; cases h2
                          have n18 : d 18 = false := Bool.eq_false_iff.2 fun h => by have h2 := hcl 18 9 (by kernel_rfl) h; rw [hdi] at h2; cases h2
                          refine rstep_value rfl (v := .slice (some ⟨wx.heap.size, 0, none⟩) 1 1) (w' := wx.alloc (.cells #[.slice aF nF cF] 27)) ?_ ⟨fun _ => (hM.1 n18).allocB n10 n16, fun h => absurd (show d 18 = true from h) (by rw [n18]; simp)⟩
                          · simp only [hole, List.foldl_cons, List.foldl_nil, List.setIfInBounds_toArray, List.set_cons_zero, List.set_cons_succ]
                            go_simp
                        | 10, ho, _, hdi =>
                          obtain rfl := Option.some.inj ho
                          have d7 : d 7 = true := hd 7 (by kernel_rfl)
                          have d9 : d 9 = true := hd 9 (by kernel_rfl)
                          have n16 : d 16 = false := Bool.eq_false_iff.2 fun h => by have h2 := hcl 16 10 (by kernel_rfl) h; rw [hdi] at h2; cases h2
                          have n18 : d 18 = false := Bool.eq_false_iff.2 fun h => by have h2 := hcl 18 10 (by kernel_rfl) h; rw [hdi] at h2; cases h2
                          have hm := hM.1 n18
                          obtain ⟨g, e163, hgN, hh, -, -⟩ := hm.b d9 hdi
                          have hz := hm.z d7 hdi
                          obtain ⟨v', w', hrun, hr', hg', hl'⟩ := run_appF (ty := 22) hz (HU.out.kept (Sm.of_below hm.low)) hh (fun k hk e => by have h1 := (hz.own k e).1; have h2 := hk.2; omega) (by simp <;> omega) hm.low.size
                          refine rstep_value rfl (v := v') (w' := w') ?_ ⟨fun _ => hm.app1 d7 hdi n16 hr' hg', fun h => absurd (show d 18 = true from h) (by rw [n18]; simp)⟩
                          · simp only [hole, List.foldl_cons, List.foldl_nil, List.setIfInBounds_toArray, List.set_cons_zero, List.set_cons_succ]
                            simp [execOp, resolve, invoke, builtin, Act.eval, e163, Result.andThen]
                            rw [hrun]
                        | 11, _, hv, _ => exact absurd hv (by simp)
                        | 12, _, hv, _ => exact absurd hv (by simp)
                        | 13, _, hv, _ => exact absurd hv (by simp)
                        | 14, _, hv, _ => exact absurd hv (by simp)
                        | 15, _, hv, _ => exact absurd hv (by simp)
                        | 16, ho, _, hdi =>
                          obtain rfl := Option.some.inj ho
                          have e169 : y 169 = .slice none 0 0 := hcst 15 _ _ (by kernel_rfl) rfl rfl
                          have d10 : d 10 = true := hd 10 (by kernel_rfl)
                          have n18 : d 18 = false := Bool.eq_false_iff.2 fun h => by have h2 := hcl 18 16 (by kernel_rfl) h; rw [hdi] at h2; cases h2
                          have d7 : d 7 = true := hcl 10 7 (by kernel_rfl) d10
                          have hm := hM.1 n18
                          have ho := hm.o d10 hdi
                          obtain ⟨g, c, e164, hc1⟩ := rows_one1 ho
                          refine rstep_value rfl (v := y 164) (w' := wx) ?_ ⟨fun _ => hm.app2n d7 d10 hdi, fun h => absurd (show d 18 = true from h) (by rw [n18]; simp)⟩
                          · simp only [hole, List.foldl_cons, List.foldl_nil, List.setIfInBounds_toArray, List.set_cons_zero, List.set_cons_succ]
                            simp [execOp, resolve, invoke, builtin, Act.eval, e164, e169, Result.andThen]
                            rw [run_none wx hc1]
                        | 17, _, hv, _ => exact absurd hv (by simp)
                        | 18, ho, _, hdi =>
                          obtain rfl := Option.some.inj ho
                          have e171 : y 171 = .pointer (some ⟨bo, 0, none⟩) := hcst 17 _ _ (by kernel_rfl) rfl rfl
                          have d16 : d 16 = true := hd 16 (by kernel_rfl)
                          have hm := hM.1 hdi
                          have hr := hm.e d16
                          obtain ⟨a70, c70, e170⟩ := hr.form
                          have hb3 := HBXP.out.below hm.low HBXP.out.lt
                          have c0 := hb3.at (i := 0) rfl
                          have f0 := hb3.free 0
                          refine rstep_skip rfl (w' := wx.setCell ⟨bo, 0, none⟩ (y 170)) ?_ ⟨fun h => absurd (show (true || d 18) = false from h) (by simp), fun _ => ⟨y 170, wx, hr, hm.low, rfl⟩⟩
                          · simp only [hole, List.foldl_cons, List.foldl_nil, List.setIfInBounds_toArray, List.set_cons_zero, List.set_cons_succ]
                            rw [e170]
                            go_simp
                        | _ + 19, ho, _, _ => exact absurd ho (by simp)
                      · intro d y wx hd hcst hM
                        have e154 : y 154 = .pointer (some ⟨bo, 0, none⟩) := hcst 0 _ _ (by decide) rfl rfl
                        have d1 : d 1 = true := hd 1 (by decide)
                        have e156 : y 156 = .pointer (some ⟨bo, 0, none⟩) := hcst 2 _ _ (by decide) rfl rfl
                        have e157 : y 157 = .pointer (some ⟨bo, 0, none⟩) := hcst 3 _ _ (by decide) rfl rfl
                        have e158 : y 158 = .slice none 0 0 := hcst 4 _ _ (by decide) rfl rfl
                        have e159 : y 159 = .int .i64 0 := hcst 5 _ _ (by decide) rfl rfl
                        have e160 : y 160 = .slice none 0 0 := hcst 6 _ _ (by decide) rfl rfl
                        have d7 : d 7 = true := hd 7 (by decide)
                        have e162 : y 162 = .slice aF nF cF := hcst 8 _ _ (by decide) rfl rfl
                        have d9 : d 9 = true := hd 9 (by decide)
                        have d10 : d 10 = true := hd 10 (by decide)
                        have e165 : y 165 = .pointer (some ⟨bo, 0, none⟩) := hcst 11 _ _ (by decide) rfl rfl
                        have e166 : y 166 = .pointer (some ⟨bo, 0, none⟩) := hcst 12 _ _ (by decide) rfl rfl
                        have e167 : y 167 = .slice none 0 0 := hcst 13 _ _ (by decide) rfl rfl
                        have e168 : y 168 = .int .i64 0 := hcst 14 _ _ (by decide) rfl rfl
                        have e169 : y 169 = .slice none 0 0 := hcst 15 _ _ (by decide) rfl rfl
                        have d16 : d 16 = true := hd 16 (by decide)
                        have e171 : y 171 = .pointer (some ⟨bo, 0, none⟩) := hcst 17 _ _ (by decide) rfl rfl
                        have d18 : d 18 = true := hd 18 (by decide)
                        obtain ⟨v2, w3, hr3, hb3, rfl⟩ := hM.2 d18
                        clear hd hcst hM d1 d7 d9 d10 d16 d18
                        obtain ⟨z155, hz155⟩ : ∃ z, y 155 = z := ⟨_, rfl⟩
                        obtain ⟨z161, hz161⟩ : ∃ z, y 161 = z := ⟨_, rfl⟩
                        obtain ⟨z163, hz163⟩ : ∃ z, y 163 = z := ⟨_, rfl⟩
                        obtain ⟨z164, hz164⟩ : ∃ z, y 164 = z := ⟨_, rfl⟩
                        obtain ⟨z170, hz170⟩ : ∃ z, y 170 = z := ⟨_, rfl⟩
                        simp only [hole, List.foldl_cons, List.foldl_nil, List.setIfInBounds_toArray, List.set_cons_zero, List.set_cons_succ, e154, e156, e157, e158, e159, e160, e162, e165, e166, e167, e168, e169, e171, hz155, hz161, hz163, hz164, hz170]
                        clear e154 e156 e157 e158 e159 e160 e162 e165 e166 e167 e168 e169 e171 hz155 hz161 hz163 hz164 hz170
                        have hb3' := HBXP.out.below hb3 HBXP.out.lt
                        have HBX4 := Lib.hid (show Held (w3.setCell ⟨bo, 0, none⟩ v2) bo 22 [v2] from hb3'.put 0 v2)
                        have HSM4 := Lib.hid ((HSMP.out.trans (Sm.of_below hb3)).trans (Sm.put bo 0 v2))
                        have HO4 := Lib.hid (show OutI bo (w3.setCell ⟨bo, 0, none⟩ v2) v2 (degR q n (szE E) (backC E) b D L) from by
                          refine OutI.kept (.inr ⟨?_, ?_, ?_⟩) (Sm.put bo 0 v2)
                          · rw [HDY2.out, insP_length]; omega
                          · rw [HI0.out]; exact (hr3.mono fun _ hk => hk.1).base (Nat.zero_le _)
                          · intro k hk e; have h1 := (hr3.own k hk).1; have h2 := HBXP.out.lt; omega)
                        obtain ⟨w4, hw4⟩ : ∃ x, w3.setCell ⟨bo, 0, none⟩ v2 = x := ⟨_, rfl⟩
                        rw [hw4] at HBX4 HSM4 HO4 ⊢
                        clear hw4 hb3' hb3 hr3
                        go_wp2
                        go_roundw
                        case rel => exact ⟨D, v2, hD4, by go_num, HBX4.out, HO4.out, HSM4.out⟩
                        case measure => simp [intOf]; omega
                  · obtain ⟨vs, hov, hrv⟩ := hrow
                    have hvl : vs.length = ls.length := by have := hov.1; omega
                    rcases hov.2 with ⟨_, hn⟩ | ⟨g, cap, cur, rfl, _, hbg, hcap, _⟩
                    · exfalso; omega
                    have HR := Lib.hid (show RowsR (fun k => k ≠ bo ∧ k < wP.heap.size) wP g 0 vs ls from ⟨hvl, (Array.getElem?_eq_some_iff.1 hbg).1, fun j x hj => by
                        rw [Nat.zero_add, World.ownsRow.cellAt hov j (by have := (List.getElem?_eq_some_iff.1 hj).1; omega)]
                        exact hj, fun j x q hx hq => by
                        obtain ⟨a9, c9, rfl, j1, j2, j3⟩ := hrv j x q hx hq
                        refine ⟨a9, c9, rfl, j1, j2, fun hne => ?_⟩
                        obtain ⟨b9, o9, rfl, j6, j4, j5⟩ := j3 hne
                        exact ⟨b9, o9, rfl, ⟨j6, j4⟩, j4, j5⟩⟩)
                    have HIN := Lib.hid (fun mm (hm : mm ≤ ls.length) => insP_at F ls mm hm)
                    have hcb := HBXP.out.at (i := 0) rfl
                    have HVFP := Lib.hid (HFI.out.below HBP.out)
                    clear hov hrv hbg HODP hown
                    go_wp2_with fail
                    go_loop [20] (fun at' => ∃ mm : Nat, mm ≤ ls.length ∧ at' = .int .i64 mm ∧ LtTo ls F mm) (fun at' => ls.length - (intOf at').toNat)
                    case atStart => exact ⟨0, Nat.zero_le _, rfl, fun _ _ h => absurd h (Nat.not_lt_zero _)⟩
                    case round =>
                      obtain ⟨mm, hm, rfl, hin⟩ := hrel
                      have HI := Lib.hid hin
                      have hlen := HLEN.out
                      clear hin
                      by_cases hgo : ∃ h : mm < ls.length, ls[mm] < F
                      · obtain ⟨hlt, hz⟩ := hgo
                        have hki : (mm : Int) < (ls.length : Int) := by omega
                        have hvk : vs[mm]? = some (vs[mm]'(by rw [HR.out.len]; exact hlt)) := List.getElem?_eq_getElem _
                        obtain ⟨uk, huk⟩ : ∃ uk, vs[mm]'(by rw [HR.out.len]; exact hlt) = uk := ⟨_, rfl⟩
                        rw [huk] at hvk
                        have hcx := HR.out.cell mm uk hvk
                        rw [Nat.zero_add] at hcx
                        have hfz := HR.out.row mm uk _ hvk (List.getElem?_eq_getElem hlt)
                        have BF := Lib.hid (before_any uk _ (toI ls[mm]) (toI F) wP hfz.ints HVFP.out (by rw [toI_length, toI_length, HLSD.out _ (List.getElem_mem hlt), HFL.out]))
                        rw [decide_eq_true (toI_lt.2 hz)] at BF
                        have HI2 := Lib.hid (show LtTo ls F (mm + 1) from fun j h hj => by
                          by_cases e : j = mm
                          · subst e; exact hz
                          · exact HI.out j h (by omega))
                        obtain ⟨ak, ck, rfl, -⟩ := hfz
                        clear hvk huk hz
                        go_wp2_with (go_at_call 88; refine BF.out.mono ?_; rintro e w1 ⟨rfl, rfl⟩)
                        go_round
                        case rel => exact ⟨mm + 1, by omega, by go_num, HI2.out⟩
                        case measure => simp [intOf]; omega
                      · have HE2 := Lib.hid (show degR q n (szE E) (backC E) b D L = ls.take mm ++ [F] ++ ls.drop mm by
                          rw [HDY2.out, HIN.out mm hm HI.out (fun h hz => hgo ⟨h, hz⟩)])
                        obtain ⟨ad2, had⟩ : ∃ ad2 : Addr, (if cap = mm then (some ⟨g, 0, none⟩ : Option Addr) else some ⟨g, 0 + mm, none⟩) = some ad2 := by split <;> exact ⟨_, rfl⟩
                        have HT1 := Lib.hid (fun w' (hb : Below wP.heap.size wP w') => (HR.out.below hb).take mm)
                        have HT3 := Lib.hid (fun w' (hb : Below wP.heap.size wP w') => (HR.out.below hb).drop hm hcap had)
                        rw [Nat.zero_add] at had
                        have HN1 := Lib.hid (show (ls.take mm).length = mm by rw [List.length_take]; omega)
                        have HN3 := Lib.hid (show (ls.drop mm).length = ls.length - mm by rw [List.length_drop])
                        have HU1 := Lib.hid (show (vs.take mm).length = (ls.take mm).length by rw [List.length_take, List.length_take, HR.out.len])
                        have HU3 := Lib.hid (show (vs.drop mm).length = (ls.drop mm).length by rw [List.length_drop, List.length_drop, HR.out.len])
                        have hkc : (mm : Int) ≤ (cap : Int) := by omega
                        have hkl : (mm : Int) ≤ (ls.length : Int) := by omega
                        by_cases hlt : mm < ls.length
                        · have hz : ¬ ls[mm] < F := fun hz => hgo ⟨hlt, hz⟩
                          have hki : (mm : Int) < (ls.length : Int) := by omega
                          have hvk : vs[mm]? = some (vs[mm]'(by rw [HR.out.len]; exact hlt)) := List.getElem?_eq_getElem _
                          obtain ⟨uk, huk⟩ : ∃ uk, vs[mm]'(by rw [HR.out.len]; exact hlt) = uk := ⟨_, rfl⟩
                          rw [huk] at hvk
                          have hcx := HR.out.cell mm uk hvk
                          rw [Nat.zero_add] at hcx
                          have hfz := HR.out.row mm uk _ hvk (List.getElem?_eq_getElem hlt)
                          have BF := Lib.hid (before_any uk _ (toI ls[mm]) (toI F) wP hfz.ints HVFP.out (by rw [toI_length, toI_length, HLSD.out _ (List.getElem_mem hlt), HFL.out]))
                          rw [decide_eq_false (fun h => hz (toI_lt.1 h))] at BF
                          obtain ⟨ak, ck, rfl, -⟩ := hfz
                          clear hvk huk hz hgo
                          go_upto_region 37 with (go_at_call 88; refine BF.out.mono ?_; rintro e w1 ⟨rfl, rfl⟩)
                          refine wp_region_mem (by kernel_rfl) [154, 155, 156, 157, 158, 159, 160, 161, 162, 163, 164, 165, 166, 167, 168, 169, 170, 171] (by kernel_rfl) (by kernel_rfl) (fun i => match i with | 0 => some (.pointer (some ⟨bo, 0, none⟩)) | 2 => some (.pointer (some ⟨bo, 0, none⟩)) | 3 => some (.pointer (some ⟨bo, 0, none⟩)) | 4 => some (.slice (some ⟨g, 0, none⟩) ls.length cap) | 5 => some (.int .i64 (mm : Nat)) | 6 => some (.slice (some ⟨g, 0, none⟩) mm cap) | 8 => some (.slice aF nF cF) | 11 => some (.pointer (some ⟨bo, 0, none⟩)) | 12 => some (.pointer (some ⟨bo, 0, none⟩)) | 13 => some (.slice (some ⟨g, 0, none⟩) ls.length cap) | 14 => some (.int .i64 (mm : Nat)) | 15 => some (.slice (some ad2) (ls.length - mm) (cap - mm)) | 17 => some (.pointer (some ⟨bo, 0, none⟩)) | _ => none) (fun d y w => (d 18 = false → InsM (fun k => k ≠ bo ∧ k < wP.heap.size) wP (.slice aF nF cF) (ls.take mm) (ls.take mm ++ [F]) (ls.take mm ++ [F] ++ ls.drop mm) (d 1) (d 7) (d 9) (d 10) (d 16) (y 155) (y 161) (y 163) (y 164) (y 170) w) ∧ (d 18 = true → InsF bo wP (ls.take mm ++ [F] ++ ls.drop mm) w)) ?_ ?_ ?_ ?_ ?_
                          · exact ⟨fun _ => InsM.start _ _ _ _ _, fun h => (by cases h)⟩
                          · intro i o v ho hv d y wx hdi hcl hd hcst hM
                            match i, ho, hv, hdi with
                            | 0, ho, hv, _ =>
                              obtain rfl := Option.some.inj ho
                              obtain rfl : .pointer (some ⟨bo, 0, none⟩) = v := Option.some.inj hv
                              refine rstep_value rfl (v := .pointer (some ⟨bo, 0, none⟩)) (w' := wx) ?_ ⟨rfl, rfl⟩
                              · simp only [hole, List.foldl_cons, List.foldl_nil, List.setIfInBounds_toArray, List.set_cons_zero, List.set_cons_succ]
                                go_simp
                            | 1, _, hv, _ => exact absurd hv (by simp)
                            | 2, ho, hv, _ =>
                              obtain rfl := Option.some.inj ho
                              obtain rfl : .pointer (some ⟨bo, 0, none⟩) = v := Option.some.inj hv
                              refine rstep_value rfl (v := .pointer (some ⟨bo, 0, none⟩)) (w' := wx) ?_ ⟨rfl, rfl⟩
                              · simp only [hole, List.foldl_cons, List.foldl_nil, List.setIfInBounds_toArray, List.set_cons_zero, List.set_cons_succ]
                                go_simp
                            | 3, ho, hv, _ =>
                              obtain rfl := Option.some.inj ho
                              obtain rfl : .pointer (some ⟨bo, 0, none⟩) = v := Option.some.inj hv
                              have e156 : y 156 = .pointer (some ⟨bo, 0, none⟩) := hcst 2 _ _ (by kernel_rfl) rfl rfl
                              refine rstep_value rfl (v := .pointer (some ⟨bo, 0, none⟩)) (w' := wx) ?_ ⟨rfl, rfl⟩
                              · simp only [hole, List.foldl_cons, List.foldl_nil, List.setIfInBounds_toArray, List.set_cons_zero, List.set_cons_succ]
                                go_simp
                            | 4, ho, hv, hdi =>
                              obtain rfl := Option.some.inj ho
                              obtain rfl : .slice (some ⟨g, 0, none⟩) ls.length cap = v := Option.some.inj hv
                              have e157 : y 157 = .pointer (some ⟨bo, 0, none⟩) := hcst 3 _ _ (by kernel_rfl) rfl rfl
                              have n18 : d 18 = false := Bool.eq_false_iff.2 fun h => by have h2 := hcl 18 4 (by kernel_rfl) h; rw [hdi] at h2; cases h2
                              have c0 := (HBXP.out.below ((hM.1 n18).low) HBXP.out.lt).at (i := 0) rfl
                              refine rstep_value rfl (v := .slice (some ⟨g, 0, none⟩) ls.length cap) (w' := wx) ?_ ⟨rfl, rfl⟩
                              · simp only [hole, List.foldl_cons, List.foldl_nil, List.setIfInBounds_toArray, List.set_cons_zero, List.set_cons_succ]
                                go_simp
                            | 5, ho, hv, _ =>
                              obtain rfl := Option.some.inj ho
                              obtain rfl : .int .i64 (mm : Nat) = v := Option.some.inj hv
                              refine rstep_value rfl (v := .int .i64 (mm : Nat)) (w' := wx) ?_ ⟨rfl, rfl⟩
                              · simp only [hole, List.foldl_cons, List.foldl_nil, List.setIfInBounds_toArray, List.set_cons_zero, List.set_cons_succ]
                                go_simp
                            | 6, ho, hv, _ =>
                              obtain rfl := Option.some.inj ho
                              obtain rfl : .slice (some ⟨g, 0, none⟩) mm cap = v := Option.some.inj hv
                              have e158 : y 158 = .slice (some ⟨g, 0, none⟩) ls.length cap := hcst 4 _ _ (by kernel_rfl) rfl rfl
                              have e159 : y 159 = .int .i64 (mm : Nat) := hcst 5 _ _ (by kernel_rfl) rfl rfl
                              refine rstep_value rfl (v := .slice (some ⟨g, 0, none⟩) mm cap) (w' := wx) ?_ ⟨rfl, rfl⟩
                              · simp only [hole, List.foldl_cons, List.foldl_nil, List.setIfInBounds_toArray, List.set_cons_zero, List.set_cons_succ]
                                go_simp
                            | 7, _, hv, _ => exact absurd hv (by simp)
                            | 8, ho, hv, _ =>
                              obtain rfl := Option.some.inj ho
                              obtain rfl : .slice aF nF cF = v := Option.some.inj hv
                              refine rstep_value rfl (v := .slice aF nF cF) (w' := wx) ?_ ⟨rfl, rfl⟩
                              · simp only [hole, List.foldl_cons, List.foldl_nil, List.setIfInBounds_toArray, List.set_cons_zero, List.set_cons_succ]
                                go_simp
                            | 9, _, hv, _ => exact absurd hv (by simp)
                            | 10, _, hv, _ => exact absurd hv (by simp)
                            | 11, ho, hv, _ =>
                              obtain rfl := Option.some.inj ho
                              obtain rfl : .pointer (some ⟨bo, 0, none⟩) = v := Option.some.inj hv
                              refine rstep_value rfl (v := .pointer (some ⟨bo, 0, none⟩)) (w' := wx) ?_ ⟨rfl, rfl⟩
                              · simp only [hole, List.foldl_cons, List.foldl_nil, List.setIfInBounds_toArray, List.set_cons_zero, List.set_cons_succ]
                                go_simp
                            | 12, ho, hv, _ =>
                              obtain rfl := Option.some.inj ho
                              obtain rfl : .pointer (some ⟨bo, 0, none⟩) = v := Option.some.inj hv
                              have e165 : y 165 = .pointer (some ⟨bo, 0, none⟩) := hcst 11 _ _ (by kernel_rfl) rfl rfl
                              refine rstep_value rfl (v := .pointer (some ⟨bo, 0, none⟩)) (w' := wx) ?_ ⟨rfl, rfl⟩
                              · simp only [hole, List.foldl_cons, List.foldl_nil, List.setIfInBounds_toArray, List.set_cons_zero, List.set_cons_succ]
                                go_simp
                            | 13, ho, hv, hdi =>
                              obtain rfl := Option.some.inj ho
                              obtain rfl : .slice (some ⟨g, 0, none⟩) ls.length cap = v := Option.some.inj hv
                              have e166 : y 166 = .pointer (some ⟨bo, 0, none⟩) := hcst 12 _ _ (by kernel_rfl) rfl rfl
                              have n18 : d 18 = false := Bool.eq_false_iff.2 fun h => by have h2 := hcl 18 13 (by kernel_rfl) h; rw [hdi] at h2; cases h2
                              have c0 := (HBXP.out.below ((hM.1 n18).low) HBXP.out.lt).at (i := 0) rfl
                              refine rstep_value rfl (v := .slice (some ⟨g, 0, none⟩) ls.length cap) (w' := wx) ?_ ⟨rfl, rfl⟩
                              · simp only [hole, List.foldl_cons, List.foldl_nil, List.setIfInBounds_toArray, List.set_cons_zero, List.set_cons_succ]
                                go_simp
                            | 14, ho, hv, _ =>
                              obtain rfl := Option.some.inj ho
                              obtain rfl : .int .i64 (mm : Nat) = v := Option.some.inj hv
                              refine rstep_value rfl (v := .int .i64 (mm : Nat)) (w' := wx) ?_ ⟨rfl, rfl⟩
                              · simp only [hole, List.foldl_cons, List.foldl_nil, List.setIfInBounds_toArray, List.set_cons_zero, List.set_cons_succ]
                                go_simp
                            | 15, ho, hv, _ =>
                              obtain rfl := Option.some.inj ho
                              obtain rfl : .slice (some ad2) (ls.length - mm) (cap - mm) = v := Option.some.inj hv
                              have e167 : y 167 = .slice (some ⟨g, 0, none⟩) ls.length cap := hcst 13 _ _ (by kernel_rfl) rfl rfl
                              have e168 : y 168 = .int .i64 (mm : Nat) := hcst 14 _ _ (by kernel_rfl) rfl rfl
                              refine rstep_value rfl (v := .slice (some ad2) (ls.length - mm) (cap - mm)) (w' := wx) ?_ ⟨rfl, rfl⟩
                              · simp only [hole, List.foldl_cons, List.foldl_nil, List.setIfInBounds_toArray, List.set_cons_zero, List.set_cons_succ]
                                go_simp
                            | 16, _, hv, _ => exact absurd hv (by simp)
                            | 17, ho, hv, _ =>
                              obtain rfl := Option.some.inj ho
                              obtain rfl : .pointer (some ⟨bo, 0, none⟩) = v := Option.some.inj hv
                              have e154 : y 154 = .pointer (some ⟨bo, 0, none⟩) := hcst 0 _ _ (by kernel_rfl) rfl rfl
                              refine rstep_value rfl (v := .pointer (some ⟨bo, 0, none⟩)) (w' := wx) ?_ ⟨rfl, rfl⟩
                              · simp only [hole, List.foldl_cons, List.foldl_nil, List.setIfInBounds_toArray, List.set_cons_zero, List.set_cons_succ]
                                go_simp
                            | 18, _, hv, _ => exact absurd hv (by simp)
                            | _ + 19, ho, _, _ => exact absurd ho (by simp)
                          · intro i o v ho hv d y wx hM
                            match i, ho, hv with
                            | 0, ho, _ =>
                              obtain rfl := Option.some.inj ho
                              exact hM
                            | 1, _, hv => exact absurd hv (by simp)
                            | 2, ho, _ =>
                              obtain rfl := Option.some.inj ho
                              exact hM
                            | 3, ho, _ =>
                              obtain rfl := Option.some.inj ho
                              exact hM
                            | 4, ho, _ =>
                              obtain rfl := Option.some.inj ho
                              exact hM
                            | 5, ho, _ =>
                              obtain rfl := Option.some.inj ho
                              exact hM
                            | 6, ho, _ =>
                              obtain rfl := Option.some.inj ho
                              exact hM
                            | 7, _, hv => exact absurd hv (by simp)
                            | 8, ho, _ =>
                              obtain rfl := Option.some.inj ho
                              exact hM
                            | 9, _, hv => exact absurd hv (by simp)
                            | 10, _, hv => exact absurd hv (by simp)
                            | 11, ho, _ =>
                              obtain rfl := Option.some.inj ho
                              exact hM
                            | 12, ho, _ =>
                              obtain rfl := Option.some.inj ho
                              exact hM
                            | 13, ho, _ =>
                              obtain rfl := Option.some.inj ho
                              exact hM
                            | 14, ho, _ =>
                              obtain rfl := Option.some.inj ho
                              exact hM
                            | 15, ho, _ =>
                              obtain rfl := Option.some.inj ho
                              exact hM
                            | 16, _, hv => exact absurd hv (by simp)
                            | 17, ho, _ =>
                              obtain rfl := Option.some.inj ho
                              exact hM
                            | 18, _, hv => exact absurd hv (by simp)
                            | _ + 19, ho, _ => exact absurd ho (by simp)
                          · intro i o ho hv d y wx hdi hcl hd hcst hM
                            match i, ho, hv, hdi with
                            | 0, _, hv, _ => exact absurd hv (by simp)
                            | 1, ho, _, hdi =>
                              obtain rfl := Option.some.inj ho
                              have n7 : d 7 = false := Bool.eq_false_iff.2 fun h => by have h2 := hcl 7 1 (by kernel_rfl) h; rw [hdi] at h2; cases h2
                              have n10 : d 10 = false := Bool.eq_false_iff.2 fun h => by have h2 := hcl 10 7 (by kernel_rfl) h; rw [n7] at h2; cases h2
                              have n16 : d 16 = false := Bool.eq_false_iff.2 fun h => by have h2 := hcl 16 10 (by kernel_rfl) h; rw [n10] at h2; cases h2
                              have n18 : d 18 = false := Bool.eq_false_iff.2 fun h => by have h2 := hcl 18 1 (by kernel_rfl) h; rw [hdi] at h2; cases h2
                              refine rstep_value rfl (v := .slice (some ⟨wx.heap.size, 0, none⟩) 0 0) (w' := wx.alloc (.cells #[] 27)) ?_ ⟨fun _ => (hM.1 n18).allocA n7 n10 n16, fun h => absurd (show d 18 = true from h) (by rw [n18]; simp)⟩
                              · simp only [hole, List.foldl_cons, List.foldl_nil, List.setIfInBounds_toArray, List.set_cons_zero, List.set_cons_succ]
                                go_simp
                            | 2, _, hv, _ => exact absurd hv (by simp)
                            | 3, _, hv, _ => exact absurd hv (by simp)
                            | 4, _, hv, _ => exact absurd hv (by simp)
                            | 5, _, hv, _ => exact absurd hv (by simp)
                            | 6, _, hv, _ => exact absurd hv (by simp)
                            | 7, ho, _, hdi =>
                              obtain rfl := Option.some.inj ho
                              have e160 : y 160 = .slice (some ⟨g, 0, none⟩) mm cap := hcst 6 _ _ (by kernel_rfl) rfl rfl
                              have d1 : d 1 = true := hd 1 (by kernel_rfl)
                              have n10 : d 10 = false := Bool.eq_false_iff.2 fun h => by have h2 := hcl 10 7 (by kernel_rfl) h; rw [hdi] at h2; cases h2
                              have n16 : d 16 = false := Bool.eq_false_iff.2 fun h => by have h2 := hcl 16 10 (by kernel_rfl) h; rw [n10] at h2; cases h2
                              have n18 : d 18 = false := Bool.eq_false_iff.2 fun h => by have h2 := hcl 18 7 (by kernel_rfl) h; rw [hdi] at h2; cases h2
                              have hm := hM.1 n18
                              obtain ⟨hrA, -⟩ := hm.a d1 hdi
                              obtain ⟨v', w', hrun, hr', hg', hl'⟩ := run_appR (ty := 22) hrA HU1.out (HT1.out wx hm.low) (c := cap) (fun k hk e => by have h1 := (hrA.own k e).1; have h2 := hk.2; omega) (by simp <;> omega) hm.low.size
                              rw [HN1.out] at hrun
                              refine rstep_value rfl (v := v') (w' := w') ?_ ⟨fun _ => hm.app0 d1 hdi n10 n16 hr' hg' hl', fun h => absurd (show d 18 = true from h) (by rw [n18]; simp)⟩
                              · simp only [hole, List.foldl_cons, List.foldl_nil, List.setIfInBounds_toArray, List.set_cons_zero, List.set_cons_succ]
                                simp [execOp, resolve, invoke, builtin, Act.eval, e160, Result.andThen]
                                rw [hrun]
                            | 8, _, hv, _ => exact absurd hv (by simp)
                            | 9, ho, _, hdi =>
                              obtain rfl := Option.some.inj ho
                              have e162 : y 162 = .slice aF nF cF := hcst 8 _ _ (by kernel_rfl) rfl rfl
                              have n10 : d 10 = false := Bool.eq_false_iff.2 fun h => by have h2 := hcl 10 9 (by kernel_rfl) h; rw [hdi] at h2; cases h2
                              have n16 : d 16 = false := Bool.eq_false_iff.2 fun h => by have h2 := hcl 16 10 (by kernel_rfl) h; rw [n10] at h2; cases h2
                              have n18 : d 18 = false := Bool.eq_false_iff.2 fun h => by have h2 := hcl 18 9 (by kernel_rfl) h; rw [hdi] at h2; cases h2
                              refine rstep_value rfl (v := .slice (some ⟨wx.heap.size, 0, none⟩) 1 1) (w' := wx.alloc (.cells #[.slice aF nF cF] 27)) ?_ ⟨fun _ => (hM.1 n18).allocB n10 n16, fun h => absurd (show d 18 = true from h) (by rw [n18]; simp)⟩
                              · simp only [hole, List.foldl_cons, List.foldl_nil, List.setIfInBounds_toArray, List.set_cons_zero, List.set_cons_succ]
                                go_simp
                            | 10, ho, _, hdi =>
                              obtain rfl := Option.some.inj ho
                              have d7 : d 7 = true := hd 7 (by kernel_rfl)
                              have d9 : d 9 = true := hd 9 (by kernel_rfl)
                              have n16 : d 16 = false := Bool.eq_false_iff.2 fun h => by have h2 := hcl 16 10 (by kernel_rfl) h; rw [hdi] at h2; cases h2
                              have n18 : d 18 = false := Bool.eq_false_iff.2 fun h => by have h2 := hcl 18 10 (by kernel_rfl) h; rw [hdi] at h2; cases h2
                              have hm := hM.1 n18
                              obtain ⟨g, e163, hgN, hh, -, -⟩ := hm.b d9 hdi
                              have hz := hm.z d7 hdi
                              obtain ⟨v', w', hrun, hr', hg', hl'⟩ := run_appF (ty := 22) hz (HU.out.kept (Sm.of_below hm.low)) hh (fun k hk e => by have h1 := (hz.own k e).1; have h2 := hk.2; omega) (by simp <;> omega) hm.low.size
                              refine rstep_value rfl (v := v') (w' := w') ?_ ⟨fun _ => hm.app1 d7 hdi n16 hr' hg', fun h => absurd (show d 18 = true from h) (by rw [n18]; simp)⟩
                              · simp only [hole, List.foldl_cons, List.foldl_nil, List.setIfInBounds_toArray, List.set_cons_zero, List.set_cons_succ]
                                simp [execOp, resolve, invoke, builtin, Act.eval, e163, Result.andThen]
                                rw [hrun]
                            | 11, _, hv, _ => exact absurd hv (by simp)
                            | 12, _, hv, _ => exact absurd hv (by simp)
                            | 13, _, hv, _ => exact absurd hv (by simp)
                            | 14, _, hv, _ => exact absurd hv (by simp)
                            | 15, _, hv, _ => exact absurd hv (by simp)
                            | 16, ho, _, hdi =>
                              obtain rfl := Option.some.inj ho
                              have e169 : y 169 = .slice (some ad2) (ls.length - mm) (cap - mm) := hcst 15 _ _ (by kernel_rfl) rfl rfl
                              have d10 : d 10 = true := hd 10 (by kernel_rfl)
                              have n18 : d 18 = false := Bool.eq_false_iff.2 fun h => by have h2 := hcl 18 16 (by kernel_rfl) h; rw [hdi] at h2; cases h2
                              have d7 : d 7 = true := hcl 10 7 (by kernel_rfl) d10
                              have hm := hM.1 n18
                              have ho := hm.o d10 hdi
                              obtain ⟨v', w', hrun, hr', hg', hl'⟩ := run_appR (ty := 22) ho HU3.out (HT3.out wx hm.low) (c := cap - mm) (fun k hk e => by have h1 := (ho.own k e).1; have h2 := hk.2; omega) (by simp <;> omega) hm.low.size
                              rw [HN3.out] at hrun
                              refine rstep_value rfl (v := v') (w' := w') ?_ ⟨fun _ => hm.app2 d7 d10 hdi hr' hg', fun h => absurd (show d 18 = true from h) (by rw [n18]; simp)⟩
                              · simp only [hole, List.foldl_cons, List.foldl_nil, List.setIfInBounds_toArray, List.set_cons_zero, List.set_cons_succ]
                                simp [execOp, resolve, invoke, builtin, Act.eval, e169, Result.andThen]
                                rw [hrun]
                            | 17, _, hv, _ => exact absurd hv (by simp)
                            | 18, ho, _, hdi =>
                              obtain rfl := Option.some.inj ho
                              have e171 : y 171 = .pointer (some ⟨bo, 0, none⟩) := hcst 17 _ _ (by kernel_rfl) rfl rfl
                              have d16 : d 16 = true := hd 16 (by kernel_rfl)
                              have hm := hM.1 hdi
                              have hr := hm.e d16
                              obtain ⟨a70, c70, e170⟩ := hr.form
                              have hb3 := HBXP.out.below hm.low HBXP.out.lt
                              have c0 := hb3.at (i := 0) rfl
                              have f0 := hb3.free 0
                              refine rstep_skip rfl (w' := wx.setCell ⟨bo, 0, none⟩ (y 170)) ?_ ⟨fun h => absurd (show (true || d 18) = false from h) (by simp), fun _ => ⟨y 170, wx, hr, hm.low, rfl⟩⟩
                              · simp only [hole, List.foldl_cons, List.foldl_nil, List.setIfInBounds_toArray, List.set_cons_zero, List.set_cons_succ]
                                rw [e170]
                                go_simp
                            | _ + 19, ho, _, _ => exact absurd ho (by simp)
                          · intro d y wx hd hcst hM
                            have e154 : y 154 = .pointer (some ⟨bo, 0, none⟩) := hcst 0 _ _ (by decide) rfl rfl
                            have d1 : d 1 = true := hd 1 (by decide)
                            have e156 : y 156 = .pointer (some ⟨bo, 0, none⟩) := hcst 2 _ _ (by decide) rfl rfl
                            have e157 : y 157 = .pointer (some ⟨bo, 0, none⟩) := hcst 3 _ _ (by decide) rfl rfl
                            have e158 : y 158 = .slice (some ⟨g, 0, none⟩) ls.length cap := hcst 4 _ _ (by decide) rfl rfl
                            have e159 : y 159 = .int .i64 (mm : Nat) := hcst 5 _ _ (by decide) rfl rfl
                            have e160 : y 160 = .slice (some ⟨g, 0, none⟩) mm cap := hcst 6 _ _ (by decide) rfl rfl
                            have d7 : d 7 = true := hd 7 (by decide)
                            have e162 : y 162 = .slice aF nF cF := hcst 8 _ _ (by decide) rfl rfl
                            have d9 : d 9 = true := hd 9 (by decide)
                            have d10 : d 10 = true := hd 10 (by decide)
                            have e165 : y 165 = .pointer (some ⟨bo, 0, none⟩) := hcst 11 _ _ (by decide) rfl rfl
                            have e166 : y 166 = .pointer (some ⟨bo, 0, none⟩) := hcst 12 _ _ (by decide) rfl rfl
                            have e167 : y 167 = .slice (some ⟨g, 0, none⟩) ls.length cap := hcst 13 _ _ (by decide) rfl rfl
                            have e168 : y 168 = .int .i64 (mm : Nat) := hcst 14 _ _ (by decide) rfl rfl
                            have e169 : y 169 = .slice (some ad2) (ls.length - mm) (cap - mm) := hcst 15 _ _ (by decide) rfl rfl
                            have d16 : d 16 = true := hd 16 (by decide)
                            have e171 : y 171 = .pointer (some ⟨bo, 0, none⟩) := hcst 17 _ _ (by decide) rfl rfl
                            have d18 : d 18 = true := hd 18 (by decide)
                            obtain ⟨v2, w3, hr3, hb3, rfl⟩ := hM.2 d18
                            clear hd hcst hM d1 d7 d9 d10 d16 d18
                            obtain ⟨z155, hz155⟩ : ∃ z, y 155 = z := ⟨_, rfl⟩
                            obtain ⟨z161, hz161⟩ : ∃ z, y 161 = z := ⟨_, rfl⟩
                            obtain ⟨z163, hz163⟩ : ∃ z, y 163 = z := ⟨_, rfl⟩
                            obtain ⟨z164, hz164⟩ : ∃ z, y 164 = z := ⟨_, rfl⟩
                            obtain ⟨z170, hz170⟩ : ∃ z, y 170 = z := ⟨_, rfl⟩
                            simp only [hole, List.foldl_cons, List.foldl_nil, List.setIfInBounds_toArray, List.set_cons_zero, List.set_cons_succ, e154, e156, e157, e158, e159, e160, e162, e165, e166, e167, e168, e169, e171, hz155, hz161, hz163, hz164, hz170]
                            clear e154 e156 e157 e158 e159 e160 e162 e165 e166 e167 e168 e169 e171 hz155 hz161 hz163 hz164 hz170
                            have hb3' := HBXP.out.below hb3 HBXP.out.lt
                            have HBX4 := Lib.hid (show Held (w3.setCell ⟨bo, 0, none⟩ v2) bo 22 [v2] from hb3'.put 0 v2)
                            have HSM4 := Lib.hid ((HSMP.out.trans (Sm.of_below hb3)).trans (Sm.put bo 0 v2))
                            have HO4 := Lib.hid (show OutI bo (w3.setCell ⟨bo, 0, none⟩ v2) v2 (degR q n (szE E) (backC E) b D L) from by
                              refine OutI.kept (.inr ⟨?_, ?_, ?_⟩) (Sm.put bo 0 v2)
                              · rw [HDY2.out, insP_length]; omega
                              · rw [HE2.out]; exact (hr3.mono fun _ hk => hk.1).base (Nat.zero_le _)
                              · intro k hk e; have h1 := (hr3.own k hk).1; have h2 := HBXP.out.lt; omega)
                            obtain ⟨w4, hw4⟩ : ∃ x, w3.setCell ⟨bo, 0, none⟩ v2 = x := ⟨_, rfl⟩
                            rw [hw4] at HBX4 HSM4 HO4 ⊢
                            clear hw4 hb3' hb3 hr3
                            go_wp2
                            go_roundw
                            case rel => exact ⟨D, v2, hD4, by go_num, HBX4.out, HO4.out, HSM4.out⟩
                            case measure => simp [intOf]; omega
                        · have hki : ¬ (mm : Int) < (ls.length : Int) := by omega
                          clear hgo
                          go_upto_region 37 with (fail)
                          refine wp_region_mem (by kernel_rfl) [154, 155, 156, 157, 158, 159, 160, 161, 162, 163, 164, 165, 166, 167, 168, 169, 170, 171] (by kernel_rfl) (by kernel_rfl) (fun i => match i with | 0 => some (.pointer (some ⟨bo, 0, none⟩)) | 2 => some (.pointer (some ⟨bo, 0, none⟩)) | 3 => some (.pointer (some ⟨bo, 0, none⟩)) | 4 => some (.slice (some ⟨g, 0, none⟩) ls.length cap) | 5 => some (.int .i64 (mm : Nat)) | 6 => some (.slice (some ⟨g, 0, none⟩) mm cap) | 8 => some (.slice aF nF cF) | 11 => some (.pointer (some ⟨bo, 0, none⟩)) | 12 => some (.pointer (some ⟨bo, 0, none⟩)) | 13 => some (.slice (some ⟨g, 0, none⟩) ls.length cap) | 14 => some (.int .i64 (mm : Nat)) | 15 => some (.slice (some ad2) (ls.length - mm) (cap - mm)) | 17 => some (.pointer (some ⟨bo, 0, none⟩)) | _ => none) (fun d y w => (d 18 = false → InsM (fun k => k ≠ bo ∧ k < wP.heap.size) wP (.slice aF nF cF) (ls.take mm) (ls.take mm ++ [F]) (ls.take mm ++ [F] ++ ls.drop mm) (d 1) (d 7) (d 9) (d 10) (d 16) (y 155) (y 161) (y 163) (y 164) (y 170) w) ∧ (d 18 = true → InsF bo wP (ls.take mm ++ [F] ++ ls.drop mm) w)) ?_ ?_ ?_ ?_ ?_
                          · exact ⟨fun _ => InsM.start _ _ _ _ _, fun h => (by cases h)⟩
                          · intro i o v ho hv d y wx hdi hcl hd hcst hM
                            match i, ho, hv, hdi with
                            | 0, ho, hv, _ =>
                              obtain rfl := Option.some.inj ho
                              obtain rfl : .pointer (some ⟨bo, 0, none⟩) = v := Option.some.inj hv
                              refine rstep_value rfl (v := .pointer (some ⟨bo, 0, none⟩)) (w' := wx) ?_ ⟨rfl, rfl⟩
                              · simp only [hole, List.foldl_cons, List.foldl_nil, List.setIfInBounds_toArray, List.set_cons_zero, List.set_cons_succ]
                                go_simp
                            | 1, _, hv, _ => exact absurd hv (by simp)
                            | 2, ho, hv, _ =>
                              obtain rfl := Option.some.inj ho
                              obtain rfl : .pointer (some ⟨bo, 0, none⟩) = v := Option.some.inj hv
                              refine rstep_value rfl (v := .pointer (some ⟨bo, 0, none⟩)) (w' := wx) ?_ ⟨rfl, rfl⟩
                              · simp only [hole, List.foldl_cons, List.foldl_nil, List.setIfInBounds_toArray, List.set_cons_zero, List.set_cons_succ]
                                go_simp
                            | 3, ho, hv, _ =>
                              obtain rfl := Option.some.inj ho
                              obtain rfl : .pointer (some ⟨bo, 0, none⟩) = v := Option.some.inj hv
                              have e156 : y 156 = .pointer (some ⟨bo, 0, none⟩) := hcst 2 _ _ (by kernel_rfl) rfl rfl
                              refine rstep_value rfl (v := .pointer (some ⟨bo, 0, none⟩)) (w' := wx) ?_ ⟨rfl, rfl⟩
                              · simp only [hole, List.foldl_cons, List.foldl_nil, List.setIfInBounds_toArray, List.set_cons_zero, List.set_cons_succ]
                                go_simp
                            | 4, ho, hv, hdi =>
                              obtain rfl := Option.some.inj ho
                              obtain rfl : .slice (some ⟨g, 0, none⟩) ls.length cap = v := Option.some.inj hv
                              have e157 : y 157 = .pointer (some ⟨bo, 0, none⟩) := hcst 3 _ _ (by kernel_rfl) rfl rfl
                              have n18 : d 18 = false := Bool.eq_false_iff.2 fun h => by have h2 := hcl 18 4 (by kernel_rfl) h; rw [hdi] at h2; cases h2
                              have c0 := (HBXP.out.below ((hM.1 n18).low) HBXP.out.lt).at (i := 0) rfl
                              refine rstep_value rfl (v := .slice (some ⟨g, 0, none⟩) ls.length cap) (w' := wx) ?_ ⟨rfl, rfl⟩
                              · simp only [hole, List.foldl_cons, List.foldl_nil, List.setIfInBounds_toArray, List.set_cons_zero, List.set_cons_succ]
                                go_simp
                            | 5, ho, hv, _ =>
                              obtain rfl := Option.some.inj ho
                              obtain rfl : .int .i64 (mm : Nat) = v := Option.some.inj hv
                              refine rstep_value rfl (v := .int .i64 (mm : Nat)) (w' := wx) ?_ ⟨rfl, rfl⟩
                              · simp only [hole, List.foldl_cons, List.foldl_nil, List.setIfInBounds_toArray, List.set_cons_zero, List.set_cons_succ]
                                go_simp
                            | 6, ho, hv, _ =>
                              obtain rfl := Option.some.inj ho
                              obtain rfl : .slice (some ⟨g, 0, none⟩) mm cap = v := Option.some.inj hv
                              have e158 : y 158 = .slice (some ⟨g, 0, none⟩) ls.length cap := hcst 4 _ _ (by kernel_rfl) rfl rfl
                              have e159 : y 159 = .int .i64 (mm : Nat) := hcst 5 _ _ (by kernel_rfl) rfl rfl
                              refine rstep_value rfl (v := .slice (some ⟨g, 0, none⟩) mm cap) (w' := wx) ?_ ⟨rfl, rfl⟩
                              · simp only [hole, List.foldl_cons, List.foldl_nil, List.setIfInBounds_toArray, List.set_cons_zero, List.set_cons_succ]
                                go_simp
                            | 7, _, hv, _ => exact absurd hv (by simp)
                            | 8, ho, hv, _ =>
                              obtain rfl := Option.some.inj ho
                              obtain rfl : .slice aF nF cF = v := Option.some.inj hv
                              refine rstep_value rfl (v := .slice aF nF cF) (w' := wx) ?_ ⟨rfl, rfl⟩
                              · simp only [hole, List.foldl_cons, List.foldl_nil, List.setIfInBounds_toArray, List.set_cons_zero, List.set_cons_succ]
                                go_simp
                            | 9, _, hv, _ => exact absurd hv (by simp)
                            | 10, _, hv, _ => exact absurd hv (by simp)
                            | 11, ho, hv, _ =>
                              obtain rfl := Option.some.inj ho
                              obtain rfl : .pointer (some ⟨bo, 0, none⟩) = v := Option.some.inj hv
                              refine rstep_value rfl (v := .pointer (some ⟨bo, 0, none⟩)) (w' := wx) ?_ ⟨rfl, rfl⟩
                              · simp only [hole, List.foldl_cons, List.foldl_nil, List.setIfInBounds_toArray, List.set_cons_zero, List.set_cons_succ]
                                go_simp
                            | 12, ho, hv, _ =>
                              obtain rfl := Option.some.inj ho
                              obtain rfl : .pointer (some ⟨bo, 0, none⟩) = v := Option.some.inj hv
                              have e165 : y 165 = .pointer (some ⟨bo, 0, none⟩) := hcst 11 _ _ (by kernel_rfl) rfl rfl
                              refine rstep_value rfl (v := .pointer (some ⟨bo, 0, none⟩)) (w' := wx) ?_ ⟨rfl, rfl⟩
                              · simp only [hole, List.foldl_cons, List.foldl_nil, List.setIfInBounds_toArray, List.set_cons_zero, List.set_cons_succ]
                                go_simp
                            | 13, ho, hv, hdi =>
                              obtain rfl := Option.some.inj ho
                              obtain rfl : .slice (some ⟨g, 0, none⟩) ls.length cap = v := Option.some.inj hv
                              have e166 : y 166 = .pointer (some ⟨bo, 0, none⟩) := hcst 12 _ _ (by kernel_rfl) rfl rfl
                              have n18 : d 18 = false := Bool.eq_false_iff.2 fun h => by have h2 := hcl 18 13 (by kernel_rfl) h; rw [hdi] at h2; cases h2
                              have c0 := (HBXP.out.below ((hM.1 n18).low) HBXP.out.lt).at (i := 0) rfl
                              refine rstep_value rfl (v := .slice (some ⟨g, 0, none⟩) ls.length cap) (w' := wx) ?_ ⟨rfl, rfl⟩
                              · simp only [hole, List.foldl_cons, List.foldl_nil, List.setIfInBounds_toArray, List.set_cons_zero, List.set_cons_succ]
                                go_simp
                            | 14, ho, hv, _ =>
                              obtain rfl := Option.some.inj ho
                              obtain rfl : .int .i64 (mm : Nat) = v := Option.some.inj hv
                              refine rstep_value rfl (v := .int .i64 (mm : Nat)) (w' := wx) ?_ ⟨rfl, rfl⟩
                              · simp only [hole, List.foldl_cons, List.foldl_nil, List.setIfInBounds_toArray, List.set_cons_zero, List.set_cons_succ]
                                go_simp
                            | 15, ho, hv, _ =>
                              obtain rfl := Option.some.inj ho
                              obtain rfl : .slice (some ad2) (ls.length - mm) (cap - mm) = v := Option.some.inj hv
                              have e167 : y 167 = .slice (some ⟨g, 0, none⟩) ls.length cap := hcst 13 _ _ (by kernel_rfl) rfl rfl
                              have e168 : y 168 = .int .i64 (mm : Nat) := hcst 14 _ _ (by kernel_rfl) rfl rfl
                              refine rstep_value rfl (v := .slice (some ad2) (ls.length - mm) (cap - mm)) (w' := wx) ?_ ⟨rfl, rfl⟩
                              · simp only [hole, List.foldl_cons, List.foldl_nil, List.setIfInBounds_toArray, List.set_cons_zero, List.set_cons_succ]
                                go_simp
                            | 16, _, hv, _ => exact absurd hv (by simp)
                            | 17, ho, hv, _ =>
                              obtain rfl := Option.some.inj ho
                              obtain rfl : .pointer (some ⟨bo, 0, none⟩) = v := Option.some.inj hv
                              have e154 : y 154 = .pointer (some ⟨bo, 0, none⟩) := hcst 0 _ _ (by kernel_rfl) rfl rfl
                              refine rstep_value rfl (v := .pointer (some ⟨bo, 0, none⟩)) (w' := wx) ?_ ⟨rfl, rfl⟩
                              · simp only [hole, List.foldl_cons, List.foldl_nil, List.setIfInBounds_toArray, List.set_cons_zero, List.set_cons_succ]
                                go_simp
                            | 18, _, hv, _ => exact absurd hv (by simp)
                            | _ + 19, ho, _, _ => exact absurd ho (by simp)
                          · intro i o v ho hv d y wx hM
                            match i, ho, hv with
                            | 0, ho, _ =>
                              obtain rfl := Option.some.inj ho
                              exact hM
                            | 1, _, hv => exact absurd hv (by simp)
                            | 2, ho, _ =>
                              obtain rfl := Option.some.inj ho
                              exact hM
                            | 3, ho, _ =>
                              obtain rfl := Option.some.inj ho
                              exact hM
                            | 4, ho, _ =>
                              obtain rfl := Option.some.inj ho
                              exact hM
                            | 5, ho, _ =>
                              obtain rfl := Option.some.inj ho
                              exact hM
                            | 6, ho, _ =>
                              obtain rfl := Option.some.inj ho
                              exact hM
                            | 7, _, hv => exact absurd hv (by simp)
                            | 8, ho, _ =>
                              obtain rfl := Option.some.inj ho
                              exact hM
                            | 9, _, hv => exact absurd hv (by simp)
                            | 10, _, hv => exact absurd hv (by simp)
                            | 11, ho, _ =>
                              obtain rfl := Option.some.inj ho
                              exact hM
                            | 12, ho, _ =>
                              obtain rfl := Option.some.inj ho
                              exact hM
                            | 13, ho, _ =>
                              obtain rfl := Option.some.inj ho
                              exact hM
                            | 14, ho, _ =>
                              obtain rfl := Option.some.inj ho
                              exact hM
                            | 15, ho, _ =>
                              obtain rfl := Option.some.inj ho
                              exact hM
                            | 16, _, hv => exact absurd hv (by simp)
                            | 17, ho, _ =>
                              obtain rfl := Option.some.inj ho
                              exact hM
                            | 18, _, hv => exact absurd hv (by simp)
                            | _ + 19, ho, _ => exact absurd ho (by simp)
                          · intro i o ho hv d y wx hdi hcl hd hcst hM
                            match i, ho, hv, hdi with
                            | 0, _, hv, _ => exact absurd hv (by simp)
                            | 1, ho, _, hdi =>
                              obtain rfl := Option.some.inj ho
                              have n7 : d 7 = false := Bool.eq_false_iff.2 fun h => by have h2 := hcl 7 1 (by kernel_rfl) h; rw [hdi] at h2; cases h2
                              have n10 : d 10 = false := Bool.eq_false_iff.2 fun h => by have h2 := hcl 10 7 (by kernel_rfl) h; rw [n7] at h2; cases h2
                              have n16 : d 16 = false := Bool.eq_false_iff.2 fun h => by have h2 := hcl 16 10 (by kernel_rfl) h; rw [n10] at h2; cases h2
                              have n18 : d 18 = false := Bool.eq_false_iff.2 fun h => by have h2 := hcl 18 1 (by kernel_rfl) h; rw [hdi] at h2; cases h2
                              refine rstep_value rfl (v := .slice (some ⟨wx.heap.size, 0, none⟩) 0 0) (w' := wx.alloc (.cells #[] 27)) ?_ ⟨fun _ => (hM.1 n18).allocA n7 n10 n16, fun h => absurd (show d 18 = true from h) (by rw [n18]; simp)⟩
                              · simp only [hole, List.foldl_cons, List.foldl_nil, List.setIfInBounds_toArray, List.set_cons_zero, List.set_cons_succ]
                                go_simp
                            | 2, _, hv, _ => exact absurd hv (by simp)
                            | 3, _, hv, _ => exact absurd hv (by simp)
                            | 4, _, hv, _ => exact absurd hv (by simp)
                            | 5, _, hv, _ => exact absurd hv (by simp)
                            | 6, _, hv, _ => exact absurd hv (by simp)
                            | 7, ho, _, hdi =>
                              obtain rfl := Option.some.inj ho
                              have e160 : y 160 = .slice (some ⟨g, 0, none⟩) mm cap := hcst 6 _ _ (by kernel_rfl) rfl rfl
                              have d1 : d 1 = true := hd 1 (by kernel_rfl)
                              have n10 : d 10 = false := Bool.eq_false_iff.2 fun h => by have h2 := hcl 10 7 (by kernel_rfl) h; rw [hdi] at h2; cases h2
                              have n16 : d 16 = false := Bool.eq_false_iff.2 fun h => by have h2 := hcl 16 10 (by kernel_rfl) h; rw [n10] at h2; cases h2
                              have n18 : d 18 = false := Bool.eq_false_iff.2 fun h => by have h2 := hcl 18 7 (by kernel_rfl) h; rw [hdi] at h2; cases h2
                              have hm := hM.1 n18
                              obtain ⟨hrA, -⟩ := hm.a d1 hdi
                              obtain ⟨v', w', hrun, hr', hg', hl'⟩ := run_appR (ty := 22) hrA HU1.out (HT1.out wx hm.low) (c := cap) (fun k hk e => by have h1 := (hrA.own k e).1; have h2 := hk.2; omega) (by simp <;> omega) hm.low.size
                              rw [HN1.out] at hrun
                              refine rstep_value rfl (v := v') (w' := w') ?_ ⟨fun _ => hm.app0 d1 hdi n10 n16 hr' hg' hl', fun h => absurd (show d 18 = true from h) (by rw [n18]; simp)⟩
                              · simp only [hole, List.foldl_cons, List.foldl_nil, List.setIfInBounds_toArray, List.set_cons_zero, List.set_cons_succ]
                                simp [execOp, resolve, invoke, builtin, Act.eval, e160, Result.andThen]
                                rw [hrun]
                            | 8, _, hv, _ => exact absurd hv (by simp)
                            | 9, ho, _, hdi =>
                              obtain rfl := Option.some.inj ho
                              have e162 : y 162 = .slice aF nF cF := hcst 8 _ _ (by kernel_rfl) rfl rfl
                              have n10 : d 10 = false := Bool.eq_false_iff.2 fun h => by have h2 := hcl 10 9 (by kernel_rfl) h; rw [hdi] at h2; cases h2
                              have n16 : d 16 = false := Bool.eq_false_iff.2 fun h => by have h2 := hcl 16 10 (by kernel_rfl) h; rw [n10] at h2; cases h2
                              have n18 : d 18 = false := Bool.eq_false_iff.2 fun h => by have h2 := hcl 18 9 (by kernel_rfl) h; rw [hdi] at h2; cases h2
                              refine rstep_value rfl (v := .slice (some ⟨wx.heap.size, 0, none⟩) 1 1) (w' := wx.alloc (.cells #[.slice aF nF cF] 27)) ?_ ⟨fun _ => (hM.1 n18).allocB n10 n16, fun h => absurd (show d 18 = true from h) (by rw [n18]; simp)⟩
                              · simp only [hole, List.foldl_cons, List.foldl_nil, List.setIfInBounds_toArray, List.set_cons_zero, List.set_cons_succ]
                                go_simp
                            | 10, ho, _, hdi =>
                              obtain rfl := Option.some.inj ho
                              have d7 : d 7 = true := hd 7 (by kernel_rfl)
                              have d9 : d 9 = true := hd 9 (by kernel_rfl)
                              have n16 : d 16 = false := Bool.eq_false_iff.2 fun h => by have h2 := hcl 16 10 (by kernel_rfl) h; rw [hdi] at h2; cases h2
                              have n18 : d 18 = false := Bool.eq_false_iff.2 fun h => by have h2 := hcl 18 10 (by kernel_rfl) h; rw [hdi] at h2; cases h2
                              have hm := hM.1 n18
                              obtain ⟨g, e163, hgN, hh, -, -⟩ := hm.b d9 hdi
                              have hz := hm.z d7 hdi
                              obtain ⟨v', w', hrun, hr', hg', hl'⟩ := run_appF (ty := 22) hz (HU.out.kept (Sm.of_below hm.low)) hh (fun k hk e => by have h1 := (hz.own k e).1; have h2 := hk.2; omega) (by simp <;> omega) hm.low.size
                              refine rstep_value rfl (v := v') (w' := w') ?_ ⟨fun _ => hm.app1 d7 hdi n16 hr' hg', fun h => absurd (show d 18 = true from h) (by rw [n18]; simp)⟩
                              · simp only [hole, List.foldl_cons, List.foldl_nil, List.setIfInBounds_toArray, List.set_cons_zero, List.set_cons_succ]
                                simp [execOp, resolve, invoke, builtin, Act.eval, e163, Result.andThen]
                                rw [hrun]
                            | 11, _, hv, _ => exact absurd hv (by simp)
                            | 12, _, hv, _ => exact absurd hv (by simp)
                            | 13, _, hv, _ => exact absurd hv (by simp)
                            | 14, _, hv, _ => exact absurd hv (by simp)
                            | 15, _, hv, _ => exact absurd hv (by simp)
                            | 16, ho, _, hdi =>
                              obtain rfl := Option.some.inj ho
                              have e169 : y 169 = .slice (some ad2) (ls.length - mm) (cap - mm) := hcst 15 _ _ (by kernel_rfl) rfl rfl
                              have d10 : d 10 = true := hd 10 (by kernel_rfl)
                              have n18 : d 18 = false := Bool.eq_false_iff.2 fun h => by have h2 := hcl 18 16 (by kernel_rfl) h; rw [hdi] at h2; cases h2
                              have d7 : d 7 = true := hcl 10 7 (by kernel_rfl) d10
                              have hm := hM.1 n18
                              have ho := hm.o d10 hdi
                              obtain ⟨v', w', hrun, hr', hg', hl'⟩ := run_appR (ty := 22) ho HU3.out (HT3.out wx hm.low) (c := cap - mm) (fun k hk e => by have h1 := (ho.own k e).1; have h2 := hk.2; omega) (by simp <;> omega) hm.low.size
                              rw [HN3.out] at hrun
                              refine rstep_value rfl (v := v') (w' := w') ?_ ⟨fun _ => hm.app2 d7 d10 hdi hr' hg', fun h => absurd (show d 18 = true from h) (by rw [n18]; simp)⟩
                              · simp only [hole, List.foldl_cons, List.foldl_nil, List.setIfInBounds_toArray, List.set_cons_zero, List.set_cons_succ]
                                simp [execOp, resolve, invoke, builtin, Act.eval, e169, Result.andThen]
                                rw [hrun]
                            | 17, _, hv, _ => exact absurd hv (by simp)
                            | 18, ho, _, hdi =>
                              obtain rfl := Option.some.inj ho
                              have e171 : y 171 = .pointer (some ⟨bo, 0, none⟩) := hcst 17 _ _ (by kernel_rfl) rfl rfl
                              have d16 : d 16 = true := hd 16 (by kernel_rfl)
                              have hm := hM.1 hdi
                              have hr := hm.e d16
                              obtain ⟨a70, c70, e170⟩ := hr.form
                              have hb3 := HBXP.out.below hm.low HBXP.out.lt
                              have c0 := hb3.at (i := 0) rfl
                              have f0 := hb3.free 0
                              refine rstep_skip rfl (w' := wx.setCell ⟨bo, 0, none⟩ (y 170)) ?_ ⟨fun h => absurd (show (true || d 18) = false from h) (by simp), fun _ => ⟨y 170, wx, hr, hm.low, rfl⟩⟩
                              · simp only [hole, List.foldl_cons, List.foldl_nil, List.setIfInBounds_toArray, List.set_cons_zero, List.set_cons_succ]
                                rw [e170]
                                go_simp
                            | _ + 19, ho, _, _ => exact absurd ho (by simp)
                          · intro d y wx hd hcst hM
                            have e154 : y 154 = .pointer (some ⟨bo, 0, none⟩) := hcst 0 _ _ (by decide) rfl rfl
                            have d1 : d 1 = true := hd 1 (by decide)
                            have e156 : y 156 = .pointer (some ⟨bo, 0, none⟩) := hcst 2 _ _ (by decide) rfl rfl
                            have e157 : y 157 = .pointer (some ⟨bo, 0, none⟩) := hcst 3 _ _ (by decide) rfl rfl
                            have e158 : y 158 = .slice (some ⟨g, 0, none⟩) ls.length cap := hcst 4 _ _ (by decide) rfl rfl
                            have e159 : y 159 = .int .i64 (mm : Nat) := hcst 5 _ _ (by decide) rfl rfl
                            have e160 : y 160 = .slice (some ⟨g, 0, none⟩) mm cap := hcst 6 _ _ (by decide) rfl rfl
                            have d7 : d 7 = true := hd 7 (by decide)
                            have e162 : y 162 = .slice aF nF cF := hcst 8 _ _ (by decide) rfl rfl
                            have d9 : d 9 = true := hd 9 (by decide)
                            have d10 : d 10 = true := hd 10 (by decide)
                            have e165 : y 165 = .pointer (some ⟨bo, 0, none⟩) := hcst 11 _ _ (by decide) rfl rfl
                            have e166 : y 166 = .pointer (some ⟨bo, 0, none⟩) := hcst 12 _ _ (by decide) rfl rfl
                            have e167 : y 167 = .slice (some ⟨g, 0, none⟩) ls.length cap := hcst 13 _ _ (by decide) rfl rfl
                            have e168 : y 168 = .int .i64 (mm : Nat) := hcst 14 _ _ (by decide) rfl rfl
                            have e169 : y 169 = .slice (some ad2) (ls.length - mm) (cap - mm) := hcst 15 _ _ (by decide) rfl rfl
                            have d16 : d 16 = true := hd 16 (by decide)
                            have e171 : y 171 = .pointer (some ⟨bo, 0, none⟩) := hcst 17 _ _ (by decide) rfl rfl
                            have d18 : d 18 = true := hd 18 (by decide)
                            obtain ⟨v2, w3, hr3, hb3, rfl⟩ := hM.2 d18
                            clear hd hcst hM d1 d7 d9 d10 d16 d18
                            obtain ⟨z155, hz155⟩ : ∃ z, y 155 = z := ⟨_, rfl⟩
                            obtain ⟨z161, hz161⟩ : ∃ z, y 161 = z := ⟨_, rfl⟩
                            obtain ⟨z163, hz163⟩ : ∃ z, y 163 = z := ⟨_, rfl⟩
                            obtain ⟨z164, hz164⟩ : ∃ z, y 164 = z := ⟨_, rfl⟩
                            obtain ⟨z170, hz170⟩ : ∃ z, y 170 = z := ⟨_, rfl⟩
                            simp only [hole, List.foldl_cons, List.foldl_nil, List.setIfInBounds_toArray, List.set_cons_zero, List.set_cons_succ, e154, e156, e157, e158, e159, e160, e162, e165, e166, e167, e168, e169, e171, hz155, hz161, hz163, hz164, hz170]
                            clear e154 e156 e157 e158 e159 e160 e162 e165 e166 e167 e168 e169 e171 hz155 hz161 hz163 hz164 hz170
                            have hb3' := HBXP.out.below hb3 HBXP.out.lt
                            have HBX4 := Lib.hid (show Held (w3.setCell ⟨bo, 0, none⟩ v2) bo 22 [v2] from hb3'.put 0 v2)
                            have HSM4 := Lib.hid ((HSMP.out.trans (Sm.of_below hb3)).trans (Sm.put bo 0 v2))
                            have HO4 := Lib.hid (show OutI bo (w3.setCell ⟨bo, 0, none⟩ v2) v2 (degR q n (szE E) (backC E) b D L) from by
                              refine OutI.kept (.inr ⟨?_, ?_, ?_⟩) (Sm.put bo 0 v2)
                              · rw [HDY2.out, insP_length]; omega
                              · rw [HE2.out]; exact (hr3.mono fun _ hk => hk.1).base (Nat.zero_le _)
                              · intro k hk e; have h1 := (hr3.own k hk).1; have h2 := HBXP.out.lt; omega)
                            obtain ⟨w4, hw4⟩ : ∃ x, w3.setCell ⟨bo, 0, none⟩ v2 = x := ⟨_, rfl⟩
                            rw [hw4] at HBX4 HSM4 HO4 ⊢
                            clear hw4 hb3' hb3 hr3
                            go_wp2
                            go_roundw
                            case rel => exact ⟨D, v2, hD4, by go_num, HBX4.out, HO4.out, HSM4.out⟩
                            case measure => simp [intOf]; omega
                · have HDN2 := Lib.hid (HDNO.out hp1)
                  have hp1i : ¬ (pr : Int) = 1 := by omega
                  have hp1b : ((pr : Int) != 1) = true := by simp; omega
                  clear HDY HDNO hp1
                  go_wp2_with (first
                    | ((with_reducible refine is_load 29 ?_); refine wpl_load_rg (by rfl) _ (by rfl) bx [.slice (some ⟨gL, 0, none⟩) n cL, .slice (some ⟨gT, 0, none⟩) n cT, .slice (some ⟨gB, oB, none⟩) n cB, .slice (some ⟨gC, 0, none⟩) m cC, .slice (some ⟨gO, oO, none⟩) n cO, .int .i64 (q : Nat)] rfl (by rfl) hxF ?_)
                    | (go_at_call 34; refine P1.out.mono ?_; rintro e wP ⟨rfl, hbP⟩; have HBP := Lib.hid hbP; clear hbP))
                  go_roundw
                  case rel => exact ⟨D, vo', hD4, by go_num, HBXF.out.below HBP.out HBXF.out.lt, by rw [HDN2.out]; exact HODF.out.kept (Sm.of_below HBP.out), HSMF.out.trans (Sm.of_below HBP.out)⟩
                  case measure => simp [intOf]; omega
          · have hdni : ¬ (D : Int) * (D : Int) ≤ (n : Int) := by rw [hDD]; omega
            have HDE := Lib.hid (show addR q n (szE E) (backC E) (ksE E) L b = degR q n (szE E) (backC E) b dd L by
              rw [HAD.out]
              exact degR_end (by rw [HD.out]; exact hdn) hdd)
            clear hDD hdn hD25
            go_wp2
            go_end0
            exact ⟨rfl, vo', HBXD.out, by rw [HDE.out]; exact HOD.out, (Sm.of_below HB0.out).trans HSM.out⟩
  · have hbi1 : ¬ (b0 : Int) = 1 := by omega
    have hbb1 : ((b0 : Int) != 1) = true := by simp; omega
    have HR := Lib.hid (HADN.out (.inl hb01))
    clear hc1
    go_wp2
    (try simp only [Exit.inBlock, Exit.then])
    refine bodyPost_ret (results_none rfl _ _ _) rfl ?_
    exact ⟨rfl, _, HBX0.out, by rw [HR.out]; exact HOUT0.out, Sm.of_below HB0.out⟩
end Go.Proofs.YtdackakjcnnofaaGreat
