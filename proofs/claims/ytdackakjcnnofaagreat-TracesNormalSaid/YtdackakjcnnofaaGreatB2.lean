/- Z1 Z2 Z3 Z5 Z7 of the seat's texts, in this order. -/
import Derived.Test.YtdackakjcnnofaaGreatFr
import Derived.Test.YtdackakjcnnofaaGreatR2
import Derived.Test.YtdackakjcnnofaaGreatB1
import Derived.Test.YtdackakjcnnofaaGreatA13

/- The reference's group opened once and for all; its over and counts. -/
namespace Go.Proofs.YtdackakjcnnofaaGreat
open Go.RowKit
attribute [local go_sem] Oper.semAt_some

theorem Ints.atI {W : World} {u : Value} {l : List Int} (h : Ints W u l) {i : Nat} (hi : i < l.length) : ∃ b off c, u = .slice (some ⟨b, off, none⟩) l.length c ∧ b < W.heap.size ∧ W.cell? ⟨b, off + i, none⟩ = some (.int .i64 l[i]) := by
  obtain ⟨a, c, rfl, -, -, h3⟩ := h
  obtain ⟨b, off, rfl, hb, hc⟩ := h3 (fun e => by rw [e] at hi; simp at hi)
  exact ⟨b, off, c, rfl, hb, hc i hi⟩
/-- Where all of the reference's group lies. -/
structure RGO (E : List (List Nat)) (w : World) (gL gT gB oB gC gO oO cL cT cB cC cO : Nat) : Prop where
  cls : ∀ k (hk : k < (classesN E).length), ∃ aU cU, ∀ W, Below w.heap.size w W → W.cell? ⟨gC, k, none⟩ = some (.slice aU ((classesN E)[k]).length cU) ∧ Ints W (.slice aU ((classesN E)[k]).length cU) (toI (classesN E)[k])
  tab : ∀ a b, a < E.length → b < E.length → ∃ g2 o2 c2, ∀ W, Below w.heap.size w W → W.cell? ⟨gT, a, none⟩ = some (.slice (some ⟨g2, o2, none⟩) E.length c2) ∧ W.cell? ⟨g2, o2 + b, none⟩ = some (.int .i64 (timesN E a b : Nat))
  back : ∀ a, a < E.length → ∀ W, Below w.heap.size w W → W.cell? ⟨gB, oB + a, none⟩ = some (.int .i64 (invN E a : Nat))
  of : ∀ a, a < E.length → ∀ W, Below w.heap.size w W → W.cell? ⟨gO, oO + a, none⟩ = some (.int .i64 (clsOf E a : Nat))
theorem RGI.open {d : Nat} {E : List (List Nat)} {w : World} {gv : Value} (h : Grp d E) (hg : RGI d E w gv) :
    ∃ gL gT gB oB gC gO oO cL cT cB cC cO, gv = rgV (.slice (some ⟨gL, 0, none⟩) E.length cL) (.slice (some ⟨gT, 0, none⟩) E.length cT) (.slice (some ⟨gB, oB, none⟩) E.length cB) (.slice (some ⟨gC, 0, none⟩) (repsN E E.length).length cC) (.slice (some ⟨gO, oO, none⟩) E.length cO) (primeN E d : Nat) ∧ RGO E w gL gT gB oB gC gO oO cL cT cB cC cO := by
  obtain ⟨vL, vT, vB, vC, vO, rfl, hL, hT, hB, hC, hO⟩ := hg
  have hp := h.pos
  have hcl : (classesN E).length = (repsN E E.length).length := by simp [classesN]
  have hmp : 0 < (repsN E E.length).length := List.length_pos_of_mem (reps_mem.2 ⟨hp, first_iff.2 fun b hb => absurd hb (Nat.not_lt_zero _)⟩)
  obtain ⟨aC, cC, rfl⟩ := hC.form
  obtain ⟨aL, cL, rfl⟩ := hL.form
  obtain ⟨-, gC, rfl, hgC⟩ := rows_fix hC (by omega)
  obtain ⟨-, gL, rfl, -⟩ := rows_fix hL hp
  have hT0 := hT
  obtain ⟨gT, cT, g0, o0, c0, rfl, -, -, -, -⟩ := hT0.at hp hp
  obtain ⟨b1, oB, cB, e1, hb1, -⟩ := Ints.atN hB (i := 0) (by rw [backL_length]; exact hp)
  obtain ⟨b2, oO, cO, e2, hb2, -⟩ := Ints.atI hO (i := 0) (by rw [ofL_length]; exact hp)
  rw [backL_length] at e1
  rw [ofL_length] at e2
  subst e1
  subst e2
  rw [hcl]
  refine ⟨gL, gT, b1, oB, gC, b2, oO, cL, cT, cB, cC, cO, rfl, ⟨hgC, fun a b ha hb => ?_, fun a ha W hW => ?_, fun a ha W hW => ?_⟩⟩
  · obtain ⟨g, c, g2, o2, c2, e, h1, h2, hgl, hg2⟩ := hT.at ha hb
    obtain ⟨rfl, -, -⟩ : gT = g ∧ True ∧ True := by
      have := (Value.slice.inj e).1
      simp at this
      exact ⟨this, trivial, trivial⟩
    exact ⟨g2, o2, c2, fun W hW => ⟨(hW.cell (p := ⟨gT, a, none⟩) hgl).trans h1, (hW.cell (p := ⟨g2, o2 + b, none⟩) hg2).trans h2⟩⟩
  · obtain ⟨b3, o3, c3, e3, hb3, hc3⟩ := Ints.atN hB (i := a) (by rw [backL_length]; exact ha)
    obtain ⟨rfl, rfl⟩ : b1 = b3 ∧ oB = o3 := by
      have := (Value.slice.inj e3).1
      simp at this
      exact this
    rw [backL_at] at hc3
    exact (hW.cell (p := ⟨b1, oB + a, none⟩) hb3).trans hc3
  · obtain ⟨b3, o3, c3, e3, hb3, hc3⟩ := Ints.atI hO (i := a) (by rw [ofL_length]; exact ha)
    obtain ⟨rfl, rfl⟩ : b2 = b3 ∧ oO = o3 := by
      have := (Value.slice.inj e3).1
      simp at this
      exact this
    rw [ofL_at, h.clsOf_eq ha] at hc3
    exact (hW.cell (p := ⟨b2, oO + a, none⟩) hb3).trans hc3
theorem RGO.below {E : List (List Nat)} {w w' : World} {gL gT gB oB gC gO oO cL cT cB cC cO : Nat} (h : RGO E w gL gT gB oB gC gO oO cL cT cB cC cO) (hb : Below w.heap.size w w') : RGO E w' gL gT gB oB gC gO oO cL cT cB cC cO := by
  have tr : ∀ W, Below w'.heap.size w' W → Below w.heap.size w W := fun W hW => hb.trans (hW.mono hb.size)
  refine ⟨fun k hk => ?_, fun a b ha hb2 => ?_, fun a ha W hW => h.back a ha W (tr W hW), fun a ha W hW => h.of a ha W (tr W hW)⟩
  · obtain ⟨aU, cU, hr⟩ := h.cls k hk
    exact ⟨aU, cU, fun W hW => hr W (tr W hW)⟩
  · obtain ⟨g2, o2, c2, hr⟩ := h.tab a b ha hb2
    exact ⟨g2, o2, c2, fun W hW => hr W (tr W hW)⟩
set_option maxRecDepth 100000 in
set_option maxHeartbeats 1000000 in
theorem ROver_any (vL vT vB vC vO : Value) (q : Nat) (a b : Int) (w : World) (hq : 0 < q) (hq2 : q < 62) (ha : -10000000 ≤ a ∧ a ≤ 10000000) (hb : -10000000 ≤ b ∧ b ≤ 10000000) :
    Calls Tryz.prog 62 #[rgV vL vT vB vC vO (q : Nat), .int .i64 a, .int .i64 b] w fun e w' => e = .returned (.int .i64 (ovR q a b : Nat)) ∧ Below w.heap.size w w' := by
  have HQ0 := Lib.hid hq
  have hq0 : ¬ (q : Int) = 0 := by omega
  have hq0' : ((q : Int) == 0) = false := by simp; omega
  have HB0 := Lib.hid hb
  unfold rgV
  clear hb hq
  go_enter Tryz.func62, Tryz.ntmps62
  go_wp2
  go_loop [10] (fun ix => ∃ x : Nat, x ≤ q ∧ ix = .int .i64 x ∧ ∀ y : Nat, y < x → (b * (y : Int) - a).tmod q ≠ 0) (fun ix => q - (intOf ix).toNat)
  case atStart => exact ⟨0, Nat.zero_le _, rfl, fun y hy => by omega⟩
  case round =>
    obtain ⟨x, hx, rfl, hno⟩ := hrel
    have HNO := Lib.hid hno
    clear hno
    by_cases hlt : x < q
    · have hxi : (x : Int) < (q : Int) := by omega
      have hbx : -620000000 ≤ b * (x : Int) ∧ b * (x : Int) ≤ 620000000 := by
        have hb' := HB0.out
        constructor
        · have : (-10000000) * (x : Int) ≤ b * (x : Int) := Int.mul_le_mul_of_nonneg_right hb'.1 (by omega)
          omega
        · have : b * (x : Int) ≤ 10000000 * (x : Int) := Int.mul_le_mul_of_nonneg_right hb'.2 (by omega)
          omega
      have hw1 : IntKind.i64.wrap (b * (x : Int)) = b * (x : Int) := IntWalk.i64_in _ (by omega)
      have hw2 : IntKind.i64.wrap (b * (x : Int) - a) = b * (x : Int) - a := IntWalk.i64_in _ (by omega)
      have HAT := Lib.hid (fun he => ovR_at (a := a) (b := b) hlt he HNO.out)
      have HST := Lib.hid (fun (he : (b * (x : Int) - a).tmod q ≠ 0) => show ∀ y : Nat, y < x + 1 → (b * (y : Int) - a).tmod q ≠ 0 from fun y hy => by
        by_cases e : y = x
        · rw [e]; exact he
        · exact HNO.out y (by omega))
      have hts := tmod_small (b * (x : Int) - a) q HQ0.out hq2
      obtain ⟨m, hm⟩ : ∃ m, (b * (x : Int) - a).tmod q = m := ⟨_, rfl⟩
      rw [hm] at HAT HST hts
      by_cases hz : m = 0
      · have HR := Lib.hid (HAT.out hz)
        subst hz
        clear HAT HST
        go_wp2
        go_ret
        exact ⟨ret_int (by rw [HR.out]), (Below.refl _ _).alloc (Nat.le_refl _) _⟩
      · have hzb : (m == 0) = false := by simpa using hz
        have HS := Lib.hid (HST.out hz)
        clear HAT HST
        go_wp2
        go_round
        case rel => exact ⟨x + 1, hlt, by go_num, HS.out⟩
        case measure => simp [intOf]; omega
    · obtain rfl : x = q := by omega
      have hxi : ¬ (x : Int) < (x : Int) := by omega
      have HR := Lib.hid (ovR_no HNO.out)
      go_wp2
      go_ret
      exact ⟨ret_int (by rw [HR.out]; rfl), (Below.refl _ _).alloc (Nat.le_refl _) _⟩
end Go.Proofs.YtdackakjcnnofaaGreat

/- The reference's counts. -/
namespace Go.Proofs.YtdackakjcnnofaaGreat
open Go.RowKit
attribute [local go_sem] Oper.semAt_some

theorem cntR_take {E : List (List Nat)} {A : List Nat} {j k r : Nat} (hj : j < A.length) : cntR E (A.take (j + 1)) k r = cntR E (A.take j) k r + if clsOf E (timesN E (invN E A[j]) r) = k then 1 else 0 := by
  rw [List.take_succ_eq_append_getElem hj, cntR_snoc]
theorem cntsR_take {E : List (List Nat)} {c k i r : Nat} (hi : (repsN E E.length)[i]? = some r) : toI ((cntsR E c k).take (i + 1)) = toI ((cntsR E c k).take i) ++ [((cntR E ((classesN E).getD c []) k r : Nat) : Int)] := by
  have hil := (List.getElem?_eq_some_iff.1 hi)
  have hl : i < (cntsR E c k).length := by rw [cntsR_length]; exact hil.1
  rw [List.take_succ_eq_append_getElem hl, toI_append]
  congr 1
  unfold cntsR toI
  simp [hil.2]
set_option maxRecDepth 100000 in
set_option maxHeartbeats 2000000 in
theorem RCounts2_any {d : Nat} {E : List (List Nat)} (gv : Value) (c k : Nat) (w : World) (h : Grp d E) (h24 : E.length ≤ 24) (hg : RGI d E w gv) (hc : c < (repsN E E.length).length) :
    Calls Tryz.prog 87 #[gv, .int .i64 (c : Nat), .int .i64 (k : Nat)] w fun e w' => ∃ v', e = .returned v' ∧ OwnI 3 w.heap.size w' v' (toI (cntsR E c k)) ∧ Below w.heap.size w w' := by
  obtain ⟨gL, gT, gB, oB, gC, gO, oO, cL, cT, cB, cC, cO, rfl, hro⟩ := hg.open h
  have HR := Lib.hid hro
  have HCL := Lib.hid (show (classesN E).length = (repsN E E.length).length by simp [classesN])
  have hml := reps_len (E := E) E.length
  have HCM := Lib.hid (fun D (hD : D ∈ classesN E) => (classes_len hD).2)
  have HCLE := Lib.hid (fun D (hD : D ∈ classesN E) => (classes_len hD).1)
  have HTL := Lib.hid (fun a b ha hb => h.timesN_lt (a := a) (b := b) ha hb)
  have HIL := Lib.hid (fun a ha => (h.inv_spec (a := a) ha).1)
  have HCF := Lib.hid (fun k h1 h2 => h.cls_first (k := k) h1 h2)
  have HNL := Lib.hid (cntsR_length (E := E) c k)
  have hcC : c < (classesN E).length := by rw [HCL.out]; exact hc
  have HGD := Lib.hid (show (classesN E).getD c [] = (classesN E)[c] by rw [List.getD_eq_getElem?_getD, List.getElem?_eq_getElem hcC]; rfl)
  obtain ⟨aA, cA, hrowA⟩ := hro.cls c hcC
  have HAM := Lib.hid (HCM.out _ (List.getElem_mem hcC))
  have hal := HCLE.out _ (List.getElem_mem hcC)
  obtain ⟨A, hA⟩ : ∃ A, (classesN E)[c] = A := ⟨_, rfl⟩
  rw [hA] at HGD HAM hrowA hal
  have HRA := Lib.hid hrowA
  obtain ⟨n, hn⟩ : ∃ n, E.length = n := ⟨_, rfl⟩
  have HN := Lib.hid hn
  have HRM := Lib.hid (fun i (hi : i < (repsN E E.length).length) => show (repsN E E.length)[i] < E.length from (reps_mem.1 (List.getElem_mem hi)).1)
  obtain ⟨m, hmm⟩ : ∃ m, (repsN E E.length).length = m := ⟨_, rfl⟩
  have HMM := Lib.hid hmm
  obtain ⟨z, hz⟩ : ∃ z, A.length = z := ⟨_, rfl⟩
  have HZ := Lib.hid hz
  rw [hmm, hn] at hml
  rw [hn] at h24 hal
  rw [hz] at hal
  rw [hmm] at hc
  rw [hmm, hn]
  have hcm : (c : Int) < (m : Int) := by omega
  clear h hg hro hmm hn hz hA hrowA hcC
  unfold rgV
  go_enter Tryz.func87, Tryz.ntmps87
  have HX0 := Lib.hid (Held.new w 29 [.slice (some ⟨gL, 0, none⟩) n cL, .slice (some ⟨gT, 0, none⟩) n cT, .slice (some ⟨gB, oB, none⟩) n cB, .slice (some ⟨gC, 0, none⟩) m cC, .slice (some ⟨gO, oO, none⟩) n cO, .int .i64 (primeN E d : Nat)])
  have HB0 := Lib.hid (show Below w.heap.size w (w.alloc (.cells #[.slice (some ⟨gL, 0, none⟩) n cL, .slice (some ⟨gT, 0, none⟩) n cT, .slice (some ⟨gB, oB, none⟩) n cB, .slice (some ⟨gC, 0, none⟩) m cC, .slice (some ⟨gO, oO, none⟩) n cO, .int .i64 (primeN E d : Nat)] 29)) from (Below.refl _ _).alloc (Nat.le_refl _) _)
  go_wp2_with fail
  obtain ⟨bx, hbx⟩ : ∃ x, w.heap.size = x := ⟨_, rfl⟩
  obtain ⟨W0, hW0⟩ : ∃ x, w.alloc (.cells #[.slice (some ⟨gL, 0, none⟩) n cL, .slice (some ⟨gT, 0, none⟩) n cT, .slice (some ⟨gB, oB, none⟩) n cB, .slice (some ⟨gC, 0, none⟩) m cC, .slice (some ⟨gO, oO, none⟩) n cO, .int .i64 (primeN E d : Nat)] 29) = x := ⟨_, rfl⟩
  have HBXW := Lib.hid hbx
  rw [hbx] at HX0 ⊢
  have HX1 := Lib.hid (show Held W0 bx 29 [.slice (some ⟨gL, 0, none⟩) n cL, .slice (some ⟨gT, 0, none⟩) n cT, .slice (some ⟨gB, oB, none⟩) n cB, .slice (some ⟨gC, 0, none⟩) m cC, .slice (some ⟨gO, oO, none⟩) n cO, .int .i64 (primeN E d : Nat)] by rw [← hW0]; exact HX0.out)
  rw [hW0] at HB0 ⊢
  clear hW0 HX0 hbx
  go_loopw [7, 16] (fun vr ix wr => ∃ i : Nat, i ≤ m ∧ ix = .int .i64 i ∧ OwnI 3 W0.heap.size wr vr (toI ((cntsR E c k).take i)) ∧ Below W0.heap.size W0 wr) (fun _ ix _ => m - (intOf ix).toNat)
  case atStart => exact ⟨0, Nat.zero_le _, rfl, OwnI.nil _ _ _, Below.refl _ _⟩
  case round =>
    obtain ⟨i, hi, rfl, ho, hb0⟩ := hrel
    obtain ⟨wA, rfl⟩ : ∃ x, x = wr := ⟨_, rfl⟩
    have HO := Lib.hid ho
    have HB := Lib.hid (HB0.out.trans (hb0.mono HB0.out.size))
    have HBA := Lib.hid hb0
    obtain ⟨aR, nR, cR, rfl⟩ := own_form ho
    have hle := hb0.size
    clear ho
    by_cases hlt : i < m
    · have hii : (i : Int) < (m : Int) := by omega
      have hi2 : i < (repsN E E.length).length := by rw [HMM.out]; exact hlt
      have hkc : i < (classesN E).length := by rw [HCL.out]; exact hi2
      obtain ⟨aU, cU, hrow⟩ := HR.out.cls i hkc
      have hcr := (hrow wA HB.out).1
      have hcl := HCF.out i hkc hi2
      have hpos : 0 < ((classesN E)[i]).length := (List.getElem?_eq_some_iff.1 hcl).1
      obtain ⟨b1, o1, c1, he, hb1, hc1⟩ := Ints.atN (hrow wA HB.out).2 hpos
      obtain ⟨rfl, -, -⟩ := Value.slice.inj he
      have hrl := HRM.out i hi2
      rw [(List.getElem?_eq_some_iff.1 hcl).2, Nat.add_zero] at hc1
      have HT := Lib.hid (cntsR_take (E := E) (c := c) (k := k) (List.getElem?_eq_getElem hi2))
      obtain ⟨r, hr⟩ : ∃ r, (repsN E E.length)[i] = r := ⟨_, rfl⟩
      rw [hr] at hc1 hrl HT
      rw [HGD.out] at HT
      have HRL := Lib.hid hrl
      obtain ⟨y, hy⟩ : ∃ y, ((classesN E)[i]).length = y := ⟨_, rfl⟩
      rw [hy] at hcr hpos
      have hyi : (0 : Int) < (y : Int) := by omega
      have hri : (r : Int) < (n : Int) := by have := HN.out; omega
      have hr0 : (0 : Int) ≤ (r : Int) := by omega
      have hx3 := (HX1.out.below HBA.out HX1.out.lt).at (i := 3) rfl
      have hcA := (HRA.out wA HB.out).1
      rw [HZ.out] at hcA
      have HTLN := Lib.hid (show (toI ((cntsR E c k).take i)).length < 1000000 by rw [toI_length, List.length_take, HNL.out, HMM.out]; omega)
      clear hrow hcl he hr hy hb0
      go_wp2_with fail
      go_loopw [10, 26] (fun s jx wq => ∃ j : Nat, j ≤ z ∧ jx = .int .i64 j ∧ s = .int .i64 (cntR E (A.take j) k r : Nat) ∧ Below wA.heap.size wA wq) (fun _ jx _ => z - (intOf jx).toNat)
      case atStart => exact ⟨0, Nat.zero_le _, rfl, rfl, Below.refl _ _⟩
      case round =>
        obtain ⟨j, hj, rfl, rfl, hbq⟩ := hrel
        have HBQ := Lib.hid hbq
        have hfl := cntR_le (E := E) (A.take j) k r
        rw [List.length_take] at hfl
        have hleq := hbq.size
        have HBW := Lib.hid (HB.out.trans (hbq.mono HB.out.size))
        by_cases hjl : j < z
        · have hji : (j : Int) < (z : Int) := by omega
          have hjA : j < A.length := by rw [HZ.out]; exact hjl
          obtain ⟨b2, o2, c2, he2, -, hcx⟩ := Ints.atN (HRA.out wr HBW.out).2 (i := j) hjA
          obtain ⟨rfl, -, -⟩ := Value.slice.inj he2
          have ham := HAM.out _ (List.getElem_mem hjA)
          have HS := Lib.hid (cntR_take (E := E) (k := k) (r := r) hjA)
          obtain ⟨a, ha⟩ : ∃ a, A[j] = a := ⟨_, rfl⟩
          rw [ha] at hcx ham HS
          have hvl := HIL.out a ham
          have hbk := HR.out.back a ham wr HBW.out
          obtain ⟨v, hv⟩ : ∃ v, invN E a = v := ⟨_, rfl⟩
          rw [hv] at hvl hbk HS
          obtain ⟨g2, p2, q2, htab⟩ := HR.out.tab v r hvl HRL.out
          obtain ⟨ht1, ht2⟩ := htab wr HBW.out
          have htl := HTL.out v r hvl HRL.out
          obtain ⟨t, ht⟩ : ∃ t, timesN E v r = t := ⟨_, rfl⟩
          rw [ht] at ht2 htl HS
          have hof := HR.out.of t htl wr HBW.out
          obtain ⟨o, hoo⟩ : ∃ o, clsOf E t = o := ⟨_, rfl⟩
          rw [hoo] at hof HS
          rw [HN.out] at ham hvl htl ht1
          have i1 : (a : Int) < (n : Int) := by omega
          have i2 : (v : Int) < (n : Int) := by omega
          have i3 : (t : Int) < (n : Int) := by omega
          have j1 : (0 : Int) ≤ (a : Int) := by omega
          have j2 : (0 : Int) ≤ (v : Int) := by omega
          have j3 : (0 : Int) ≤ (t : Int) := by omega
          have hxq := HX1.out.below (HBA.out.trans (hbq.mono hle)) HX1.out.lt
          have hx1 := hxq.at (i := 1) rfl
          have hx2 := hxq.at (i := 2) rfl
          have hx4 := hxq.at (i := 4) rfl
          have hr1 := (hb1 : b1 < wA.heap.size)
          have hcr1 : wr.cell? ⟨b1, o1, none⟩ = some (.int .i64 (r : Nat)) := (hbq.cell (p := ⟨b1, o1, none⟩) hb1).trans hc1
          obtain ⟨f, hf⟩ : ∃ f, cntR E (A.take j) k r = f := ⟨_, rfl⟩
          rw [hf] at HS hfl ⊢
          clear hbq he2 ha hv htab ht hoo hf hxq
          by_cases hok : o = k
          · have HS2 := Lib.hid (show cntR E (A.take (j + 1)) k r = f + 1 by rw [HS.out, if_pos hok])
            subst hok
            go_wp2_with fail
            go_quiet (fail)
            go_wp2
            go_roundw
            case rel => exact ⟨j + 1, hjl, by go_num, by rw [HS2.out]; go_num, below_drewN HBQ.out _⟩
            case measure => simp [intOf]; omega
          · have HS2 := Lib.hid (show cntR E (A.take (j + 1)) k r = f by rw [HS.out, if_neg hok]; rfl)
            have hoki : ¬ (o : Int) = (k : Int) := by omega
            have hokb : ((o : Int) == (k : Int)) = false := by simp; omega
            clear hok
            go_wp2_with fail
            go_quiet (fail)
            go_wp2
            go_roundw
            case rel => exact ⟨j + 1, hjl, by go_num, by rw [HS2.out], below_drewN HBQ.out _⟩
            case measure => simp [intOf]; omega
        · obtain rfl : j = z := by omega
          have hji : ¬ (j : Int) < (j : Int) := by omega
          have HTA := Lib.hid (show A.take j = A from List.take_of_length_le (by rw [HZ.out]; exact Nat.le_refl _))
          rw [HTA.out] at hfl ⊢
          obtain ⟨f, hf⟩ : ∃ f, cntR E A k r = f := ⟨_, rfl⟩
          rw [hf] at HT ⊢
          have HO2 := Lib.hid (HO.out.below hbq)
          clear hf hbq
          go_wp2_with (at_builtin; refine wpList_app1_at rfl _ _ rfl W0.heap.size _ (toI ((cntsR E c k).take i)) ((f : Nat) : Int) rfl (HO2.out.alloc _) ⟨_, 0, none⟩ 1 rfl (cell_new1 _ _ _) HTLN.out (by simp; omega) ?_; intro v4 w4 ho4 hg4 hl4; have HO4 := Lib.hid ho4; have HG4 := Lib.hid hg4; clear ho4 hg4 hl4)
          go_roundw
          case rel => exact ⟨i + 1, hlt, by go_num, by rw [HT.out]; exact HO4.out, ((HBA.out.trans (HBQ.out.mono hle)).alloc (by omega) _).grown HG4.out (by simp; omega) (fun j hj => (HO.out.lt j hj).1)⟩
          case measure => simp [intOf]; omega
    · obtain rfl : i = m := by omega
      have hii : ¬ (i : Int) < (i : Int) := by omega
      go_wp2
      go_ret
      have h0 := HO.out
      rw [List.take_of_length_le (by rw [HNL.out, HMM.out]; exact Nat.le_refl _)] at h0
      exact ⟨_, rfl, OwnI.mono h0 (by have := HB0.out.size; omega), HB.out⟩
end Go.Proofs.YtdackakjcnnofaaGreat

/- Matrices in memory whose rows are changed in place. -/
namespace Go.Proofs.YtdackakjcnnofaaGreat
open Go.RowKit
attribute [local go_sem] Oper.semAt_some

/-- A guard: the operation under way writes slot d. -/
theorem at_dst (d : Nat) {P : Program} {ops : Array Oper} {Q : Exit → Act → World → Prop} {K : Act → World → Prop} {E : Prop} {a : Act} {w : World} {x : Op} {t : TypeId} {pos : String} {af : Array Edge} {g : Option (Nat × Bool)}
    (h : if Region.wanted { dst := some d, op := x, type := t, pos := pos, after := af, guard := g } (yielded ops a.tmps) = true then Oper.wp P { dst := some d, op := x, type := t, pos := pos, after := af, guard := g } a w K Q else E) :
    if Region.wanted { dst := some d, op := x, type := t, pos := pos, after := af, guard := g } (yielded ops a.tmps) = true then Oper.wp P { dst := some d, op := x, type := t, pos := pos, after := af, guard := g } a w K Q else E := h
/-- A row in its own block. -/
def RowB (n : Nat) (w : World) (u : Value) (x : Nat × List Int) : Prop := ∃ cap, u = .slice (some ⟨x.1, 0, none⟩) n cap ∧ x.2.length = n ∧ OwnI 3 0 w (.slice (some ⟨x.1, 0, none⟩) n cap) x.2
theorem own_kx {t : TypeId} {B : Nat} {w w' : World} {v : Value} {xs : List Int} (h : OwnI 3 B w v xs) (hk : KX t w w') (hne : (3 : TypeId) ≠ t) : OwnI 3 B w' v xs := by
  have hty := fun k hk => own_ty (e := 3) (k := k) h hk
  obtain ⟨h1, h2⟩ := h
  refine ⟨h1, ?_⟩
  rcases h2 with h2 | ⟨g, cap, cur, rfl, hb, hg, r⟩
  · exact .inl h2
  · refine .inr ⟨g, cap, cur, rfl, hb, ?_, r⟩
    have h3 := hty g rfl
    rw [hk.block g (ty_lt h3) (by rw [h3]; exact fun e => hne (Option.some.inj e))]
    exact hg
theorem RowB.keep {n : Nat} {t : TypeId} (ht : t ≠ 3) : KeepR t (RowB n) := fun _ _ _ _ hk ⟨cap, e, hl, h⟩ => ⟨cap, e, hl, own_kx h hk (Ne.symm ht)⟩
theorem RowB.one {n : Nat} (w : World) (u : Value) (x : Nat × List Int) (h : RowB n w u x) : u.oneCell' = true := by obtain ⟨cap, rfl, _⟩ := h; rfl
theorem ne_ii : (27 : TypeId) ≠ 3 := by decide
theorem ne_mi : (1000000 : TypeId) ≠ 3 := by decide
/-- No two rows in one block. -/
def Inj (M : List (Nat × List Int)) : Prop := ∀ (i j b : Nat) (xs ys : List Int), M[i]? = some (b, xs) → M[j]? = some (b, ys) → i = j
theorem Inj.nil : Inj [] := fun i j b xs ys h => by simp at h
theorem Inj.set {M : List (Nat × List Int)} (h : Inj M) {i b : Nat} {xs : List Int} (hi : M[i]? = some (b, xs)) (zs : List Int) : Inj (M.set i (b, zs)) := by
  have key : ∀ (j c : Nat) (ys : List Int), (M.set i (b, zs))[j]? = some (c, ys) → ∃ ys' : List Int, M[j]? = some (c, ys') := fun j c ys hj => by
    by_cases e : i = j
    · subst e
      rw [List.getElem?_set_self (List.getElem?_eq_some_iff.1 hi).1] at hj
      obtain ⟨rfl, rfl⟩ := Prod.mk.inj (Option.some.inj hj)
      exact ⟨_, hi⟩
    · rw [List.getElem?_set_ne e] at hj
      exact ⟨_, hj⟩
  intro j k c ys ys' h1 h2
  obtain ⟨y1, e1⟩ := key j c ys h1
  obtain ⟨y2, e2⟩ := key k c ys' h2
  exact h j k c y1 y2 e1 e2
theorem Inj.snoc {M : List (Nat × List Int)} (h : Inj M) {b : Nat} {xs : List Int} (hb : ∀ (i c : Nat) (ys : List Int), M[i]? = some (c, ys) → c ≠ b) : Inj (M ++ [(b, xs)]) := by
  have key : ∀ (j c : Nat) (ys : List Int), (M ++ [(b, xs)])[j]? = some (c, ys) → (M[j]? = some (c, ys)) ∨ (j = M.length ∧ c = b) := fun j c ys hj => by
    by_cases e : j < M.length
    · rw [List.getElem?_append_left e] at hj
      exact .inl hj
    · rw [List.getElem?_append_right (by omega)] at hj
      have h0 : j - M.length = 0 := by
        have := (List.getElem?_eq_some_iff.1 hj).1
        simp at this; omega
      rw [h0] at hj
      simp at hj
      exact .inr ⟨by omega, hj.1.symm⟩
  intro i j c ys ys' h1 h2
  rcases key i c ys h1 with e1 | ⟨e1, rfl⟩
  · rcases key j c ys' h2 with e2 | ⟨_, rfl⟩
    · exact h i j c ys ys' e1 e2
    · exact absurd rfl (hb i _ ys e1)
  · rcases key j _ ys' h2 with e2 | ⟨e2, _⟩
    · exact absurd rfl (hb j _ ys' e2)
    · omega
theorem swap_get {M : List (Nat × List Int)} {a k : Nat} {p r : Nat × List Int} (ha : M[a]? = some p) (hk : M[k]? = some r) (j : Nat) :
    ((M.set a r).set k p)[j]? = M[if j = k then a else if j = a then k else j]? := by
  have hal := (List.getElem?_eq_some_iff.1 ha).1
  have hkl := (List.getElem?_eq_some_iff.1 hk).1
  by_cases e1 : j = k
  · subst e1
    rw [if_pos rfl, List.getElem?_set_self (by rw [List.length_set]; exact hkl), ha]
  · rw [if_neg e1, List.getElem?_set_ne (Ne.symm e1)]
    by_cases e2 : j = a
    · subst e2
      rw [if_pos rfl, List.getElem?_set_self hal, hk]
    · rw [if_neg e2, List.getElem?_set_ne (Ne.symm e2)]
theorem Inj.swap {M : List (Nat × List Int)} (h : Inj M) {a k : Nat} {p r : Nat × List Int} (ha : M[a]? = some p) (hk : M[k]? = some r) : Inj ((M.set a r).set k p) := by
  intro i j c ys ys' h1 h2
  rw [swap_get ha hk] at h1 h2
  have := h _ _ c ys ys' h1 h2
  repeat' split at this
  all_goals omega
section
variable {n B : Nat} {w : World} {v : Value} {M : List (Nat × List Int)}
/-- A matrix: its rows in blocks of their own. -/
def MatI (n B : Nat) (w : World) (v : Value) (M : List (Nat × List Int)) : Prop := OwnG 27 (RowB n) B w v M ∧ Inj M ∧ ∀ (i b : Nat) (xs : List Int), M[i]? = some (b, xs) → B ≤ b
theorem MatI.nil (n B : Nat) (w : World) : MatI n B w (.slice none 0 0) [] := ⟨OwnG.nil _ _ _ _, Inj.nil, fun i b xs h => by simp at h⟩
theorem MatI.below {w' : World} (h : MatI n B w v M) (hb : Below w.heap.size w w') : MatI n B w' v M := ⟨h.1.below hb (RowB.keep ne_mi), h.2⟩
theorem MatI.form (h : MatI n B w v M) : ∃ a c, v = .slice a M.length c := h.1.form
/-- A row and its cells. -/
theorem MatI.row (h : MatI n B w v M) {i b : Nat} {xs : List Int} (hi : M[i]? = some (b, xs)) :
    ∃ g c cap, v = .slice (some ⟨g, 0, none⟩) M.length c ∧ B ≤ g ∧ g < w.heap.size ∧ typeAt w g = some 27 ∧ w.cell? ⟨g, i, none⟩ = some (.slice (some ⟨b, 0, none⟩) n cap) ∧ w.frozen? ⟨g, i, none⟩ = false ∧ xs.length = n ∧ OwnI 3 0 w (.slice (some ⟨b, 0, none⟩) n cap) xs ∧ B ≤ b := by
  obtain ⟨hil, hie⟩ := List.getElem?_eq_some_iff.1 hi
  obtain ⟨g, c, u, rfl, hB, hg, hty, hc, cap, rfl, hl, ho⟩ := h.1.at i hil
  rw [hie] at hc hl ho
  exact ⟨g, c, cap, rfl, hB, hg, hty, hc, h.1.free i, hl, ho, h.2.2 i b xs hi⟩
theorem MatI.block (h : MatI n B w v M) {i b : Nat} {xs : List Int} (hi : M[i]? = some (b, xs)) : b < w.heap.size ∧ typeAt w b = some 3 := by
  obtain ⟨g, c, cap, -, -, -, -, -, -, -, ho, -⟩ := h.row hi
  exact ⟨(World.ownsRow.lt ho b rfl).2, own_ty ho rfl⟩
/-- An entry is stored. -/
theorem MatI.put (h : MatI n B w v M) {i b : Nat} {xs : List Int} (hi : M[i]? = some (b, xs)) (j : Nat) (y : Int) : MatI n B (w.setCell ⟨b, j, none⟩ (.int .i64 y)) v (M.set i (b, xs.set j y)) := by
  have hbt := (h.block hi).2
  obtain ⟨hG, hI, hL⟩ := h
  refine ⟨?_, hI.set hi _, fun j' c ys hj => ?_⟩
  · have hG' := hG
    obtain ⟨vs, ho, hr⟩ := hG
    have hS := Sm.put (w := w) b j (.int .i64 y)
    refine ⟨vs, ?_, fun i' u z h1 h2 => ?_⟩
    · rw [List.length_set]
      refine own_sm ho hS fun k hk => ?_
      have := (hG'.own hk).2.2
      intro e
      subst e
      rw [hbt] at this
      exact absurd this (by decide)
    · by_cases e : i = i'
      · subst e
        rw [List.getElem?_set_self (List.getElem?_eq_some_iff.1 hi).1] at h2
        have := Option.some.inj h2
        subst this
        obtain ⟨cap, rfl, hl, hw⟩ := hr i u (b, xs) h1 hi
        refine ⟨cap, rfl, by simpa using hl, ?_⟩
        have hl' : xs.length = n := hl
        subst hl'
        have := OwnI.stored hw j y
        simpa using this
      · rw [List.getElem?_set_ne e] at h2
        obtain ⟨cap, rfl, hl, hw⟩ := hr i' u z h1 h2
        refine ⟨cap, rfl, hl, own_sm' hw hS fun k hk hkb => ?_⟩
        have e1 : z.1 = k := by simpa [Value.ownBlock] using hk
        have := hI i i' b xs z.2 hi (by rw [h2, ← hkb, ← e1])
        exact e this
  · by_cases e : i = j'
    · subst e
      rw [List.getElem?_set_self (List.getElem?_eq_some_iff.1 hi).1] at hj
      obtain ⟨rfl, -⟩ := Prod.mk.inj (Option.some.inj hj)
      exact hL i _ xs hi
    · rw [List.getElem?_set_ne e] at hj
      exact hL j' c ys hj
/-- Two rows are exchanged, by two stores. -/
theorem MatI.swap {g c m ca cb : Nat} (h : MatI n B w (.slice (some ⟨g, 0, none⟩) m c) M) {a k b1 b2 : Nat} {xs ys : List Int} (ha : M[a]? = some (b1, xs)) (hk : M[k]? = some (b2, ys))
    (ca1 : w.cell? ⟨g, a, none⟩ = some (.slice (some ⟨b1, 0, none⟩) n ca)) (ck1 : w.cell? ⟨g, k, none⟩ = some (.slice (some ⟨b2, 0, none⟩) n cb)) :
    MatI n B ((w.setCell ⟨g, a, none⟩ (.slice (some ⟨b2, 0, none⟩) n cb)).setCell ⟨g, k, none⟩ (.slice (some ⟨b1, 0, none⟩) n ca)) (.slice (some ⟨g, 0, none⟩) m c) ((M.set a (b2, ys)).set k (b1, xs)) := by
  obtain ⟨g1, c1, cap1, e1, -, -, hty, h1, -, hl1, ho1, hB1⟩ := h.row ha
  obtain ⟨g2, c2, cap2, e2, -, -, -, h2, -, hl2, ho2, hB2⟩ := h.row hk
  obtain ⟨rfl⟩ : g = g1 := by have := (Value.slice.inj e1).1; simpa using this
  obtain ⟨rfl⟩ : g = g2 := by have := (Value.slice.inj e2).1; simpa using this
  rw [ca1] at h1
  rw [ck1] at h2
  have q1 : ca = cap1 := (Value.slice.inj (Option.some.inj h1)).2.2
  have q2 : cb = cap2 := (Value.slice.inj (Option.some.inj h2)).2.2
  subst q1
  subst q2
  have s1 := h.1.stored a (u := .slice (some ⟨b2, 0, none⟩) n cb) (x := (b2, ys)) ⟨cb, rfl, hl2, ho2⟩ (RowB.keep ne_ii)
  have hk1 : KX 27 w (w.setCell ⟨g, a, none⟩ (.slice (some ⟨b2, 0, none⟩) n cb)) := KX.put hty a _
  have s2 := s1.stored k (u := .slice (some ⟨b1, 0, none⟩) n ca) (x := (b1, xs)) ⟨ca, rfl, hl1, own_kx ho1 hk1 (Ne.symm ne_ii)⟩ (RowB.keep ne_ii)
  refine ⟨s2, h.2.1.swap ha hk, fun j b zs hj => ?_⟩
  rw [swap_get ha hk] at hj
  exact h.2.2 _ b zs hj
theorem MatI.free (h : MatI n B w v M) {i b : Nat} {xs : List Int} (hi : M[i]? = some (b, xs)) (j : Nat) : w.frozen? ⟨b, j, none⟩ = false := by
  obtain ⟨g, c, cap, -, -, -, -, -, -, hl, ho, -⟩ := h.row hi
  subst hl
  exact OwnI.free ho j rfl
theorem MatI.ent (h : MatI n B w v M) {i b : Nat} {xs : List Int} (hi : M[i]? = some (b, xs)) {j : Nat} (hj : j < xs.length) : w.cell? ⟨b, j, none⟩ = some (.int .i64 xs[j]) := by
  obtain ⟨g, c, cap, -, -, -, -, -, -, hl, ho, -⟩ := h.row hi
  exact OwnI.cellN ho hl.symm hj
end
end Go.Proofs.YtdackakjcnnofaaGreat

/- The reference's product of two functions. -/
namespace Go.Proofs.YtdackakjcnnofaaGreat
open Go.RowKit
attribute [local go_sem] Oper.semAt_some

/-- A function of a group. -/
def FunQ (q m : Nat) (f : List Int) : Prop := f.length = m ∧ ∀ x ∈ f, 0 ≤ x ∧ x < (q : Int)
theorem FunQ.getD {q m k : Nat} {f : List Int} (h : FunQ q m f) (hq : 0 < q) : 0 ≤ f.getD k 0 ∧ f.getD k 0 < (q : Int) := by
  rw [List.getD_eq_getElem?_getD]
  cases hk : f[k]? with
  | none => exact ⟨by simp, by simp; omega⟩
  | some x => exact h.2 x (List.mem_of_getElem? hk)
theorem FunQ.at {q m k : Nat} {f : List Int} (h : FunQ q m f) (hk : k < m) : ∃ hl : k < f.length, f[k]'hl = f.getD k 0 := by
  have hl : k < f.length := by rw [h.1]; exact hk
  exact ⟨hl, by rw [List.getD_eq_getElem?_getD, List.getElem?_eq_getElem hl]; rfl⟩
theorem tmod_pos {n : Int} {q : Nat} (h0 : 0 ≤ n) (hq : 0 < q) : 0 ≤ n.tmod q ∧ n.tmod q < (q : Int) := by
  rw [Int.tmod_eq_emod_of_nonneg h0]
  exact ⟨Int.emod_nonneg _ (by omega), Int.emod_lt_of_pos _ (by omega)⟩
theorem sumR_le {q m : Nat} {sz bk : List Nat} {f h : List Int} (hq : 0 < q) (hq2 : q < 62) (hf : FunQ q m f) (hh : FunQ q m h) : ∀ k, 0 ≤ sumR q sz bk f h k ∧ sumR q sz bk f h k ≤ 4000 * (k : Int)
  | 0 => by simp [sumR]
  | k + 1 => by
    have ih := sumR_le (sz := sz) (bk := bk) hq hq2 hf hh k
    have h1 := tmod_pos (n := ((sz.getD k 0 : Nat) : Int)) (by omega) hq
    have h2 := hf.getD (k := k) hq
    have h3 := tmod_pos (n := ((sz.getD k 0 : Nat) : Int).tmod q * f.getD k 0) (Int.mul_nonneg h1.1 h2.1) hq
    have h4 := hh.getD (k := bk.getD k 0) hq
    have h5 := Int.mul_nonneg h3.1 h4.1
    have h6 : (((sz.getD k 0 : Nat) : Int).tmod q * f.getD k 0).tmod q * h.getD (bk.getD k 0) 0 ≤ 62 * 62 := Int.mul_le_mul (by omega) (by omega) h4.1 (by omega)
    unfold sumR
    omega
theorem szE_at {E : List (List Nat)} {k : Nat} (hk : k < (classesN E).length) : (szE E).getD k 0 = ((classesN E)[k]).length := by
  unfold szE
  rw [List.getD_eq_getElem?_getD, List.getElem?_map, List.getElem?_eq_getElem hk]; rfl
theorem backC_at {E : List (List Nat)} {k : Nat} (hk : k < (repsN E E.length).length) : (backC E).getD k 0 = clsOf E (invN E ((repsN E E.length)[k])) := by
  unfold backC
  rw [List.getD_eq_getElem?_getD, List.getElem?_map, List.getElem?_eq_getElem hk]; rfl
set_option maxRecDepth 100000 in
set_option maxHeartbeats 2000000 in
theorem RProduct_any {d : Nat} {E : List (List Nat)} (gv vf vh : Value) (F G : List Int) (w : World) (h : Grp d E) (h24 : E.length ≤ 24) (hg : RGI d E w gv) (hq1 : 0 < primeN E d) (hq2 : primeN E d < 62) (hF : FunQ (primeN E d) (repsN E E.length).length F) (hG : FunQ (primeN E d) (repsN E E.length).length G) (hvf : Ints w vf F) (hvh : Ints w vh G) :
    Calls Tryz.prog 34 #[gv, vf, vh] w fun e w' => e = .returned (.int .i64 (prodR (primeN E d) E.length (szE E) (backC E) F G : Nat)) ∧ Below w.heap.size w w' := by
  obtain ⟨gL, gT, gB, oB, gC, gO, oO, cL, cT, cB, cC, cO, rfl, hro⟩ := hg.open h
  have HR := Lib.hid hro
  have OV := Lib.hid (show ∀ (a b : Int) (W : World), (-10000000 ≤ a ∧ a ≤ 10000000) → (-10000000 ≤ b ∧ b ≤ 10000000) → Calls Tryz.prog 62 #[.agg #[.slice (some ⟨gL, 0, none⟩) E.length cL, .slice (some ⟨gT, 0, none⟩) E.length cT, .slice (some ⟨gB, oB, none⟩) E.length cB, .slice (some ⟨gC, 0, none⟩) (repsN E E.length).length cC, .slice (some ⟨gO, oO, none⟩) E.length cO, .int .i64 (primeN E d : Nat)], .int .i64 a, .int .i64 b] W fun e w' => e = .returned (.int .i64 (ovR (primeN E d) a b : Nat)) ∧ Below W.heap.size W w' from
    fun a b W ha hb => ROver_any _ _ _ _ _ (primeN E d) a b W hq1 hq2 ha hb)
  have HCL := Lib.hid (show (classesN E).length = (repsN E E.length).length by simp [classesN])
  have hml := reps_len (E := E) E.length
  have HCLE := Lib.hid (fun D (hD : D ∈ classesN E) => (classes_len hD).1)
  have HIL := Lib.hid (fun a ha => (h.inv_spec (a := a) ha).1)
  have HCF := Lib.hid (fun k h1 h2 => h.cls_first (k := k) h1 h2)
  have HBC := Lib.hid (fun k hk => backC_at (E := E) (k := k) hk)
  have HCLT := Lib.hid (fun a ha => h.cls_lt (b := a) ha)
  have HSZ := Lib.hid (fun k hk => szE_at (E := E) (k := k) hk)
  have HSZL := Lib.hid (szE_length (E := E))
  have HVF := Lib.hid hvf
  have HVH := Lib.hid hvh
  obtain ⟨q, hq⟩ : ∃ q, primeN E d = q := ⟨_, rfl⟩
  rw [hq] at OV hq1 hq2 hF hG ⊢
  obtain ⟨n, hn⟩ : ∃ n, E.length = n := ⟨_, rfl⟩
  have HN := Lib.hid hn
  have HRM := Lib.hid (fun i (hi : i < (repsN E E.length).length) => show (repsN E E.length)[i] < E.length from (reps_mem.1 (List.getElem_mem hi)).1)
  obtain ⟨m, hmm⟩ : ∃ m, (repsN E E.length).length = m := ⟨_, rfl⟩
  have HMM := Lib.hid hmm
  rw [hmm, hn] at OV
  rw [hmm, hn] at hml
  rw [hn] at h24
  rw [hmm] at hF hG
  rw [hmm, hn]
  have HF := Lib.hid hF
  have HG := Lib.hid hG
  have HSB := Lib.hid (fun k => sumR_le (sz := szE E) (bk := backC E) hq1 hq2 hF hG k)
  have hq0 : ¬ (q : Int) = 0 := by omega
  have hq0' : ((q : Int) == 0) = false := by simp; omega
  have hqn : ¬ q = 0 := by omega
  have HQ1 := Lib.hid hq1
  obtain ⟨af, cf, rfl, -, -, -⟩ := id hvf
  obtain ⟨ah, ch, rfl, -, -, -⟩ := id hvh
  rw [hF.1] at HVF ⊢
  rw [hG.1] at HVH ⊢
  clear h hg hro hq hn hmm hq1 hF hG hvf hvh
  unfold rgV
  go_enter Tryz.func34, Tryz.ntmps34
  have HX0 := Lib.hid (Held.new w 29 [.slice (some ⟨gL, 0, none⟩) n cL, .slice (some ⟨gT, 0, none⟩) n cT, .slice (some ⟨gB, oB, none⟩) n cB, .slice (some ⟨gC, 0, none⟩) m cC, .slice (some ⟨gO, oO, none⟩) n cO, .int .i64 (q : Nat)])
  have HB0 := Lib.hid (show Below w.heap.size w (w.alloc (.cells #[.slice (some ⟨gL, 0, none⟩) n cL, .slice (some ⟨gT, 0, none⟩) n cT, .slice (some ⟨gB, oB, none⟩) n cB, .slice (some ⟨gC, 0, none⟩) m cC, .slice (some ⟨gO, oO, none⟩) n cO, .int .i64 (q : Nat)] 29)) from (Below.refl _ _).alloc (Nat.le_refl _) _)
  go_wp2_with fail
  obtain ⟨bx, hbx⟩ : ∃ x, w.heap.size = x := ⟨_, rfl⟩
  obtain ⟨W0, hW0⟩ : ∃ x, w.alloc (.cells #[.slice (some ⟨gL, 0, none⟩) n cL, .slice (some ⟨gT, 0, none⟩) n cT, .slice (some ⟨gB, oB, none⟩) n cB, .slice (some ⟨gC, 0, none⟩) m cC, .slice (some ⟨gO, oO, none⟩) n cO, .int .i64 (q : Nat)] 29) = x := ⟨_, rfl⟩
  rw [hbx] at HX0 ⊢
  have HX1 := Lib.hid (show Held W0 bx 29 [.slice (some ⟨gL, 0, none⟩) n cL, .slice (some ⟨gT, 0, none⟩) n cT, .slice (some ⟨gB, oB, none⟩) n cB, .slice (some ⟨gC, 0, none⟩) m cC, .slice (some ⟨gO, oO, none⟩) n cO, .int .i64 (q : Nat)] by rw [← hW0]; exact HX0.out)
  rw [hW0] at HB0 ⊢
  clear hW0 HX0 hbx
  go_loopw [7, 13] (fun s ix wr => ∃ k : Nat, k ≤ m ∧ ix = .int .i64 k ∧ s = .int .i64 (sumR q (szE E) (backC E) F G k) ∧ Below W0.heap.size W0 wr) (fun _ ix _ => m - (intOf ix).toNat)
  case atStart => exact ⟨0, Nat.zero_le _, rfl, rfl, Below.refl _ _⟩
  case round =>
    obtain ⟨k, hk, rfl, rfl, hb0⟩ := hrel
    have HBA := Lib.hid hb0
    have HB := Lib.hid (HB0.out.trans (hb0.mono HB0.out.size))
    have hle := hb0.size
    have hsb := HSB.out k
    clear hb0
    by_cases hlt : k < m
    · have hki : (k : Int) < (m : Int) := by omega
      have hk2 : k < (repsN E E.length).length := by rw [HMM.out]; exact hlt
      have hkc : k < (classesN E).length := by rw [HCL.out]; exact hk2
      obtain ⟨aU, cU, hrow⟩ := HR.out.cls k hkc
      have hcr := (hrow wr HB.out).1
      have hcl := HCF.out k hkc hk2
      have hpos : 0 < ((classesN E)[k]).length := (List.getElem?_eq_some_iff.1 hcl).1
      obtain ⟨b1, o1, c1, he, hb1, hc1⟩ := Ints.atN (hrow wr HB.out).2 hpos
      obtain ⟨rfl, -, -⟩ := Value.slice.inj he
      have hrl := HRM.out k hk2
      rw [(List.getElem?_eq_some_iff.1 hcl).2, Nat.add_zero] at hc1
      have hzl := HCLE.out _ (List.getElem_mem hkc)
      have hsz := HSZ.out k hkc
      have hbc := HBC.out k hk2
      obtain ⟨r, hr⟩ : ∃ r, (repsN E E.length)[k] = r := ⟨_, rfl⟩
      rw [hr] at hc1 hrl hbc
      have hvl := HIL.out r hrl
      have hbk := HR.out.back r hrl wr HB.out
      obtain ⟨v, hv⟩ : ∃ v, invN E r = v := ⟨_, rfl⟩
      rw [hv] at hvl hbk hbc
      have hof := HR.out.of v hvl wr HB.out
      have hol := HCLT.out v hvl
      obtain ⟨o, ho⟩ : ∃ o, clsOf E v = o := ⟨_, rfl⟩
      rw [ho] at hof hol hbc
      rw [HMM.out] at hol
      rw [HN.out] at hrl hvl hzl
      obtain ⟨y, hy⟩ : ∃ y, ((classesN E)[k]).length = y := ⟨_, rfl⟩
      rw [hy] at hcr hpos hzl hsz
      obtain ⟨hfl, hfe⟩ := HF.out.at hlt
      obtain ⟨hgl, hge⟩ := HG.out.at hol
      have hvfw := HVF.out.below HB.out
      have hvhw := HVH.out.below HB.out
      obtain ⟨bf, of', cf', e1, -, hcf⟩ := Ints.atI hvfw hfl
      obtain ⟨bh, oh, ch', e2, -, hch⟩ := Ints.atI hvhw hgl
      obtain ⟨rfl, -, -⟩ := Value.slice.inj e1
      obtain ⟨rfl, -, -⟩ := Value.slice.inj e2
      have hfb := HF.out.getD (k := k) HQ1.out
      have hgb := HG.out.getD (k := o) HQ1.out
      rw [hfe] at hcf
      rw [hge] at hch
      have HS := Lib.hid (show sumR q (szE E) (backC E) F G (k + 1) = sumR q (szE E) (backC E) F G k + (((y : Nat) : Int).tmod q * F.getD k 0).tmod q * G.getD o 0 by
        conv => lhs; unfold sumR
        rw [hsz, hbc])
      obtain ⟨s, hs⟩ : ∃ s, sumR q (szE E) (backC E) F G k = s := ⟨_, rfl⟩
      rw [hs] at HS hsb ⊢
      obtain ⟨f1, hf1⟩ : ∃ x, F.getD k 0 = x := ⟨_, rfl⟩
      obtain ⟨g1, hg1⟩ : ∃ x, G.getD o 0 = x := ⟨_, rfl⟩
      rw [hf1] at HS hcf hfb
      rw [hg1] at HS hch hgb
      have ht1b := tmod_pos (n := ((y : Nat) : Int)) (by omega) HQ1.out
      obtain ⟨t1, ht1⟩ : ∃ t, ((y : Nat) : Int).tmod q = t := ⟨_, rfl⟩
      rw [ht1] at HS ht1b
      have ht2b := tmod_pos (n := t1 * f1) (Int.mul_nonneg ht1b.1 hfb.1) HQ1.out
      have hp1 : 0 ≤ t1 * f1 ∧ t1 * f1 ≤ 62 * 62 := ⟨Int.mul_nonneg ht1b.1 hfb.1, Int.mul_le_mul (by omega) (by omega) hfb.1 (by omega)⟩
      obtain ⟨t2, ht2⟩ : ∃ t, (t1 * f1).tmod q = t := ⟨_, rfl⟩
      rw [ht2] at HS ht2b
      have hp2 : 0 ≤ t2 * g1 ∧ t2 * g1 ≤ 62 * 62 := ⟨Int.mul_nonneg ht2b.1 hgb.1, Int.mul_le_mul (by omega) (by omega) hgb.1 (by omega)⟩
      have w1 : IntKind.i64.wrap (t1 * f1) = t1 * f1 := IntWalk.i64_in _ (by omega)
      have w2 : IntKind.i64.wrap (t2 * g1) = t2 * g1 := IntWalk.i64_in _ (by omega)
      have w3 : IntKind.i64.wrap (s + t2 * g1) = s + t2 * g1 := IntWalk.i64_in _ (by omega)
      have hyi : (0 : Int) < (y : Int) := by omega
      have i1 : (r : Int) < (n : Int) := by omega
      have i2 : (v : Int) < (n : Int) := by omega
      have i3 : (o : Int) < (m : Int) := by omega
      have j1 : (0 : Int) ≤ (r : Int) := by omega
      have j2 : (0 : Int) ≤ (v : Int) := by omega
      have j3 : (0 : Int) ≤ (o : Int) := by omega
      have hxq := HX1.out.below HBA.out HX1.out.lt
      have hx2 := hxq.at (i := 2) rfl
      have hx3 := hxq.at (i := 3) rfl
      have hx4 := hxq.at (i := 4) rfl
      have hx5 := hxq.at (i := 5) rfl
      clear hrow hcl he hr hsz hbc hv ho hy hfe hge hvfw hvhw e1 e2 hs hf1 hg1 hxq hb1
      go_wp2_with fail
      go_quiet (fail)
      go_wp2
      go_roundw
      case rel => exact ⟨k + 1, hlt, by go_num, by rw [HS.out], below_drewN HBA.out _⟩
      case measure => simp [intOf]; omega
    · obtain rfl : k = m := by omega
      have hki : ¬ (k : Int) < (k : Int) := by omega
      have HRS := Lib.hid (show prodR q n (szE E) (backC E) F G = ovR q ((sumR q (szE E) (backC E) F G k).tmod q) (n : Int) by unfold prodR; rw [HSZL.out, HMM.out])
      have hxI := HX1.out.below HBA.out HX1.out.lt
      obtain ⟨s, hs⟩ : ∃ s, sumR q (szE E) (backC E) F G k = s := ⟨_, rfl⟩
      rw [hs] at HRS hsb ⊢
      have ht1b := tmod_pos (n := s) hsb.1 HQ1.out
      obtain ⟨t, ht⟩ : ∃ t, s.tmod q = t := ⟨_, rfl⟩
      rw [ht] at HRS ht1b
      have O1 := Lib.hid (fun (p : BelW wr) => OV.out t (n : Int) p.v (by omega) (by omega))
      obtain ⟨f, hf⟩ : ∃ f, ovR q t (n : Int) = f := ⟨_, rfl⟩
      rw [hf] at O1 HRS
      have d0 : ∀ p : BelW wr, p.v.cell? ⟨bx, 0, none⟩ = some (.slice (some ⟨gL, 0, none⟩) n cL) := fun p => BelW.cell hxI.lt (hxI.at (i := 0) rfl) p
      have d1 : ∀ p : BelW wr, p.v.cell? ⟨bx, 1, none⟩ = some (.slice (some ⟨gT, 0, none⟩) n cT) := fun p => BelW.cell hxI.lt (hxI.at (i := 1) rfl) p
      have d2 : ∀ p : BelW wr, p.v.cell? ⟨bx, 2, none⟩ = some (.slice (some ⟨gB, oB, none⟩) n cB) := fun p => BelW.cell hxI.lt (hxI.at (i := 2) rfl) p
      have d3 : ∀ p : BelW wr, p.v.cell? ⟨bx, 3, none⟩ = some (.slice (some ⟨gC, 0, none⟩) k cC) := fun p => BelW.cell hxI.lt (hxI.at (i := 3) rfl) p
      have d4 : ∀ p : BelW wr, p.v.cell? ⟨bx, 4, none⟩ = some (.slice (some ⟨gO, oO, none⟩) n cO) := fun p => BelW.cell hxI.lt (hxI.at (i := 4) rfl) p
      have d5 : ∀ p : BelW wr, p.v.cell? ⟨bx, 5, none⟩ = some (.int .i64 (q : Nat)) := fun p => BelW.cell hxI.lt (hxI.at (i := 5) rfl) p
      have HMX := Lib.hid mixed
      clear hs hf hxI
      go_upto_region 7 with (fail)
      refine wp_region_bel HMX.out (by kernel_rfl) ?_
      repeat (first
        | go_big_quiet_step ((go_at_call 62; (with_reducible refine Calls.bel_of (O1.out _))))
        | quiet_step ((go_at_call 62; (with_reducible refine Calls.bel_of (O1.out _)))))
      refine wpQuiet_nil ?_
      intro wV hw'
      have HBV := Lib.hid (BelW.of hw')
      clear hw' d0 d1 d2 d3 d4 d5 O1
      go_wp2
      go_ret
      exact ⟨ret_int (by rw [HRS.out]), HB.out.trans (HBV.out.mono (by have := HB0.out.size; omega))⟩
end Go.Proofs.YtdackakjcnnofaaGreat

/- What an insertion 'append(append(append(none, out[:at]...), f), out[at:]...)' has made, whatever order is drawn. -/
namespace Go.Proofs.YtdackakjcnnofaaGreat
open Go.RowKit

structure InsM (S : Nat → Prop) (wP : World) (u : Value) (l0 l1 l2 : List (List Nat)) (dA d0 dB d1 d2 : Bool) (yA y0 yB y1 y2 : Value) (w : World) : Prop where
  low : Below wP.heap.size wP w
  a : dA = true → d0 = false → RowsF S wP.heap.size w yA [] ∧ ∃ g, yA = .slice (some ⟨g, 0, none⟩) 0 0
  z : d0 = true → d1 = false → RowsF S wP.heap.size w y0 l0
  b : dB = true → d1 = false → ∃ g, yB = .slice (some ⟨g, 0, none⟩) 1 1 ∧ wP.heap.size ≤ g ∧ Held w g 27 [u] ∧ (dA = true → d0 = false → yA.ownBlock ≠ some g) ∧ (d0 = true → d1 = false → y0.ownBlock ≠ some g)
  o : d1 = true → d2 = false → RowsF S wP.heap.size w y1 l1
  e : d2 = true → RowsF S wP.heap.size w y2 l2
section
variable {S : Nat → Prop} {wP w w' : World} {u : Value} {l0 l1 l2 : List (List Nat)} {dA d0 dB d1 d2 : Bool} {yA y0 yB y1 y2 : Value}
theorem InsM.start (yA y0 yB y1 y2 : Value) : InsM S wP u l0 l1 l2 false false false false false yA y0 yB y1 y2 wP.drew :=
  ⟨(Below.refl _ _).drew, fun h => (by cases h), fun h => (by cases h), fun h => (by cases h), fun h => (by cases h), fun h => (by cases h)⟩
theorem InsM.allocA (h : InsM S wP u l0 l1 l2 dA d0 dB d1 d2 yA y0 yB y1 y2 w) (h0 : d0 = false) (h1 : d1 = false) (h2 : d2 = false) : InsM S wP u l0 l1 l2 true d0 dB d1 d2 (.slice (some ⟨w.heap.size, 0, none⟩) 0 0) y0 yB y1 y2 (w.alloc (.cells #[] 27)) := by
  subst h0; subst h1; subst h2
  refine ⟨h.low.alloc h.low.size _, fun _ _ => ⟨rows_fresh w rfl h.low.size, _, rfl⟩, fun hh => (by cases hh), fun hb _ => ?_, fun hh => (by cases hh), fun hh => (by cases hh)⟩
  obtain ⟨g, e, hg, hh, _, _⟩ := h.b hb rfl
  exact ⟨g, e, hg, hh.alloc _, fun _ _ e2 => by have := hh.lt; simp [Value.ownBlock] at e2; omega, fun hh => (by cases hh)⟩
theorem InsM.allocB (h : InsM S wP u l0 l1 l2 dA d0 dB d1 d2 yA y0 yB y1 y2 w) (h1 : d1 = false) (h2 : d2 = false) : InsM S wP u l0 l1 l2 dA d0 true d1 d2 yA y0 (.slice (some ⟨w.heap.size, 0, none⟩) 1 1) y1 y2 (w.alloc (.cells #[u] 27)) := by
  subst h1; subst h2
  have hb : Below w.heap.size w (w.alloc (.cells #[u] 27)) := (Below.refl _ _).alloc (Nat.le_refl _) _
  refine ⟨h.low.alloc h.low.size _, fun ha h0 => ?_, fun h0 _ => (h.z h0 rfl).below hb, fun _ _ => ⟨_, rfl, h.low.size, Held.new w _ [u], fun ha h0 e2 => ?_, fun h0 _ e2 => ?_⟩, fun hh => (by cases hh), fun hh => (by cases hh)⟩
  · obtain ⟨hr, g, e⟩ := h.a ha h0
    exact ⟨hr.below hb, g, e⟩
  · have := ((h.a ha h0).1.own _ e2).2; omega
  · have := ((h.z h0 rfl).own _ e2).2; omega
theorem InsM.app0n (h : InsM S wP u [] l1 l2 dA d0 dB d1 d2 yA y0 yB y1 y2 w) (hA : dA = true) (h0 : d0 = false) (h1 : d1 = false) (h2 : d2 = false) : InsM S wP u [] l1 l2 dA true dB d1 d2 yA yA yB y1 y2 w := by
  subst hA; subst h0; subst h1; subst h2
  refine ⟨h.low, fun _ hh => (by cases hh), fun _ _ => (h.a rfl rfl).1, fun hb _ => ?_, fun hh => (by cases hh), fun hh => (by cases hh)⟩
  obtain ⟨g, e, hg, hh, k1, _⟩ := h.b hb rfl
  exact ⟨g, e, hg, hh, fun _ hh => (by cases hh), fun _ _ => k1 rfl rfl⟩
theorem InsM.app0 {v' : Value} (h : InsM S wP u l0 l1 l2 dA d0 dB d1 d2 yA y0 yB y1 y2 w) (hA : dA = true) (h0 : d0 = false) (h1 : d1 = false) (h2 : d2 = false) (hr : RowsF S wP.heap.size w' v' ([] ++ l0)) (hg : w.grownBy w' yA.ownBlock) (hl : v'.ownBlock = yA.ownBlock ∨ v'.ownBlock = some w.heap.size) :
    InsM S wP u l0 l1 l2 dA true dB d1 d2 yA v' yB y1 y2 w' := by
  subst hA; subst h0; subst h1; subst h2
  have hA := (h.a rfl rfl).1
  refine ⟨h.low.grown hg h.low.size fun k hk => (hA.own k hk).1, fun _ hh => (by cases hh), fun _ _ => hr, fun hb _ => ?_, fun hh => (by cases hh), fun hh => (by cases hh)⟩
  obtain ⟨g, e, hgN, hh, k1, _⟩ := h.b hb rfl
  refine ⟨g, e, hgN, hh.grown hg (fun e2 => k1 rfl rfl e2.symm), fun _ hh => (by cases hh), fun _ _ e2 => ?_⟩
  rcases hl with hl | hl
  · exact k1 rfl rfl (by rw [← hl]; exact e2)
  · rw [hl] at e2
    have := Option.some.inj e2
    have := hh.lt
    omega
theorem InsM.app1 {v' : Value} (h : InsM S wP u l0 l1 l2 dA d0 dB d1 d2 yA y0 yB y1 y2 w) (h0 : d0 = true) (h1 : d1 = false) (h2 : d2 = false) (hr : RowsF S wP.heap.size w' v' l1) (hg : w.grownBy w' y0.ownBlock) :
    InsM S wP u l0 l1 l2 dA d0 dB true d2 yA y0 yB v' y2 w' := by
  subst h0; subst h1; subst h2
  have hA := h.z rfl rfl
  exact ⟨h.low.grown hg h.low.size fun k hk => (hA.own k hk).1, fun _ hh => (by cases hh), fun _ hh => (by cases hh), fun _ hh => (by cases hh), fun _ _ => hr, fun hh => (by cases hh)⟩
theorem InsM.app2n (h : InsM S wP u l0 l1 l1 dA d0 dB d1 d2 yA y0 yB y1 y2 w) (h0 : d0 = true) (h1 : d1 = true) (h2 : d2 = false) : InsM S wP u l0 l1 l1 dA d0 dB d1 true yA y0 yB y1 y1 w := by
  subst h0; subst h1; subst h2
  exact ⟨h.low, fun _ hh => (by cases hh), fun _ hh => (by cases hh), fun _ hh => (by cases hh), fun _ hh => (by cases hh), fun _ => h.o rfl rfl⟩
theorem InsM.app2 {v' : Value} (h : InsM S wP u l0 l1 l2 dA d0 dB d1 d2 yA y0 yB y1 y2 w) (h0 : d0 = true) (h1 : d1 = true) (h2 : d2 = false) (hr : RowsF S wP.heap.size w' v' l2) (hg : w.grownBy w' y1.ownBlock) : InsM S wP u l0 l1 l2 dA d0 dB d1 true yA y0 yB y1 v' w' := by
  subst h0; subst h1; subst h2
  have hA := h.o rfl rfl
  exact ⟨h.low.grown hg h.low.size fun k hk => (hA.own k hk).1, fun _ hh => (by cases hh), fun _ hh => (by cases hh), fun _ hh => (by cases hh), fun _ hh => (by cases hh), fun _ => hr⟩
end
/-- 'append(rows, nil...)', run. -/
theorem run_none {b n cap c : Nat} {ty : TypeId} (wa : World) (hn : n ≤ cap) : (Builtin.append_ #[22, 22] ty #[.slice (some ⟨b, 0, none⟩) n cap, .slice none 0 c]).run Tryz.prog wa = .ok (.slice (some ⟨b, 0, none⟩) n cap) wa := by
  obtain ⟨i, hi1, hz0, hz1, hz2⟩ := info_parts infoR
  exact run_append_room_src (P := Tryz.prog) wa 22 22 ty 27 i Tryz.underlying22 hi1 b 0 n cap (.slice none 0 c) 0 [] (Go.Src.ofNil wa Tryz.underlying22 c) (by omega) (fun j hj => by simp at hj) (fun j hj => by simp at hj)
end Go.Proofs.YtdackakjcnnofaaGreat
