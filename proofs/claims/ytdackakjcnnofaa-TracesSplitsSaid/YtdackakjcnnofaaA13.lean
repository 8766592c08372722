/- Vr Vs Vt Vu Vv of the seat's texts, in this order. -/
import Derived.Test.YtdackakjcnnofaaA2
import Derived.Test.YtdackakjcnnofaaA12
import Derived.Test.YtdackakjcnnofaaA4
import Derived.Test.YtdackakjcnnofaaA8

/- constants: the walk. -/
namespace Go.Proofs.Ytdackakjcnnofaa
open Go.RowKit
attribute [local go_sem] Oper.semAt_some

/-- The world behind make([][]int, n). -/
def mkR (n : Nat) (w : World) : World := w.alloc (.cells (List.replicate n (Value.slice none 0 0)).toArray 28)
theorem make_R (n : Nat) (hn : n ≤ 100000) (w : World) : (Instr.makeSlice 22 (.int .i64 (n : Int)) (.int .i64 (n : Int))).run Try.prog w = .ok (.slice (some ⟨w.heap.size, 0, none⟩) n n) (mkR n w) := by
  rw [run_make_row' (P := Try.prog) 22 28 (.slice none 0 0) 24 Try.underlying22 infoR rfl .i64 .i64 n (by omega) (by omega) w, madeCells_replicate]
  rfl
theorem mkR_below (n : Nat) (w : World) : Below w.heap.size w (mkR n w) := (Below.refl _ _).alloc (Nat.le_refl _) _
theorem mkR_held (n : Nat) (w : World) : Held (mkR n w) w.heap.size 28 (List.replicate n (.slice none 0 0)) := Held.new w _ _
/-- What is held while a row of constants is made. -/
structure CnI (m go gr : Nat) (V : List Value) (w0 wr wq : World) (xs : List Int) : Prop where
  v : Held wq go 28 V
  r : OwnI 3 gr wq (.slice (some ⟨gr, 0, none⟩) m m) xs
  s : Sm (fun k => k ≠ go ∧ k ≠ gr) wr wq
  b : Below w0.heap.size w0 wq
section
variable {m go gr : Nat} {V : List Value} {w0 wr wq w' : World} {xs : List Int}
theorem CnI.below (h : CnI m go gr V w0 wr wq xs) (hb : Below wq.heap.size wq w') : CnI m go gr V w0 wr w' xs :=
  ⟨h.v.below hb h.v.lt, h.r.below hb, h.s.trans (Sm.of_below hb), h.b.trans (hb.mono h.b.size)⟩
theorem CnI.inc (h : CnI m go gr V w0 wr wq xs) (hne : go ≠ gr) (hw : w0.heap.size ≤ gr) (hm : m = xs.length) (k : Nat) (y : Int) : CnI m go gr V w0 wr (wq.setCell ⟨gr, k, none⟩ (.int .i64 y)) (xs.set k y) :=
  ⟨h.v.far hne _ _, h.r.storedN hm k y, h.s.trans ((Sm.put gr k (.int .i64 y)).weak fun _ _ hk => hk.2), h.b.setCell (p := ⟨gr, k, none⟩) hw _⟩
/-- A new row is laid. -/
theorem CnI.start (hV : Held wr go 28 V) (hb : Below w0.heap.size w0 wr) (hgo : w0.heap.size ≤ go) (hgr : wr.heap.size = gr) (hm : m ≤ maxLen) (d : Nat) :
    CnI m go gr (V.set d (.slice (some ⟨gr, 0, none⟩) m m)) w0 wr ((mkZ m wr).setCell ⟨go, d, none⟩ (.slice (some ⟨gr, 0, none⟩) m m)) (toI (List.replicate m 0)) := by
  subst hgr
  have h1 := mkZ_own m wr hm
  have h2 := hV.below (mkZ_below m wr) hV.lt
  have hlt := hV.lt
  refine ⟨h2.put d _, own_sm' h1 (Sm.put go d _) (fun k hk => by cases hk; show wr.heap.size ≠ go; omega), (Sm.of_below (mkZ_below m wr)).trans ((Sm.put go d _).weak fun _ _ hk => hk.1), ?_⟩
  exact (hb.trans ((mkZ_below m wr).mono hb.size)).setCell (p := ⟨go, d, none⟩) hgo _
/-- A row that lay there before is as it was. -/
theorem CnI.vec (h : CnI m go gr V w0 wr wq xs) (hgr : wr.heap.size = gr) (hgo : typeAt wr go = some 28) {u : Value} {ys : List Int} (hu : Vec wr u ys) : Vec wq u ys := by
  obtain ⟨a, c, rfl, h1, h2, h3⟩ := hu
  refine ⟨a, c, rfl, h1, h2, fun hne => ?_⟩
  obtain ⟨b, off, rfl, hb, hc⟩ := h3 hne
  have hlt := ty_lt hb
  have hk : b ≠ go ∧ b ≠ gr := ⟨fun e => by rw [e, hgo] at hb; exact absurd hb (by decide), by omega⟩
  have hbl := h.s.block b hk hlt
  exact ⟨b, off, rfl, by rw [ty_block hbl]; exact hb, fun i hi => by
    obtain ⟨u, h5, h6⟩ := hc i hi
    exact ⟨u, (World.cell?_of_block (a := ⟨b, off + i, none⟩) hbl).trans h5, h6⟩⟩
end
theorem Ints.atN {W : World} {u : Value} {l : List Nat} (h : Ints W u (toI l)) {i : Nat} (hi : i < l.length) : ∃ b off c, u = .slice (some ⟨b, off, none⟩) l.length c ∧ b < W.heap.size ∧ W.cell? ⟨b, off + i, none⟩ = some (.int .i64 ((l[i] : Nat) : Int)) := by
  obtain ⟨a, c, rfl, _, _, h3⟩ := h.openN
  obtain ⟨b, off, rfl, hb, hc⟩ := h3 (fun e => by rw [e] at hi; simp at hi)
  exact ⟨b, off, c, rfl, hb, hc i hi⟩
theorem ne_zero_len {α : Type} {l : List α} {x : α} (h : l[0]? = some x) : 0 < l.length := (List.getElem?_eq_some_iff.1 h).1
set_option maxRecDepth 20000 in
set_option maxHeartbeats 4000000 in
theorem constants_any {d : Nat} {E : List (List Nat)} (bg c : Nat) (w : World) (h : Grp d E) (hd : d ≤ 5) (h24 : E.length ≤ 24) (hp : PG d E w bg) (hc : c < (repsN E E.length).length) :
    Calls Try.prog 39 #[.pointer (some ⟨bg, 0, none⟩), .int .i64 (c : Nat)] w fun e w' => ∃ v', e = .returned v' ∧ Args w' v' (constL E c) ∧ Below w.heap.size w w' := by
  obtain ⟨H, S, vE, bM, vC, vO, vB, hs⟩ := hp
  have HG := Lib.hid h
  have HS := Lib.hid hs
  have TM := Lib.hid (fun (a b : Nat) (w' : World) (hb : Below w.heap.size w w') (ha : a < E.length) (hbl : b < E.length) => gtimes_any bg vE bM a b w' h hd (hs.gt.below hb) ha hbl)
  obtain ⟨aC, cC, rfl⟩ := hs.c.form
  obtain ⟨aO, cO, rfl⟩ := hs.o.form
  have HCL := Lib.hid (show (classesN E).length = (repsN E E.length).length by simp [classesN])
  have HOL := Lib.hid (ofL_length (E := E) E.length)
  have hml := reps_len (E := E) E.length
  obtain ⟨m, hmm⟩ : ∃ m, (repsN E E.length).length = m := ⟨_, rfl⟩
  have HMM := Lib.hid hmm
  rw [hmm] at hc hml
  rw [HCL.out, hmm, HOL.out] at hs HS
  have hbgl := hs.box.lt
  have hgC : ∃ gC, aC = some ⟨gC, 0, none⟩ ∧ ∀ i (hi : i < (classesN E).length), ∃ aU cU, ∀ W, Below w.heap.size w W → W.cell? ⟨gC, i, none⟩ = some (.slice aU ((classesN E)[i]).length cU) ∧ Ints W (.slice aU ((classesN E)[i]).length cU) (toI (classesN E)[i]) := by
    obtain ⟨gC, cC', u0, e0, _⟩ := hs.c.at 0 (by rw [HCL.out, hmm]; omega)
    have e0' := (Value.slice.inj e0).1
    refine ⟨gC, e0', fun i hi => ?_⟩
    obtain ⟨gC2, cC2, u, e1, _, hg, hcu, hu⟩ := hs.c.at i hi
    have e2 : gC = gC2 := by
      have := (Value.slice.inj e1).1
      rw [e0'] at this
      simpa using this
    subst e2
    have hui := hu.ints
    obtain ⟨aU, cU, rfl, -, -, -⟩ := hu
    rw [toI_length] at hcu hui
    exact ⟨aU, cU, fun W hb => ⟨(hb.cell (p := ⟨gC, i, none⟩) hg).trans hcu, hui.below hb⟩⟩
  have hgO : ∃ gO, aO = some ⟨gO, 0, none⟩ ∧ gO < w.heap.size := by
    obtain ⟨gO, cO', e0, _, hg⟩ := hs.o.block (by rw [HOL.out]; exact HG.out.pos)
    exact ⟨gO, (Value.slice.inj e0).1, hg⟩
  obtain ⟨gO, rfl, hgOl⟩ := hgO
  obtain ⟨gC, rfl, hgC⟩ := hgC
  have HRA := Lib.hid hgC
  clear hgC
  have HC3 := Lib.hid (fun (W : World) (hb : Below w.heap.size w W) => show W.cell? ⟨bg, 3, none⟩ = some (.slice (some ⟨gC, 0, none⟩) m cC) from (hb.cell (p := ⟨bg, 3, none⟩) hbgl).trans (hs.box.at (i := 3) rfl))
  have HC4 := Lib.hid (fun (W : World) (hb : Below w.heap.size w W) => show W.cell? ⟨bg, 4, none⟩ = some (.slice (some ⟨gO, 0, none⟩) E.length cO) from (hb.cell (p := ⟨bg, 4, none⟩) hbgl).trans (hs.box.at (i := 4) rfl))
  have HOW := Lib.hid (fun (W : World) (hb : Below w.heap.size w W) => hs.o.below hb)
  have hc3 := HC3.out w (Below.refl _ _)
  have MR := fun W => make_R m (by omega) W
  have MZ := fun W => make_Z m (by omega) W
  clear hs h hmm
  go_enter Try.func39, Try.ntmps39
  go_wp2
  obtain ⟨C, hCC⟩ : ∃ C, (classesN E).getD c [] = C := ⟨_, rfl⟩
  have HCC := Lib.hid hCC
  have HRC := Lib.hid (show ∀ i (hi : i < (classesN E).length), ∃ h2 : i < (constL E c).length, (constL E c)[i]'h2 = cntL E (pairsL C (classesN E)[i]) from fun i hi => by subst hCC; exact ⟨by rw [constL_length, ← HCL.out]; exact hi, by simp only [constL, List.getElem_map]⟩)
  have HCL2 := Lib.hid ((constL_length (E := E) c).trans HMM.out)
  have hce : c < (classesN E).length := by rw [HCL.out, HMM.out]; exact hc
  have HCE := Lib.hid (show (classesN E)[c] = C by rw [← hCC, List.getD_eq_getElem?_getD, List.getElem?_eq_getElem hce]; rfl)
  have HCX := Lib.hid (show ∀ D ∈ classesN E, D.length ≤ E.length ∧ ∀ x ∈ D, x < E.length from fun D hD => classes_len hD)
  have HC1 := Lib.hid (show C.length ≤ E.length ∧ ∀ x ∈ C, x < E.length by rw [← HCE.out]; exact HCX.out _ (List.getElem_mem hce))
  obtain ⟨go, hgo⟩ : ∃ x, w.heap.size = x := ⟨_, rfl⟩
  have HV0 := Lib.hid (mkR_held m w)
  have HB0 := Lib.hid (mkR_below m w)
  have HGO := Lib.hid hgo
  rw [hgo] at HV0 ⊢
  clear hgo hCC MR hc3
  go_loopw [20] (fun ix wr => ∃ (dd : Nat) (V : List Value), dd ≤ m ∧ ix = .int .i64 dd ∧ V.length = m ∧ Held wr go 28 V ∧ (∀ i u (hi : i < (constL E c).length), i < dd → V[i]? = some u → Vec wr u (constL E c)[i]) ∧ Below w.heap.size w wr) (fun ix _ => m - (intOf ix).toNat)
  case atStart => exact ⟨0, _, Nat.zero_le _, rfl, List.length_replicate, HV0.out, fun i _ _ h => absurd h (Nat.not_lt_zero _), HB0.out⟩
  case round =>
    obtain ⟨dd, V, hdm, rfl, hvl, hv, hrows, hb⟩ := hrel
    obtain ⟨wA, rfl⟩ : ∃ x, x = wr := ⟨_, rfl⟩
    have HV := Lib.hid hv
    have HVL := Lib.hid hvl
    have HROW := Lib.hid hrows
    have HB := Lib.hid hb
    clear hrows hvl
    by_cases hlt : dd < m
    · have hdi : (dd : Int) < (m : Int) := by omega
      have hci : (c : Int) < (m : Int) := by omega
      have hcv : wA.cell? ⟨go, dd, none⟩ = some (V[dd]'(by rw [HVL.out]; exact hlt)) := hv.at (List.getElem?_eq_getElem _)
      have hfv := hv.free dd
      have hde : dd < (classesN E).length := by rw [HCL.out, HMM.out]; exact hlt
      obtain ⟨D, hD⟩ : ∃ D, (classesN E)[dd] = D := ⟨_, rfl⟩
      have HD := Lib.hid (show (classesN E)[dd]? = some D by rw [← hD]; exact List.getElem?_eq_getElem hde)
      have HD1 := Lib.hid (show D.length ≤ E.length ∧ ∀ x ∈ D, x < E.length by rw [← hD]; exact HCX.out _ (List.getElem_mem hde))
      obtain ⟨gr, hgr⟩ : ∃ x, wA.heap.size = x := ⟨_, rfl⟩
      have HGR := Lib.hid hgr
      have hgl := hv.lt
      have hws := hb.size
      have HNE := Lib.hid (show go ≠ gr by omega)
      have HWG := Lib.hid (show w.heap.size ≤ gr by omega)
      have HS0 := Lib.hid (CnI.start (m := m) hv hb (by rw [HGO.out]; exact Nat.le_refl _) hgr (by unfold maxLen; omega) dd)
      have HTY := Lib.hid hv.ty
      have hc3 := HC3.out wA hb
      have hcz3 := HC3.out _ (HS0.out.b)
      clear hv hD hde
      have hcz := (mkZ_below m wA).cell (p := ⟨go, dd, none⟩) hgl |>.trans hcv
      have hfz : (mkZ m wA).frozen? ⟨go, dd, none⟩ = false := ((HV.out.below (mkZ_below m wA) hgl).free dd)
      go_upto_region 6 with (fail)
      obtain ⟨W5, hW5⟩ : ∃ x, (mkZ m wA).setCell ⟨go, dd, none⟩ (.slice (some ⟨gr, 0, none⟩) m m) = x := ⟨_, rfl⟩
      rw [hW5] at HS0 hcz3 ⊢
      clear hW5 hcz hfz hcv hfv hgr MZ
      have HB5 := Lib.hid HS0.out.b
      obtain ⟨aU, cU, hU⟩ := HRA.out c (by rw [HCL.out, HMM.out]; exact hc)
      obtain ⟨aD, cD, hUD⟩ := HRA.out dd (by rw [HCL.out, HMM.out]; exact hlt)
      have hDe : (classesN E)[dd]'(by rw [HCL.out, HMM.out]; exact hlt) = D := by
        have := HD.out
        rw [List.getElem?_eq_getElem (by rw [HCL.out, HMM.out]; exact hlt)] at this
        exact Option.some.inj this
      rw [HCE.out] at hU
      rw [hDe] at hUD
      have HU := Lib.hid hU
      have HUD := Lib.hid hUD
      obtain ⟨n1, hn1⟩ : ∃ x, C.length = x := ⟨_, rfl⟩
      have HN1 := Lib.hid hn1
      rw [hn1] at HU
      have hn24 : n1 ≤ 24 := by rw [← hn1]; have := HC1.out.1; omega
      obtain ⟨n2, hn2⟩ : ∃ x, D.length = x := ⟨_, rfl⟩
      have HN2 := Lib.hid hn2
      rw [hn2] at HUD
      have hn24' : n2 ≤ 24 := by rw [← hn2]; have := HD1.out.1; omega
      have hcuC := (HU.out W5 HB5.out).1
      have HSS := Lib.hid (show CnI m go gr (V.set dd (.slice (some ⟨gr, 0, none⟩) m m)) w wA W5 (cntL E (pairsTo C D 0 0)) from by
        have h0 := HS0.out
        rw [← HMM.out, ← cntL_nil] at h0
        rw [HMM.out] at h0
        exact h0)
      clear hU hUD hn1 hn2 hDe HS0
      go_wp2_with fail
      go_loopw [40] (fun ix wq => ∃ i : Nat, i ≤ n1 ∧ ix = .int .i64 i ∧ CnI m go gr (V.set dd (.slice (some ⟨gr, 0, none⟩) m m)) w wA wq (cntL E (pairsTo C D i 0))) (fun ix _ => n1 - (intOf ix).toNat)
      case atStart => exact ⟨0, Nat.zero_le _, rfl, HSS.out⟩
      case round =>
        obtain ⟨i, hi, rfl, hI⟩ := hrel
        have HI := Lib.hid hI
        have HBI := Lib.hid hI.b
        clear hI
        by_cases hil : i < n1
        · have hii : (i : Int) < (n1 : Int) := by omega
          have hiC : i < C.length := by rw [HN1.out]; exact hil
          obtain ⟨bC, oC, cc, eC, hbC, hca⟩ := (show Ints _ _ (toI C) from (HU.out _ HBI.out).2).atN hiC
          obtain rfl : aU = some ⟨bC, oC, none⟩ := (Value.slice.inj eC).1
          have hxa := HC1.out.2 _ (List.getElem_mem hiC)
          have HAD := Lib.hid (show C.getD i 0 = C[i] by rw [List.getD_eq_getElem?_getD, List.getElem?_eq_getElem hiC]; rfl)
          have HPE := Lib.hid (pairsTo_end C D i hiC)
          rw [HN2.out] at HPE
          have HPS := Lib.hid (fun j hj => pairsTo_succ C D i j hj)
          rw [HAD.out] at HPS
          obtain ⟨a, ha⟩ : ∃ x, C[i] = x := ⟨_, rfl⟩
          rw [ha] at hca hxa HPS
          have hc3 := HC3.out _ HBI.out
          have hcd := (HUD.out _ HBI.out).1
          clear ha HAD eC hiC
          go_wp2_with fail
          go_loopw [52] (fun jx wq => ∃ j : Nat, j ≤ n2 ∧ jx = .int .i64 j ∧ CnI m go gr (V.set dd (.slice (some ⟨gr, 0, none⟩) m m)) w wA wq (cntL E (pairsTo C D i j))) (fun jx _ => n2 - (intOf jx).toNat)
          case atStart => exact ⟨0, Nat.zero_le _, rfl, HI.out⟩
          case round =>
            obtain ⟨j, hj, rfl, hJ⟩ := hrel
            by_cases hjl : j < n2
            · have HJ := Lib.hid hJ
              have HBJ := Lib.hid hJ.b
              have hji : (j : Int) < (n2 : Int) := by omega
              have hjD : j < D.length := by rw [HN2.out]; exact hjl
              obtain ⟨bD, oD, cc2, eD, hbD, hcb⟩ := (show Ints _ _ (toI D) from (HUD.out _ HBJ.out).2).atN hjD
              obtain rfl : aD = some ⟨bD, oD, none⟩ := (Value.slice.inj eD).1
              have hxb := HD1.out.2 _ (List.getElem_mem hjD)
              have HPJ := Lib.hid (HPS.out j hjD)
              obtain ⟨b, hb'⟩ : ∃ x, D[j] = x := ⟨_, rfl⟩
              rw [hb'] at hcb hxb HPJ
              have T1 := Lib.hid (fun (p : BelW wr) => TM.out a b p.v (HBJ.out.trans (p.h.mono HBJ.out.size)) hxa hxb)
              have htl := HG.out.timesN_lt hxa hxb
              have hkl := HG.out.cls_lt htl
              have hke : (classesN E)[clsOf E (timesN E a b)]? = some (clsN E ((repsN E E.length)[clsOf E (timesN E a b)])) := by simp [classesN, hkl]
              have hrk : (repsN E E.length)[clsOf E (timesN E a b)]? = some ((repsN E E.length)[clsOf E (timesN E a b)]) := List.getElem?_eq_getElem hkl
              have HYES := Lib.hid (fun (e : timesN E a b = (repsN E E.length)[clsOf E (timesN E a b)]) => HG.out.cnt_yes (ps := pairsTo C D i j) (a := a) (b := b) (k := clsOf E (timesN E a b)) (by rw [hrk, ← e]))
              have HNOT := Lib.hid (fun (e : timesN E a b ≠ (repsN E E.length)[clsOf E (timesN E a b)]) => HG.out.cnt_no (ps := pairsTo C D i j) (a := a) (b := b) hrk e)
              have HCA := Lib.hid (cntL_at (E := E) (ps := pairsTo C D i j) hrk)
              have hrm := reps_mem.1 (List.mem_of_getElem? hrk)
              have hhd := HG.out.cls_head hrm.1 hrm.2
              have hof := HG.out.clsOf_eq htl
              have hcnt := cntN_le (E := E) (pairsTo C D i j) ((repsN E E.length)[clsOf E (timesN E a b)])
              obtain ⟨t, ht⟩ : ∃ x, timesN E a b = x := ⟨_, rfl⟩
              simp only [ht] at T1 htl hkl hke hrk HYES HNOT HCA hrm hhd hof hcnt
              have hco := (HOW.out _ HBJ.out).cellN (j := t) (by rw [HOL.out]) (by rw [HOL.out]; exact htl)
              rw [ofL_at, hof] at hco
              obtain ⟨k, hk⟩ : ∃ x, clsOf E t = x := ⟨_, rfl⟩
              simp only [hk] at hkl hke hrk HYES HNOT HCA hrm hhd hco hcnt
              obtain ⟨r, hr⟩ : ∃ x, (repsN E E.length)[k] = x := ⟨_, rfl⟩
              simp only [hr] at hke HYES HNOT HCA hrm hhd hcnt
              obtain ⟨hkC, hkD⟩ := List.getElem?_eq_some_iff.1 hke
              obtain ⟨aK, cK, hUK⟩ := HRA.out k hkC
              rw [hkD] at hUK
              have hhl := ne_zero_len hhd
              obtain ⟨bK, oK, cc3, eK, hbK, hcr⟩ := (show Ints _ _ (toI (clsN E r)) from (hUK _ HBJ.out).2).atN hhl
              obtain rfl : aK = some ⟨bK, oK, none⟩ := (Value.slice.inj eK).1
              have hh0 : (clsN E r)[0] = r := (List.getElem?_eq_some_iff.1 hhd).2
              rw [hh0, Nat.add_zero] at hcr
              have hcK := (hUK _ HBJ.out).1
              obtain ⟨lk, hlk⟩ : ∃ x, (clsN E r).length = x := ⟨_, rfl⟩
              rw [hlk] at hcK hhl
              rw [HMM.out] at hkl
              have hpl : (pairsTo C D i j).length ≤ 2000 := by
                unfold pairsTo
                rw [List.length_append, pairsL_length, List.length_map, List.length_take, List.length_take]
                have h1 : min i C.length * D.length ≤ 24 * 24 := Nat.mul_le_mul (by omega) (by rw [HN2.out]; exact hn24')
                omega
              obtain ⟨cn, hcn⟩ : ∃ x, cntN E (pairsTo C D i j) r = x := ⟨_, rfl⟩
              rw [hcn] at hcnt HCA
              have HCN := Lib.hid hcn
              have hnw : IntKind.i64.wrap ((cn : Int) + 1) = (cn : Int) + 1 := IntWalk.i64_in _ (by omega)
              have d1 : ∀ p : BelW wr, p.v.cell? ⟨bg, 4, none⟩ = some (.slice (some ⟨gO, 0, none⟩) E.length cO) := fun p => HC4.out _ (HBJ.out.trans (p.h.mono HBJ.out.size))
              have d2 : ∀ p : BelW wr, p.v.cell? ⟨gO, t, none⟩ = some (.int .i64 (k : Nat)) := fun p => (p.h.cell (p := ⟨gO, t, none⟩) (Nat.lt_of_lt_of_le hgOl HBJ.out.size)).trans hco
              have HMX := Lib.hid mixed
              have hti : (t : Int) < (E.length : Int) := by omega
              have ht0 : (0 : Int) ≤ (t : Int) := by omega
              have hkm : (k : Int) < (m : Int) := by omega
              have hk0 : (0 : Int) ≤ (k : Int) := by omega
              have hl0 : (0 : Int) < (lk : Int) := by omega
              have HD3 := Lib.hid (fun (W : World) (hb : Below wr.heap.size wr W) => show W.cell? ⟨bg, 3, none⟩ = some (.slice (some ⟨gC, 0, none⟩) m cC) ∧ W.cell? ⟨gC, k, none⟩ = some (.slice (some ⟨bK, oK, none⟩) lk cK) ∧ W.cell? ⟨bK, oK, none⟩ = some (.int .i64 (r : Nat)) from
                ⟨HC3.out _ (HBJ.out.trans (hb.mono HBJ.out.size)), by have := (hUK _ (HBJ.out.trans (hb.mono HBJ.out.size))).1; rw [hlk] at this; exact this, (hb.cell (p := ⟨bK, oK, none⟩) hbK).trans hcr⟩)
              have T2 := Lib.hid (fun (w2 : World) (hb : Below wr.heap.size wr w2) (p : BelW w2) => T1.out ⟨p.v, hb.trans (p.h.mono hb.size)⟩)
              clear hJ hb' hjD eD htl hke hrk hrm hhd hof ht hco hk hr hkC hkD hUK eK hh0 hcK hlk hpl hcn hcr
              go_upto_region 12 with (fail)
              refine wp_region_bel HMX.out (by kernel_rfl) ?_
              repeat (first
                | go_big_quiet_step ((go_at_call 56; (with_reducible refine Calls.bel_of (T1.out _))))
                | quiet_step ((go_at_call 56; (with_reducible refine Calls.bel_of (T1.out _)))))
              refine wpQuiet_nil ?_
              intro w12 hw'
              have HB12 := Lib.hid (BelW.of hw')
              clear hw' d1 d2 T1
              have T3 := Lib.hid (T2.out w12 HB12.out)
              have d3 : ∀ p : BelW w12, p.v.cell? ⟨bg, 3, none⟩ = some (.slice (some ⟨gC, 0, none⟩) m cC) := fun p => (HD3.out p.v (HB12.out.trans (p.h.mono HB12.out.size))).1
              have d4 : ∀ p : BelW w12, p.v.cell? ⟨gC, k, none⟩ = some (.slice (some ⟨bK, oK, none⟩) lk cK) := fun p => (HD3.out p.v (HB12.out.trans (p.h.mono HB12.out.size))).2.1
              have d5 : ∀ p : BelW w12, p.v.cell? ⟨bK, oK, none⟩ = some (.int .i64 (r : Nat)) := fun p => (HD3.out p.v (HB12.out.trans (p.h.mono HB12.out.size))).2.2
              go_upto_region 13 with (fail)
              refine wp_region_bel HMX.out (by kernel_rfl) ?_
              repeat (first
                | go_big_quiet_step ((go_at_call 56; (with_reducible refine Calls.bel_of (T3.out _))))
                | quiet_step ((go_at_call 56; (with_reducible refine Calls.bel_of (T3.out _)))))
              refine wpQuiet_nil ?_
              intro w13 hw'
              have HB13 := Lib.hid (HB12.out.trans ((BelW.of hw').mono HB12.out.size))
              clear hw' d3 d4 d5 T3 T2
              have HJ13 := Lib.hid (HJ.out.below HB13.out)
              clear HB12 HB13
              by_cases htr : t = r
              · have HE := Lib.hid (HYES.out htr)
                rw [HPJ.out.symm] at HE
                subst htr
                rw [HCN.out] at HE
                have hcv := HJ13.out.v.at (i := dd) (v := .slice (some ⟨gr, 0, none⟩) m m) (by rw [List.getElem?_set_self (by rw [HVL.out]; exact hlt)])
                have hcl : k < (cntL E (pairsTo C D i j)).length := (List.getElem?_eq_some_iff.1 HCA.out).1
                have hcg := HJ13.out.r.cellN (by rw [cntL_length, HMM.out]) hcl
                rw [(List.getElem?_eq_some_iff.1 HCA.out).2] at hcg
                have hfg := HJ13.out.r.free k (by rw [cntL_length, HMM.out])
                have HJ14 := Lib.hid (HJ13.out.inc HNE.out HWG.out (by rw [cntL_length, HMM.out]) k ((cn : Int) + 1))
                rw [← HE.out] at HJ14
                have hbe : ((t : Int) == (t : Int)) = true := by simp
                clear hcl
                go_wp2
                go_roundw
                case rel => exact ⟨j + 1, hjl, by go_num, HJ14.out⟩
                case measure => simp [intOf]; omega
              · have HE := Lib.hid (HNOT.out htr)
                rw [HPJ.out.symm] at HE
                have hbe : ((t : Int) == (r : Int)) = false := by simp; omega
                have hbe2 : ¬ (t : Int) = (r : Int) := by omega
                clear htr
                go_wp2
                go_roundw
                case rel => exact ⟨j + 1, hjl, by go_num, by rw [HE.out]; exact HJ13.out⟩
                case measure => simp [intOf]; omega
            · obtain rfl : j = n2 := by omega
              have hji : ¬ (j : Int) < (j : Int) := by omega
              have HJ := Lib.hid hJ
              clear hJ
              go_wp2
              go_roundw
              case rel => exact ⟨i + 1, hil, by go_num, by rw [← HPE.out]; exact HJ.out⟩
              case measure => simp [intOf]; omega
        · obtain rfl : i = n1 := by omega
          have hii : ¬ (i : Int) < (i : Int) := by omega
          have HFI := Lib.hid (show cntL E (pairsTo C D i 0) = cntL E (pairsL C D) by have := pairsTo_all C D; rw [HN1.out] at this; rw [this])
          rw [HFI.out] at HI
          have HRW2 := Lib.hid (show ∀ i u (hi : i < (constL E c).length), i < dd + 1 → (V.set dd (.slice (some ⟨gr, 0, none⟩) m m))[i]? = some u → Vec wr u (constL E c)[i] from fun i' u hi' hi2 hu => by
            by_cases e : i' = dd
            · subst e
              rw [List.getElem?_set_self (by rw [HVL.out]; exact hlt)] at hu
              obtain rfl := Option.some.inj hu
              obtain ⟨h2, h3⟩ := HRC.out i' (by rw [HCL.out, HMM.out]; exact hlt)
              have h4 := (List.getElem?_eq_some_iff.1 HD.out).2
              rw [h4] at h3
              rw [h3]
              exact HI.out.r.vec (by rw [cntL_length, HMM.out]; omega)
            · rw [List.getElem?_set_ne (Ne.symm e)] at hu
              exact HI.out.vec HGR.out HTY.out (HROW.out i' u hi' (by omega) hu))
          go_wp2
          go_roundw
          case rel => exact ⟨dd + 1, V.set dd (.slice (some ⟨gr, 0, none⟩) m m), hlt, by go_num, by rw [List.length_set]; exact HVL.out, HI.out.v, HRW2.out, HI.out.b⟩
          case measure => simp [intOf]; omega
    · obtain rfl : dd = m := by omega
      have hdi : ¬ (dd : Int) < (dd : Int) := by omega
      clear hv hb
      go_wp2
      go_ret
      refine ⟨_, rfl, ⟨some ⟨go, 0, none⟩, dd, (by rw [HCL2.out]; rfl), by rw [HCL2.out]; omega, by rw [HCL2.out]; exact Nat.le_refl _, fun _ => ⟨go, 0, rfl, HV.out.lt, fun i hi => ?_⟩⟩, HB.out⟩
      have hil : i < V.length := by rw [HVL.out, ← HCL2.out]; exact hi
      refine ⟨V[i], by rw [Nat.zero_add]; exact HV.out.at (List.getElem?_eq_getElem hil), ?_⟩
      exact (HROW.out i V[i] hi (by rw [← HCL2.out]; exact hi) (List.getElem?_eq_getElem hil)).ints
end Go.Proofs.Ytdackakjcnnofaa

/- slices.SortFunc over vectors. -/
namespace Go.Proofs.Ytdackakjcnnofaa
open Go.RowKit Go.Shelf Go.Lib Go.Sort
attribute [local go_sem] Oper.semAt_some

set_option maxHeartbeats 1000000 in
theorem CompareV_any (v1 v2 : Value) (xs ys : List Int) (w : World) (h1 : Ints w v1 xs) (h2 : Ints w v2 ys) :
    Calls Try.prog 45 #[v1, v2] w fun e w' => e = .returned (.int .i64 (cmpL xs ys)) ∧ w = w' := by
  obtain ⟨a, c, rfl, hl1, _, hc1⟩ := h1
  obtain ⟨a', c', rfl, hl2, _, hc2⟩ := h2
  have H1 := Lib.hid hc1
  have H2 := Lib.hid hc2
  have C := Lib.hid (fun x y w' => cmpC_any x y w')
  clear hc1 hc2
  go_enter Try.func45, Try.ntmps45
  go_wp2
  go_loop [11] (fun i => ∃ k : Nat, k ≤ xs.length ∧ k ≤ ys.length ∧ i = .int .i64 k ∧ Hid (cmpL xs ys = cmpL (xs.drop k) (ys.drop k))) (fun i => xs.length - (intOf i).toNat)
  case atStart => exact ⟨0, Nat.zero_le _, Nat.zero_le _, rfl, Lib.hid rfl⟩
  case round =>
    obtain ⟨k, hk1, hk2, rfl, HT⟩ := hrel
    by_cases hlt : k < xs.length
    · obtain ⟨b, off, rfl, hbl, hcell⟩ := H1.out (by intro e; rw [e] at hlt; simp at hlt)
      have hcx := hcell k hlt
      have hki : (k : Int) < (xs.length : Int) := by omega
      clear hcell
      by_cases hlt2 : k < ys.length
      · obtain ⟨b2, off2, rfl, hbl2, hcell2⟩ := H2.out (by intro e; rw [e] at hlt2; simp at hlt2)
        have hcy := hcell2 k hlt2
        have hki2 : (k : Int) < (ys.length : Int) := by omega
        have HD := Lib.hid (cmpL_drop hlt hlt2)
        clear hcell2
        obtain ⟨x, hx⟩ : ∃ x, xs[k] = x := ⟨_, rfl⟩
        obtain ⟨y, hy⟩ : ∃ y, ys[k] = y := ⟨_, rfl⟩
        rw [hx] at hcx HD
        rw [hy] at hcy HD
        clear hx hy
        by_cases h1 : x < y
        · have HC := Lib.hid (show cmp3 x y = -1 by unfold cmp3; rw [if_pos h1])
          have HE := Lib.hid (show cmpL xs ys = -1 by rw [HT.out, HD.out, if_pos h1])
          clear h1
          go_wp2_with (go_at_call 25; refine (C.out _ _ _).mono ?_; rintro e w1 ⟨rfl, rfl⟩; rw [HC.out])
          go_ret
          exact ⟨ret_int HE.out.symm, rfl⟩
        · by_cases h2 : y < x
          · have HC := Lib.hid (show cmp3 x y = 1 by unfold cmp3; rw [if_neg h1, if_pos h2])
            have HE := Lib.hid (show cmpL xs ys = 1 by rw [HT.out, HD.out, if_neg h1, if_pos h2])
            clear h1 h2
            go_wp2_with (go_at_call 25; refine (C.out _ _ _).mono ?_; rintro e w1 ⟨rfl, rfl⟩; rw [HC.out])
            go_ret
            exact ⟨ret_int HE.out.symm, rfl⟩
          · have HC := Lib.hid (show cmp3 x y = 0 by unfold cmp3; rw [if_neg h1, if_neg h2])
            have HE := Lib.hid (show cmpL xs ys = cmpL (xs.drop (k + 1)) (ys.drop (k + 1)) by rw [HT.out, HD.out, if_neg h1, if_neg h2])
            clear h1 h2
            go_wp2_with (go_at_call 25; refine (C.out _ _ _).mono ?_; rintro e w1 ⟨rfl, rfl⟩; rw [HC.out])
            go_round
            case rel => exact ⟨k + 1, by omega, by omega, by go_num, HE⟩
            case measure => simp [intOf]; omega
      · have hki2 : ¬ (k : Int) < (ys.length : Int) := by omega
        have hki3 : (ys.length : Int) ≤ (k : Int) := by omega
        have HE := Lib.hid (show cmpL xs ys = 1 by rw [HT.out, cmpL_over hlt hlt2])
        go_wp2
        go_ret
        exact ⟨ret_int HE.out.symm, rfl⟩
    · have hki : ¬ (k : Int) < (xs.length : Int) := by omega
      by_cases hlt2 : k < ys.length
      · have HE := Lib.hid (show cmpL xs ys = -1 by rw [HT.out, cmpL_under hlt hlt2])
        have hll : xs.length < ys.length := by omega
        have hli : (xs.length : Int) < (ys.length : Int) := by omega
        go_wp2
        go_ret
        exact ⟨ret_int HE.out.symm, rfl⟩
      · have HE := Lib.hid (show cmpL xs ys = 0 by rw [HT.out, cmpL_end hlt hlt2])
        have hll : ¬ xs.length < ys.length := by omega
        have hli : ¬ (xs.length : Int) < (ys.length : Int) := by omega
        go_wp2
        go_ret
        exact ⟨ret_int HE.out.symm, rfl⟩


def CmpEnd (z : Int) (W : World) (e : Ending) (w' : World) : Prop := e = .returned (.int .i64 z) ∧ ∃ q os', w' = Go.Sort.grow (W.drewN q) os'
theorem orL_two (a b : Int) : orL [a, b] = if a = 0 then b else a := by
  unfold orL
  by_cases h : a = 0
  · rw [if_pos h, if_pos h]
    unfold orL
    by_cases h2 : b = 0
    · rw [if_pos h2, h2]; rfl
    · rw [if_neg h2]
  · rw [if_neg h, if_neg h]
theorem two_ints {w : World} {g : Nat} {a b : Int} (h0 : w.cell? ⟨g, 0, none⟩ = some (.int .i64 a)) (h1 : w.cell? ⟨g, 1, none⟩ = some (.int .i64 b)) (hg : g < w.heap.size) : Ints w (.slice (some ⟨g, 0, none⟩) 2 2) [a, b] := by
  refine ⟨_, 2, rfl, by simp, by simp, fun _ => ⟨g, 0, rfl, hg, fun i hi => ?_⟩⟩
  have hi2 : i = 0 ∨ i = 1 := by simp at hi; omega
  rcases hi2 with rfl | rfl
  · simpa using h0
  · simpa using h1
theorem or_cmp {x y : Int} {a b : List Int} : orL [cmp3 x y, cmpL (x :: a) (y :: b)] = cmpL (x :: a) (y :: b) := by
  rw [orL_two]
  unfold cmp3
  rw [cmpL]
  by_cases h1 : x < y
  · simp [h1]
  · by_cases h2 : y < x
    · simp [h1, h2]
    · simp [h1, h2]
set_option maxRecDepth 20000 in
set_option maxHeartbeats 2000000 in
theorem table1_any (u1 u2 : Value) (a b : List Int) (w : World) (h1 : Ints w u1 a) (h2 : Ints w u2 b) (ha : 0 < a.length) (hb : 0 < b.length) :
    Calls Try.prog 43 #[u1, u2] w (CmpEnd (cmpL a b) w) := by
  have CC := Lib.hid ((CompareV_any _ _ _ _ w.drew (h1.below ((Below.refl _ _).drew)) (h2.below ((Below.refl _ _).drew))).mono (fun e w' (hh : e = .returned (.int .i64 (cmpL a b)) ∧ w.drew = w') => (⟨hh.1, hh.2.symm⟩ : e = .returned (.int .i64 (cmpL a b)) ∧ w' = w.drew)))
  obtain ⟨a1, c1, rfl, -, -, hc1⟩ := h1
  obtain ⟨a2, c2, rfl, -, -, hc2⟩ := h2
  obtain ⟨b1, o1, rfl, -, hcell1⟩ := hc1 (ne_nil_of_lt ha)
  obtain ⟨b2, o2, rfl, -, hcell2⟩ := hc2 (ne_nil_of_lt hb)
  have q1 := hcell1 0 ha
  have q2 := hcell2 0 hb
  rw [Nat.add_zero] at q1 q2
  obtain ⟨x, a', rfl⟩ : ∃ x a', a = x :: a' := by cases a with
    | nil => simp at ha
    | cons x a' => exact ⟨x, a', rfl⟩
  obtain ⟨y, b', rfl⟩ : ∃ y b', b = y :: b' := by cases b with
    | nil => simp at hb
    | cons y b' => exact ⟨y, b', rfl⟩
  simp only [List.getElem_cons_zero] at q1 q2
  have HO := Lib.hid (or_cmp (x := x) (y := y) (a := a') (b := b'))
  have OR := Lib.hid (fun (g : Nat) (w' : World) (h : Ints w' (.slice (some ⟨g, 0, none⟩) 2 2) [cmp3 x y, cmpL (x :: a') (y :: b')]) => cmpOr_any _ _ w' h)
  have CL := Lib.hid ((cmpC_any x y w.drew).mono (fun e w' (hh : e = .returned (.int .i64 (cmp3 x y)) ∧ w.drew = w') => (⟨hh.1, hh.2.symm⟩ : e = .returned (.int .i64 (cmp3 x y)) ∧ w' = w.drew)))
  obtain ⟨z1, hz1⟩ : ∃ c1, cmp3 x y = c1 := ⟨_, rfl⟩
  obtain ⟨z2, hz2⟩ : ∃ c2, cmpL (x :: a') (y :: b') = c2 := ⟨_, rfl⟩
  rw [hz1] at CL HO OR
  rw [hz2] at CC HO OR ⊢
  obtain ⟨n1, hn1⟩ : ∃ n, (x :: a').length = n := ⟨_, rfl⟩
  obtain ⟨n2, hn2⟩ : ∃ n, (y :: b').length = n := ⟨_, rfl⟩
  rw [hn1] at CC ha ⊢
  rw [hn2] at CC hb ⊢
  have hn1i : (0 : Int) < (n1 : Int) := by omega
  have hn2i : (0 : Int) < (n2 : Int) := by omega
  clear hc1 hc2 hcell1 hcell2 hz1 hz2 hn1 hn2
  go_enter Try.func43, Try.ntmps43
  go_upto_region 1 with (fail)
  go_still_tail 10, (by kernel_rfl)
  still_call CL.out
  repeat still_step
  still_call CC.out
  refine wpStill_nil ?_
  go_wp2_with (go_at_call 44; refine (OR.out _ _ (two_ints (by simp) (by simp) (by simp))).mono ?_; rintro e w2 ⟨rfl, rfl⟩)
  go_ret
  refine ⟨ret_int HO.out, 1, #[.cells #[.int .i64 z1, .int .i64 z2] 3], ?_⟩
  rw [alloc_eq_grow]; rfl

/-- Which of two vectors comes first. -/
def ltV : List Int → List Int → Bool
  | [], [] => false
  | [], _ :: _ => true
  | _ :: _, [] => false
  | x :: xs, y :: ys => if x < y then true else if y < x then false else ltV xs ys
theorem ltV_eq : ∀ a b : List Int, ltV a b = decide (a < b)
  | [], [] => by simp [ltV]
  | [], _ :: _ => by simp [ltV]
  | _ :: _, [] => by simp [ltV]
  | x :: xs, y :: ys => by
    rw [ltV, ltV_eq xs ys]
    simp only [List.cons_lt_cons_iff]
    by_cases h1 : x < y
    · simp [h1]
    · by_cases h2 : y < x
      · have h3 : ¬ x = y := by omega
        simp [h1, h2, h3]
      · have h3 : x = y := by omega
        subst h3
        simp
section
variable {L R : List (List Int)}
/-- Two sorted lists of the same elements are one. -/
theorem sorted_sameV (hp : L.Perm R) (hL : L.Pairwise (· < ·)) (hR : R.Pairwise (· < ·)) : L = R :=
  hp.eq_of_pairwise (fun a _ _ _ h1 h2 => absurd (List.lt_trans h1 h2) (List.lt_irrefl a)) hL hR
/-- The reference's insertion. -/
def insV (out : List (List Int)) (p : List Int) : List (List Int) := out.takeWhile (ltV · p) ++ p :: out.dropWhile (ltV · p)
theorem insV_perm (out : List (List Int)) (p : List Int) : (insV out p).Perm (p :: out) := by
  unfold insV
  refine List.perm_middle.trans ?_
  rw [List.takeWhile_append_dropWhile]
theorem insV_sorted {out : List (List Int)} {p : List Int} (h : out.Pairwise (· < ·)) (hn : p ∉ out) : (insV out p).Pairwise (· < ·) := by
  induction out with
  | nil => simp [insV]
  | cons a out ih =>
    rw [List.pairwise_cons] at h
    by_cases ha : a < p
    · have e : insV (a :: out) p = a :: insV out p := by simp [insV, ltV_eq, ha]
      rw [e, List.pairwise_cons]
      refine ⟨fun x hx => ?_, ih h.2 fun hm => hn (List.mem_cons_of_mem _ hm)⟩
      rcases List.mem_cons.1 ((insV_perm out p).mem_iff.1 hx) with rfl | hx
      · exact ha
      · exact h.1 x hx
    · have e : insV (a :: out) p = p :: a :: out := by simp [insV, ltV_eq, ha]
      have hpa : p < a := by
        rcases List.le_total a p with hle | hle
        · rcases List.le_iff_lt_or_eq.1 hle with h1 | h1
          · exact absurd h1 ha
          · exact absurd (h1 ▸ List.mem_cons_self) hn
        · rcases List.le_iff_lt_or_eq.1 hle with h1 | h1
          · exact h1
          · exact absurd (h1 ▸ List.mem_cons_self) hn
      rw [e, List.pairwise_cons, List.pairwise_cons]
      refine ⟨fun x hx => ?_, h⟩
      rcases List.mem_cons.1 hx with rfl | hx
      · exact hpa
      · exact List.lt_trans hpa (h.1 x hx)
def sortV (l : List (List Int)) : List (List Int) := l.foldl insV []
theorem sortV_go : ∀ (l out : List (List Int)), out.Pairwise (· < ·) → (∀ x ∈ l, x ∉ out) → l.Nodup → (l.foldl insV out).Pairwise (· < ·) ∧ (l.foldl insV out).Perm (out ++ l)
  | [], out, h, _, _ => ⟨h, by simp⟩
  | p :: l, out, h, hd, hn => by
    rw [List.nodup_cons] at hn
    have hp := hd p List.mem_cons_self
    obtain ⟨h1, h2⟩ := sortV_go l (insV out p) (insV_sorted h hp) (fun x hx hm => by
      rcases List.mem_cons.1 ((insV_perm out p).mem_iff.1 hm) with rfl | hm
      · exact hn.1 hx
      · exact hd x (List.mem_cons_of_mem _ hx) hm) hn.2
    refine ⟨h1, h2.trans ?_⟩
    refine ((insV_perm out p).append_right l).trans ?_
    exact List.perm_middle.symm
theorem sortV_sorted {l : List (List Int)} (hn : l.Nodup) : (sortV l).Pairwise (· < ·) := (sortV_go l [] List.Pairwise.nil (by simp) hn).1
theorem sortV_perm {l : List (List Int)} (hn : l.Nodup) : (sortV l).Perm l := (sortV_go l [] List.Pairwise.nil (by simp) hn).2
end
theorem cmpL_lt (a b : List Int) : decide (cmpL a b < 0) = decide (a < b) := by
  rw [cmpL_eq]
  refine decide_eq_decide.2 ?_
  by_cases h : a < b
  · simp [h]
  · rw [if_neg h]
    by_cases h2 : b < a <;> simp [h, h2]
theorem int_nlt {a b c : List Int} (h1 : ¬ a < b) (h2 : ¬ b < c) : ¬ a < c := fun h3 => h1 (by
  rcases List.le_total a b with h | h
  · rcases List.le_iff_lt_or_eq.1 h with h | h
    · exact h
    · rw [← h] at h2; exact absurd h3 h2
  · rcases List.le_iff_lt_or_eq.1 h with h | h
    · exact absurd (List.lt_trans h h3) h2
    · rw [h] at h2; exact absurd h3 h2)
theorem int_tot {a b : List Int} (h1 : ¬ a < b) (h2 : ¬ b < a) : a = b := by
  rcases List.le_total a b with h | h
  · rcases List.le_iff_lt_or_eq.1 h with h | h
    · exact absurd h h1
    · exact h
  · rcases List.le_iff_lt_or_eq.1 h with h | h
    · exact absurd h h2
    · exact h.symm
section
variable {α : Type} [Inhabited α] {enc : α → Value}
theorem heap_sortA {w : World} {g n : Nat} {os : Array Obj} {cur : Array Value} {e : TypeId} {fr : Nat × Nat} (d : Array α) (hb : w.heap[g]? = some (.cells cur e fr)) :
    (sortWorld enc w g 0 n d os).heap[g]? = some (.cells (putCells enc 0 d cur) e fr) := by
  have hg : g < w.heap.size := (Array.getElem?_eq_some_iff.1 hb).1
  unfold sortWorld
  rw [heap_grow_old _ _ (by simpa using hg)]
  simp [putRow, mapBlock, Sort.ahead, Array.getElem?_modify, hb, onCells]
theorem grown_sortA {w : World} {g n : Nat} {os : Array Obj} (d : Array α) : w.grownBy (sortWorld enc w g 0 n d os) (some g) := by
  refine ⟨rfl, rfl, rfl, by simp [sortWorld], fun k hk hne => ?_⟩
  unfold sortWorld
  rw [heap_grow_old _ _ (by simpa using hk)]
  have : g ≠ k := fun e => hne (by rw [e])
  simp [putRow, mapBlock, Sort.ahead, Array.getElem?_modify, this]
theorem take_sortA (cur : Array Value) (ts : List α) (h : ts.length ≤ cur.size) : (putCells enc 0 ts.toArray cur).toList.take ts.length = ts.map enc := by
  apply List.ext_getElem?
  intro j
  by_cases hj : j < ts.length
  · rw [List.getElem?_take_of_lt hj, Array.getElem?_toList]
    simp [putCells, hj, show j < cur.size by omega]
  · rw [List.getElem?_take_eq_none (by omega), List.getElem?_eq_none (by simp; omega)]
end
set_option maxHeartbeats 1000000 in
theorem sortV_any {B g cap n : Nat} {w : World} {L : List (List Int)} (h : OwnG 48 Vec B w (.slice (some ⟨g, 0, none⟩) n cap) L) (hnd : L.Nodup) (h0 : 0 < L.length) (hl : L.length ≤ 1000000) (hpos : ∀ v ∈ L, 0 < v.length) :
    Calls Try.prog 42 #[.slice (some ⟨g, 0, none⟩) n cap, .func (.func 43) #[] #[]] w fun e w' => e = .returned (.tuple #[]) ∧ OwnG 48 Vec B w' (.slice (some ⟨g, 0, none⟩) n cap) (sortV L) ∧ w.grownBy w' (some g) := by
  haveI : Inhabited (Fin L.length) := ⟨⟨0, h0⟩⟩
  have hty := (h.own rfl).2.2
  obtain rfl := h.lenN
  obtain ⟨vs, ho, hr⟩ := h
  have hvl : vs.length = L.length := by have := ho.1; omega
  rcases ho.2 with ⟨hv, _⟩ | ⟨g', cap', cur, hv, hB, hb, h1, h2, h3, h4⟩
  · cases hv
  obtain ⟨e1, _, rfl⟩ := Value.slice.inj hv
  obtain rfl : g = g' := by cases e1; rfl
  have hrow : ∀ i : Fin L.length, Vec w (vs[i.val]'(by rw [hvl]; exact i.isLt)) L[i.val] := fun i => hr i.val _ _ (List.getElem?_eq_getElem _) (List.getElem?_eq_getElem _)
  obtain ⟨enc, henc⟩ : ∃ enc : Fin L.length → Value, enc = fun i => vs[i.val]'(by rw [hvl]; exact i.isLt) := ⟨_, rfl⟩
  obtain ⟨cf, hcf⟩ : ∃ cf : Fin L.length → Fin L.length → Int, cf = fun i j => cmpL L[i.val] L[j.val] := ⟨_, rfl⟩
  have hrow2 : ∀ w' x, w.grownBy w' (some g) → Vec w' (enc x) L[x.val] := fun w' x hs => by
    rw [henc]
    exact Vec.keep ne_vi _ _ _ _ (KX.of_grown hs fun k hk => by cases hk; exact hty) (hrow x)
  have hone : OneCell enc := fun i => by rw [henc]; exact (hrow i).one
  have hlt : ∀ i j, ltOf cf i j = decide (L[i.val] < L[j.val]) := fun i j => by unfold ltOf; rw [hcf]; exact cmpL_lt _ _
  have hO : SWO (ltOf cf) := by
    refine ⟨fun x => by rw [hlt]; simp, fun x y z a b => ?_, fun x y z a b => ?_⟩
    · rw [hlt, decide_eq_true_eq] at a b ⊢
      exact List.lt_trans a b
    · rw [hlt, decide_eq_false_iff_not] at a b ⊢
      exact int_nlt a b
  have hT : ∀ x y, ltOf cf x y = false → ltOf cf y x = false → x = y := fun x y a b => by
    rw [hlt, decide_eq_false_iff_not] at a b
    exact Fin.ext ((List.getElem_inj hnd).1 (int_tot a b))
  have eg : ∀ args w, (callFunc 43 args).run Try.prog w = .ok (.enter 43 args) w := enters_of Try.func43 (by kernel_rfl) rfl
  have hsz : (List.finRange L.length).toArray.size = L.length := by simp
  have hH : Holds enc w g 0 (List.finRange L.length).toArray := by
    intro j hj
    have hjl : j < L.length := by simpa using hj
    refine ⟨?_, by simp [World.frozen?, hb]⟩
    rw [Nat.zero_add, World.ownsRow.cellAt ho j (by omega), List.getElem?_eq_getElem (by omega), getElem!_pos _ j hj]
    rw [henc]
    simp
  have hcmp : CmpLays1 Try.prog 43 #[] enc cf g 0 (List.finRange L.length).toArray.size w := by
    intro q os dk hdk x y
    have hs : w.grownBy (sortWorld enc w g 0 q dk os) (some g) := grown_sortA dk
    have := table1_any (enc x) (enc y) _ _ (sortWorld enc w g 0 q dk os) (hrow2 _ x hs).ints (hrow2 _ y hs).ints (hpos _ (List.getElem_mem _)) (hpos _ (List.getElem_mem _))
    rw [hcf]
    exact this
  have hS1 := Any.slices_SortFunc_total layV enc hone cf hO 43 #[] g 0 cap (List.finRange L.length).toArray w eg hcmp hH (Array.getElem?_eq_some_iff.1 hb).1 (by rw [hsz]; omega) hT
  change Calls Try.prog 42 _ _ _ at hS1
  rw [hsz] at hS1
  refine hS1.mono fun e w' hh => ?_
  obtain ⟨he, k, os, rfl⟩ := hh
  obtain ⟨ts, hts⟩ : ∃ ts, ((List.finRange L.length).mergeSort fun x y => !(ltOf cf) y x) = ts := ⟨_, rfl⟩
  have htp : ts.Perm (List.finRange L.length) := by rw [← hts]; exact List.mergeSort_perm _ _
  have htl : ts.length = L.length := by rw [htp.length_eq]; simp
  have hfin : (List.finRange L.length).map (fun i => L[i.val]) = L := by
    apply List.ext_getElem (by simp)
    intro i h1 h2
    simp
  have hmp : (ts.map fun i => L[i.val]).Perm L := by
    have := htp.map fun i => L[i.val]
    rw [hfin] at this
    exact this
  have hms : (ts.map fun i => L[i.val]).Pairwise (· < ·) := by
    have hpw : ts.Pairwise (fun x y => (!(ltOf cf) y x) = true) := by
      have := List.pairwise_mergeSort (le := fun x y => !(ltOf cf) y x) (fun a b c h1 h2 => by
        simp only [Bool.not_eq_true'] at h1 h2 ⊢
        exact hO.ntrans _ _ _ h2 h1) (fun a b => by
        simp only [hlt, Bool.or_eq_true, Bool.not_eq_true', decide_eq_false_iff_not]
        by_cases h : L[b.val] < L[a.val]
        · exact .inr fun h2 => List.lt_irrefl _ (List.lt_trans h h2)
        · exact .inl h) (List.finRange L.length)
      rw [hts] at this
      exact this
    rw [List.pairwise_map]
    have hnt : ts.Nodup := htp.nodup_iff.2 (List.nodup_finRange _)
    refine (hpw.and hnt).imp fun {a b} hh => ?_
    have h1 : ¬ L[b.val] < L[a.val] := by
      have := hh.1
      rw [hlt, Bool.not_eq_true', decide_eq_false_iff_not] at this
      exact this
    by_cases h2 : L[a.val] < L[b.val]
    · exact h2
    · exact absurd (Fin.ext ((List.getElem_inj hnd).1 (int_tot h2 h1))) hh.2
  have htm : (ts.map fun i => L[i.val]) = sortV L := sorted_sameV (hmp.trans (sortV_perm hnd).symm) hms (sortV_sorted hnd)
  rw [List.toList_toArray, hts]
  have hsl : (sortV L).length = L.length := (sortV_perm hnd).length_eq
  refine ⟨he, ⟨ts.map enc, ⟨by simp [htl, hsl], .inr ⟨g, cap, _, by rw [hsl], hB, heap_sortA _ hb, by rw [hsl]; exact h1, h2, by simp [putCells, h3], ?_⟩⟩, ?_⟩, grown_sortA _⟩
  · have := take_sortA (enc := enc) cur ts (by rw [h3]; omega)
    rw [← this, hsl, htl]
    simp
  · intro i u l hu hl'
    rw [← htm] at hl'
    rw [List.getElem?_map] at hu hl'
    cases hti : ts[i]? with
    | none => rw [hti] at hu; cases hu
    | some x =>
      rw [hti] at hu hl'
      obtain rfl := Option.some.inj hu
      obtain rfl := Option.some.inj hl'
      exact hrow2 _ x (grown_sortA _)
end Go.Proofs.Ytdackakjcnnofaa

/- table: the walk. -/
namespace Go.Proofs.Ytdackakjcnnofaa
open Go.RowKit
attribute [local go_sem] Oper.semAt_some

theorem over_prime_ck : ((List.range 62).all fun q => !primeC q || (List.range q).all fun x => Nat.beq x 0 || okOver q x) = true := by kernel_rfl
theorem over_prime {q : Nat} (hq : q < 62) (hp : primeC q = true) {x : Nat} (h0 : 0 < x) (hx : x < q) : okOver q x = true := by
  have h := List.all_eq_true.1 over_prime_ck q (List.mem_range.2 hq)
  rw [hp, Bool.not_true, Bool.false_or] at h
  have h2 := List.all_eq_true.1 h x (List.mem_range.2 hx)
  have h3 : Nat.beq x 0 = false := by
    cases x with
    | zero => omega
    | succ x => rfl
  rw [h3, Bool.false_or] at h2
  exact h2
def nodV : List (List Int) → Bool
  | [] => true
  | x :: l => l.all (fun y => ltV x y || ltV y x) && nodV l
theorem nodV_iff : ∀ {l : List (List Int)}, nodV l = true → l.Nodup
  | [], _ => List.nodup_nil
  | x :: l, h => by
    rw [nodV, Bool.and_eq_true, List.all_eq_true] at h
    rw [List.nodup_cons]
    refine ⟨fun hm => ?_, nodV_iff h.2⟩
    have := h.1 x hm
    rw [ltV_eq] at this
    simp at this
    exact List.lt_irrefl x this
/-- All that the program's table asks of its class data. -/
def tabOk (q nE : Nat) (sz bk : List Nat) (ks : List (List (List Int))) : Bool :=
  (List.range (sz.length + 1)).all (fun c => Nat.ble (spacesTo q sz.length ks c).length 1000) &&
  (List.range sz.length).all (fun c => (spacesTo q sz.length ks c).all fun s => Nat.blt 0 (splitL q sz.length (ks.getD c []) s).length) &&
  rawOk q nE sz bk ks && nodV (rawL q nE sz bk ks) && Nat.blt 0 (rawL q nE sz bk ks).length
structure TabOk (q nE : Nat) (sz bk : List Nat) (ks : List (List (List Int))) : Prop where
  few : ∀ c, c ≤ sz.length → (spacesTo q sz.length ks c).length ≤ 1000
  some : ∀ c, c < sz.length → ∀ s ∈ spacesTo q sz.length ks c, splitL q sz.length (ks.getD c []) s ≠ []
  fok : ∀ s ∈ spacesTo q sz.length ks sz.length, funOk q nE sz bk (s.headD []) = true
  nd : (rawL q nE sz bk ks).Nodup
  pos : 0 < (rawL q nE sz bk ks).length
theorem tabOk_iff {q nE : Nat} {sz bk : List Nat} {ks : List (List (List Int))} (h : tabOk q nE sz bk ks = true) : TabOk q nE sz bk ks := by
  unfold tabOk rawOk at h
  simp only [Bool.and_eq_true, List.all_eq_true, List.mem_range] at h
  obtain ⟨⟨⟨⟨h1, h2⟩, h3⟩, h4⟩, h5⟩ := h
  exact ⟨fun c hc => Nat.le_of_ble_eq_true (h1 c (by omega)), fun c hc s hs e => by
    have h6 : Nat.ble 1 (splitL q sz.length (ks.getD c []) s).length = true := h2 c hc s hs
    rw [e] at h6
    exact absurd h6 (by decide), h3, nodV_iff h4, Nat.le_of_ble_eq_true (show Nat.ble 1 _ = true from h5)⟩
/-- The table. -/
def tabL (q nE : Nat) (sz bk : List Nat) (ks : List (List (List Int))) : List (List Int) := sortV (rawL q nE sz bk ks)
/-- The spaces are made of vectors modulo q. -/
theorem kernelL_vl {q m : Nat} (hq : 0 < q) {B I : List (List Int)} (hB : VL q m B) (hI : VL q m I) (hi : I.length = B.length) : VL q m (kernelL q m B I) ∧ (kernelL q m B I).length ≤ B.length := by
  obtain ⟨h1, h2, h3, h4, h5⟩ := kerTo_ok hq hB hI rfl hi m
  unfold kernelL
  exact ⟨fun v hv => h4 v (List.mem_of_mem_drop hv), by rw [List.length_drop]; omega⟩
theorem splitTo_vl {q m : Nat} (hq : 0 < q) {M B : List (List Int)} (hM : M.length = m) (hB : VL q m B) : ∀ x, ∀ s ∈ splitTo q m M B x, VL q m s ∧ 0 < s.length ∧ s.length ≤ B.length
  | 0, s, hs => by simp [splitTo] at hs
  | x + 1, s, hs => by
    by_cases hz : (kernelL q m B (imagesL q M B x)).length = 0
    · rw [splitTo_no hz] at hs
      exact splitTo_vl hq hM hB x s hs
    · rw [splitTo_yes hz] at hs
      rcases List.mem_append.1 hs with hs | hs
      · exact splitTo_vl hq hM hB x s hs
      · obtain rfl := List.mem_singleton.1 hs
        have := kernelL_vl hq hB (imagesL_vl (q := q) hq hM hB x) (imagesL_length q M B x)
        exact ⟨this.1, by omega, this.2⟩
theorem splitL_vl {q m : Nat} (hq : 0 < q) {M B : List (List Int)} (hM : M.length = m) (hB : VL q m B) (h0 : 0 < B.length) : ∀ s ∈ splitL q m M B, VL q m s ∧ 0 < s.length ∧ s.length ≤ B.length := by
  intro s hs
  unfold splitL at hs
  split at hs
  · obtain rfl := List.mem_singleton.1 hs
    exact ⟨hB, h0, Nat.le_refl _⟩
  · exact splitTo_vl hq hM hB q s hs
theorem unitL_vl {q : Nat} (hq : 1 < q) (n : Nat) : VL q n (unitL n) := by
  intro v hv
  obtain ⟨c, _, rfl⟩ := List.mem_map.1 hv
  refine ⟨by simp, fun a ha => ?_⟩
  rcases List.mem_or_eq_of_mem_set ha with h | rfl
  · have := (List.mem_replicate.1 h).2; omega
  · omega
theorem unitL_length (n : Nat) : (unitL n).length = n := by simp [unitL]
theorem unitL_take (n c : Nat) (h : c < n) : (unitL n).take (c + 1) = (unitL n).take c ++ [(List.replicate n (0 : Int)).set c 1] := by
  rw [List.take_succ_eq_append_getElem (by rw [unitL_length]; exact h)]; simp [unitL]
theorem spaces_vl {q n : Nat} (hq : 1 < q) (hn : 0 < n) {ks : List (List (List Int))} (hk : ∀ c, c < n → (ks.getD c []).length = n) : ∀ c, c ≤ n → ∀ s ∈ spacesTo q n ks c, VL q n s ∧ 0 < s.length ∧ s.length ≤ n
  | 0, _, s, hs => by
    obtain rfl := List.mem_singleton.1 hs
    exact ⟨unitL_vl hq n, by rw [unitL_length]; exact hn, by rw [unitL_length]; exact Nat.le_refl _⟩
  | c + 1, hc, s, hs => by
    obtain ⟨b, hb, hsb⟩ := List.mem_flatMap.1 hs
    have ih := spaces_vl hq hn hk c (by omega) b hb
    have := splitL_vl (by omega) (hk c (by omega)) ih.1 ih.2.1 s hsb
    exact ⟨this.1, this.2.1, by omega⟩
theorem flat_take {α β : Type} (f : α → List β) (l : List α) (j : Nat) (h : j < l.length) : (l.take (j + 1)).flatMap f = (l.take j).flatMap f ++ f l[j] := by
  rw [List.take_succ_eq_append_getElem h, List.flatMap_append]; simp
theorem funL_length (q nE : Nat) (sz bk : List Nat) (v : List Int) : (funL q nE sz bk v).length = sz.length := by unfold funL; rw [funTo_length]
/-- The world behind make(vector, n). -/
theorem make_V (n : Nat) (hn : n ≤ 100000) (w : World) : (Instr.makeSlice 48 (.int .i64 (n : Int)) (.int .i64 (n : Int))).run Try.prog w = .ok (.slice (some ⟨w.heap.size, 0, none⟩) n n) (mkZ n w) := by
  rw [run_make_row' (P := Try.prog) 48 3 (.int .i64 0) 8 Try.underlying48 info3 rfl .i64 .i64 n (by omega) (by omega) w, madeCells_replicate]
  unfold mkZ
  simp [toI]
end Go.Proofs.Ytdackakjcnnofaa

/- table: the walk. -/
namespace Go.Proofs.Ytdackakjcnnofaa
open Go.RowKit
attribute [local go_sem] Oper.semAt_some

/-- The numbers of products, for each class. -/
def ksE (E : List (List Nat)) : List (List (List Int)) := (List.range (repsN E E.length).length).map (constL E)
theorem ksE_at {E : List (List Nat)} {c : Nat} (h : c < (repsN E E.length).length) : (ksE E).getD c [] = constL E c := by
  unfold ksE
  rw [List.getD_eq_getElem?_getD, List.getElem?_map, List.getElem?_range h]; rfl
def szE (E : List (List Nat)) : List Nat := (classesN E).map List.length
theorem szE_length {E : List (List Nat)} : (szE E).length = (repsN E E.length).length := by simp [szE, classesN]
/-- The table of a group. -/
def tabG (E : List (List Nat)) (d : Nat) : List (List Int) := tabL (primeN E d) E.length (szE E) (backC E) (ksE E)
def okG (E : List (List Nat)) (d : Nat) : Bool := tabOk (primeN E d) E.length (szE E) (backC E) (ksE E)
theorem backC_lt {d : Nat} {E : List (List Nat)} (h : Grp d E) : ∀ b ∈ backC E, b < (repsN E E.length).length := by
  intro b hb
  obtain ⟨r, hr, rfl⟩ := List.mem_map.1 hb
  exact h.cls_lt (h.inv_spec (reps_mem.1 hr).1).1
set_option maxRecDepth 20000 in
set_option maxHeartbeats 4000000 in
theorem table_any' {d : Nat} {E : List (List Nat)} (bg : Nat) (w : World) (h : Grp d E) (hd : d ≤ 5) (h24 : E.length ≤ 24) (hp : PG d E w bg) (hok : okG E d = true) :
    Calls Try.prog 22 #[.pointer (some ⟨bg, 0, none⟩)] w fun e w' => ∃ v', e = .returned v' ∧ OwnG 48 Vec w.heap.size w' v' (tabG E d) ∧ Below w.heap.size w w' := by
  have hpr := h.prime_spec hd h24
  have HT := Lib.hid (tabOk_iff hok)
  have HG := Lib.hid h
  have HP := Lib.hid hp
  have HGD := Lib.hid hp.gd
  have hml := reps_len (E := E) E.length
  have hm0 : 0 < (repsN E E.length).length := by
    have h0 : (0 : Nat) ∈ repsN E E.length := reps_mem.2 ⟨h.pos, first_iff.2 fun b hb => by omega⟩
    exact List.length_pos_of_mem h0
  have CN := Lib.hid (fun (c : Nat) (W : World) (hb : Below w.heap.size w W) (hc : c < (repsN E E.length).length) => constants_any bg c W h hd h24 (hp.below hb) hc)
  have HKL := Lib.hid (fun c (hc : c < (repsN E E.length).length) => constL_length (E := E) c)
  have HCR := Lib.hid (fun c => constL_row (E := E) c)
  have HCB := Lib.hid (fun c => constL_le (E := E) (c := c) h24)
  have HKA := Lib.hid (fun c hc => ksE_at (E := E) (c := c) hc)
  have HBL := Lib.hid (backC_length (E := E))
  have HBT := Lib.hid (backC_lt h)
  have HCS := Lib.hid (fun l (hl : l ∈ classesN E) => (classes_len hl).1)
  have HCLN := Lib.hid (show (classesN E).length = (repsN E E.length).length by simp [classesN])
  have HSZ := Lib.hid (szE_length (E := E))
  have HPC := Lib.hid (show primeC (primeN E d) = true by
    have h1 := h.fits_eq hpr.2.1
    rw [hpr.2.2.1, Bool.and_eq_true] at h1
    exact h1.2)
  obtain ⟨q, hq⟩ : ∃ q, primeN E d = q := ⟨_, rfl⟩
  have HQ := Lib.hid hq
  rw [hq] at HT HGD HPC hpr
  obtain ⟨m, hm⟩ : ∃ m, (repsN E E.length).length = m := ⟨_, rfl⟩
  have HM := Lib.hid hm
  rw [hm] at CN HKL HCR HKA HBL HBT HCLN HSZ hml hm0
  have hq1 : 1 < q := by have := h.pos; omega
  have hq2 : q < 62 := hpr.2.1
  have HOV := Lib.hid (fun x h0 hx => over_prime (q := q) (x := x) hq2 HPC.out h0 hx)
  have HSV := Lib.hid (spaces_vl (q := q) (n := m) hq1 hm0 (ks := ksE E) (fun c hc => by rw [HKA.out c hc, HKL.out c hc]))
  have SPL := Lib.hid (fun (c : Nat) (s : List (List Int)) (vm vs : Value) (W : World) (hb : Below w.heap.size w W) (hc : c < m) (hs : s ∈ spacesTo q m (ksE E) c) (ha : Args W vm (constL E c)) (hv : Vecs W vs s) =>
    split_any bg q m s.length vm vs (constL E c) s W (HGD.out.p.below hb) hq1 hq2 HOV.out ha (HKL.out c hc) (fun r hr => HCR.out c r hr) (HCB.out c) hv (HSV.out c (by omega) s hs).1 rfl (HSV.out c (by omega) s hs).2.1 (by have := (HSV.out c (by omega) s hs).2.2; omega) hm0 (by omega))
  have FNC := Lib.hid (fun (s : List (List Int)) (vv : Value) (W : World) (hb : Below w.heap.size w W) (hs : s ∈ spacesTo q m (ksE E) m) (hv : Ints W vv (s.headD [])) =>
    function_any bg q E.length vv (classesN E) (backC E) (s.headD []) W (HGD.out.below hb) hq1 hq2 hv (HT.out.fok s (by rw [HSZ.out]; exact hs)) (by rw [HBL.out, HCLN.out]) (fun b hb => by rw [HCLN.out]; exact HBT.out b hb) (fun l hl => by have := HCS.out l hl; omega) (by rw [HCLN.out]; omega) (by rw [HCLN.out]; exact hm0) h24)
  obtain ⟨S0, H0, vC, hcC, hrC⟩ := HGD.out.c
  obtain ⟨aC, cC, rfl⟩ := hrC.form
  rw [HCLN.out] at hcC
  have hbgl := HGD.out.p.1
  have HCC := Lib.hid (fun (W : World) (hb : Below w.heap.size w W) => show W.cell? ⟨bg, 3, none⟩ = some (.slice aC m cC) from (hb.cell (p := ⟨bg, 3, none⟩) hbgl).trans hcC)
  have HU1 := Lib.hid (unitL_length m)
  have HU2 := Lib.hid (fun c hc => unitL_take m c hc)
  have HRAW := Lib.hid (show rawL q E.length (szE E) (backC E) (ksE E) = (spacesTo q m (ksE E) m).map fun s => funL q E.length (szE E) (backC E) (s.headD []) by unfold rawL; rw [HSZ.out])
  have HTB := Lib.hid (show tabG E d = sortV (rawL q E.length (szE E) (backC E) (ksE E)) by unfold tabG tabL; rw [hq])
  have HFEW := Lib.hid (show ∀ c, c ≤ m → (spacesTo q m (ksE E) c).length ≤ 1000 from fun c hc => by have := HT.out.few c (by rw [HSZ.out]; exact hc); rw [HSZ.out] at this; exact this)
  have HSOME := Lib.hid (show ∀ c, c < m → ∀ s ∈ spacesTo q m (ksE E) c, splitL q m (constL E c) s ≠ [] from fun c hc s hs => by
    have := HT.out.some c (by rw [HSZ.out]; exact hc) s (by rw [HSZ.out]; exact hs)
    rw [HSZ.out, HKA.out c hc] at this
    exact this)
  have HNXT := Lib.hid (show ∀ c, c < m → spacesTo q m (ksE E) (c + 1) = (spacesTo q m (ksE E) c).flatMap (splitL q m (constL E c)) from fun c hc => by rw [spacesTo, HKA.out c hc])
  have MV := fun W => make_V m (by omega) W
  have hc3 := HCC.out w (Below.refl _ _)
  have HZL := Lib.hid (show ∀ c, (toI (List.replicate m 0)).set c 1 = (List.replicate m (0 : Int)).set c 1 from fun c => by unfold toI; rw [List.map_replicate]; rfl)
  clear hp hok hrC hcC hpr hq hm
  go_enter Try.func22, Try.ntmps22
  go_wp2
  go_loopw [3, 20] (fun vu ix wr => ∃ c : Nat, c ≤ m ∧ ix = .int .i64 c ∧ OwnG 48 Vec w.heap.size wr vu ((unitL m).take c) ∧ Below w.heap.size w wr) (fun _ ix _ => m - (intOf ix).toNat)
  case atStart => exact ⟨0, Nat.zero_le _, rfl, OwnG.nil _ _ _ _, Below.refl _ _⟩
  case round =>
    obtain ⟨c, hc, rfl, ho, hb⟩ := hrel
    have HO := Lib.hid ho
    have HB := Lib.hid hb
    have hsz := hb.size
    by_cases hlt : c < m
    · have hci : (c : Int) < (m : Int) := by omega
      have hc3r := HCC.out wr hb
      have hz := mkZ_own m wr (by unfold maxLen; omega)
      have hcz := hz.cellN (j := c) (by simp [toI]) (by simp [toI]; exact hlt)
      have hfz := hz.free c (by simp [toI])
      have HZ1 := Lib.hid (show OwnI 3 wr.heap.size ((mkZ m wr).setCell ⟨wr.heap.size, c, none⟩ (.int .i64 1)) (.slice (some ⟨wr.heap.size, 0, none⟩) m m) ((List.replicate m (0 : Int)).set c 1) by
        rw [← HZL.out c]; exact hz.storedN (by simp [toI]) c 1)
      have HZB := Lib.hid (show Below wr.heap.size wr ((mkZ m wr).setCell ⟨wr.heap.size, c, none⟩ (.int .i64 1)) from (mkZ_below m wr).setCell (p := ⟨wr.heap.size, c, none⟩) (Nat.le_refl _) _)
      clear ho hb hz
      go_upto_region 7 with (fail)
      obtain ⟨W6, hW6⟩ : ∃ x, (mkZ m wr).setCell ⟨wr.heap.size, c, none⟩ (.int .i64 1) = x := ⟨_, rfl⟩
      rw [hW6] at HZ1 HZB ⊢
      clear hW6 hcz hfz hc3r
      have HZV := Lib.hid (HZ1.out.vec (by simp; omega))
      obtain ⟨gz, hgz⟩ : ∃ x, wr.heap.size = x := ⟨_, rfl⟩
      have HGZ := Lib.hid hgz
      rw [hgz] at HZV ⊢
      clear hgz
      have HO6 := Lib.hid (HO.out.below HZB.out vec_keep0)
      have HB6 := Lib.hid (HB.out.trans (HZB.out.mono hsz))
      have hs6 := HB6.out.size
      have HL6 := Lib.hid (show ((unitL m).take c).length + 1 < 1000000 by rw [List.length_take, HU1.out]; omega)
      have HS := Lib.hid (HU2.out c hlt)
      go_wp2_with (at_builtin; refine wpl_appG (t := 48) (R := Vec) (B := w.heap.size) rfl _ _ 46 rfl Try.underlying46 info_v (Vec.keep ne_vi) (fun _ _ _ h => h.one) rfl (HO6.out.below ((Below.refl _ _).alloc (Nat.le_refl _) _) vec_keep0) rfl (Held.new _ _ [_]) (HZV.out.below ((Below.refl _ _).alloc (Nat.le_refl _) _)) HL6.out (by simp; omega) ?_; intro v7 w7 ho7 hg7 hl7; have HO7 := Lib.hid ho7; have HB7 := Lib.hid ((HB6.out.alloc hs6 (.cells #[.slice (some ⟨gz, 0, none⟩) m m] 48)).grown hg7 (by simp; omega) (fun k hk => (HO6.out.own hk).1)); clear ho7 hg7 hl7)
      go_roundw
      case rel => exact ⟨c + 1, hlt, by go_num, by rw [HS.out]; exact HO7.out, HB7.out⟩
      case measure => simp [intOf]; omega
    · obtain rfl : c = m := by omega
      have hci : ¬ (c : Int) < (c : Int) := by omega
      have HUN := Lib.hid (show OwnG 48 Vec w.heap.size wr u3 (unitL c) by rw [List.take_of_length_le (by rw [HU1.out]; exact Nat.le_refl _)] at ho; exact ho)
      obtain ⟨aU, cU, hUf⟩ := HUN.out.form
      rw [HU1.out] at hUf
      subst hUf
      have HUV := Lib.hid (show Vecs wr (.slice aU c cU) (unitL c) from HUN.out.slr (by rw [HU1.out]; omega))
      have HSP0 := Lib.hid (show Spcs (wr.alloc (.cells #[.slice aU c cU] 46)) (.slice (some ⟨wr.heap.size, 0, none⟩) 1 1) (spacesTo q c (ksE E) 0) from slr_lit (HUV.out.below ((Below.refl _ _).alloc (Nat.le_refl _) _)))
      have HB1 := Lib.hid (hb.alloc hsz (.cells #[.slice aU c cU] 46))
      have hc3r := HCC.out _ HB1.out
      clear ho hb
      obtain ⟨wa, hwa⟩ : ∃ x, x = wr := ⟨_, rfl⟩
      rw [← hwa] at HSP0 HB1 hc3r ⊢
      clear hwa
      go_wp2_with fail
      go_loopw [6, 44] (fun vs ix wr => ∃ i : Nat, i ≤ c ∧ ix = .int .i64 i ∧ Spcs wr vs (spacesTo q c (ksE E) i) ∧ Below w.heap.size w wr) (fun _ ix _ => c - (intOf ix).toNat)
      case atStart => exact ⟨0, Nat.zero_le _, rfl, HSP0.out, HB1.out⟩
      case round =>
        obtain ⟨i, hi, rfl, hsp, hb⟩ := hrel
        obtain ⟨wb, hwb⟩ : ∃ x, x = wr := ⟨_, rfl⟩
        rw [← hwb] at hsp hb ⊢
        clear hwb
        have HSP := Lib.hid hsp
        have HB := Lib.hid hb
        have hszb := hb.size
        obtain ⟨aS, cS, hSf⟩ := hsp.form
        by_cases hil : i < c
        · have hii : (i : Int) < (c : Int) := by omega
          have HNX := Lib.hid (HNXT.out i hil)
          have hfew := HFEW.out i (by omega)
          have hfew2 := HFEW.out (i + 1) (by omega)
          have HSM := Lib.hid (HSOME.out i hil)
          have CNI := Lib.hid (CN.out i wb hb hil)
          have SPI := Lib.hid (fun s vm vs W hb => SPL.out i s vm vs W hb hil)
          rw [HNX.out] at hfew2
          obtain ⟨SS, hSS⟩ : ∃ x, spacesTo q c (ksE E) i = x := ⟨_, rfl⟩
          rw [hSS] at HSP hSf hfew hfew2 HNX HSM SPI
          obtain ⟨ns, hns⟩ : ∃ x, SS.length = x := ⟨_, rfl⟩
          have HNS := Lib.hid hns
          rw [hns] at hSf hfew
          subst hSf
          have HF2 := Lib.hid hfew2
          clear hsp hb hSS hns hfew2
          go_wp2_with (go_at_call 39; refine CNI.out.mono ?_; rintro e wc ⟨vm, rfl, ha, hbc⟩; have HA := Lib.hid ha; have HBC := Lib.hid (HB.out.trans (hbc.mono hszb)); have HSC := Lib.hid (HSP.out.below hbc); obtain ⟨am, cm, rfl⟩ := ha.form; clear ha hbc)
          have hszc := HBC.out.size
          go_loopw [9, 52] (fun vn jx wq => ∃ j : Nat, j ≤ ns ∧ jx = .int .i64 j ∧ OwnG 46 Vecs wc.heap.size wq vn ((SS.take j).flatMap (splitL q c (constL E i))) ∧ Below wc.heap.size wc wq) (fun _ jx _ => ns - (intOf jx).toNat)
          case atStart => exact ⟨0, Nat.zero_le _, rfl, OwnG.nil _ _ _ _, Below.refl _ _⟩
          case round =>
            obtain ⟨j, hj, rfl, hn, hbj⟩ := hrel
            have HN := Lib.hid hn
            have HBJ := Lib.hid hbj
            have hszj := hbj.size
            have HWJ := Lib.hid (HBC.out.trans (hbj.mono hszc))
            by_cases hjl : j < ns
            · have hji : (j : Int) < (ns : Int) := by omega
              have hjS : j < SS.length := by rw [HNS.out]; exact hjl
              obtain ⟨b1, o1, cc, u, e1, hb1, -, hcu, hu⟩ := (HSC.out.below hbj).at j hjS
              obtain rfl : aS = some ⟨b1, o1, none⟩ := (Value.slice.inj e1).1
              have hmem := List.getElem_mem hjS
              have HT2 := Lib.hid (flat_take (splitL q c (constL E i)) SS j hjS)
              have HNE := Lib.hid (HSM.out _ hmem)
              have HU := Lib.hid hu
              have HM1 := Lib.hid hmem
              have hpre : ((SS.take (j + 1)).flatMap (splitL q c (constL E i))).length ≤ 1000 := by
                have h1 : (SS.flatMap (splitL q c (constL E i))).length ≤ 1000 := HF2.out
                rw [← List.take_append_drop (j + 1) SS, List.flatMap_append, List.length_append] at h1
                omega
              rw [HT2.out, List.length_append] at hpre
              obtain ⟨s, hs⟩ : ∃ s, SS[j] = s := ⟨_, rfl⟩
              rw [hs] at hu HT2 HNE HU HM1 hpre
              obtain ⟨a2, c2, rfl⟩ := hu.form
              have SPC := Lib.hid (SPI.out s _ _ wr HWJ.out HM1.out (HA.out.below hbj) HU.out)
              have HPRE := Lib.hid hpre
              clear hn hbj e1 hmem hs hpre hjS hu
              go_wp2_with (first
                | (go_at_call 40; refine SPC.out.mono ?_; rintro e w6 ⟨v6, rfl, hv6, hb6⟩; have HV6 := Lib.hid hv6; obtain ⟨a6, c6, rfl⟩ := hv6.form; have HB6 := Lib.hid (HBJ.out.trans (hb6.mono hszj)); have HN6 := Lib.hid (HN.out.below hb6 vecs_keep0); have hs6 := HB6.out.size; clear hv6 hb6)
                | (at_builtin; refine wpl_appGs (t := 46) (R := Vecs) (B := wc.heap.size) rfl _ _ 66 rfl Try.underlying66 info_vs (Vecs.keep ne_si ne_sv) (fun _ _ _ h => h.one) rfl HN6.out rfl HV6.out HNE.out (by have := HPRE.out; omega) (by omega) ?_; intro v7 w7 ho7 hg7 hl7; have HO7 := Lib.hid ho7; have HB7 := Lib.hid (HB6.out.grown hg7 (by omega) (fun k hk => (HN6.out.own hk).1)); clear ho7 hg7 hl7))
              go_roundw
              case rel => exact ⟨j + 1, hjl, by go_num, by rw [HT2.out]; exact HO7.out, HB7.out⟩
              case measure => simp [intOf]; omega
            · obtain rfl : j = ns := by omega
              have hji : ¬ (j : Int) < (j : Int) := by omega
              have HSN := Lib.hid (show Spcs wr u9 (spacesTo q c (ksE E) (i + 1)) by
                rw [HNX.out]
                have h1 := HN.out
                rw [List.take_of_length_le (by rw [HNS.out]; exact Nat.le_refl _)] at h1
                exact h1.slr (by have := HF2.out; omega))
              obtain ⟨a9, c9, h9⟩ := HSN.out.form
              subst h9
              clear hn hbj
              go_wp2
              go_roundw
              case rel => exact ⟨i + 1, hil, by go_num, HSN.out, HWJ.out⟩
              case measure => simp [intOf]; omega
        · obtain rfl : i = c := by omega
          have hii : ¬ (i : Int) < (i : Int) := by omega
          have hfew := HFEW.out i (Nat.le_refl _)
          have HNP := Lib.hid (HSV.out i (Nat.le_refl _))
          have HND := Lib.hid HT.out.nd
          have HPS := Lib.hid HT.out.pos
          rw [HRAW.out] at HND HPS HTB
          obtain ⟨SS, hSS⟩ : ∃ x, spacesTo q i (ksE E) i = x := ⟨_, rfl⟩
          rw [hSS] at HSP hSf hfew FNC HND HPS HTB HNP
          obtain ⟨ns, hns⟩ : ∃ x, SS.length = x := ⟨_, rfl⟩
          have HNS := Lib.hid hns
          rw [hns] at hSf hfew
          subst hSf
          obtain ⟨F, hF⟩ : ∃ F : List (List Int) → List Int, F = fun s => funL q E.length (szE E) (backC E) (s.headD []) := ⟨_, rfl⟩
          rw [← hF] at HND HPS HTB
          have HFF := Lib.hid (show ∀ s, funL q E.length (List.map List.length (classesN E)) (backC E) (s.headD []) = F s from fun s => by rw [hF]; rfl)
          have HFL := Lib.hid (show ∀ s, (F s).length = i from fun s => by rw [hF]; exact (funL_length q E.length (szE E) (backC E) _).trans HSZ.out)
          clear hsp hb hSS hns hF
          go_wp2_with fail
          go_loopw [12, 67] (fun vo jx wq => ∃ j : Nat, j ≤ ns ∧ jx = .int .i64 j ∧ OwnG 48 Vec wb.heap.size wq vo ((SS.take j).map F) ∧ Below wb.heap.size wb wq) (fun _ jx _ => ns - (intOf jx).toNat)
          case atStart => exact ⟨0, Nat.zero_le _, rfl, OwnG.nil _ _ _ _, Below.refl _ _⟩
          case round =>
            obtain ⟨j, hj, rfl, ho, hbj⟩ := hrel
            have HO := Lib.hid ho
            have HBJ := Lib.hid hbj
            have hszj := hbj.size
            have HWJ := Lib.hid (HB.out.trans (hbj.mono hszb))
            have hszw := HWJ.out.size
            by_cases hjl : j < ns
            · have hji : (j : Int) < (ns : Int) := by omega
              have hjS : j < SS.length := by rw [HNS.out]; exact hjl
              obtain ⟨b1, o1, cc, u, e1, hb1, -, hcu, hu⟩ := (HSP.out.below hbj).at j hjS
              obtain rfl : aS = some ⟨b1, o1, none⟩ := (Value.slice.inj e1).1
              have hmem := List.getElem_mem hjS
              have HT2 := Lib.hid (show (SS.take (j + 1)).map F = (SS.take j).map F ++ [F SS[j]] by rw [List.take_succ_eq_append_getElem hjS, List.map_append]; rfl)
              obtain ⟨s, hs⟩ : ∃ s, SS[j] = s := ⟨_, rfl⟩
              rw [hs] at hu HT2 hmem
              have h0s := (HNP.out s hmem).2.1
              obtain ⟨b2, o2, c2, u2, e2, hb2, -, hcu2, hu2⟩ := hu.at 0 h0s
              have hhd : s[0] = s.headD [] := by cases s with
                | nil => simp at h0s
                | cons x s => rfl
              rw [hhd] at hu2
              subst e2
              have FC := Lib.hid (FNC.out s _ wr HWJ.out hmem hu2.ints)
              rw [HFF.out] at FC
              obtain ⟨sl, hsl⟩ : ∃ x, s.length = x := ⟨_, rfl⟩
              rw [hsl] at hcu h0s
              rw [Nat.add_zero] at hcu2
              have h0i : (0 : Int) < (sl : Int) := by omega
              obtain ⟨a2, c22, rfl⟩ := hu2.form
              obtain ⟨lv, hlv⟩ : ∃ x, (s.headD []).length = x := ⟨_, rfl⟩
              rw [hlv] at hcu2 FC
              clear hlv
              have hFl := HFL.out s
              have HLV := Lib.hid (show (F s).length ≤ 1000000 by omega)
              have HLT := Lib.hid (show ((SS.take j).map F).length + 1 < 1000000 by rw [List.length_map, List.length_take]; omega)
              clear ho hbj e1 hmem hs hjS hu hu2 hhd hsl hFl
              go_wp2_with (first
                | (go_at_call 41; refine FC.out.mono ?_; rintro e w6 ⟨v6, rfl, ho6, hb6⟩; have HV6 := Lib.hid (ho6.vec HLV.out); have HB6 := Lib.hid (HBJ.out.trans (hb6.mono hszj)); have HO6 := Lib.hid (HO.out.below hb6 vec_keep0); have hs6 := HB6.out.size; obtain ⟨a6, n6, c6, rfl⟩ := own_form ho6; clear ho6 hb6)
                | (at_builtin; refine wpl_appG (t := 48) (R := Vec) (B := wb.heap.size) rfl _ _ 46 rfl Try.underlying46 info_v (Vec.keep ne_vi) (fun _ _ _ h => h.one) rfl (HO6.out.below ((Below.refl _ _).alloc (Nat.le_refl _) _) vec_keep0) rfl (Held.new _ _ [_]) (HV6.out.below ((Below.refl _ _).alloc (Nat.le_refl _) _)) HLT.out (by simp; omega) ?_; intro v7 w7 ho7 hg7 hl7; have HO7 := Lib.hid ho7; have HB7 := Lib.hid ((HB6.out.alloc hs6 (.cells #[.slice a6 n6 c6] 48)).grown hg7 (by simp; omega) (fun k hk => (HO6.out.own hk).1)); clear ho7 hg7 hl7))
              go_roundw
              case rel => exact ⟨j + 1, hjl, by go_num, by rw [HT2.out]; exact HO7.out, HB7.out⟩
              case measure => simp [intOf]; omega
            · obtain rfl : j = ns := by omega
              have hji : ¬ (j : Int) < (j : Int) := by omega
              have HO2 := Lib.hid (show OwnG 48 Vec wb.heap.size wr u12 (SS.map F) by rw [List.take_of_length_le (by rw [HNS.out]; exact Nat.le_refl _)] at ho; exact ho)
              have hl2 : (SS.map F).length = j := by rw [List.length_map, HNS.out]
              obtain ⟨g2, cap2, u2, e2, hg2, _⟩ := HO2.out.at 0 HPS.out
              rw [hl2] at e2
              subst e2
              have SO := Lib.hid (sortV_any HO2.out HND.out HPS.out (by omega) (fun v hv => by
                obtain ⟨s, _, rfl⟩ := List.mem_map.1 hv
                rw [HFL.out s]; exact hm0))
              clear ho hbj hl2
              go_wp2_with (go_at_call 42; refine SO.out.mono ?_; rintro e w8 ⟨rfl, ho8, hg8⟩; have HO8 := Lib.hid ho8; have HB8 := Lib.hid (HBJ.out.grown hg8 hszj (fun k hk => by cases hk; exact hg2)); clear ho8 hg8)
              go_ret
              exact ⟨_, rfl, by rw [HTB.out]; exact HO8.out.mono hszb, HB.out.trans (HB8.out.mono hszb)⟩
end Go.Proofs.Ytdackakjcnnofaa

/- EqualFunc, same: over slices that are only read; Table. -/
namespace Go.Proofs.Ytdackakjcnnofaa
open Go.RowKit
attribute [local go_sem] Oper.semAt_some

set_option maxRecDepth 20000 in
set_option maxHeartbeats 2000000 in
theorem EqualA_any (v1 v2 : Value) (xs ys : List (List Int)) (w : World) (h1 : Args w v1 xs) (h2 : Args w v2 ys) :
    Calls Try.prog 46 #[v1, v2, .func (.func 12) #[] #[]] w fun e w' => e = .returned (.bool (decide (xs = ys))) ∧ Below w.heap.size w w' := by
  have H1 := Lib.hid (fun (w' : World) (hb : Below w.heap.size w w') => h1.below hb)
  have H2 := Lib.hid (fun (w' : World) (hb : Below w.heap.size w w') => h2.below hb)
  have hx := h1.len
  obtain ⟨a, c, rfl⟩ := h1.form
  obtain ⟨a', c', rfl⟩ := h2.form
  by_cases hl : xs.length = ys.length
  · have HL := Lib.hid hl
    have hle : xs.length ≤ ys.length := by omega
    have hne : ((xs.length : Int) != (ys.length : Int)) = false := by rw [hl]; simp
    clear hl h1 h2
    go_enter Try.func46, Try.ntmps46
    go_wp2
    go_loopw [17] (fun i wr => ∃ k : Nat, k ≤ xs.length ∧ i = .int .i64 k ∧ xs.take k = ys.take k ∧ Below w.heap.size w wr) (fun i _ => xs.length - (intOf i).toNat)
    case atStart => exact ⟨0, Nat.zero_le _, rfl, rfl, Below.refl _ _⟩
    case round =>
      obtain ⟨k, hk, rfl, ht, hb⟩ := hrel
      have HT := Lib.hid ht; clear ht
      by_cases hlt : k < xs.length
      · have hlt2 : k < ys.length := by omega
        have hki : (k : Int) < (xs.length : Int) := by omega
        have hki2 : (k : Int) < (ys.length : Int) := by omega
        obtain ⟨b1, o1, cap, u, e1, _, hc1, hf1⟩ := (H1.out wr hb).at k hlt
        obtain ⟨b2, o2, cap2, u2, e2, _, hc2, hf2⟩ := (H2.out wr hb).at k hlt2
        obtain ⟨rfl, _, rfl⟩ := Value.slice.inj e1
        obtain ⟨rfl, _, rfl⟩ := Value.slice.inj e2
        have C := Lib.hid (Equal_any _ _ _ _ wr hf1 hf2)
        have HB := Lib.hid hb
        obtain ⟨ua, uc, uf, _⟩ := hf1
        obtain ⟨ua2, uc2, uf2, _⟩ := hf2
        subst uf
        subst uf2
        clear hb e1 e2
        by_cases hxy : xs[k] = ys[k]
        · have HXY := Lib.hid hxy
          have HD := Lib.hid (show decide (xs[k] = ys[k]) = true by simpa using hxy)
          have HTS := Lib.hid (show xs.take (k + 1) = ys.take (k + 1) by rw [take_succ' xs k hlt, take_succ' ys k hlt2, HT.out, hxy])
          clear hxy
          go_wp2_with (go_at_call 12; refine C.out.mono ?_; rintro e w2 ⟨rfl, hb2⟩; rw [HD.out])
          go_roundw
          case rel => exact ⟨k + 1, by omega, by go_num, HTS.out, HB.out.trans (hb2.mono HB.out.size)⟩
          case measure => simp [intOf]; omega
        · have HD := Lib.hid (show decide (xs[k] = ys[k]) = false by simpa using hxy)
          have HE := Lib.hid (show decide (xs = ys) = false by rw [decide_eq_false_iff_not]; intro e; subst e; exact hxy rfl)
          clear hxy
          go_wp2_with (go_at_call 12; refine C.out.mono ?_; rintro e w2 ⟨rfl, hb2⟩; rw [HD.out])
          go_ret
          exact ⟨ret_bool HE.out.symm, HB.out.trans (hb2.mono HB.out.size)⟩
      · have hki : ¬ (k : Int) < (xs.length : Int) := by omega
        have HE := Lib.hid (show decide (xs = ys) = true by
          have := HT.out
          rw [List.take_of_length_le (show xs.length ≤ k by omega), List.take_of_length_le (show ys.length ≤ k by have := HL.out; omega)] at this
          simpa using this)
        go_wp2
        go_ret
        exact ⟨ret_bool HE.out.symm, hb⟩
  · have HE := Lib.hid (show decide (xs = ys) = false by rw [decide_eq_false_iff_not]; intro e; exact hl (by rw [e]))
    have hne : ((xs.length : Int) != (ys.length : Int)) = true := by simp; omega
    clear hl h1 h2
    go_enter Try.func46, Try.ntmps46
    go_wp2
    go_ret
    exact ⟨ret_bool HE.out.symm, Below.refl _ _⟩

set_option maxRecDepth 20000 in
theorem sameA_any (v1 v2 : Value) (xs ys : List (List Int)) (w : World) (h1 : Args w v1 xs) (h2 : Args w v2 ys) :
    Calls Try.prog 24 #[v1, v2] w fun e w' => e = .returned (.bool (decide (xs = ys))) ∧ Below w.heap.size w w' := by
  have C := Lib.hid (EqualA_any v1 v2 xs ys w h1 h2)
  obtain ⟨a, c, rfl⟩ := h1.form
  obtain ⟨a', c', rfl⟩ := h2.form
  clear h1 h2
  go_enter Try.func24, Try.ntmps24
  go_wp2_with (go_at_call 46; refine C.out.mono ?_; rintro e w2 ⟨rfl, hb2⟩)
  go_ret
  exact ⟨rfl, hb2⟩

theorem ne_ri : (28 : TypeId) ≠ 3 := by decide
/-- Rows whose cells are of the type of slices of numbers. -/
theorem rows_args {w : World} {v : Value} {L : List (List Int)} (h : SlR 28 Vec w v L) : Args w v L := by
  obtain ⟨a, c, rfl, h1, h2, h3⟩ := h
  refine ⟨a, c, rfl, by omega, h2, fun hne => ?_⟩
  obtain ⟨b, off, rfl, hb, hc⟩ := h3 hne
  exact ⟨b, off, rfl, ty_lt hb, fun i hi => by obtain ⟨u, h5, h6⟩ := hc i hi; exact ⟨u, h5, h6.ints⟩⟩
theorem rawL_len {E : List (List Nat)} {d : Nat} (hok : okG E d = true) : (tabG E d).length ≤ 1000 := by
  have h := tabOk_iff hok
  have h1 := (sortV_perm h.nd).length_eq
  have h2 := h.few _ (Nat.le_refl _)
  unfold tabG tabL
  rw [h1]
  unfold rawL
  rw [List.length_map]
  exact h2
section
variable {v : Value} {L : List (List Int)} {w : World} {E : List (List Nat)}
theorem Table_no (h : Args w v L) (hq : genQ L = false) : Calls Try.prog 6 #[v] w fun e w' => e = .returned (.tuple #[.slice none 0 0, .int .i64 2]) ∧ Below w.heap.size w w' := by
  have RD := Lib.hid (read_no h hq)
  clear h hq
  go_enter Try.func6, Try.ntmps6
  go_wp2_with (go_at_call 21; refine RD.out.mono ?_; rintro e w1 ⟨rfl, hb⟩)
  go_ret2
  exact ⟨rfl, hb⟩
theorem Table_over (h : Args w v L) (hq : genQ L = true) (ho : Over (L.headD []).length (L.map natP)) : Calls Try.prog 6 #[v] w fun e w' => e = .returned (.tuple #[.slice none 0 0, .int .i64 6]) ∧ Below w.heap.size w w' := by
  have RD := Lib.hid (read_over h hq ho)
  clear h hq ho
  go_enter Try.func6, Try.ntmps6
  go_wp2_with (go_at_call 21; refine RD.out.mono ?_; rintro e w1 ⟨rfl, hb⟩)
  go_ret2
  exact ⟨rfl, hb⟩
set_option maxRecDepth 20000 in
set_option maxHeartbeats 1000000 in
theorem Table_yes (h : Args w v L) (hq : genQ L = true) (hg : IsG (L.headD []).length (L.map natP) E) (hok : okG E (L.headD []).length = true) :
    Calls Try.prog 6 #[v] w fun e w' => ∃ u, e = .returned (.tuple #[u, .int .i64 0]) ∧ OwnG 28 Vec w.heap.size w' u (tabG E (L.headD []).length) ∧ Below w.heap.size w w' := by
  have RD := Lib.hid (read_yes h hq hg)
  have hp := genQ_perm hq
  have HGR := Lib.hid (hg.grp fun q hq => by obtain ⟨p, hp1, rfl⟩ := List.mem_map.1 hq; exact hp.2.2.2.2.1 p hp1)
  have hd5 := hp.2.2.2.1
  have h24 := hg.few
  obtain ⟨d, hd⟩ : ∃ d, (L.headD []).length = d := ⟨_, rfl⟩
  rw [hd] at RD HGR hd5 hok ⊢
  have TB := Lib.hid (fun (bg : Nat) (W : World) (hp : PG d E W bg) => table_any' bg W HGR.out hd5 h24 hp hok)
  have hln := rawL_len hok
  obtain ⟨T, hT⟩ : ∃ T, tabG E d = T := ⟨_, rfl⟩
  rw [hT] at TB hln ⊢
  obtain ⟨n, hn⟩ : ∃ n, T.length = n := ⟨_, rfl⟩
  have HN := Lib.hid hn
  rw [hn] at hln
  clear h hq hg hp hd hok hT hn
  go_enter Try.func6, Try.ntmps6
  go_wp2_with (first
    | (go_at_call 21; refine RD.out.mono ?_; rintro e w1 ⟨bg, rfl, hp, hb⟩; have HP := Lib.hid hp; have HB := Lib.hid hb; clear hp hb)
    | (go_at_call 22; refine (TB.out bg w1 HP.out).mono ?_; rintro e w2 ⟨v2, rfl, ho2, hb2⟩; have HB2 := Lib.hid (HB.out.trans (hb2.mono HB.out.size)); have HV2 := Lib.hid (show Vecs w2 v2 T from ho2.slr (by rw [HN.out]; omega)); obtain ⟨a2, c2, rfl⟩ := ho2.form; rw [HN.out] at HV2 ⊢; clear ho2 hb2))
  have hs2 := HB2.out.size
  go_loopw [6, 20] (fun vo ix wr => ∃ j : Nat, j ≤ n ∧ ix = .int .i64 j ∧ OwnG 28 Vec w2.heap.size wr vo (T.take j) ∧ Below w2.heap.size w2 wr) (fun _ ix _ => n - (intOf ix).toNat)
  case atStart => exact ⟨0, Nat.zero_le _, rfl, OwnG.nil _ _ _ _, Below.refl _ _⟩
  case round =>
    obtain ⟨j, hj, rfl, ho, hbj⟩ := hrel
    have HO := Lib.hid ho
    have HBJ := Lib.hid hbj
    have hszj := hbj.size
    by_cases hjl : j < n
    · have hji : (j : Int) < (n : Int) := by omega
      have hjT : j < T.length := by rw [HN.out]; exact hjl
      obtain ⟨b1, o1, cc, u, e1, hb1, -, hcu, hu⟩ := (HV2.out.below hbj).at j hjT
      obtain rfl : a2 = some ⟨b1, o1, none⟩ := (Value.slice.inj e1).1
      have HT := Lib.hid (show T.take (j + 1) = T.take j ++ [T[j]] from List.take_succ_eq_append_getElem hjT)
      obtain ⟨t, ht⟩ : ∃ t, T[j] = t := ⟨_, rfl⟩
      rw [ht] at hu HT
      have HU := Lib.hid hu
      obtain ⟨au, cu, hf⟩ := hu.form
      obtain ⟨tl, htl⟩ : ∃ x, t.length = x := ⟨_, rfl⟩
      rw [htl] at hf
      subst hf
      have HLT := Lib.hid (show (T.take j).length + 1 < 1000000 by rw [List.length_take]; omega)
      clear ho hbj e1 hjT ht hu htl
      go_wp2_with (at_builtin; refine wpl_appG (t := 28) (R := Vec) (B := w2.heap.size) rfl _ _ 22 rfl Try.underlying22 infoR (Vec.keep ne_ri) (fun _ _ _ h => h.one) rfl (HO.out.below ((Below.refl _ _).alloc (Nat.le_refl _) _) vec_keep0) rfl (Held.new _ _ [_]) (HU.out.below ((Below.refl _ _).alloc (Nat.le_refl _) _)) HLT.out (by simp; omega) ?_; intro v7 w7 ho7 hg7 hl7; have HO7 := Lib.hid ho7; have HB7 := Lib.hid ((HBJ.out.alloc hszj (.cells #[.slice au tl cu] 28)).grown hg7 (by simp; omega) (fun k hk => (HO.out.own hk).1)); clear ho7 hg7 hl7)
      go_roundw
      case rel => exact ⟨j + 1, hjl, by go_num, by rw [HT.out]; exact HO7.out, HB7.out⟩
      case measure => simp [intOf]; omega
    · obtain rfl : j = n := by omega
      have hji : ¬ (j : Int) < (j : Int) := by omega
      clear ho hbj
      go_wp2
      go_ret2
      have h0 := HO.out
      rw [List.take_of_length_le (by rw [HN.out]; exact Nat.le_refl _)] at h0
      exact ⟨_, rfl, h0.mono hs2, HB2.out.trans (HBJ.out.mono hs2)⟩
theorem Table_yes' {d : Nat} {gens : List (List Nat)} {T : List (List Int)} (h : Args w v L) (hq : genQ L = true) (hd : (L.headD []).length = d) (hgens : L.map natP = gens) (hg : IsG d gens E) (hok : okG E d = true) (hT : tabG E d = T) :
    Calls Try.prog 6 #[v] w fun e w' => ∃ u, e = .returned (.tuple #[u, .int .i64 0]) ∧ OwnG 28 Vec w.heap.size w' u T ∧ Below w.heap.size w w' := by
  subst hd
  subst hgens
  subst hT
  exact Table_yes h hq hg hok
end

/-! ### awake -/
def two : List (List Nat) := [[0, 1], [1, 0]]
theorem two_isG : IsG 2 [[1, 0]] two := by
  have hp : ∀ p ∈ [[1, 0]], Perm1 2 p := by
    intro p hp
    obtain rfl := List.mem_singleton.1 hp
    exact ⟨rfl, by decide, by decide⟩
  refine ⟨by decide, fun x => ⟨fun hx => ?_, fun hx => close_left (d := 2) (gens := [[1, 0]]) (by decide) (by decide) hx⟩, by decide⟩
  rcases List.mem_cons.1 hx with rfl | hx
  · exact gen_one 2 [[1, 0]]
  · obtain rfl := List.mem_singleton.1 hx
    exact gen_left (p := [1, 0]) (x := [0, 1]) (by decide) (gen_one 2 [[1, 0]])
theorem two_ok : okG two 2 = true := by kernel_rfl
theorem two_tab : tabG two 2 = [[1, 1], [1, 2]] := by kernel_rfl
theorem args_one {w : World} {b : Nat} {u : Value} {l : List Int} (hb : Held w b 28 [u]) (hu : Ints w u l) : Args w (.slice (some ⟨b, 0, none⟩) 1 1) [l] :=
  ⟨_, 1, rfl, by simp, by simp, fun _ => ⟨b, 0, rfl, hb.lt, fun i hi => by
    obtain rfl : i = 0 := by simpa using hi
    exact ⟨u, by rw [Nat.zero_add]; exact hb.at (i := 0) rfl, hu⟩⟩⟩
theorem args_two {w : World} {b : Nat} {u u' : Value} {l l' : List Int} (hb : Held w b 28 [u, u']) (hu : Ints w u l) (hu' : Ints w u' l') : Args w (.slice (some ⟨b, 0, none⟩) 2 2) [l, l'] :=
  ⟨_, 2, rfl, by simp, by simp, fun _ => ⟨b, 0, rfl, hb.lt, fun i hi => by
    have h2 : i = 0 ∨ i = 1 := by simp at hi; omega
    rcases h2 with rfl | rfl
    · exact ⟨u, by rw [Nat.zero_add]; exact hb.at (i := 0) rfl, hu⟩
    · exact ⟨u', by rw [Nat.zero_add]; exact hb.at (i := 1) rfl, hu'⟩⟩⟩
theorem below_three (w : World) (o p q : Obj) : Below w.heap.size w (((w.alloc o).alloc p).alloc q) := (below_two' w o p).alloc (by simp; omega) _
theorem two_rows (w : World) (a b c d : Int) : Args (((w.alloc (.cells #[.int .i64 a, .int .i64 b] 3)).alloc (.cells #[.int .i64 c, .int .i64 d] 3)).alloc (.cells #[.slice (some ⟨w.heap.size, 0, none⟩) 2 2, .slice (some ⟨w.heap.size + 1, 0, none⟩) 2 2] 28)) (.slice (some ⟨w.heap.size + 1 + 1, 0, none⟩) 2 2) [[a, b], [c, d]] := by
  have h1 : Held (((w.alloc (.cells #[.int .i64 a, .int .i64 b] 3)).alloc (.cells #[.int .i64 c, .int .i64 d] 3)).alloc (.cells #[.slice (some ⟨w.heap.size, 0, none⟩) 2 2, .slice (some ⟨w.heap.size + 1, 0, none⟩) 2 2] 28)) w.heap.size 3 [.int .i64 a, .int .i64 b] := ((Held.new w _ [_, _]).alloc _).alloc _
  have h2 : Held (((w.alloc (.cells #[.int .i64 a, .int .i64 b] 3)).alloc (.cells #[.int .i64 c, .int .i64 d] 3)).alloc (.cells #[.slice (some ⟨w.heap.size, 0, none⟩) 2 2, .slice (some ⟨w.heap.size + 1, 0, none⟩) 2 2] 28)) (w.heap.size + 1) 3 [.int .i64 c, .int .i64 d] := (Held.made (l := [_, _]) (by simp)).alloc _
  have h3 : Held (((w.alloc (.cells #[.int .i64 a, .int .i64 b] 3)).alloc (.cells #[.int .i64 c, .int .i64 d] 3)).alloc (.cells #[.slice (some ⟨w.heap.size, 0, none⟩) 2 2, .slice (some ⟨w.heap.size + 1, 0, none⟩) 2 2] 28)) (w.heap.size + 1 + 1) 28 [.slice (some ⟨w.heap.size, 0, none⟩) 2 2, .slice (some ⟨w.heap.size + 1, 0, none⟩) 2 2] := Held.made (l := [_, _]) (by simp)
  exact args_two h3 (two_ints (h1.at (i := 0) rfl) (h1.at (i := 1) rfl) h1.lt) (two_ints (h2.at (i := 0) rfl) (h2.at (i := 1) rfl) h2.lt)
set_option maxRecDepth 20000 in
set_option maxHeartbeats 1000000 in
theorem awake_any (w : World) : Calls Try.prog 10 #[] w fun e w' => e = .returned (.bool true) ∧ Below w.heap.size w w' := by
  have TB := Lib.hid (fun (v : Value) (W : World) (h : Args W v [[1, 0]]) => Table_yes' (E := two) (d := 2) (gens := [[1, 0]]) h (by decide) rfl (by decide) two_isG two_ok two_tab)
  have SM := Lib.hid (fun (v1 v2 : Value) (W : World) (h1 : Args W v1 [[1, 1], [1, 2]]) (h2 : Args W v2 [[1, 1], [1, 2]]) => sameA_any v1 v2 _ _ W h1 h2)
  go_enter Try.func10, Try.ntmps10
  have HB0 := Lib.hid (show Below w.heap.size w ((w.alloc (.cells #[.int .i64 1, .int .i64 0] 3)).alloc (.cells #[.slice (some ⟨w.heap.size, 0, none⟩) 2 2] 28)) from ((Below.refl _ _).alloc (Nat.le_refl _) _).alloc (by simp) _)
  go_wp2_with (first
    | (go_at_call 6; refine (TB.out _ _ (args_one (Held.made (by simp)) (two_ints (by simp) (by simp) (by simp; omega)))).mono ?_; rintro e w2 ⟨u, rfl, hu, hb2⟩; have HA2 := Lib.hid (rows_args (hu.slr (by decide))); have HB2 := Lib.hid (HB0.out.trans (hb2.mono HB0.out.size)); have hs2 := HB2.out.size; obtain ⟨a2, c2, rfl⟩ := hu.form; clear hu hb2)
    | (go_at_call 24; refine (SM.out _ _ _ (HA2.out.below (below_three _ _ _ _)) (two_rows w2 1 1 1 2)).mono ?_; rintro e w3 ⟨rfl, hb3⟩; have HB3 := Lib.hid (HB2.out.trans (((below_three w2 _ _ _).trans (hb3.mono (below_three w2 _ _ _).size)).mono hs2)); clear hb3))
  go_ret
  exact ⟨rfl, HB3.out⟩
end Go.Proofs.Ytdackakjcnnofaa
