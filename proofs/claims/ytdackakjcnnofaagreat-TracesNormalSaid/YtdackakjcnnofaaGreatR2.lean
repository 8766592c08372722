/- Zm of the seat's texts, in this order. -/
import Derived.Test.YtdackakjcnnofaaGreatR1

/- The reference's Make. -/
namespace Go.Proofs.YtdackakjcnnofaaGreat
open Go.RowKit
attribute [local go_sem] Oper.semAt_some

/-- The rows' blocks lie in the heap. -/
theorem RowsF.inh {P : Nat → Prop} {B B' : Nat} {w : World} {v : Value} {ls : List (List Nat)} (h : RowsF P B w v ls) (hB : B' ≤ B) : RowsF (fun j => P j ∧ j < w.heap.size) B' w v ls := by
  obtain ⟨vs, ho, hr⟩ := RowsF.base h hB
  refine ⟨vs, ho, fun i u l h1 h2 => ?_⟩
  obtain ⟨a, c, rfl, j1, j2, j3⟩ := hr i u l h1 h2
  refine ⟨a, c, rfl, j1, j2, fun hne => ?_⟩
  obtain ⟨b, off, rfl, j4, j5, j6⟩ := j3 hne
  exact ⟨b, off, rfl, ⟨j4, j5⟩, j5, j6⟩
theorem Grp.find_times {d : Nat} {E : List (List Nat)} (h : Grp d E) {a b : Nat} (ha : a < E.length) (hb : b < E.length) : findZ E (mulP E[a] E[b]) = (timesN E a b : Nat) := by
  unfold findZ
  rw [if_pos (h.mul _ (List.getElem_mem ha) _ (List.getElem_mem hb))]
  unfold timesN numP elP
  simp [List.getD_eq_getElem?_getD, List.getElem?_eq_getElem ha, List.getElem?_eq_getElem hb]
theorem rep_snoc (a : Nat) : List.replicate a (-1 : Int) ++ [-1] = List.replicate (a + 1) (-1) := by rw [List.replicate_succ']

/-- The group's blocks are H or behind it, or hold numbers. -/
def PK (H : Nat) (w : World) (k : Nat) : Prop := H ≤ k ∨ typeAt w k = some 3
def RGS (H d : Nat) (E : List (List Nat)) (w : World) (gv : Value) : Prop :=
  ∃ vL vT vB vC vO, gv = rgV vL vT vB vC vO (primeN E d : Nat) ∧ RowsF (PK H w) H w vL E ∧ RowsF (PK H w) H w vT (tabN E) ∧ OwnI 3 H w vB (toI (backL E)) ∧ RowsF (PK H w) H w vC (classesN E) ∧ OwnI 3 H w vO (ofL E E.length)
def MkOut (d : Nat) (E : List (List Nat)) (w : World) (e : Ending) (w' : World) : Prop := ∃ gv, e = .returned (.tuple #[gv, .int .i64 0]) ∧ RGS w.heap.size d E w' gv ∧ Below w.heap.size w w'

set_option maxRecDepth 100000 in
set_option maxHeartbeats 4000000 in
theorem Make_yes {d : Nat} {gens E : List (List Nat)} (v : Value) (w : World) (h : Args w v (gens.map toI)) (hp : ∀ p ∈ gens, Perm1 d p) (h1 : 1 ≤ gens.length) (h4 : gens.length ≤ 4) (hd1 : 1 ≤ d) (hd5 : d ≤ 5) (hE : IsG d gens E) :
    Calls Tryz.prog 46 #[v] w (MkOut d E w) := by
  have CE := Lib.hid (fun w' (hb : Below w.heap.size w w') => Elements_yes v w' (h.below hb) hp h1 h4 hd1 hd5 hE)
  have HG := Lib.hid (hE.grp hp)
  have h24 := hE.few
  have hpos := (hE.grp hp).pos
  obtain ⟨n, hn⟩ : ∃ n, E.length = n := ⟨_, rfl⟩
  rw [hn] at h24 hpos
  have HN := Lib.hid hn
  clear h hp hE hn h1 h4
  go_enter Tryz.func46, Tryz.ntmps46
  go_wp2_with (first
    | (go_at_call 83; refine (CE.out _ ((Below.refl _ _).alloc (Nat.le_refl _) _)).mono ?_; rintro e w1 ⟨v1, rfl, hr1, hb1⟩; have HL := Lib.hid (hr1.mono (S' := fun _ => True) fun _ _ => trivial); have HL1 := Lib.hid (RowsF.inh (B' := w.heap.size + 1) (P := fun j => w.heap.size + 1 ≤ j) (hr1.mono (S' := fun j => w.heap.size + 1 ≤ j) (fun j hj => (by simpa using hj))) (by simp)); obtain ⟨aL, cL, rfl⟩ := hr1.form; rw [HN.out] at HL HL1 ⊢; have HH := Lib.hid ((Held.made (w := w) (l := [.slice none 0 0, .slice none 0 0, .slice none 0 0, .slice none 0 0, .slice none 0 0, .int .i64 0]) (t := 29) rfl).below hb1 (by simp)); have HB := Lib.hid (show Below w.heap.size w w1 from ((Below.refl _ _).alloc (Nat.le_refl _) _).trans (hb1.mono (by simp))); clear hr1 hb1)
    | (refine wpl_store_all infoRG (by rfl) _ _ (by rfl) w1.heap.size [.slice aL n cL, .slice none 0 0, .slice none 0 0, .slice none 0 0, .slice none 0 0, .int .i64 0] [.slice none 0 0, .slice none 0 0, .slice none 0 0, .slice none 0 0, .slice none 0 0, .int .i64 0] (by rfl) (by rfl) (by simp [Value.oneCell']) (by rfl) (by rfl) (Held.made rfl) ?_; intro w2 hh2 hs2 hz2; have HH2 := Lib.hid hh2; have HB2 := Lib.hid (show Below w1.heap.size w1 w2 from hs2.below ((Below.refl _ _).alloc (Nat.le_refl _) _) (Nat.le_refl _) (by simp)); have hsz2 : w2.heap.size = w1.heap.size + 1 := by rw [hz2]; simp))
  have HM0 := Lib.hid (show MkI w2.heap.size w1.heap.size (fun _ => False) w2 (.slice aL n cL) (.slice none 0 0) (.slice none 0 0) (.slice none 0 0) (.slice none 0 0) ((tabN E).take 0) [] ((backL E).take 0) (List.replicate 0 (-1)) from
    ⟨HH2.out, RowsF.nil _ _ _, RowsF.nil _ _ _, OwnI.nil _ _ _, OwnI.nil _ _ _, fun _ h => h.elim, fun k hk => (by cases hk), fun k hk => (by cases hk)⟩)
  have HZ2 := Lib.hid hsz2
  clear hsz2 hs2 hz2 hh2
  go_loopw [32] (fun ix wr => ∃ (a : Nat) (S : Nat → Prop) (vT vB vO : Value), a ≤ n ∧ ix = .int .i64 a ∧ MkI w2.heap.size w1.heap.size S wr (.slice aL n cL) vT vB (.slice none 0 0) vO ((tabN E).take a) [] ((backL E).take a) (List.replicate a (-1)) ∧ Below w1.heap.size w1 wr) (fun ix _ => n - (intOf ix).toNat)
  case atStart => exact ⟨0, _, _, _, _, Nat.zero_le _, rfl, HM0.out, HB2.out⟩
  case round =>
    obtain ⟨a, S, vT, vB, vO, ha, rfl, hm, hb⟩ := hrel
    have HM := Lib.hid hm
    have HBR := Lib.hid hb
    have hle := hb.size
    have HSZ := Lib.hid (show w2.heap.size ≤ wr.heap.size by have := hm.box.lt; have := HZ2.out; omega)
    clear hm hb
    by_cases hlt : a < n
    · have hai : (a : Int) < (n : Int) := by omega
      obtain ⟨g, c, u, e0, _, hgs, hcu, hu⟩ := (HL.out.below HBR.out).at a (by rw [HN.out]; exact hlt)
      obtain ⟨rfl, -, rfl⟩ := Value.slice.inj e0
      have HLA := Lib.hid (show (E[a]'(by rw [HN.out]; exact hlt)).length = d from (HG.out.perm _ (List.getElem_mem _)).len)
      have HUA := Lib.hid hu
      obtain ⟨aa, ca, rfl, -, -, -⟩ := hu
      rw [toI_length, HLA.out] at hcu HUA
      clear e0
      obtain ⟨wa, rfl⟩ : ∃ x, x = wr := ⟨_, rfl⟩
      have HBT := Lib.hid (backTo_zero (E := E) a)
      go_wp2
      go_loopw [9, 10, 38] (fun vr bk ix wq => ∃ j : Nat, j ≤ n ∧ ix = .int .i64 j ∧ bk = .int .i64 (backTo E a j : Nat) ∧ OwnI 3 wa.heap.size wq vr (toI ((rowT E a).take j)) ∧ Below wa.heap.size wa wq) (fun _ _ ix _ => n - (intOf ix).toNat)
      case atStart => exact ⟨0, Nat.zero_le _, rfl, by rw [HBT.out]; rfl, OwnI.nil _ _ _, Below.refl _ _⟩
      case round =>
        obtain ⟨j, hj, rfl, rfl, ho, hbq⟩ := hrel
        have HO := Lib.hid ho
        have HBQ := Lib.hid hbq
        have hle2 := hbq.size
        have HB1 := Lib.hid (HBR.out.trans (hbq.mono hle))
        clear ho hbq
        by_cases hjl : j < n
        · have hji : (j : Int) < (n : Int) := by omega
          obtain ⟨g2, c2, u2, e2, _, hgs2, hcu2, hu2⟩ := (HL.out.below HB1.out).at j (by rw [HN.out]; exact hjl)
          obtain rfl : g = g2 := by have := (Value.slice.inj e2).1; simpa using this
          have HLJ := Lib.hid (show (E[j]'(by rw [HN.out]; exact hjl)).length = d from (HG.out.perm _ (List.getElem_mem _)).len)
          have TM := Lib.hid (times_any _ u2 (E[a]'(by rw [HN.out]; exact hlt)) (E[j]'(by rw [HN.out]; exact hjl)) wr (HUA.out.ints.below HBQ.out) hu2.ints (fun y hy => by rw [HLA.out]; exact (HG.out.perm _ (List.getElem_mem _)).lt y hy) (by rw [HLJ.out]; omega))
          have HFT := Lib.hid (HG.out.find_times (a := a) (b := j) (by rw [HN.out]; exact hlt) (by rw [HN.out]; exact hjl))
          have HLEN := Lib.hid (show ∀ q ∈ E, q.length = (mulP (E[a]'(by rw [HN.out]; exact hlt)) (E[j]'(by rw [HN.out]; exact hjl))).length from fun q hq => by rw [mulP_len, HLJ.out]; exact (HG.out.perm q hq).len)
          have HTK := Lib.hid (rowT_take (E := E) a j (by rw [HN.out]; exact hjl))
          have HYES := Lib.hid (fun e => HG.out.backTo_yes (a := a) (m := j) (by rw [HN.out]; exact hlt) (by rw [HN.out]; exact hjl) e)
          have HNO := Lib.hid (fun e => HG.out.backTo_no (a := a) (m := j) (by rw [HN.out]; exact hlt) e)
          have HRL := Lib.hid (show (toI ((rowT E a).take j)).length < 1000000 by rw [toI_length, List.length_take]; omega)
          have HEN := Lib.hid (show E.length ≤ 10000 by rw [HN.out]; omega)
          obtain ⟨x, hx⟩ : ∃ x, timesN E a j = x := ⟨_, rfl⟩
          rw [hx] at HFT HTK HYES HNO
          obtain ⟨au, cu, rfl, -, -, -⟩ := hu2
          rw [toI_length, HLJ.out] at hcu2 TM
          clear hx e2
          by_cases hx0 : x = 0
          · have HBK := Lib.hid (HYES.out hx0)
            subst hx0
            go_wp2_with (first
              | (go_at_call 85; refine TM.out.mono ?_; rintro e w3 ⟨v3, rfl, ho3, hb3⟩; obtain ⟨a3, n3, c3, rfl⟩ := own_form ho3; have HO3 := Lib.hid (ho3.ints (by rw [toI_length, mulP_len, HLJ.out]; omega)); have HB3 := Lib.hid hb3; have hle3 := hb3.size; clear ho3 hb3)
              | (go_at_call 84; refine (Find_any _ _ E _ w3 (RowsF.below (HL.out.below HB1.out) HB3.out) HO3.out HLEN.out HEN.out).mono ?_; rintro e w4 ⟨rfl, rfl⟩; rw [HFT.out])
              | (at_builtin; refine wpList_app1_at rfl _ _ rfl wa.heap.size _ (toI ((rowT E a).take j)) ((0 : Nat) : Int) rfl ((HO.out.below HB3.out).alloc _) ⟨_, 0, none⟩ 1 rfl (cell_new1 _ _ _) HRL.out (by simp; omega) ?_; intro v5 w5 ho5 hg5 hl5; have HO5 := Lib.hid ho5; have HB5 := Lib.hid ((((HBQ.out.trans (HB3.out.mono hle2)).alloc (by omega) _)).grown hg5 (by simp; omega) (fun i hi => (HO.out.lt i hi).1)); clear ho5 hg5 hl5))
            go_roundw
            case rel => exact ⟨j + 1, hjl, by go_num, by rw [HBK.out], by rw [HTK.out, toI_append]; exact HO5.out, HB5.out⟩
            case measure => simp [intOf]; omega
          · have HBK := Lib.hid (HNO.out hx0)
            have hxi : (((x : Nat) : Int) == 0) = false := by simp; omega
            have hxi2 : ¬ ((x : Nat) : Int) = 0 := by omega
            go_wp2_with (first
              | (go_at_call 85; refine TM.out.mono ?_; rintro e w3 ⟨v3, rfl, ho3, hb3⟩; obtain ⟨a3, n3, c3, rfl⟩ := own_form ho3; have HO3 := Lib.hid (ho3.ints (by rw [toI_length, mulP_len, HLJ.out]; omega)); have HB3 := Lib.hid hb3; have hle3 := hb3.size; clear ho3 hb3)
              | (go_at_call 84; refine (Find_any _ _ E _ w3 (RowsF.below (HL.out.below HB1.out) HB3.out) HO3.out HLEN.out HEN.out).mono ?_; rintro e w4 ⟨rfl, rfl⟩; rw [HFT.out])
              | (at_builtin; refine wpList_app1_at rfl _ _ rfl wa.heap.size _ (toI ((rowT E a).take j)) ((x : Nat) : Int) rfl ((HO.out.below HB3.out).alloc _) ⟨_, 0, none⟩ 1 rfl (cell_new1 _ _ _) HRL.out (by simp; omega) ?_; intro v5 w5 ho5 hg5 hl5; have HO5 := Lib.hid ho5; have HB5 := Lib.hid ((((HBQ.out.trans (HB3.out.mono hle2)).alloc (by omega) _)).grown hg5 (by simp; omega) (fun i hi => (HO.out.lt i hi).1)); clear ho5 hg5 hl5))
            go_roundw
            case rel => exact ⟨j + 1, hjl, by go_num, by rw [HBK.out], by rw [HTK.out, toI_append]; exact HO5.out, HB5.out⟩
            case measure => simp [intOf]; omega
        · obtain rfl : j = n := by omega
          have hji : ¬ (j : Int) < (j : Int) := by omega
          obtain ⟨wc, rfl⟩ : ∃ x, x = wr := ⟨_, rfl⟩
          have hM1 := HM.out.below HBQ.out
          have HJ := Lib.hid (HM.out.join HBQ.out HO.out)
          have HFR := Lib.hid (show Fz (fun k => S k ∨ u9.ownBlock = some k) wc u9 (toI (rowT E a)) from by
            have := HO.out
            rw [List.take_of_length_le (by rw [rowT_length, HN.out]; omega)] at this
            exact OwnI.fz this (by rw [toI_length, rowT_length, HN.out]; omega) fun k hk => .inr hk)
          have hcT := hM1.box.at (i := 1) rfl
          have hcB := hM1.box.at (i := 2) rfl
          have hcO := hM1.box.at (i := 4) rfl
          have HM1 := Lib.hid hM1
          have HTA := Lib.hid (tabN_take (E := E) a (by rw [HN.out]; exact hlt))
          have HBA := Lib.hid (backL_take (E := E) a (by rw [HN.out]; exact hlt))
          have HBE := Lib.hid (show backTo E a j = invN E a by have := HG.out.backTo_end (a := a) (by rw [HN.out]; exact hlt); rw [HN.out] at this; exact this)
          have HLT := Lib.hid (show ((tabN E).take a).length < 1000000 by rw [List.length_take]; omega)
          have HLB := Lib.hid (show (toI ((backL E).take a)).length < 1000000 by rw [toI_length, List.length_take]; omega)
          have HLO := Lib.hid (show (List.replicate a (-1 : Int)).length < 1000000 by rw [List.length_replicate]; omega)
          have HNT := Lib.hid (show ∀ k, (S k ∨ u9.ownBlock = some k) → vT.ownBlock ≠ some k from fun k hk e => by
            have e1 := (HJ.out k hk).1
            rw [HM1.out.t.ty e] at e1
            exact absurd e1 (by decide))
          have HBX := Lib.hid (show some w1.heap.size ≠ vT.ownBlock ∧ some w1.heap.size ≠ vB.ownBlock ∧ some w1.heap.size ≠ vO.ownBlock from
            ⟨fun e => by have := (HM1.out.t.own _ e.symm).1; have := HZ2.out; omega, fun e => by have := (World.ownsRow.lt HM1.out.b _ e.symm).1; have := HZ2.out; omega, fun e => by have := (World.ownsRow.lt HM1.out.o _ e.symm).1; have := HZ2.out; omega⟩)
          have HLW := Lib.hid (show w1.heap.size ≤ wc.heap.size ∧ w2.heap.size ≤ wc.heap.size from ⟨by have := HB1.out.size; exact this, by have := HSZ.out; omega⟩)
          obtain ⟨a9, n9, c9, e9⟩ := own_form HO.out
          subst e9
          obtain ⟨aT, nT, cT, rfl⟩ := hM1.t.nform
          obtain ⟨aB, nB, cB, rfl⟩ := own_form hM1.b
          obtain ⟨aO, nO, cO, rfl⟩ := own_form hM1.o
          rw [HBE.out]
          clear hM1 HBE
          go_wp2_with (first
            | (at_builtin; refine wpList_appF rfl _ _ rfl (fun k => S k ∨ (Value.slice a9 n9 c9).ownBlock = some k) w2.heap.size wc.heap.size (.slice aT nT cT) (.slice a9 n9 c9) ((tabN E).take a) (rowT E a) rfl ((HM1.out.t.mono fun k hk => .inl hk).alloc _) (HFR.out.kept (Sm.of_below ((Below.refl _ _).alloc (Nat.le_refl _) _))) rfl (Held.new _ _ [_]) HNT.out HLT.out (by have := HLW.out; simp; omega) ?_; intro v5 w5 hr5 hg5 ho5; have HR5 := Lib.hid hr5; have HG5 := Lib.hid hg5; have HO5 := Lib.hid ho5; have HH5 := Lib.hid ((HM1.out.box.alloc (.cells #[.slice a9 n9 c9] 27)).grown hg5 HBX.out.1); have HB5 := Lib.hid ((HB1.out.alloc HLW.out.1 (.cells #[.slice a9 n9 c9] 27)).grown hg5 (by have := HLW.out; simp; omega) (fun k hk => by have := (HM1.out.t.own k hk).1; have := HZ2.out; omega)); obtain ⟨a5, n5, c5, rfl⟩ := hr5.nform; clear hr5 hg5 ho5)
            | ((with_reducible refine is_store 22 ?_); refine wpl_store_one size_rows (by rfl) _ _ (by rfl) w1.heap.size 1 (by rfl) (by rfl) (by rfl) (by rfl) (by simp) HH5.out ?_; intro w6 e6; have hm6 : MkI w2.heap.size w1.heap.size (fun k => S k ∨ (Value.slice a9 n9 c9).ownBlock = some k) w6 (.slice (some ⟨g, 0, none⟩) j cL) (.slice a5 n5 c5) (.slice aB nB cB) (.slice none 0 0) (.slice aO nO cO) ((tabN E).take a ++ [rowT E a]) [] ((backL E).take a) (List.replicate a (-1)) := (by rw [e6]; exact HM1.out.timed ((Below.refl _ _).alloc (Nat.le_refl _) _) (fun k hk => .inl hk) (fun k hk => ⟨by rw [ty_block (((Below.refl wc.heap.size wc).alloc (Nat.le_refl _) _).block k (ty_lt (HJ.out k hk).1))]; exact (HJ.out k hk).1, (HJ.out k hk).2⟩) HR5.out HG5.out HO5.out); have HB6 := Lib.hid (show Below w1.heap.size w1 w6 by rw [e6]; exact HB5.out.setCell (Nat.le_refl _) _); have HM6 := Lib.hid hm6; have hc6B := hm6.box.at (i := 2) rfl; have HS6 := Lib.hid (show w2.heap.size ≤ w6.heap.size by have := hm6.box.lt; have := HZ2.out; omega); clear e6 hm6)
            | (at_builtin; refine wpList_app1_at rfl _ _ rfl w2.heap.size (.slice aB nB cB) (toI ((backL E).take a)) ((invN E a : Nat) : Int) rfl (HM6.out.b.alloc _) ⟨_, 0, none⟩ 1 rfl (cell_new1 _ _ _) HLB.out (by have := HS6.out; simp; omega) ?_; intro v7 w7 ho7 hg7 hl7; have HO7 := Lib.hid ho7; have HG7 := Lib.hid hg7; have HL7 := Lib.hid hl7; have HH7 := Lib.hid ((HM6.out.box.alloc (.cells #[.int .i64 (invN E a : Nat)] 3)).grown hg7 HBX.out.2.1); have HB7 := Lib.hid ((HB6.out.alloc HB6.out.size (.cells #[.int .i64 (invN E a : Nat)] 3)).grown hg7 (by have := HB6.out.size; simp; omega) (fun k hk => by have := (World.ownsRow.lt HM6.out.b k hk).1; have := HZ2.out; omega)); obtain ⟨a7, n7, c7, rfl⟩ := own_form ho7; clear ho7 hg7 hl7)
            | ((with_reducible refine is_store 27 ?_); refine wpl_store_one size_ints (by rfl) _ _ (by rfl) w1.heap.size 2 (by rfl) (by rfl) (by rfl) (by rfl) (by simp) HH7.out ?_; intro w8 e8; have hm8 : MkI w2.heap.size w1.heap.size (fun k => S k ∨ (Value.slice a9 n9 c9).ownBlock = some k) w8 (.slice (some ⟨g, 0, none⟩) j cL) (.slice a5 n5 c5) (.slice a7 n7 c7) (.slice none 0 0) (.slice aO nO cO) ((tabN E).take a ++ [rowT E a]) [] ((backL E).take a ++ [invN E a]) (List.replicate a (-1)) := (by rw [e8]; exact HM6.out.backed ((Below.refl _ _).alloc (Nat.le_refl _) _) (by rw [toI_append]; exact HO7.out) HG7.out HL7.out); have HB8 := Lib.hid (show Below w1.heap.size w1 w8 by rw [e8]; exact HB7.out.setCell (Nat.le_refl _) _); have HM8 := Lib.hid hm8; have hc8O := hm8.box.at (i := 4) rfl; have HS8 := Lib.hid (show w2.heap.size ≤ w8.heap.size by have := hm8.box.lt; have := HZ2.out; omega); clear e8 hm8)
            | (at_builtin; refine wpList_app1_at rfl _ _ rfl w2.heap.size (.slice aO nO cO) (List.replicate a (-1)) (-1 : Int) rfl (HM8.out.o.alloc _) ⟨_, 0, none⟩ 1 rfl (cell_new1 _ _ _) HLO.out (by have := HS8.out; simp; omega) ?_; intro v9 w9 ho9 hg9 hl9; have HO9 := Lib.hid ho9; have HG9 := Lib.hid hg9; have HL9 := Lib.hid hl9; have HH9 := Lib.hid ((HM8.out.box.alloc (.cells #[.int .i64 (-1)] 3)).grown hg9 HBX.out.2.2); have HB9 := Lib.hid ((HB8.out.alloc HB8.out.size (.cells #[.int .i64 (-1)] 3)).grown hg9 (by have := HB8.out.size; simp; omega) (fun k hk => by have := (World.ownsRow.lt HM8.out.o k hk).1; have := HZ2.out; omega)); obtain ⟨a10, n10, c10, rfl⟩ := own_form ho9; clear ho9 hg9 hl9)
            | ((with_reducible refine is_store 27 ?_); refine wpl_store_one size_ints (by rfl) _ _ (by rfl) w1.heap.size 4 (by rfl) (by rfl) (by rfl) (by rfl) (by simp) HH9.out ?_; intro wz ez; have hmz : MkI w2.heap.size w1.heap.size (fun k => S k ∨ (Value.slice a9 n9 c9).ownBlock = some k) wz (.slice (some ⟨g, 0, none⟩) j cL) (.slice a5 n5 c5) (.slice a7 n7 c7) (.slice none 0 0) (.slice a10 n10 c10) ((tabN E).take a ++ [rowT E a]) [] ((backL E).take a ++ [invN E a]) (List.replicate a (-1) ++ [-1]) := (by rw [ez]; exact HM8.out.offed ((Below.refl _ _).alloc (Nat.le_refl _) _) HO9.out HG9.out HL9.out); have HBZ := Lib.hid (show Below w1.heap.size w1 wz by rw [ez]; exact HB9.out.setCell (Nat.le_refl _) _); have HMZ := Lib.hid hmz; clear ez hmz))
          go_roundw
          case rel => exact ⟨a + 1, _, _, _, _, hlt, by go_num, by rw [HTA.out, HBA.out, ← rep_snoc]; exact HMZ.out, HBZ.out⟩
          case measure => simp [intOf]; omega
    · obtain rfl : a = n := by omega
      have hai : ¬ (a : Int) < (a : Int) := by omega
      obtain ⟨wd, rfl⟩ : ∃ x, x = wr := ⟨_, rfl⟩
      have HM3 := Lib.hid (show MkI w2.heap.size w1.heap.size S wd (.slice aL a cL) vT vB (.slice none 0 0) vO (tabN E) (clsL E 0) (backL E) (ofL E 0) from by
        have := HM.out
        rw [List.take_of_length_le (by rw [tabN_length, HN.out]; omega), List.take_of_length_le (by rw [backL_length, HN.out]; omega)] at this
        rw [ofL_zero, HN.out]; exact this)
      obtain ⟨gT, cT, uT, rfl, -⟩ := HM3.out.t.at 0 (by rw [tabN_length, HN.out]; exact hpos)
      obtain ⟨gB, cB, rfl, -, -⟩ := HM3.out.b.block (by rw [toI_length, backL_length, HN.out]; exact hpos)
      rw [toI_length, backL_length, tabN_length, HN.out] at HM3
      obtain ⟨gO, cO, rfl, hgO, hgOs⟩ := HM3.out.o.block (by rw [ofL_length, HN.out]; exact hpos)
      have HOL := Lib.hid (fun k => (ofL_length (E := E) k).trans HN.out)
      rw [HOL.out] at HM3
      clear HM
      go_wp2
      go_loopw [76] (fun ix wr => ∃ (k : Nat) (S : Nat → Prop) (vC : Value), k ≤ a ∧ ix = .int .i64 k ∧ MkI w2.heap.size w1.heap.size S wr (.slice aL a cL) (.slice (some ⟨gT, 0, none⟩) a cT) (.slice (some ⟨gB, 0, none⟩) a cB) vC (.slice (some ⟨gO, 0, none⟩) a cO) (tabN E) (clsL E k) (backL E) (ofL E k) ∧ Below w1.heap.size w1 wr) (fun ix _ => a - (intOf ix).toNat)
      case atStart => exact ⟨0, S, _, Nat.zero_le _, rfl, HM3.out, HBR.out⟩
      case round =>
        obtain ⟨k, S3, vC, hk, rfl, hm3, hb3⟩ := hrel
        have HM4 := Lib.hid hm3
        have HB4 := Lib.hid hb3
        have hle4 := hb3.size
        by_cases hkl : k < a
        · have hki : (k : Int) < (a : Int) := by omega
          have hcO := hm3.box.at (i := 4) rfl
          have hcK := hm3.o.cellN (j := k) (by rw [HOL.out]) (by rw [HOL.out]; exact hkl)
          rw [ofL_at] at hcK
          have HSELF := Lib.hid (HG.out.of_self (a := k) (by rw [HN.out]; exact hkl))
          clear hm3 hb3
          cases hf : firstB E k with
          | false =>
            have hge : ¬ ofN E k k < 0 := fun h => by rw [HSELF.out.1 h] at hf; cases hf
            have H1 := Lib.hid (clsL_no hf)
            have H2 := Lib.hid (ofL_no hf)
            obtain ⟨o, ho⟩ : ∃ o, ofN E k k = o := ⟨_, rfl⟩
            rw [ho] at hge hcK
            have hge' : 0 ≤ o := by omega
            clear hf ho
            go_wp2
            go_roundw
            case rel => exact ⟨k + 1, S3, _, hkl, by go_num, by rw [H1.out, H2.out]; exact HM4.out, HB4.out⟩
            case measure => simp [intOf]; omega
          | true =>
            have hlt0 := HSELF.out.2 hf
            have HF := Lib.hid hf
            obtain ⟨o, ho⟩ : ∃ o, ofN E k k = o := ⟨_, rfl⟩
            rw [ho] at hlt0 hcK
            have hge' : ¬ 0 ≤ o := by omega
            have HT0 := Lib.hid (ofTo_zero (E := E) k)
            have HTL := Lib.hid (fun c => (ofTo_length (E := E) k c).trans HN.out)
            have HCL := Lib.hid (clsL_length (E := E) k)
            have HRL := Lib.hid (reps_len (E := E) k)
            obtain ⟨we, rfl⟩ : ∃ x, x = wr := ⟨_, rfl⟩
            obtain ⟨aC, nC, cC, rfl⟩ := HM4.out.c.nform
            clear hf ho
            go_wp2
            go_loopw [87] (fun ix wr => ∃ c : Nat, c ≤ a ∧ ix = .int .i64 c ∧ MkI w2.heap.size w1.heap.size S3 wr (.slice aL a cL) (.slice (some ⟨gT, 0, none⟩) a cT) (.slice (some ⟨gB, 0, none⟩) a cB) (.slice aC nC cC) (.slice (some ⟨gO, 0, none⟩) a cO) (tabN E) (clsL E k) (backL E) (ofTo E k c) ∧ Below w1.heap.size w1 wr) (fun ix _ => a - (intOf ix).toNat)
            case atStart => exact ⟨0, Nat.zero_le _, rfl, by rw [HT0.out]; exact HM4.out, HB4.out⟩
            case round =>
              obtain ⟨c, hc, rfl, hm5, hb5⟩ := hrel
              have HM5 := Lib.hid hm5
              have HB5 := Lib.hid hb5
              have hle5 := hb5.size
              by_cases hcl : c < a
              · have hci : (c : Int) < (a : Int) := by omega
                have hc1 := hm5.box.at (i := 1) rfl
                have hc2 := hm5.box.at (i := 2) rfl
                have hc3 := hm5.box.at (i := 3) rfl
                have hc4 := hm5.box.at (i := 4) rfl
                have HTB := Lib.hid (show TabR wr (.slice (some ⟨gT, 0, none⟩) a cT) E from (hm5.t.mono fun _ _ => trivial).base (Nat.zero_le _))
                obtain ⟨g1, x1, g2, o2, x2, e1, hd1', hd2', _, _⟩ := HTB.out.at (a := c) (b := k) (by rw [HN.out]; exact hcl) (by rw [HN.out]; exact hkl)
                have hx1 := HG.out.timesN_lt (a := c) (b := k) (by rw [HN.out]; exact hcl) (by rw [HN.out]; exact hkl)
                have hiv := (HG.out.inv_spec (a := c) (by rw [HN.out]; exact hcl)).1
                obtain ⟨g1', x1', g3, o3, x3, e1', hd3, hd4, _, _⟩ := HTB.out.at (a := timesN E c k) (b := invN E c) hx1 hiv
                have hcj := HG.out.cj_lt (c := c) (a := k) (by rw [HN.out]; exact hcl) (by rw [HN.out]; exact hkl)
                have HSU := Lib.hid (ofTo_succ (E := E) k c)
                have hdj : timesN E (timesN E c k) (invN E c) = cjN E c k := rfl
                rw [hdj] at hd4
                have hcb := hm5.b.cellN (j := c) (by rw [toI_length, backL_length, HN.out]) (by rw [toI_length, backL_length, HN.out]; exact hcl)
                rw [toI_getElem, backL_at] at hcb
                rw [HN.out] at e1 e1' hd1' hd3 hx1 hiv hcj
                obtain rfl : gT = g1 := by have := (Value.slice.inj e1).1; simpa using this
                obtain rfl : gT = g1' := by have := (Value.slice.inj e1').1; simpa using this
                have hfr := fun j => hm5.o.free j (by rw [HTL.out])
                have hoc := hm5.o.cellN (j := cjN E c k) (by rw [HTL.out]) (by rw [HTL.out]; exact hcj)
                have HPUT := Lib.hid (show MkI w2.heap.size w1.heap.size S3 (wr.drew.setCell ⟨gO, cjN E c k, none⟩ (.int .i64 ((repsN E k).length : Nat))) (.slice aL a cL) (.slice (some ⟨gT, 0, none⟩) a cT) (.slice (some ⟨gB, 0, none⟩) a cB) (.slice aC nC cC) (.slice (some ⟨gO, 0, none⟩) a cO) (tabN E) (clsL E k) (backL E) (ofTo E k (c + 1)) from by
                  have h0 := hm5.below ((Below.refl _ _).drew)
                  have h1 : MkI w2.heap.size w1.heap.size S3 wr.drew (.slice aL a cL) (.slice (some ⟨gT, 0, none⟩) a cT) (.slice (some ⟨gB, 0, none⟩) a cB) (.slice aC nC cC) (.slice (some ⟨gO, 0, none⟩) (ofTo E k c).length cO) (tabN E) (clsL E k) (backL E) (ofTo E k c) := by rw [HTL.out]; exact h0
                  have h2 := h1.put (cjN E c k) ((repsN E k).length : Int)
                  rw [HSU.out, HTL.out] at h2
                  exact h2)
                have HNC := Lib.hid (show nC = (repsN E k).length from by
                  obtain ⟨aC', cC', e⟩ := hm5.c.form
                  have := (Value.slice.inj e).2.1
                  rw [this, HCL.out])
                have HGO := Lib.hid (show w1.heap.size ≤ gO by have := HZ2.out; omega)
                clear hm5 hb5 e1' e1
                go_upto_region 29 with (fail)
                go_still_tail 25, (by kernel_rfl)
                rw [HNC.out]
                go_wp2
                go_roundw
                case rel => exact ⟨c + 1, hcl, by go_num, HPUT.out, HB5.out.drew.setCell (p := ⟨gO, cjN E c k, none⟩) HGO.out _⟩
                case measure => simp [intOf]; omega
              · obtain rfl : c = a := by omega
                have hci : ¬ (c : Int) < (c : Int) := by omega
                obtain ⟨wf, rfl⟩ : ∃ x, x = wr := ⟨_, rfl⟩
                have HM6 := Lib.hid (show MkI w2.heap.size w1.heap.size S3 wf (.slice aL c cL) (.slice (some ⟨gT, 0, none⟩) c cT) (.slice (some ⟨gB, 0, none⟩) c cB) (.slice aC nC cC) (.slice (some ⟨gO, 0, none⟩) c cO) (tabN E) (clsL E k) (backL E) (ofL E (k + 1)) from by
                  have := HG.out.ofTo_end (a := k) (by rw [HN.out]; exact hkl) HF.out
                  rw [HN.out] at this
                  rw [← this]; exact hm5)
                have hc4 := hm5.box.at (i := 4) rfl
                have HCE := Lib.hid (show clsTo E k c = clsN E k from by
                  have := HG.out.clsTo_end (a := k) (by rw [HN.out]; exact hkl) HF.out
                  rw [HN.out] at this; exact this)
                have HNC := Lib.hid (show nC = (repsN E k).length from by
                  obtain ⟨aC', cC', e⟩ := hm5.c.form
                  have := (Value.slice.inj e).2.1
                  rw [this, HCL.out])
                have HLST := Lib.hid (clsL_first HF.out)
                have HCB := Lib.hid (fun i => clsTo_len (E := E) k i)
                have HCS := Lib.hid (fun i => clsTo_succ (E := E) k i)
                clear hm5 hb5
                go_wp2
                go_loopw [16, 119] (fun vc ix wr => ∃ i : Nat, i ≤ c ∧ ix = .int .i64 i ∧ OwnI 3 wf.heap.size wr vc (toI (clsTo E k i)) ∧ Below wf.heap.size wf wr) (fun _ ix _ => c - (intOf ix).toNat)
                case atStart => exact ⟨0, Nat.zero_le _, rfl, OwnI.nil _ _ _, Below.refl _ _⟩
                case round =>
                  obtain ⟨i, hi, rfl, ho7, hb7⟩ := hrel
                  have HO7 := Lib.hid ho7
                  have HB7 := Lib.hid hb7
                  have hle7 := hb7.size
                  have HM7 := Lib.hid (HM6.out.below hb7)
                  have hc7C := HM7.out.box.at (i := 3) rfl
                  clear ho7 hb7
                  by_cases hil : i < c
                  · have hii : (i : Int) < (c : Int) := by omega
                    have hco := HM7.out.o.cellN (j := i) (by rw [HOL.out]) (by rw [HOL.out]; exact hil)
                    rw [ofL_at] at hco
                    have HSC := Lib.hid (HCS.out i)
                    have hcb7 := HCB.out i
                    have HL7 := Lib.hid (show (toI (clsTo E k i)).length < 1000000 by rw [toI_length]; omega)
                    obtain ⟨o, ho⟩ : ∃ o, ofN E (k + 1) i = o := ⟨_, rfl⟩
                    rw [ho] at hco HSC
                    have hnc := HNC.out
                    obtain ⟨m, hm⟩ : ∃ m, (repsN E k).length = m := ⟨_, rfl⟩
                    rw [hm] at HSC hnc
                    subst hnc
                    clear ho hm
                    by_cases he : o = (nC : Int)
                    · subst he
                      have HAP := Lib.hid (show clsTo E k (i + 1) = clsTo E k i ++ [i] by rw [HSC.out, if_pos (by simp)])
                      go_wp2_with (at_builtin; refine wpList_app1_at rfl _ _ rfl wf.heap.size _ (toI (clsTo E k i)) (i : Int) rfl (HO7.out.alloc _) ⟨_, 0, none⟩ 1 rfl (cell_new1 _ _ _) HL7.out (by simp; omega) ?_; intro v8 w8 ho8 hg8 hl8; have HO8 := Lib.hid ho8; have HB8 := Lib.hid ((HB7.out.alloc hle7 (.cells #[.int .i64 (i : Nat)] 3)).grown hg8 (by simp; omega) (fun j hj => (World.ownsRow.lt HO7.out j hj).1)); clear ho8 hg8 hl8)
                      go_roundw
                      case rel => exact ⟨i + 1, hil, by go_num, by rw [HAP.out, toI_append]; exact HO8.out, HB8.out⟩
                      case measure => simp [intOf]; omega
                    · have he2 : (o == (nC : Int)) = false := by simpa using he
                      have HAP := Lib.hid (show clsTo E k (i + 1) = clsTo E k i by rw [HSC.out, if_neg (by rw [he2]; simp), List.append_nil])
                      go_wp2
                      go_roundw
                      case rel => exact ⟨i + 1, hil, by go_num, by rw [HAP.out]; exact HO7.out, HB7.out⟩
                      case measure => simp [intOf]; omega
                  · obtain rfl : i = c := by omega
                    have hii : ¬ (i : Int) < (i : Int) := by omega
                    obtain ⟨wg, rfl⟩ : ∃ x, x = wr := ⟨_, rfl⟩
                    have HJ := Lib.hid (HM6.out.join HB7.out HO7.out)
                    have HFR := Lib.hid (show Fz (fun j => S3 j ∨ u16.ownBlock = some j) wg u16 (toI (clsN E k)) from by
                      have h0 := HO7.out
                      have h1 := HCB.out i
                      rw [HCE.out] at h0 h1
                      exact OwnI.fz h0 (by rw [toI_length]; omega) fun j hj => .inr hj)
                    have HLT := Lib.hid (show (clsL E k).length < 1000000 by rw [HCL.out]; have := HRL.out; omega)
                    have HNT := Lib.hid (show ∀ j, (S3 j ∨ u16.ownBlock = some j) → (Value.slice aC nC cC).ownBlock ≠ some j from fun j hj e => by
                      have e1 := (HJ.out j hj).1
                      rw [HM7.out.c.ty e] at e1
                      exact absurd e1 (by decide))
                    have HBX := Lib.hid (show some w1.heap.size ≠ (Value.slice aC nC cC).ownBlock from fun e => by have := (HM7.out.c.own _ e.symm).1; have := HZ2.out; omega)
                    have HBG := Lib.hid (HB5.out.trans (HB7.out.mono hle5))
                    have HLW := Lib.hid (show w1.heap.size ≤ wg.heap.size ∧ w2.heap.size ≤ wg.heap.size from ⟨HBG.out.size, by have := HM7.out.box.lt; have := HZ2.out; omega⟩)
                    obtain ⟨a9, n9, c9, e9⟩ := own_form HO7.out
                    subst e9
                    go_wp2_with (first
                      | (at_builtin; refine wpList_appF rfl _ _ rfl (fun j => S3 j ∨ (Value.slice a9 n9 c9).ownBlock = some j) w2.heap.size wg.heap.size (.slice aC nC cC) (.slice a9 n9 c9) (clsL E k) (clsN E k) rfl ((HM7.out.c.mono fun j hj => .inl hj).alloc _) (HFR.out.kept (Sm.of_below ((Below.refl _ _).alloc (Nat.le_refl _) _))) rfl (Held.new _ _ [_]) HNT.out HLT.out (by have := HLW.out; simp; omega) ?_; intro v5 w5 hr5 hg5 ho5; have HR5 := Lib.hid hr5; have HG5 := Lib.hid hg5; have HO5 := Lib.hid ho5; have HH5 := Lib.hid ((HM7.out.box.alloc (.cells #[.slice a9 n9 c9] 27)).grown hg5 HBX.out); have HB5' := Lib.hid ((HBG.out.alloc HLW.out.1 (.cells #[.slice a9 n9 c9] 27)).grown hg5 (by have := HLW.out; simp; omega) (fun j hj => by have := (HM7.out.c.own j hj).1; have := HZ2.out; omega)); obtain ⟨a5, n5, c5, rfl⟩ := hr5.nform; clear hr5 hg5 ho5)
                      | ((with_reducible refine is_store 22 ?_); refine wpl_store_one size_rows (by rfl) _ _ (by rfl) w1.heap.size 3 (by rfl) (by rfl) (by rfl) (by rfl) (by simp) HH5.out ?_; intro w6 e6; have hm6 : MkI w2.heap.size w1.heap.size (fun j => S3 j ∨ (Value.slice a9 n9 c9).ownBlock = some j) w6 (.slice aL i cL) (.slice (some ⟨gT, 0, none⟩) i cT) (.slice (some ⟨gB, 0, none⟩) i cB) (.slice a5 n5 c5) (.slice (some ⟨gO, 0, none⟩) i cO) (tabN E) (clsL E k ++ [clsN E k]) (backL E) (ofL E (k + 1)) := (by rw [e6]; exact HM7.out.classed ((Below.refl _ _).alloc (Nat.le_refl _) _) (fun j hj => .inl hj) (fun j hj => ⟨by rw [ty_block (((Below.refl wg.heap.size wg).alloc (Nat.le_refl _) _).block j (ty_lt (HJ.out j hj).1))]; exact (HJ.out j hj).1, (HJ.out j hj).2⟩) HR5.out HG5.out HO5.out); have HB6 := Lib.hid (show Below w1.heap.size w1 w6 by rw [e6]; exact HB5'.out.setCell (Nat.le_refl _) _); have HMZ := Lib.hid hm6; clear e6 hm6))
                    go_roundw
                    case rel => exact ⟨k + 1, _, _, hkl, by go_num, by rw [HLST.out]; exact HMZ.out, HB6.out⟩
                    case measure => simp [intOf]; omega
        · obtain rfl : k = a := by omega
          have hki : ¬ (k : Int) < (k : Int) := by omega
          obtain ⟨we, rfl⟩ : ∃ x, x = wr := ⟨_, rfl⟩
          have HLE := Lib.hid (RowsF.base ((HL.out.below HB4.out).mono (S' := fun _ => True) fun _ _ => trivial) (Nat.zero_le _))
          have HTE := Lib.hid (show TabR we (.slice (some ⟨gT, 0, none⟩) k cT) E from (hm3.t.mono fun _ _ => trivial).base (Nat.zero_le _))
          have PR := Lib.hid (prime_any (.slice aL k cL) (.slice (some ⟨gT, 0, none⟩) k cT) (.slice (some ⟨gB, 0, none⟩) k cB) vC (.slice (some ⟨gO, 0, none⟩) k cO) 0 we HG.out hd1 hd5 (by rw [HN.out]; exact h24) HLE.out HTE.out)
          have HCE := Lib.hid (show clsL E k = classesN E from by have := clsL_end (E := E); rw [HN.out] at this; exact this)
          have HOE := Lib.hid (show ofL E k = ofL E E.length by rw [HN.out])
          have hh0 := hm3.box.at (i := 0) rfl
          have hh1 := hm3.box.at (i := 1) rfl
          have hh2 := hm3.box.at (i := 2) rfl
          have hh3 := hm3.box.at (i := 3) rfl
          have hh4 := hm3.box.at (i := 4) rfl
          have hh5 := hm3.box.at (i := 5) rfl
          have HHE := Lib.hid ((HH.out.below HB4.out HH.out.lt))
          have HWL := Lib.hid (show w.heap.size < w1.heap.size from HH.out.lt)
          obtain ⟨aC, nC, cC, rfl⟩ := hm3.c.nform
          obtain ⟨q, hq⟩ : ∃ q, primeN E d = q := ⟨_, rfl⟩
          have HQ := Lib.hid hq
          rw [hq] at PR
          unfold rgV at PR
          clear hm3 hb3 hq
          go_wp2_with (first
            | (go_at_call 86; refine PR.out.mono ?_; rintro e w7 ⟨rfl, hb7⟩; have HB7 := Lib.hid hb7; have HM7 := Lib.hid (HM4.out.below hb7); clear hb7)
            | ((with_reducible refine is_store 3 ?_); refine wpl_store_one size_int (by rfl) _ _ (by rfl) w1.heap.size 5 (by rfl) (by rfl) (by rfl) (by rfl) (by simp) HM7.out.box ?_; intro w8 e8; have HP8 := Lib.hid (show Held w8 w1.heap.size 29 [.slice aL k cL, .slice (some ⟨gT, 0, none⟩) k cT, .slice (some ⟨gB, 0, none⟩) k cB, .slice aC nC cC, .slice (some ⟨gO, 0, none⟩) k cO, .int .i64 (q : Nat)] from by rw [e8]; exact HM7.out.box.put 5 _); have HS8 := Lib.hid (show Sm (fun j => j ≠ w1.heap.size) w7 w8 by rw [e8]; exact Sm.put _ _ _); have hk0 := HP8.out.at (i := 0) rfl; have hk1 := HP8.out.at (i := 1) rfl; have hk2 := HP8.out.at (i := 2) rfl; have hk3 := HP8.out.at (i := 3) rfl; have hk4 := HP8.out.at (i := 4) rfl; have hk5 := HP8.out.at (i := 5) rfl; have HR8 := Lib.hid ((HHE.out.below HB7.out HHE.out.lt).sm HS8.out (by have := HWL.out; omega)); clear e8)
            | ((with_reducible refine is_store 29 ?_); refine wpl_store_all infoRG (by rfl) _ _ (by rfl) w.heap.size [.slice aL k cL, .slice (some ⟨gT, 0, none⟩) k cT, .slice (some ⟨gB, 0, none⟩) k cB, .slice aC nC cC, .slice (some ⟨gO, 0, none⟩) k cO, .int .i64 (q : Nat)] _ (by rfl) (by rfl) (by simp [Value.oneCell']) (by rfl) (by rfl) HR8.out ?_; intro w9 hh9 hs9 hz9; have HH9 := Lib.hid hh9; have HS9 := Lib.hid hs9; clear hh9 hs9 hz9))
          have HS := Lib.hid (show Sm (fun j => j ≠ w1.heap.size ∧ j ≠ w.heap.size) w7 w9 from
            ⟨HS9.out.os.trans HS8.out.os, HS9.out.tape.trans HS8.out.tape, HS9.out.output.trans HS8.out.output, Nat.le_trans HS8.out.size HS9.out.size, fun j hj hl => (HS9.out.block j hj.2 (Nat.lt_of_lt_of_le hl HS8.out.size)).trans (HS8.out.block j hj.1 hl)⟩)
          have HB7' := Lib.hid (HB4.out.trans (HB7.out.mono hle4))
          have HW2 := Lib.hid (show w.heap.size ≤ w2.heap.size by have := HZ2.out; have := HWL.out; omega)
          have HM9 := Lib.hid (show RowsF S3 w2.heap.size w9 (.slice (some ⟨gT, 0, none⟩) k cT) (tabN E) ∧ RowsF S3 w2.heap.size w9 (.slice aC nC cC) (clsL E k) ∧ OwnI 3 w2.heap.size w9 (.slice (some ⟨gB, 0, none⟩) k cB) (toI (backL E)) ∧ OwnI 3 w2.heap.size w9 (.slice (some ⟨gO, 0, none⟩) k cO) (ofL E k) ∧ ∀ j, S3 j → typeAt w9 j = some 3 from by
            have hz := HZ2.out
            have hwl := HWL.out
            have hm := HM7.out
            have hzz : (HHE.out.below HB7.out HHE.out.lt).ty = (HHE.out.below HB7.out HHE.out.lt).ty := rfl
            have tz := (HHE.out.below HB7.out HHE.out.lt).ty
            have pS : ∀ j, S3 j → j ≠ w1.heap.size ∧ j ≠ w.heap.size := fun j hj =>
              ⟨ty_ne (by rw [(hm.hS j hj).1, hm.box.ty]; decide), ty_ne (by rw [(hm.hS j hj).1, tz]; decide)⟩
            refine ⟨hm.t.kept HS.out pS (fun j hj => ?_), hm.c.kept HS.out pS (fun j hj => ?_), own_sm' hm.b HS.out (fun j hj => ?_), own_sm' hm.o HS.out (fun j hj => ?_), fun j hj => by rw [ty_block (HS.out.block j (pS j hj) (ty_lt (hm.hS j hj).1))]; exact (hm.hS j hj).1⟩
            · have := (hm.t.own j hj).1; omega
            · have := (hm.c.own j hj).1; omega
            · have := (World.ownsRow.lt hm.b j hj).1; omega
            · have := (World.ownsRow.lt hm.o j hj).1; omega)
          have HL9 := Lib.hid (show RowsF (fun j => w.heap.size + 1 ≤ j ∧ j < w1.heap.size) (w.heap.size + 1) w9 (.slice aL k cL) E from by
            have h0 : RowsF (fun j => w.heap.size + 1 ≤ j ∧ j < w1.heap.size) (w.heap.size + 1) w1 (.slice aL k cL) E := HL1.out
            have h1 := h0.below HB7'.out
            refine h1.kept HS.out (fun j hj => ⟨by omega, by omega⟩) (fun j hj => ?_)
            have := h0.own j hj
            exact ⟨by omega, by omega⟩)
          refine bodyPost_ret (results_rg (.int .i64 0) Tryz.results46 (by rfl) HH9.out rfl (by rfl)) rfl ⟨_, rfl, ⟨.slice aL k cL, .slice (some ⟨gT, 0, none⟩) k cT, .slice (some ⟨gB, 0, none⟩) k cB, .slice aC nC cC, .slice (some ⟨gO, 0, none⟩) k cO, by rw [HQ.out]; rfl, RowsF.base (HL9.out.mono fun j hj => .inl (by omega)) (by omega), (HM9.out.1.mono fun j hj => .inr (HM9.out.2.2.2.2 j hj)).base HW2.out, OwnI.mono HM9.out.2.2.1 HW2.out, by rw [← HCE.out]; exact (HM9.out.2.1.mono fun j hj => .inr (HM9.out.2.2.2.2 j hj)).base HW2.out, by rw [← HOE.out]; exact OwnI.mono HM9.out.2.2.2.1 HW2.out⟩, ?_⟩
          have hb9 : Below w.heap.size w w7 := HB.out.trans (HB7'.out.mono (Nat.le_of_lt HWL.out))
          exact ⟨HS.out.os.trans hb9.os, HS.out.tape.trans hb9.tape, HS.out.output.trans hb9.output, Nat.le_trans hb9.size HS.out.size, fun j hj => (HS.out.block j ⟨by have := HWL.out; omega, by omega⟩ (Nat.lt_of_lt_of_le hj hb9.size)).trans (hb9.block j hj)⟩
end Go.Proofs.YtdackakjcnnofaaGreat
