/- St of the seat's texts, in this order. -/
import Derived.Test.YtdackakjcnnofaaA4
import Derived.Test.YtdackakjcnnofaaA2

/- (group).sort. -/
namespace Go.Proofs.Ytdackakjcnnofaa
open Go.RowKit
attribute [local go_sem] Oper.semAt_some

/-- What sort leaves. -/
def SortOut (d : Nat) (E : List (List Nat)) (bg : Nat) (vE : Value) (bM : Nat) (w : World) (e : Ending) (w' : World) : Prop :=
  e = .returned (.tuple #[]) ∧ ∃ S vC vO vB, SrI d E w.heap.size bg S w' vE bM vC vO vB (classesN E) (ofL E E.length) (backC E) 0 ∧ Sm (fun k => k ≠ bg) w w'
theorem sm_below {g : Nat} {a b c : World} (h : Sm (fun k => k ≠ g) a b) (hb : Below b.heap.size b c) : Sm (fun k => k ≠ g) a c := h.trans (Sm.of_below hb)
theorem sm_grown {g : Nat} {row : Option Nat} {a b c : World} (h : Sm (fun k => k ≠ g) a b) (hb : b.grownBy c row) (hr : ∀ k, row = some k → a.heap.size ≤ k) : Sm (fun k => k ≠ g) a c :=
  ⟨hb.os.trans h.os, hb.tape.trans h.tape, hb.output.trans h.output, Nat.le_trans h.size hb.size, fun k hk hl => (hb.block k (Nat.lt_of_lt_of_le hl h.size) (fun e => by have := hr k e.symm; omega)).trans (h.block k hk hl)⟩
theorem sm_set {g j : Nat} {u : Value} {a b : World} (h : Sm (fun k => k ≠ g) a b) : Sm (fun k => k ≠ g) a (b.setCell ⟨g, j, none⟩ u) := h.trans (Sm.put g j u)
theorem sm_put {g o j : Nat} {u : Value} {a b : World} (h : Sm (fun k => k ≠ g) a b) (ho : a.heap.size ≤ o) : Sm (fun k => k ≠ g) a (b.setCell ⟨o, j, none⟩ u) :=
  ⟨h.os, h.tape, h.output, by simpa [World.setCell] using h.size, fun k hk hl => (Below.heap_setCell b ⟨o, j, none⟩ u k (by show k ≠ o; omega)).trans (h.block k hk hl)⟩

set_option maxRecDepth 100000 in
set_option maxHeartbeats 4000000 in
theorem gsort_any {d : Nat} {E : List (List Nat)} (bg : Nat) (vE : Value) (bM : Nat) (w : World) (h : Grp d E) (hd : d ≤ 5) (h24 : E.length ≤ 24) (hs : SrI d E w.heap.size bg (fun _ => False) w vE bM (.slice none 0 0) (.slice none 0 0) (.slice none 0 0) [] [] [] 0) :
    Calls Try.prog 37 #[.pointer (some ⟨bg, 0, none⟩)] w (SortOut d E bg vE bM w) := by
  have HG := Lib.hid h
  have TM := Lib.hid (fun (a b : Nat) (w' : World) (ht : GT d E w' bg vE bM) (ha : a < E.length) (hb : b < E.length) => gtimes_any bg vE bM a b w' h hd ht ha hb)
  have IV := Lib.hid (fun (a : Nat) (w' : World) (ht : GT d E w' bg vE bM) (ha : a < E.length) => ginv_any bg vE bM a w' h hd h24 ht ha)
  have hpos := h.pos
  have HS := Lib.hid hs
  have hc1 := hs.box.at (i := 1) rfl
  have hbgl := hs.box.lt
  obtain ⟨gE, cE, rfl, -, -, -⟩ := hs.els
  rw [elsI_length] at hc1 HS TM IV
  obtain ⟨n, hn⟩ : ∃ n, E.length = n := ⟨_, rfl⟩
  have HN := Lib.hid hn
  rw [hn] at h24 hpos hc1 HS TM IV
  have REP := Lib.hid (fun (b : Nat) (w' : World) (hb : b < w'.heap.size) (hc : w'.cell? ⟨b, 0, none⟩ = some (.int .i64 (-1))) => Repeat_any b (-1) n w' hpos h24 hb hc)
  have hni : (0 : Int) ≤ (n : Int) := by omega
  rw [elsI_length, hn]
  clear h hs hn
  go_enter Try.func37, Try.ntmps37
  go_wp2_with (first
    | (go_at_call 55; refine (REP.out w.heap.size _ (by simp) (by simp)).mono ?_; rintro e w1 ⟨v1, rfl, ho1, hb1⟩; have HO1 := Lib.hid ho1; have HB1 := Lib.hid (show Below w.heap.size w w1 from ((Below.refl _ _).alloc (Nat.le_refl _) _).trans (hb1.mono (by simp))); have HH1 := Lib.hid ((HS.out.box.below HB1.out hbgl)); obtain ⟨a1, n1, c1, rfl⟩ := own_form ho1; clear ho1 hb1)
    | ((with_reducible refine is_store 28 ?_); refine wpl_store_one size_ints (by rfl) _ _ (by rfl) bg 4 (by rfl) (by rfl) (by rfl) (by rfl) (by simp) HH1.out ?_; intro w2 e2; have HM2 := Lib.hid (show SrI d E w.heap.size bg (fun _ => False) w2 (.slice (some ⟨gE, 0, none⟩) n cE) bM (.slice none 0 0) (.slice a1 n1 c1) (.slice none 0 0) (clsL E 0) (ofL E 0) [] 0 from (by rw [e2, ofL_zero, HN.out]; exact HS.out.numbered (Nat.le_refl _) HB1.out (HO1.out.mono (by simp)))); have HB2 := Lib.hid (show Sm (fun k => k ≠ bg) w w2 by rw [e2]; exact sm_set (Sm.of_below HB1.out)); have hc2E := HM2.out.box.at (i := 1) rfl; clear e2))
  have HH1 := Lib.hid (show w.heap.size ≤ w2.heap.size from HB2.out.size)
  obtain ⟨gO, cO, e1, hgO, hgOs⟩ := HM2.out.o.block (by rw [ofL_length, HN.out]; exact hpos)
  rw [ofL_length, HN.out] at e1
  rw [e1] at HM2
  clear e1 HO1
  go_loopw [23] (fun ix wr => ∃ (a : Nat) (S : Nat → Prop) (vC : Value), a ≤ n ∧ ix = .int .i64 a ∧ SrI d E w.heap.size bg S wr (.slice (some ⟨gE, 0, none⟩) n cE) bM vC (.slice (some ⟨gO, 0, none⟩) n cO) (.slice none 0 0) (clsL E a) (ofL E a) [] 0 ∧ Sm (fun k => k ≠ bg) w wr) (fun ix _ => n - (intOf ix).toNat)
  case atStart => exact ⟨0, _, _, Nat.zero_le _, rfl, HM2.out, HB2.out⟩
  case round =>
    obtain ⟨a, S, vC, ha, rfl, hm, hb⟩ := hrel
    have HM := Lib.hid hm
    have HB := Lib.hid hb
    have hle := hb.size
    have HOL := Lib.hid (fun k => (ofL_length (E := E) k).trans HN.out)
    by_cases hlt : a < n
    · have hai : (a : Int) < (n : Int) := by omega
      have hc1' := hm.box.at (i := 1) rfl
      have hc4 := hm.box.at (i := 4) rfl
      have hcA := hm.o.cellN (j := a) (by rw [HOL.out]) (by rw [HOL.out]; exact hlt)
      rw [ofL_at] at hcA
      have HSELF := Lib.hid (HG.out.of_self (a := a) (by rw [HN.out]; exact hlt))
      clear hm hb
      cases hf : firstB E a with
      | false =>
        have hge : ¬ ofN E a a < 0 := fun h => by rw [HSELF.out.1 h] at hf; cases hf
        have H1 := Lib.hid (clsL_no hf)
        have H2 := Lib.hid (ofL_no hf)
        obtain ⟨o, ho⟩ : ∃ o, ofN E a a = o := ⟨_, rfl⟩
        rw [ho] at hge hcA
        have hge' : 0 ≤ o := by omega
        clear hf ho
        go_wp2
        go_roundw
        case rel => exact ⟨a + 1, S, _, hlt, by go_num, by rw [H1.out, H2.out]; exact HM.out, HB.out⟩
        case measure => simp [intOf]; omega
      | true =>
        have hlt0 := HSELF.out.2 hf
        have HF := Lib.hid hf
        obtain ⟨o, ho⟩ : ∃ o, ofN E a a = o := ⟨_, rfl⟩
        rw [ho] at hlt0 hcA
        have hge' : ¬ 0 ≤ o := by omega
        have HT0 := Lib.hid (ofTo_zero (E := E) a)
        have HTL := Lib.hid (fun c => (ofTo_length (E := E) a c).trans HN.out)
        have HCL := Lib.hid (clsL_length (E := E) a)
        have HRL := Lib.hid (reps_len (E := E) a)
        obtain ⟨we, rfl⟩ : ∃ x, x = wr := ⟨_, rfl⟩
        obtain ⟨aC, nC, cC, rfl⟩ := HM.out.c.nform
        have HNC := Lib.hid (show nC = (repsN E a).length from by
          obtain ⟨aC', cC', e⟩ := HM.out.c.form
          have := (Value.slice.inj e).2.1
          rw [this, HCL.out])
        clear hf ho
        go_wp2
        go_loopw [3, 39] (fun vl ix wr => ∃ c : Nat, c ≤ n ∧ ix = .int .i64 c ∧ SrI d E w.heap.size bg S wr (.slice (some ⟨gE, 0, none⟩) n cE) bM (.slice aC nC cC) (.slice (some ⟨gO, 0, none⟩) n cO) (.slice none 0 0) (clsL E a) (ofTo E a c) [] 0 ∧ OwnI 3 we.heap.size wr vl (toI (seenTo E a c)) ∧ Sm (fun k => k ≠ bg) w wr ∧ we.heap.size ≤ wr.heap.size) (fun _ ix _ => n - (intOf ix).toNat)
        case atStart => exact ⟨0, Nat.zero_le _, rfl, by rw [HT0.out]; exact HM.out, OwnI.nil _ _ _, HB.out, Nat.le_refl _⟩
        case round =>
          obtain ⟨c, hc, rfl, hm5, ho5, hb5, hle5⟩ := hrel
          have HM5 := Lib.hid hm5
          have HO5 := Lib.hid ho5
          have HB5 := Lib.hid hb5
          by_cases hcl : c < n
          · have hci : (c : Int) < (n : Int) := by omega
            have hx1 := HG.out.timesN_lt (a := c) (b := a) (by rw [HN.out]; exact hcl) (by rw [HN.out]; exact hlt)
            have hiv := (HG.out.inv_spec (a := c) (by rw [HN.out]; exact hcl)).1
            have hcj := HG.out.cj_lt (c := c) (a := a) (by rw [HN.out]; exact hcl) (by rw [HN.out]; exact hlt)
            rw [HN.out] at hx1 hiv hcj
            have T1 := Lib.hid (fun w' ht => TM.out c a w' ht hcl hlt)
            have I1 := Lib.hid (fun w' ht => IV.out c w' ht hcl)
            have T2 := Lib.hid (fun w' ht => TM.out (timesN E c a) (invN E c) w' ht hx1 hiv)
            have HCJ := Lib.hid (show timesN E (timesN E c a) (invN E c) = cjN E c a from rfl)
            rw [HCJ.out] at T2
            have HSU := Lib.hid (ofTo_succ (E := E) a c)
            have HSS := Lib.hid (seenTo_succ (E := E) a c)
            have HSA := Lib.hid (fun h => ofTo_same (E := E) (a := a) (c := c) h)
            have HSN := Lib.hid (fun h => ofTo_seen (E := E) (a := a) (c := c) (b := cjN E c a) (by rw [HTL.out]; exact hcj) h)
            have HUN := Lib.hid (fun h => ofTo_unseen (E := E) (a := a) (c := c) (b := cjN E c a) (by rw [HTL.out]; exact hcj) h)
            have HNEW := Lib.hid (HG.out.of_new (a := a) (b := cjN E c a) (by rw [HN.out]; exact hlt) (by rw [HN.out]; exact hcj) HF.out (conjB_iff.2 ⟨c, by rw [HN.out]; exact hcl, rfl⟩))
            have hsl := seenTo_len (E := E) a c
            have HL7 := Lib.hid (show (toI (seenTo E a c)).length < 1000000 by rw [toI_length]; omega)
            have hco := hm5.o.cellN (j := cjN E c a) (by rw [HTL.out]) (by rw [HTL.out]; exact hcj)
            clear hm5 ho5 hb5 HCJ
            obtain ⟨gO1, hgO1⟩ : ∃ x, x = gO := ⟨_, rfl⟩
            by_cases hs : cjN E c a ∈ seenTo E a c
            · rw [HSN.out hs] at hco
              have HCO := Lib.hid (fun w' (hb : Below wr.heap.size wr w') => (hb.cell (p := ⟨gO, cjN E c a, none⟩) (World.ownsRow.lt HM5.out.o gO rfl).2).trans hco)
              have HE1 := Lib.hid (HSA.out hs)
              have HE2 := Lib.hid (show seenTo E a (c + 1) = seenTo E a c by rw [HSS.out, if_pos hs])
              have hr0 : ¬ (((repsN E a).length : Nat) : Int) < 0 := by omega
              clear hco hs hgO1
              go_wp2_with (first
                | (go_at_call 56; refine (T1.out _ HM5.out.gt).mono ?_; rintro e w6 ⟨rfl, hb6⟩; have HB6 := Lib.hid hb6; clear hb6; clear T1)
                | (go_at_call 57; refine (I1.out _ (HM5.out.below HB6.out).gt).mono ?_; rintro e w7 ⟨rfl, hb7⟩; have HB7 := Lib.hid (HB6.out.trans (hb7.mono HB6.out.size)); clear hb7; clear I1)
                | (go_at_call 56; refine (T2.out _ (HM5.out.below HB7.out).gt).mono ?_; rintro e w8 ⟨rfl, hb8⟩; have HB8 := Lib.hid (HB7.out.trans (hb8.mono HB7.out.size)); have HM8 := Lib.hid (HM5.out.below HB8.out); have hc8O := HM8.out.box.at (i := 4) rfl; have hc8C := HM8.out.box.at (i := 3) rfl; have hc8X := HCO.out w8 HB8.out; have h8s := HB8.out.size; clear hb8; clear T2))
              go_roundw
              case rel => exact ⟨c + 1, hcl, by go_num, by rw [HE1.out]; exact HM8.out, by rw [HE2.out]; exact HO5.out.below HB8.out, sm_below HB5.out HB8.out, Nat.le_trans hle5 HB8.out.size⟩
              case measure => simp [intOf]; omega
            · rw [HUN.out hs] at hco
              have hneg := HNEW.out
              have HCO := Lib.hid (fun w' (hb : Below wr.heap.size wr w') => (hb.cell (p := ⟨gO, cjN E c a, none⟩) (World.ownsRow.lt HM5.out.o gO rfl).2).trans hco)
              have HE2 := Lib.hid (show toI (seenTo E a (c + 1)) = toI (seenTo E a c) ++ [((cjN E c a : Nat) : Int)] by rw [HSS.out, if_neg hs, toI_append]; rfl)
              obtain ⟨y, hy⟩ : ∃ y, cjN E c a = y := ⟨_, rfl⟩
              rw [hy] at hcj T2 HSU HCO HE2 hneg
              obtain ⟨o2, ho2⟩ : ∃ o2, ofN E a y = o2 := ⟨_, rfl⟩
              rw [ho2] at HCO hneg
              clear hco hs hy ho2 hgO1 HSN HUN HNEW HSA HSS
              go_upto_region 11 with (first
                | (go_at_call 56; refine (T1.out _ HM5.out.gt).mono ?_; rintro e w6 ⟨rfl, hb6⟩; have HB6 := Lib.hid hb6; clear hb6; clear T1)
                | (go_at_call 57; refine (I1.out _ (HM5.out.below HB6.out).gt).mono ?_; rintro e w7 ⟨rfl, hb7⟩; have HB7 := Lib.hid (HB6.out.trans (hb7.mono HB6.out.size)); clear hb7; clear I1)
                | (go_at_call 56; refine (T2.out _ (HM5.out.below HB7.out).gt).mono ?_; rintro e w8 ⟨rfl, hb8⟩; have HB8 := Lib.hid (HB7.out.trans (hb8.mono HB7.out.size)); have HM8 := Lib.hid (HM5.out.below HB8.out); have hc8O := HM8.out.box.at (i := 4) rfl; have hc8C := HM8.out.box.at (i := 3) rfl; have hc8X := HCO.out w8 HB8.out; have h8s := HB8.out.size; clear hb8; clear T2))
              have hfr : ∀ j, w8.frozen? ⟨gO, j, none⟩ = false := fun j => HM8.out.o.free j (by rw [HTL.out])
              have HPUT := Lib.hid (show SrI d E w.heap.size bg S (w8.drew.setCell ⟨gO, y, none⟩ (.int .i64 ((repsN E a).length : Nat))) (.slice (some ⟨gE, 0, none⟩) n cE) bM (.slice aC nC cC) (.slice (some ⟨gO, 0, none⟩) n cO) (.slice none 0 0) (clsL E a) (ofTo E a (c + 1)) [] 0 from by
                have h0 := HM8.out.below ((Below.refl _ _).drew)
                have h1 : SrI d E w.heap.size bg S w8.drew (.slice (some ⟨gE, 0, none⟩) n cE) bM (.slice aC nC cC) (.slice (some ⟨gO, 0, none⟩) (ofTo E a c).length cO) (.slice none 0 0) (clsL E a) (ofTo E a c) [] 0 := by rw [HTL.out]; exact h0
                have h2 := h1.put y ((repsN E a).length : Int)
                rw [HSU.out, HTL.out] at h2
                exact h2)
              have HOP := Lib.hid (show OwnI 3 we.heap.size (w8.drew.setCell ⟨gO, y, none⟩ (.int .i64 ((repsN E a).length : Nat))) u3 (toI (seenTo E a c)) from
                own_sm' ((HO5.out.below HB8.out).drew) (Sm.put gO y _) (fun k hk => by have h1 := (World.ownsRow.lt HO5.out k hk).1; have h2 := (World.ownsRow.lt HM.out.o gO rfl).2; show k ≠ gO; omega))
              have HSB := Lib.hid (show Sm (fun k => k ≠ bg) w (w8.drew.setCell ⟨gO, y, none⟩ (.int .i64 ((repsN E a).length : Nat))) from sm_put (sm_below HB5.out (HB8.out.drew)) (World.ownsRow.lt HM.out.o gO rfl).1)
              go_still_tail 11, (by kernel_rfl)
              rw [HNC.out]
              obtain ⟨W, hW⟩ : ∃ W, w8.drew.setCell ⟨gO, y, none⟩ (.int .i64 ((repsN E a).length : Nat)) = W := ⟨_, rfl⟩
              have HWS := Lib.hid (show W.heap.size = w8.heap.size by rw [← hW]; simp [World.setCell])
              rw [hW] at HPUT HOP HSB
              go_upto_region 12 with (fail)
              clear hW hfr
              have hws : we.heap.size ≤ W.heap.size := by have := HWS.out; omega
              go_wp2_with (at_builtin; refine wpList_app1_at rfl _ _ rfl we.heap.size _ (toI (seenTo E a c)) ((y : Nat) : Int) rfl (HOP.out.alloc _) ⟨_, 0, none⟩ 1 rfl (cell_new1 _ _ _) HL7.out (by simp; omega) ?_; intro v9 w9 ho9 hg9 hl9; have HO9 := Lib.hid ho9; have HS9 := Lib.hid (sm_grown (sm_below HSB.out ((Below.refl _ _).alloc (Nat.le_refl _) (.cells #[.int .i64 (y : Nat)] 3))) hg9 (fun k hk => by have := (World.ownsRow.lt HOP.out k hk).1; have := HH1.out; have := HB.out.size; omega)); have HZ9 := Lib.hid (show we.heap.size ≤ w9.heap.size by have := hg9.size; simp at this; omega); have HM9 := Lib.hid ((HPUT.out.below ((Below.refl _ _).alloc (Nat.le_refl _) (.cells #[.int .i64 (y : Nat)] 3))).kept (P := fun k => some k ≠ u3.ownBlock) (Sm.of_grown hg9 fun _ hk => hk) (fun k hk e => by have := (World.ownsRow.lt HOP.out k e.symm).1; have := HB.out.size; omega) (fun k hk e => by have := (World.ownsRow.lt HOP.out k e.symm).1; have := (HM.out.c.own k hk).2; omega) (fun k hk e => by have := (World.ownsRow.lt HOP.out k e.symm).1; have := (World.ownsRow.lt HM.out.o k hk).2; omega) (fun k hk e => by cases hk) (fun k hk e => by have := (World.ownsRow.lt HOP.out k e.symm).1; have := ty_lt (HM.out.hS k hk).1; omega)); clear ho9 hg9 hl9)
              go_roundw
              case rel => exact ⟨c + 1, hcl, by go_num, HM9.out, by rw [HE2.out]; exact HO9.out, HS9.out, HZ9.out⟩
              case measure => simp [intOf]; omega
          · obtain rfl : c = n := by omega
            have hci : ¬ (c : Int) < (c : Int) := by omega
            obtain ⟨wf, rfl⟩ : ∃ x, x = wr := ⟨_, rfl⟩
            have HM6 := Lib.hid (show SrI d E w.heap.size bg S wf (.slice (some ⟨gE, 0, none⟩) c cE) bM (.slice aC nC cC) (.slice (some ⟨gO, 0, none⟩) c cO) (.slice none 0 0) (clsL E a) (ofL E (a + 1)) [] 0 from by
              have := HG.out.ofTo_end (a := a) (by rw [HN.out]; exact hlt) HF.out
              rw [HN.out] at this
              rw [← this]; exact hm5)
            have hperm := seen_perm (E := E) a (fun c' hc' => HG.out.cj_lt hc' (by rw [HN.out]; exact hlt))
            rw [HN.out] at hperm
            have hposl : 0 < (toI (seenTo E a c)).length := by
              have h0 := HG.out.cls_head (a := a) (by rw [HN.out]; exact hlt) HF.out
              have h1 := (List.getElem?_eq_some_iff.1 h0).1
              rw [toI_length, ← hperm.length_eq]; exact h1
            have HSRT := Lib.hid (show sortL (toI (seenTo E a c)) = toI (clsN E a) from sortL_eq (hperm.map _) (by
              unfold toI
              rw [List.pairwise_map]
              exact (clsN_sorted a).imp fun {x y} h => by omega))
            have hsl := seenTo_len (E := E) a c
            have hll : (toI (seenTo E a c)).length ≤ 24 := by rw [toI_length]; omega
            have HLL := Lib.hid (show (clsN E a).length ≤ 24 by rw [hperm.length_eq]; omega)
            obtain ⟨gl, cl, e3, hgl1, hgl2⟩ := ho5.block hposl
            have hsrt := sortI_any (by rw [e3] at ho5; exact ho5) (by omega : (toI (seenTo E a c)).length ≤ 100000)
            rw [HSRT.out] at hsrt
            obtain ⟨ln, hln⟩ : ∃ ln, (toI (seenTo E a c)).length = ln := ⟨_, rfl⟩
            rw [hln] at hsrt e3
            subst e3
            have SO := Lib.hid hsrt
            have HLST := Lib.hid (clsL_first HF.out)
            have hgO := (World.ownsRow.lt HM.out.o gO rfl)
            have hws := HB.out.size
            have HNEB := Lib.hid (show ∀ k, k < we.heap.size → some k ≠ some gl from fun k hk e => by cases e; omega)
            clear hm5 ho5 hb5 hperm hposl hsl hll hsrt hln
            go_wp2_with (first
              | (go_at_call 31; refine SO.out.mono ?_; rintro e w7 ⟨rfl, ho7, hg7⟩; have HO7 := Lib.hid ho7; have HM7 := Lib.hid (HM6.out.kept (P := fun k => some k ≠ some gl) (Sm.of_grown hg7 fun _ hk => hk) (fun k hk => HNEB.out k (by omega)) (fun k hk => HNEB.out k (HM.out.c.own k hk).2) (fun k hk => HNEB.out k (World.ownsRow.lt HM.out.o k hk).2) (fun k hk e => (by cases hk)) (fun k hk => HNEB.out k (ty_lt (HM.out.hS k hk).1))); have HS7 := Lib.hid (sm_grown HB5.out hg7 (fun k hk => (by cases hk; omega))); have hc7C := HM7.out.box.at (i := 3) rfl; have h7s := HS7.out.size; have hg7s := hg7.size; have HJ := Lib.hid (show ∀ k, (S k ∨ (Value.slice (some ⟨gl, 0, none⟩) ln cl).ownBlock = some k) → typeAt w7 k = some 3 ∧ (Value.slice none 0 0).ownBlock ≠ some k ∧ (Value.slice (some ⟨gO, 0, none⟩) c cO).ownBlock ≠ some k ∧ w.heap.size ≤ k from fun k hk => (by
                  rcases hk with hk | hk
                  · have := HM7.out.hS k hk; exact ⟨this.1, this.2.1, this.2.2, HM.out.sH k hk⟩
                  · obtain rfl : gl = k := (by simpa [Value.ownBlock] using hk)
                    exact ⟨own_ty ho7 rfl, fun e => (by cases e), fun e => (by have e' : gO = gl := (by simpa [Value.ownBlock] using e); omega), (by omega)⟩)); have HFR := Lib.hid (show Fz (fun k => S k ∨ (Value.slice (some ⟨gl, 0, none⟩) ln cl).ownBlock = some k) w7 (.slice (some ⟨gl, 0, none⟩) ln cl) (toI (clsN E a)) from OwnI.fz ho7 (by rw [toI_length]; have := HLL.out; omega) fun k hk => .inr hk); clear ho7 hg7)
              | (at_builtin; refine wpList_appF rfl _ _ rfl (fun k => S k ∨ (Value.slice (some ⟨gl, 0, none⟩) ln cl).ownBlock = some k) w.heap.size w7.heap.size (.slice aC nC cC) (.slice (some ⟨gl, 0, none⟩) ln cl) (clsL E a) (clsN E a) rfl ((HM7.out.c.mono fun k hk => .inl hk).alloc _) (HFR.out.kept (Sm.of_below ((Below.refl _ _).alloc (Nat.le_refl _) _))) rfl (Held.new _ _ [_]) (fun k hk e => by have e1 := (HJ.out k hk).1; rw [HM7.out.c.ty e] at e1; exact absurd e1 (by decide)) (by rw [HCL.out]; have := HRL.out; omega) (by simp; omega) ?_; intro v8 w8 hr8 hg8 ho8; have HR8 := Lib.hid hr8; have HG8 := Lib.hid hg8; have HH8 := Lib.hid ((HM7.out.box.alloc (.cells #[.slice (some ⟨gl, 0, none⟩) ln cl] 28)).grown hg8 (fun e => by have := (HM7.out.c.own bg e.symm).1; omega)); have HS8 := Lib.hid (sm_grown (sm_below HS7.out ((Below.refl _ _).alloc (Nat.le_refl _) (.cells #[.slice (some ⟨gl, 0, none⟩) ln cl] 28))) hg8 (fun k hk => (HM7.out.c.own k hk).1)); obtain ⟨a8, n8, c8, rfl⟩ := hr8.nform; clear hr8 hg8 ho8)
              | ((with_reducible refine is_store 22 ?_); refine wpl_store_one size_rows (by rfl) _ _ (by rfl) bg 3 (by rfl) (by rfl) (by rfl) (by rfl) (by simp) HH8.out ?_; intro w9 e9; have HM9 := Lib.hid (show SrI d E w.heap.size bg (fun k => S k ∨ (Value.slice (some ⟨gl, 0, none⟩) ln cl).ownBlock = some k) w9 (.slice (some ⟨gE, 0, none⟩) c cE) bM (.slice a8 n8 c8) (.slice (some ⟨gO, 0, none⟩) c cO) (.slice none 0 0) (clsL E a ++ [clsN E a]) (ofL E (a + 1)) [] 0 from (by rw [e9]; exact HM7.out.classed ((Below.refl _ _).alloc (Nat.le_refl _) _) (fun k hk => ⟨by rw [ty_block (((Below.refl w7.heap.size w7).alloc (Nat.le_refl _) _).block k (ty_lt (HJ.out k hk).1))]; exact (HJ.out k hk).1, (HJ.out k hk).2.1, (HJ.out k hk).2.2.1⟩) (fun k hk => (HJ.out k hk).2.2.2) HR8.out HG8.out)); have HS9 := Lib.hid (show Sm (fun k => k ≠ bg) w w9 by rw [e9]; exact sm_set HS8.out); clear e9))
            go_roundw
            case rel => exact ⟨a + 1, _, _, hlt, by go_num, by rw [HLST.out]; exact HM9.out, HS9.out⟩
            case measure => simp [intOf]; omega
    · obtain rfl : a = n := by omega
      have hai : ¬ (a : Int) < (a : Int) := by omega
      obtain ⟨we, rfl⟩ : ∃ x, x = wr := ⟨_, rfl⟩
      have HCE := Lib.hid (show clsL E a = classesN E from by have := clsL_end (E := E); rw [HN.out] at this; exact this)
      have HOE := Lib.hid (show ofL E a = ofL E E.length by rw [HN.out])
      have HRN := Lib.hid (show (repsN E a) = repsN E E.length by rw [HN.out])
      have hml := reps_len (E := E) a
      obtain ⟨m, hmm⟩ : ∃ m, (repsN E a).length = m := ⟨_, rfl⟩
      have HMM := Lib.hid hmm
      rw [hmm] at hml
      have HCL := Lib.hid ((clsL_length (E := E) a).trans hmm)
      have hmpos : 0 < m := by
        have h0 : (0 : Nat) ∈ repsN E a := reps_mem.2 ⟨hpos, first_iff.2 fun b hb => by omega⟩
        rw [← hmm]; exact List.length_pos_of_mem h0
      obtain ⟨gC, cC, u0, e0, hgC, hgCs, -⟩ := hm.c.at 0 (by rw [HCL.out]; exact hmpos)
      rw [HCL.out] at e0
      subst e0
      have hc3 := hm.box.at (i := 3) rfl
      have HM0 := Lib.hid (show SrI d E w.heap.size bg S we (.slice (some ⟨gE, 0, none⟩) a cE) bM (.slice (some ⟨gC, 0, none⟩) m cC) (.slice (some ⟨gO, 0, none⟩) a cO) (.slice none 0 0) (clsL E a) (ofL E a) ((backC E).take 0) 0 from hm)
      clear hm hb hmm
      go_wp2
      go_loopw [93] (fun ix wr => ∃ (k : Nat) (vB : Value), k ≤ m ∧ ix = .int .i64 k ∧ SrI d E w.heap.size bg S wr (.slice (some ⟨gE, 0, none⟩) a cE) bM (.slice (some ⟨gC, 0, none⟩) m cC) (.slice (some ⟨gO, 0, none⟩) a cO) vB (clsL E a) (ofL E a) ((backC E).take k) 0 ∧ Sm (fun k => k ≠ bg) w wr) (fun ix _ => m - (intOf ix).toNat)
      case atStart => exact ⟨0, _, Nat.zero_le _, rfl, HM0.out, HB.out⟩
      case round =>
        obtain ⟨k, vB, hk, rfl, hm5, hb5⟩ := hrel
        have HM5 := Lib.hid hm5
        have HB5 := Lib.hid hb5
        have hle5 := hb5.size
        by_cases hkl : k < m
        · have hki : (k : Int) < (m : Int) := by omega
          obtain ⟨g1, c1', u, e1, _, _, hcu, hu⟩ := hm5.c.at k (by rw [HCL.out]; exact hkl)
          obtain rfl : gC = g1 := by have := (Value.slice.inj e1).1; simpa using this
          have hrk : (repsN E a)[k]? = some ((repsN E a)[k]'(by rw [HMM.out]; exact hkl)) := List.getElem?_eq_getElem _
          have hcl : (clsL E a)[k]'(by rw [HCL.out]; exact hkl) = clsN E ((repsN E a)[k]'(by rw [HMM.out]; exact hkl)) := by simp [clsL]
          have hrm := reps_mem.1 (List.mem_of_getElem? hrk)
          obtain ⟨r, hr⟩ : ∃ r, (repsN E a)[k]'(by rw [HMM.out]; exact hkl) = r := ⟨_, rfl⟩
          rw [hr] at hcl hrm hrk
          rw [hcl] at hu
          have hhd := HG.out.cls_head (a := r) (by rw [HN.out]; exact hrm.1) hrm.2
          obtain ⟨hl0, he0⟩ := List.getElem?_eq_some_iff.1 hhd
          obtain ⟨au, cu, rfl, -, -, hcells⟩ := hu
          obtain ⟨b, off, rfl, -, hbs, hcell⟩ := hcells (by intro e; have := congrArg List.length e; rw [toI_length] at this; simp at this; rw [this] at hl0; simp at hl0)
          have hcr := hcell 0 (by rw [toI_length]; exact hl0)
          rw [toI_getElem, he0, Nat.add_zero] at hcr
          rw [toI_length] at hcu
          have hln0 := hl0
          obtain ⟨ln, hln⟩ : ∃ ln, (clsN E r).length = ln := ⟨_, rfl⟩
          rw [hln] at hcu hln0
          have HTK := Lib.hid (backC_take (E := E) (k := k) (r := r) (by rw [← HRN.out]; exact hrk))
          have hiv := (HG.out.inv_spec (a := r) (by rw [HN.out]; exact hrm.1)).1
          rw [HN.out] at hiv
          have hcf := hm5.o.cellN (j := invN E r) (by rw [HOL.out]) (by rw [HOL.out]; exact hiv)
          rw [ofL_at, ← HN.out, HG.out.clsOf_eq (by rw [HN.out]; exact hiv)] at hcf
          have I1 := Lib.hid (fun w' ht => IV.out r w' ht hrm.1)
          obtain ⟨iv, hive⟩ : ∃ iv, invN E r = iv := ⟨_, rfl⟩
          rw [hive] at hcf HTK I1 hiv
          obtain ⟨z, hz⟩ : ∃ z, clsOf E iv = z := ⟨_, rfl⟩
          rw [hz] at hcf HTK
          obtain ⟨aB, nB, cB, rfl⟩ := own_form hm5.b
          have hc4 := hm5.box.at (i := 4) rfl
          have hc5 := hm5.box.at (i := 5) rfl
          have hivi : (iv : Int) < (a : Int) := by omega
          have hiv0 : (0 : Int) ≤ (iv : Int) := by omega
          have hln1 : (0 : Int) < (ln : Int) := by omega
          have HK := Lib.hid (fun (w' : World) (hb : Below wr.heap.size wr w') => show w'.cell? ⟨bg, 4, none⟩ = some (.slice (some ⟨gO, 0, none⟩) a cO) ∧ w'.cell? ⟨b, off, none⟩ = some (.int .i64 (r : Nat)) ∧ w'.cell? ⟨gO, iv, none⟩ = some (.int .i64 (z : Nat)) from
            ⟨(hb.cell (p := ⟨bg, 4, none⟩) HM5.out.box.lt).trans hc4, (hb.cell (p := ⟨b, off, none⟩) hbs).trans hcr, (hb.cell (p := ⟨gO, iv, none⟩) (World.ownsRow.lt HM5.out.o gO rfl).2).trans hcf⟩)
          have HL7 := Lib.hid (show (toI ((backC E).take k)).length < 1000000 by rw [toI_length, List.length_take]; omega)
          have HNEX := Lib.hid (show some bg ≠ (Value.slice aB nB cB).ownBlock from fun e => by have := (World.ownsRow.lt HM5.out.b bg e.symm).1; omega)
          clear hm5 hb5 hrk hcl hrm hr hhd hl0 he0 hcells hcell hln hive hz e1
          go_upto_region 20 with (fail)
          go_region_law (first
            | (refine step_app1_at (by rfl) (.tmp 101) (.tmp 113) (by rfl) w.heap.size (.slice aB nB cB) (toI ((backC E).take k)) ((z : Nat) : Int) (by rfl) ((HM5.out.below HB6.out).b.alloc _) ⟨w6.heap.size, 0, none⟩ 1 (by rfl) (cell_new1 _ _ _) HL7.out (by have := HB6.out.size; simp; omega) ?_; intro v9 w9 ho9 hg9 hl9; have HO9 := Lib.hid ho9; have HG9 := Lib.hid hg9; have HL9 := Lib.hid hl9; have HM6 := Lib.hid (HM5.out.below HB6.out); have HH9 := Lib.hid ((HM6.out.box.alloc (.cells #[.int .i64 (z : Nat)] 3)).grown hg9 HNEX.out); have hf9 := HH9.out.free 5; have hc9 := HH9.out.at (i := 5) rfl; obtain ⟨a9, n9, c9, rfl⟩ := own_form ho9; clear ho9 hg9 hl9)
            | (refine step_call (by rfl) 57 #[.pointer (some ⟨bg, 0, none⟩), .int .i64 (r : Nat)] ?hr (I1.out _ (HM5.out.below (Below.refl _ _).drew).gt) ?_; (case hr => go_simp); rintro e w6 ⟨rfl, hb6⟩; refine ⟨_, rfl, ?_⟩; have HB6 := Lib.hid (show Below wr.heap.size wr w6 from ((Below.refl _ _).drew).trans hb6); have hc65 := (HM5.out.below HB6.out).box.at (i := 5) rfl; have hc64 := (HK.out _ HB6.out).1; have hc6z := (HK.out _ HB6.out).2.2; have hca5 : ∀ o, (w6.alloc o).cell? ⟨bg, 5, none⟩ = some (.slice aB nB cB) := (fun o => (HM5.out.below (HB6.out.alloc HB6.out.size o)).box.at (i := 5) rfl); clear hb6))
          all_goals
            have HMZ := Lib.hid (show SrI d E w.heap.size bg S (w9.setCell ⟨bg, 5, none⟩ (.slice a9 n9 c9)) (.slice (some ⟨gE, 0, none⟩) a cE) bM (.slice (some ⟨gC, 0, none⟩) m cC) (.slice (some ⟨gO, 0, none⟩) a cO) (.slice a9 n9 c9) (clsL E a) (ofL E a) ((backC E).take (k + 1)) 0 from by
              rw [HTK.out]
              exact HM6.out.backed ((Below.refl _ _).alloc (Nat.le_refl _) _) (by rw [toI_append]; exact HO9.out) HG9.out HL9.out)
            have HSZ := Lib.hid (show Sm (fun k => k ≠ bg) w (w9.setCell ⟨bg, 5, none⟩ (.slice a9 n9 c9)) from sm_set (sm_grown (sm_below (sm_below HB5.out HB6.out) ((Below.refl _ _).alloc (Nat.le_refl _) _)) HG9.out (fun j hj => (World.ownsRow.lt HM5.out.b j hj).1)))
            clear HG9 HL9 HO9 HH9 hf9 hc9
            go_wp2
            go_roundw
            case rel => exact ⟨k + 1, _, hkl, by go_num, HMZ.out, HSZ.out⟩
            case measure => simp [intOf]; omega
        · obtain rfl : k = m := by omega
          have hki : ¬ (k : Int) < (k : Int) := by omega
          have HBK := Lib.hid (show (backC E).take k = backC E from List.take_of_length_le (by rw [backC_length, ← HRN.out, HMM.out]; omega))
          clear hm5 hb5
          go_wp2
          go_end0
          have h0 := HM5.out
          rw [HBK.out, HCE.out, HOE.out] at h0
          exact ⟨rfl, S, _, _, vB, h0, HB5.out⟩
end Go.Proofs.Ytdackakjcnnofaa
