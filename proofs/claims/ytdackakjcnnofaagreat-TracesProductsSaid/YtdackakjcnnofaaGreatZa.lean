/- TracesTables answers true. -/
import Derived.Test.YtdackakjcnnofaaGreatB4
import Derived.Test.YtdackakjcnnofaaGreatZt
import Derived.Test.YtdackakjcnnofaaGreatB5
namespace Go.Proofs.YtdackakjcnnofaaGreat
open Go.RowKit
attribute [local go_sem] Oper.semAt_some

theorem RowsF.toArgs {S : Nat → Prop} {B : Nat} {w : World} {v : Value} {ls : List (List Nat)} (h : RowsF S B w v ls) (hl : ls.length ≤ 1000000) : Args w v (ls.map toI) := by
  by_cases hne : ls = []
  · subst hne
    obtain ⟨vs, ho, -⟩ := h
    rcases ho.2 with ⟨rfl, -⟩ | ⟨g, cap, cur, rfl, -, hb, -⟩
    · exact ⟨none, 0, rfl, by simp, by simp, fun h => absurd rfl h⟩
    · exact ⟨_, cap, rfl, by simp, by simp, fun h => absurd rfl h⟩
  · have h0 : 0 < ls.length := List.length_pos_iff.2 hne
    obtain ⟨vs, ho, hr⟩ := id h
    have hvl : vs.length = ls.length := by have := ho.1; omega
    rcases ho.2 with ⟨_, hn⟩ | ⟨g, cap, cur, rfl, hB, hb, hc, -⟩
    · omega
    · refine ⟨some ⟨g, 0, none⟩, cap, by rw [List.length_map], by rw [List.length_map]; omega, by rw [List.length_map]; exact hc, fun _ => ⟨g, 0, rfl, (Array.getElem?_eq_some_iff.1 hb).1, fun i hi => ?_⟩⟩
      rw [List.length_map] at hi
      have hvi : vs[i]? = some (vs[i]'(by omega)) := List.getElem?_eq_getElem (by omega)
      refine ⟨vs[i]'(by omega), by rw [Nat.zero_add, World.ownsRow.cellAt ho i (by omega), hvi], ?_⟩
      rw [List.getElem_map]
      exact (hr i _ _ hvi (List.getElem?_eq_getElem hi)).ints
/-- What every law needs of a group: its prime, its table, the reference's table. -/
structure GFacts (E : List (List Nat)) (d : Nat) : Prop where
  q1 : 0 < primeN E d
  q2 : primeN E d < 62
  qn : E.length < primeN E d
  ok : okG E d = true
  ref : (tabRE E d).map toI = tabG E d
  few : (tabG E d).length ≤ 6
theorem Grp.facts {E : List (List Nat)} {d : Nat} (h : Grp d E) (h1 : 0 < d) (hd : d ≤ 5) (h24 : E.length ≤ 24) : GFacts E d := by
  have hp := h.prime_spec hd h24
  obtain ⟨x, hx, hok, ht, -⟩ := h.tab h1 hd h24
  have hs := shp_all x hx
  refine ⟨by omega, hp.2.1, by omega, hok, h.refTab h1 hd h24, ?_⟩
  rw [ht]
  unfold shpOk at hs
  simp only [Bool.and_eq_true, beq_iff_eq, decide_eq_true_eq] at hs
  omega
set_option maxRecDepth 100000 in
set_option maxHeartbeats 4000000 in
theorem tables_err (v : Value) (L : List (List Int)) (w : World) (h : Args w v L) (k : Int) (hk : k ≠ 0)
    (hT : ∀ u w', Args w' u (tabA L) → Calls Tryz.prog 11 #[u] w' fun e w2 => e = .returned (.tuple #[.slice none 0 0, .int .i64 k]) ∧ Below w'.heap.size w' w2)
    (hM : MadeQ v L k) : Calls Tryz.prog 3 #[v] w fun e w' => e = .returned (.bool true) ∧ Below w.heap.size w w' := by
  have TA := Lib.hid (fun w' (hb : Below w.heap.size w w') => table_any v L w' (h.below hb))
  have PT := Lib.hid hT
  have MD := Lib.hid (fun w' (hb : Below w.heap.size w w') => hM w' (h.below hb))
  have AW := Lib.hid awake_any
  have HB := Lib.hid (Below.refl w.heap.size w)
  have HTL := Lib.hid (show (tabA L).length ≤ 1000000 by have := tabA_len L; omega)
  have hkk : (k == k) = true := by simp
  have hkb : (k != 0) = true := by simpa using hk
  clear h hT hM
  go_enter Tryz.func3, Tryz.ntmps3
  go_wp2_with (first
    | (go_at_call 12; refine (TA.out _ HB.out).mono ?_; rintro e wt ⟨u, S, rfl, hg, hb⟩; have HT := Lib.hid (hg.1.args HTL.out); have HB := Lib.hid (HB.out.trans (hb.mono HB.out.size)); clear hg hb)
    | (go_at_call 11; refine (PT.out _ _ HT.out).mono ?_; rintro e we ⟨rfl, hb⟩; have HB := Lib.hid (HB.out.trans (hb.mono HB.out.size)); clear hb)
    | (go_at_call 13; refine (MD.out _ HB.out).mono ?_; rintro e wm ⟨a1, n1, c1, a2, n2, c2, a3, n3, c3, a4, n4, c4, a5, n5, c5, q, rfl, hb⟩; have HB := Lib.hid (HB.out.trans (hb.mono HB.out.size)); clear hb)
    | ((with_reducible refine is_store 29 ?_); refine wpl_store_all infoRG (by rfl) _ _ (by rfl) wm.heap.size [.slice a1 n1 c1, .slice a2 n2 c2, .slice a3 n3 c3, .slice a4 n4 c4, .slice a5 n5 c5, .int .i64 q] z6 (by rfl) (by rfl) (by simp [Value.oneCell']) (by rfl) (by rfl) (Held.made (l := z6) rfl) ?_; intro ws hh hs hz; have hb : Below wm.heap.size wm ws := (hs.below ((Below.refl _ _).alloc (Nat.le_refl _) _) (Nat.le_refl _) (by simp)); have HB := Lib.hid (HB.out.trans (hb.mono HB.out.size)); clear hh hs hz hb)
    | (go_at_call 14; refine (AW.out _).mono ?_; rintro e wa ⟨rfl, hb⟩; have HB := Lib.hid (HB.out.trans (hb.mono HB.out.size)); clear hb))
  go_ret
  exact ⟨rfl, HB.out⟩
set_option maxRecDepth 100000 in
set_option maxHeartbeats 4000000 in
theorem tables_ok {E : List (List Nat)} {d : Nat} (v : Value) (L : List (List Int)) (w : World) (h : Args w v L) (T : List (List Int))
    (hT : ∀ u w', Args w' u (tabA L) → Calls Tryz.prog 11 #[u] w' fun e w2 => ∃ x, e = .returned (.tuple #[x, .int .i64 0]) ∧ Args w2 x T ∧ Below w'.heap.size w' w2)
    (hM2 : ∀ w', Args w' v L → Calls Tryz.prog 13 #[v] w' fun e w2 => ∃ gv, e = .returned (.tuple #[gv, .int .i64 0]) ∧ RGI d E w2 gv ∧ Below w'.heap.size w' w2)
    (hRT : ∀ gv w', RGI d E w' gv → Calls Tryz.prog 16 #[gv] w' fun e w2 => ∃ x, e = .returned x ∧ Args w2 x T ∧ Below w'.heap.size w' w2) : Calls Tryz.prog 3 #[v] w fun e w' => e = .returned (.bool true) ∧ Below w.heap.size w w' := by
  have TA := Lib.hid (fun w' (hb : Below w.heap.size w w') => table_any v L w' (h.below hb))
  have PT := Lib.hid hT
  have MD := Lib.hid (fun w' (hb : Below w.heap.size w w') => hM2 w' (h.below hb))
  have RT := Lib.hid hRT
  have AW := Lib.hid awake_any
  have HB := Lib.hid (Below.refl w.heap.size w)
  have HTL := Lib.hid (show (tabA L).length ≤ 1000000 by have := tabA_len L; omega)
  clear h hT hM2 hRT
  go_enter Tryz.func3, Tryz.ntmps3
  go_wp2_with (first
    | (go_at_call 12; refine (TA.out _ HB.out).mono ?_; rintro e wt ⟨u, S, rfl, hg, hb⟩; have HT := Lib.hid (hg.1.args HTL.out); have HB := Lib.hid (HB.out.trans (hb.mono HB.out.size)); clear hg hb)
    | (go_at_call 11; refine (PT.out _ _ HT.out).mono ?_; rintro e we ⟨x1, rfl, h1, hb⟩; have HIX := Lib.hid h1; obtain ⟨ax1, cx1, rfl⟩ := h1.form; have HB := Lib.hid (HB.out.trans (hb.mono HB.out.size)); clear hb h1)
    | (go_at_call 13; refine (MD.out _ HB.out).mono ?_; rintro e wm ⟨gv, rfl, hr, hb⟩; obtain ⟨a1, n1, c1, a2, n2, c2, a3, n3, c3, a4, n4, c4, a5, n5, c5, rfl⟩ := hr.slices; have HR := Lib.hid hr; have HIX := Lib.hid (HIX.out.below hb); have HB := Lib.hid (HB.out.trans (hb.mono HB.out.size)); clear hb hr)
    | ((with_reducible refine is_store 29 ?_); refine wpl_store_all infoRG (by rfl) _ _ (by rfl) wm.heap.size [.slice a1 n1 c1, .slice a2 n2 c2, .slice a3 n3 c3, .slice a4 n4 c4, .slice a5 n5 c5, .int .i64 (primeN E d : Nat)] z6 (by rfl) (by rfl) (by simp [Value.oneCell']) (by rfl) (by rfl) (Held.made (l := z6) rfl) ?_; intro ws hh hs hz; have hb : Below wm.heap.size wm ws := (hs.below ((Below.refl _ _).alloc (Nat.le_refl _) _) (Nat.le_refl _) (by simp)); have HB := Lib.hid (HB.out.trans (hb.mono HB.out.size)); have HH := Lib.hid hh; have HR := Lib.hid (HR.out.below hb); have HIX := Lib.hid (HIX.out.below hb); clear hh hs hz hb)
    | ((with_reducible refine is_load 29 ?_); refine wpl_load_rg (by rfl) _ (by rfl) wm.heap.size [.slice a1 n1 c1, .slice a2 n2 c2, .slice a3 n3 c3, .slice a4 n4 c4, .slice a5 n5 c5, .int .i64 (primeN E d : Nat)] rfl (by rfl) HH.out ?_)
    | (go_at_call 16; refine (RT.out _ _ HR.out).mono ?_; rintro e wb ⟨x3, rfl, h3, hb⟩; have HIY := Lib.hid h3; obtain ⟨ax3, cx3, rfl⟩ := h3.form; have HIX := Lib.hid (HIX.out.below hb); have HB := Lib.hid (HB.out.trans (hb.mono HB.out.size)); clear hb h3)
    | (go_at_call 15; refine (sameA_any _ _ _ _ _ HIX.out HIY.out).mono ?_; rintro e wg ⟨rfl, hb⟩; have HD := Lib.hid (show decide (T = T) = true by simp); rw [HD.out]; have HB := Lib.hid (HB.out.trans (hb.mono HB.out.size)); clear hb)
    | (go_at_call 14; refine (AW.out _).mono ?_; rintro e wa ⟨rfl, hb⟩; have HB := Lib.hid (HB.out.trans (hb.mono HB.out.size)); clear hb))
  go_ret
  exact ⟨rfl, HB.out⟩
theorem tracesTables_true (v : Value) (L : List (List Int)) (w : World) (h : Args w v L) : Calls Tryz.prog 3 #[v] w fun e w' => e = .returned (.bool true) ∧ Below w.heap.size w w' := by
  rcases three L with hq | ⟨hq, ho⟩ | ⟨hq, E, hg⟩
  · exact tables_err v L w h 2 (by decide) (fun u w' ha => Table_no ha (by rw [genQ_tabA]; exact hq)) (madeQ_no hq)
  · have ht := tabA_eq (.inl hq)
    exact tables_err v L w h 6 (by decide) (fun u w' ha => by rw [ht] at ha; exact Table_over ha hq ho) (madeQ_over hq ho)
  · have ht := tabA_eq (.inl hq)
    have hp := genQ_perm hq
    have hgr := hg.grp fun q hq => by obtain ⟨p, hp1, rfl⟩ := List.mem_map.1 hq; exact hp.2.2.2.2.1 p hp1
    have h24 := hg.few
    have hf := hgr.facts hp.2.2.1 hp.2.2.2.1 h24
    have hlr : (tabRE E (L.headD []).length).length = (tabG E (L.headD []).length).length := by rw [← hf.ref, List.length_map]
    refine tables_ok (E := E) (d := (L.headD []).length) v L w h (tabG E (L.headD []).length) (fun u w' ha => ?_) (fun w' ha => made_yes ha hq hg) (fun gv w' hr => ?_)
    · rw [ht] at ha
      exact (Table_yes ha hq hg hf.ok).mono fun e w2 ⟨u, he, ho, hb⟩ => ⟨u, he, rows_args (ho.slr (by have := hf.few; omega)), hb⟩
    · refine (RTable_any gv w' hgr h24 hr hf.q1 hf.q2 (by show (tabRE E _).length ≤ 1000; have := hf.few; omega)).mono fun e w2 ⟨u, he, ho, hb⟩ => ⟨u, he, ?_, hb⟩
      have := RowsF.toArgs ho (by show (tabRE E _).length ≤ 1000000; have := hf.few; omega)
      rw [← hf.ref]
      exact this
end Go.Proofs.YtdackakjcnnofaaGreat
