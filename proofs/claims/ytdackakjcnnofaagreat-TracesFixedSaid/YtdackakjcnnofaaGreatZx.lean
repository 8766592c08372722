/- TracesFixed answers true. -/
import Derived.Test.YtdackakjcnnofaaGreatZw
import Derived.Test.YtdackakjcnnofaaGreatZu
namespace Go.Proofs.YtdackakjcnnofaaGreat
open Go.RowKit
attribute [local go_sem] Oper.semAt_some

set_option maxRecDepth 100000 in
set_option maxHeartbeats 4000000 in
theorem fixed_err (v : Value) (L : List (List Int)) (w : World) (h : Args w v L) (k : Int) (hk : k ≠ 0)
    (hF : ∀ u w', Args w' u (tabA L) → Calls Tryz.prog 35 #[u] w' fun e w2 => e = .returned (.tuple #[.slice none 0 0, .int .i64 k]) ∧ Below w'.heap.size w' w2)
    (hO : ∀ u w', Args w' u (tabA L) → Calls Tryz.prog 36 #[u] w' fun e w2 => e = .returned (.tuple #[.slice none 0 0, .int .i64 k]) ∧ Below w'.heap.size w' w2)
    (hM : MadeQ v L k) : Calls Tryz.prog 8 #[v] w fun e w' => e = .returned (.bool true) ∧ Below w.heap.size w w' := by
  have TA := Lib.hid (fun w' (hb : Below w.heap.size w w') => table_any v L w' (h.below hb))
  have PF := Lib.hid hF
  have PO := Lib.hid hO
  have MD := Lib.hid (fun w' (hb : Below w.heap.size w w') => hM w' (h.below hb))
  have AW := Lib.hid awake_any
  have HB := Lib.hid (Below.refl w.heap.size w)
  have HTL := Lib.hid (show (tabA L).length ≤ 1000000 by have := tabA_len L; omega)
  have hkk : (k == k) = true := by simp
  have hkb : (k != 0) = true := by simpa using hk
  clear h hF hO hM
  go_enter Tryz.func8, Tryz.ntmps8
  go_wp2_with (first
    | (go_at_call 12; refine (TA.out _ HB.out).mono ?_; rintro e wt ⟨u, S, rfl, hg, hb⟩; have HT := Lib.hid (hg.1.args HTL.out); have HB := Lib.hid (HB.out.trans (hb.mono HB.out.size)); clear hg hb)
    | (go_at_call 35; refine (PF.out _ _ HT.out).mono ?_; rintro e we ⟨rfl, hb⟩; have HB := Lib.hid (HB.out.trans (hb.mono HB.out.size)); clear hb)
    | (go_at_call 36; refine (PO.out _ _ HT.out).mono ?_; rintro e we ⟨rfl, hb⟩; have HB := Lib.hid (HB.out.trans (hb.mono HB.out.size)); clear hb)
    | (go_at_call 13; refine (MD.out _ HB.out).mono ?_; rintro e wm ⟨a1, n1, c1, a2, n2, c2, a3, n3, c3, a4, n4, c4, a5, n5, c5, q, rfl, hb⟩; have HB := Lib.hid (HB.out.trans (hb.mono HB.out.size)); clear hb)
    | ((with_reducible refine is_store 29 ?_); refine wpl_store_all infoRG (by rfl) _ _ (by rfl) wm.heap.size [.slice a1 n1 c1, .slice a2 n2 c2, .slice a3 n3 c3, .slice a4 n4 c4, .slice a5 n5 c5, .int .i64 q] z6 (by rfl) (by rfl) (by simp [Value.oneCell']) (by rfl) (by rfl) (Held.made (l := z6) rfl) ?_; intro ws hh hs hz; have hb : Below wm.heap.size wm ws := (hs.below ((Below.refl _ _).alloc (Nat.le_refl _) _) (Nat.le_refl _) (by simp)); have HB := Lib.hid (HB.out.trans (hb.mono HB.out.size)); clear hh hs hz hb)
    | (go_at_call 14; refine (AW.out _).mono ?_; rintro e wa ⟨rfl, hb⟩; have HB := Lib.hid (HB.out.trans (hb.mono HB.out.size)); clear hb))
  go_ret
  exact ⟨rfl, HB.out⟩
set_option maxRecDepth 100000 in
set_option maxHeartbeats 4000000 in
theorem fixed_ok {E : List (List Nat)} {d : Nat} (v : Value) (L : List (List Int)) (w : World) (h : Args w v L) (F : List Int) (R : List (List Nat)) (hFl : F.length ≤ 1000000) (hRl : R.length ≤ 1000000)
    (hF : ∀ u w', Args w' u (tabA L) → Calls Tryz.prog 35 #[u] w' fun e w2 => ∃ x, e = .returned (.tuple #[x, .int .i64 0]) ∧ OwnI 3 w'.heap.size w2 x F ∧ Below w'.heap.size w' w2)
    (hO : ∀ u w', Args w' u (tabA L) → Calls Tryz.prog 36 #[u] w' fun e w2 => ∃ x S H, e = .returned (.tuple #[x, .int .i64 0]) ∧ RowsF S H w2 x R ∧ Below w'.heap.size w' w2)
    (hM2 : ∀ w', Args w' v L → Calls Tryz.prog 13 #[v] w' fun e w2 => ∃ gv, e = .returned (.tuple #[gv, .int .i64 0]) ∧ RGI d E w2 gv ∧ Below w'.heap.size w' w2)
    (hRF : ∀ gv w', RGI d E w' gv → Calls Tryz.prog 37 #[gv] w' fun e w2 => ∃ x, e = .returned x ∧ OwnI 3 w'.heap.size w2 x F ∧ Below w'.heap.size w' w2)
    (hRO : ∀ gv w', RGI d E w' gv → Calls Tryz.prog 38 #[gv] w' fun e w2 => ∃ x S H, e = .returned x ∧ RowsF S H w2 x R ∧ Below w'.heap.size w' w2) : Calls Tryz.prog 8 #[v] w fun e w' => e = .returned (.bool true) ∧ Below w.heap.size w w' := by
  have TA := Lib.hid (fun w' (hb : Below w.heap.size w w') => table_any v L w' (h.below hb))
  have PF := Lib.hid hF
  have PO := Lib.hid hO
  have MD := Lib.hid (fun w' (hb : Below w.heap.size w w') => hM2 w' (h.below hb))
  have RF := Lib.hid hRF
  have RO := Lib.hid hRO
  have AW := Lib.hid awake_any
  have HB := Lib.hid (Below.refl w.heap.size w)
  have HTL := Lib.hid (show (tabA L).length ≤ 1000000 by have := tabA_len L; omega)
  have HFL := Lib.hid hFl
  have HRL := Lib.hid hRl
  clear h hF hO hM2 hRF hRO hFl hRl
  go_enter Tryz.func8, Tryz.ntmps8
  go_wp2_with (first
    | (go_at_call 12; refine (TA.out _ HB.out).mono ?_; rintro e wt ⟨u, S, rfl, hg, hb⟩; have HT := Lib.hid (hg.1.args HTL.out); have HB := Lib.hid (HB.out.trans (hb.mono HB.out.size)); try (have HIX := Lib.hid (HIX.out.below hb)); clear hg hb)
    | (go_at_call 35; refine (PF.out _ _ HT.out).mono ?_; rintro e we ⟨x1, rfl, h1, hb⟩; have HIX := Lib.hid (h1.ints (by have := HFL.out; omega)); obtain ⟨ax1, nx1, cx1, rfl⟩ := own_form h1; have HB := Lib.hid (HB.out.trans (hb.mono HB.out.size)); clear hb h1)
    | (go_at_call 36; refine (PO.out _ _ HT.out).mono ?_; rintro e we ⟨x2, S2, H2, rfl, h2, hb⟩; obtain ⟨ax2, cx2, rfl⟩ := h2.form; have HRX := Lib.hid h2; have HIX := Lib.hid (HIX.out.below hb); have HB := Lib.hid (HB.out.trans (hb.mono HB.out.size)); clear hb h2)
    | (go_at_call 13; refine (MD.out _ HB.out).mono ?_; rintro e wm ⟨gv, rfl, hr, hb⟩; obtain ⟨a1, n1, c1, a2, n2, c2, a3, n3, c3, a4, n4, c4, a5, n5, c5, rfl⟩ := hr.slices; have HR := Lib.hid hr; have HIX := Lib.hid (HIX.out.below hb); have HRX := Lib.hid (HRX.out.below hb); have HB := Lib.hid (HB.out.trans (hb.mono HB.out.size)); clear hb hr)
    | ((with_reducible refine is_store 29 ?_); refine wpl_store_all infoRG (by rfl) _ _ (by rfl) wm.heap.size [.slice a1 n1 c1, .slice a2 n2 c2, .slice a3 n3 c3, .slice a4 n4 c4, .slice a5 n5 c5, .int .i64 (primeN E d : Nat)] z6 (by rfl) (by rfl) (by simp [Value.oneCell']) (by rfl) (by rfl) (Held.made (l := z6) rfl) ?_; intro ws hh hs hz; have hb : Below wm.heap.size wm ws := (hs.below ((Below.refl _ _).alloc (Nat.le_refl _) _) (Nat.le_refl _) (by simp)); have HB := Lib.hid (HB.out.trans (hb.mono HB.out.size)); have HH := Lib.hid hh; have HR := Lib.hid (HR.out.below hb); have HIX := Lib.hid (HIX.out.below hb); have HRX := Lib.hid (HRX.out.below hb); clear hh hs hz hb)
    | ((with_reducible refine is_load 29 ?_); refine wpl_load_rg (by rfl) _ (by rfl) wm.heap.size [.slice a1 n1 c1, .slice a2 n2 c2, .slice a3 n3 c3, .slice a4 n4 c4, .slice a5 n5 c5, .int .i64 (primeN E d : Nat)] rfl (by rfl) HH.out ?_)
    | (go_at_call 37; refine (RF.out _ _ HR.out).mono ?_; rintro e wb ⟨x3, rfl, h3, hb⟩; have HIY := Lib.hid (h3.ints (by have := HFL.out; omega)); obtain ⟨ax3, nx3, cx3, rfl⟩ := own_form h3; have HIX := Lib.hid (HIX.out.below hb); have HRX := Lib.hid (HRX.out.below hb); have HH := Lib.hid (HH.out.below hb HH.out.lt); have HR := Lib.hid (HR.out.below hb); have HB := Lib.hid (HB.out.trans (hb.mono HB.out.size)); clear hb h3)
    | (go_at_call 28; refine (Equal_any _ _ _ _ _ HIX.out HIY.out).mono ?_; rintro e wf ⟨rfl, hb⟩; have HD := Lib.hid (show decide (F = F) = true by simp); rw [HD.out]; have HRX := Lib.hid (HRX.out.below hb); have HH := Lib.hid (HH.out.below hb HH.out.lt); have hc0 := HH.out.at (i := 0) rfl; have hc1 := HH.out.at (i := 1) rfl; have hc2 := HH.out.at (i := 2) rfl; have hc3 := HH.out.at (i := 3) rfl; have hc4 := HH.out.at (i := 4) rfl; have hc5 := HH.out.at (i := 5) rfl; have HR := Lib.hid (HR.out.below hb); have HB := Lib.hid (HB.out.trans (hb.mono HB.out.size)); clear hb)
    | (go_at_call 38; refine (RO.out _ _ HR.out).mono ?_; rintro e wb ⟨x4, S4, H4, rfl, h4, hb⟩; obtain ⟨ax4, cx4, rfl⟩ := h4.form; have HRY := Lib.hid h4; have HRX := Lib.hid (HRX.out.below hb); have HB := Lib.hid (HB.out.trans (hb.mono HB.out.size)); clear hb h4)
    | (go_at_call 15; refine (same_any _ _ _ _ _ HRX.out HRY.out HRL.out).mono ?_; rintro e wg ⟨rfl, hb⟩; have HD := Lib.hid (show decide (R = R) = true by simp); rw [HD.out]; have HB := Lib.hid (HB.out.trans (hb.mono HB.out.size)); clear hb)
    | (go_at_call 14; refine (AW.out _).mono ?_; rintro e wa ⟨rfl, hb⟩; have HB := Lib.hid (HB.out.trans (hb.mono HB.out.size)); clear hb))
  go_ret
  exact ⟨rfl, HB.out⟩
theorem tracesFixed_true (v : Value) (L : List (List Int)) (w : World) (h : Args w v L) : Calls Tryz.prog 8 #[v] w fun e w' => e = .returned (.bool true) ∧ Below w.heap.size w w' := by
  rcases three L with hq | ⟨hq, ho⟩ | ⟨hq, E, hg⟩
  · exact fixed_err v L w h 2 (by decide) (fun u w' ha => Fixed_no ha (by rw [genQ_tabA]; exact hq)) (fun u w' ha => Orbits_no ha (by rw [genQ_tabA]; exact hq)) (madeQ_no hq)
  · have ht := tabA_eq (.inl hq)
    exact fixed_err v L w h 6 (by decide) (fun u w' ha => by rw [ht] at ha; exact Fixed_over ha hq ho) (fun u w' ha => by rw [ht] at ha; exact Orbits_over ha hq ho) (madeQ_over hq ho)
  · have ht := tabA_eq (.inl hq)
    have hp := genQ_perm hq
    have hgr := hg.grp fun q hq => by obtain ⟨p, hp1, rfl⟩ := List.mem_map.1 hq; exact hp.2.2.2.2.1 p hp1
    have h24 := hg.few
    refine fixed_ok (E := E) (d := (L.headD []).length) v L w h (toI (fixedN E)) (orbitsN E (L.headD []).length) ?_ ?_ (fun u w' ha => ?_) (fun u w' ha => ?_) (fun w' ha => made_yes ha hq hg) (fun gv w' hr => RFixed_any gv w' hgr h24 hp.2.2.2.1 hr) (fun gv w' hr => ?_)
    · rw [toI_length, fixedN_length]
      have := reps_len (E := E) E.length
      omega
    · have := orbTo_len E (L.headD []).length (L.headD []).length
      rw [orbTo_end] at this
      have := hp.2.2.2.1
      omega
    · rw [ht] at ha
      exact Fixed_yes ha hq hg
    · rw [ht] at ha
      exact (Orbits_yes ha hq hg).mono fun e w2 ⟨x, S, he, hr, hb⟩ => ⟨x, _, _, he, hr.1, hb⟩
    · exact (ROrbits_any gv w' hgr h24 hp.2.2.2.1 hr).mono fun e w2 ⟨x, S, he, hr, hb⟩ => ⟨x, _, _, he, hr.1, hb⟩
end Go.Proofs.YtdackakjcnnofaaGreat
