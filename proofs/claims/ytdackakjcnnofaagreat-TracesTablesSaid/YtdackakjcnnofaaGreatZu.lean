/- TracesBouquets answers true. -/
import Derived.Test.YtdackakjcnnofaaGreatZs
import Derived.Test.YtdackakjcnnofaaGreatZr
import Derived.Test.YtdackakjcnnofaaGreatCb
namespace Go.Proofs.YtdackakjcnnofaaGreat
open Go.RowKit
attribute [local go_sem] Oper.semAt_some

/-- made, by its shape alone. -/
def MadeQ (v : Value) (L : List (List Int)) (m : Int) : Prop := ∀ w', Args w' v L → Calls Tryz.prog 13 #[v] w' fun e w2 => ∃ a1 n1 c1 a2 n2 c2 a3 n3 c3 a4 n4 c4 a5 n5 c5 q, e = .returned (.tuple #[.agg #[.slice a1 n1 c1, .slice a2 n2 c2, .slice a3 n3 c3, .slice a4 n4 c4, .slice a5 n5 c5, .int .i64 q], .int .i64 m]) ∧ Below w'.heap.size w' w2
theorem madeQ_no {v : Value} {L : List (List Int)} (hq : genQ L = false) : MadeQ v L 2 := fun _ ha => (made_no ha hq).mono fun _ _ ⟨he, hb⟩ => ⟨_, _, _, _, _, _, _, _, _, _, _, _, _, _, _, _, he, hb⟩
theorem madeQ_over {v : Value} {L : List (List Int)} (hq : genQ L = true) (ho : Over (L.headD []).length (L.map natP)) : MadeQ v L 6 := fun _ ha => (made_over ha hq ho).mono fun _ _ ⟨he, hb⟩ => ⟨_, _, _, _, _, _, _, _, _, _, _, _, _, _, _, _, he, hb⟩
theorem RGI.slices {d : Nat} {E : List (List Nat)} {w : World} {gv : Value} (h : RGI d E w gv) : ∃ a1 n1 c1 a2 n2 c2 a3 n3 c3 a4 n4 c4 a5 n5 c5, gv = .agg #[.slice a1 n1 c1, .slice a2 n2 c2, .slice a3 n3 c3, .slice a4 n4 c4, .slice a5 n5 c5, .int .i64 (primeN E d : Nat)] := by
  obtain ⟨vL, vT, vB, vC, vO, rfl, k1, k2, k3, k4, k5⟩ := h
  obtain ⟨aL, cL, rfl⟩ := k1.form
  obtain ⟨aT, cT, rfl⟩ := k2.form
  obtain ⟨aB, cB, rfl, -, -, -⟩ := k3
  obtain ⟨aC, cC, rfl⟩ := k4.form
  obtain ⟨aO, cO, rfl, -, -, -⟩ := k5
  exact ⟨_, _, _, _, _, _, _, _, _, _, _, _, _, _, _, rfl⟩
theorem madeQ_yes {v : Value} {L : List (List Int)} {E : List (List Nat)} (hq : genQ L = true) (hg : IsG (L.headD []).length (L.map natP) E) : MadeQ v L 0 := fun _ ha => (made_yes ha hq hg).mono fun _ _ ⟨gv, he, hr, hb⟩ => by
  obtain ⟨a1, n1, c1, a2, n2, c2, a3, n3, c3, a4, n4, c4, a5, n5, c5, rfl⟩ := hr.slices
  exact ⟨_, _, _, _, _, _, _, _, _, _, _, _, _, _, _, _, he, hb⟩
set_option maxRecDepth 100000 in
set_option maxHeartbeats 4000000 in
theorem bouq_err (v : Value) (L : List (List Int)) (w : World) (h : Args w v L) (c m k : Int) (hB : ∀ u w', Args w' u (tabA L) → Calls Tryz.prog 20 #[u, .int .i64 c] w' fun e w2 => e = .returned (.tuple #[.int .i64 0, .int .i64 k]) ∧ Below w'.heap.size w' w2)
    (hM : MadeQ v L m) (hk : ((c < 0 ∨ 8 < c) ∧ k = 2) ∨ (0 ≤ c ∧ c ≤ 8 ∧ k = m ∧ m ≠ 0)) : Calls Tryz.prog 5 #[v, .int .i64 c] w fun e w' => e = .returned (.bool true) ∧ Below w.heap.size w w' := by
  have TA := Lib.hid (fun w' (hb : Below w.heap.size w w') => table_any v L w' (h.below hb))
  have PB := Lib.hid hB
  have MD := Lib.hid (fun w' (hb : Below w.heap.size w w') => hM w' (h.below hb))
  have AW := Lib.hid awake_any
  have HB := Lib.hid (Below.refl w.heap.size w)
  have HTL := Lib.hid (show (tabA L).length ≤ 1000000 by have := tabA_len L; omega)
  have hkk : (k == k) = true := by simp
  clear h hB hM
  rcases hk with ⟨hc, rfl⟩ | ⟨h0, h8, rfl, hm⟩
  · by_cases hc0 : c < 0
    all_goals try have hc8 : 8 < c := by omega
    all_goals clear hc
    all_goals go_enter Tryz.func5, Tryz.ntmps5
    all_goals go_wp2_with (first
      | (go_at_call 12; refine (TA.out _ HB.out).mono ?_; rintro e wt ⟨u, S, rfl, hg, hb⟩; have HT := Lib.hid (hg.1.args HTL.out); have HB := Lib.hid (HB.out.trans (hb.mono HB.out.size)); clear hg hb)
      | (go_at_call 20; refine (PB.out _ _ HT.out).mono ?_; rintro e we ⟨rfl, hb⟩; have HB := Lib.hid (HB.out.trans (hb.mono HB.out.size)); clear hb)
      | (go_at_call 13; refine (MD.out _ HB.out).mono ?_; rintro e wm ⟨a1, n1, c1, a2, n2, c2, a3, n3, c3, a4, n4, c4, a5, n5, c5, q, rfl, hb⟩; have HB := Lib.hid (HB.out.trans (hb.mono HB.out.size)); clear hb)
      | ((with_reducible refine is_store 29 ?_); refine wpl_store_all infoRG (by rfl) _ _ (by rfl) wm.heap.size [.slice a1 n1 c1, .slice a2 n2 c2, .slice a3 n3 c3, .slice a4 n4 c4, .slice a5 n5 c5, .int .i64 q] z6 (by rfl) (by rfl) (by simp [Value.oneCell']) (by rfl) (by rfl) (Held.made (l := z6) rfl) ?_; intro ws hh hs hz; have hb : Below wm.heap.size wm ws := (hs.below ((Below.refl _ _).alloc (Nat.le_refl _) _) (Nat.le_refl _) (by simp)); have HB := Lib.hid (HB.out.trans (hb.mono HB.out.size)); clear hh hs hz hb)
      | (go_at_call 14; refine (AW.out _).mono ?_; rintro e wa ⟨rfl, hb⟩; have HB := Lib.hid (HB.out.trans (hb.mono HB.out.size)); clear hb))
    all_goals go_ret
    all_goals exact ⟨rfl, HB.out⟩
  · have a1 : ¬ c < 0 := by omega
    have a2 : ¬ 8 < c := by omega
    have a3 : decide (c < 0) = false := by simp; omega
    have a4 : decide (8 < c) = false := by simp; omega
    have hkb : (k != 0) = true := by simpa using hm
    clear h0 h8
    go_enter Tryz.func5, Tryz.ntmps5
    go_wp2_with (first
      | (go_at_call 12; refine (TA.out _ HB.out).mono ?_; rintro e wt ⟨u, S, rfl, hg, hb⟩; have HT := Lib.hid (hg.1.args HTL.out); have HB := Lib.hid (HB.out.trans (hb.mono HB.out.size)); clear hg hb)
      | (go_at_call 20; refine (PB.out _ _ HT.out).mono ?_; rintro e we ⟨rfl, hb⟩; have HB := Lib.hid (HB.out.trans (hb.mono HB.out.size)); clear hb)
      | (go_at_call 13; refine (MD.out _ HB.out).mono ?_; rintro e wm ⟨a1, n1, c1, a2, n2, c2, a3, n3, c3, a4, n4, c4, a5, n5, c5, q, rfl, hb⟩; have HB := Lib.hid (HB.out.trans (hb.mono HB.out.size)); clear hb)
      | ((with_reducible refine is_store 29 ?_); refine wpl_store_all infoRG (by rfl) _ _ (by rfl) wm.heap.size [.slice a1 n1 c1, .slice a2 n2 c2, .slice a3 n3 c3, .slice a4 n4 c4, .slice a5 n5 c5, .int .i64 q] z6 (by rfl) (by rfl) (by simp [Value.oneCell']) (by rfl) (by rfl) (Held.made (l := z6) rfl) ?_; intro ws hh hs hz; have hb : Below wm.heap.size wm ws := (hs.below ((Below.refl _ _).alloc (Nat.le_refl _) _) (Nat.le_refl _) (by simp)); have HB := Lib.hid (HB.out.trans (hb.mono HB.out.size)); clear hh hs hz hb)
      | (go_at_call 14; refine (AW.out _).mono ?_; rintro e wa ⟨rfl, hb⟩; have HB := Lib.hid (HB.out.trans (hb.mono HB.out.size)); clear hb))
    go_ret
    exact ⟨rfl, HB.out⟩
/-- A whole group is loaded. -/
theorem wpl_load_rg {ops : Array Oper} {rest : List Oper} {op : Oper} {a : Act} {w : World} {Q : Exit → Act → World → Prop} (hg : op.guard = none) (x : Operand) (ho : op.op = .load 29 x)
    (b : Nat) (l : List Value) (hl : l.length = 6) (hx : a.eval x = .pointer (some ⟨b, 0, none⟩)) (h0 : Held w b 29 l)
    (hK : wpList Tryz.prog ops Q rest (a.put op.dst (.agg l.toArray)) w) : wpList Tryz.prog ops Q (op :: rest) a w :=
  wpList_load_mid hg 29 x ho b 0 hx l _ h0.range Tryz.underlying29 rfl (by rw [infoRG, hl]) hK
set_option maxRecDepth 100000 in
set_option maxHeartbeats 4000000 in
theorem bouq_ok {E : List (List Nat)} {d c : Nat} (v : Value) (L : List (List Int)) (w : World) (h : Args w v L) (hc : c ≤ 8) (n : Nat) (hB : ∀ u w', Args w' u (tabA L) → Calls Tryz.prog 20 #[u, .int .i64 (c : Nat)] w' fun e w2 => e = .returned (.tuple #[.int .i64 (n : Nat), .int .i64 0]) ∧ Below w'.heap.size w' w2)
    (hM2 : ∀ w', Args w' v L → Calls Tryz.prog 13 #[v] w' fun e w2 => ∃ gv, e = .returned (.tuple #[gv, .int .i64 0]) ∧ RGI d E w2 gv ∧ Below w'.heap.size w' w2)
    (hR : ∀ gv w', RGI d E w' gv → Calls Tryz.prog 21 #[gv, .int .i64 (c : Nat)] w' fun e w2 => e = .returned (.int .i64 (n : Nat)) ∧ Below w'.heap.size w' w2) : Calls Tryz.prog 5 #[v, .int .i64 (c : Nat)] w fun e w' => e = .returned (.bool true) ∧ Below w.heap.size w w' := by
  have TA := Lib.hid (fun w' (hb : Below w.heap.size w w') => table_any v L w' (h.below hb))
  have PB := Lib.hid hB
  have MD := Lib.hid (fun w' (hb : Below w.heap.size w w') => hM2 w' (h.below hb))
  have RB := Lib.hid hR
  have AW := Lib.hid awake_any
  have HB := Lib.hid (Below.refl w.heap.size w)
  have HTL := Lib.hid (show (tabA L).length ≤ 1000000 by have := tabA_len L; omega)
  have hkk : ((n : Int) == (n : Int)) = true := by simp
  have a1 : ¬ (c : Int) < 0 := by omega
  have a2 : ¬ 8 < (c : Int) := by omega
  have a3 : decide ((c : Int) < 0) = false := by simp
  have a4 : decide (8 < (c : Int)) = false := by simp; omega
  clear h hB hM2 hR
  go_enter Tryz.func5, Tryz.ntmps5
  go_wp2_with (first
    | (go_at_call 12; refine (TA.out _ HB.out).mono ?_; rintro e wt ⟨u, S, rfl, hg, hb⟩; have HT := Lib.hid (hg.1.args HTL.out); have HB := Lib.hid (HB.out.trans (hb.mono HB.out.size)); clear hg hb)
    | (go_at_call 20; refine (PB.out _ _ HT.out).mono ?_; rintro e we ⟨rfl, hb⟩; have HB := Lib.hid (HB.out.trans (hb.mono HB.out.size)); clear hb)
    | (go_at_call 13; refine (MD.out _ HB.out).mono ?_; rintro e wm ⟨gv, rfl, hr, hb⟩; obtain ⟨a1, n1, c1, a2, n2, c2, a3, n3, c3, a4, n4, c4, a5, n5, c5, rfl⟩ := hr.slices; have HR := Lib.hid hr; have HB := Lib.hid (HB.out.trans (hb.mono HB.out.size)); clear hb hr)
    | ((with_reducible refine is_store 29 ?_); refine wpl_store_all infoRG (by rfl) _ _ (by rfl) wm.heap.size [.slice a1 n1 c1, .slice a2 n2 c2, .slice a3 n3 c3, .slice a4 n4 c4, .slice a5 n5 c5, .int .i64 (primeN E d : Nat)] z6 (by rfl) (by rfl) (by simp [Value.oneCell']) (by rfl) (by rfl) (Held.made (l := z6) rfl) ?_; intro ws hh hs hz; have hb : Below wm.heap.size wm ws := (hs.below ((Below.refl _ _).alloc (Nat.le_refl _) _) (Nat.le_refl _) (by simp)); have HB := Lib.hid (HB.out.trans (hb.mono HB.out.size)); have HH := Lib.hid hh; have HR := Lib.hid (HR.out.below hb); clear hh hs hz hb)
    | ((with_reducible refine is_load 29 ?_); refine wpl_load_rg (by rfl) _ (by rfl) wm.heap.size [.slice a1 n1 c1, .slice a2 n2 c2, .slice a3 n3 c3, .slice a4 n4 c4, .slice a5 n5 c5, .int .i64 (primeN E d : Nat)] rfl (by rfl) HH.out ?_)
    | (go_at_call 21; refine (RB.out _ _ HR.out).mono ?_; rintro e wb ⟨rfl, hb⟩; have HB := Lib.hid (HB.out.trans (hb.mono HB.out.size)); clear hb)
    | (go_at_call 14; refine (AW.out _).mono ?_; rintro e wa ⟨rfl, hb⟩; have HB := Lib.hid (HB.out.trans (hb.mono HB.out.size)); clear hb))
  go_ret
  exact ⟨rfl, HB.out⟩
theorem tracesBouquets_true (v : Value) (L : List (List Int)) (c : Int) (w : World) (h : Args w v L) (_ : -9223372036854775808 ≤ c ∧ c ≤ 9223372036854775807) : Calls Tryz.prog 5 #[v, .int .i64 c] w fun e w' => e = .returned (.bool true) ∧ Below w.heap.size w w' := by
  by_cases hc : c < 0 ∨ 8 < c
  · rcases three L with hq | ⟨hq, ho⟩ | ⟨hq, E, hg⟩
    · exact bouq_err v L w h c 2 2 (fun u w' ha => Bouquets_bad ha hc) (madeQ_no hq) (.inl ⟨hc, rfl⟩)
    · exact bouq_err v L w h c 6 2 (fun u w' ha => Bouquets_bad ha hc) (madeQ_over hq ho) (.inl ⟨hc, rfl⟩)
    · exact bouq_err v L w h c 0 2 (fun u w' ha => Bouquets_bad ha hc) (madeQ_yes hq hg) (.inl ⟨hc, rfl⟩)
  · have h0 : 0 ≤ c ∧ c ≤ 8 := by omega
    rcases three L with hq | ⟨hq, ho⟩ | ⟨hq, E, hg⟩
    · exact bouq_err v L w h c 2 2 (fun u w' ha => Bouquets_no ha (by rw [genQ_tabA]; exact hq)) (madeQ_no hq) (.inr ⟨h0.1, h0.2, rfl, by decide⟩)
    · refine bouq_err v L w h c 6 6 (fun u w' ha => ?_) (madeQ_over hq ho) (.inr ⟨h0.1, h0.2, rfl, by decide⟩)
      rw [tabA_eq (.inl hq)] at ha
      exact Bouquets_over ha hq ho h0.1 h0.2
    · obtain ⟨k, rfl⟩ : ∃ k : Nat, c = (k : Int) := ⟨c.toNat, by omega⟩
      have hp := genQ_perm hq
      have hgr := hg.grp fun q hq => by obtain ⟨p, hp1, rfl⟩ := List.mem_map.1 hq; exact hp.2.2.2.2.1 p hp1
      refine bouq_ok v L w h (by omega) (bouN k (L.headD []).length E) (fun u w' ha => ?_) (fun w' ha => made_yes ha hq hg) (fun gv w' hr => RBouquets_any gv w' hgr (by have := hp.2.2.1; omega) hp.2.2.2.1 hg.few hr (by omega))
      rw [tabA_eq (.inl hq)] at ha
      exact Bouquets_yes ha hq hg (by omega)
end Go.Proofs.YtdackakjcnnofaaGreat
