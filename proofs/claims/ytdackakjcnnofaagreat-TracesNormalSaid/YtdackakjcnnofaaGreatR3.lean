/- Zn Zq of the seat's texts, in this order. -/
import Derived.Test.YtdackakjcnnofaaGreatR2
import Derived.Test.YtdackakjcnnofaaGreatR1
import Derived.Test.YtdackakjcnnofaaGreatA3
import Derived.Test.YtdackakjcnnofaaGreatA8

/- law: made. -/
namespace Go.Proofs.YtdackakjcnnofaaGreat
open Go.RowKit
attribute [local go_sem] Oper.semAt_some

theorem RGS.sm {H d b : Nat} {E : List (List Nat)} {w w' : World} {gv : Value} (h : RGS H d E w gv) (hs : Sm (fun k => k ≠ b) w w') (hb : b < H) (ht : typeAt w b ≠ some 3) : RGS H d E w' gv := by
  obtain ⟨vL, vT, vB, vC, vO, e, h1, h2, h3, h4, h5⟩ := h
  have hne : ∀ k, PK H w k → k ≠ b := fun k hk => by
    rcases hk with hk | hk
    · omega
    · rintro rfl; exact ht hk
  have hlo : ∀ k, H ≤ k → k ≠ b := fun k hk => by omega
  have hpk : ∀ k, PK H w k → PK H w' k := fun k hk => by
    rcases hk with hk | hk
    · exact .inl hk
    · exact .inr (by rw [ty_block (hs.block k (hne k (.inr hk)) (ty_lt hk))]; exact hk)
  exact ⟨vL, vT, vB, vC, vO, e, (h1.kept hs hne (fun k hk => hlo k (h1.own k hk).1)).mono hpk, (h2.kept hs hne (fun k hk => hlo k (h2.own k hk).1)).mono hpk, own_sm h3 hs (fun k hk => hlo k (World.ownsRow.lt h3 k hk).1), (h4.kept hs hne (fun k hk => hlo k (h4.own k hk).1)).mono hpk, own_sm h5 hs (fun k hk => hlo k (World.ownsRow.lt h5 k hk).1)⟩
theorem RGS.rgi {H d : Nat} {E : List (List Nat)} {w : World} {gv : Value} (h : RGS H d E w gv) (h24 : E.length ≤ 24) : RGI d E w gv := by
  obtain ⟨vL, vT, vB, vC, vO, e, h1, h2, h3, h4, h5⟩ := h
  exact ⟨vL, vT, vB, vC, vO, e, (h1.mono fun _ _ => trivial).base (Nat.zero_le _), (h2.mono fun _ _ => trivial).base (Nat.zero_le _), OwnI.ints h3 (by rw [toI_length, backL_length]; omega), (h4.mono fun _ _ => trivial).base (Nat.zero_le _), OwnI.ints h5 (by rw [ofL_length]; omega)⟩
def z6 : List Value := [.slice none 0 0, .slice none 0 0, .slice none 0 0, .slice none 0 0, .slice none 0 0, .int .i64 0]
section
variable {v : Value} {L : List (List Int)} {w : World} {E : List (List Nat)}
theorem gens_of (hq : genQ L = true) : (∀ p ∈ L.map natP, Perm1 (L.headD []).length p) ∧ 1 ≤ (L.map natP).length ∧ (L.map natP).length ≤ 4 ∧ 1 ≤ (L.headD []).length ∧ (L.headD []).length ≤ 5 ∧ (L.map natP).map toI = L := by
  have hp := genQ_perm hq
  refine ⟨fun q hq => ?_, by rw [List.length_map]; exact hp.1, by rw [List.length_map]; exact hp.2.1, hp.2.2.1, hp.2.2.2.1, hp.2.2.2.2.2.symm⟩
  obtain ⟨p, hp1, rfl⟩ := List.mem_map.1 hq
  exact hp.2.2.2.2.1 p hp1
set_option maxRecDepth 100000 in
theorem made_no (h : Args w v L) (hq : genQ L = false) : Calls Tryz.prog 13 #[v] w fun e w' => e = .returned (.tuple #[rg0, .int .i64 2]) ∧ Below w.heap.size w w' := by
  have GN := Lib.hid (fun w' (hb : Below w.heap.size w w') => Generators_any v L w' (h.below hb))
  rw [hq] at GN
  clear h hq
  go_enter Tryz.func13, Tryz.ntmps13
  go_wp2_with (first
    | (go_at_call 45; refine (GN.out _ ((Below.refl _ _).alloc (Nat.le_refl _) _)).mono ?_; rintro e w1 ⟨rfl, rfl⟩)
    | (refine wpl_store_all infoRG (by rfl) _ _ (by rfl) w.heap.size z6 z6 (by rfl) (by rfl) (by simp [z6, Value.oneCell']) (by rfl) (by rfl) (Held.made (l := z6) rfl) ?_; intro w2 hh2 hs2 hz2; have HH2 := Lib.hid hh2; have HB2 := Lib.hid (hs2.below ((Below.refl _ _).alloc (Nat.le_refl _) _) (Nat.le_refl _) (by simp)); clear hh2 hs2 hz2))
  exact bodyPost_ret (results_rg (.int .i64 2) Tryz.results13 (by rfl) HH2.out rfl (by rfl)) rfl ⟨rfl, HB2.out⟩
set_option maxRecDepth 100000 in
theorem made_over (h : Args w v L) (hq : genQ L = true) (ho : Over (L.headD []).length (L.map natP)) : Calls Tryz.prog 13 #[v] w fun e w' => e = .returned (.tuple #[rg0, .int .i64 6]) ∧ Below w.heap.size w w' := by
  have GN := Lib.hid (fun w' (hb : Below w.heap.size w w') => Generators_any v L w' (h.below hb))
  rw [hq] at GN
  obtain ⟨g1, g2, g3, g4, g5, g6⟩ := gens_of hq
  have MK := Lib.hid (fun w' (hb : Below w.heap.size w w') => Make_over v w' (by rw [g6]; exact h.below hb) g1 g2 g3 g4 g5 ho)
  clear h hq ho g1 g2 g3 g4 g5 g6
  go_enter Tryz.func13, Tryz.ntmps13
  go_wp2_with (first
    | (go_at_call 45; refine (GN.out _ ((Below.refl _ _).alloc (Nat.le_refl _) _)).mono ?_; rintro e w1 ⟨rfl, rfl⟩)
    | (go_at_call 46; refine (MK.out _ ((Below.refl _ _).alloc (Nat.le_refl _) _)).mono ?_; rintro e w1 ⟨rfl, hb1⟩; have HH := Lib.hid ((Held.made (w := w) (l := z6) (t := 29) rfl).below hb1 (by simp)); have HB := Lib.hid (show Below w.heap.size w w1 from ((Below.refl _ _).alloc (Nat.le_refl _) _).trans (hb1.mono (by simp))); clear hb1)
    | (refine wpl_store_all infoRG (by rfl) _ _ (by rfl) w.heap.size z6 z6 (by rfl) (by rfl) (by simp [z6, Value.oneCell']) (by rfl) (by rfl) HH.out ?_; intro w2 hh2 hs2 hz2; have HH2 := Lib.hid hh2; have HB2 := Lib.hid (hs2.below HB.out (Nat.le_refl _) HB.out.size); clear hh2 hs2 hz2))
  exact bodyPost_ret (results_rg (.int .i64 6) Tryz.results13 (by rfl) HH2.out rfl (by rfl)) rfl ⟨rfl, HB2.out⟩
set_option maxRecDepth 100000 in
theorem made_yes (h : Args w v L) (hq : genQ L = true) (hg : IsG (L.headD []).length (L.map natP) E) : Calls Tryz.prog 13 #[v] w fun e w' => ∃ gv, e = .returned (.tuple #[gv, .int .i64 0]) ∧ RGI (L.headD []).length E w' gv ∧ Below w.heap.size w w' := by
  have GN := Lib.hid (fun w' (hb : Below w.heap.size w w') => Generators_any v L w' (h.below hb))
  rw [hq] at GN
  obtain ⟨g1, g2, g3, g4, g5, g6⟩ := gens_of hq
  have MK := Lib.hid (fun w' (hb : Below w.heap.size w w') => Make_yes v w' (by rw [g6]; exact h.below hb) g1 g2 g3 g4 g5 hg)
  have H24 := Lib.hid hg.few
  obtain ⟨d, hd⟩ : ∃ d, (L.headD []).length = d := ⟨_, rfl⟩
  rw [hd] at MK ⊢
  clear h hq hg g1 g2 g3 g4 g5 g6 hd
  go_enter Tryz.func13, Tryz.ntmps13
  go_wp2_with (first
    | (go_at_call 45; refine (GN.out _ ((Below.refl _ _).alloc (Nat.le_refl _) _)).mono ?_; rintro e w1 ⟨rfl, rfl⟩)
    | (go_at_call 46; refine (MK.out _ ((Below.refl _ _).alloc (Nat.le_refl _) _)).mono ?_; rintro e w1 ⟨gv, rfl, hr, hb1⟩; obtain ⟨vL, vT, vB, vC, vO, rfl, k1, k2, k3, k4, k5⟩ := hr; obtain ⟨aL, cL, rfl⟩ := k1.form; obtain ⟨aT, cT, rfl⟩ := k2.form; obtain ⟨aB, cB, rfl⟩ := OwnI.form k3; obtain ⟨aC, cC, rfl⟩ := k4.form; obtain ⟨aO, cO, rfl⟩ := OwnI.form k5; have HR := Lib.hid (show RGS (w.heap.size + 1) d E w1 (rgV (.slice aL E.length cL) (.slice aT (tabN E).length cT) (.slice aB (toI (backL E)).length cB) (.slice aC (classesN E).length cC) (.slice aO (ofL E E.length).length cO) (primeN E d : Nat)) from ⟨_, _, _, _, _, rfl, by simpa using k1, by simpa using k2, by simpa using k3, by simpa using k4, by simpa using k5⟩); have HH := Lib.hid ((Held.made (w := w) (l := z6) (t := 29) rfl).below hb1 (by simp)); have HB := Lib.hid (show Below w.heap.size w w1 from ((Below.refl _ _).alloc (Nat.le_refl _) _).trans (hb1.mono (by simp))); clear hb1 k1 k2 k3 k4 k5)
    | (refine wpl_store_all infoRG (by rfl) _ _ (by rfl) w.heap.size [.slice aL E.length cL, .slice aT (tabN E).length cT, .slice aB (toI (backL E)).length cB, .slice aC (classesN E).length cC, .slice aO (ofL E E.length).length cO, .int .i64 (primeN E d : Nat)] z6 (by rfl) (by rfl) (by simp [Value.oneCell']) (by rfl) (by rfl) HH.out ?_; intro w2 hh2 hs2 hz2; have HH2 := Lib.hid hh2; have HS2 := Lib.hid hs2; have HB2 := Lib.hid (hs2.below HB.out (Nat.le_refl _) HB.out.size); clear hh2 hs2 hz2))
  exact bodyPost_ret (results_rg (.int .i64 0) Tryz.results13 (by rfl) HH2.out rfl (by rfl)) rfl ⟨_, rfl, (HR.out.sm HS2.out (Nat.lt_succ_self _) (by rw [HH.out.ty]; decide)).rgi H24.out, HB2.out⟩
end
end Go.Proofs.YtdackakjcnnofaaGreat

/- TracesGroups: the walk, over any account of awake. -/
namespace Go.Proofs.YtdackakjcnnofaaGreat
open Go.RowKit
attribute [local go_sem] Oper.semAt_some

def AwakeQ : Prop := ∀ w, Calls Tryz.prog 14 #[] w fun e w2 => e = .returned (.bool true) ∧ Below w.heap.size w w2
set_option maxRecDepth 100000 in
set_option maxHeartbeats 4000000 in
theorem groups_walk (hA : AwakeQ) (v : Value) (L : List (List Int)) (w : World) (h : Args w v L) (R1 R2 : List (List Nat)) (q k : Int) (hl1 : R1.length ≤ 1000000) (hl2 : R2.length ≤ 1000000)
    (hE : ∀ u w', Args w' u (tabA L) → Calls Tryz.prog 17 #[u] w' fun e w2 => ∃ x S H, e = .returned (.tuple #[x, .int .i64 k]) ∧ RowsF S H w2 x R1 ∧ Below w'.heap.size w' w2)
    (hC : ∀ u w', Args w' u (tabA L) → Calls Tryz.prog 18 #[u] w' fun e w2 => ∃ x S H, e = .returned (.tuple #[x, .int .i64 k]) ∧ RowsF S H w2 x R2 ∧ Below w'.heap.size w' w2)
    (hP : ∀ u w', Args w' u (tabA L) → Calls Tryz.prog 19 #[u] w' fun e w2 => e = .returned (.tuple #[.int .i64 q, .int .i64 k]) ∧ Below w'.heap.size w' w2)
    (hM : ∀ w', Args w' v L → Calls Tryz.prog 13 #[v] w' fun e w2 => ∃ a1 n1 c1 a2 n2 c2 a3 n3 c3 a4 n4 c4 a5 n5 c5, e = .returned (.tuple #[.agg #[.slice a1 n1 c1, .slice a2 n2 c2, .slice a3 n3 c3, .slice a4 n4 c4, .slice a5 n5 c5, .int .i64 q], .int .i64 k]) ∧ RowsF (fun _ => True) 0 w2 (.slice a1 n1 c1) R1 ∧ RowsF (fun _ => True) 0 w2 (.slice a4 n4 c4) R2 ∧ Below w'.heap.size w' w2) :
    Calls Tryz.prog 4 #[v] w fun e w' => e = .returned (.bool true) ∧ Below w.heap.size w w' := by
  have TA := Lib.hid (fun w' (hb : Below w.heap.size w w') => table_any v L w' (h.below hb))
  have EL := Lib.hid hE
  have CS := Lib.hid hC
  have PM := Lib.hid hP
  have MD := Lib.hid (fun w' (hb : Below w.heap.size w w') => hM w' (h.below hb))
  have AW := Lib.hid hA
  have HB := Lib.hid (Below.refl w.heap.size w)
  have HTL := Lib.hid (show (tabA L).length ≤ 1000000 by have := tabA_len L; omega)
  have HL1 := Lib.hid hl1
  have HL2 := Lib.hid hl2
  have hkk : (k != k) = false := by simp
  clear h hE hC hP hM hA hl1 hl2
  go_enter Tryz.func4, Tryz.ntmps4
  go_wp2_with (first
    | (go_at_call 12; refine (TA.out _ HB.out).mono ?_; rintro e wt ⟨u, S, rfl, hg, hb⟩; have HT := Lib.hid (hg.1.args HTL.out); have HB := Lib.hid (HB.out.trans (hb.mono HB.out.size)); try (have HR1 := Lib.hid (HR1.out.below hb)); try (have HR2 := Lib.hid (HR2.out.below hb)); clear hg hb)
    | (go_at_call 17; refine (EL.out _ _ HT.out).mono ?_; rintro e we ⟨x1, S1, H1, rfl, h1, hb⟩; obtain ⟨ax1, cx1, rfl⟩ := h1.form; have HR1 := Lib.hid h1; have HB := Lib.hid (HB.out.trans (hb.mono HB.out.size)); clear h1 hb)
    | (go_at_call 18; refine (CS.out _ _ HT.out).mono ?_; rintro e we ⟨x2, S2, H2, rfl, h1, hb⟩; obtain ⟨ax2, cx2, rfl⟩ := h1.form; have HR2 := Lib.hid h1; have HB := Lib.hid (HB.out.trans (hb.mono HB.out.size)); have HR1 := Lib.hid (HR1.out.below hb); clear h1 hb)
    | (go_at_call 19; refine (PM.out _ _ HT.out).mono ?_; rintro e we ⟨rfl, hb⟩; have HB := Lib.hid (HB.out.trans (hb.mono HB.out.size)); have HR1 := Lib.hid (HR1.out.below hb); have HR2 := Lib.hid (HR2.out.below hb); clear hb)
    | (go_at_call 13; refine (MD.out _ HB.out).mono ?_; rintro e wm ⟨a1, n1, c1, a2, n2, c2, a3, n3, c3, a4, n4, c4, a5, n5, c5, rfl, h1, h2, hb⟩; have HB := Lib.hid (HB.out.trans (hb.mono HB.out.size)); have HR1 := Lib.hid (HR1.out.below hb); have HR2 := Lib.hid (HR2.out.below hb); have HR3 := Lib.hid h1; have HR4 := Lib.hid h2; clear h1 h2 hb)
    | ((with_reducible refine is_store 29 ?_); refine wpl_store_all infoRG (by rfl) _ _ (by rfl) wm.heap.size [.slice a1 n1 c1, .slice a2 n2 c2, .slice a3 n3 c3, .slice a4 n4 c4, .slice a5 n5 c5, .int .i64 q] z6 (by rfl) (by rfl) (by simp [Value.oneCell']) (by rfl) (by rfl) (Held.made (l := z6) rfl) ?_; intro ws hh hs hz; have HH := Lib.hid hh; have hb : Below wm.heap.size wm ws := (hs.below ((Below.refl _ _).alloc (Nat.le_refl _) _) (Nat.le_refl _) (by simp)); have HB := Lib.hid (HB.out.trans (hb.mono HB.out.size)); have HR1 := Lib.hid (HR1.out.below hb); have HR2 := Lib.hid (HR2.out.below hb); have HR3 := Lib.hid (HR3.out.below hb); have HR4 := Lib.hid (HR4.out.below hb); clear hh hs hz hb)
    | (go_at_call 14; refine (AW.out _).mono ?_; rintro e wa ⟨rfl, hb⟩; have HB := Lib.hid (HB.out.trans (hb.mono HB.out.size)); have HR1 := Lib.hid (HR1.out.below hb); have HR2 := Lib.hid (HR2.out.below hb); have HR3 := Lib.hid (HR3.out.below hb); have HR4 := Lib.hid (HR4.out.below hb); have HH := Lib.hid (HH.out.below hb HH.out.lt); have hc0 := HH.out.at (i := 0) rfl; clear hb)
    | (go_at_call 15; refine (same_any _ _ _ _ _ HR1.out HR3.out HL1.out).mono ?_; rintro e wf ⟨rfl, hb⟩; have HD := Lib.hid (show decide (R1 = R1) = true by simp); rw [HD.out]; have HB := Lib.hid (HB.out.trans (hb.mono HB.out.size)); have HR2 := Lib.hid (HR2.out.below hb); have HR4 := Lib.hid (HR4.out.below hb); have HH := Lib.hid (HH.out.below hb HH.out.lt); have hc3 := HH.out.at (i := 3) rfl; clear hb HR1)
    | (go_at_call 15; refine (same_any _ _ _ _ _ HR2.out HR4.out HL2.out).mono ?_; rintro e wg ⟨rfl, hb⟩; have HD := Lib.hid (show decide (R2 = R2) = true by simp); rw [HD.out]; have HB := Lib.hid (HB.out.trans (hb.mono HB.out.size)); have HH := Lib.hid (HH.out.below hb HH.out.lt); have hc5 := HH.out.at (i := 5) rfl; clear hb))
  go_ret
  exact ⟨by simp, HB.out⟩
end Go.Proofs.YtdackakjcnnofaaGreat
