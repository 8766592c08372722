/- TracesNormal answers true (printed by gen_zi.py). -/
import Derived.Test.YtdackakjcnnofaaGreatZy
import Derived.Test.YtdackakjcnnofaaGreatZ0
import Derived.Test.YtdackakjcnnofaaGreatNq
import Derived.Test.YtdackakjcnnofaaGreatZga
import Derived.Test.YtdackakjcnnofaaGreatB4
import Derived.Test.YtdackakjcnnofaaGreatZt
import Derived.Test.YtdackakjcnnofaaGreatFg
namespace Go.Proofs.YtdackakjcnnofaaGreat
open Go.RowKit
attribute [local go_sem] Oper.semAt_some

/-- What the law's calls of the program return. -/
structure NormQ (L : List (List Int)) (F : List Int) (NL : List (List Int)) (e : Int) (KL : List Int) (k : Int) : Prop where
  n : ∀ u W, Args W u (tabA L) → Calls Tryz.prog 22 #[u] W fun r w2 => ∃ s, r = .returned (.tuple #[s, .int .i64 e]) ∧ Args w2 s NL ∧ Below W.heap.size W w2
  k : ∀ u x W, Args W u (tabA L) → Ints W x (F.take 30) → Calls Tryz.prog 23 #[u, x] W fun r w2 => ∃ s, r = .returned (.tuple #[s, .int .i64 k]) ∧ Ints w2 s KL ∧ Below W.heap.size W w2
theorem args_nil (w : World) : Args w (.slice none 0 0) [] := ⟨none, 0, rfl, by simp, by simp, fun h => absurd rfl h⟩
theorem ints_nil (w : World) : Ints w (.slice none 0 0) [] := ⟨none, 0, rfl, by simp, by simp, fun h => absurd rfl h⟩
theorem OutN.args {B : Nat} {w : World} {v : Value} {L : List (List Nat)} (h : OutN B w v L) (hl : L.length ≤ 1000000) : Args w v (L.map toI) := by
  rcases h with ⟨rfl, rfl⟩ | ⟨_, h⟩
  · exact args_nil w
  · exact RowsF.toArgs h hl
set_option maxRecDepth 100000 in
set_option maxHeartbeats 8000000 in
theorem normal_err (v vf : Value) (L : List (List Int)) (F : List Int) (w : World) (h : Args w v L) (hf : Ints w vf F) (k : Int) (hk : k ≠ 0) (hQ : NormQ L F [] k [] k) (hM : MadeQ v L k) :
    Calls Tryz.prog 6 #[v, vf] w fun e w' => e = .returned (.bool true) ∧ Below w.heap.size w w' := by
  have TA := Lib.hid (fun w' (hb : Below w.heap.size w w') => table_any v L w' (h.below hb))
  have LF := Lib.hid (fun w' (hi : Ints w' vf F) => list_any vf F w' hi)
  have PN := Lib.hid hQ.n
  have PK := Lib.hid hQ.k
  have AW := Lib.hid awake_any
  have HTL := Lib.hid (show (tabA L).length ≤ 1000000 by have := tabA_len L; omega)
  have MD := Lib.hid (fun w' (hb : Below w.heap.size w w') => hM w' (h.below hb))
  obtain ⟨af, cf, rfl, -, -, -⟩ := id hf
  obtain ⟨lf, hlf⟩ : ∃ x, F.length = x := ⟨_, rfl⟩
  rw [hlf] at LF hf ⊢
  have HB := Lib.hid (show Below w.heap.size w (w.alloc (.cells #[.slice af lf cf] 27)) from (Below.refl _ _).alloc (Nat.le_refl _) _)
  have HCF := Lib.hid (show CapF (w.alloc (.cells #[.slice af lf cf] 27)) w.heap.size (.slice af lf cf) F from ⟨cell_new1 _ _ _, by simp, hf.below HB.out⟩)
  have hcb := HCF.out.cell
  have hkk : (k == k) = true := by simp
  have hkb : (k != 0) = true := by simpa using hk
  have hke : (k == 0) = false := by simpa using hk
  clear h hf hQ hM hlf
  go_enter Tryz.func6, Tryz.ntmps6
  go_upto_region 2 with (first
    | (go_at_call 12; refine (TA.out _ HB.out).mono ?_; rintro e wt ⟨u, S, rfl, hg, hb⟩; (try have HT := Lib.hid (HT.out.below hb)); (try have HLF := Lib.hid (HLF.out.below hb)); (try have HAN := Lib.hid (HAN.out.below hb)); (try have HAK := Lib.hid (HAK.out.below hb)); (try have HR := Lib.hid (HR.out.below hb)); (try have HRN := Lib.hid (HRN.out.below hb)); (try have HRK := Lib.hid (HRK.out.below hb)); (try have HRT := Lib.hid (HRT.out.below hb)); (try have HH := Lib.hid (HH.out.below hb HH.out.lt)); have HCF := Lib.hid (HCF.out.below hb); (try clear hcb); have hcb := HCF.out.cell; have HT := Lib.hid (hg.1.args HTL.out); clear hg; have HB := Lib.hid (HB.out.trans (hb.mono HB.out.size)); clear hb)
    | (go_at_call 22; refine (PN.out _ _ HT.out).mono ?_; rintro e wn ⟨s1, rfl, hs, hb⟩; clear HT; (try have HT := Lib.hid (HT.out.below hb)); (try have HLF := Lib.hid (HLF.out.below hb)); (try have HAN := Lib.hid (HAN.out.below hb)); (try have HAK := Lib.hid (HAK.out.below hb)); (try have HR := Lib.hid (HR.out.below hb)); (try have HRN := Lib.hid (HRN.out.below hb)); (try have HRK := Lib.hid (HRK.out.below hb)); (try have HRT := Lib.hid (HRT.out.below hb)); (try have HH := Lib.hid (HH.out.below hb HH.out.lt)); have HCF := Lib.hid (HCF.out.below hb); (try clear hcb); have hcb := HCF.out.cell; have HAN := Lib.hid hs; obtain ⟨as1, cs1, rfl⟩ := hs.form; clear hs; have HB := Lib.hid (HB.out.trans (hb.mono HB.out.size)); clear hb))
  obtain ⟨p, hp⟩ : ∃ p, w.heap.size = p := ⟨_, rfl⟩
  have HPW := Lib.hid hp
  rw [hp] at HCF hcb ⊢
  clear hp
  have HB := Lib.hid HB.out.drew
  have HAN := Lib.hid (HAN.out.below (Below.refl _ _).drew)
  have HCF := Lib.hid (HCF.out.below (Below.refl _ _).drew)
  clear hcb
  have hcb := HCF.out.cell
  go_region_with (first
    | (go_at_call 12; refine (TA.out _ HB.out).mono ?_; rintro e wt ⟨u, S, rfl, hg, hb⟩; (try have HT := Lib.hid (HT.out.below hb)); (try have HLF := Lib.hid (HLF.out.below hb)); (try have HAN := Lib.hid (HAN.out.below hb)); (try have HAK := Lib.hid (HAK.out.below hb)); (try have HR := Lib.hid (HR.out.below hb)); (try have HRN := Lib.hid (HRN.out.below hb)); (try have HRK := Lib.hid (HRK.out.below hb)); (try have HRT := Lib.hid (HRT.out.below hb)); (try have HH := Lib.hid (HH.out.below hb HH.out.lt)); have HCF := Lib.hid (HCF.out.below hb); (try clear hcb); have hcb := HCF.out.cell; have HT := Lib.hid (hg.1.args HTL.out); clear hg; have HB := Lib.hid (HB.out.trans (hb.mono HB.out.size)); clear hb)
    | (go_at_call 24; refine (LF.out _ HCF.out.ints).mono ?_; rintro e wl ⟨vl, rfl, ho, hb⟩; (try have HT := Lib.hid (HT.out.below hb)); (try have HLF := Lib.hid (HLF.out.below hb)); (try have HAN := Lib.hid (HAN.out.below hb)); (try have HAK := Lib.hid (HAK.out.below hb)); (try have HR := Lib.hid (HR.out.below hb)); (try have HRN := Lib.hid (HRN.out.below hb)); (try have HRK := Lib.hid (HRK.out.below hb)); (try have HRT := Lib.hid (HRT.out.below hb)); (try have HH := Lib.hid (HH.out.below hb HH.out.lt)); have HCF := Lib.hid (HCF.out.below hb); (try clear hcb); have hcb := HCF.out.cell; have HLF := Lib.hid (ho.ints (by rw [List.length_take]; omega)); clear ho; have HB := Lib.hid (HB.out.trans (hb.mono HB.out.size)); clear hb)
    | (go_at_call 23; refine (PK.out _ _ _ HT.out HLF.out).mono ?_; rintro e wk ⟨s2, rfl, hs, hb⟩; clear HT HLF; (try have HT := Lib.hid (HT.out.below hb)); (try have HLF := Lib.hid (HLF.out.below hb)); (try have HAN := Lib.hid (HAN.out.below hb)); (try have HAK := Lib.hid (HAK.out.below hb)); (try have HR := Lib.hid (HR.out.below hb)); (try have HRN := Lib.hid (HRN.out.below hb)); (try have HRK := Lib.hid (HRK.out.below hb)); (try have HRT := Lib.hid (HRT.out.below hb)); (try have HH := Lib.hid (HH.out.below hb HH.out.lt)); have HCF := Lib.hid (HCF.out.below hb); (try clear hcb); have hcb := HCF.out.cell; have HAK := Lib.hid hs; obtain ⟨as2, cs2, rfl, -, -, -⟩ := id hs; clear hs; have HB := Lib.hid (HB.out.trans (hb.mono HB.out.size)); clear hb))
  all_goals
    go_wp2_with (first
      | (go_at_call 13; refine (MD.out _ HB.out).mono ?_; rintro e wm ⟨a1, n1, c1, a2, n2, c2, a3, n3, c3, a4, n4, c4, a5, n5, c5, q, rfl, hb⟩; (try have HT := Lib.hid (HT.out.below hb)); (try have HLF := Lib.hid (HLF.out.below hb)); (try have HAN := Lib.hid (HAN.out.below hb)); (try have HAK := Lib.hid (HAK.out.below hb)); (try have HR := Lib.hid (HR.out.below hb)); (try have HRN := Lib.hid (HRN.out.below hb)); (try have HRK := Lib.hid (HRK.out.below hb)); (try have HRT := Lib.hid (HRT.out.below hb)); (try have HH := Lib.hid (HH.out.below hb HH.out.lt)); have HCF := Lib.hid (HCF.out.below hb); (try clear hcb); have hcb := HCF.out.cell; have HB := Lib.hid (HB.out.trans (hb.mono HB.out.size)); clear hb)
      | ((with_reducible refine is_store 29 ?_); refine wpl_store_all infoRG (by rfl) _ _ (by rfl) wm.heap.size [.slice a1 n1 c1, .slice a2 n2 c2, .slice a3 n3 c3, .slice a4 n4 c4, .slice a5 n5 c5, .int .i64 q] z6 (by rfl) (by rfl) (by simp [Value.oneCell']) (by rfl) (by rfl) (Held.made (l := z6) rfl) ?_; intro ws hh hs hz; have hb : Below wm.heap.size wm ws := (hs.below ((Below.refl _ _).alloc (Nat.le_refl _) _) (Nat.le_refl _) (by simp)); (try have HT := Lib.hid (HT.out.below hb)); (try have HLF := Lib.hid (HLF.out.below hb)); (try have HAN := Lib.hid (HAN.out.below hb)); (try have HAK := Lib.hid (HAK.out.below hb)); (try have HR := Lib.hid (HR.out.below hb)); (try have HRN := Lib.hid (HRN.out.below hb)); (try have HRK := Lib.hid (HRK.out.below hb)); (try have HRT := Lib.hid (HRT.out.below hb)); (try have HH := Lib.hid (HH.out.below hb HH.out.lt)); have HCF := Lib.hid (HCF.out.below hb); (try clear hcb); have hcb := HCF.out.cell; clear hh hs hz; have HB := Lib.hid (HB.out.trans (hb.mono HB.out.size)); clear hb)
      | (go_at_call 14; refine (AW.out _).mono ?_; rintro e wa ⟨rfl, hb⟩; (try have HT := Lib.hid (HT.out.below hb)); (try have HLF := Lib.hid (HLF.out.below hb)); (try have HAN := Lib.hid (HAN.out.below hb)); (try have HAK := Lib.hid (HAK.out.below hb)); (try have HR := Lib.hid (HR.out.below hb)); (try have HRN := Lib.hid (HRN.out.below hb)); (try have HRK := Lib.hid (HRK.out.below hb)); (try have HRT := Lib.hid (HRT.out.below hb)); (try have HH := Lib.hid (HH.out.below hb HH.out.lt)); have HCF := Lib.hid (HCF.out.below hb); (try clear hcb); have hcb := HCF.out.cell; (try (have hc0 := HH.out.at (i := 0) rfl; have hc1 := HH.out.at (i := 1) rfl; have hc2 := HH.out.at (i := 2) rfl; have hc3 := HH.out.at (i := 3) rfl; have hc4 := HH.out.at (i := 4) rfl; have hc5 := HH.out.at (i := 5) rfl)); have HB := Lib.hid (HB.out.trans (hb.mono HB.out.size)); clear hb))
  all_goals (go_ret; exact ⟨rfl, HB.out⟩)
set_option maxRecDepth 100000 in
set_option maxHeartbeats 8000000 in
theorem normal_bad {E : List (List Nat)} {d : Nat} (v vf : Value) (L : List (List Int)) (F : List Int) (w : World) (h : Args w v L) (hf : Ints w vf F) (NL T : List (List Int)) (hQ : NormQ L F NL 0 [] 2)
    (hM2 : ∀ w', Args w' v L → Calls Tryz.prog 13 #[v] w' fun e w2 => ∃ gv, e = .returned (.tuple #[gv, .int .i64 0]) ∧ RGI d E w2 gv ∧ Below w'.heap.size w' w2)
    (hRN : ∀ gv w', RGI d E w' gv → Calls Tryz.prog 25 #[gv] w' fun e w2 => ∃ s, e = .returned s ∧ Args w2 s NL ∧ Below w'.heap.size w' w2)
    (hRT : ∀ gv w', RGI d E w' gv → Calls Tryz.prog 16 #[gv] w' fun e w2 => ∃ s, e = .returned s ∧ Args w2 s T ∧ Below w'.heap.size w' w2) (hT6 : T.length ≤ 1000000) (hFT : F ∉ T) :
    Calls Tryz.prog 6 #[v, vf] w fun e w' => e = .returned (.bool true) ∧ Below w.heap.size w w' := by
  have TA := Lib.hid (fun w' (hb : Below w.heap.size w w') => table_any v L w' (h.below hb))
  have LF := Lib.hid (fun w' (hi : Ints w' vf F) => list_any vf F w' hi)
  have PN := Lib.hid hQ.n
  have PK := Lib.hid hQ.k
  have AW := Lib.hid awake_any
  have HTL := Lib.hid (show (tabA L).length ≤ 1000000 by have := tabA_len L; omega)
  have MD := Lib.hid (fun w' (hb : Below w.heap.size w w') => hM2 w' (h.below hb))
  have RN := Lib.hid hRN
  have RT := Lib.hid hRT
  have HTT := Lib.hid hT6
  have HDD := Lib.hid (show decide (F ∈ T) = false by simpa using hFT)
  obtain ⟨af, cf, rfl, -, -, -⟩ := id hf
  obtain ⟨lf, hlf⟩ : ∃ x, F.length = x := ⟨_, rfl⟩
  rw [hlf] at LF hf ⊢
  have HB := Lib.hid (show Below w.heap.size w (w.alloc (.cells #[.slice af lf cf] 27)) from (Below.refl _ _).alloc (Nat.le_refl _) _)
  have HCF := Lib.hid (show CapF (w.alloc (.cells #[.slice af lf cf] 27)) w.heap.size (.slice af lf cf) F from ⟨cell_new1 _ _ _, by simp, hf.below HB.out⟩)
  have hcb := HCF.out.cell
  clear h hf hQ hM2 hRN hRT hT6 hFT hlf
  go_enter Tryz.func6, Tryz.ntmps6
  go_upto_region 2 with (first
    | (go_at_call 12; refine (TA.out _ HB.out).mono ?_; rintro e wt ⟨u, S, rfl, hg, hb⟩; (try have HT := Lib.hid (HT.out.below hb)); (try have HLF := Lib.hid (HLF.out.below hb)); (try have HAN := Lib.hid (HAN.out.below hb)); (try have HAK := Lib.hid (HAK.out.below hb)); (try have HR := Lib.hid (HR.out.below hb)); (try have HRN := Lib.hid (HRN.out.below hb)); (try have HRK := Lib.hid (HRK.out.below hb)); (try have HRT := Lib.hid (HRT.out.below hb)); (try have HH := Lib.hid (HH.out.below hb HH.out.lt)); have HCF := Lib.hid (HCF.out.below hb); (try clear hcb); have hcb := HCF.out.cell; have HT := Lib.hid (hg.1.args HTL.out); clear hg; have HB := Lib.hid (HB.out.trans (hb.mono HB.out.size)); clear hb)
    | (go_at_call 22; refine (PN.out _ _ HT.out).mono ?_; rintro e wn ⟨s1, rfl, hs, hb⟩; clear HT; (try have HT := Lib.hid (HT.out.below hb)); (try have HLF := Lib.hid (HLF.out.below hb)); (try have HAN := Lib.hid (HAN.out.below hb)); (try have HAK := Lib.hid (HAK.out.below hb)); (try have HR := Lib.hid (HR.out.below hb)); (try have HRN := Lib.hid (HRN.out.below hb)); (try have HRK := Lib.hid (HRK.out.below hb)); (try have HRT := Lib.hid (HRT.out.below hb)); (try have HH := Lib.hid (HH.out.below hb HH.out.lt)); have HCF := Lib.hid (HCF.out.below hb); (try clear hcb); have hcb := HCF.out.cell; have HAN := Lib.hid hs; obtain ⟨as1, cs1, rfl⟩ := hs.form; clear hs; have HB := Lib.hid (HB.out.trans (hb.mono HB.out.size)); clear hb))
  obtain ⟨p, hp⟩ : ∃ p, w.heap.size = p := ⟨_, rfl⟩
  have HPW := Lib.hid hp
  rw [hp] at HCF hcb ⊢
  clear hp
  have HB := Lib.hid HB.out.drew
  have HAN := Lib.hid (HAN.out.below (Below.refl _ _).drew)
  have HCF := Lib.hid (HCF.out.below (Below.refl _ _).drew)
  clear hcb
  have hcb := HCF.out.cell
  go_region_with (first
    | (go_at_call 12; refine (TA.out _ HB.out).mono ?_; rintro e wt ⟨u, S, rfl, hg, hb⟩; (try have HT := Lib.hid (HT.out.below hb)); (try have HLF := Lib.hid (HLF.out.below hb)); (try have HAN := Lib.hid (HAN.out.below hb)); (try have HAK := Lib.hid (HAK.out.below hb)); (try have HR := Lib.hid (HR.out.below hb)); (try have HRN := Lib.hid (HRN.out.below hb)); (try have HRK := Lib.hid (HRK.out.below hb)); (try have HRT := Lib.hid (HRT.out.below hb)); (try have HH := Lib.hid (HH.out.below hb HH.out.lt)); have HCF := Lib.hid (HCF.out.below hb); (try clear hcb); have hcb := HCF.out.cell; have HT := Lib.hid (hg.1.args HTL.out); clear hg; have HB := Lib.hid (HB.out.trans (hb.mono HB.out.size)); clear hb)
    | (go_at_call 24; refine (LF.out _ HCF.out.ints).mono ?_; rintro e wl ⟨vl, rfl, ho, hb⟩; (try have HT := Lib.hid (HT.out.below hb)); (try have HLF := Lib.hid (HLF.out.below hb)); (try have HAN := Lib.hid (HAN.out.below hb)); (try have HAK := Lib.hid (HAK.out.below hb)); (try have HR := Lib.hid (HR.out.below hb)); (try have HRN := Lib.hid (HRN.out.below hb)); (try have HRK := Lib.hid (HRK.out.below hb)); (try have HRT := Lib.hid (HRT.out.below hb)); (try have HH := Lib.hid (HH.out.below hb HH.out.lt)); have HCF := Lib.hid (HCF.out.below hb); (try clear hcb); have hcb := HCF.out.cell; have HLF := Lib.hid (ho.ints (by rw [List.length_take]; omega)); clear ho; have HB := Lib.hid (HB.out.trans (hb.mono HB.out.size)); clear hb)
    | (go_at_call 23; refine (PK.out _ _ _ HT.out HLF.out).mono ?_; rintro e wk ⟨s2, rfl, hs, hb⟩; clear HT HLF; (try have HT := Lib.hid (HT.out.below hb)); (try have HLF := Lib.hid (HLF.out.below hb)); (try have HAN := Lib.hid (HAN.out.below hb)); (try have HAK := Lib.hid (HAK.out.below hb)); (try have HR := Lib.hid (HR.out.below hb)); (try have HRN := Lib.hid (HRN.out.below hb)); (try have HRK := Lib.hid (HRK.out.below hb)); (try have HRT := Lib.hid (HRT.out.below hb)); (try have HH := Lib.hid (HH.out.below hb HH.out.lt)); have HCF := Lib.hid (HCF.out.below hb); (try clear hcb); have hcb := HCF.out.cell; have HAK := Lib.hid hs; obtain ⟨as2, cs2, rfl, -, -, -⟩ := id hs; clear hs; have HB := Lib.hid (HB.out.trans (hb.mono HB.out.size)); clear hb))
  all_goals
    go_wp2_with (first
      | (go_at_call 13; refine (MD.out _ HB.out).mono ?_; rintro e wm ⟨gv, rfl, hr, hb⟩; obtain ⟨a1, n1, c1, a2, n2, c2, a3, n3, c3, a4, n4, c4, a5, n5, c5, rfl⟩ := hr.slices; (try have HT := Lib.hid (HT.out.below hb)); (try have HLF := Lib.hid (HLF.out.below hb)); (try have HAN := Lib.hid (HAN.out.below hb)); (try have HAK := Lib.hid (HAK.out.below hb)); (try have HR := Lib.hid (HR.out.below hb)); (try have HRN := Lib.hid (HRN.out.below hb)); (try have HRK := Lib.hid (HRK.out.below hb)); (try have HRT := Lib.hid (HRT.out.below hb)); (try have HH := Lib.hid (HH.out.below hb HH.out.lt)); have HCF := Lib.hid (HCF.out.below hb); (try clear hcb); have hcb := HCF.out.cell; have HR := Lib.hid hr; clear hr; have HB := Lib.hid (HB.out.trans (hb.mono HB.out.size)); clear hb)
      | ((with_reducible refine is_store 29 ?_); refine wpl_store_all infoRG (by rfl) _ _ (by rfl) wm.heap.size [.slice a1 n1 c1, .slice a2 n2 c2, .slice a3 n3 c3, .slice a4 n4 c4, .slice a5 n5 c5, .int .i64 (primeN E d : Nat)] z6 (by rfl) (by rfl) (by simp [Value.oneCell']) (by rfl) (by rfl) (Held.made (l := z6) rfl) ?_; intro ws hh hs hz; have hb : Below wm.heap.size wm ws := (hs.below ((Below.refl _ _).alloc (Nat.le_refl _) _) (Nat.le_refl _) (by simp)); (try have HT := Lib.hid (HT.out.below hb)); (try have HLF := Lib.hid (HLF.out.below hb)); (try have HAN := Lib.hid (HAN.out.below hb)); (try have HAK := Lib.hid (HAK.out.below hb)); (try have HR := Lib.hid (HR.out.below hb)); (try have HRN := Lib.hid (HRN.out.below hb)); (try have HRK := Lib.hid (HRK.out.below hb)); (try have HRT := Lib.hid (HRT.out.below hb)); (try have HH := Lib.hid (HH.out.below hb HH.out.lt)); have HCF := Lib.hid (HCF.out.below hb); (try clear hcb); have hcb := HCF.out.cell; have HH := Lib.hid hh; clear hh hs hz; have hc0 := HH.out.at (i := 0) rfl; have hc1 := HH.out.at (i := 1) rfl; have hc2 := HH.out.at (i := 2) rfl; have hc3 := HH.out.at (i := 3) rfl; have hc4 := HH.out.at (i := 4) rfl; have hc5 := HH.out.at (i := 5) rfl; have HB := Lib.hid (HB.out.trans (hb.mono HB.out.size)); clear hb)
      | ((with_reducible refine is_load 29 ?_); refine wpl_load_rg (by rfl) _ (by rfl) wm.heap.size [.slice a1 n1 c1, .slice a2 n2 c2, .slice a3 n3 c3, .slice a4 n4 c4, .slice a5 n5 c5, .int .i64 (primeN E d : Nat)] rfl (by rfl) HH.out ?_)
      | (go_at_call 25; refine (RN.out _ _ HR.out).mono ?_; rintro e wf ⟨s3, rfl, hs3, hb⟩; (try have HT := Lib.hid (HT.out.below hb)); (try have HLF := Lib.hid (HLF.out.below hb)); (try have HAN := Lib.hid (HAN.out.below hb)); (try have HAK := Lib.hid (HAK.out.below hb)); (try have HR := Lib.hid (HR.out.below hb)); (try have HRN := Lib.hid (HRN.out.below hb)); (try have HRK := Lib.hid (HRK.out.below hb)); (try have HRT := Lib.hid (HRT.out.below hb)); (try have HH := Lib.hid (HH.out.below hb HH.out.lt)); have HCF := Lib.hid (HCF.out.below hb); (try clear hcb); have hcb := HCF.out.cell; have HRN := Lib.hid hs3; obtain ⟨as3, cs3, rfl⟩ := hs3.form; clear hs3; have hc0 := HH.out.at (i := 0) rfl; have hc1 := HH.out.at (i := 1) rfl; have hc2 := HH.out.at (i := 2) rfl; have hc3 := HH.out.at (i := 3) rfl; have hc4 := HH.out.at (i := 4) rfl; have hc5 := HH.out.at (i := 5) rfl; have HB := Lib.hid (HB.out.trans (hb.mono HB.out.size)); clear hb)
      | (go_at_call 15; refine (sameA_any _ _ _ _ _ HAN.out HRN.out).mono ?_; rintro e wg ⟨rfl, hb⟩; have HD := Lib.hid (show decide (NL = NL) = true by simp); rw [HD.out]; (try have HT := Lib.hid (HT.out.below hb)); (try have HLF := Lib.hid (HLF.out.below hb)); (try have HAN := Lib.hid (HAN.out.below hb)); (try have HAK := Lib.hid (HAK.out.below hb)); (try have HR := Lib.hid (HR.out.below hb)); (try have HRN := Lib.hid (HRN.out.below hb)); (try have HRK := Lib.hid (HRK.out.below hb)); (try have HRT := Lib.hid (HRT.out.below hb)); (try have HH := Lib.hid (HH.out.below hb HH.out.lt)); have HCF := Lib.hid (HCF.out.below hb); (try clear hcb); have hcb := HCF.out.cell; have hc0 := HH.out.at (i := 0) rfl; have hc1 := HH.out.at (i := 1) rfl; have hc2 := HH.out.at (i := 2) rfl; have hc3 := HH.out.at (i := 3) rfl; have hc4 := HH.out.at (i := 4) rfl; have hc5 := HH.out.at (i := 5) rfl; have HB := Lib.hid (HB.out.trans (hb.mono HB.out.size)); clear hb)
      | (go_at_call 16; refine (RT.out _ _ HR.out).mono ?_; rintro e wf ⟨s4, rfl, hs4, hb⟩; (try have HT := Lib.hid (HT.out.below hb)); (try have HLF := Lib.hid (HLF.out.below hb)); (try have HAN := Lib.hid (HAN.out.below hb)); (try have HAK := Lib.hid (HAK.out.below hb)); (try have HR := Lib.hid (HR.out.below hb)); (try have HRN := Lib.hid (HRN.out.below hb)); (try have HRK := Lib.hid (HRK.out.below hb)); (try have HRT := Lib.hid (HRT.out.below hb)); (try have HH := Lib.hid (HH.out.below hb HH.out.lt)); have HCF := Lib.hid (HCF.out.below hb); (try clear hcb); have hcb := HCF.out.cell; have HRT := Lib.hid hs4; obtain ⟨as4, cs4, rfl⟩ := hs4.form; clear hs4; have hc0 := HH.out.at (i := 0) rfl; have hc1 := HH.out.at (i := 1) rfl; have hc2 := HH.out.at (i := 2) rfl; have hc3 := HH.out.at (i := 3) rfl; have hc4 := HH.out.at (i := 4) rfl; have hc5 := HH.out.at (i := 5) rfl; have HB := Lib.hid (HB.out.trans (hb.mono HB.out.size)); clear hb)
      | (go_at_call 26; refine (containsS_any _ _ T F _ HRT.out HCF.out HTT.out).mono ?_; rintro e wg ⟨rfl, hb⟩; rw [HDD.out]; (try have HT := Lib.hid (HT.out.below hb)); (try have HLF := Lib.hid (HLF.out.below hb)); (try have HAN := Lib.hid (HAN.out.below hb)); (try have HAK := Lib.hid (HAK.out.below hb)); (try have HR := Lib.hid (HR.out.below hb)); (try have HRN := Lib.hid (HRN.out.below hb)); (try have HRK := Lib.hid (HRK.out.below hb)); (try have HRT := Lib.hid (HRT.out.below hb)); (try have HH := Lib.hid (HH.out.below hb HH.out.lt)); have HCF := Lib.hid (HCF.out.below hb); (try clear hcb); have hcb := HCF.out.cell; have hc0 := HH.out.at (i := 0) rfl; have hc1 := HH.out.at (i := 1) rfl; have hc2 := HH.out.at (i := 2) rfl; have hc3 := HH.out.at (i := 3) rfl; have hc4 := HH.out.at (i := 4) rfl; have hc5 := HH.out.at (i := 5) rfl; have HB := Lib.hid (HB.out.trans (hb.mono HB.out.size)); clear hb)
      | (go_at_call 14; refine (AW.out _).mono ?_; rintro e wa ⟨rfl, hb⟩; (try have HT := Lib.hid (HT.out.below hb)); (try have HLF := Lib.hid (HLF.out.below hb)); (try have HAN := Lib.hid (HAN.out.below hb)); (try have HAK := Lib.hid (HAK.out.below hb)); (try have HR := Lib.hid (HR.out.below hb)); (try have HRN := Lib.hid (HRN.out.below hb)); (try have HRK := Lib.hid (HRK.out.below hb)); (try have HRT := Lib.hid (HRT.out.below hb)); (try have HH := Lib.hid (HH.out.below hb HH.out.lt)); have HCF := Lib.hid (HCF.out.below hb); (try clear hcb); have hcb := HCF.out.cell; (try (have hc0 := HH.out.at (i := 0) rfl; have hc1 := HH.out.at (i := 1) rfl; have hc2 := HH.out.at (i := 2) rfl; have hc3 := HH.out.at (i := 3) rfl; have hc4 := HH.out.at (i := 4) rfl; have hc5 := HH.out.at (i := 5) rfl)); have HB := Lib.hid (HB.out.trans (hb.mono HB.out.size)); clear hb))
  all_goals (go_ret; exact ⟨rfl, HB.out⟩)
set_option maxRecDepth 100000 in
set_option maxHeartbeats 8000000 in
theorem normal_yes {E : List (List Nat)} {d : Nat} (v vf : Value) (L : List (List Int)) (F : List Int) (w : World) (h : Args w v L) (hf : Ints w vf F) (NL T : List (List Int)) (KL : List Int) (hQ : NormQ L F NL 0 KL 0)
    (hM2 : ∀ w', Args w' v L → Calls Tryz.prog 13 #[v] w' fun e w2 => ∃ gv, e = .returned (.tuple #[gv, .int .i64 0]) ∧ RGI d E w2 gv ∧ Below w'.heap.size w' w2)
    (hRN : ∀ gv w', RGI d E w' gv → Calls Tryz.prog 25 #[gv] w' fun e w2 => ∃ s, e = .returned s ∧ Args w2 s NL ∧ Below w'.heap.size w' w2)
    (hRT : ∀ gv w', RGI d E w' gv → Calls Tryz.prog 16 #[gv] w' fun e w2 => ∃ s, e = .returned s ∧ Args w2 s T ∧ Below w'.heap.size w' w2) (hT6 : T.length ≤ 1000000)
    (hRK : ∀ w', Ints w' vf F → Calls Tryz.prog 29 #[vf] w' fun e w2 => ∃ s, e = .returned s ∧ Ints w2 s KL ∧ Below w'.heap.size w' w2) (hFT : F ∈ T) :
    Calls Tryz.prog 6 #[v, vf] w fun e w' => e = .returned (.bool true) ∧ Below w.heap.size w w' := by
  have TA := Lib.hid (fun w' (hb : Below w.heap.size w w') => table_any v L w' (h.below hb))
  have LF := Lib.hid (fun w' (hi : Ints w' vf F) => list_any vf F w' hi)
  have PN := Lib.hid hQ.n
  have PK := Lib.hid hQ.k
  have AW := Lib.hid awake_any
  have HTL := Lib.hid (show (tabA L).length ≤ 1000000 by have := tabA_len L; omega)
  have MD := Lib.hid (fun w' (hb : Below w.heap.size w w') => hM2 w' (h.below hb))
  have RN := Lib.hid hRN
  have RT := Lib.hid hRT
  have HTT := Lib.hid hT6
  have HDD := Lib.hid (show decide (F ∈ T) = true by simpa using hFT)
  have RK := Lib.hid hRK
  obtain ⟨af, cf, rfl, -, -, -⟩ := id hf
  obtain ⟨lf, hlf⟩ : ∃ x, F.length = x := ⟨_, rfl⟩
  rw [hlf] at LF RK hf ⊢
  have HB := Lib.hid (show Below w.heap.size w (w.alloc (.cells #[.slice af lf cf] 27)) from (Below.refl _ _).alloc (Nat.le_refl _) _)
  have HCF := Lib.hid (show CapF (w.alloc (.cells #[.slice af lf cf] 27)) w.heap.size (.slice af lf cf) F from ⟨cell_new1 _ _ _, by simp, hf.below HB.out⟩)
  have hcb := HCF.out.cell
  clear h hf hQ hM2 hRN hRT hT6 hFT hRK hlf
  go_enter Tryz.func6, Tryz.ntmps6
  go_upto_region 2 with (first
    | (go_at_call 12; refine (TA.out _ HB.out).mono ?_; rintro e wt ⟨u, S, rfl, hg, hb⟩; (try have HT := Lib.hid (HT.out.below hb)); (try have HLF := Lib.hid (HLF.out.below hb)); (try have HAN := Lib.hid (HAN.out.below hb)); (try have HAK := Lib.hid (HAK.out.below hb)); (try have HR := Lib.hid (HR.out.below hb)); (try have HRN := Lib.hid (HRN.out.below hb)); (try have HRK := Lib.hid (HRK.out.below hb)); (try have HRT := Lib.hid (HRT.out.below hb)); (try have HH := Lib.hid (HH.out.below hb HH.out.lt)); have HCF := Lib.hid (HCF.out.below hb); (try clear hcb); have hcb := HCF.out.cell; have HT := Lib.hid (hg.1.args HTL.out); clear hg; have HB := Lib.hid (HB.out.trans (hb.mono HB.out.size)); clear hb)
    | (go_at_call 22; refine (PN.out _ _ HT.out).mono ?_; rintro e wn ⟨s1, rfl, hs, hb⟩; clear HT; (try have HT := Lib.hid (HT.out.below hb)); (try have HLF := Lib.hid (HLF.out.below hb)); (try have HAN := Lib.hid (HAN.out.below hb)); (try have HAK := Lib.hid (HAK.out.below hb)); (try have HR := Lib.hid (HR.out.below hb)); (try have HRN := Lib.hid (HRN.out.below hb)); (try have HRK := Lib.hid (HRK.out.below hb)); (try have HRT := Lib.hid (HRT.out.below hb)); (try have HH := Lib.hid (HH.out.below hb HH.out.lt)); have HCF := Lib.hid (HCF.out.below hb); (try clear hcb); have hcb := HCF.out.cell; have HAN := Lib.hid hs; obtain ⟨as1, cs1, rfl⟩ := hs.form; clear hs; have HB := Lib.hid (HB.out.trans (hb.mono HB.out.size)); clear hb))
  obtain ⟨p, hp⟩ : ∃ p, w.heap.size = p := ⟨_, rfl⟩
  have HPW := Lib.hid hp
  rw [hp] at HCF hcb ⊢
  clear hp
  have HB := Lib.hid HB.out.drew
  have HAN := Lib.hid (HAN.out.below (Below.refl _ _).drew)
  have HCF := Lib.hid (HCF.out.below (Below.refl _ _).drew)
  clear hcb
  have hcb := HCF.out.cell
  go_region_with (first
    | (go_at_call 12; refine (TA.out _ HB.out).mono ?_; rintro e wt ⟨u, S, rfl, hg, hb⟩; (try have HT := Lib.hid (HT.out.below hb)); (try have HLF := Lib.hid (HLF.out.below hb)); (try have HAN := Lib.hid (HAN.out.below hb)); (try have HAK := Lib.hid (HAK.out.below hb)); (try have HR := Lib.hid (HR.out.below hb)); (try have HRN := Lib.hid (HRN.out.below hb)); (try have HRK := Lib.hid (HRK.out.below hb)); (try have HRT := Lib.hid (HRT.out.below hb)); (try have HH := Lib.hid (HH.out.below hb HH.out.lt)); have HCF := Lib.hid (HCF.out.below hb); (try clear hcb); have hcb := HCF.out.cell; have HT := Lib.hid (hg.1.args HTL.out); clear hg; have HB := Lib.hid (HB.out.trans (hb.mono HB.out.size)); clear hb)
    | (go_at_call 24; refine (LF.out _ HCF.out.ints).mono ?_; rintro e wl ⟨vl, rfl, ho, hb⟩; (try have HT := Lib.hid (HT.out.below hb)); (try have HLF := Lib.hid (HLF.out.below hb)); (try have HAN := Lib.hid (HAN.out.below hb)); (try have HAK := Lib.hid (HAK.out.below hb)); (try have HR := Lib.hid (HR.out.below hb)); (try have HRN := Lib.hid (HRN.out.below hb)); (try have HRK := Lib.hid (HRK.out.below hb)); (try have HRT := Lib.hid (HRT.out.below hb)); (try have HH := Lib.hid (HH.out.below hb HH.out.lt)); have HCF := Lib.hid (HCF.out.below hb); (try clear hcb); have hcb := HCF.out.cell; have HLF := Lib.hid (ho.ints (by rw [List.length_take]; omega)); clear ho; have HB := Lib.hid (HB.out.trans (hb.mono HB.out.size)); clear hb)
    | (go_at_call 23; refine (PK.out _ _ _ HT.out HLF.out).mono ?_; rintro e wk ⟨s2, rfl, hs, hb⟩; clear HT HLF; (try have HT := Lib.hid (HT.out.below hb)); (try have HLF := Lib.hid (HLF.out.below hb)); (try have HAN := Lib.hid (HAN.out.below hb)); (try have HAK := Lib.hid (HAK.out.below hb)); (try have HR := Lib.hid (HR.out.below hb)); (try have HRN := Lib.hid (HRN.out.below hb)); (try have HRK := Lib.hid (HRK.out.below hb)); (try have HRT := Lib.hid (HRT.out.below hb)); (try have HH := Lib.hid (HH.out.below hb HH.out.lt)); have HCF := Lib.hid (HCF.out.below hb); (try clear hcb); have hcb := HCF.out.cell; have HAK := Lib.hid hs; obtain ⟨as2, cs2, rfl, -, -, -⟩ := id hs; clear hs; have HB := Lib.hid (HB.out.trans (hb.mono HB.out.size)); clear hb))
  all_goals
    go_wp2_with (first
      | (go_at_call 13; refine (MD.out _ HB.out).mono ?_; rintro e wm ⟨gv, rfl, hr, hb⟩; obtain ⟨a1, n1, c1, a2, n2, c2, a3, n3, c3, a4, n4, c4, a5, n5, c5, rfl⟩ := hr.slices; (try have HT := Lib.hid (HT.out.below hb)); (try have HLF := Lib.hid (HLF.out.below hb)); (try have HAN := Lib.hid (HAN.out.below hb)); (try have HAK := Lib.hid (HAK.out.below hb)); (try have HR := Lib.hid (HR.out.below hb)); (try have HRN := Lib.hid (HRN.out.below hb)); (try have HRK := Lib.hid (HRK.out.below hb)); (try have HRT := Lib.hid (HRT.out.below hb)); (try have HH := Lib.hid (HH.out.below hb HH.out.lt)); have HCF := Lib.hid (HCF.out.below hb); (try clear hcb); have hcb := HCF.out.cell; have HR := Lib.hid hr; clear hr; have HB := Lib.hid (HB.out.trans (hb.mono HB.out.size)); clear hb)
      | ((with_reducible refine is_store 29 ?_); refine wpl_store_all infoRG (by rfl) _ _ (by rfl) wm.heap.size [.slice a1 n1 c1, .slice a2 n2 c2, .slice a3 n3 c3, .slice a4 n4 c4, .slice a5 n5 c5, .int .i64 (primeN E d : Nat)] z6 (by rfl) (by rfl) (by simp [Value.oneCell']) (by rfl) (by rfl) (Held.made (l := z6) rfl) ?_; intro ws hh hs hz; have hb : Below wm.heap.size wm ws := (hs.below ((Below.refl _ _).alloc (Nat.le_refl _) _) (Nat.le_refl _) (by simp)); (try have HT := Lib.hid (HT.out.below hb)); (try have HLF := Lib.hid (HLF.out.below hb)); (try have HAN := Lib.hid (HAN.out.below hb)); (try have HAK := Lib.hid (HAK.out.below hb)); (try have HR := Lib.hid (HR.out.below hb)); (try have HRN := Lib.hid (HRN.out.below hb)); (try have HRK := Lib.hid (HRK.out.below hb)); (try have HRT := Lib.hid (HRT.out.below hb)); (try have HH := Lib.hid (HH.out.below hb HH.out.lt)); have HCF := Lib.hid (HCF.out.below hb); (try clear hcb); have hcb := HCF.out.cell; have HH := Lib.hid hh; clear hh hs hz; have hc0 := HH.out.at (i := 0) rfl; have hc1 := HH.out.at (i := 1) rfl; have hc2 := HH.out.at (i := 2) rfl; have hc3 := HH.out.at (i := 3) rfl; have hc4 := HH.out.at (i := 4) rfl; have hc5 := HH.out.at (i := 5) rfl; have HB := Lib.hid (HB.out.trans (hb.mono HB.out.size)); clear hb)
      | ((with_reducible refine is_load 29 ?_); refine wpl_load_rg (by rfl) _ (by rfl) wm.heap.size [.slice a1 n1 c1, .slice a2 n2 c2, .slice a3 n3 c3, .slice a4 n4 c4, .slice a5 n5 c5, .int .i64 (primeN E d : Nat)] rfl (by rfl) HH.out ?_)
      | (go_at_call 25; refine (RN.out _ _ HR.out).mono ?_; rintro e wf ⟨s3, rfl, hs3, hb⟩; (try have HT := Lib.hid (HT.out.below hb)); (try have HLF := Lib.hid (HLF.out.below hb)); (try have HAN := Lib.hid (HAN.out.below hb)); (try have HAK := Lib.hid (HAK.out.below hb)); (try have HR := Lib.hid (HR.out.below hb)); (try have HRN := Lib.hid (HRN.out.below hb)); (try have HRK := Lib.hid (HRK.out.below hb)); (try have HRT := Lib.hid (HRT.out.below hb)); (try have HH := Lib.hid (HH.out.below hb HH.out.lt)); have HCF := Lib.hid (HCF.out.below hb); (try clear hcb); have hcb := HCF.out.cell; have HRN := Lib.hid hs3; obtain ⟨as3, cs3, rfl⟩ := hs3.form; clear hs3; have hc0 := HH.out.at (i := 0) rfl; have hc1 := HH.out.at (i := 1) rfl; have hc2 := HH.out.at (i := 2) rfl; have hc3 := HH.out.at (i := 3) rfl; have hc4 := HH.out.at (i := 4) rfl; have hc5 := HH.out.at (i := 5) rfl; have HB := Lib.hid (HB.out.trans (hb.mono HB.out.size)); clear hb)
      | (go_at_call 15; refine (sameA_any _ _ _ _ _ HAN.out HRN.out).mono ?_; rintro e wg ⟨rfl, hb⟩; have HD := Lib.hid (show decide (NL = NL) = true by simp); rw [HD.out]; (try have HT := Lib.hid (HT.out.below hb)); (try have HLF := Lib.hid (HLF.out.below hb)); (try have HAN := Lib.hid (HAN.out.below hb)); (try have HAK := Lib.hid (HAK.out.below hb)); (try have HR := Lib.hid (HR.out.below hb)); (try have HRN := Lib.hid (HRN.out.below hb)); (try have HRK := Lib.hid (HRK.out.below hb)); (try have HRT := Lib.hid (HRT.out.below hb)); (try have HH := Lib.hid (HH.out.below hb HH.out.lt)); have HCF := Lib.hid (HCF.out.below hb); (try clear hcb); have hcb := HCF.out.cell; have hc0 := HH.out.at (i := 0) rfl; have hc1 := HH.out.at (i := 1) rfl; have hc2 := HH.out.at (i := 2) rfl; have hc3 := HH.out.at (i := 3) rfl; have hc4 := HH.out.at (i := 4) rfl; have hc5 := HH.out.at (i := 5) rfl; have HB := Lib.hid (HB.out.trans (hb.mono HB.out.size)); clear hb)
      | (go_at_call 16; refine (RT.out _ _ HR.out).mono ?_; rintro e wf ⟨s4, rfl, hs4, hb⟩; (try have HT := Lib.hid (HT.out.below hb)); (try have HLF := Lib.hid (HLF.out.below hb)); (try have HAN := Lib.hid (HAN.out.below hb)); (try have HAK := Lib.hid (HAK.out.below hb)); (try have HR := Lib.hid (HR.out.below hb)); (try have HRN := Lib.hid (HRN.out.below hb)); (try have HRK := Lib.hid (HRK.out.below hb)); (try have HRT := Lib.hid (HRT.out.below hb)); (try have HH := Lib.hid (HH.out.below hb HH.out.lt)); have HCF := Lib.hid (HCF.out.below hb); (try clear hcb); have hcb := HCF.out.cell; have HRT := Lib.hid hs4; obtain ⟨as4, cs4, rfl⟩ := hs4.form; clear hs4; have hc0 := HH.out.at (i := 0) rfl; have hc1 := HH.out.at (i := 1) rfl; have hc2 := HH.out.at (i := 2) rfl; have hc3 := HH.out.at (i := 3) rfl; have hc4 := HH.out.at (i := 4) rfl; have hc5 := HH.out.at (i := 5) rfl; have HB := Lib.hid (HB.out.trans (hb.mono HB.out.size)); clear hb)
      | (go_at_call 26; refine (containsS_any _ _ T F _ HRT.out HCF.out HTT.out).mono ?_; rintro e wg ⟨rfl, hb⟩; rw [HDD.out]; (try have HT := Lib.hid (HT.out.below hb)); (try have HLF := Lib.hid (HLF.out.below hb)); (try have HAN := Lib.hid (HAN.out.below hb)); (try have HAK := Lib.hid (HAK.out.below hb)); (try have HR := Lib.hid (HR.out.below hb)); (try have HRN := Lib.hid (HRN.out.below hb)); (try have HRK := Lib.hid (HRK.out.below hb)); (try have HRT := Lib.hid (HRT.out.below hb)); (try have HH := Lib.hid (HH.out.below hb HH.out.lt)); have HCF := Lib.hid (HCF.out.below hb); (try clear hcb); have hcb := HCF.out.cell; have hc0 := HH.out.at (i := 0) rfl; have hc1 := HH.out.at (i := 1) rfl; have hc2 := HH.out.at (i := 2) rfl; have hc3 := HH.out.at (i := 3) rfl; have hc4 := HH.out.at (i := 4) rfl; have hc5 := HH.out.at (i := 5) rfl; have HB := Lib.hid (HB.out.trans (hb.mono HB.out.size)); clear hb)
      | (go_at_call 14; refine (AW.out _).mono ?_; rintro e wa ⟨rfl, hb⟩; (try have HT := Lib.hid (HT.out.below hb)); (try have HLF := Lib.hid (HLF.out.below hb)); (try have HAN := Lib.hid (HAN.out.below hb)); (try have HAK := Lib.hid (HAK.out.below hb)); (try have HR := Lib.hid (HR.out.below hb)); (try have HRN := Lib.hid (HRN.out.below hb)); (try have HRK := Lib.hid (HRK.out.below hb)); (try have HRT := Lib.hid (HRT.out.below hb)); (try have HH := Lib.hid (HH.out.below hb HH.out.lt)); have HCF := Lib.hid (HCF.out.below hb); (try clear hcb); have hcb := HCF.out.cell; (try (have hc0 := HH.out.at (i := 0) rfl; have hc1 := HH.out.at (i := 1) rfl; have hc2 := HH.out.at (i := 2) rfl; have hc3 := HH.out.at (i := 3) rfl; have hc4 := HH.out.at (i := 4) rfl; have hc5 := HH.out.at (i := 5) rfl)); have HB := Lib.hid (HB.out.trans (hb.mono HB.out.size)); clear hb)
      | (go_at_call 29; refine (RK.out _ HCF.out.ints).mono ?_; rintro e wf ⟨s5, rfl, hs5, hb⟩; (try have HT := Lib.hid (HT.out.below hb)); (try have HLF := Lib.hid (HLF.out.below hb)); (try have HAN := Lib.hid (HAN.out.below hb)); (try have HAK := Lib.hid (HAK.out.below hb)); (try have HR := Lib.hid (HR.out.below hb)); (try have HRN := Lib.hid (HRN.out.below hb)); (try have HRK := Lib.hid (HRK.out.below hb)); (try have HRT := Lib.hid (HRT.out.below hb)); (try have HH := Lib.hid (HH.out.below hb HH.out.lt)); have HCF := Lib.hid (HCF.out.below hb); (try clear hcb); have hcb := HCF.out.cell; have HRK := Lib.hid hs5; obtain ⟨as5, cs5, rfl, -, -, -⟩ := id hs5; clear hs5; have HB := Lib.hid (HB.out.trans (hb.mono HB.out.size)); clear hb)
      | (go_at_call 28; refine (Equal_any _ _ _ _ _ HAK.out HRK.out).mono ?_; rintro e wg ⟨rfl, hb⟩; have HD := Lib.hid (show decide (KL = KL) = true by simp); rw [HD.out]; (try have HT := Lib.hid (HT.out.below hb)); (try have HLF := Lib.hid (HLF.out.below hb)); (try have HAN := Lib.hid (HAN.out.below hb)); (try have HAK := Lib.hid (HAK.out.below hb)); (try have HR := Lib.hid (HR.out.below hb)); (try have HRN := Lib.hid (HRN.out.below hb)); (try have HRK := Lib.hid (HRK.out.below hb)); (try have HRT := Lib.hid (HRT.out.below hb)); (try have HH := Lib.hid (HH.out.below hb HH.out.lt)); have HCF := Lib.hid (HCF.out.below hb); (try clear hcb); have hcb := HCF.out.cell; have HB := Lib.hid (HB.out.trans (hb.mono HB.out.size)); clear hb))
  all_goals (go_ret; exact ⟨rfl, HB.out⟩)
theorem tracesNormal_true (v : Value) (L : List (List Int)) (vf : Value) (F : List Int) (w : World) (h : Args w v L) (hf : Ints w vf F) : Calls Tryz.prog 6 #[v, vf] w fun e w' => e = .returned (.bool true) ∧ Below w.heap.size w w' := by
  have t30 : ∀ l : List Int, (l.take 30).length ≤ 1000000 := fun l => by rw [List.length_take]; omega
  rcases three L with hq | ⟨hq, ho⟩ | ⟨hq, E, hg⟩
  · exact normal_err v vf L F w h hf 2 (by decide) ⟨fun u W ha => (Normal_no ha (by rw [genQ_tabA]; exact hq)).mono fun e w2 ⟨he, hb⟩ => ⟨_, he, args_nil _, hb⟩, fun u x W ha hx => (Kernel_no ha hx (by rw [genQ_tabA]; exact hq)).mono fun e w2 ⟨he, hb⟩ => ⟨_, he, ints_nil _, hb⟩⟩ (madeQ_no hq)
  · have ht := tabA_eq (.inl hq)
    refine normal_err v vf L F w h hf 6 (by decide) ⟨fun u W ha => ?_, fun u x W ha hx => ?_⟩ (madeQ_over hq ho)
    · rw [ht] at ha
      exact (Normal_over ha hq ho).mono fun e w2 ⟨he, hb⟩ => ⟨_, he, args_nil _, hb⟩
    · rw [ht] at ha
      exact (Kernel_over ha hx hq ho).mono fun e w2 ⟨he, hb⟩ => ⟨_, he, ints_nil _, hb⟩
  · have ht := tabA_eq (.inl hq)
    have hp := genQ_perm hq
    have hgr := hg.grp fun q hq => by obtain ⟨p, hp1, rfl⟩ := List.mem_map.1 hq; exact hp.2.2.2.2.1 p hp1
    have h24 := hg.few
    have hfa := hgr.facts hp.2.2.1 hp.2.2.2.1 h24
    have hfg := hgr.fgN hp.2.2.1 hp.2.2.2.1 h24
    have hm6 := hgr.m6 hp.2.2.1 hp.2.2.2.1 h24
    have hcl : (classesN E).length = (repsN E E.length).length := by simp [classesN]
    have hnl : (normN E (repsN E E.length).length).length ≤ 1000 := by
      unfold normN
      have hm0 : 0 < (repsN E E.length).length := by have := hfg.m0; omega
      rw [sortP_len (normTo_nodup E hm0)]
      have := normTo_len E (repsN E E.length).length (2 ^ ((repsN E E.length).length - 1))
      have h2 := (pow_half (repsN E E.length).length (by omega) hm0)
      unfold normL
      omega
    obtain ⟨d, hd⟩ : ∃ d, (L.headD []).length = d := ⟨_, rfl⟩
    have hM2 : ∀ w', Args w' v L → Calls Tryz.prog 13 #[v] w' fun e w2 => ∃ gv, e = .returned (.tuple #[gv, .int .i64 0]) ∧ RGI d E w2 gv ∧ Below w'.heap.size w' w2 := by
      rw [← hd]; exact fun w' ha => made_yes ha hq hg
    have hN : ∀ u W, Args W u (tabA L) → Calls Tryz.prog 22 #[u] W fun r w2 => ∃ s, r = .returned (.tuple #[s, .int .i64 0]) ∧ Args w2 s ((normN E (repsN E E.length).length).map toI) ∧ Below W.heap.size W w2 := fun u W ha => by
      rw [ht] at ha
      exact (Normal_yes ha hq hg hm6).mono fun e w2 ⟨s, he, ho, hb⟩ => ⟨s, he, rows_args (ho.slr (by rw [List.length_map]; omega)), hb⟩
    rw [hd] at hgr hfa hfg
    have hRN : ∀ gv w', RGI d E w' gv → Calls Tryz.prog 25 #[gv] w' fun e w2 => ∃ s, e = .returned s ∧ Args w2 s ((normN E (repsN E E.length).length).map toI) ∧ Below w'.heap.size w' w2 := fun gv w' hr =>
      (RNormal_any gv w' hgr h24 hr hm6).mono fun e w2 ⟨s, he, ho, hb⟩ => ⟨s, he, ho.args (by omega), hb⟩
    have hlr : (tabRE E d).length = (tabG E d).length := by rw [← hfa.ref, List.length_map]
    have hRT : ∀ gv w', RGI d E w' gv → Calls Tryz.prog 16 #[gv] w' fun e w2 => ∃ s, e = .returned s ∧ Args w2 s (tabG E d) ∧ Below w'.heap.size w' w2 := fun gv w' hr => by
      refine (RTable_any gv w' hgr h24 hr hfa.q1 hfa.q2 (by show (tabRE E d).length ≤ 1000; have := hfa.few; omega)).mono fun e w2 ⟨u, he, ho, hb⟩ => ⟨u, he, ?_, hb⟩
      have := RowsF.toArgs ho (by show (tabRE E d).length ≤ 1000000; have := hfa.few; omega)
      rw [← hfa.ref]
      exact this
    have hTl : (tabG E d).length ≤ 1000000 := by have := hfa.few; omega
    by_cases hFT : F ∈ tabG E d
    · have hfl := (funB_iff.1 (hfg.rows F hFT)).1
      have h30 : F.take 30 = F := List.take_of_length_le (by have := hfg.m24; omega)
      refine normal_yes (E := E) (d := d) v vf L F w h hf ((normN E (repsN E E.length).length).map toI) (tabG E d) (toI (kefL F)) ⟨hN, fun u x W ha hx => ?_⟩ hM2 hRN hRT hTl (fun w' hi => ?_) hFT
      · rw [ht] at ha
        rw [h30] at hx
        exact (Kernel_yes ha hq hg (by rw [hd]; exact hfg) hx (by rw [hd]; exact hFT)).mono fun e w2 ⟨s, he, ho, hb⟩ => ⟨s, he, ho.ints (by rw [toI_length]; have := kefTo_len F F.length; have := hfg.m24; unfold kefL; omega), hb⟩
      · exact (RKernel_any vf F w' hi (by have := hfg.m24; omega) (by have := hfg.m0; omega)).mono fun e w2 ⟨s, he, ho, hb⟩ => ⟨s, he, ho.ints (by rw [toI_length]; have := kefTo_len F F.length; have := hfg.m24; unfold kefL; omega), hb⟩
    · refine normal_bad (E := E) (d := d) v vf L F w h hf ((normN E (repsN E E.length).length).map toI) (tabG E d) ⟨hN, fun u x W ha hx => ?_⟩ hM2 hRN hRT hTl hFT
      rw [ht] at ha
      refine (Kernel_bad ha hq hg (by rw [hd]; exact hfg) hx (by
        rw [hd]
        intro hm
        have hfl := (funB_iff.1 (hfg.rows _ hm)).1
        have := hfg.m24
        rw [List.length_take] at hfl
        exact hFT (by rw [← List.take_of_length_le (show F.length ≤ 30 by omega)]; exact hm))).mono fun e w2 ⟨he, hb⟩ => ⟨_, he, ints_nil _, hb⟩
end Go.Proofs.YtdackakjcnnofaaGreat
