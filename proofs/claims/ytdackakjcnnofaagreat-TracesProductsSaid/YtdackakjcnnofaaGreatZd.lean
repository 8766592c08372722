/- TracesProducts answers true (printed by gen_zd.py). -/
import Derived.Test.YtdackakjcnnofaaGreatZc
import Derived.Test.YtdackakjcnnofaaGreatZa
namespace Go.Proofs.YtdackakjcnnofaaGreat
open Go.RowKit
attribute [local go_sem] Oper.semAt_some

theorem Grp.fg {E : List (List Nat)} {d : Nat} (h : Grp d E) (h1 : 0 < d) (hd : d ≤ 5) (h24 : E.length ≤ 24) : FG E d := by
  have hp := h.prime_spec hd h24
  obtain ⟨x, hx, hok, ht, e1, e2, e3, e4, -⟩ := h.tab h1 hd h24
  have hs := shp_all x hx
  have hn := h.pos
  have hcl : (classesN E).length = (repsN E E.length).length := by simp [classesN]
  have hsl : x.1.2.2.1.length = (classesN E).length := by rw [← e3, szE_length, hcl]
  unfold shpOk at hs
  simp only [Bool.and_eq_true, beq_iff_eq, decide_eq_true_eq, List.all_eq_true] at hs
  refine ⟨by omega, hp.2.1, h24, by omega, by omega, by rw [backC_length, hcl], fun b hb => by rw [hcl]; exact backC_lt h b hb, fun l hl => by have := (classes_len hl).1; omega, ?_, hok, by rw [ht]; omega, fun r hr => ?_⟩
  · rw [e1, e2]
    exact hs.1.1.2
  · rw [ht] at hr
    rw [e1]
    have h2 := hs.1.1.1.1.1.1.1.1.1.1.2 r hr
    refine funB_iff.2 ⟨by rw [h2.1.1.1, hsl], fun y hy => ?_⟩
    have := h2.1.1.2 y hy
    exact this
theorem funB_take {q m : Nat} {l : List Int} (hm : m < 30) : funB q m (l.take 30) = funB q m l ∧ (funB q m l = true → l.take 30 = l) := by
  by_cases h : l.length ≤ 30
  · have e := List.take_of_length_le h
    rw [e]; exact ⟨rfl, fun _ => rfl⟩
  · have h1 : (l.take 30).length ≠ m := by rw [List.length_take]; omega
    have h2 : l.length ≠ m := by omega
    rw [funB_len h1, funB_len h2]
    exact ⟨rfl, fun h => (by cases h)⟩
/-- What the law's calls return. -/
structure ProdQ (L : List (List Int)) (F G : List Int) (n e : Int) (SL : List Int) (k : Int) : Prop where
  p : ∀ u x y W, Args W u (tabA L) → Ints W x (F.take 30) → Ints W y (G.take 30) → Calls Tryz.prog 30 #[u, x, y] W fun r w2 => r = .returned (.tuple #[.int .i64 n, .int .i64 e]) ∧ Below W.heap.size W w2
  s : ∀ u x W, Args W u (tabA L) → Ints W x (F.take 30) → Calls Tryz.prog 31 #[u, x] W fun r w2 => ∃ s, r = .returned (.tuple #[s, .int .i64 k]) ∧ Ints w2 s SL ∧ Below W.heap.size W w2
set_option maxRecDepth 100000 in
set_option maxHeartbeats 4000000 in
theorem products_err (v vf vh : Value) (L : List (List Int)) (F G : List Int) (w : World) (h : Args w v L) (hf : Ints w vf F) (hh : Ints w vh G) (k : Int) (hk : k ≠ 0) (hQ : ProdQ L F G 0 k [] k) (hM : MadeQ v L k) :
    Calls Tryz.prog 7 #[v, vf, vh] w fun e w' => e = .returned (.bool true) ∧ Below w.heap.size w w' := by
  have TA := Lib.hid (fun w' (hb : Below w.heap.size w w') => table_any v L w' (h.below hb))
  have LF := Lib.hid (fun w' (hb : Below w.heap.size w w') => list_any vf F w' (hf.below hb))
  have LG := Lib.hid (fun w' (hb : Below w.heap.size w w') => list_any vh G w' (hh.below hb))
  have PP := Lib.hid hQ.p
  have PS := Lib.hid hQ.s
  have AW := Lib.hid awake_any
  have HB := Lib.hid (Below.refl w.heap.size w)
  have HTL := Lib.hid (show (tabA L).length ≤ 1000000 by have := tabA_len L; omega)
  have MD := Lib.hid (fun w' (hb : Below w.heap.size w w') => hM w' (h.below hb))
  have HFW := Lib.hid hf
  have HGW := Lib.hid hh
  obtain ⟨af, cf, rfl, -, -, -⟩ := id hf
  obtain ⟨ah, ch, rfl, -, -, -⟩ := id hh
  obtain ⟨lf, hlf⟩ : ∃ x, F.length = x := ⟨_, rfl⟩
  obtain ⟨lh, hlh⟩ : ∃ x, G.length = x := ⟨_, rfl⟩
  rw [hlf] at LF HFW ⊢
  rw [hlh] at LG HGW ⊢
  have hkk : (k == k) = true := by simp
  have hkb : (k != 0) = true := by simpa using hk
  have hke : (k == 0) = false := by simpa using hk
  clear h hf hh hQ hM hlf hlh HFW HGW
  go_enter Tryz.func7, Tryz.ntmps7
  go_wp2_with (first
    | (go_at_call 12; refine (TA.out _ HB.out).mono ?_; rintro e wt ⟨u, S, rfl, hg, hb⟩; (try have HT := Lib.hid (HT.out.below hb)); (try have HLF := Lib.hid (HLF.out.below hb)); (try have HLG := Lib.hid (HLG.out.below hb)); (try have HSI := Lib.hid (HSI.out.below hb)); (try have HR := Lib.hid (HR.out.below hb)); (try have HFI := Lib.hid (HFI.out.below hb)); (try have HGI := Lib.hid (HGI.out.below hb)); (try have HH := Lib.hid (HH.out.below hb HH.out.lt)); have HT := Lib.hid (hg.1.args HTL.out); clear hg; have HB := Lib.hid (HB.out.trans (hb.mono HB.out.size)); clear hb)
    | (go_at_call 24; refine (LF.out _ HB.out).mono ?_; rintro e wl ⟨vl, rfl, ho, hb⟩; (try have HT := Lib.hid (HT.out.below hb)); (try have HLF := Lib.hid (HLF.out.below hb)); (try have HLG := Lib.hid (HLG.out.below hb)); (try have HSI := Lib.hid (HSI.out.below hb)); (try have HR := Lib.hid (HR.out.below hb)); (try have HFI := Lib.hid (HFI.out.below hb)); (try have HGI := Lib.hid (HGI.out.below hb)); (try have HH := Lib.hid (HH.out.below hb HH.out.lt)); have HLF := Lib.hid (ho.ints (by rw [List.length_take]; omega)); clear ho; have HB := Lib.hid (HB.out.trans (hb.mono HB.out.size)); clear hb)
    | (go_at_call 24; refine (LG.out _ HB.out).mono ?_; rintro e wl ⟨vl2, rfl, ho, hb⟩; (try have HT := Lib.hid (HT.out.below hb)); (try have HLF := Lib.hid (HLF.out.below hb)); (try have HLG := Lib.hid (HLG.out.below hb)); (try have HSI := Lib.hid (HSI.out.below hb)); (try have HR := Lib.hid (HR.out.below hb)); (try have HFI := Lib.hid (HFI.out.below hb)); (try have HGI := Lib.hid (HGI.out.below hb)); (try have HH := Lib.hid (HH.out.below hb HH.out.lt)); have HLG := Lib.hid (ho.ints (by rw [List.length_take]; omega)); clear ho; have HB := Lib.hid (HB.out.trans (hb.mono HB.out.size)); clear hb)
    | (go_at_call 30; refine (PP.out _ _ _ _ HT.out HLF.out HLG.out).mono ?_; rintro e wp ⟨rfl, hb⟩; clear HT HLF HLG; (try have HT := Lib.hid (HT.out.below hb)); (try have HLF := Lib.hid (HLF.out.below hb)); (try have HLG := Lib.hid (HLG.out.below hb)); (try have HSI := Lib.hid (HSI.out.below hb)); (try have HR := Lib.hid (HR.out.below hb)); (try have HFI := Lib.hid (HFI.out.below hb)); (try have HGI := Lib.hid (HGI.out.below hb)); (try have HH := Lib.hid (HH.out.below hb HH.out.lt)); have HB := Lib.hid (HB.out.trans (hb.mono HB.out.size)); clear hb)
    | (go_at_call 31; refine (PS.out _ _ _ HT.out HLF.out).mono ?_; rintro e wp ⟨s1, rfl, hs1, hb⟩; clear HT HLF; (try have HT := Lib.hid (HT.out.below hb)); (try have HLF := Lib.hid (HLF.out.below hb)); (try have HLG := Lib.hid (HLG.out.below hb)); (try have HSI := Lib.hid (HSI.out.below hb)); (try have HR := Lib.hid (HR.out.below hb)); (try have HFI := Lib.hid (HFI.out.below hb)); (try have HGI := Lib.hid (HGI.out.below hb)); (try have HH := Lib.hid (HH.out.below hb HH.out.lt)); have HSI := Lib.hid hs1; obtain ⟨as1, cs1, rfl, -, -, -⟩ := id hs1; clear hs1; have HB := Lib.hid (HB.out.trans (hb.mono HB.out.size)); clear hb)
    | (go_at_call 13; refine (MD.out _ HB.out).mono ?_; rintro e wm ⟨a1, n1, c1, a2, n2, c2, a3, n3, c3, a4, n4, c4, a5, n5, c5, q, rfl, hb⟩; (try have HT := Lib.hid (HT.out.below hb)); (try have HLF := Lib.hid (HLF.out.below hb)); (try have HLG := Lib.hid (HLG.out.below hb)); (try have HSI := Lib.hid (HSI.out.below hb)); (try have HR := Lib.hid (HR.out.below hb)); (try have HFI := Lib.hid (HFI.out.below hb)); (try have HGI := Lib.hid (HGI.out.below hb)); (try have HH := Lib.hid (HH.out.below hb HH.out.lt)); have HB := Lib.hid (HB.out.trans (hb.mono HB.out.size)); clear hb)
    | ((with_reducible refine is_store 29 ?_); refine wpl_store_all infoRG (by rfl) _ _ (by rfl) wm.heap.size [.slice a1 n1 c1, .slice a2 n2 c2, .slice a3 n3 c3, .slice a4 n4 c4, .slice a5 n5 c5, .int .i64 q] z6 (by rfl) (by rfl) (by simp [Value.oneCell']) (by rfl) (by rfl) (Held.made (l := z6) rfl) ?_; intro ws hh hs hz; have hb : Below wm.heap.size wm ws := (hs.below ((Below.refl _ _).alloc (Nat.le_refl _) _) (Nat.le_refl _) (by simp)); (try have HT := Lib.hid (HT.out.below hb)); (try have HLF := Lib.hid (HLF.out.below hb)); (try have HLG := Lib.hid (HLG.out.below hb)); (try have HSI := Lib.hid (HSI.out.below hb)); (try have HR := Lib.hid (HR.out.below hb)); (try have HFI := Lib.hid (HFI.out.below hb)); (try have HGI := Lib.hid (HGI.out.below hb)); (try have HH := Lib.hid (HH.out.below hb HH.out.lt)); clear hh hs hz; have HB := Lib.hid (HB.out.trans (hb.mono HB.out.size)); clear hb)
    | (go_at_call 14; refine (AW.out _).mono ?_; rintro e wa ⟨rfl, hb⟩; (try have HT := Lib.hid (HT.out.below hb)); (try have HLF := Lib.hid (HLF.out.below hb)); (try have HLG := Lib.hid (HLG.out.below hb)); (try have HSI := Lib.hid (HSI.out.below hb)); (try have HR := Lib.hid (HR.out.below hb)); (try have HFI := Lib.hid (HFI.out.below hb)); (try have HGI := Lib.hid (HGI.out.below hb)); (try have HH := Lib.hid (HH.out.below hb HH.out.lt)); (try (have hc0 := HH.out.at (i := 0) rfl; have hc1 := HH.out.at (i := 1) rfl; have hc2 := HH.out.at (i := 2) rfl; have hc3 := HH.out.at (i := 3) rfl; have hc4 := HH.out.at (i := 4) rfl; have hc5 := HH.out.at (i := 5) rfl)); have HB := Lib.hid (HB.out.trans (hb.mono HB.out.size)); clear hb))
  go_ret
  exact ⟨rfl, HB.out⟩
set_option maxRecDepth 100000 in
set_option maxHeartbeats 4000000 in
theorem products_bad {E : List (List Nat)} {d : Nat} (v vf vh : Value) (L : List (List Int)) (F G : List Int) (w : World) (h : Args w v L) (hf : Ints w vf F) (hh : Ints w vh G) (hQ : ProdQ L F G 0 2 [] 2)
    (hM2 : ∀ w', Args w' v L → Calls Tryz.prog 13 #[v] w' fun e w2 => ∃ gv, e = .returned (.tuple #[gv, .int .i64 0]) ∧ RGI d E w2 gv ∧ Below w'.heap.size w' w2)
    (hF1 : ∀ gv w', RGI d E w' gv → Ints w' vf F → Calls Tryz.prog 32 #[gv, vf] w' fun e w2 => e = .returned (.bool false) ∧ Below w'.heap.size w' w2) :
    Calls Tryz.prog 7 #[v, vf, vh] w fun e w' => e = .returned (.bool true) ∧ Below w.heap.size w w' := by
  have TA := Lib.hid (fun w' (hb : Below w.heap.size w w') => table_any v L w' (h.below hb))
  have LF := Lib.hid (fun w' (hb : Below w.heap.size w w') => list_any vf F w' (hf.below hb))
  have LG := Lib.hid (fun w' (hb : Below w.heap.size w w') => list_any vh G w' (hh.below hb))
  have PP := Lib.hid hQ.p
  have PS := Lib.hid hQ.s
  have AW := Lib.hid awake_any
  have HB := Lib.hid (Below.refl w.heap.size w)
  have HTL := Lib.hid (show (tabA L).length ≤ 1000000 by have := tabA_len L; omega)
  have MD := Lib.hid (fun w' (hb : Below w.heap.size w w') => hM2 w' (h.below hb))
  have F1 := Lib.hid hF1
  have HFW := Lib.hid hf
  have HGW := Lib.hid hh
  obtain ⟨af, cf, rfl, -, -, -⟩ := id hf
  obtain ⟨ah, ch, rfl, -, -, -⟩ := id hh
  obtain ⟨lf, hlf⟩ : ∃ x, F.length = x := ⟨_, rfl⟩
  obtain ⟨lh, hlh⟩ : ∃ x, G.length = x := ⟨_, rfl⟩
  rw [hlf] at LF HFW F1 ⊢
  rw [hlh] at LG HGW ⊢
  clear h hf hh hQ hM2 hF1 hlf hlh HGW
  go_enter Tryz.func7, Tryz.ntmps7
  go_wp2_with (first
    | (go_at_call 12; refine (TA.out _ HB.out).mono ?_; rintro e wt ⟨u, S, rfl, hg, hb⟩; (try have HT := Lib.hid (HT.out.below hb)); (try have HLF := Lib.hid (HLF.out.below hb)); (try have HLG := Lib.hid (HLG.out.below hb)); (try have HSI := Lib.hid (HSI.out.below hb)); (try have HR := Lib.hid (HR.out.below hb)); (try have HFI := Lib.hid (HFI.out.below hb)); (try have HGI := Lib.hid (HGI.out.below hb)); (try have HH := Lib.hid (HH.out.below hb HH.out.lt)); have HT := Lib.hid (hg.1.args HTL.out); clear hg; have HB := Lib.hid (HB.out.trans (hb.mono HB.out.size)); clear hb)
    | (go_at_call 24; refine (LF.out _ HB.out).mono ?_; rintro e wl ⟨vl, rfl, ho, hb⟩; (try have HT := Lib.hid (HT.out.below hb)); (try have HLF := Lib.hid (HLF.out.below hb)); (try have HLG := Lib.hid (HLG.out.below hb)); (try have HSI := Lib.hid (HSI.out.below hb)); (try have HR := Lib.hid (HR.out.below hb)); (try have HFI := Lib.hid (HFI.out.below hb)); (try have HGI := Lib.hid (HGI.out.below hb)); (try have HH := Lib.hid (HH.out.below hb HH.out.lt)); have HLF := Lib.hid (ho.ints (by rw [List.length_take]; omega)); clear ho; have HB := Lib.hid (HB.out.trans (hb.mono HB.out.size)); clear hb)
    | (go_at_call 24; refine (LG.out _ HB.out).mono ?_; rintro e wl ⟨vl2, rfl, ho, hb⟩; (try have HT := Lib.hid (HT.out.below hb)); (try have HLF := Lib.hid (HLF.out.below hb)); (try have HLG := Lib.hid (HLG.out.below hb)); (try have HSI := Lib.hid (HSI.out.below hb)); (try have HR := Lib.hid (HR.out.below hb)); (try have HFI := Lib.hid (HFI.out.below hb)); (try have HGI := Lib.hid (HGI.out.below hb)); (try have HH := Lib.hid (HH.out.below hb HH.out.lt)); have HLG := Lib.hid (ho.ints (by rw [List.length_take]; omega)); clear ho; have HB := Lib.hid (HB.out.trans (hb.mono HB.out.size)); clear hb)
    | (go_at_call 30; refine (PP.out _ _ _ _ HT.out HLF.out HLG.out).mono ?_; rintro e wp ⟨rfl, hb⟩; clear HT HLF HLG; (try have HT := Lib.hid (HT.out.below hb)); (try have HLF := Lib.hid (HLF.out.below hb)); (try have HLG := Lib.hid (HLG.out.below hb)); (try have HSI := Lib.hid (HSI.out.below hb)); (try have HR := Lib.hid (HR.out.below hb)); (try have HFI := Lib.hid (HFI.out.below hb)); (try have HGI := Lib.hid (HGI.out.below hb)); (try have HH := Lib.hid (HH.out.below hb HH.out.lt)); have HB := Lib.hid (HB.out.trans (hb.mono HB.out.size)); clear hb)
    | (go_at_call 31; refine (PS.out _ _ _ HT.out HLF.out).mono ?_; rintro e wp ⟨s1, rfl, hs1, hb⟩; clear HT HLF; (try have HT := Lib.hid (HT.out.below hb)); (try have HLF := Lib.hid (HLF.out.below hb)); (try have HLG := Lib.hid (HLG.out.below hb)); (try have HSI := Lib.hid (HSI.out.below hb)); (try have HR := Lib.hid (HR.out.below hb)); (try have HFI := Lib.hid (HFI.out.below hb)); (try have HGI := Lib.hid (HGI.out.below hb)); (try have HH := Lib.hid (HH.out.below hb HH.out.lt)); have HSI := Lib.hid hs1; obtain ⟨as1, cs1, rfl, -, -, -⟩ := id hs1; clear hs1; have HB := Lib.hid (HB.out.trans (hb.mono HB.out.size)); clear hb)
    | (go_at_call 13; refine (MD.out _ HB.out).mono ?_; rintro e wm ⟨gv, rfl, hr, hb⟩; obtain ⟨a1, n1, c1, a2, n2, c2, a3, n3, c3, a4, n4, c4, a5, n5, c5, rfl⟩ := hr.slices; (try have HT := Lib.hid (HT.out.below hb)); (try have HLF := Lib.hid (HLF.out.below hb)); (try have HLG := Lib.hid (HLG.out.below hb)); (try have HSI := Lib.hid (HSI.out.below hb)); (try have HR := Lib.hid (HR.out.below hb)); (try have HFI := Lib.hid (HFI.out.below hb)); (try have HGI := Lib.hid (HGI.out.below hb)); (try have HH := Lib.hid (HH.out.below hb HH.out.lt)); have HR := Lib.hid hr; clear hr; have HB := Lib.hid (HB.out.trans (hb.mono HB.out.size)); clear hb)
    | ((with_reducible refine is_store 29 ?_); refine wpl_store_all infoRG (by rfl) _ _ (by rfl) wm.heap.size [.slice a1 n1 c1, .slice a2 n2 c2, .slice a3 n3 c3, .slice a4 n4 c4, .slice a5 n5 c5, .int .i64 (primeN E d : Nat)] z6 (by rfl) (by rfl) (by simp [Value.oneCell']) (by rfl) (by rfl) (Held.made (l := z6) rfl) ?_; intro ws hh hs hz; have hb : Below wm.heap.size wm ws := (hs.below ((Below.refl _ _).alloc (Nat.le_refl _) _) (Nat.le_refl _) (by simp)); (try have HT := Lib.hid (HT.out.below hb)); (try have HLF := Lib.hid (HLF.out.below hb)); (try have HLG := Lib.hid (HLG.out.below hb)); (try have HSI := Lib.hid (HSI.out.below hb)); (try have HR := Lib.hid (HR.out.below hb)); (try have HFI := Lib.hid (HFI.out.below hb)); (try have HGI := Lib.hid (HGI.out.below hb)); (try have HH := Lib.hid (HH.out.below hb HH.out.lt)); have HH := Lib.hid hh; clear hh hs hz; have hc0 := HH.out.at (i := 0) rfl; have hc1 := HH.out.at (i := 1) rfl; have hc2 := HH.out.at (i := 2) rfl; have hc3 := HH.out.at (i := 3) rfl; have hc4 := HH.out.at (i := 4) rfl; have hc5 := HH.out.at (i := 5) rfl; have HB := Lib.hid (HB.out.trans (hb.mono HB.out.size)); clear hb)
    | ((with_reducible refine is_load 29 ?_); refine wpl_load_rg (by rfl) _ (by rfl) wm.heap.size [.slice a1 n1 c1, .slice a2 n2 c2, .slice a3 n3 c3, .slice a4 n4 c4, .slice a5 n5 c5, .int .i64 (primeN E d : Nat)] rfl (by rfl) HH.out ?_)
    | (go_at_call 32; refine (F1.out _ _ HR.out ((HFW.out).below HB.out)).mono ?_; rintro e wf ⟨rfl, hb⟩; clear F1; (try have HT := Lib.hid (HT.out.below hb)); (try have HLF := Lib.hid (HLF.out.below hb)); (try have HLG := Lib.hid (HLG.out.below hb)); (try have HSI := Lib.hid (HSI.out.below hb)); (try have HR := Lib.hid (HR.out.below hb)); (try have HFI := Lib.hid (HFI.out.below hb)); (try have HGI := Lib.hid (HGI.out.below hb)); (try have HH := Lib.hid (HH.out.below hb HH.out.lt)); have hc0 := HH.out.at (i := 0) rfl; have hc1 := HH.out.at (i := 1) rfl; have hc2 := HH.out.at (i := 2) rfl; have hc3 := HH.out.at (i := 3) rfl; have hc4 := HH.out.at (i := 4) rfl; have hc5 := HH.out.at (i := 5) rfl; have HB := Lib.hid (HB.out.trans (hb.mono HB.out.size)); clear hb)
    | (go_at_call 14; refine (AW.out _).mono ?_; rintro e wa ⟨rfl, hb⟩; (try have HT := Lib.hid (HT.out.below hb)); (try have HLF := Lib.hid (HLF.out.below hb)); (try have HLG := Lib.hid (HLG.out.below hb)); (try have HSI := Lib.hid (HSI.out.below hb)); (try have HR := Lib.hid (HR.out.below hb)); (try have HFI := Lib.hid (HFI.out.below hb)); (try have HGI := Lib.hid (HGI.out.below hb)); (try have HH := Lib.hid (HH.out.below hb HH.out.lt)); (try (have hc0 := HH.out.at (i := 0) rfl; have hc1 := HH.out.at (i := 1) rfl; have hc2 := HH.out.at (i := 2) rfl; have hc3 := HH.out.at (i := 3) rfl; have hc4 := HH.out.at (i := 4) rfl; have hc5 := HH.out.at (i := 5) rfl)); have HB := Lib.hid (HB.out.trans (hb.mono HB.out.size)); clear hb))
  go_ret
  exact ⟨rfl, HB.out⟩
set_option maxRecDepth 100000 in
set_option maxHeartbeats 4000000 in
theorem products_half {E : List (List Nat)} {d : Nat} (v vf vh : Value) (L : List (List Int)) (F G : List Int) (w : World) (h : Args w v L) (hf : Ints w vf F) (hh : Ints w vh G) (SL : List Int) (hQ : ProdQ L F G 0 2 SL 0)
    (hM2 : ∀ w', Args w' v L → Calls Tryz.prog 13 #[v] w' fun e w2 => ∃ gv, e = .returned (.tuple #[gv, .int .i64 0]) ∧ RGI d E w2 gv ∧ Below w'.heap.size w' w2)
    (hF1 : ∀ gv w', RGI d E w' gv → Ints w' vf F → Calls Tryz.prog 32 #[gv, vf] w' fun e w2 => e = .returned (.bool true) ∧ Below w'.heap.size w' w2)
    (hF2 : ∀ gv w', RGI d E w' gv → Ints w' vh G → Calls Tryz.prog 32 #[gv, vh] w' fun e w2 => e = .returned (.bool false) ∧ Below w'.heap.size w' w2)
    (hS : ∀ gv w', RGI d E w' gv → Ints w' vf F → Calls Tryz.prog 33 #[gv, vf] w' fun e w2 => ∃ s, e = .returned s ∧ Ints w2 s SL ∧ Below w'.heap.size w' w2) :
    Calls Tryz.prog 7 #[v, vf, vh] w fun e w' => e = .returned (.bool true) ∧ Below w.heap.size w w' := by
  have TA := Lib.hid (fun w' (hb : Below w.heap.size w w') => table_any v L w' (h.below hb))
  have LF := Lib.hid (fun w' (hb : Below w.heap.size w w') => list_any vf F w' (hf.below hb))
  have LG := Lib.hid (fun w' (hb : Below w.heap.size w w') => list_any vh G w' (hh.below hb))
  have PP := Lib.hid hQ.p
  have PS := Lib.hid hQ.s
  have AW := Lib.hid awake_any
  have HB := Lib.hid (Below.refl w.heap.size w)
  have HTL := Lib.hid (show (tabA L).length ≤ 1000000 by have := tabA_len L; omega)
  have MD := Lib.hid (fun w' (hb : Below w.heap.size w w') => hM2 w' (h.below hb))
  have F1 := Lib.hid hF1
  have F2 := Lib.hid hF2
  have RS := Lib.hid hS
  have HFW := Lib.hid hf
  have HGW := Lib.hid hh
  obtain ⟨af, cf, rfl, -, -, -⟩ := id hf
  obtain ⟨ah, ch, rfl, -, -, -⟩ := id hh
  obtain ⟨lf, hlf⟩ : ∃ x, F.length = x := ⟨_, rfl⟩
  obtain ⟨lh, hlh⟩ : ∃ x, G.length = x := ⟨_, rfl⟩
  rw [hlf] at LF HFW F1 RS ⊢
  rw [hlh] at LG HGW F2 ⊢
  clear h hf hh hQ hM2 hF1 hF2 hS hlf hlh
  go_enter Tryz.func7, Tryz.ntmps7
  go_wp2_with (first
    | (go_at_call 12; refine (TA.out _ HB.out).mono ?_; rintro e wt ⟨u, S, rfl, hg, hb⟩; (try have HT := Lib.hid (HT.out.below hb)); (try have HLF := Lib.hid (HLF.out.below hb)); (try have HLG := Lib.hid (HLG.out.below hb)); (try have HSI := Lib.hid (HSI.out.below hb)); (try have HR := Lib.hid (HR.out.below hb)); (try have HFI := Lib.hid (HFI.out.below hb)); (try have HGI := Lib.hid (HGI.out.below hb)); (try have HH := Lib.hid (HH.out.below hb HH.out.lt)); have HT := Lib.hid (hg.1.args HTL.out); clear hg; have HB := Lib.hid (HB.out.trans (hb.mono HB.out.size)); clear hb)
    | (go_at_call 24; refine (LF.out _ HB.out).mono ?_; rintro e wl ⟨vl, rfl, ho, hb⟩; (try have HT := Lib.hid (HT.out.below hb)); (try have HLF := Lib.hid (HLF.out.below hb)); (try have HLG := Lib.hid (HLG.out.below hb)); (try have HSI := Lib.hid (HSI.out.below hb)); (try have HR := Lib.hid (HR.out.below hb)); (try have HFI := Lib.hid (HFI.out.below hb)); (try have HGI := Lib.hid (HGI.out.below hb)); (try have HH := Lib.hid (HH.out.below hb HH.out.lt)); have HLF := Lib.hid (ho.ints (by rw [List.length_take]; omega)); clear ho; have HB := Lib.hid (HB.out.trans (hb.mono HB.out.size)); clear hb)
    | (go_at_call 24; refine (LG.out _ HB.out).mono ?_; rintro e wl ⟨vl2, rfl, ho, hb⟩; (try have HT := Lib.hid (HT.out.below hb)); (try have HLF := Lib.hid (HLF.out.below hb)); (try have HLG := Lib.hid (HLG.out.below hb)); (try have HSI := Lib.hid (HSI.out.below hb)); (try have HR := Lib.hid (HR.out.below hb)); (try have HFI := Lib.hid (HFI.out.below hb)); (try have HGI := Lib.hid (HGI.out.below hb)); (try have HH := Lib.hid (HH.out.below hb HH.out.lt)); have HLG := Lib.hid (ho.ints (by rw [List.length_take]; omega)); clear ho; have HB := Lib.hid (HB.out.trans (hb.mono HB.out.size)); clear hb)
    | (go_at_call 30; refine (PP.out _ _ _ _ HT.out HLF.out HLG.out).mono ?_; rintro e wp ⟨rfl, hb⟩; clear HT HLF HLG; (try have HT := Lib.hid (HT.out.below hb)); (try have HLF := Lib.hid (HLF.out.below hb)); (try have HLG := Lib.hid (HLG.out.below hb)); (try have HSI := Lib.hid (HSI.out.below hb)); (try have HR := Lib.hid (HR.out.below hb)); (try have HFI := Lib.hid (HFI.out.below hb)); (try have HGI := Lib.hid (HGI.out.below hb)); (try have HH := Lib.hid (HH.out.below hb HH.out.lt)); have HB := Lib.hid (HB.out.trans (hb.mono HB.out.size)); clear hb)
    | (go_at_call 31; refine (PS.out _ _ _ HT.out HLF.out).mono ?_; rintro e wp ⟨s1, rfl, hs1, hb⟩; clear HT HLF; (try have HT := Lib.hid (HT.out.below hb)); (try have HLF := Lib.hid (HLF.out.below hb)); (try have HLG := Lib.hid (HLG.out.below hb)); (try have HSI := Lib.hid (HSI.out.below hb)); (try have HR := Lib.hid (HR.out.below hb)); (try have HFI := Lib.hid (HFI.out.below hb)); (try have HGI := Lib.hid (HGI.out.below hb)); (try have HH := Lib.hid (HH.out.below hb HH.out.lt)); have HSI := Lib.hid hs1; obtain ⟨as1, cs1, rfl, -, -, -⟩ := id hs1; clear hs1; have HB := Lib.hid (HB.out.trans (hb.mono HB.out.size)); clear hb)
    | (go_at_call 13; refine (MD.out _ HB.out).mono ?_; rintro e wm ⟨gv, rfl, hr, hb⟩; obtain ⟨a1, n1, c1, a2, n2, c2, a3, n3, c3, a4, n4, c4, a5, n5, c5, rfl⟩ := hr.slices; (try have HT := Lib.hid (HT.out.below hb)); (try have HLF := Lib.hid (HLF.out.below hb)); (try have HLG := Lib.hid (HLG.out.below hb)); (try have HSI := Lib.hid (HSI.out.below hb)); (try have HR := Lib.hid (HR.out.below hb)); (try have HFI := Lib.hid (HFI.out.below hb)); (try have HGI := Lib.hid (HGI.out.below hb)); (try have HH := Lib.hid (HH.out.below hb HH.out.lt)); have HR := Lib.hid hr; clear hr; have HB := Lib.hid (HB.out.trans (hb.mono HB.out.size)); clear hb)
    | ((with_reducible refine is_store 29 ?_); refine wpl_store_all infoRG (by rfl) _ _ (by rfl) wm.heap.size [.slice a1 n1 c1, .slice a2 n2 c2, .slice a3 n3 c3, .slice a4 n4 c4, .slice a5 n5 c5, .int .i64 (primeN E d : Nat)] z6 (by rfl) (by rfl) (by simp [Value.oneCell']) (by rfl) (by rfl) (Held.made (l := z6) rfl) ?_; intro ws hh hs hz; have hb : Below wm.heap.size wm ws := (hs.below ((Below.refl _ _).alloc (Nat.le_refl _) _) (Nat.le_refl _) (by simp)); (try have HT := Lib.hid (HT.out.below hb)); (try have HLF := Lib.hid (HLF.out.below hb)); (try have HLG := Lib.hid (HLG.out.below hb)); (try have HSI := Lib.hid (HSI.out.below hb)); (try have HR := Lib.hid (HR.out.below hb)); (try have HFI := Lib.hid (HFI.out.below hb)); (try have HGI := Lib.hid (HGI.out.below hb)); (try have HH := Lib.hid (HH.out.below hb HH.out.lt)); have HH := Lib.hid hh; clear hh hs hz; have hc0 := HH.out.at (i := 0) rfl; have hc1 := HH.out.at (i := 1) rfl; have hc2 := HH.out.at (i := 2) rfl; have hc3 := HH.out.at (i := 3) rfl; have hc4 := HH.out.at (i := 4) rfl; have hc5 := HH.out.at (i := 5) rfl; have HB := Lib.hid (HB.out.trans (hb.mono HB.out.size)); clear hb)
    | ((with_reducible refine is_load 29 ?_); refine wpl_load_rg (by rfl) _ (by rfl) wm.heap.size [.slice a1 n1 c1, .slice a2 n2 c2, .slice a3 n3 c3, .slice a4 n4 c4, .slice a5 n5 c5, .int .i64 (primeN E d : Nat)] rfl (by rfl) HH.out ?_)
    | (go_at_call 32; refine (F1.out _ _ HR.out ((HFW.out).below HB.out)).mono ?_; rintro e wf ⟨rfl, hb⟩; clear F1; (try have HT := Lib.hid (HT.out.below hb)); (try have HLF := Lib.hid (HLF.out.below hb)); (try have HLG := Lib.hid (HLG.out.below hb)); (try have HSI := Lib.hid (HSI.out.below hb)); (try have HR := Lib.hid (HR.out.below hb)); (try have HFI := Lib.hid (HFI.out.below hb)); (try have HGI := Lib.hid (HGI.out.below hb)); (try have HH := Lib.hid (HH.out.below hb HH.out.lt)); have hc0 := HH.out.at (i := 0) rfl; have hc1 := HH.out.at (i := 1) rfl; have hc2 := HH.out.at (i := 2) rfl; have hc3 := HH.out.at (i := 3) rfl; have hc4 := HH.out.at (i := 4) rfl; have hc5 := HH.out.at (i := 5) rfl; have HB := Lib.hid (HB.out.trans (hb.mono HB.out.size)); clear hb)
    | (go_at_call 32; refine (F2.out _ _ HR.out ((HGW.out).below HB.out)).mono ?_; rintro e wf ⟨rfl, hb⟩; clear F2; (try have HT := Lib.hid (HT.out.below hb)); (try have HLF := Lib.hid (HLF.out.below hb)); (try have HLG := Lib.hid (HLG.out.below hb)); (try have HSI := Lib.hid (HSI.out.below hb)); (try have HR := Lib.hid (HR.out.below hb)); (try have HFI := Lib.hid (HFI.out.below hb)); (try have HGI := Lib.hid (HGI.out.below hb)); (try have HH := Lib.hid (HH.out.below hb HH.out.lt)); have hc0 := HH.out.at (i := 0) rfl; have hc1 := HH.out.at (i := 1) rfl; have hc2 := HH.out.at (i := 2) rfl; have hc3 := HH.out.at (i := 3) rfl; have hc4 := HH.out.at (i := 4) rfl; have hc5 := HH.out.at (i := 5) rfl; have HB := Lib.hid (HB.out.trans (hb.mono HB.out.size)); clear hb)
    | (go_at_call 33; refine (RS.out _ _ HR.out (HFW.out.below HB.out)).mono ?_; rintro e wf ⟨s2, rfl, hs2, hb⟩; (try have HT := Lib.hid (HT.out.below hb)); (try have HLF := Lib.hid (HLF.out.below hb)); (try have HLG := Lib.hid (HLG.out.below hb)); (try have HSI := Lib.hid (HSI.out.below hb)); (try have HR := Lib.hid (HR.out.below hb)); (try have HFI := Lib.hid (HFI.out.below hb)); (try have HGI := Lib.hid (HGI.out.below hb)); (try have HH := Lib.hid (HH.out.below hb HH.out.lt)); have HSJ := Lib.hid hs2; obtain ⟨as2, cs2, rfl, -, -, -⟩ := id hs2; clear hs2; have hc0 := HH.out.at (i := 0) rfl; have hc1 := HH.out.at (i := 1) rfl; have hc2 := HH.out.at (i := 2) rfl; have hc3 := HH.out.at (i := 3) rfl; have hc4 := HH.out.at (i := 4) rfl; have hc5 := HH.out.at (i := 5) rfl; have HB := Lib.hid (HB.out.trans (hb.mono HB.out.size)); clear hb)
    | (go_at_call 28; refine (Equal_any _ _ _ _ _ HSI.out HSJ.out).mono ?_; rintro e wg ⟨rfl, hb⟩; have HD := Lib.hid (show decide (SL = SL) = true by simp); rw [HD.out]; (try have HT := Lib.hid (HT.out.below hb)); (try have HLF := Lib.hid (HLF.out.below hb)); (try have HLG := Lib.hid (HLG.out.below hb)); (try have HSI := Lib.hid (HSI.out.below hb)); (try have HR := Lib.hid (HR.out.below hb)); (try have HFI := Lib.hid (HFI.out.below hb)); (try have HGI := Lib.hid (HGI.out.below hb)); (try have HH := Lib.hid (HH.out.below hb HH.out.lt)); have hc0 := HH.out.at (i := 0) rfl; have hc1 := HH.out.at (i := 1) rfl; have hc2 := HH.out.at (i := 2) rfl; have hc3 := HH.out.at (i := 3) rfl; have hc4 := HH.out.at (i := 4) rfl; have hc5 := HH.out.at (i := 5) rfl; have HB := Lib.hid (HB.out.trans (hb.mono HB.out.size)); clear hb)
    | (go_at_call 14; refine (AW.out _).mono ?_; rintro e wa ⟨rfl, hb⟩; (try have HT := Lib.hid (HT.out.below hb)); (try have HLF := Lib.hid (HLF.out.below hb)); (try have HLG := Lib.hid (HLG.out.below hb)); (try have HSI := Lib.hid (HSI.out.below hb)); (try have HR := Lib.hid (HR.out.below hb)); (try have HFI := Lib.hid (HFI.out.below hb)); (try have HGI := Lib.hid (HGI.out.below hb)); (try have HH := Lib.hid (HH.out.below hb HH.out.lt)); (try (have hc0 := HH.out.at (i := 0) rfl; have hc1 := HH.out.at (i := 1) rfl; have hc2 := HH.out.at (i := 2) rfl; have hc3 := HH.out.at (i := 3) rfl; have hc4 := HH.out.at (i := 4) rfl; have hc5 := HH.out.at (i := 5) rfl)); have HB := Lib.hid (HB.out.trans (hb.mono HB.out.size)); clear hb))
  go_ret
  exact ⟨rfl, HB.out⟩
set_option maxRecDepth 100000 in
set_option maxHeartbeats 4000000 in
theorem products_both {E : List (List Nat)} {d : Nat} (v vf vh : Value) (L : List (List Int)) (F G : List Int) (w : World) (h : Args w v L) (hf : Ints w vf F) (hh : Ints w vh G) (n : Int) (SL : List Int) (hQ : ProdQ L F G n 0 SL 0)
    (hM2 : ∀ w', Args w' v L → Calls Tryz.prog 13 #[v] w' fun e w2 => ∃ gv, e = .returned (.tuple #[gv, .int .i64 0]) ∧ RGI d E w2 gv ∧ Below w'.heap.size w' w2)
    (hF1 : ∀ gv w', RGI d E w' gv → Ints w' vf F → Calls Tryz.prog 32 #[gv, vf] w' fun e w2 => e = .returned (.bool true) ∧ Below w'.heap.size w' w2)
    (hF2 : ∀ gv w', RGI d E w' gv → Ints w' vh G → Calls Tryz.prog 32 #[gv, vh] w' fun e w2 => e = .returned (.bool true) ∧ Below w'.heap.size w' w2)
    (hS : ∀ gv w', RGI d E w' gv → Ints w' vf F → Calls Tryz.prog 33 #[gv, vf] w' fun e w2 => ∃ s, e = .returned s ∧ Ints w2 s SL ∧ Below w'.heap.size w' w2)
    (hP : ∀ gv w', RGI d E w' gv → Ints w' vf F → Ints w' vh G → Calls Tryz.prog 34 #[gv, vf, vh] w' fun e w2 => e = .returned (.int .i64 n) ∧ Below w'.heap.size w' w2) :
    Calls Tryz.prog 7 #[v, vf, vh] w fun e w' => e = .returned (.bool true) ∧ Below w.heap.size w w' := by
  have TA := Lib.hid (fun w' (hb : Below w.heap.size w w') => table_any v L w' (h.below hb))
  have LF := Lib.hid (fun w' (hb : Below w.heap.size w w') => list_any vf F w' (hf.below hb))
  have LG := Lib.hid (fun w' (hb : Below w.heap.size w w') => list_any vh G w' (hh.below hb))
  have PP := Lib.hid hQ.p
  have PS := Lib.hid hQ.s
  have AW := Lib.hid awake_any
  have HB := Lib.hid (Below.refl w.heap.size w)
  have HTL := Lib.hid (show (tabA L).length ≤ 1000000 by have := tabA_len L; omega)
  have MD := Lib.hid (fun w' (hb : Below w.heap.size w w') => hM2 w' (h.below hb))
  have F1 := Lib.hid hF1
  have F2 := Lib.hid hF2
  have RS := Lib.hid hS
  have RP := Lib.hid hP
  have HFW := Lib.hid hf
  have HGW := Lib.hid hh
  obtain ⟨af, cf, rfl, -, -, -⟩ := id hf
  obtain ⟨ah, ch, rfl, -, -, -⟩ := id hh
  obtain ⟨lf, hlf⟩ : ∃ x, F.length = x := ⟨_, rfl⟩
  obtain ⟨lh, hlh⟩ : ∃ x, G.length = x := ⟨_, rfl⟩
  rw [hlf] at LF HFW F1 RS RP ⊢
  rw [hlh] at LG HGW F2 RP ⊢
  have hnn : (n == n) = true := by simp
  clear h hf hh hQ hM2 hF1 hF2 hS hP hlf hlh
  go_enter Tryz.func7, Tryz.ntmps7
  go_wp2_with (first
    | (go_at_call 12; refine (TA.out _ HB.out).mono ?_; rintro e wt ⟨u, S, rfl, hg, hb⟩; (try have HT := Lib.hid (HT.out.below hb)); (try have HLF := Lib.hid (HLF.out.below hb)); (try have HLG := Lib.hid (HLG.out.below hb)); (try have HSI := Lib.hid (HSI.out.below hb)); (try have HR := Lib.hid (HR.out.below hb)); (try have HFI := Lib.hid (HFI.out.below hb)); (try have HGI := Lib.hid (HGI.out.below hb)); (try have HH := Lib.hid (HH.out.below hb HH.out.lt)); have HT := Lib.hid (hg.1.args HTL.out); clear hg; have HB := Lib.hid (HB.out.trans (hb.mono HB.out.size)); clear hb)
    | (go_at_call 24; refine (LF.out _ HB.out).mono ?_; rintro e wl ⟨vl, rfl, ho, hb⟩; (try have HT := Lib.hid (HT.out.below hb)); (try have HLF := Lib.hid (HLF.out.below hb)); (try have HLG := Lib.hid (HLG.out.below hb)); (try have HSI := Lib.hid (HSI.out.below hb)); (try have HR := Lib.hid (HR.out.below hb)); (try have HFI := Lib.hid (HFI.out.below hb)); (try have HGI := Lib.hid (HGI.out.below hb)); (try have HH := Lib.hid (HH.out.below hb HH.out.lt)); have HLF := Lib.hid (ho.ints (by rw [List.length_take]; omega)); clear ho; have HB := Lib.hid (HB.out.trans (hb.mono HB.out.size)); clear hb)
    | (go_at_call 24; refine (LG.out _ HB.out).mono ?_; rintro e wl ⟨vl2, rfl, ho, hb⟩; (try have HT := Lib.hid (HT.out.below hb)); (try have HLF := Lib.hid (HLF.out.below hb)); (try have HLG := Lib.hid (HLG.out.below hb)); (try have HSI := Lib.hid (HSI.out.below hb)); (try have HR := Lib.hid (HR.out.below hb)); (try have HFI := Lib.hid (HFI.out.below hb)); (try have HGI := Lib.hid (HGI.out.below hb)); (try have HH := Lib.hid (HH.out.below hb HH.out.lt)); have HLG := Lib.hid (ho.ints (by rw [List.length_take]; omega)); clear ho; have HB := Lib.hid (HB.out.trans (hb.mono HB.out.size)); clear hb)
    | (go_at_call 30; refine (PP.out _ _ _ _ HT.out HLF.out HLG.out).mono ?_; rintro e wp ⟨rfl, hb⟩; clear HT HLF HLG; (try have HT := Lib.hid (HT.out.below hb)); (try have HLF := Lib.hid (HLF.out.below hb)); (try have HLG := Lib.hid (HLG.out.below hb)); (try have HSI := Lib.hid (HSI.out.below hb)); (try have HR := Lib.hid (HR.out.below hb)); (try have HFI := Lib.hid (HFI.out.below hb)); (try have HGI := Lib.hid (HGI.out.below hb)); (try have HH := Lib.hid (HH.out.below hb HH.out.lt)); have HB := Lib.hid (HB.out.trans (hb.mono HB.out.size)); clear hb)
    | (go_at_call 31; refine (PS.out _ _ _ HT.out HLF.out).mono ?_; rintro e wp ⟨s1, rfl, hs1, hb⟩; clear HT HLF; (try have HT := Lib.hid (HT.out.below hb)); (try have HLF := Lib.hid (HLF.out.below hb)); (try have HLG := Lib.hid (HLG.out.below hb)); (try have HSI := Lib.hid (HSI.out.below hb)); (try have HR := Lib.hid (HR.out.below hb)); (try have HFI := Lib.hid (HFI.out.below hb)); (try have HGI := Lib.hid (HGI.out.below hb)); (try have HH := Lib.hid (HH.out.below hb HH.out.lt)); have HSI := Lib.hid hs1; obtain ⟨as1, cs1, rfl, -, -, -⟩ := id hs1; clear hs1; have HB := Lib.hid (HB.out.trans (hb.mono HB.out.size)); clear hb)
    | (go_at_call 13; refine (MD.out _ HB.out).mono ?_; rintro e wm ⟨gv, rfl, hr, hb⟩; obtain ⟨a1, n1, c1, a2, n2, c2, a3, n3, c3, a4, n4, c4, a5, n5, c5, rfl⟩ := hr.slices; (try have HT := Lib.hid (HT.out.below hb)); (try have HLF := Lib.hid (HLF.out.below hb)); (try have HLG := Lib.hid (HLG.out.below hb)); (try have HSI := Lib.hid (HSI.out.below hb)); (try have HR := Lib.hid (HR.out.below hb)); (try have HFI := Lib.hid (HFI.out.below hb)); (try have HGI := Lib.hid (HGI.out.below hb)); (try have HH := Lib.hid (HH.out.below hb HH.out.lt)); have HR := Lib.hid hr; clear hr; have HB := Lib.hid (HB.out.trans (hb.mono HB.out.size)); clear hb)
    | ((with_reducible refine is_store 29 ?_); refine wpl_store_all infoRG (by rfl) _ _ (by rfl) wm.heap.size [.slice a1 n1 c1, .slice a2 n2 c2, .slice a3 n3 c3, .slice a4 n4 c4, .slice a5 n5 c5, .int .i64 (primeN E d : Nat)] z6 (by rfl) (by rfl) (by simp [Value.oneCell']) (by rfl) (by rfl) (Held.made (l := z6) rfl) ?_; intro ws hh hs hz; have hb : Below wm.heap.size wm ws := (hs.below ((Below.refl _ _).alloc (Nat.le_refl _) _) (Nat.le_refl _) (by simp)); (try have HT := Lib.hid (HT.out.below hb)); (try have HLF := Lib.hid (HLF.out.below hb)); (try have HLG := Lib.hid (HLG.out.below hb)); (try have HSI := Lib.hid (HSI.out.below hb)); (try have HR := Lib.hid (HR.out.below hb)); (try have HFI := Lib.hid (HFI.out.below hb)); (try have HGI := Lib.hid (HGI.out.below hb)); (try have HH := Lib.hid (HH.out.below hb HH.out.lt)); have HH := Lib.hid hh; clear hh hs hz; have hc0 := HH.out.at (i := 0) rfl; have hc1 := HH.out.at (i := 1) rfl; have hc2 := HH.out.at (i := 2) rfl; have hc3 := HH.out.at (i := 3) rfl; have hc4 := HH.out.at (i := 4) rfl; have hc5 := HH.out.at (i := 5) rfl; have HB := Lib.hid (HB.out.trans (hb.mono HB.out.size)); clear hb)
    | ((with_reducible refine is_load 29 ?_); refine wpl_load_rg (by rfl) _ (by rfl) wm.heap.size [.slice a1 n1 c1, .slice a2 n2 c2, .slice a3 n3 c3, .slice a4 n4 c4, .slice a5 n5 c5, .int .i64 (primeN E d : Nat)] rfl (by rfl) HH.out ?_)
    | (go_at_call 32; refine (F1.out _ _ HR.out ((HFW.out).below HB.out)).mono ?_; rintro e wf ⟨rfl, hb⟩; clear F1; (try have HT := Lib.hid (HT.out.below hb)); (try have HLF := Lib.hid (HLF.out.below hb)); (try have HLG := Lib.hid (HLG.out.below hb)); (try have HSI := Lib.hid (HSI.out.below hb)); (try have HR := Lib.hid (HR.out.below hb)); (try have HFI := Lib.hid (HFI.out.below hb)); (try have HGI := Lib.hid (HGI.out.below hb)); (try have HH := Lib.hid (HH.out.below hb HH.out.lt)); have hc0 := HH.out.at (i := 0) rfl; have hc1 := HH.out.at (i := 1) rfl; have hc2 := HH.out.at (i := 2) rfl; have hc3 := HH.out.at (i := 3) rfl; have hc4 := HH.out.at (i := 4) rfl; have hc5 := HH.out.at (i := 5) rfl; have HB := Lib.hid (HB.out.trans (hb.mono HB.out.size)); clear hb)
    | (go_at_call 32; refine (F2.out _ _ HR.out ((HGW.out).below HB.out)).mono ?_; rintro e wf ⟨rfl, hb⟩; clear F2; (try have HT := Lib.hid (HT.out.below hb)); (try have HLF := Lib.hid (HLF.out.below hb)); (try have HLG := Lib.hid (HLG.out.below hb)); (try have HSI := Lib.hid (HSI.out.below hb)); (try have HR := Lib.hid (HR.out.below hb)); (try have HFI := Lib.hid (HFI.out.below hb)); (try have HGI := Lib.hid (HGI.out.below hb)); (try have HH := Lib.hid (HH.out.below hb HH.out.lt)); have hc0 := HH.out.at (i := 0) rfl; have hc1 := HH.out.at (i := 1) rfl; have hc2 := HH.out.at (i := 2) rfl; have hc3 := HH.out.at (i := 3) rfl; have hc4 := HH.out.at (i := 4) rfl; have hc5 := HH.out.at (i := 5) rfl; have HB := Lib.hid (HB.out.trans (hb.mono HB.out.size)); clear hb)
    | (go_at_call 33; refine (RS.out _ _ HR.out (HFW.out.below HB.out)).mono ?_; rintro e wf ⟨s2, rfl, hs2, hb⟩; (try have HT := Lib.hid (HT.out.below hb)); (try have HLF := Lib.hid (HLF.out.below hb)); (try have HLG := Lib.hid (HLG.out.below hb)); (try have HSI := Lib.hid (HSI.out.below hb)); (try have HR := Lib.hid (HR.out.below hb)); (try have HFI := Lib.hid (HFI.out.below hb)); (try have HGI := Lib.hid (HGI.out.below hb)); (try have HH := Lib.hid (HH.out.below hb HH.out.lt)); have HSJ := Lib.hid hs2; obtain ⟨as2, cs2, rfl, -, -, -⟩ := id hs2; clear hs2; have hc0 := HH.out.at (i := 0) rfl; have hc1 := HH.out.at (i := 1) rfl; have hc2 := HH.out.at (i := 2) rfl; have hc3 := HH.out.at (i := 3) rfl; have hc4 := HH.out.at (i := 4) rfl; have hc5 := HH.out.at (i := 5) rfl; have HB := Lib.hid (HB.out.trans (hb.mono HB.out.size)); clear hb)
    | (go_at_call 28; refine (Equal_any _ _ _ _ _ HSI.out HSJ.out).mono ?_; rintro e wg ⟨rfl, hb⟩; have HD := Lib.hid (show decide (SL = SL) = true by simp); rw [HD.out]; (try have HT := Lib.hid (HT.out.below hb)); (try have HLF := Lib.hid (HLF.out.below hb)); (try have HLG := Lib.hid (HLG.out.below hb)); (try have HSI := Lib.hid (HSI.out.below hb)); (try have HR := Lib.hid (HR.out.below hb)); (try have HFI := Lib.hid (HFI.out.below hb)); (try have HGI := Lib.hid (HGI.out.below hb)); (try have HH := Lib.hid (HH.out.below hb HH.out.lt)); have hc0 := HH.out.at (i := 0) rfl; have hc1 := HH.out.at (i := 1) rfl; have hc2 := HH.out.at (i := 2) rfl; have hc3 := HH.out.at (i := 3) rfl; have hc4 := HH.out.at (i := 4) rfl; have hc5 := HH.out.at (i := 5) rfl; have HB := Lib.hid (HB.out.trans (hb.mono HB.out.size)); clear hb)
    | (go_at_call 14; refine (AW.out _).mono ?_; rintro e wa ⟨rfl, hb⟩; (try have HT := Lib.hid (HT.out.below hb)); (try have HLF := Lib.hid (HLF.out.below hb)); (try have HLG := Lib.hid (HLG.out.below hb)); (try have HSI := Lib.hid (HSI.out.below hb)); (try have HR := Lib.hid (HR.out.below hb)); (try have HFI := Lib.hid (HFI.out.below hb)); (try have HGI := Lib.hid (HGI.out.below hb)); (try have HH := Lib.hid (HH.out.below hb HH.out.lt)); (try (have hc0 := HH.out.at (i := 0) rfl; have hc1 := HH.out.at (i := 1) rfl; have hc2 := HH.out.at (i := 2) rfl; have hc3 := HH.out.at (i := 3) rfl; have hc4 := HH.out.at (i := 4) rfl; have hc5 := HH.out.at (i := 5) rfl)); have HB := Lib.hid (HB.out.trans (hb.mono HB.out.size)); clear hb)
    | (go_at_call 34; refine (RP.out _ _ HR.out (HFW.out.below HB.out) (HGW.out.below HB.out)).mono ?_; rintro e wf ⟨rfl, hb⟩; (try have HT := Lib.hid (HT.out.below hb)); (try have HLF := Lib.hid (HLF.out.below hb)); (try have HLG := Lib.hid (HLG.out.below hb)); (try have HSI := Lib.hid (HSI.out.below hb)); (try have HR := Lib.hid (HR.out.below hb)); (try have HFI := Lib.hid (HFI.out.below hb)); (try have HGI := Lib.hid (HGI.out.below hb)); (try have HH := Lib.hid (HH.out.below hb HH.out.lt)); have HB := Lib.hid (HB.out.trans (hb.mono HB.out.size)); clear hb))
  go_ret
  exact ⟨rfl, HB.out⟩
theorem tracesProducts_true (v : Value) (L : List (List Int)) (vf : Value) (F : List Int) (vh : Value) (G : List Int) (w : World) (h : Args w v L) (hf : Ints w vf F) (hh : Ints w vh G) : Calls Tryz.prog 7 #[v, vf, vh] w fun e w' => e = .returned (.bool true) ∧ Below w.heap.size w w' := by
  rcases three L with hq | ⟨hq, ho⟩ | ⟨hq, E, hg⟩
  · exact products_err v vf vh L F G w h hf hh 2 (by decide) ⟨fun u x y W ha _ _ => Product_no ha (by rw [genQ_tabA]; exact hq), fun u x W ha _ => (Split_no ha (by rw [genQ_tabA]; exact hq)).mono fun e w2 ⟨he, hb⟩ => ⟨_, he, ⟨none, 0, rfl, by simp, by simp, fun hne => absurd rfl hne⟩, hb⟩⟩ (madeQ_no hq)
  · have ht := tabA_eq (.inl hq)
    refine products_err v vf vh L F G w h hf hh 6 (by decide) ⟨fun u x y W ha _ _ => ?_, fun u x W ha _ => ?_⟩ (madeQ_over hq ho)
    · rw [ht] at ha
      exact Product_over ha hq ho
    · rw [ht] at ha
      exact (Split_over ha hq ho).mono fun e w2 ⟨he, hb⟩ => ⟨_, he, ⟨none, 0, rfl, by simp, by simp, fun hne => absurd rfl hne⟩, hb⟩
  · have ht := tabA_eq (.inl hq)
    have hp := genQ_perm hq
    have hgr := hg.grp fun q hq => by obtain ⟨p, hp1, rfl⟩ := List.mem_map.1 hq; exact hp.2.2.2.2.1 p hp1
    have h24 := hg.few
    have hfa := hgr.facts hp.2.2.1 hp.2.2.2.1 h24
    have hfg := hgr.fg hp.2.2.1 hp.2.2.2.1 h24
    have hcl : (classesN E).length = (repsN E E.length).length := by simp [classesN]
    have hm30 : (classesN E).length < 30 := by have := hfg.m24; omega
    have hlF : F.length ≤ 17592186044416 := by obtain ⟨_, _, _, h1, _⟩ := hf; exact h1
    have t30 : ∀ l : List Int, (l.take 30).length ≤ 1000000 := fun l => by rw [List.length_take]; omega
    obtain ⟨d, hd⟩ : ∃ d, (L.headD []).length = d := ⟨_, rfl⟩
    have hM2 : ∀ w', Args w' v L → Calls Tryz.prog 13 #[v] w' fun e w2 => ∃ gv, e = .returned (.tuple #[gv, .int .i64 0]) ∧ RGI d E w2 gv ∧ Below w'.heap.size w' w2 := by
      rw [← hd]; exact fun w' ha => made_yes ha hq hg
    have hPQ : ∀ u x y W, Args W u (tabA L) → Ints W x (F.take 30) → Ints W y (G.take 30) → Calls Tryz.prog 30 #[u, x, y] W fun r w2 => r = .returned (proR E d (F.take 30) (G.take 30)) ∧ Below W.heap.size W w2 := fun u x y W ha hx hy => by
      rw [ht] at ha
      rw [← hd]
      exact Product_yes ha hq hg hfg hx hy (t30 F) (t30 G)
    have hlG : G.length ≤ 17592186044416 := by obtain ⟨_, _, _, h1, _⟩ := hh; exact h1
    obtain ⟨f1, f2⟩ := funB_take (q := primeN E d) (l := F) hm30
    obtain ⟨g1, g2⟩ := funB_take (q := primeN E d) (l := G) hm30
    rw [hd] at hgr hfa hfg
    have hSP : ∀ u x W, Args W u (tabA L) → Ints W x (F.take 30) → funB (primeN E d) (classesN E).length F = true → Calls Tryz.prog 31 #[u, x] W fun r w2 => ∃ s, r = .returned (.tuple #[s, .int .i64 0]) ∧ Ints w2 s (toI (splE E d F)) ∧ Below W.heap.size W w2 := fun u x W ha hx hb => by
      rw [ht] at ha
      rw [f2 hb] at hx
      have hb' := hb
      rw [← hd] at hb' ⊢
      have hx30 : F.length ≤ 1000000 := by have := congrArg List.length (f2 hb); rw [List.length_take] at this; omega
      refine (Split_yes ha hq hg (by rw [hd]; exact hfg) hx hx30 hb').mono fun e w2 ⟨s, he, ho, hbb⟩ => ⟨s, he, ho.ints (by rw [toI_length]; unfold splE; rw [List.length_map, hd]; have := hfg.few; omega), hbb⟩
    have hlT : (tabRE E d).length ≤ 1000 := by
      have e1 := congrArg List.length hfa.ref
      rw [List.length_map] at e1
      have := hfa.few; omega
    have hrT : ∀ t ∈ tabRE E d, funB (primeN E d) (classesN E).length (toI t) = true := fun t ht => hfg.rows _ (by rw [← hfa.ref]; exact List.mem_map.2 ⟨t, ht, rfl⟩)
    have hszq : ∀ s ∈ szE E, s < primeN E d := fun s hs => by
      obtain ⟨l, hl, rfl⟩ := List.mem_map.1 hs
      have := (classes_len hl).1
      have := hfa.qn; omega
    have hprd : ∀ (a : List Nat) (b : List Int), (∀ x ∈ b, 0 ≤ x) → prodR (primeN E d) E.length (szE E) (backC E) (toI a) b = prdP (primeN E d) E.length (szE E) (backC E) a (b.map Int.toNat) := fun a b hb => by
      have := prodR_eq (q := primeN E d) (nE := E.length) (backC E) a (b.map Int.toNat) hfg.q1 hfg.ok hszq
      rw [toI_nat hb] at this
      exact this
    have hnat : ∀ a : List Nat, (toI a).map Int.toNat = a := fun a => by
      unfold toI
      rw [List.map_map]
      conv => rhs; rw [← List.map_id a]
      exact List.map_congr_left fun x _ => by simp
    have hRS : ∀ gv w', funB (primeN E d) (classesN E).length F = true → RGI d E w' gv → Ints w' vf F → Calls Tryz.prog 33 #[gv, vf] w' fun e w2 => ∃ s, e = .returned s ∧ Ints w2 s (toI (splE E d F)) ∧ Below w'.heap.size w' w2 := fun gv w' hb hr hi => by
      have hFQ : FunQ (primeN E d) (repsN E E.length).length F := by rw [← hcl]; exact funB_iff.1 hb
      refine (RSplit_any (T := tabRE E d) gv vf F w' hgr h24 hr hfa.q1 hfa.q2 rfl hlT (fun t ht => by rw [← hcl]; exact funB_iff.1 (hrT t ht)) hFQ hi).mono fun e w2 ⟨s, he, ho, hbb⟩ => ⟨s, he, ?_, hbb⟩
      have e1 : (tabRE E d).map (fun t => prodR (primeN E d) E.length (szE E) (backC E) (toI t) F) = splE E d F := by
        unfold splE
        rw [← hfa.ref, List.map_map]
        refine List.map_congr_left fun t _ => ?_
        show _ = prdI E d (toI t) F
        unfold prdI
        rw [hnat, hprd t F (fun x hx => (hFQ.2 x hx).1)]
      rw [e1] at ho
      exact ho.ints (by rw [toI_length, ← e1, List.length_map]; omega)
    cases hF : funB (primeN E d) (classesN E).length F with
    | false =>
      refine products_bad (E := E) (d := d) v vf vh L F G w h hf hh ⟨fun u x y W ha hx hy => ?_, fun u x W ha hx => ?_⟩ hM2 (fun gv w' hr hi => ?_)
      · have := hPQ u x y W ha hx hy
        unfold proR at this
        rw [f1, hF, if_neg (by simp)] at this
        exact this
      · rw [ht] at ha
        refine (Split_bad ha hq hg (by rw [hd]; exact hfg) hx (t30 F) (by rw [hd, f1]; exact hF)).mono fun e w2 ⟨he, hb⟩ => ⟨_, he, ⟨none, 0, rfl, by simp, by simp, fun hne => absurd rfl hne⟩, hb⟩
      · have hFl2 : Ints w' vf F := hi
        exact (RFunction_any gv vf F w' hgr hr hi hlF).mono fun e w2 ⟨he, hb⟩ => ⟨by rw [he, ← hcl, hF], hb⟩
    | true =>
      have R1 : ∀ gv w', RGI d E w' gv → Ints w' vf F → Calls Tryz.prog 32 #[gv, vf] w' fun e w2 => e = .returned (.bool true) ∧ Below w'.heap.size w' w2 := fun gv w' hr hi => (RFunction_any gv vf F w' hgr hr hi hlF).mono fun e w2 ⟨he, hb⟩ => ⟨by rw [he, ← hcl, hF], hb⟩
      cases hG : funB (primeN E d) (classesN E).length G with
      | false =>
        refine products_half (E := E) (d := d) v vf vh L F G w h hf hh (toI (splE E d F)) ⟨fun u x y W ha hx hy => ?_, fun u x W ha hx => hSP u x W ha hx hF⟩ hM2 R1 (fun gv w' hr hi => ?_) (fun gv w' hr hi => hRS gv w' hF hr hi)
        · have := hPQ u x y W ha hx hy
          unfold proR at this
          rw [f1, g1, hG, if_neg (by simp)] at this
          exact this
        · exact (RFunction_any gv vh G w' hgr hr hi hlG).mono fun e w2 ⟨he, hb⟩ => ⟨by rw [he, ← hcl, hG], hb⟩
      | true =>
        have hFQ := funB_iff.1 hF
        have hGQ := funB_iff.1 hG
        refine products_both (E := E) (d := d) v vf vh L F G w h hf hh ((prdI E d F G : Nat) : Int) (toI (splE E d F)) ⟨fun u x y W ha hx hy => ?_, fun u x W ha hx => hSP u x W ha hx hF⟩ hM2 R1 (fun gv w' hr hi => ?_) (fun gv w' hr hi => hRS gv w' hF hr hi) (fun gv w' hr hi hi2 => ?_)
        · have := hPQ u x y W ha hx hy
          unfold proR at this
          rw [f1, g1, hF, hG, if_pos ⟨rfl, rfl⟩, f2 hF, g2 hG] at this
          exact this
        · exact (RFunction_any gv vh G w' hgr hr hi hlG).mono fun e w2 ⟨he, hb⟩ => ⟨by rw [he, ← hcl, hG], hb⟩
        · refine (RProduct_any gv vf vh F G w' hgr h24 hr hfa.q1 hfa.q2 (by rw [← hcl]; exact hFQ) (by rw [← hcl]; exact hGQ) hi hi2).mono fun e w2 ⟨he, hb⟩ => ⟨?_, hb⟩
          have e1 := hprd (F.map Int.toNat) G (fun x hx => (hGQ.2 x hx).1)
          rw [toI_nat (fun x hx => (hFQ.2 x hx).1)] at e1
          rw [he, e1]; rfl
end Go.Proofs.YtdackakjcnnofaaGreat
