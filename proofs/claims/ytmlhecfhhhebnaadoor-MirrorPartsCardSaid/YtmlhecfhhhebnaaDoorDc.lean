/- Coset: the program's walk. -/
import Derived.Test.YtmlhecfhhhebnaaDoorDt
namespace Go.Proofs.YtmlhecfhhhebnaaDoor
open Go.RowKit

set_option maxRecDepth 20000 in
set_option maxHeartbeats 1000000 in
theorem Coset_no (K : Nat) (n : Int) (v : Value) (xs : List Int) (M : Int) (w : World) (hK : K < 256) (hx : Ints w v xs) (h : okI K n [xs] = false) :
    Calls Tryd.prog 5 #[grpI K n, v, .int .i64 M] w (WordErr w) := by
  have RD := Lib.hid (fun w' v' (ha : Args w' v' [xs]) => read_no K n v' [xs] w' hK ha h)
  have HX := Lib.hid (fun o : Obj => hx.below ((Below.refl _ _).alloc (Nat.le_refl _) o))
  obtain ⟨a, c, rfl, hx1⟩ := hx
  unfold grpI at *
  clear h hx1
  go_enter Tryd.func5, Tryd.ntmps5
  go_wp2_with (go_at_call 21; refine (RD.out _ _ (args1 (HX.out _) _ (by simp))).mono ?_; rintro e w1 ⟨rfl, hb1⟩)
  go_ret2
  exact ⟨rfl, below_al2 (Nat.le_refl _) hb1⟩

theorem pow_castM (m : Nat) : (2 : Int) ^ m = ((2 ^ m : Nat) : Int) := by rw [Int.natCast_pow]; rfl
theorem pow_le16 {m : Nat} (h : m ≤ 4) : (2 : Nat) ^ m ≤ 16 := Nat.pow_le_pow_right (n := 2) (by omega) h

set_option maxRecDepth 20000 in
set_option maxHeartbeats 2000000 in
theorem Coset_bad (K n : Nat) (v : Value) (xs : List Int) (M : Int) (w : World) (hv : validB K n = true) (hx : Ints w v xs) (h : wordB (mirs K n) xs = true) (hb : M < 0 ∨ (2 : Int) ^ mirs K n ≤ M) :
    Calls Tryd.prog 5 #[.agg #[.int .u8 (K : Nat), .int .i64 (n : Nat)], v, .int .i64 M] w (WordErr w) := by
  have RD := Lib.hid (fun w' v' (ha : Args w' v' [xs]) => read_yes K n v' [xs] w' hv ha (by simpa using h))
  have HX := Lib.hid (fun o : Obj => hx.below ((Below.refl _ _).alloc (Nat.le_refl _) o))
  have MR := Lib.hid (fun w' => mirrors_nat K n hv w')
  have hm4 := mirs_le hv
  obtain ⟨a, c, rfl, hx1⟩ := hx
  obtain ⟨m, hm⟩ : ∃ m, mirs K n = m := ⟨_, rfl⟩
  rw [hm] at MR hb hm4
  clear h hx1 hv hm
  by_cases h0 : M < 0
  · have d0 : decide (M < 0) = true := by simpa using h0
    clear hb h0
    go_enter Tryd.func5, Tryd.ntmps5
    go_wp2_with (go_at_call 21; refine (RD.out _ _ (args1 (HX.out _) _ (by simp))).mono ?_; rintro e w1 ⟨bT, v1, rfl, ht1, ho1, hb1⟩; obtain ⟨g1, c1, rfl, hc1⟩ := own_one ho1)
    go_ret2
    exact ⟨rfl, below_al2 (Nat.le_refl _) hb1⟩
  · have d0 : decide (M < 0) = false := by simpa using h0
    have h1 : (2 : Int) ^ m ≤ M := by omega
    have d1 : decide ((2 : Int) ^ m ≤ M) = true := by simpa using h1
    have q1 := pow_inM m (by omega)
    have q2 := pow_inM64 m (by omega)
    clear hb h0 h1
    go_enter Tryd.func5, Tryd.ntmps5
    go_wp2_with (first
      | (go_at_call 22; refine (MR.out _).mono ?_; rintro e w2 ⟨rfl, hb2⟩)
      | (go_at_call 21; refine (RD.out _ _ (args1 (HX.out _) _ (by simp))).mono ?_; rintro e w1 ⟨bT, v1, rfl, ht1, ho1, hb1⟩; obtain ⟨g1, c1, rfl, hc1⟩ := own_one ho1; have hB := below_al2 (Nat.le_refl _) hb1; have gg0 := (((Held.made (w := w) (l := [.int .u8 (K : Nat), .int .i64 (n : Nat)]) (t := 28) rfl).alloc _).below hb1 (by simp; omega)).at (i := 0) rfl; have gg1 := (((Held.made (w := w) (l := [.int .u8 (K : Nat), .int .i64 (n : Nat)]) (t := 28) rfl).alloc _).below hb1 (by simp; omega)).at (i := 1) rfl))
    go_ret2
    exact ⟨rfl, hB.trans (hb2.mono hB.size)⟩

theorem next_at {K n bT : Nat} {W X : List (List Nat)} {w : World} (ht : TabIs K n W X w bT) {u s y : Nat} {r : List Nat} (hu : u < X.length) (hr : X[u] = r) (hs : s < r.length) (hy : r[s] = y) :
    ∃ g cap b off rc, w.cell? ⟨bT, 3, none⟩ = some (.slice (some ⟨g, 0, none⟩) X.length cap) ∧ w.cell? ⟨g, u, none⟩ = some (.slice (some ⟨b, off, none⟩) r.length rc) ∧ w.cell? ⟨b, off + s, none⟩ = some (.int .i64 (y : Nat)) := by
  subst hr
  subst hy
  obtain ⟨vW, vX, vM, hh, _, hX⟩ := ht
  obtain ⟨g, cap, ra, rc, e, hgc, hrc, _, hrow⟩ := hX.cells u hu
  have ct := hh.at (i := 3) rfl
  obtain ⟨b, off, e2, hcell⟩ := hrow (by omega)
  subst e2
  subst e
  exact ⟨g, cap, b, off, rc, ct, hgc, hcell s hs⟩

set_option maxRecDepth 20000 in
set_option maxHeartbeats 3000000 in
theorem Coset_yes (K n : Nat) (v : Value) (xs : List Int) (M : Nat) (w : World) (hv : validB K n = true) (hx : Ints w v xs) (h : wordB (mirs K n) xs = true) (hM : M < 2 ^ mirs K n) (htab : Tab w) :
    Calls Tryd.prog 5 #[.agg #[.int .u8 (K : Nat), .int .i64 (n : Nat)], v, .int .i64 (M : Nat)] w (WordOut ((wordsG K n).getD (cosG K n M (ix K n xs)) []) w) := by
  obtain ⟨iu, hiu⟩ : ∃ iu, ix K n xs = iu := ⟨_, rfl⟩
  have RD := Lib.hid (fun w' v' (ha : Args w' v' [xs]) => by have := read_yes K n v' [xs] w' hv ha (by simpa using h); rw [List.map_cons, List.map_nil, hiu] at this; exact this)
  have HX := Lib.hid (fun o : Obj => hx.below ((Below.refl _ _).alloc (Nat.le_refl _) o))
  have MR := Lib.hid (fun w' => mirrors_nat K n hv w')
  have hm4 := mirs_le hv
  have hul := ix_lt hv h
  rw [hiu] at hul
  rw [hiu]
  have HK := Lib.hid (tkG hv)
  have WD := Lib.hid (fun (bT : Nat) (w' : World) (u : Nat) (ht : TabIs K n (wordsG K n) (nextG K n) w' bT) (hu : u < (wordsG K n).length) => word_any bT u w' ht (tkG hv) hu)
  have FL := Lib.hid (fun (bT : Nat) (w' : World) (u : Nat) (ht : TabIs K n (wordsG K n) (nextG K n) w' bT) (hu : u < (wordsG K n).length) => (falls_any bT u w' ht (tkG hv) hu).mono (fun e w'' (hh : e = .returned (.int .i64 ((fallsTo (wordsG K n) (nextG K n) u (mirs K n) : Nat) : Int)) ∧ w' = w'') => (⟨hh.1, hh.2.symm⟩ : e = .returned (.int .i64 ((fallsTo (wordsG K n) (nextG K n) u (mirs K n) : Nat) : Int)) ∧ w'' = w')))
  have TZ := Lib.hid (fun (g : Nat) (w' : World) (hg : g < 16) (h0 : 0 < g) (ht : Tab w') => (tzeros_any g w' hg h0 ht).mono (fun e w'' (hh : e = .returned (.int .i64 (lowb g : Nat)) ∧ w' = w'') => (⟨hh.1, hh.2.symm⟩ : e = .returned (.int .i64 (lowb g : Nat)) ∧ w'' = w')))
  have HTB := Lib.hid (fun (w' : World) (hb : Below w.heap.size w w') => htab.below hb)
  have HL12 := Lib.hid (show lenX (wordsG K n) iu ≤ 12 from by unfold lenX; rw [getDL hul]; exact (tkG hv).short _ (List.getElem_mem hul))
  have HCG := Lib.hid (show cosG K n M iu = cosX (wordsG K n) (nextG K n) (mirs K n) M 12 iu from rfl)
  obtain ⟨T, hT⟩ : ∃ T, cosG K n M iu = T := ⟨_, rfl⟩
  rw [hT] at HCG ⊢
  have HUL := Lib.hid hul
  obtain ⟨m, hm⟩ : ∃ m, mirs K n = m := ⟨_, rfl⟩
  rw [hm] at MR hM hm4 HK HCG FL
  have hM16 : M < 16 := Nat.lt_of_lt_of_le hM (pow_le16 hm4)
  have q1 := pow_inM m (by omega)
  have q2 := pow_inM64 m (by omega)
  have hMi : ¬ (2 : Int) ^ m ≤ (M : Int) := by rw [pow_castM]; omega
  have d0 : decide ((M : Int) < 0) = false := by simp
  have d1 : decide ((2 : Int) ^ m ≤ (M : Int)) = false := by simpa using hMi
  obtain ⟨a, c, rfl, hx1⟩ := hx
  clear h hx1 hv hm hiu hT hM htab hul
  go_enter Tryd.func5, Tryd.ntmps5
  go_upto_region 5 with (first
    | (go_at_call 22; refine (MR.out _).mono ?_; rintro e w2 ⟨rfl, hb2⟩; have hc2 := ((ho1.below hb2).cellN 0 (by simp)))
    | (go_at_call 21; refine (RD.out _ _ (args1 (HX.out _) _ (by simp))).mono ?_; rintro e w1 ⟨bT, v1, rfl, ht1, ho1, hb1⟩; obtain ⟨g1, c1, rfl, hc1⟩ := own_one ho1; have hB := below_al2 (Nat.le_refl _) hb1; have gg0 := (((Held.made (w := w) (l := [.int .u8 (K : Nat), .int .i64 (n : Nat)]) (t := 28) rfl).alloc _).below hb1 (by simp; omega)).at (i := 0) rfl; have gg1 := (((Held.made (w := w) (l := [.int .u8 (K : Nat), .int .i64 (n : Nat)]) (t := 28) rfl).alloc _).below hb1 (by simp; omega)).at (i := 1) rfl))
  have HT2 := Lib.hid (ht1.below hb2)
  have HB2 := Lib.hid (hB.trans (hb2.mono hB.size))
  clear hc2 hc1 ho1 ht1 hb1 hb2 hB gg0 gg1 q1 q2 d0 d1 hMi
  go_loopw [11] (fun uv wr => ∃ u f : Nat, uv = .int .i64 (u : Nat) ∧ u < (wordsG K n).length ∧ lenX (wordsG K n) u ≤ f ∧ cosX (wordsG K n) (nextG K n) m M f u = T ∧ Below w2.heap.size w2 wr) (fun uv _ => lenX (wordsG K n) (intOf uv).toNat)
  case atStart => exact ⟨iu, 12, rfl, HUL.out, HL12.out, HCG.out.symm, Below.refl _ _⟩
  case round =>
    obtain ⟨u, f, rfl, hu, hf, hc, hb⟩ := hrel
    have HTR := Lib.hid (HT2.out.below hb)
    have HB := Lib.hid (HB2.out.trans (hb.mono HB2.out.size))
    have HBR := Lib.hid hb
    have F16 := fallsTo_16 (wordsG K n) (nextG K n) u m hm4
    have FLU := Lib.hid (fun (w' : World) (ht : TabIs K n (wordsG K n) (nextG K n) w' bT) => FL.out bT w' u ht hu)
    have HFL := Lib.hid (fun h => falls_low (W := wordsG K n) (X := nextG K n) (m := m) (M := M) (u := u) hm4 hM16 h)
    have HFZ := Lib.hid (fun h => falls_zero (W := wordsG K n) (X := nextG K n) (m := m) (M := M) (u := u) h)
    obtain ⟨F, hF⟩ : ∃ F, fallsTo (wordsG K n) (nextG K n) u m = F := ⟨_, rfl⟩
    rw [hF] at F16 FLU HFL HFZ
    have q3 := and_wM F F16 M hM16
    have g16 := and_16 F F16 M hM16
    obtain ⟨G, hG⟩ : ∃ G, F &&& M = G := ⟨_, rfl⟩
    rw [hG] at q3 g16 HFL HFZ
    by_cases h0 : G = 0
    · have HZ := Lib.hid (HFZ.out h0)
      have HTU := Lib.hid (show u = T by rw [← hc, cos_stop HZ.out f])
      subst h0
      have WDU := Lib.hid (fun (w' : World) (ht : TabIs K n (wordsG K n) (nextG K n) w' bT) => WD.out bT w' u ht hu)
      clear hF hG hb hc hf hu
      go_wp2_with (first
        | (go_at_call 23; refine (FLU.out _ HTR.out).mono ?_; rintro e w3 ⟨rfl, rfl⟩)
        | (go_at_call 25; refine (WDU.out _ HTR.out).mono ?_; rintro e w4 ⟨v4, rfl, ho4, hb4⟩))
      go_ret2
      exact ⟨_, rfl, by rw [← HTU.out]; exact ho4.mono HB.out.size, HB.out.trans (hb4.mono HB.out.size)⟩
    · have hgp : 0 < G := by omega
      obtain ⟨l1, l2, l3⟩ := HFL.out hgp
      have TZG := Lib.hid (fun (w' : World) (ht : Tab w') => TZ.out G w' g16 hgp ht)
      obtain ⟨s, hs⟩ : ∃ s, lowb G = s := ⟨_, rfl⟩
      rw [hs] at l1 l2 l3 TZG
      obtain ⟨r, hr1, hr2, hr3, hr4⟩ := HK.out.rowAt hu
      have huX : u < (nextG K n).length := by rw [HK.out.lx]; exact hu
      have hst : stepX (nextG K n) u s = r.getD s 0 := by unfold stepX; rw [hr2]
      have hsr : s < r.length := by omega
      obtain ⟨y, hy⟩ : ∃ y, r[s] = y := ⟨_, rfl⟩
      rw [getDN hsr, hy] at hst
      have hyN := HK.out.step hu l1
      rw [hst] at hyN
      have hlt : lenX (wordsG K n) y < lenX (wordsG K n) u := by
        unfold fallB at l3
        rw [hst] at l3
        simpa using l3
      obtain ⟨g, cap, b, off, rc, c1, c2, c3⟩ := next_at HTR.out huX hr1 hsr hy
      obtain ⟨f', rfl⟩ : ∃ f', f = f' + 1 := ⟨f - 1, by omega⟩
      rw [cos_go l2 f', hst] at hc
      have HC := Lib.hid hc
      have HYN := Lib.hid hyN
      have HLF := Lib.hid (show lenX (wordsG K n) y ≤ f' by omega)
      have HME := Lib.hid (show lenX (wordsG K n) (intOf (.int .i64 (y : Nat))).toNat < lenX (wordsG K n) (intOf (.int .i64 (u : Nat))).toNat by simpa [intOf] using hlt)
      have hu0 : (0 : Int) ≤ (u : Int) := by omega
      have huXi : (u : Int) < ((nextG K n).length : Int) := by omega
      have hs0 : (0 : Int) ≤ (s : Int) := by omega
      have hsri : (s : Int) < (r.length : Int) := by omega
      have hG0 : ¬ (G : Int) = 0 := by omega
      have hGb : ((G : Int) != 0) = true := by simp; omega
      have hGw : IntKind.u64.wrap (G : Int) = (G : Int) := by simp [IntKind.wrap, IntKind.bits, IntKind.signed]; omega
      clear hF hG hb hc hf hu h0 hgp hs l2 l3 hr1 hr2 hr3 hr4 huX hst hsr hy hyN hlt
      go_upto_region 6 with (go_at_call 23; refine (FLU.out _ HTR.out).mono ?_; rintro e w3 ⟨rfl, rfl⟩)
      go_quiet (first
        | (go_at_call 23; (with_reducible refine Calls.quiet_of_same (FLU.out _ ?_)); first | exact HTR.out | exact HTR.out.drewN _)
        | (go_at_call 24; (with_reducible refine Calls.quiet_of_same (TZG.out _ ?_)); first | exact (HTB.out _ (below_drewM HB.out _)) | exact HTB.out _ HB.out))
      go_wp2
      go_roundw
      case rel => exact ⟨y, f', rfl, HYN.out, HLF.out, HC.out, below_drewM HBR.out _⟩
      case measure => exact HME.out
end Go.Proofs.YtmlhecfhhhebnaaDoor
