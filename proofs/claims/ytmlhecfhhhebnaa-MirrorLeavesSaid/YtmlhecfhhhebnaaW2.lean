/- Le, Lf, Tx, Ty of the seat's texts, in this order. -/
import Derived.Test.YtmlhecfhhhebnaaTq
import Derived.StillTailTactics
import Derived.Deep.QuietTactic
import Derived.BigQuiet
import Derived.Test.YtmlhecfhhhebnaaW1
import Derived.Deep.RegionLaw

/- Leave: the program's walk. -/
namespace Go.Proofs.Ytmlhecfhhhebnaa
open Go.RowKit

/-- A word without its letter k. -/
def delX (X : List (List Nat)) (ws : List Nat) (k : Nat) : Nat := walkX X (walkX X 0 (ws.take k)) (ws.drop (k + 1))
def leaveAt (X : List (List Nat)) (ws : List Nat) (tg : Nat) : Option Nat := (List.range ws.length).find? fun k => delX X ws k == tg
theorem leave_some {X : List (List Nat)} {ws : List Nat} {tg k : Nat} (hk : k < ws.length) (h : delX X ws k = tg) (hb : ∀ j, j < k → delX X ws j ≠ tg) : leaveAt X ws tg = some k := by
  unfold leaveAt
  rw [List.find?_eq_some_iff_getElem]
  refine ⟨by simp [h], k, by simpa using hk, by simp, fun j hj => ?_⟩
  have := hb j hj
  simpa using this
theorem leave_none {X : List (List Nat)} {ws : List Nat} {tg : Nat} (hb : ∀ j, j < ws.length → delX X ws j ≠ tg) : leaveAt X ws tg = none := by
  unfold leaveAt
  rw [List.find?_eq_none]
  intro j hj
  have := hb j (List.mem_range.1 hj)
  simpa using this
def LvV : Option Nat → Value
  | some k => .tuple #[.int .i64 (k : Nat), .int .i64 0]
  | none => .tuple #[.int .i64 0, .int .i64 4]
def LeaveOut (r : Option Nat) (w : World) (e : Ending) (w' : World) : Prop := e = .returned (LvV r) ∧ Below w.heap.size w w'
theorem ints_takeN {w : World} {a : Option Addr} {n c : Nat} {xs : List Int} (h : Ints w (.slice a n c) xs) {k : Nat} (hk : k ≤ xs.length) : Ints w (.slice a k c) (xs.take k) := by
  obtain ⟨a', c', he, h1, h2, h3⟩ := h
  obtain ⟨rfl, rfl, rfl⟩ := Value.slice.inj he
  have hl : (xs.take k).length = k := by rw [List.length_take]; omega
  refine ⟨a, c, by rw [hl], by omega, by omega, fun hne => ?_⟩
  obtain ⟨b, off, e, r1, r2⟩ := h3 (fun e => hne (by rw [e]; simp))
  exact ⟨b, off, e, r1, fun i hi => by rw [r2 i (by omega)]; simp⟩
theorem ints_drop {w : World} {b off n c : Nat} {xs : List Int} (h : Ints w (.slice (some ⟨b, off, none⟩) n c) xs) {k : Nat} (hk : k ≤ xs.length) :
    Ints w (.slice (if c = k then some ⟨b, off, none⟩ else some ⟨b, off + k, none⟩) (xs.length - k) (c - k)) (xs.drop k) := by
  obtain ⟨a', c', he, h1, h2, h3⟩ := h
  obtain ⟨rfl, rfl, rfl⟩ := Value.slice.inj he
  have hl : (xs.drop k).length = xs.length - k := by rw [List.length_drop]
  refine ⟨_, c - k, by rw [hl], by omega, by omega, fun hne => ?_⟩
  have hp : 0 < (xs.drop k).length := List.length_pos_iff.2 hne
  obtain ⟨b', off', e, r1, r2⟩ := h3 (fun e => hne (by rw [e]; simp))
  obtain ⟨rfl, rfl⟩ : b = b' ∧ off = off' := by simpa using e
  refine ⟨b, off + k, by rw [if_neg (by omega)], r1, fun i hi => ?_⟩
  rw [show off + k + i = off + (k + i) by omega, r2 (k + i) (by omega)]
  simp

theorem next_at {K n bT : Nat} {W X : List (List Nat)} {w : World} (ht : TabIs K n W X w bT) {u s y : Nat} {r : List Nat} (hu : u < X.length) (hr : X[u] = r) (hs : s < r.length) (hy : r[s] = y) :
    ∃ g cap b off rc, w.cell? ⟨bT, 3, none⟩ = some (.slice (some ⟨g, 0, none⟩) X.length cap) ∧ w.cell? ⟨g, u, none⟩ = some (.slice (some ⟨b, off, none⟩) r.length rc) ∧ w.cell? ⟨b, off + s, none⟩ = some (.int .i64 (y : Nat)) := by
  subst hr
  subst hy
  obtain ⟨vW, vX, vM, hh, _, hX⟩ := ht
  obtain ⟨g, cap, ra, rc, e, hgc, hrc, _, hrow⟩ := hX.cells u hu
  have ct := hh.at (i := 3) rfl
  obtain ⟨b, off, e2, hcell⟩ := hrow (by omega)
  subst e2
  subst e
  exact ⟨g, cap, b, off, rc, ct, hgc, hcell s hs⟩

set_option maxRecDepth 20000 in
set_option maxHeartbeats 1000000 in
theorem Leave_no (K : Nat) (n : Int) (v : Value) (xs : List Int) (s : Int) (w : World) (hK : K < 256) (hx : Ints w v xs) (h : okI K n [xs] = false) :
    Calls Try.prog 27 #[grpI K n, v, .int .i64 s] w (NumErr w) := by
  have RD := Lib.hid (fun w' v' (ha : Args w' v' [xs]) => read_no K n v' [xs] w' hK ha h)
  have HX := Lib.hid (fun o : Obj => hx.below ((Below.refl _ _).alloc (Nat.le_refl _) o))
  obtain ⟨a, c, rfl, hx1⟩ := hx
  unfold grpI at *
  clear h hx1
  go_enter Try.func27, Try.ntmps27
  go_wp2_with (go_at_call 59; refine (RD.out _ _ (args1 (HX.out _) _ (by simp))).mono ?_; rintro e w1 ⟨rfl, hb1⟩)
  go_ret2
  exact ⟨rfl, below_al2 (Nat.le_refl _) hb1⟩

set_option maxRecDepth 20000 in
set_option maxHeartbeats 2000000 in
theorem Leave_bad (K n : Nat) (v : Value) (xs : List Int) (s : Int) (w : World) (hv : validB K n = true) (hx : Ints w v xs) (h : wordB (mirs K n) xs = true) (hb : s < 0 ∨ (mirs K n : Int) ≤ s ∨ lenX (wordsG K n) (ix K n xs) ≠ xs.length) :
    Calls Try.prog 27 #[.agg #[.int .u8 (K : Nat), .int .i64 (n : Nat)], v, .int .i64 s] w (NumErr w) := by
  have RD := Lib.hid (fun w' v' (ha : Args w' v' [xs]) => read_yes K n v' [xs] w' hv ha (by simpa using h))
  have HX := Lib.hid (fun o : Obj => hx.below ((Below.refl _ _).alloc (Nat.le_refl _) o))
  have MR := Lib.hid (fun w' => mirrors_nat K n hv w')
  have LN := Lib.hid (fun (bT : Nat) (w' : World) (ht : TabIs K n (wordsG K n) (nextG K n) w' bT) => length_any bT (ix K n xs) w' ht (tkG hv) (ix_lt hv h))
  have hxl := (word_nat h).2.2
  have hm4 := mirs_le hv
  obtain ⟨a, c, rfl, hx1⟩ := hx
  obtain ⟨lx, hlx⟩ : ∃ lx, lenX (wordsG K n) (ix K n xs) = lx := ⟨_, rfl⟩
  rw [hlx] at LN hb
  obtain ⟨m, hm⟩ : ∃ m, mirs K n = m := ⟨_, rfl⟩
  rw [hm] at MR hb hm4
  clear h hx1 hv hlx hm
  by_cases h0 : s < 0
  · have d0 : decide (s < 0) = true := by simpa using h0
    clear hb h0
    go_enter Try.func27, Try.ntmps27
    go_wp2_with (go_at_call 59; refine (RD.out _ _ (args1 (HX.out _) _ (by simp))).mono ?_; rintro e w1 ⟨bT, v1, rfl, ht1, ho1, hb1⟩; obtain ⟨g1, c1, rfl, hc1⟩ := own_one ho1)
    go_ret2
    exact ⟨rfl, below_al2 (Nat.le_refl _) hb1⟩
  · have d0 : decide (s < 0) = false := by simpa using h0
    by_cases h1 : (m : Int) ≤ s
    · have d1 : decide ((m : Int) ≤ s) = true := by simpa using h1
      clear hb h0 h1
      go_enter Try.func27, Try.ntmps27
      go_wp2_with (first
        | (go_at_call 66; refine (MR.out _).mono ?_; rintro e w2 ⟨rfl, hb2⟩)
        | (go_at_call 59; refine (RD.out _ _ (args1 (HX.out _) _ (by simp))).mono ?_; rintro e w1 ⟨bT, v1, rfl, ht1, ho1, hb1⟩; obtain ⟨g1, c1, rfl, hc1⟩ := own_one ho1; have hB := below_al2 (Nat.le_refl _) hb1; have gg0 := (((Held.made (w := w) (l := [.int .u8 (K : Nat), .int .i64 (n : Nat)]) (t := 28) rfl).alloc _).below hb1 (by simp; omega)).at (i := 0) rfl; have gg1 := (((Held.made (w := w) (l := [.int .u8 (K : Nat), .int .i64 (n : Nat)]) (t := 28) rfl).alloc _).below hb1 (by simp; omega)).at (i := 1) rfl))
      go_ret2
      exact ⟨rfl, hB.trans (hb2.mono hB.size)⟩
    · have d1 : decide ((m : Int) ≤ s) = false := by simpa using h1
      have h2 : lx ≠ xs.length := by omega
      have d2 : ((lx : Int) != (xs.length : Int)) = true := by simp; omega
      clear hb h0 h1
      go_enter Try.func27, Try.ntmps27
      go_wp2_with (first
        | (go_at_call 67; refine (LN.out bT _ (ht1.below hb2)).mono ?_; rintro e w3 ⟨rfl, rfl⟩)
        | (go_at_call 66; refine (MR.out _).mono ?_; rintro e w2 ⟨rfl, hb2⟩; have hc2 := ((ho1.below hb2).cellN 0 (by simp)))
        | (go_at_call 59; refine (RD.out _ _ (args1 (HX.out _) _ (by simp))).mono ?_; rintro e w1 ⟨bT, v1, rfl, ht1, ho1, hb1⟩; obtain ⟨g1, c1, rfl, hc1⟩ := own_one ho1; have hB := below_al2 (Nat.le_refl _) hb1; have gg0 := (((Held.made (w := w) (l := [.int .u8 (K : Nat), .int .i64 (n : Nat)]) (t := 28) rfl).alloc _).below hb1 (by simp; omega)).at (i := 0) rfl; have gg1 := (((Held.made (w := w) (l := [.int .u8 (K : Nat), .int .i64 (n : Nat)]) (t := 28) rfl).alloc _).below hb1 (by simp; omega)).at (i := 1) rfl))
      go_ret2
      exact ⟨rfl, hB.trans (hb2.mono hB.size)⟩

end Go.Proofs.Ytmlhecfhhhebnaa

/- Leave where it answers: the program's walk. -/
namespace Go.Proofs.Ytmlhecfhhhebnaa
open Go.RowKit

theorem toI_dropN (bs : List Nat) (n : Nat) : (toI bs).drop n = toI (bs.drop n) := by simp [toI, List.map_drop]

set_option maxRecDepth 20000 in
set_option maxHeartbeats 2000000 in
theorem Leave_yes (K n : Nat) (v : Value) (xs : List Int) (s : Nat) (w : World) (hv : validB K n = true) (hx : Ints w v xs) (h : wordB (mirs K n) xs = true) (hs : s < mirs K n) (hl : lenX (wordsG K n) (ix K n xs) = xs.length) :
    Calls Try.prog 27 #[.agg #[.int .u8 (K : Nat), .int .i64 (n : Nat)], v, .int .i64 (s : Nat)] w (LeaveOut (leaveAt (nextG K n) (natW xs) (stepX (nextG K n) (ix K n xs) s)) w) := by
  obtain ⟨iu, hiu⟩ : ∃ iu, ix K n xs = iu := ⟨_, rfl⟩
  have RD := Lib.hid (fun w' v' (ha : Args w' v' [xs]) => by have := read_yes K n v' [xs] w' hv ha (by simpa using h); rw [List.map_cons, List.map_nil, hiu] at this; exact this)
  have HX := Lib.hid (fun o : Obj => hx.below ((Below.refl _ _).alloc (Nat.le_refl _) o))
  have MR := Lib.hid (fun w' => mirrors_nat K n hv w')
  have LN := Lib.hid (fun (bT : Nat) (w' : World) (ht : TabIs K n (wordsG K n) (nextG K n) w' bT) => by have := length_any bT (ix K n xs) w' ht (tkG hv) (ix_lt hv h); rw [hl] at this; exact this)
  have hn := word_nat h
  have hnl := natW_length xs
  have HXB := Lib.hid (fun w' (hb : Below w.heap.size w w') => hx.below hb)
  have WQ := Lib.hid (fun (bT u : Nat) (v' : Value) (ws : List Nat) (w' : World) (ht : TabIs K n (wordsG K n) (nextG K n) w' bT) (hv' : Ints w' v' (toI ws)) (hu : u < (wordsG K n).length) (hws : ∀ s ∈ ws, s < mirs K n) => (walk_any bT u v' ws w' ht (tkG hv) hv' hu hws).mono (fun e w'' (hh : e = .returned (.int .i64 ((walkX (nextG K n) u ws : Nat) : Int)) ∧ w' = w'') => (⟨hh.1, hh.2.symm⟩ : e = .returned (.int .i64 ((walkX (nextG K n) u ws : Nat) : Int)) ∧ w'' = w')))
  have hxl := hn.2.2
  have hm4 := mirs_le hv
  have hul := ix_lt hv h
  rw [hiu] at LN hul hl
  rw [hiu]
  obtain ⟨r, hr1, hr2, hr3, hr4⟩ := (tkG hv).rowAt hul
  have huX : iu < (nextG K n).length := by rw [(tkG hv).lx]; exact hul
  have HST := Lib.hid (show stepX (nextG K n) iu s = r.getD s 0 by unfold stepX; rw [hr2])
  have hsr : s < r.length := by omega
  have HG := Lib.hid (getDN (l := r) (i := s) hsr)
  obtain ⟨y, hy⟩ : ∃ y, r[s] = y := ⟨_, rfl⟩
  have HTO := Lib.hid (show stepX (nextG K n) iu s = y by rw [HST.out, HG.out, hy])
  rw [HTO.out]
  have HCX := Lib.hid (fun (w' : World) (bT : Nat) (ht : TabIs K n (wordsG K n) (nextG K n) w' bT) => next_at ht huX hr1 hsr hy)
  obtain ⟨m, hm⟩ : ∃ m, mirs K n = m := ⟨_, rfl⟩
  have HWS := Lib.hid hn.2.1
  have HN1 := Lib.hid hn.1
  have HNL := Lib.hid hnl
  have HK := Lib.hid (tkG hv)
  rw [hm] at MR hs hm4 WQ HWS HK
  have hsm : (s : Int) < (m : Int) := by omega
  have d0 : decide ((s : Int) < 0) = false := by simp
  have d1 : decide (m ≤ s) = false := by simp; omega
  have d1' : ¬ m ≤ s := by omega
  have hul0 : (iu : Int) < ((nextG K n).length : Int) := by omega
  have hsri : (s : Int) < (r.length : Int) := by omega
  have hi0 : (0 : Int) ≤ (iu : Int) := by omega
  have hs0 : (0 : Int) ≤ (s : Int) := by omega
  obtain ⟨a, c, rfl, hx1⟩ := hx
  have HC1 := Lib.hid hx1
  clear h hx1 hv hm hn hnl hr1 hr2 hr3 hr4 hiu hl hs hy HST HG huX hsr
  go_enter Try.func27, Try.ntmps27
  go_wp2_with (first
    | (go_at_call 67; refine (LN.out bT _ (ht1.below hb2)).mono ?_; rintro e w3 ⟨rfl, rfl⟩)
    | (go_at_call 66; refine (MR.out _).mono ?_; rintro e w2 ⟨rfl, hb2⟩; have hc2 := ((ho1.below hb2).cellN 0 (by simp)))
    | (go_at_call 59; refine (RD.out _ _ (args1 (HX.out _) _ (by simp))).mono ?_; rintro e w1 ⟨bT, v1, rfl, ht1, ho1, hb1⟩; obtain ⟨g1, c1, rfl, hc1⟩ := own_one ho1; have hB := below_al2 (Nat.le_refl _) hb1; have gg0 := (((Held.made (w := w) (l := [.int .u8 (K : Nat), .int .i64 (n : Nat)]) (t := 28) rfl).alloc _).below hb1 (by simp; omega)).at (i := 0) rfl; have gg1 := (((Held.made (w := w) (l := [.int .u8 (K : Nat), .int .i64 (n : Nat)]) (t := 28) rfl).alloc _).below hb1 (by simp; omega)).at (i := 1) rfl))
  have HT2 := Lib.hid (ht1.below hb2)
  have HB2 := Lib.hid (hB.trans (hb2.mono hB.size))
  obtain ⟨g, cap, b, off, rc, q1, q2, q3⟩ := HCX.out w2 bT HT2.out
  have q0 : w2.cell? ⟨g1, 0, none⟩ = some (.int .i64 (iu : Nat)) := by simpa using hc2
  clear hc2 hc1 ho1 ht1 hb1 hb2 hB gg0 gg1
  go_quiet (fail)
  clear q0 q1 q2 q3 hi0 hs0 hul0 hsri
  go_upto_region 6 with (fail)
  go_loopw [57] (fun ix wr => ∃ k : Nat, k ≤ xs.length ∧ ix = .int .i64 (k : Nat) ∧ (∀ j, j < k → delX (nextG K n) (natW xs) j ≠ y) ∧ Below w2.heap.size w2 wr) (fun ix _ => xs.length - (intOf ix).toNat)
  case atStart => exact ⟨0, Nat.zero_le _, rfl, fun j h => by omega, below_drewM (Below.refl _ _) _⟩
  case round =>
    obtain ⟨k, hk, rfl, hdel, hb⟩ := hrel
    have HDEL := Lib.hid hdel
    have HB := Lib.hid hb
    clear hdel hb
    by_cases hlt : k < xs.length
    · obtain ⟨b0, off0, rfl, hbl, _⟩ := HC1.out.2.2 (ne_nil_of_lt hlt)
      have hki : (k : Int) < (xs.length : Int) := by omega
      have HBR := Lib.hid (HB2.out.trans (HB.out.mono HB2.out.size))
      have hvr := HXB.out wr HBR.out
      have hcl : xs.length ≤ c := HC1.out.2.1
      have hd1 := ints_drop hvr (k := k + 1) (by omega)
      have ht1 := ints_takeN hvr (k := k) hk
      have e1 : xs.take k = toI ((natW xs).take k) := by rw [← toI_take, HN1.out]
      have e2 : xs.drop (k + 1) = toI ((natW xs).drop (k + 1)) := by rw [← toI_dropN, HN1.out]
      rw [e1] at ht1
      rw [e2] at hd1
      clear e1 e2
      obtain ⟨adt, hadt⟩ : ∃ adt : Option Addr, (if c = k + 1 then some (⟨b0, off0, none⟩ : Addr) else some ⟨b0, off0 + (k + 1), none⟩) = adt := ⟨_, rfl⟩
      rw [hadt] at hd1
      have hw1 : ∀ s ∈ (natW xs).take k, s < m := fun s hs => HWS.out s (List.mem_of_mem_take hs)
      have hw2 : ∀ s ∈ (natW xs).drop (k + 1), s < m := fun s hs => HWS.out s (List.mem_of_mem_drop hs)
      have hu1 := HK.out.walk _ 0 HK.out.pos hw1
      have HDX := Lib.hid (show delX (nextG K n) (natW xs) k = walkX (nextG K n) (walkX (nextG K n) 0 ((natW xs).take k)) ((natW xs).drop (k + 1)) from rfl)
      obtain ⟨u1, hu1e⟩ : ∃ u1, walkX (nextG K n) 0 ((natW xs).take k) = u1 := ⟨_, rfl⟩
      rw [hu1e] at hu1 HDX
      have W1 := Lib.hid (fun (w' : World) (hb' : Below wr.heap.size wr w') => by have := WQ.out bT 0 (.slice (some ⟨b0, off0, none⟩) k c) ((natW xs).take k) w' ((HT2.out.below HB.out).below hb') (ht1.below hb') HK.out.pos hw1; rw [hu1e, show (((0 : Nat) : Int)) = (0 : Int) from rfl] at this; exact this)
      obtain ⟨u2, hu2e⟩ : ∃ u2, walkX (nextG K n) u1 ((natW xs).drop (k + 1)) = u2 := ⟨_, rfl⟩
      rw [hu2e] at HDX
      have W2 := Lib.hid (fun (w' : World) (hb' : Below wr.heap.size wr w') => by have := WQ.out bT u1 (.slice adt (xs.length - (k + 1)) (c - (k + 1))) ((natW xs).drop (k + 1)) w' ((HT2.out.below HB.out).below hb') (hd1.below hb') hu1 hw2; rw [hu2e] at this; exact this)
      have HLT := Lib.hid hlt
      have f1 : IntKind.i64.wrap ((k : Int) + 1) = (k : Int) + 1 := IntWalk.i64_in _ (by omega)
      have f2 : (0 : Int) ≤ (k : Int) + 1 := by omega
      have f3 : ((k : Int) + 1).toNat = k + 1 := by omega
      have f4 : (k : Int) + 1 ≤ (xs.length : Int) := by omega
      have f5 : (k : Int) ≤ (c : Int) := by omega
      have f6 : (0 : Int) ≤ (k : Int) := by omega
      have hc0 : ¬ c = 0 := by omega
      clear hvr ht1 hd1 hw1 hw2 hu1e hu2e hu1 hbl
      by_cases he : u2 = y
      · subst he
        have HF := Lib.hid (leave_some (X := nextG K n) (ws := natW xs) (by rw [HNL.out]; exact hlt) HDX.out HDEL.out)
        clear hlt
        go_upto_region 8 with (fail)
        go_quiet (first
          | (go_at_call 61; (with_reducible refine Calls.quiet_of_same (W2.out _ ?_)); first | exact below_drewM (Below.refl _ _) _ | exact (Below.refl _ _).drew)
          | (go_at_call 61; (with_reducible refine Calls.quiet_of_same (W1.out _ ?_)); first | exact below_drewM (Below.refl _ _) _ | exact (Below.refl _ _).drew))
        go_wp2
        go_ret2
        exact ⟨by rw [HF.out]; rfl, below_drewM HBR.out _⟩
      · have HNE := Lib.hid (fun j (hj : j < k + 1) => show delX (nextG K n) (natW xs) j ≠ y by
          by_cases e : j = k
          · subst e; rw [HDX.out]; exact he
          · exact HDEL.out j (by omega))
        have he2 : ((u2 : Int) == (y : Int)) = false := by simp; omega
        have he3 : (u2 == y) = false := by simp; omega
        clear hlt
        go_upto_region 8 with (fail)
        go_quiet (first
          | (go_at_call 61; (with_reducible refine Calls.quiet_of_same (W2.out _ ?_)); first | exact below_drewM (Below.refl _ _) _ | exact (Below.refl _ _).drew)
          | (go_at_call 61; (with_reducible refine Calls.quiet_of_same (W1.out _ ?_)); first | exact below_drewM (Below.refl _ _) _ | exact (Below.refl _ _).drew))
        clear f1 f2 f3 f4 f5 f6
        go_wp2
        go_roundw
        case rel => exact ⟨k + 1, by have := HLT.out; omega, by go_num, HNE.out, below_drewM HB.out _⟩
        case measure => have := HLT.out; simp [intOf]; omega
    · obtain rfl : k = xs.length := by omega
      have hki : ¬ ((xs.length : Nat) : Int) < (xs.length : Int) := by omega
      have HF := Lib.hid (leave_none (X := nextG K n) (ws := natW xs) (tg := y) (by rw [HNL.out]; exact HDEL.out))
      go_wp2
      go_ret2
      exact ⟨by rw [HF.out]; rfl, HB2.out.trans (HB.out.mono HB2.out.size)⟩
end Go.Proofs.Ytmlhecfhhhebnaa

/- MirrorLeaves: what its walk leans on. -/
namespace Go.Proofs.Ytmlhecfhhhebnaa
open Go.RowKit
attribute [local go_sem] Oper.semAt_some

set_option maxRecDepth 20000 in
set_option maxHeartbeats 1000000 in
theorem fine_rows {S : Nat → Prop} {B : Nat} (K m : Nat) (v : Value) (ls : List (List Nat)) (w : World) (hv : validB K m = true) (h : RowsF S B w v ls) (hall : ∀ l ∈ ls, wordB (mirs K m) (toI l) = true) (hl : ls.length ≤ 1000000) :
    Calls Try.prog 19 #[.agg #[.int .u8 (K : Nat), .int .i64 (m : Nat)], v] w fun e w' => e = .returned (.bool true) ∧ Below w.heap.size w w' := by
  have VV := Lib.hid (fun w' => by have := Valid_any K (m : Int) w' (K_lt hv); rw [validI_cast, hv] at this; exact this)
  have WD := Lib.hid (fun (v' : Value) (xs : List Int) (w' : World) (hx : Ints w' v' xs) => Word_any K m v' xs w' hv hx)
  have HR := Lib.hid h
  have HA := Lib.hid hall
  obtain ⟨a, c, rfl⟩ := h.form
  clear h hall hv
  go_enter Try.func19, Try.ntmps19
  go_wp2_with (go_at_call 46; refine (VV.out _).mono ?_; rintro e w1 ⟨rfl, hb1⟩; have HB1 := Lib.hid (below_al (Nat.le_refl _) hb1); have HH1 := Lib.hid ((Held.made (w := w) (l := [.int .u8 (K : Nat), .int .i64 (m : Nat)]) (t := 23) rfl).below hb1 (by simp)); have hs1 := hb1.size; simp at hs1; clear hb1)
  go_loopw [12] (fun ix wr => ∃ k : Nat, k ≤ ls.length ∧ ix = .int .i64 k ∧ Held wr w.heap.size 23 [.int .u8 (K : Nat), .int .i64 (m : Nat)] ∧ Below w.heap.size w wr ∧ w.heap.size < wr.heap.size) (fun ix _ => ls.length - (intOf ix).toNat)
  case atStart => exact ⟨0, Nat.zero_le _, rfl, HH1.out, HB1.out, by omega⟩
  case round =>
    obtain ⟨k, hk, rfl, hh, hb, hsz⟩ := hrel
    by_cases hlt : k < ls.length
    · obtain ⟨g, cap, u, e1, _, _, hcx, hfx⟩ := (HR.out.below hb).at k hlt
      obtain ⟨rfl, _, rfl⟩ := Value.slice.inj e1
      have hki : (k : Int) < (ls.length : Int) := by omega
      have c0 := hh.at (i := 0) rfl
      have c1 := hh.at (i := 1) rfl
      have HW := Lib.hid (HA.out _ (List.getElem_mem hlt))
      have HU := Lib.hid hfx.ints
      have HH := Lib.hid hh
      have HB := Lib.hid hb
      obtain ⟨ua, uc, ue, _⟩ := hfx.slice
      subst ue
      clear hh hb hfx e1
      go_wp2_with (go_at_call 25; refine (WD.out _ _ _ HU.out).mono ?_; rintro e w2 ⟨rfl, hb2⟩; rw [HW.out])
      go_roundw
      case rel => exact ⟨k + 1, by omega, by go_num, HH.out.below hb2 hsz, HB.out.trans (hb2.mono HB.out.size), by have := hb2.size; omega⟩
      case measure => simp [intOf]; omega
    · obtain rfl : k = ls.length := by omega
      have hki : ¬ ((ls.length : Nat) : Int) < (ls.length : Int) := by omega
      have HB := Lib.hid hb
      clear hb hh
      go_wp2
      go_ret
      exact ⟨rfl, HB.out⟩

/-- 'append(xs, ys...)' onto whatever slice of the call's own. -/
theorem run_appG {ty : TypeId} {B : Nat} {w : World} {v : Value} {xs ys : List Int} (hown : OwnI 3 B w v xs) {ad : Addr} {n c : Nat} (hn : ys.length = n) (hs : Ints w (.slice (some ad) n c) ys) (hl : xs.length + n < 1000000) (hB : B ≤ w.heap.size) :
    ∃ v' w', (Builtin.append_ #[24, 24] ty #[v, .slice (some ad) n c]).run Try.prog w = .ok v' w' ∧ OwnI 3 B w' v' (xs ++ ys) ∧ w.grownBy w' v.ownBlock := by
  subst hn
  obtain ⟨i, hi1, hz0, hz1, hz2⟩ := info_parts info3
  obtain ⟨a', c', e, _, _, h3⟩ := hs
  obtain ⟨rfl, _, rfl⟩ := Value.slice.inj e
  obtain ⟨v', w', hrun, r1, r2, _, r4⟩ := run_append_own_at (P := Try.prog) w B 24 ty 3 i (.int .i64 0) 1 8 Try.underlying24 hi1 hz0 hz1 hz2 rfl (by decide) v xs.length _ hown ad ys.length c (ys.map (.int .i64)) (by simp)
    (fun j u hj => by
      have hjl : j < ys.length := by have := (List.getElem?_eq_some_iff.1 hj).1; simpa using this
      obtain ⟨b, off, e2, _, hcell⟩ := h3 (by intro e; rw [e] at hjl; simp at hjl)
      cases e2
      have e2 : (⟨b, off, none⟩ : Addr).add j = ⟨b, off + j, none⟩ := by unfold Addr.add; split <;> simp_all
      rw [e2, hcell j hjl]
      simpa [List.getElem?_eq_getElem hjl] using hj)
    (by intro u hu; obtain ⟨_, _, rfl⟩ := List.mem_map.1 hu; rfl) (by unfold maxLen; omega) (by omega) hB
  exact ⟨v', w', hrun, by unfold OwnI; simpa using r1, r2⟩
theorem step_appG {ops : Array Oper} {o : Oper} {a : Act} {w : World} {Q : Exit → Act → World → Prop} {K : Act → World → Prop} {E : Prop} (hg : o.guard = none) (s x : Operand) (hop : o.op = Op.call { callee := Callee.builtin Builtin.append, args := #[s, x], argTypes := #[24, 24] })
    {B : Nat} {v : Value} {xs ys : List Int} {ad : Addr} {n c : Nat} (hs : a.eval s = v) (hx : a.eval x = .slice (some ad) n c) (hown : OwnI 3 B w v xs) (hn : ys.length = n) (hy : Ints w (.slice (some ad) n c) ys) (hl : xs.length + n < 1000000) (hB : B ≤ w.heap.size)
    (hK : ∀ v' w', OwnI 3 B w' v' (xs ++ ys) → w.grownBy w' v.ownBlock → K (a.put o.dst v') w') :
    if Region.wanted o (yielded ops a.tmps) = true then Oper.wp Try.prog o a w K Q else E := by
  have hw : Region.wanted o (yielded ops a.tmps) = true := by simp [Region.wanted, hg]
  rw [if_pos hw]
  obtain ⟨v', w', hrun, r1, r2⟩ := run_appG (ty := o.type) hown hn hy hl hB
  unfold Oper.wp
  have hx' := hK v' w' r1 r2
  simp [execOp, hop, resolve, invoke, builtin, hs, hx, Result.andThen]
  rw [hrun]
  exact hx'

theorem bit_wL : ∀ f : Nat, f < 16 → ∀ s : Nat, s < 4 → bits BinOp.and IntKind.i64 ((f : Int) / 2 ^ s) 1 = if f.testBit s then 1 else 0 := by decide +kernel
theorem lastO_16 {a : Nat} {x : List Nat} (ha : a < 16) (hx : ∀ s ∈ x, s < 4) : lastO a x < 16 := by
  unfold lastO
  split
  · exact ha
  · rename_i h
    refine Nat.or_lt_two_pow (n := 4) ha ?_
    have : x.getD (x.length - 1) 0 < 4 := by
      rw [List.getD_eq_getElem?_getD, List.getElem?_eq_getElem (by omega)]
      exact hx _ (List.getElem_mem _)
    exact Nat.pow_lt_pow_right (by omega) this
theorem lastF_16 : ∀ (R : List (List Nat)) (a : Nat), a < 16 → (∀ x ∈ R, ∀ s ∈ x, s < 4) → R.foldl lastO a < 16
  | [], _, ha, _ => ha
  | x :: R, _, ha, h => lastF_16 R _ (lastO_16 ha (h x List.mem_cons_self)) fun y hy => h y (List.mem_cons_of_mem _ hy)
/-- A word of the list, its last letter. -/
theorem last_row {S : Nat → Prop} {B : Nat} {w : World} {v : Value} {R : List (List Nat)} {ln : Nat} (h : RowsF S B w v R) (hlen : ∀ x ∈ R, x.length = ln) (h4 : ∀ x ∈ R, ∀ s ∈ x, s < 4) (k : Nat) (hk : k < R.length) :
    ∃ g cap a c, v = .slice (some ⟨g, 0, none⟩) R.length cap ∧ w.cell? ⟨g, k, none⟩ = some (.slice a ln c) ∧ lastF (R.take k) < 16 ∧ (ln = 0 → lastF (R.take (k + 1)) = lastF (R.take k)) ∧
      ∀ l, ln = l + 1 → ∃ b off s, a = some ⟨b, off, none⟩ ∧ w.cell? ⟨b, off + l, none⟩ = some (.int .i64 ((s : Nat) : Int)) ∧ s < 4 ∧ lastF (R.take (k + 1)) = lastF (R.take k) ||| 2 ^ s := by
  obtain ⟨g, cap, a, c, e, hc, _, _, hrow⟩ := h.cells k hk
  have hl := hlen _ (List.getElem_mem hk)
  rw [hl] at hc
  have hst : lastF (R.take (k + 1)) = lastO (lastF (R.take k)) R[k] := by
    unfold lastF; rw [take_succ' R k hk, List.foldl_append, List.foldl_cons, List.foldl_nil]
  refine ⟨g, cap, a, c, e, hc, lastF_16 _ 0 (by omega) fun x hx => h4 x (List.mem_of_mem_take hx), fun h0 => ?_, fun l hle => ?_⟩
  · rw [hst]; unfold lastO; rw [if_pos (by omega)]
  · obtain ⟨b, off, rfl, hcell⟩ := hrow (by omega)
    have hll : l < (R[k]).length := by omega
    refine ⟨b, off, (R[k])[l], rfl, hcell l hll, h4 _ (List.getElem_mem hk) _ (List.getElem_mem hll), ?_⟩
    rw [hst]
    unfold lastO
    rw [if_neg (by omega), show (R[k]).length - 1 = l by omega, List.getD_eq_getElem?_getD, List.getElem?_eq_getElem hll]
    rfl
theorem dropI_del (X : List (List Nat)) (ws : List Nat) (i : Nat) : delX X ws i = walkX X 0 (dropI ws i) := by
  unfold delX dropI
  rw [walk_append]
/-- Where Leave answers: just there. -/
theorem leave_there {m N : Nat} {W X q : List (List Nat)} (h : Gm m N W X) (hq : Rq m N W X q) {ws : List Nat} (hw : ∀ s ∈ ws, s < m) (hs : shortW W X ws) {s : Nat} (hsm : s < m) (hlt : lenX W (stepX X (walkX X 0 ws) s) < lenX W (walkX X 0 ws)) :
    ∃ k, k < ws.length ∧ leaveAt X ws (stepX X (walkX X 0 ws) s) = some k ∧ ∀ i, i < ws.length → (walkX X 0 (dropI ws i) = stepX X (walkX X 0 ws) s ↔ i = k) := by
  obtain ⟨k, hk, hall⟩ := leave_one h hq hw hs hsm hlt
  refine ⟨k, hk, leave_some hk (by rw [dropI_del]; exact (hall k hk).2 rfl) (fun j hj e => ?_), hall⟩
  rw [dropI_del] at e
  have := (hall j (by omega)).1 e
  omega
theorem leave_not {m N : Nat} {W X : List (List Nat)} (h : Gm m N W X) {ws : List Nat} (hw : ∀ s ∈ ws, s < m) (hs : shortW W X ws) {s : Nat} (hge : ¬ lenX W (stepX X (walkX X 0 ws) s) < lenX W (walkX X 0 ws)) :
    leaveAt X ws (stepX X (walkX X 0 ws) s) = none := by
  unfold leaveAt
  rw [List.find?_eq_none]
  intro k hk
  have hkl : k < ws.length := by simpa using hk
  rw [dropI_del]
  intro e
  have e' : walkX X 0 (dropI ws k) = stepX X (walkX X 0 ws) s := by simpa using e
  have h1 := h.len_walk (dropI ws k) 0 h.pos fun x hx => hw x (dropI_mem hx)
  rw [e', h.len0] at h1
  have h2 := dropI_len hkl
  unfold shortW at hs
  omega
end Go.Proofs.Ytmlhecfhhhebnaa

/- MirrorLeaves: the walks. -/
namespace Go.Proofs.Ytmlhecfhhhebnaa
open Go.RowKit
attribute [local go_sem] Oper.semAt_some

theorem walk_one (X : List (List Nat)) (u t : Nat) : walkX X u (natW [(t : Int)]) = stepX X u t := by simp [walkX, natW]
theorem wordB_one {m t : Nat} (h : t < m) : wordB m [(t : Int)] = true := by unfold wordB; simp [letB]; omega
theorem leaf_len {K n : Nat} (hv : validB K n = true) {xs : List Int} {iu t : Nat} (hil : iu < (wordsG K n).length) (ht : t < mirs K n) (hl : lenX (wordsG K n) (ix K n xs) = xs.length) (hi : ix K n xs = iu) (h : lenX (wordsG K n) (stepX (nextG K n) iu t) < lenX (wordsG K n) iu) : lenX (wordsG K n) (stepX (nextG K n) iu t) + 1 = xs.length := by
  have h2 := (gmG hv).one iu hil t ht
  rw [hi] at hl
  omega
theorem leaf_take {xs : List Int} (h : xs.length ≤ 30) (i : Nat) : (xs.take i).take 34 = xs.take i := List.take_of_length_le (by simp only [List.length_take]; omega)
theorem leaf_list {wr : World} {b0 off0 n c i : Nat} {xs : List Int} (h : Ints wr (.slice (some ⟨b0, off0, none⟩) n c) xs) (hl : xs.length ≤ 30) (hi : i ≤ xs.length) (w' : World) (hb : Below wr.heap.size wr w') :
    Calls Try.prog 17 #[.slice (some ⟨b0, off0, none⟩) i c] w' fun e w'' => ∃ v', e = .returned v' ∧ OwnI 3 w'.heap.size w'' v' (xs.take i) ∧ Below w'.heap.size w' w'' := by
  have := list_any (.slice (some ⟨b0, off0, none⟩) i c) (xs.take i) w' ((ints_takeN h hi).below hb)
  rw [leaf_take hl i] at this
  exact this
theorem leaf_own {B : Nat} {w : World} {v : Value} {xs : List Int} {i : Nat} (h : xs.take i ++ xs.drop (i + 1) = toI (dropI (natW xs) i)) (hx : xs.length ≤ 30) (ho : OwnI 3 B w v (xs.take i ++ xs.drop (i + 1))) : Ints w v (toI (dropI (natW xs) i)) := by
  have hl : (xs.take i ++ xs.drop (i + 1)).length ≤ 17592186044416 := by simp only [List.length_append, List.length_take, List.length_drop]; omega
  rw [h] at ho hl
  exact ho.ints hl
theorem leaf_zl {K n z : Nat} (hv : validB K n = true) (hz : z < (wordsG K n).length) : (toI ((wordsG K n).getD z [])).length ≤ 17592186044416 := by
  have := wd_short (tkG hv) hz
  simp only [toI_length]; omega
theorem leaf_wl {K n : Nat} (hv : validB K n = true) {xs : List Int} (q1 : wordB (mirs K n) xs = true) (i : Nat) : (toI ((wordsG K n).getD (walkX (nextG K n) 0 (dropI (natW xs) i)) [])).length ≤ 17592186044416 :=
  leaf_zl hv ((gmG hv).walk _ 0 (gmG hv).pos fun s hs => (word_nat q1).2.1 s (dropI_mem hs))
theorem leaf_equal {xs ys : List Int} {b : Bool} (hb : decide (xs = ys) = b) (v1 v2 : Value) (w : World) (B1 B2 : Nat) (hx : xs.length ≤ 17592186044416) (hy : ys.length ≤ 17592186044416) (h1 : OwnI 3 B1 w v1 xs) (h2 : OwnI 3 B2 w v2 ys) :
    Calls Try.prog 23 #[v1, v2] w fun e w' => e = .returned (.bool b) ∧ Below w.heap.size w w' := EqualM_any v1 v2 xs ys w (h1.ints hx) (h2.ints hy) b hb
theorem leaf_le9 {xs : List Int} (h : xs.length ≤ 30) (i : Nat) : (xs.take i).length + (xs.length - (i + 1)) < 1000000 := by simp only [List.length_take]; omega
theorem leaf_drop {m : Nat} {xs : List Int} (q1 : wordB m xs = true) (i : Nat) : xs.take i ++ xs.drop (i + 1) = toI (dropI (natW xs) i) := by
  have h := (word_nat q1).1
  unfold dropI
  rw [toI_append, ← toI_take, ← toI_dropN, h]
theorem leaf_normal {K n : Nat} (hv : validB K n = true) {xs : List Int} (q1 : wordB (mirs K n) xs = true) {i : Nat} (v' : Value) (w' : World) (hi : Ints w' v' (toI (dropI (natW xs) i))) :
    Calls Try.prog 36 #[.agg #[.int .u8 (K : Nat), .int .i64 (n : Nat)], v'] w' (WordOut ((wordsG K n).getD (walkX (nextG K n) 0 (dropI (natW xs) i)) []) w') := by
  have hn := word_nat q1
  have hd : ∀ s ∈ dropI (natW xs) i, s < mirs K n := fun s hs => hn.2.1 s (dropI_mem hs)
  have hw : wordB (mirs K n) (toI (dropI (natW xs) i)) = true := by
    unfold wordB
    rw [letters_all _ hd, toI_length]
    have h1 : (dropI (natW xs) i).length ≤ (natW xs).length := by
      unfold dropI; rw [List.length_append, List.length_take, List.length_drop]; omega
    rw [natW_length] at h1
    have := hn.2.2
    simp; omega
  have := Normal_yes K n v' _ w' hv hi hw
  rw [show ix K n (toI (dropI (natW xs) i)) = walkX (nextG K n) 0 (dropI (natW xs) i) by unfold ix; rw [natW_of]] at this
  exact this
theorem leaf_eq {K n : Nat} (hv : validB K n = true) {xs : List Int} (q1 : wordB (mirs K n) xs = true) {z k0 : Nat} (hz : z < (wordsG K n).length) (hiff : ∀ i, i < xs.length → (walkX (nextG K n) 0 (dropI (natW xs) i) = z ↔ i = k0)) (i : Nat) (hi : i < xs.length) :
    decide (toI ((wordsG K n).getD (walkX (nextG K n) 0 (dropI (natW xs) i)) []) = toI ((wordsG K n).getD z [])) = decide (i = k0) := by
  rw [dec_toI]
  have hd : walkX (nextG K n) 0 (dropI (natW xs) i) < (wordsG K n).length := (gmG hv).walk _ 0 (gmG hv).pos fun s hs => (word_nat q1).2.1 s (dropI_mem hs)
  refine decide_eq_decide.2 ⟨fun e => (hiff i hi).1 ?_, fun e => by rw [(hiff i hi).2 e]⟩
  have h1 := walk_at hv hd
  rw [e, walk_at hv hz] at h1
  exact h1.symm
theorem ints_one1 (w : World) (y : Int) : Ints (w.alloc (.cells #[.int .i64 y] 3)) (.slice (some ⟨w.heap.size, 0, none⟩) 1 1) [y] := by
  refine ⟨_, 1, rfl, by simp, by simp, fun _ => ⟨w.heap.size, 0, rfl, by simp, fun i hi => ?_⟩⟩
  have : i = 0 := by simp at hi; omega
  subst this
  simp
theorem LV_none {K n : Nat} (hv : validB K n = true) {xs : List Int} (q1 : wordB (mirs K n) xs = true) {iu t : Nat} (hl : lenX (wordsG K n) (ix K n xs) = xs.length) (hi : ix K n xs = iu) (h : ¬ lenX (wordsG K n) (stepX (nextG K n) iu t) < lenX (wordsG K n) iu) :
    leaveAt (nextG K n) (natW xs) (stepX (nextG K n) (ix K n xs) t) = none := by
  subst hi
  exact leave_not (gmG hv) (word_nat q1).2.1 (by unfold shortW; rw [natW_length]; exact hl) h
theorem LV_some {K n : Nat} (hv : validB K n = true) {xs : List Int} (q1 : wordB (mirs K n) xs = true) {iu t : Nat} (hl : lenX (wordsG K n) (ix K n xs) = xs.length) (hi : ix K n xs = iu) (ht : t < mirs K n) (h : lenX (wordsG K n) (stepX (nextG K n) iu t) < lenX (wordsG K n) iu) :
    ∃ k, k < xs.length ∧ leaveAt (nextG K n) (natW xs) (stepX (nextG K n) (ix K n xs) t) = some k ∧ ∀ i, i < xs.length → (walkX (nextG K n) 0 (dropI (natW xs) i) = stepX (nextG K n) iu t ↔ i = k) := by
  subst hi
  obtain ⟨k, h1, h2, h3⟩ := leave_there (gmG hv) (rqG hv) (word_nat q1).2.1 (by unfold shortW; rw [natW_length]; exact hl) ht h
  rw [natW_length] at h1
  exact ⟨k, h1, h2, fun i hi => h3 i (by rw [natW_length]; exact hi)⟩

set_option maxRecDepth 20000 in
set_option maxHeartbeats 4000000 in
theorem LeavesL_no (K : Nat) (n : Int) (vu : Value) (xs : List Int) (s : Int) (w : World) (hK : K < 256) (hx : Ints w vu xs) (h : okI K n [xs] = false) :
    Calls Try.prog 11 #[grpI K n, vu, .int .i64 s] w (TrueM w) := by
  have AW := Lib.hid (fun w' => awake_any w')
  have OF := Lib.hid (fun w' => Of_any K n w')
  have LU := Lib.hid (fun w' (hb : Below (w.heap.size + 1) (w.alloc (.cells #[.int .u8 (K : Nat), .int .i64 n] 23)) w') => list_any vu xs w' (intsS hx hb))
  have FA := Lib.hid (fun v' w' (hi : Ints w' v' (xs.take 34)) => Falls_no K n v' _ w' hK hi (by rw [okI_take1]; exact h))
  have WS := Lib.hid (fun v' w' (hi : Ints w' v' (xs.take 34)) => Words_no K n v' _ w' hK hi (by rw [okI_take1]; exact h))
  have hlu : (xs.take 34).length ≤ 17592186044416 := by rw [List.length_take]; omega
  obtain ⟨a, c, rfl, hx1⟩ := hx
  unfold grpI at *
  clear hx1 h
  go_enter Try.func11, Try.ntmps11
  go_wp2_with (first
      | (go_at_call 20; refine (AW.out _).mono ?_; rintro e w7 ⟨rfl, hb7'⟩; have hb7 := chainS hb6 hb7')
      | (go_at_call 42; refine (WS.out v5 w5 (ho5.ints hlu)).mono ?_; rintro e w6 ⟨rfl, hb6'⟩; have hb6 := chainS hb5 hb6'; have g60 := (heldS hb6).at (i := 0) rfl; have g61 := (heldS hb6).at (i := 1) rfl)
      | (go_at_call 17; refine (LU.out w4 hb4).mono ?_; rintro e w5 ⟨v5, rfl, ho5, hb5'⟩; have hb5 := chainS hb4 hb5')
      | (go_at_call 16; refine (OF.out _).mono ?_; rintro e w4 ⟨rfl, hb4'⟩; have hb4 := chainS hb3 hb4')
      | (go_at_call 26; refine (FA.out v2 w2 (ho2.ints hlu)).mono ?_; rintro e w3 ⟨rfl, hb3'⟩; have hb3 := chainS hb2 hb3'; have g30 := (heldS hb3).at (i := 0) rfl; have g31 := (heldS hb3).at (i := 1) rfl)
      | (go_at_call 17; refine (LU.out w1 hb1).mono ?_; rintro e w2 ⟨v2, rfl, ho2, hb2'⟩; have hb2 := chainS hb1 hb2')
      | (go_at_call 16; refine (OF.out _).mono ?_; rintro e w1 ⟨rfl, hb1q⟩; have hb1 := hb1q.mono (show w.heap.size + 1 ≤ _ by simp)))
  go_ret
  exact ⟨rfl, chainE hb7⟩

set_option maxRecDepth 20000 in
set_option maxHeartbeats 8000000 in
theorem LeavesL_yes (K n : Nat) (vu : Value) (xs : List Int) (s : Int) (w : World) (hv : validB K n = true) (hx : Ints w vu xs) (q1 : wordB (mirs K n) xs = true) :
    Calls Try.prog 11 #[.agg #[.int .u8 (K : Nat), .int .i64 (n : Nat)], vu, .int .i64 s] w (TrueM w) := by
  have hK := K_lt hv
  have hok : okI K (n : Int) [xs] = true := by rw [okI_cast hv]; simp [q1]
  have FN := Lib.hid (fun w' v' (ha : Args w' v' [xs]) => by have := fine_any K (n : Int) v' [xs] w' hK ha; rw [hok] at this; exact this)
  have AW := Lib.hid (fun w' => awake_any w')
  have OF := Lib.hid (fun w' => Of_any K (n : Int) w')
  have n1 := word_nat q1
  have hil := ix_lt hv q1
  have LU := Lib.hid (fun w' (hb : Below (w.heap.size + 1) (w.alloc (.cells #[.int .u8 (K : Nat), .int .i64 (n : Nat)] 23)) w') => by have := list_any vu xs w' (intsS hx hb); rw [List.take_of_length_le (by omega)] at this; exact this)
  have HU := Lib.hid (fun w' (hb : Below (w.heap.size + 1) (w.alloc (.cells #[.int .u8 (K : Nat), .int .i64 (n : Nat)] 23)) w') => intsS hx hb)
  have hlu := word_len q1
  have FA := Lib.hid (fun v' w' (hi' : Ints w' v' xs) => Falls_yes K n v' xs w' hv hi' q1)
  have WS := Lib.hid (fun v' w' (hi' : Ints w' v' xs) => Words_yes K n v' xs w' hv hi' q1)
  have hgm := gmG hv
  have hiu0 : ix K n xs = walkX (nextG K n) 0 (natW xs) := rfl
  obtain ⟨iu, hiu⟩ : ∃ iu, ix K n xs = iu := ⟨_, rfl⟩
  have hls : ∀ x, x ∈ shR (wordsG K n) (nextG K n) (lenX (wordsG K n) iu) iu ↔ x ∈ shL (wordsG K n) (nextG K n) (lenX (wordsG K n) iu) iu [] := fun x => (shR_perm _ _ _ _).mem_iff
  rw [hiu] at FA WS hil
  have hlast := last_falls hgm (rowG hv) (wordIn hv) hil hls
  have hck := ckSG hv
  have hm4 := mirs_le hv
  have hmem : ∀ x ∈ shR (wordsG K n) (nextG K n) (lenX (wordsG K n) iu) iu, x.length = lenX (wordsG K n) iu ∧ ∀ t ∈ x, t < mirs K n := fun x hx => by
    obtain ⟨h1, h2, _⟩ := (shL_iff hgm (rowG hv) _ iu x hil rfl).1 ((hls x).1 hx)
    exact ⟨h1, h2⟩
  have hfew := shL_few hck.1 hck.2 (inX hv) (f := lenX (wordsG K n) iu) [] hil rfl
  rw [← (shR_perm _ _ _ _).length_eq] at hfew
  have hl12 : lenX (wordsG K n) iu ≤ 12 := by unfold lenX; rw [getDL hil]; exact (tkG hv).short _ (List.getElem_mem hil)
  obtain ⟨R, hR⟩ : ∃ R, shR (wordsG K n) (nextG K n) (lenX (wordsG K n) iu) iu = R := ⟨_, rfl⟩
  rw [hR] at WS hlast hmem hfew
  have HFW := Lib.hid (show ∀ l ∈ R, wordB (mirs K n) (toI l) = true from fun l hl => by
    unfold wordB
    rw [letters_all l (hmem l hl).2, toI_length, (hmem l hl).1]
    simp; omega)
  have FR := Lib.hid (fun (v : Value) (w' : World) (B : Nat) (h : RowsF (fun _ => True) B w' v R) => fine_rows K n v R w' hv h HFW.out (by omega))
  obtain ⟨F, hF⟩ : ∃ F, fallsTo (wordsG K n) (nextG K n) iu (mirs K n) = F := ⟨_, rfl⟩
  have HF16 := Lib.hid (show F < 16 by rw [← hF]; exact fallsTo_16 _ _ _ _ hm4)
  have HFT := Lib.hid (show ∀ t, F.testBit t = true ↔ t < mirs K n ∧ lenX (wordsG K n) (stepX (nextG K n) iu t) < lenX (wordsG K n) iu from fun t => by rw [← hF, fallsTo_test]; unfold fallB; simp)
  rw [hF] at FA hlast
  obtain ⟨ln, hln⟩ : ∃ ln, lenX (wordsG K n) iu = ln := ⟨_, rfl⟩
  rw [hln] at hmem hl12
  have LR := Lib.hid (fun (v : Value) (w' : World) (B : Nat) (h : RowsF (fun _ => True) B w' v R) => last_row h (fun x hx => (hmem x hx).1) (fun x hx t ht => Nat.lt_of_lt_of_le ((hmem x hx).2 t ht) hm4))
  have HLAST := Lib.hid hlast
  have HNE := Lib.hid hfew.2
  obtain ⟨nl, hnl⟩ : ∃ nl, R.length = nl := ⟨_, rfl⟩
  have HNL := Lib.hid hnl
  rw [hnl] at hfew
  have hRp := hfew.2
  have hRl := hfew.1
  have hn0 : ((nl : Int) == 0) = false := by simp; omega
  have hn1 : ¬ nl = 0 := by omega
  have HV := Lib.hid hv
  have HQ := Lib.hid q1
  have HIL := Lib.hid hil
  have HLN := Lib.hid hln
  have HIU := Lib.hid (hiu0.symm.trans hiu)
  have HIX := Lib.hid hiu
  have hxl : xs.length ≤ 30 := n1.2.2
  obtain ⟨a, c, rfl, hx1⟩ := hx
  have hxi := Lib.hid hx1
  have hxc : xs.length ≤ c := hx1.2.1
  unfold grpI at *
  clear hx1 hv hK hok n1 q1 hiu0 hiu hls hR hlast hck hmem hfew hil hgm hF hln hnl
  go_enter Try.func11, Try.ntmps11
  go_upto_region 9 with (first
      | (go_at_call 19; refine (FR.out _ w7 _ (hr6.below hb7')).mono ?_; rintro e w8 ⟨rfl, hb8'⟩; have hb8 := chainS hb7 hb8'; have g80 := (heldS hb8).at (i := 0) rfl; have g81 := (heldS hb8).at (i := 1) rfl)
      | (go_at_call 19; refine (FN.out _ _ (args1 (HU.out w6 hb6) _ rfl)).mono ?_; rintro e w7 ⟨rfl, hb7q⟩; have hb7' := below_al (Nat.le_refl _) hb7q; have hb7 := chainS hb6 hb7'; have g70 := (heldS hb7).at (i := 0) rfl; have g71 := (heldS hb7).at (i := 1) rfl)
      | (go_at_call 42; refine (WS.out v5 w5 (ho5.ints hlu)).mono ?_; rintro e w6 ⟨v6, rfl, hr6, hb6'⟩; have hb6 := chainS hb5 hb6'; have g60 := (heldS hb6).at (i := 0) rfl; have g61 := (heldS hb6).at (i := 1) rfl; obtain ⟨a6, c6, e6⟩ := hr6.form; rw [HNL.out] at e6; subst e6)
      | (go_at_call 17; refine (LU.out w4 hb4).mono ?_; rintro e w5 ⟨v5, rfl, ho5, hb5'⟩; have hb5 := chainS hb4 hb5')
      | (go_at_call 16; refine (OF.out _).mono ?_; rintro e w4 ⟨rfl, hb4'⟩; have hb4 := chainS hb3 hb4')
      | (go_at_call 26; refine (FA.out v2 w2 (ho2.ints hlu)).mono ?_; rintro e w3 ⟨rfl, hb3'⟩; have hb3 := chainS hb2 hb3'; have g30 := (heldS hb3).at (i := 0) rfl; have g31 := (heldS hb3).at (i := 1) rfl)
      | (go_at_call 17; refine (LU.out w1 hb1).mono ?_; rintro e w2 ⟨v2, rfl, ho2, hb2'⟩; have hb2 := chainS hb1 hb2')
      | (go_at_call 16; refine (OF.out _).mono ?_; rintro e w1 ⟨rfl, hb1q⟩; have hb1 := hb1q.mono (show w.heap.size + 1 ≤ _ by simp)))
  have HR9 := Lib.hid ((hr6.below hb7').below hb8')
  have HB9 := Lib.hid hb8
  have G9 := Lib.hid (fun wr (hb : Below w8.heap.size w8 wr) => heldS (chainS hb8 hb))
  clear hb2' hb3' hb4' hb5' hb6' hb7' hb8' hb1 hb2 hb3 hb4 hb5 hb6 hb7 hb8 hb1q hb7q hr6 ho2 ho5 g30 g31 g60 g61 g70 g71
  go_loop [11, 69] (fun la ix => ∃ k : Nat, k ≤ nl ∧ ix = .int .i64 k ∧ la = .int .i64 ((lastF (R.take k) : Nat) : Int)) (fun _ ix => nl - (intOf ix).toNat)
  case atStart => exact ⟨0, Nat.zero_le _, rfl, rfl⟩
  case round =>
    obtain ⟨k, hk, rfl, rfl⟩ := hrel
    by_cases hlt : k < nl
    · obtain ⟨gx, capx, ax, cx, ex, hcx, h16, hz, hs⟩ := LR.out _ _ _ HR9.out k (by rw [HNL.out]; exact hlt)
      rw [HNL.out] at ex
      obtain ⟨rfl, _, rfl⟩ := Value.slice.inj ex
      have hki : (k : Int) < (nl : Int) := by omega
      obtain ⟨Fk, hFk⟩ : ∃ Fk, lastF (R.take k) = Fk := ⟨_, rfl⟩
      rw [hFk] at h16 hz hs ⊢
      by_cases h0 : ln = 0
      · have HS := Lib.hid (hz h0)
        subst h0
        clear hz hs hFk ex
        go_wp2
        go_round
        case rel => exact ⟨k + 1, by omega, by go_num, by rw [HS.out]⟩
        case measure => simp [intOf]; omega
      · obtain ⟨l, rfl⟩ : ∃ l, ln = l + 1 := ⟨ln - 1, by omega⟩
        obtain ⟨b, off, t, rfl, hct, ht4, hst⟩ := hs l rfl
        have HS := Lib.hid hst
        have p1 := pow_inM t (by omega)
        have p2 := pow_inM64 t (by omega)
        have p3 := or_wM t ht4 Fk h16
        have hln0 : decide (0 < l + 1) = true := by simp
        have hln1 : decide ((0 : Int) < (l : Int) + 1) = true := decide_eq_true (by omega)
        clear hz hs hFk ex hst h0
        go_wp2
        go_round
        case rel => exact ⟨k + 1, by omega, by go_num, by rw [HS.out]⟩
        case measure => simp [intOf]; omega
    · obtain rfl : k = nl := by omega
      have hki : ¬ (k : Int) < (k : Int) := by omega
      have HTK := Lib.hid (show lastF (R.take k) = F by rw [← HNL.out, List.take_length, HLAST.out])
      rw [HTK.out]
      obtain ⟨g0, cap0, a0, c0, e0, hc0, _⟩ := LR.out _ _ _ HR9.out 0 HNE.out
      rw [HNL.out] at e0
      obtain ⟨rfl, _, rfl⟩ := Value.slice.inj e0
      have hcl0 := World.block_lt_of_cell? _ _ hc0
      have hb8 := HB9.out
      have g80 := (heldS hb8).at (i := 0) rfl
      have g81 := (heldS hb8).at (i := 1) rfl
      have ne0 : ((F : Int) != (F : Int)) = false := by simp
      clear hki e0
      by_cases hlen : xs.length = ln
      · have hle : ((xs.length : Int) == (ln : Int)) = true := by simp; omega
        have hle2 : (xs.length == ln) = true := by simpa using hlen
        have HLX := Lib.hid (show lenX (wordsG K n) (ix K n xs) = xs.length by rw [HIX.out, HLN.out, hlen])
        clear hlen
        by_cases h0 : s < 0
        · have LVB := Lib.hid (fun v' w' (hi' : Ints w' v' xs) => Leave_bad K n v' xs s w' HV.out hi' HQ.out (.inl h0))
          have d0 : decide (0 ≤ s) = false := decide_eq_false (by omega)
          have d1 : ¬ 0 ≤ s := by omega
          go_wp2_with (first
              | (go_at_call 20; refine (AW.out _).mono ?_; rintro e w12 ⟨rfl, hb12'⟩; have hb12 := chainS hb11 hb12')
              | (go_at_call 27; refine (LVB.out v10 w10 (ho10.ints hlu)).mono ?_; rintro e w11 ⟨rfl, hb11'⟩; have hb11 := chainS hb10 hb11'; have hc11 := ((chainT (chainT hb9' hb10') hb11').cell (p := ⟨g0, 0, none⟩) hcl0).trans hc0)
              | (go_at_call 17; refine (LU.out w9 hb9).mono ?_; rintro e w10 ⟨v10, rfl, ho10, hb10'⟩; have hb10 := chainS hb9 hb10')
              | (go_at_call 16; refine (OF.out _).mono ?_; rintro e w9 ⟨rfl, hb9'⟩; have hb9 := chainS hb8 hb9'))
          go_ret
          exact ⟨rfl, chainE hb12⟩
        · by_cases h4 : 4 ≤ s
          · have LVB := Lib.hid (fun v' w' (hi' : Ints w' v' xs) => Leave_bad K n v' xs s w' HV.out hi' HQ.out (.inr (.inl (by omega))))
            have d0 : decide (0 ≤ s) = true := decide_eq_true (by omega)
            have d1 : 0 ≤ s := by omega
            have d2 : decide (s < 4) = false := decide_eq_false (by omega)
            have d3 : ¬ s < 4 := by omega
            clear h0 h4
            go_wp2_with (first
                | (go_at_call 20; refine (AW.out _).mono ?_; rintro e w12 ⟨rfl, hb12'⟩; have hb12 := chainS hb11 hb12')
                | (go_at_call 27; refine (LVB.out v10 w10 (ho10.ints hlu)).mono ?_; rintro e w11 ⟨rfl, hb11'⟩; have hb11 := chainS hb10 hb11'; have hc11 := ((chainT (chainT hb9' hb10') hb11').cell (p := ⟨g0, 0, none⟩) hcl0).trans hc0)
                | (go_at_call 17; refine (LU.out w9 hb9).mono ?_; rintro e w10 ⟨v10, rfl, ho10, hb10'⟩; have hb10 := chainS hb9 hb10')
                | (go_at_call 16; refine (OF.out _).mono ?_; rintro e w9 ⟨rfl, hb9'⟩; have hb9 := chainS hb8 hb9'))
            go_ret
            exact ⟨rfl, chainE hb12⟩
          · obtain ⟨t, rfl⟩ : ∃ t : Nat, s = t := ⟨s.toNat, by omega⟩
            have ht4 : t < 4 := by omega
            have d0 : decide ((0 : Int) ≤ (t : Int)) = true := decide_eq_true (by omega)
            have d2 : decide ((t : Int) < 4) = true := decide_eq_true (by omega)
            have d3 : (t : Int) < 4 := by omega
            have d4 : decide (t < 4) = true := decide_eq_true ht4
            have hbq := bit_wL F HF16.out t ht4
            clear h0 h4
            by_cases hm : (mirs K n : Int) ≤ (t : Int)
            · have LVB := Lib.hid (fun v' w' (hi' : Ints w' v' xs) => Leave_bad K n v' xs t w' HV.out hi' HQ.out (.inr (.inl hm)))
              have hbf : F.testBit t = false := by
                cases hb : F.testBit t with
                | false => rfl
                | true => have := (HFT.out t).1 hb; omega
              rw [hbf] at hbq
              simp only [Bool.false_eq_true, if_false] at hbq
              clear hm hbf
              go_wp2_with (first
                  | (go_at_call 20; refine (AW.out _).mono ?_; rintro e w12 ⟨rfl, hb12'⟩; have hb12 := chainS hb11 hb12')
                  | (go_at_call 27; refine (LVB.out v10 w10 (ho10.ints hlu)).mono ?_; rintro e w11 ⟨rfl, hb11'⟩; have hb11 := chainS hb10 hb11'; have hc11 := ((chainT (chainT hb9' hb10') hb11').cell (p := ⟨g0, 0, none⟩) hcl0).trans hc0)
                  | (go_at_call 17; refine (LU.out w9 hb9).mono ?_; rintro e w10 ⟨v10, rfl, ho10, hb10'⟩; have hb10 := chainS hb9 hb10')
                  | (go_at_call 16; refine (OF.out _).mono ?_; rintro e w9 ⟨rfl, hb9'⟩; have hb9 := chainS hb8 hb9'))
              go_ret
              exact ⟨rfl, chainE hb12⟩
            · have htm : t < mirs K n := by omega
              cases hb : F.testBit t with
              | false =>
                have LVB := Lib.hid (fun v' w' (hi' : Ints w' v' xs) => show Calls Try.prog 27 #[.agg #[.int .u8 (K : Nat), .int .i64 (n : Nat)], v', .int .i64 (t : Nat)] w' (fun e w'' => e = .returned (.tuple #[.int .i64 0, .int .i64 4]) ∧ Below w'.heap.size w' w'') from by have := Leave_yes K n v' xs t w' HV.out hi' HQ.out htm HLX.out; rw [LV_none HV.out HQ.out HLX.out HIX.out (fun h => by rw [(HFT.out t).2 ⟨htm, h⟩] at hb; cases hb)] at this; exact this)
                rw [hb] at hbq
                simp only [Bool.false_eq_true, if_false] at hbq
                clear hm hb htm
                go_wp2_with (first
                    | (go_at_call 20; refine (AW.out _).mono ?_; rintro e w12 ⟨rfl, hb12'⟩; have hb12 := chainS hb11 hb12')
                    | (go_at_call 27; refine (LVB.out v10 w10 (ho10.ints hlu)).mono ?_; rintro e w11 ⟨rfl, hb11'⟩; have hb11 := chainS hb10 hb11'; have hc11 := ((chainT (chainT hb9' hb10') hb11').cell (p := ⟨g0, 0, none⟩) hcl0).trans hc0)
                    | (go_at_call 17; refine (LU.out w9 hb9).mono ?_; rintro e w10 ⟨v10, rfl, ho10, hb10'⟩; have hb10 := chainS hb9 hb10')
                    | (go_at_call 16; refine (OF.out _).mono ?_; rintro e w9 ⟨rfl, hb9'⟩; have hb9 := chainS hb8 hb9'))
                go_ret
                exact ⟨rfl, chainE hb12⟩
              | true =>
                obtain ⟨k0, hk0, hlv, hiff⟩ := LV_some HV.out HQ.out HLX.out HIX.out htm ((HFT.out t).1 hb).2
                have LVB := Lib.hid (fun v' w' (hi' : Ints w' v' xs) => show Calls Try.prog 27 #[.agg #[.int .u8 (K : Nat), .int .i64 (n : Nat)], v', .int .i64 (t : Nat)] w' (fun e w'' => e = .returned (.tuple #[.int .i64 ((k0 : Nat) : Int), .int .i64 0]) ∧ Below w'.heap.size w' w'') from by have := Leave_yes K n v' xs t w' HV.out hi' HQ.out htm HLX.out; rw [hlv] at this; exact this)
                have hzl := leaf_len HV.out HIL.out htm HLX.out HIX.out ((HFT.out t).1 hb).2
                have HZN := Lib.hid ((gmG HV.out).step iu HIL.out t htm)
                obtain ⟨z, hz⟩ : ∃ z, stepX (nextG K n) iu t = z := ⟨_, rfl⟩
                have TM := Lib.hid (fun u' v' w' (hi : Ints w' u' xs) (hj : Ints w' v' [(t : Int)]) => by have := Times_yes K n u' v' xs [(t : Int)] w' HV.out hi hj HQ.out (wordB_one htm); rw [HIX.out, walk_one, hz] at this; exact this)
                rw [hz] at hiff hzl HZN
                have HEQ := Lib.hid (leaf_eq HV.out HQ.out HZN.out hiff)
                obtain ⟨lz, hlz⟩ : ∃ lz, lenX (wordsG K n) z = lz := ⟨_, rfl⟩
                have HLZ := Lib.hid hlz
                rw [hlz] at hzl
                have hsh : ((lz : Int) != (xs.length : Int) - 1) = false := by simp; omega
                have NO := Lib.hid (fun (i : Nat) v' w' (hi' : Ints w' v' (toI (dropI (natW xs) i))) => leaf_normal (i := i) HV.out HQ.out v' w' hi')
                have HC1 := Lib.hid hxi.out
                rw [hb] at hbq
                simp only [if_true] at hbq
                clear hm hb htm hlv hiff hz hlz
                go_upto_region 23 with (first
                      | (go_at_call 15; refine (TM.out v13 _ _ ((ho13.ints hlu).below ((Below.refl _ _).alloc (Nat.le_refl _) _)) (ints_one1 w13 (t : Int))).mono ?_; rintro e w14 ⟨v14, rfl, ho14, hb14q⟩; have hb14' := below_al (Nat.le_refl _) hb14q; have hb14 := chainS hb13 hb14'; obtain ⟨a14, c14, e14⟩ := own_lenX ho14; rw [HLZ.out] at e14; subst e14)
                      | (go_at_call 17; refine (LU.out w12 hb12).mono ?_; rintro e w13 ⟨v13, rfl, ho13, hb13'⟩; have hb13 := chainS hb12 hb13')
                      | (go_at_call 16; refine (OF.out _).mono ?_; rintro e w12 ⟨rfl, hb12'⟩; have hb12 := chainS hb11 hb12')
                      | (go_at_call 27; refine (LVB.out v10 w10 (ho10.ints hlu)).mono ?_; rintro e w11 ⟨rfl, hb11'⟩; have hb11 := chainS hb10 hb11'; have g110 := (heldS hb11).at (i := 0) rfl; have g111 := (heldS hb11).at (i := 1) rfl; have hc11 := ((chainT (chainT hb9' hb10') hb11').cell (p := ⟨g0, 0, none⟩) hcl0).trans hc0)
                      | (go_at_call 17; refine (LU.out w9 hb9).mono ?_; rintro e w10 ⟨v10, rfl, ho10, hb10'⟩; have hb10 := chainS hb9 hb10')
                      | (go_at_call 16; refine (OF.out _).mono ?_; rintro e w9 ⟨rfl, hb9'⟩; have hb9 := chainS hb8 hb9'))
                have HB14 := Lib.hid hb14
                have HO14 := Lib.hid ho14
                clear hb8 g80 g81 ho10 ho13 g110 g111 hb14q hb14 ho14 hc11 hc0 hcl0 hb9 hb9' hb10 hb10' hb11 hb11' hb12 hb12' hb13 hb13' hb14'
                go_loopw [158] (fun ix wr => ∃ i : Nat, i ≤ xs.length ∧ ix = .int .i64 i ∧ Below w14.heap.size w14 wr) (fun ix _ => xs.length - (intOf ix).toNat)
                case atStart => exact ⟨0, Nat.zero_le _, rfl, Below.refl _ _⟩
                case round =>
                  obtain ⟨i, hi, rfl, hb⟩ := hrel
                  have HBR := Lib.hid (chainS HB14.out hb)
                  by_cases hlt : i < xs.length
                  · obtain ⟨b0, off0, rfl, hbl, _⟩ := HC1.out.2.2 (ne_nil_of_lt hlt)
                    have hvr := HU.out wr HBR.out
                    have HT1 := Lib.hid (ints_takeN hvr (k := i) hi)
                    have hd1 := ints_drop hvr (k := i + 1) (by omega)
                    obtain ⟨adt, hadt⟩ : ∃ adt : Addr, (if c = i + 1 then some (⟨b0, off0, none⟩ : Addr) else some ⟨b0, off0 + (i + 1), none⟩) = some adt := by split <;> exact ⟨_, rfl⟩
                    rw [hadt] at hd1
                    have HD1 := Lib.hid hd1
                    have HDL := Lib.hid (show (xs.drop (i + 1)).length = xs.length - (i + 1) by rw [List.length_drop])
                    have HAP := Lib.hid (leaf_drop HQ.out i)
                    have LT := Lib.hid (leaf_list hvr hxl hi)
                    have HG := Lib.hid (fun w' (hb' : Below wr.heap.size wr w') => heldS (chainS HBR.out hb'))
                    have HOZ := Lib.hid (OwnI.below HO14.out hb)
                    have HLN12 := Lib.hid (leaf_wl HV.out HQ.out i)
                    have HLZ12 := Lib.hid (leaf_zl HV.out HZN.out)
                    have g0 := (HG.out wr (Below.refl _ _)).at (i := 0) rfl
                    have g1 := (HG.out wr (Below.refl _ _)).at (i := 1) rfl
                    have hii : (i : Int) < (xs.length : Int) := by omega
                    have hle9 := leaf_le9 hxl i
                    have f1 : IntKind.i64.wrap ((i : Int) + 1) = (i : Int) + 1 := IntWalk.i64_in _ (by omega)
                    have f2 : (0 : Int) ≤ (i : Int) + 1 := by omega
                    have f3 : ((i : Int) + 1).toNat = i + 1 := by omega
                    have f4 : (i : Int) + 1 ≤ (xs.length : Int) := by omega
                    have f5 : (i : Int) ≤ (c : Int) := by omega
                    have f6 : (0 : Int) ≤ (i : Int) := by omega
                    have HBL := Lib.hid hb
                    clear hvr hd1 hb
                    go_upto_region 25 with (fail)
                    go_region_law (first
                      | (refine step_call (by rfl) 36 #[.agg #[.int .u8 (K : Nat), .int .i64 (n : Nat)], .slice aA nA cA] ?hr3 (NO.out i _ _ HIA.out) ?_; (case hr3 => go_simp); rintro e wN ⟨vN, rfl, hoN, hbN⟩; refine ⟨_, rfl, ?_⟩; have HBN := Lib.hid (HBA.out.trans (hbN.mono HBA.out.size)); have HON := Lib.hid hoN; obtain ⟨aN, nN, cN, rfl⟩ := own_form hoN; clear hoN hbN)
                      | (refine step_appG (by rfl) _ _ (by rfl) (by rfl) (by rfl) HOL.out HDL.out (HD1.out.below HBLL.out) hle9 HLE.out ?_; intro vA wA hoA hgA; have HBA := Lib.hid (HBLL.out.grown hgA HBLL.out.size HLO.out); have HIA := Lib.hid (leaf_own HAP.out hxl hoA); obtain ⟨aA, nA, cA, rfl⟩ := own_form hoA; clear hoA hgA)
                      | (refine step_call (by rfl) 17 #[.slice (some ⟨b0, off0, none⟩) i c] ?hr1 (LT.out _ HBO.out) ?_; (case hr1 => go_simp); rintro e wL ⟨vL, rfl, hoL, hbL⟩; refine ⟨_, rfl, ?_⟩; have HBLL := Lib.hid (HBO.out.trans (hbL.mono HBO.out.size)); have HLE := Lib.hid hbL.size; have HOL := Lib.hid hoL; have HLO := Lib.hid (fun q hq => Nat.le_trans HBO.out.size (hoL.lt q hq).1); obtain ⟨aL, nL, cL, rfl⟩ := own_form hoL; clear hoL hbL)
                      | (refine step_call (by rfl) 16 #[.agg #[.int .u8 (K : Nat), .int .i64 (n : Nat)]] ?hr2 (OF.out _) ?_; (case hr2 => go_simp); rintro e wO ⟨rfl, hbO⟩; refine ⟨_, rfl, ?_⟩; have HBO := Lib.hid (show Below wr.heap.size wr wO from ((Below.refl wr.heap.size wr).drew).trans hbO); clear hbO))
                    all_goals
                      clear f1 f2 f3 f4 f5 f6 g0 g1
                      by_cases hik : i = k0
                      · have EQ2 := Lib.hid (leaf_equal ((HEQ.out i hlt).trans (decide_eq_true hik)))
                        have hk1 : ((i : Int) == (k0 : Int)) = true := by simp; omega
                        clear hik
                        go_wp2_with (go_at_call 23; refine (EQ2.out _ _ wN _ _ HLN12.out HLZ12.out HON.out (OwnI.below HOZ.out HBN.out)).mono ?_; rintro e wE ⟨rfl, hbE⟩)
                        go_roundw
                        case rel => exact ⟨i + 1, by omega, by go_num, (HBL.out.trans (HBN.out.mono HBL.out.size)).trans (hbE.mono (HBL.out.trans (HBN.out.mono HBL.out.size)).size)⟩
                        case measure => simp [intOf]; omega
                      · have EQ2 := Lib.hid (leaf_equal ((HEQ.out i hlt).trans (decide_eq_false hik)))
                        have hk1 : ((i : Int) == (k0 : Int)) = false := by simp; omega
                        clear hik
                        go_wp2_with (go_at_call 23; refine (EQ2.out _ _ wN _ _ HLN12.out HLZ12.out HON.out (OwnI.below HOZ.out HBN.out)).mono ?_; rintro e wE ⟨rfl, hbE⟩)
                        go_roundw
                        case rel => exact ⟨i + 1, by omega, by go_num, (HBL.out.trans (HBN.out.mono HBL.out.size)).trans (hbE.mono (HBL.out.trans (HBN.out.mono HBL.out.size)).size)⟩
                        case measure => simp [intOf]; omega
                  · obtain rfl : i = xs.length := by omega
                    have hii : ¬ ((xs.length : Nat) : Int) < (xs.length : Int) := by omega
                    clear hb
                    go_wp2_with (go_at_call 20; refine (AW.out _).mono ?_; rintro e wF ⟨rfl, hbF⟩)
                    go_ret
                    exact ⟨rfl, chainE (chainS HBR.out hbF)⟩
      · have hle : ((xs.length : Int) == (ln : Int)) = false := by simp; omega
        have hle2 : (xs.length == ln) = false := by simpa using hlen
        have LVB := Lib.hid (fun v' w' (hi' : Ints w' v' xs) => Leave_bad K n v' xs s w' HV.out hi' HQ.out (.inr (.inr (by rw [HIX.out, HLN.out]; omega))))
        clear hlen
        go_wp2_with (first
            | (go_at_call 20; refine (AW.out _).mono ?_; rintro e w12 ⟨rfl, hb12'⟩; have hb12 := chainS hb11 hb12')
            | (go_at_call 27; refine (LVB.out v10 w10 (ho10.ints hlu)).mono ?_; rintro e w11 ⟨rfl, hb11'⟩; have hb11 := chainS hb10 hb11'; have hc11 := ((chainT (chainT hb9' hb10') hb11').cell (p := ⟨g0, 0, none⟩) hcl0).trans hc0)
            | (go_at_call 17; refine (LU.out w9 hb9).mono ?_; rintro e w10 ⟨v10, rfl, ho10, hb10'⟩; have hb10 := chainS hb9 hb10')
            | (go_at_call 16; refine (OF.out _).mono ?_; rintro e w9 ⟨rfl, hb9'⟩; have hb9 := chainS hb8 hb9'))
        go_ret
        exact ⟨rfl, chainE hb12⟩
theorem mirrorLeaves_true (K : Nat) (n : Int) (vu : Value) (xs : List Int) (s : Int) (w : World) (hK : K < 256) (hx : Ints w vu xs) (_ : -9223372036854775808 ≤ s ∧ s ≤ 9223372036854775807) :
    Calls Try.prog 11 #[grpI K n, vu, .int .i64 s] w (TrueM w) := by
  cases hok : okI K n [xs] with
  | false => exact LeavesL_no K n vu xs s w hK hx hok
  | true =>
    obtain ⟨m, rfl, hv, hall⟩ := okI_nat hok
    simp only [List.all_cons, List.all_nil, Bool.and_true] at hall
    unfold grpI
    exact LeavesL_yes K m vu xs s w hv hx hall
end Go.Proofs.Ytmlhecfhhhebnaa
