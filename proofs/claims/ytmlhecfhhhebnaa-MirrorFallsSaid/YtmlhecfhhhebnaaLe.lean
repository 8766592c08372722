/- Leave: the program's walk. -/
import Derived.Test.YtmlhecfhhhebnaaTq
import Derived.StillTailTactics
namespace Go.Proofs.Ytmlhecfhhhebnaa
open Go.RowKit

/-- A word without its letter k. -/
def delX (X : List (List Nat)) (ws : List Nat) (k : Nat) : Nat := walkX X (walkX X 0 (ws.take k)) (ws.drop (k + 1))
def leaveAt (X : List (List Nat)) (ws : List Nat) (tg : Nat) : Option Nat := (List.range ws.length).find? fun k => delX X ws k == tg
theorem leave_some {X : List (List Nat)} {ws : List Nat} {tg k : Nat} (hk : k < ws.length) (h : delX X ws k = tg) (hb : ∀ j, j < k → delX X ws j ≠ tg) : leaveAt X ws tg = some k := by
  unfold leaveAt
  rw [List.find?_eq_some_iff_getElem]
  refine ⟨by simp [h], k, by simpa using hk, by simp, fun j hj => ?_⟩
  have := hb j hj
  simpa using this
theorem leave_none {X : List (List Nat)} {ws : List Nat} {tg : Nat} (hb : ∀ j, j < ws.length → delX X ws j ≠ tg) : leaveAt X ws tg = none := by
  unfold leaveAt
  rw [List.find?_eq_none]
  intro j hj
  have := hb j (List.mem_range.1 hj)
  simpa using this
def LvV : Option Nat → Value
  | some k => .tuple #[.int .i64 (k : Nat), .int .i64 0]
  | none => .tuple #[.int .i64 0, .int .i64 4]
def LeaveOut (r : Option Nat) (w : World) (e : Ending) (w' : World) : Prop := e = .returned (LvV r) ∧ Below w.heap.size w w'
theorem ints_takeN {w : World} {a : Option Addr} {n c : Nat} {xs : List Int} (h : Ints w (.slice a n c) xs) {k : Nat} (hk : k ≤ xs.length) : Ints w (.slice a k c) (xs.take k) := by
  obtain ⟨a', c', he, h1, h2, h3⟩ := h
  obtain ⟨rfl, rfl, rfl⟩ := Value.slice.inj he
  have hl : (xs.take k).length = k := by rw [List.length_take]; omega
  refine ⟨a, c, by rw [hl], by omega, by omega, fun hne => ?_⟩
  obtain ⟨b, off, e, r1, r2⟩ := h3 (fun e => hne (by rw [e]; simp))
  exact ⟨b, off, e, r1, fun i hi => by rw [r2 i (by omega)]; simp⟩
theorem ints_drop {w : World} {b off n c : Nat} {xs : List Int} (h : Ints w (.slice (some ⟨b, off, none⟩) n c) xs) {k : Nat} (hk : k ≤ xs.length) :
    Ints w (.slice (if c = k then some ⟨b, off, none⟩ else some ⟨b, off + k, none⟩) (xs.length - k) (c - k)) (xs.drop k) := by
  obtain ⟨a', c', he, h1, h2, h3⟩ := h
  obtain ⟨rfl, rfl, rfl⟩ := Value.slice.inj he
  have hl : (xs.drop k).length = xs.length - k := by rw [List.length_drop]
  refine ⟨_, c - k, by rw [hl], by omega, by omega, fun hne => ?_⟩
  have hp : 0 < (xs.drop k).length := List.length_pos_iff.2 hne
  obtain ⟨b', off', e, r1, r2⟩ := h3 (fun e => hne (by rw [e]; simp))
  obtain ⟨rfl, rfl⟩ : b = b' ∧ off = off' := by simpa using e
  refine ⟨b, off + k, by rw [if_neg (by omega)], r1, fun i hi => ?_⟩
  rw [show off + k + i = off + (k + i) by omega, r2 (k + i) (by omega)]
  simp

theorem next_at {K n bT : Nat} {W X : List (List Nat)} {w : World} (ht : TabIs K n W X w bT) {u s y : Nat} {r : List Nat} (hu : u < X.length) (hr : X[u] = r) (hs : s < r.length) (hy : r[s] = y) :
    ∃ g cap b off rc, w.cell? ⟨bT, 3, none⟩ = some (.slice (some ⟨g, 0, none⟩) X.length cap) ∧ w.cell? ⟨g, u, none⟩ = some (.slice (some ⟨b, off, none⟩) r.length rc) ∧ w.cell? ⟨b, off + s, none⟩ = some (.int .i64 (y : Nat)) := by
  subst hr
  subst hy
  obtain ⟨vW, vX, vM, hh, _, hX⟩ := ht
  obtain ⟨g, cap, ra, rc, e, hgc, hrc, _, hrow⟩ := hX.cells u hu
  have ct := hh.at (i := 3) rfl
  obtain ⟨b, off, e2, hcell⟩ := hrow (by omega)
  subst e2
  subst e
  exact ⟨g, cap, b, off, rc, ct, hgc, hcell s hs⟩

set_option maxRecDepth 20000 in
set_option maxHeartbeats 1000000 in
theorem Leave_no (K : Nat) (n : Int) (v : Value) (xs : List Int) (s : Int) (w : World) (hK : K < 256) (hx : Ints w v xs) (h : okI K n [xs] = false) :
    Calls Try.prog 27 #[grpI K n, v, .int .i64 s] w (NumErr w) := by
  have RD := Lib.hid (fun w' v' (ha : Args w' v' [xs]) => read_no K n v' [xs] w' hK ha h)
  have HX := Lib.hid (fun o : Obj => hx.below ((Below.refl _ _).alloc (Nat.le_refl _) o))
  obtain ⟨a, c, rfl, hx1⟩ := hx
  unfold grpI at *
  clear h hx1
  go_enter Try.func27, Try.ntmps27
  go_wp2_with (go_at_call 59; refine (RD.out _ _ (args1 (HX.out _) _ (by simp))).mono ?_; rintro e w1 ⟨rfl, hb1⟩)
  go_ret2
  exact ⟨rfl, below_al2 (Nat.le_refl _) hb1⟩

set_option maxRecDepth 20000 in
set_option maxHeartbeats 2000000 in
theorem Leave_bad (K n : Nat) (v : Value) (xs : List Int) (s : Int) (w : World) (hv : validB K n = true) (hx : Ints w v xs) (h : wordB (mirs K n) xs = true) (hb : s < 0 ∨ (mirs K n : Int) ≤ s ∨ lenX (wordsG K n) (ix K n xs) ≠ xs.length) :
    Calls Try.prog 27 #[.agg #[.int .u8 (K : Nat), .int .i64 (n : Nat)], v, .int .i64 s] w (NumErr w) := by
  have RD := Lib.hid (fun w' v' (ha : Args w' v' [xs]) => read_yes K n v' [xs] w' hv ha (by simpa using h))
  have HX := Lib.hid (fun o : Obj => hx.below ((Below.refl _ _).alloc (Nat.le_refl _) o))
  have MR := Lib.hid (fun w' => mirrors_nat K n hv w')
  have LN := Lib.hid (fun (bT : Nat) (w' : World) (ht : TabIs K n (wordsG K n) (nextG K n) w' bT) => length_any bT (ix K n xs) w' ht (tkG hv) (ix_lt hv h))
  have hxl := (word_nat h).2.2
  have hm4 := mirs_le hv
  obtain ⟨a, c, rfl, hx1⟩ := hx
  obtain ⟨lx, hlx⟩ : ∃ lx, lenX (wordsG K n) (ix K n xs) = lx := ⟨_, rfl⟩
  rw [hlx] at LN hb
  obtain ⟨m, hm⟩ : ∃ m, mirs K n = m := ⟨_, rfl⟩
  rw [hm] at MR hb hm4
  clear h hx1 hv hlx hm
  by_cases h0 : s < 0
  · have d0 : decide (s < 0) = true := by simpa using h0
    clear hb h0
    go_enter Try.func27, Try.ntmps27
    go_wp2_with (go_at_call 59; refine (RD.out _ _ (args1 (HX.out _) _ (by simp))).mono ?_; rintro e w1 ⟨bT, v1, rfl, ht1, ho1, hb1⟩; obtain ⟨g1, c1, rfl, hc1⟩ := own_one ho1)
    go_ret2
    exact ⟨rfl, below_al2 (Nat.le_refl _) hb1⟩
  · have d0 : decide (s < 0) = false := by simpa using h0
    by_cases h1 : (m : Int) ≤ s
    · have d1 : decide ((m : Int) ≤ s) = true := by simpa using h1
      clear hb h0 h1
      go_enter Try.func27, Try.ntmps27
      go_wp2_with (first
        | (go_at_call 66; refine (MR.out _).mono ?_; rintro e w2 ⟨rfl, hb2⟩)
        | (go_at_call 59; refine (RD.out _ _ (args1 (HX.out _) _ (by simp))).mono ?_; rintro e w1 ⟨bT, v1, rfl, ht1, ho1, hb1⟩; obtain ⟨g1, c1, rfl, hc1⟩ := own_one ho1; have hB := below_al2 (Nat.le_refl _) hb1; have gg0 := (((Held.made (w := w) (l := [.int .u8 (K : Nat), .int .i64 (n : Nat)]) (t := 28) rfl).alloc _).below hb1 (by simp; omega)).at (i := 0) rfl; have gg1 := (((Held.made (w := w) (l := [.int .u8 (K : Nat), .int .i64 (n : Nat)]) (t := 28) rfl).alloc _).below hb1 (by simp; omega)).at (i := 1) rfl))
      go_ret2
      exact ⟨rfl, hB.trans (hb2.mono hB.size)⟩
    · have d1 : decide ((m : Int) ≤ s) = false := by simpa using h1
      have h2 : lx ≠ xs.length := by omega
      have d2 : ((lx : Int) != (xs.length : Int)) = true := by simp; omega
      clear hb h0 h1
      go_enter Try.func27, Try.ntmps27
      go_wp2_with (first
        | (go_at_call 67; refine (LN.out bT _ (ht1.below hb2)).mono ?_; rintro e w3 ⟨rfl, rfl⟩)
        | (go_at_call 66; refine (MR.out _).mono ?_; rintro e w2 ⟨rfl, hb2⟩; have hc2 := ((ho1.below hb2).cellN 0 (by simp)))
        | (go_at_call 59; refine (RD.out _ _ (args1 (HX.out _) _ (by simp))).mono ?_; rintro e w1 ⟨bT, v1, rfl, ht1, ho1, hb1⟩; obtain ⟨g1, c1, rfl, hc1⟩ := own_one ho1; have hB := below_al2 (Nat.le_refl _) hb1; have gg0 := (((Held.made (w := w) (l := [.int .u8 (K : Nat), .int .i64 (n : Nat)]) (t := 28) rfl).alloc _).below hb1 (by simp; omega)).at (i := 0) rfl; have gg1 := (((Held.made (w := w) (l := [.int .u8 (K : Nat), .int .i64 (n : Nat)]) (t := 28) rfl).alloc _).below hb1 (by simp; omega)).at (i := 1) rfl))
      go_ret2
      exact ⟨rfl, hB.trans (hb2.mono hB.size)⟩

end Go.Proofs.Ytmlhecfhhhebnaa
