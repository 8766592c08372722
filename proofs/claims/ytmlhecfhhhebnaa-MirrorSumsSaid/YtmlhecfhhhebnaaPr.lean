/- The program's functions over a group and words: read laid plain; Normal, Times, Back, Longest, Length, Falls. -/
import Derived.Test.YtmlhecfhhhebnaaRd
import Derived.Test.YtmlhecfhhhebnaaEq
import Derived.Test.YtmlhecfhhhebnaaRf
namespace Go.Proofs.Ytmlhecfhhhebnaa
open Go.RowKit

theorem args0 (w : World) : Args w (.slice none 0 0) [] := ⟨none, 0, rfl, by simp, by simp, fun h => absurd rfl h⟩
theorem args1 {w : World} {v : Value} {xs : List Int} (h : Ints w v xs) (t : TypeId) {g : Nat} (hg : w.heap.size = g) : Args (w.alloc (.cells #[v] t)) (.slice (some ⟨g, 0, none⟩) 1 1) [xs] := by
  subst hg
  refine ⟨_, 1, rfl, by simp, by simp, fun _ => ⟨w.heap.size, 0, rfl, by simp, fun i hi => ?_⟩⟩
  obtain rfl : i = 0 := by simpa using hi
  exact ⟨v, by simp, h.below ((Below.refl _ _).alloc (Nat.le_refl _) _)⟩
theorem args2 {w : World} {u v : Value} {xs ys : List Int} (h : Ints w u xs) (h2 : Ints w v ys) (t : TypeId) {g : Nat} (hg : w.heap.size = g) : Args (w.alloc (.cells #[u, v] t)) (.slice (some ⟨g, 0, none⟩) 2 2) [xs, ys] := by
  subst hg
  refine ⟨_, 2, rfl, by simp, by simp, fun _ => ⟨w.heap.size, 0, rfl, by simp, fun i hi => ?_⟩⟩
  have hi2 : i = 0 ∨ i = 1 := by simp at hi; omega
  rcases hi2 with rfl | rfl
  · exact ⟨u, by simp, h.below ((Below.refl _ _).alloc (Nat.le_refl _) _)⟩
  · exact ⟨v, by simp, h2.below ((Below.refl _ _).alloc (Nat.le_refl _) _)⟩

/-- A group and words that the program takes. -/
def okI (K : Nat) (n : Int) (xss : List (List Int)) : Bool := validI K n && xss.all (wordB (mirs K n.toNat))
/-- The number of a word's element. -/
def ix (K n : Nat) (xs : List Int) : Nat := walkX (nextG K n) 0 (natW xs)
theorem okI_nat {K : Nat} {n : Int} {xss : List (List Int)} (h : okI K n xss = true) : ∃ m : Nat, n = m ∧ validB K m = true ∧ xss.all (wordB (mirs K m)) = true := by
  unfold okI at h
  simp only [Bool.and_eq_true] at h
  obtain ⟨m, rfl, hv⟩ := validI_nat h.1
  exact ⟨m, rfl, hv, by simpa using h.2⟩
theorem okI_cast {K m : Nat} {xss : List (List Int)} (hv : validB K m = true) : okI K (m : Int) xss = xss.all (wordB (mirs K m)) := by
  unfold okI
  rw [validI_cast, hv]; simp

theorem read_no (K : Nat) (n : Int) (v : Value) (xss : List (List Int)) (w : World) (hK : K < 256) (ha : Args w v xss) (h : okI K n xss = false) :
    Calls Try.prog 59 #[grpI K n, v] w fun e w' => e = .returned (.tuple #[.pointer none, .slice none 0 0, .bool false]) ∧ Below w.heap.size w w' := by
  cases hv : validI K n with
  | false => exact read_bad K n v w hK hv
  | true =>
    obtain ⟨m, rfl, hm⟩ := validI_nat hv
    rw [okI_cast hm] at h
    refine (read_any K m v xss w hm ha).mono ?_
    rintro e w' (⟨h1, _⟩ | ⟨_, h2, h3⟩)
    · rw [h] at h1; cases h1
    · exact ⟨h2, h3⟩
theorem read_yes (K n : Nat) (v : Value) (xss : List (List Int)) (w : World) (hv : validB K n = true) (ha : Args w v xss) (h : xss.all (wordB (mirs K n)) = true) :
    Calls Try.prog 59 #[.agg #[.int .u8 (K : Nat), .int .i64 (n : Nat)], v] w fun e w' => ∃ bT v', e = .returned (.tuple #[.pointer (some ⟨bT, 0, none⟩), v', .bool true]) ∧ TabIs K n (wordsG K n) (nextG K n) w' bT ∧
      OwnI 3 w.heap.size w' v' (toI (xss.map (ix K n))) ∧ Below w.heap.size w w' := by
  refine (read_any K n v xss w hv ha).mono ?_
  rintro e w' (⟨_, bT, v', h1, h2, h3, h4⟩ | ⟨h1, _⟩)
  · exact ⟨bT, v', h1, h2, h3, h4⟩
  · rw [h] at h1; cases h1
theorem ix_lt {K n : Nat} (hv : validB K n = true) {xs : List Int} (h : wordB (mirs K n) xs = true) : ix K n xs < (wordsG K n).length := by
  unfold wordB at h
  simp only [Bool.and_eq_true] at h
  exact (tkG hv).walk _ 0 (tkG hv).pos (natW_toI h.2).2
theorem own_one {e : TypeId} {B : Nat} {w : World} {v : Value} {u : Nat} (h : OwnI e B w v (toI [u])) : ∃ g c, v = .slice (some ⟨g, 0, none⟩) 1 c ∧ w.cell? ⟨g, 0, none⟩ = some (.int .i64 (u : Nat)) := by
  obtain ⟨g, c, rfl⟩ := h.row (k := 0) rfl
  exact ⟨g, c, rfl, by simpa using h.cellN 0 (by simp)⟩
theorem own_two {e : TypeId} {B : Nat} {w : World} {v : Value} {u t : Nat} (h : OwnI e B w v (toI [u, t])) : ∃ g c, v = .slice (some ⟨g, 0, none⟩) 2 c ∧ w.cell? ⟨g, 0, none⟩ = some (.int .i64 (u : Nat)) ∧ w.cell? ⟨g, 1, none⟩ = some (.int .i64 (t : Nat)) := by
  obtain ⟨g, c, rfl⟩ := h.row (k := 1) rfl
  exact ⟨g, c, rfl, by simpa using h.cellN 0 (by simp), by simpa using h.cellN 1 (by simp)⟩
/-- What a function that gives a word returns. -/
def WordOut (l : List Nat) (w : World) (e : Ending) (w' : World) : Prop := ∃ v', e = .returned (.tuple #[v', .int .i64 0]) ∧ OwnI 3 w.heap.size w' v' (toI l) ∧ Below w.heap.size w w'
def WordErr (w : World) (e : Ending) (w' : World) : Prop := e = .returned (.tuple #[.slice none 0 0, .int .i64 2]) ∧ Below w.heap.size w w'

theorem below_al {B : Nat} {w w1 : World} {o : Obj} (hB : B ≤ w.heap.size) (h : Below (w.alloc o).heap.size (w.alloc o) w1) : Below B w w1 :=
  ((Below.refl B w).alloc hB o).trans (h.mono (by simp; omega))
theorem below_al2 {B : Nat} {w w1 : World} {o o2 : Obj} (hB : B ≤ w.heap.size) (h : Below ((w.alloc o).alloc o2).heap.size ((w.alloc o).alloc o2) w1) : Below B w w1 :=
  (((Below.refl B w).alloc hB o).alloc (by simp; omega) o2).trans (h.mono (by simp; omega))

set_option maxRecDepth 20000 in
set_option maxHeartbeats 1000000 in
theorem Normal_no (K : Nat) (n : Int) (v : Value) (xs : List Int) (w : World) (hK : K < 256) (hx : Ints w v xs) (h : okI K n [xs] = false) :
    Calls Try.prog 36 #[grpI K n, v] w (WordErr w) := by
  have RD := Lib.hid (fun w' v' (ha : Args w' v' [xs]) => read_no K n v' [xs] w' hK ha h)
  have HX := Lib.hid (fun o : Obj => hx.below ((Below.refl _ _).alloc (Nat.le_refl _) o))
  obtain ⟨a, c, rfl, hx1⟩ := hx
  unfold grpI at *
  clear h hx1
  go_enter Try.func36, Try.ntmps36
  go_wp2_with (go_at_call 59; refine (RD.out _ _ (args1 (HX.out _) _ (by simp))).mono ?_; rintro e w1 ⟨rfl, hb1⟩)
  go_ret2
  exact ⟨rfl, below_al2 (Nat.le_refl _) hb1⟩

set_option maxRecDepth 20000 in
set_option maxHeartbeats 1000000 in
theorem Normal_yes (K n : Nat) (v : Value) (xs : List Int) (w : World) (hv : validB K n = true) (hx : Ints w v xs) (h : wordB (mirs K n) xs = true) :
    Calls Try.prog 36 #[.agg #[.int .u8 (K : Nat), .int .i64 (n : Nat)], v] w (WordOut ((wordsG K n).getD (ix K n xs) []) w) := by
  have RD := Lib.hid (fun w' v' (ha : Args w' v' [xs]) => read_yes K n v' [xs] w' hv ha (by simpa using h))
  have HX := Lib.hid (fun o : Obj => hx.below ((Below.refl _ _).alloc (Nat.le_refl _) o))
  have WD := Lib.hid (fun (bT : Nat) (w' : World) (ht : TabIs K n (wordsG K n) (nextG K n) w' bT) => word_any bT (ix K n xs) w' ht (tkG hv) (ix_lt hv h))
  obtain ⟨a, c, rfl, hx1⟩ := hx
  clear h hx1 hv
  go_enter Try.func36, Try.ntmps36
  go_wp2_with (first
    | (go_at_call 59; refine (RD.out _ _ (args1 (HX.out _) _ (by simp))).mono ?_; rintro e w1 ⟨bT, v1, rfl, ht1, ho1, hb1⟩; obtain ⟨g1, c1, rfl, hc1⟩ := own_one ho1)
    | (go_at_call 60; refine (WD.out bT _ ht1).mono ?_; rintro e w2 ⟨v2, rfl, ho2, hb2⟩))
  go_ret2
  have hB := below_al2 (Nat.le_refl _) hb1
  exact ⟨_, rfl, ho2.mono hB.size, hB.trans (hb2.mono hB.size)⟩
end Go.Proofs.Ytmlhecfhhhebnaa
