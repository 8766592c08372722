/- Qj, Qw, Qx, Ag of the seat's texts, in this order. -/
import Derived.Test.YtmlhecfhhhebnaaQh1M
import Derived.Test.YtmlhecfhhhebnaaQh2M
import Derived.Test.YtmlhecfhhhebnaaP1
import Derived.Test.YtmlhecfhhhebnaaTq
import Derived.Test.YtmlhecfhhhebnaaMs
import Derived.Test.YtmlhecfhhhebnaaRows
import Derived.ProofKit
import Derived.OpenShut
import Derived.SizedLaws
import Derived.Carry
import Derived.Lib.SmallJoins
import Derived.Stop.Joined

/- Polynomials: measure's errors; R and P of the program. -/
namespace Go.Proofs.Ytmlhecfhhhebnaa
open Go.RowKit
attribute [local go_sem] Oper.semAt_some

set_option maxRecDepth 20000 in
set_option maxHeartbeats 1000000 in
theorem measureR_no (K : Nat) (n : Int) (u v : Value) (xs ys : List Int) (w : World) (hK : K < 256) (hx : Ints w u xs) (hy : Ints w v ys) (h : okI K n [xs, ys] = false) :
    Calls Try.prog 70 #[grpI K n, u, v, .func (.func 71) #[] #[]] w (PolyErr 2 w) := by
  have RD := Lib.hid (fun w' v' (ha : Args w' v' [xs, ys]) => read_no K n v' [xs, ys] w' hK ha h)
  have HX := Lib.hid (fun o : Obj => hx.below ((Below.refl _ _).alloc (Nat.le_refl _) o))
  have HY := Lib.hid (fun o : Obj => hy.below ((Below.refl _ _).alloc (Nat.le_refl _) o))
  obtain ⟨a, c, rfl, hx1⟩ := hx
  obtain ⟨a2, c2, rfl, hy1⟩ := hy
  unfold grpI at *
  clear h hx1 hy1
  go_enter Try.func70, Try.ntmps70
  go_wp2_with (go_at_call 59; refine (RD.out _ _ (args2 (HX.out _) (HY.out _) _ (by simp))).mono ?_; rintro e w1 ⟨rfl, hb1⟩)
  go_ret2
  exact ⟨rfl, below_al2 (Nat.le_refl _) hb1⟩
set_option maxRecDepth 20000 in
set_option maxHeartbeats 1000000 in
theorem measureR_big (K n : Nat) (u v : Value) (xs ys : List Int) (w : World) (hv : validB K n = true) (hx : Ints w u xs) (hy : Ints w v ys) (h : wordB (mirs K n) xs = true) (h2 : wordB (mirs K n) ys = true) (hs : K = 65 ∧ n = 4) :
    Calls Try.prog 70 #[.agg #[.int .u8 (K : Nat), .int .i64 (n : Nat)], u, v, .func (.func 71) #[] #[]] w (PolyErr 6 w) := by
  have RD := Lib.hid (fun w' v' (ha : Args w' v' [xs, ys]) => read_yes K n v' [xs, ys] w' hv ha (all_two h h2))
  have HX := Lib.hid (fun o : Obj => hx.below ((Below.refl _ _).alloc (Nat.le_refl _) o))
  have HY := Lib.hid (fun o : Obj => hy.below ((Below.refl _ _).alloc (Nat.le_refl _) o))
  have hN := len_big hv hs
  have TW := Lib.hid (fun (bT : Nat) (w' : World) (ht : TabIs K n (wordsG K n) (nextG K n) w' bT) => tab_words ht (tkG hv))
  rw [hN] at TW
  obtain ⟨a, c, rfl, hx1⟩ := hx
  obtain ⟨a2, c2, rfl, hy1⟩ := hy
  clear h h2 hx1 hy1 hv hs hN
  go_enter Try.func70, Try.ntmps70
  go_upto_region 4 with (go_at_call 59; refine (RD.out _ _ (args2 (HX.out _) (HY.out _) _ (by simp))).mono ?_; rintro e w1 ⟨bT, v1, rfl, ht1, ho1, hb1⟩; obtain ⟨g1, c1, rfl, hc1, hc1'⟩ := own_two ho1)
  have HB1 := Lib.hid (below_al2 (Nat.le_refl _) hb1)
  obtain ⟨aW, cW, hcW⟩ := TW.out bT w1 ht1
  clear hb1 ht1 ho1
  go_wp2
  go_ret2
  exact ⟨rfl, HB1.out⟩
set_option maxRecDepth 20000 in
set_option maxHeartbeats 1000000 in
theorem R_no (K : Nat) (n : Int) (u v : Value) (xs ys : List Int) (w : World) (hK : K < 256) (hx : Ints w u xs) (hy : Ints w v ys) (h : okI K n [xs, ys] = false) :
    Calls Try.prog 37 #[grpI K n, u, v] w (PolyErr 2 w) := by
  have ME := Lib.hid (fun (w' : World) (hb : Below w.heap.size w w') => measureR_no K n u v xs ys w' hK (hx.below hb) (hy.below hb) h)
  obtain ⟨a, c, rfl, hx1⟩ := hx
  obtain ⟨a2, c2, rfl, hy1⟩ := hy
  unfold grpI at *
  clear h hx1 hy1
  go_enter Try.func37, Try.ntmps37
  go_wp2_with (go_at_call 70; refine (ME.out _ ((Below.refl _ _).alloc (Nat.le_refl _) _)).mono ?_; rintro e w1 ⟨rfl, hb1⟩)
  go_ret2
  exact ⟨rfl, below_al (Nat.le_refl _) hb1⟩
set_option maxRecDepth 20000 in
set_option maxHeartbeats 1000000 in
theorem R_big (K n : Nat) (u v : Value) (xs ys : List Int) (w : World) (hv : validB K n = true) (hx : Ints w u xs) (hy : Ints w v ys) (h : wordB (mirs K n) xs = true) (h2 : wordB (mirs K n) ys = true) (hs : K = 65 ∧ n = 4) :
    Calls Try.prog 37 #[.agg #[.int .u8 (K : Nat), .int .i64 (n : Nat)], u, v] w (PolyErr 6 w) := by
  have ME := Lib.hid (fun (w' : World) (hb : Below w.heap.size w w') => measureR_big K n u v xs ys w' hv (hx.below hb) (hy.below hb) h h2 hs)
  obtain ⟨a, c, rfl, hx1⟩ := hx
  obtain ⟨a2, c2, rfl, hy1⟩ := hy
  clear h h2 hs hv hx1 hy1
  go_enter Try.func37, Try.ntmps37
  go_wp2_with (go_at_call 70; refine (ME.out _ ((Below.refl _ _).alloc (Nat.le_refl _) _)).mono ?_; rintro e w1 ⟨rfl, hb1⟩)
  go_ret2
  exact ⟨rfl, below_al (Nat.le_refl _) hb1⟩
set_option maxRecDepth 20000 in
set_option maxHeartbeats 1000000 in
theorem R_yes (K n : Nat) (u v : Value) (xs ys : List Int) (w : World) (hv : validB K n = true) (hx : Ints w u xs) (hy : Ints w v ys) (h : wordB (mirs K n) xs = true) (h2 : wordB (mirs K n) ys = true) (hs : ¬ (K = 65 ∧ n = 4)) :
    Calls Try.prog 37 #[.agg #[.int .u8 (K : Nat), .int .i64 (n : Nat)], u, v] w (PolyOut (rT K n (ix K n xs) (ix K n ys)) w) := by
  have ME := Lib.hid (fun (w' : World) (hb : Below w.heap.size w w') => measureR_yes K n u v xs ys w' hv (hx.below hb) (hy.below hb) h h2 hs)
  obtain ⟨a, c, rfl, hx1⟩ := hx
  obtain ⟨a2, c2, rfl, hy1⟩ := hy
  clear h h2 hs hv hx1 hy1
  go_enter Try.func37, Try.ntmps37
  go_wp2_with (go_at_call 70; refine (ME.out _ ((Below.refl _ _).alloc (Nat.le_refl _) _)).mono ?_; rintro e w1 ⟨v1, rfl, ho1, hb1⟩)
  go_ret2
  exact ⟨_, rfl, OwnI.mono ho1 (by simp), below_al (Nat.le_refl _) hb1⟩
set_option maxRecDepth 20000 in
set_option maxHeartbeats 1000000 in
theorem measureP_no (K : Nat) (n : Int) (u v : Value) (xs ys : List Int) (w : World) (hK : K < 256) (hx : Ints w u xs) (hy : Ints w v ys) (h : okI K n [xs, ys] = false) :
    Calls Try.prog 70 #[grpI K n, u, v, .func (.func 72) #[] #[]] w (PolyErr 2 w) := by
  have RD := Lib.hid (fun w' v' (ha : Args w' v' [xs, ys]) => read_no K n v' [xs, ys] w' hK ha h)
  have HX := Lib.hid (fun o : Obj => hx.below ((Below.refl _ _).alloc (Nat.le_refl _) o))
  have HY := Lib.hid (fun o : Obj => hy.below ((Below.refl _ _).alloc (Nat.le_refl _) o))
  obtain ⟨a, c, rfl, hx1⟩ := hx
  obtain ⟨a2, c2, rfl, hy1⟩ := hy
  unfold grpI at *
  clear h hx1 hy1
  go_enter Try.func70, Try.ntmps70
  go_wp2_with (go_at_call 59; refine (RD.out _ _ (args2 (HX.out _) (HY.out _) _ (by simp))).mono ?_; rintro e w1 ⟨rfl, hb1⟩)
  go_ret2
  exact ⟨rfl, below_al2 (Nat.le_refl _) hb1⟩
set_option maxRecDepth 20000 in
set_option maxHeartbeats 1000000 in
theorem measureP_big (K n : Nat) (u v : Value) (xs ys : List Int) (w : World) (hv : validB K n = true) (hx : Ints w u xs) (hy : Ints w v ys) (h : wordB (mirs K n) xs = true) (h2 : wordB (mirs K n) ys = true) (hs : K = 65 ∧ n = 4) :
    Calls Try.prog 70 #[.agg #[.int .u8 (K : Nat), .int .i64 (n : Nat)], u, v, .func (.func 72) #[] #[]] w (PolyErr 6 w) := by
  have RD := Lib.hid (fun w' v' (ha : Args w' v' [xs, ys]) => read_yes K n v' [xs, ys] w' hv ha (all_two h h2))
  have HX := Lib.hid (fun o : Obj => hx.below ((Below.refl _ _).alloc (Nat.le_refl _) o))
  have HY := Lib.hid (fun o : Obj => hy.below ((Below.refl _ _).alloc (Nat.le_refl _) o))
  have hN := len_big hv hs
  have TW := Lib.hid (fun (bT : Nat) (w' : World) (ht : TabIs K n (wordsG K n) (nextG K n) w' bT) => tab_words ht (tkG hv))
  rw [hN] at TW
  obtain ⟨a, c, rfl, hx1⟩ := hx
  obtain ⟨a2, c2, rfl, hy1⟩ := hy
  clear h h2 hx1 hy1 hv hs hN
  go_enter Try.func70, Try.ntmps70
  go_upto_region 4 with (go_at_call 59; refine (RD.out _ _ (args2 (HX.out _) (HY.out _) _ (by simp))).mono ?_; rintro e w1 ⟨bT, v1, rfl, ht1, ho1, hb1⟩; obtain ⟨g1, c1, rfl, hc1, hc1'⟩ := own_two ho1)
  have HB1 := Lib.hid (below_al2 (Nat.le_refl _) hb1)
  obtain ⟨aW, cW, hcW⟩ := TW.out bT w1 ht1
  clear hb1 ht1 ho1
  go_wp2
  go_ret2
  exact ⟨rfl, HB1.out⟩
set_option maxRecDepth 20000 in
set_option maxHeartbeats 1000000 in
theorem P_no (K : Nat) (n : Int) (u v : Value) (xs ys : List Int) (w : World) (hK : K < 256) (hx : Ints w u xs) (hy : Ints w v ys) (h : okI K n [xs, ys] = false) :
    Calls Try.prog 38 #[grpI K n, u, v] w (PolyErr 2 w) := by
  have ME := Lib.hid (fun (w' : World) (hb : Below w.heap.size w w') => measureP_no K n u v xs ys w' hK (hx.below hb) (hy.below hb) h)
  obtain ⟨a, c, rfl, hx1⟩ := hx
  obtain ⟨a2, c2, rfl, hy1⟩ := hy
  unfold grpI at *
  clear h hx1 hy1
  go_enter Try.func38, Try.ntmps38
  go_wp2_with (go_at_call 70; refine (ME.out _ ((Below.refl _ _).alloc (Nat.le_refl _) _)).mono ?_; rintro e w1 ⟨rfl, hb1⟩)
  go_ret2
  exact ⟨rfl, below_al (Nat.le_refl _) hb1⟩
set_option maxRecDepth 20000 in
set_option maxHeartbeats 1000000 in
theorem P_big (K n : Nat) (u v : Value) (xs ys : List Int) (w : World) (hv : validB K n = true) (hx : Ints w u xs) (hy : Ints w v ys) (h : wordB (mirs K n) xs = true) (h2 : wordB (mirs K n) ys = true) (hs : K = 65 ∧ n = 4) :
    Calls Try.prog 38 #[.agg #[.int .u8 (K : Nat), .int .i64 (n : Nat)], u, v] w (PolyErr 6 w) := by
  have ME := Lib.hid (fun (w' : World) (hb : Below w.heap.size w w') => measureP_big K n u v xs ys w' hv (hx.below hb) (hy.below hb) h h2 hs)
  obtain ⟨a, c, rfl, hx1⟩ := hx
  obtain ⟨a2, c2, rfl, hy1⟩ := hy
  clear h h2 hs hv hx1 hy1
  go_enter Try.func38, Try.ntmps38
  go_wp2_with (go_at_call 70; refine (ME.out _ ((Below.refl _ _).alloc (Nat.le_refl _) _)).mono ?_; rintro e w1 ⟨rfl, hb1⟩)
  go_ret2
  exact ⟨rfl, below_al (Nat.le_refl _) hb1⟩
set_option maxRecDepth 20000 in
set_option maxHeartbeats 1000000 in
theorem P_yes (K n : Nat) (u v : Value) (xs ys : List Int) (w : World) (hv : validB K n = true) (hx : Ints w u xs) (hy : Ints w v ys) (h : wordB (mirs K n) xs = true) (h2 : wordB (mirs K n) ys = true) (hs : ¬ (K = 65 ∧ n = 4)) :
    Calls Try.prog 38 #[.agg #[.int .u8 (K : Nat), .int .i64 (n : Nat)], u, v] w (PolyOut (pT K n (ix K n xs) (ix K n ys)) w) := by
  have ME := Lib.hid (fun (w' : World) (hb : Below w.heap.size w w') => measureP_yes K n u v xs ys w' hv (hx.below hb) (hy.below hb) h h2 hs)
  obtain ⟨a, c, rfl, hx1⟩ := hx
  obtain ⟨a2, c2, rfl, hy1⟩ := hy
  clear h h2 hs hv hx1 hy1
  go_enter Try.func38, Try.ntmps38
  go_wp2_with (go_at_call 70; refine (ME.out _ ((Below.refl _ _).alloc (Nat.le_refl _) _)).mono ?_; rintro e w1 ⟨v1, rfl, ho1, hb1⟩)
  go_ret2
  exact ⟨_, rfl, OwnI.mono ho1 (by simp), below_al (Nat.le_refl _) hb1⟩
end Go.Proofs.Ytmlhecfhhhebnaa

/- MirrorSums: the plain law. No Go in sight. -/
namespace Go.Proofs.Ytmlhecfhhhebnaa

def plainG (K n d : Nat) : Bool := decide (d ≤ 2) || (K == 73) || ((K == 65) && decide (n ≤ 2))
def ckSum1 (K n m : Nat) (W X : List (List Nat)) (R : List Nat) (r p : Nat → Nat → List Int) (i j : Nat) : Bool :=
  (bitR R i j == decide (0 < (p i j).length)) && (bitR R i j == decide (0 < (r i j).length)) &&
  (List.range m).all (fun s => !(decide (lenX W (stepX X j s) < lenX W j)) || (p (stepX X i s) j == p i j)) &&
  (!(bitR R i j) || (decide (lenX W i ≤ lenX W j) && ((r i j).length == lenX W j - lenX W i + 1) && (((r i j).sum == 0) == decide (lenX W i < lenX W j)) && (p i j).all (fun c => decide (0 ≤ c)) && ((p i j).getD 0 0 == 1) &&
    decide (2 * ((p i j).length - 1) ≤ lenX W j - lenX W i - 1) && (!(plainG K n (lenX W j - lenX W i)) || ((p i j).length == 1))))
def ckSums (K n m : Nat) (W X : List (List Nat)) (R : List Nat) (r p : Nat → Nat → List Int) : Bool := (List.range W.length).all fun i => (List.range W.length).all fun j => ckSum1 K n m W X R r p i j
theorem ckSums_all : (smallG.all fun g => ckSums g.1 g.2 (mirs g.1 g.2) (litW g.1 g.2) (litX g.1 g.2) (oRT g.1 g.2) (rT g.1 g.2) (pT g.1 g.2)) = true := by decide +kernel
structure SumsI (K n m : Nat) (W X : List (List Nat)) (r p : Nat → Nat → List Int) (i j : Nat) : Prop where
  le : lenX W i ≤ lenX W j
  rl : (r i j).length = lenX W j - lenX W i + 1
  sum : (r i j).sum = 0 ↔ lenX W i < lenX W j
  pos : ∀ c ∈ p i j, 0 ≤ c
  one : (p i j).getD 0 0 = 1
  deg : 2 * ((p i j).length - 1) ≤ lenX W j - lenX W i - 1
  plain : plainG K n (lenX W j - lenX W i) = true → (p i j).length = 1
theorem sums_at {K n : Nat} (hv : validB K n = true) (hs : ¬ (K = 65 ∧ n = 4)) {i j : Nat} (hi : i < (wordsG K n).length) (hj : j < (wordsG K n).length) :
    (belG (wordsG K n) (nextG K n) i j = decide (0 < (pT K n i j).length)) ∧ (belG (wordsG K n) (nextG K n) i j = decide (0 < (rT K n i j).length)) ∧
    (∀ s, s < mirs K n → lenX (wordsG K n) (stepX (nextG K n) j s) < lenX (wordsG K n) j → pT K n (stepX (nextG K n) i s) j = pT K n i j) ∧
    (belG (wordsG K n) (nextG K n) i j = true → SumsI K n (mirs K n) (wordsG K n) (nextG K n) (rT K n) (pT K n) i j) := by
  have h := List.all_eq_true.1 ckSums_all _ (small_in hv hs)
  simp only at h
  rw [← (lit_of hv).1, ← (lit_of hv).2] at h
  have h1 := List.all_eq_true.1 (List.all_eq_true.1 h i (List.mem_range.2 hi)) j (List.mem_range.2 hj)
  unfold ckSum1 at h1
  rw [bit_bel hv hi hj] at h1
  simp only [Bool.and_eq_true, beq_iff_eq, List.all_eq_true, List.mem_range, Bool.or_eq_true, Bool.not_eq_true', decide_eq_false_iff_not, decide_eq_true_eq] at h1
  obtain ⟨⟨⟨a1, a2⟩, a3⟩, a4⟩ := h1
  refine ⟨a1, a2, fun s hs hlt => (a3 s hs).resolve_left (fun hn => hn hlt), fun hb => ?_⟩
  rcases a4 with a4 | a4
  · rw [a4] at hb; cases hb
  · obtain ⟨⟨⟨⟨⟨⟨b1, b2⟩, b3⟩, b4⟩, b5⟩, b6⟩, b7⟩ := a4
    refine ⟨b1, b2, ?_, b4, b5, b6, fun hp => ?_⟩
    · constructor
      · intro e
        rw [e] at b3
        simpa using b3.symm
      · intro e
        rw [decide_eq_true e] at b3
        simpa using b3
    · rcases b7 with b7 | b7
      · rw [b7] at hp; cases hp
      · exact b7
end Go.Proofs.Ytmlhecfhhhebnaa

/- MirrorSums: the walks. -/
namespace Go.Proofs.Ytmlhecfhhhebnaa
open Go.RowKit
attribute [local go_sem] Oper.semAt_some

theorem fallsTo_bit (W X : List (List Nat)) (u s : Nat) : ∀ k, (fallsTo W X u k).testBit s = true ↔ s < k ∧ fallB W X u s = true
  | 0 => by simp [fallsTo]
  | k + 1 => by
    rw [fallsTo]
    have ih := fallsTo_bit W X u s k
    by_cases h : fallB W X u k = true
    · rw [if_pos h, Nat.testBit_or, Nat.testBit_two_pow, Bool.or_eq_true, decide_eq_true_eq, ih]
      constructor
      · rintro (⟨h1, h2⟩ | rfl)
        · exact ⟨by omega, h2⟩
        · exact ⟨by omega, h⟩
      · rintro ⟨h1, h2⟩
        by_cases e : k = s
        · exact .inr e
        · exact .inl ⟨by omega, h2⟩
    · rw [if_neg h, ih]
      constructor
      · rintro ⟨h1, h2⟩; exact ⟨by omega, h2⟩
      · rintro ⟨h1, h2⟩
        by_cases e : k = s
        · subst e; exact absurd h2 h
        · exact ⟨by omega, h2⟩
theorem bit_wS : ∀ f : Nat, f < 16 → ∀ s : Nat, s < 4 → bits BinOp.and IntKind.i64 ((f : Int) / 2 ^ s) 1 = if f.testBit s then 1 else 0 := by decide +kernel
theorem word_one {m t : Nat} (h : t < m) : wordB m [(t : Int)] = true := by unfold wordB; simp [letB]; omega
theorem walk_oneS (X : List (List Nat)) (u t : Nat) : walkX X u (natW [(t : Int)]) = stepX X u t := by simp [walkX, natW]
/-- The polynomial of a turned element. -/
theorem sums_times {K n : Nat} (hv : validB K n = true) {xs : List Int} (q1 : wordB (mirs K n) xs = true) {i s k : Nat} (hi : ix K n xs = i) (hs : s < mirs K n) (hk : stepX (nextG K n) i s = k) (u v : Value) (w : World) (hx : Ints w u xs) (hy : Ints w v [(s : Int)]) :
    Calls Try.prog 15 #[.agg #[.int .u8 (K : Nat), .int .i64 (n : Nat)], u, v] w (WordOut ((wordsG K n).getD k []) w) := by
  have := Times_yes K n u v xs [(s : Int)] w hv hx hy q1 (word_one hs)
  rwa [hi, walk_oneS, hk] at this
theorem sums_P {K n : Nat} (hv : validB K n = true) (hs : ¬ (K = 65 ∧ n = 4)) {ys : List Int} (q2 : wordB (mirs K n) ys = true) {k j : Nat} {gp : List Int} (hk : k < (wordsG K n).length) (hj : ix K n ys = j) (hp : pT K n k j = gp) (u v : Value) (w : World) (hx : Ints w u (toI ((wordsG K n).getD k []))) (hy : Ints w v ys) :
    Calls Try.prog 38 #[.agg #[.int .u8 (K : Nat), .int .i64 (n : Nat)], u, v] w (PolyOut gp w) := by
  have ht := tabW hv
  have := P_yes K n u v (toI ((wordsG K n).getD k [])) ys w hv hx hy (ht.wd k hk) q2 hs
  rwa [ht.at' k hk, hj, hp] at this
theorem own_one2 (w : World) (y : Int) : Ints (w.alloc (.cells #[.int .i64 y] 3)) (.slice (some ⟨w.heap.size, 0, none⟩) 1 1) [y] := by
  have h : OwnI 3 w.heap.size (w.alloc (.cells #[.int .i64 y] 3)) (.slice (some ⟨w.heap.size, 0, none⟩) 1 1) [y] := own_fresh w 3 [y] (Nat.le_refl _) (by simp [maxLen])
  exact h.ints (by simp)
theorem sum_step' (l : List Int) (k : Nat) (hk : k < l.length) : (l.take (k + 1)).sum = (l.take k).sum + l.getD k 0 := by
  rw [List.take_succ_eq_append_getElem hk, List.sum_append, List.getD_eq_getElem?_getD, List.getElem?_eq_getElem hk]
  simp
theorem sum_small : ∀ (l : List Int), (∀ c ∈ l, -1000 ≤ c ∧ c ≤ 1000) → -(1000 * (l.length : Int)) ≤ l.sum ∧ l.sum ≤ 1000 * (l.length : Int)
  | [], _ => by simp
  | x :: xs, h => by
    have h1 := h x List.mem_cons_self
    have h2 := sum_small xs fun c hc => h c (List.mem_cons_of_mem _ hc)
    simp only [List.sum_cons, List.length_cons]
    push_cast
    omega
theorem rT_small {K n : Nat} (hv : validB K n = true) (h : ¬ (K = 65 ∧ n = 4)) (u w : Nat) : ∀ c ∈ rT K n u w, -1000 ≤ c ∧ c ≤ 1000 := by
  have h1 := List.all_eq_true.1 ckLenP_all _ (small_in hv h)
  rw [Bool.and_eq_true] at h1
  exact (polT_in h1.1 _ u w).2
theorem of_bool_dec {b : Bool} {k : Nat} (h : b = decide (0 < k)) : (b = true ↔ (0 : Int) < (k : Int)) := by
  rw [h, decide_eq_true_eq]
  omega
theorem nat_dec {b : Bool} {k : Nat} (h : b = decide (0 < k)) : (b = true ↔ 0 < k) := by
  rw [h, decide_eq_true_eq]
theorem dec_nat (k : Nat) : decide ((0 : Int) < (k : Int)) = decide (0 < k) := by
  rw [decide_eq_decide]
  omega
theorem sums_turn {K n m i1 i2 s k : Nat} {F : Nat} {gp : List Int} {W X : List (List Nat)} {p : Nat → Nat → List Int} (hF : ∀ s, F.testBit s = true ↔ s < m ∧ fallB W X i2 s = true) (hm : mirs K n = m) (hT : ∀ s, s < mirs K n → lenX W (stepX X i2 s) < lenX W i2 → p (stepX X i1 s) i2 = p i1 i2)
    (hp : p i1 i2 = gp) (hk : stepX X i1 s = k) (hb : F.testBit s = true) : p k i2 = gp := by
  obtain ⟨h1, h2⟩ := (hF s).1 hb
  rw [← hk, ← hp]
  exact hT s (by rw [hm]; exact h1) (by unfold fallB at h2; exact of_decide_eq_true h2)
section
variable {K n m i j d lj li lp : Nat} {W X : List (List Nat)} {r p : Nat → Nat → List Int} {gr gp : List Int}
theorem sums_sum (h : SumsI K n m W X r p i j) (e : r i j = gr) (h1 : lenX W i = li) (h2 : lenX W j = lj) (hd : lj - li = d) : ((gr.sum == 0) = true ∧ (0 : Int) < (d : Int) ∧ 0 < d) ∨ ((gr.sum == 0) = false ∧ ¬ (0 : Int) < (d : Int) ∧ ¬ 0 < d) := by
  have hs := h.sum
  rw [e, h1, h2] at hs
  by_cases h0 : gr.sum = 0
  · have := hs.1 h0
    exact .inl ⟨by simp [h0], by omega, by omega⟩
  · have : ¬ li < lj := fun hl => h0 (hs.2 hl)
    exact .inr ⟨by simp [h0], by omega, by omega⟩
theorem sums_pos (h : SumsI K n m W X r p i j) (e : p i j = gp) : ∀ k, k < gp.length → ¬ gp.getD k 0 < 0 := by
  intro k hk
  have := h.pos
  rw [e] at this
  have h2 := this gp[k] (List.getElem_mem hk)
  rw [List.getD_eq_getElem?_getD, List.getElem?_eq_getElem hk]
  simp; omega
theorem sums_one (h : SumsI K n m W X r p i j) (e : p i j = gp) : gp.getD 0 0 = 1 := by rw [← e]; exact h.one
theorem sums_deg (h : SumsI K n m W X r p i j) (e : p i j = gp) (h1 : lenX W i = li) (h2 : lenX W j = lj) (hd : lj - li = d) (hl : gp.length = lp) : 2 * (lp - 1) ≤ d - 1 := by
  have := h.deg
  rw [e, h1, h2, hd, hl] at this
  exact this
theorem sums_plain (h : SumsI K n m W X r p i j) (e : p i j = gp) (h1 : lenX W i = li) (h2 : lenX W j = lj) (hd : lj - li = d) (hl : gp.length = lp) : plainG K n d = true → lp = 1 := by
  have := h.plain
  rw [e, h1, h2, hd, hl] at this
  exact this
end
theorem sums_next {gr : List Int} {lr k : Nat} {z S : Int} (h : ∀ c ∈ gr, -1000 ≤ c ∧ c ≤ 1000) (hl : gr.length = lr) (h100 : lr ≤ 100) (hk : k < lr) (hz : gr.getD k 0 = z) (hS : (gr.take k).sum = S) : (gr.take (k + 1)).sum = S + z ∧ IntKind.i64.wrap (S + z) = S + z := by
  subst hl hz hS
  refine ⟨sum_step' gr k hk, IntWalk.i64_in _ ?_⟩
  have h1 := sum_small (gr.take k) fun c hc => h c (List.mem_of_mem_take hc)
  have h2 := h gr[k] (List.getElem_mem hk)
  have h3 : gr.getD k 0 = gr[k] := by rw [List.getD_eq_getElem?_getD, List.getElem?_eq_getElem hk]; rfl
  rw [List.length_take] at h1
  rw [h3]
  omega
theorem plain_cases (K n d : Nat) : (((d : Int) ≤ 2) ∧ d ≤ 2 ∧ plainG K n d = true) ∨ (¬ ((d : Int) ≤ 2) ∧ ¬ d ≤ 2 ∧ ((K : Int) == 73) = true ∧ plainG K n d = true) ∨ (¬ ((d : Int) ≤ 2) ∧ ¬ d ≤ 2 ∧ ((K : Int) == 73) = false ∧ ((K : Int) == 65) = true ∧ (n : Int) ≤ 2 ∧ n ≤ 2 ∧ plainG K n d = true) ∨
    (¬ ((d : Int) ≤ 2) ∧ ¬ d ≤ 2 ∧ ((K : Int) == 73) = false ∧ ((K : Int) == 65) = true ∧ ¬ (n : Int) ≤ 2 ∧ ¬ n ≤ 2) ∨ (¬ ((d : Int) ≤ 2) ∧ ¬ d ≤ 2 ∧ ((K : Int) == 73) = false ∧ ((K : Int) == 65) = false) := by
  unfold plainG
  by_cases h1 : d ≤ 2
  · exact .inl ⟨by omega, h1, by simp [h1]⟩
  · by_cases h2 : K = 73
    · exact .inr (.inl ⟨by omega, h1, by simp [h2], by simp [h2]⟩)
    · have e2 : ((K : Int) == 73) = false := by simp; omega
      by_cases h3 : K = 65
      · by_cases h4 : n ≤ 2
        · exact .inr (.inr (.inl ⟨by omega, h1, e2, by simp [h3], by omega, h4, by simp [h3, h4]⟩))
        · exact .inr (.inr (.inr (.inl ⟨by omega, h1, e2, by simp [h3], by omega, h4⟩)))
      · exact .inr (.inr (.inr (.inr ⟨by omega, h1, e2, by simp; omega⟩)))
theorem one_eq {k : Nat} (h : k = 1) : ((k : Int) == 1) = true := by simp [h]
theorem len_12S {K n i : Nat} (hv : validB K n = true) (hi : i < (wordsG K n).length) : lenX (wordsG K n) i ≤ 12 := by
  unfold lenX; rw [getDL hi]; exact (tkG hv).short _ (List.getElem_mem hi)
theorem poly_formS {e : TypeId} {B : Nat} {w : World} {v : Value} {l : List Int} (h : OwnI e B w v l) : ∃ a c, v = .slice a l.length c := h.form

set_option maxRecDepth 20000 in
set_option maxHeartbeats 4000000 in
theorem SumL_no (K : Nat) (n : Int) (vu vw : Value) (xs ys : List Int) (w : World) (hK : K < 256) (hx : Ints w vu xs) (hy : Ints w vw ys) (h : okI K n [xs, ys] = false) :
    Calls Try.prog 7 #[grpI K n, vu, vw] w (TrueM w) := by
  have AW := Lib.hid (fun w' => awake_any w')
  have OF := Lib.hid (fun w' => Of_any K n w')
  have LU := Lib.hid (fun w' (hb : Below (w.heap.size + 1) (w.alloc (.cells #[.int .u8 (K : Nat), .int .i64 n] 23)) w') => list_any vu xs w' (intsS hx hb))
  have LW := Lib.hid (fun w' (hb : Below (w.heap.size + 1) (w.alloc (.cells #[.int .u8 (K : Nat), .int .i64 n] 23)) w') => list_any vw ys w' (intsS hy hb))
  have MR := Lib.hid (fun u' v' w' (hi : Ints w' u' (xs.take 34)) (hj : Ints w' v' (ys.take 34)) => R_no K n u' v' _ _ w' hK hi hj (by rw [okI_take2]; exact h))
  have MP := Lib.hid (fun u' v' w' (hi : Ints w' u' (xs.take 34)) (hj : Ints w' v' (ys.take 34)) => P_no K n u' v' _ _ w' hK hi hj (by rw [okI_take2]; exact h))
  have hlu : (xs.take 34).length ≤ 17592186044416 := by rw [List.length_take]; omega
  have hlw : (ys.take 34).length ≤ 17592186044416 := by rw [List.length_take]; omega
  obtain ⟨a, c, rfl, hx1⟩ := hx
  obtain ⟨a2, c2, rfl, hy1⟩ := hy
  unfold grpI at *
  clear hx1 hy1 h
  go_enter Try.func7, Try.ntmps7
  go_wp2_with (first
      | (go_at_call 20; refine (AW.out _).mono ?_; rintro e w9 ⟨rfl, hb9'⟩; have hb9 := chainS hb8 hb9')
      | (go_at_call 37; refine (MR.out v6 v7 w7 ((ho6.below hb7').ints hlu) (ho7.ints hlw)).mono ?_; rintro e w8 ⟨rfl, hb8'⟩; have hb8 := chainS hb7 hb8'; have g80 := (heldS hb8).at (i := 0) rfl; have g81 := (heldS hb8).at (i := 1) rfl)
      | (go_at_call 17; refine (LW.out w6 hb6).mono ?_; rintro e w7 ⟨v7, rfl, ho7, hb7'⟩; have hb7 := chainS hb6 hb7')
      | (go_at_call 17; refine (LU.out w5 hb5).mono ?_; rintro e w6 ⟨v6, rfl, ho6, hb6'⟩; have hb6 := chainS hb5 hb6')
      | (go_at_call 16; refine (OF.out _).mono ?_; rintro e w5 ⟨rfl, hb5'⟩; have hb5 := chainS hb4 hb5')
      | (go_at_call 38; refine (MP.out v2 v3 w3 ((ho2.below hb3').ints hlu) (ho3.ints hlw)).mono ?_; rintro e w4 ⟨rfl, hb4'⟩; have hb4 := chainS hb3 hb4'; have g40 := (heldS hb4).at (i := 0) rfl; have g41 := (heldS hb4).at (i := 1) rfl)
      | (go_at_call 17; refine (LW.out w2 hb2).mono ?_; rintro e w3 ⟨v3, rfl, ho3, hb3'⟩; have hb3 := chainS hb2 hb3')
      | (go_at_call 17; refine (LU.out w1 hb1).mono ?_; rintro e w2 ⟨v2, rfl, ho2, hb2'⟩; have hb2 := chainS hb1 hb2')
      | (go_at_call 16; refine (OF.out _).mono ?_; rintro e w1 ⟨rfl, hb1q⟩; have hb1 := hb1q.mono (show w.heap.size + 1 ≤ _ by simp)))
  go_ret
  exact ⟨rfl, chainE hb9⟩

set_option maxRecDepth 20000 in
set_option maxHeartbeats 16000000 in
theorem SumL_big (K n : Nat) (vu vw : Value) (xs ys : List Int) (w : World) (hv : validB K n = true) (hx : Ints w vu xs) (hy : Ints w vw ys) (q1 : wordB (mirs K n) xs = true) (q2 : wordB (mirs K n) ys = true) (hs : K = 65 ∧ n = 4) :
    Calls Try.prog 7 #[.agg #[.int .u8 (K : Nat), .int .i64 (n : Nat)], vu, vw] w (TrueM w) := by
  have hK := K_lt hv
  have hok : okI K (n : Int) [xs, ys] = true := by rw [okI_cast hv]; simp [q1, q2]
  have FN := Lib.hid (fun w' v' (ha : Args w' v' [xs, ys]) => by have := fine_any K (n : Int) v' [xs, ys] w' hK ha; rw [hok] at this; exact this)
  have AW := Lib.hid (fun w' => awake_any w')
  have OF := Lib.hid (fun w' => Of_any K (n : Int) w')
  have n1 := word_nat q1
  have n2 := word_nat q2
  have LU := Lib.hid (fun w' (hb : Below (w.heap.size + 1) (w.alloc (.cells #[.int .u8 (K : Nat), .int .i64 (n : Nat)] 23)) w') => by have := list_any vu xs w' (intsS hx hb); rw [List.take_of_length_le (by omega)] at this; exact this)
  have LW := Lib.hid (fun w' (hb : Below (w.heap.size + 1) (w.alloc (.cells #[.int .u8 (K : Nat), .int .i64 (n : Nat)] 23)) w') => by have := list_any vw ys w' (intsS hy hb); rw [List.take_of_length_le (by omega)] at this; exact this)
  have HU := Lib.hid (fun w' (hb : Below (w.heap.size + 1) (w.alloc (.cells #[.int .u8 (K : Nat), .int .i64 (n : Nat)] 23)) w') => intsS hx hb)
  have HW := Lib.hid (fun w' (hb : Below (w.heap.size + 1) (w.alloc (.cells #[.int .u8 (K : Nat), .int .i64 (n : Nat)] 23)) w') => intsS hy hb)
  have hlu := word_len q1
  have hlw := word_len q2
  have MR := Lib.hid (fun u' v' w' (hi : Ints w' u' xs) (hj : Ints w' v' ys) => R_big K n u' v' xs ys w' hv hi hj q1 q2 hs)
  have MP := Lib.hid (fun u' v' w' (hi : Ints w' u' xs) (hj : Ints w' v' ys) => P_big K n u' v' xs ys w' hv hi hj q1 q2 hs)
  obtain ⟨a, c, rfl, hx1⟩ := hx
  obtain ⟨a2, c2, rfl, hy1⟩ := hy
  unfold grpI at *
  clear hx1 hy1 hv hs hok q1 q2 n1 n2
  go_enter Try.func7, Try.ntmps7
  go_wp2_with (first
      | (go_at_call 20; refine (AW.out _).mono ?_; rintro e w9 ⟨rfl, hb9'⟩; have hb9 := chainS hb8 hb9')
      | (go_at_call 37; refine (MR.out v6 v7 w7 ((ho6.below hb7').ints hlu) (ho7.ints hlw)).mono ?_; rintro e w8 ⟨rfl, hb8'⟩; have hb8 := chainS hb7 hb8'; have g80 := (heldS hb8).at (i := 0) rfl; have g81 := (heldS hb8).at (i := 1) rfl)
      | (go_at_call 17; refine (LW.out w6 hb6).mono ?_; rintro e w7 ⟨v7, rfl, ho7, hb7'⟩; have hb7 := chainS hb6 hb7')
      | (go_at_call 17; refine (LU.out w5 hb5).mono ?_; rintro e w6 ⟨v6, rfl, ho6, hb6'⟩; have hb6 := chainS hb5 hb6')
      | (go_at_call 16; refine (OF.out _).mono ?_; rintro e w5 ⟨rfl, hb5'⟩; have hb5 := chainS hb4 hb5')
      | (go_at_call 38; refine (MP.out v2 v3 w3 ((ho2.below hb3').ints hlu) (ho3.ints hlw)).mono ?_; rintro e w4 ⟨rfl, hb4'⟩; have hb4 := chainS hb3 hb4'; have g40 := (heldS hb4).at (i := 0) rfl; have g41 := (heldS hb4).at (i := 1) rfl)
      | (go_at_call 17; refine (LW.out w2 hb2).mono ?_; rintro e w3 ⟨v3, rfl, ho3, hb3'⟩; have hb3 := chainS hb2 hb3')
      | (go_at_call 17; refine (LU.out w1 hb1).mono ?_; rintro e w2 ⟨v2, rfl, ho2, hb2'⟩; have hb2 := chainS hb1 hb2')
      | (go_at_call 16; refine (OF.out _).mono ?_; rintro e w1 ⟨rfl, hb1q⟩; have hb1 := hb1q.mono (show w.heap.size + 1 ≤ _ by simp)))
  go_ret
  exact ⟨rfl, chainE hb9⟩

set_option maxRecDepth 20000 in
set_option maxHeartbeats 16000000 in
theorem SumL_yes (K n : Nat) (vu vw : Value) (xs ys : List Int) (w : World) (hv : validB K n = true) (hx : Ints w vu xs) (hy : Ints w vw ys) (q1 : wordB (mirs K n) xs = true) (q2 : wordB (mirs K n) ys = true) (hs : ¬ (K = 65 ∧ n = 4)) :
    Calls Try.prog 7 #[.agg #[.int .u8 (K : Nat), .int .i64 (n : Nat)], vu, vw] w (TrueM w) := by
  have hK := K_lt hv
  have hok : okI K (n : Int) [xs, ys] = true := by rw [okI_cast hv]; simp [q1, q2]
  have FN := Lib.hid (fun w' v' (ha : Args w' v' [xs, ys]) => by have := fine_any K (n : Int) v' [xs, ys] w' hK ha; rw [hok] at this; exact this)
  have AW := Lib.hid (fun w' => awake_any w')
  have OF := Lib.hid (fun w' => Of_any K (n : Int) w')
  have n1 := word_nat q1
  have n2 := word_nat q2
  have LU := Lib.hid (fun w' (hb : Below (w.heap.size + 1) (w.alloc (.cells #[.int .u8 (K : Nat), .int .i64 (n : Nat)] 23)) w') => by have := list_any vu xs w' (intsS hx hb); rw [List.take_of_length_le (by omega)] at this; exact this)
  have LW := Lib.hid (fun w' (hb : Below (w.heap.size + 1) (w.alloc (.cells #[.int .u8 (K : Nat), .int .i64 (n : Nat)] 23)) w') => by have := list_any vw ys w' (intsS hy hb); rw [List.take_of_length_le (by omega)] at this; exact this)
  have HU := Lib.hid (fun w' (hb : Below (w.heap.size + 1) (w.alloc (.cells #[.int .u8 (K : Nat), .int .i64 (n : Nat)] 23)) w') => intsS hx hb)
  have HW := Lib.hid (fun w' (hb : Below (w.heap.size + 1) (w.alloc (.cells #[.int .u8 (K : Nat), .int .i64 (n : Nat)] 23)) w') => intsS hy hb)
  have hlu := word_len q1
  have hlw := word_len q2
  have hi1 := ix_lt hv q1
  have hi2 := ix_lt hv q2
  have MR := Lib.hid (fun u' v' w' (hi : Ints w' u' xs) (hj : Ints w' v' ys) => R_yes K n u' v' xs ys w' hv hi hj q1 q2 hs)
  have MP := Lib.hid (fun u' v' w' (hi : Ints w' u' xs) (hj : Ints w' v' ys) => P_yes K n u' v' xs ys w' hv hi hj q1 q2 hs)
  have NO := Lib.hid (fun v' w' (hi : Ints w' v' xs) => Normal_yes K n v' xs w' hv hi q1)
  have NP := Lib.hid (fun v' w' (hi : Ints w' v' ys) => Normal_yes K n v' ys w' hv hi q2)
  have BW := Lib.hid (fun u' v' w' (hi : Ints w' u' xs) (hj : Ints w' v' ys) => Below_yes K n u' v' xs ys w' hv hi hj q1 q2)
  have FA := Lib.hid (fun v' w' (hi : Ints w' v' ys) => Falls_yes K n v' ys w' hv hi q2)
  have MI := Lib.hid (fun w' => RMirrors_any K n w' hv)
  have TM := Lib.hid (fun (s k : Nat) (hs : s < mirs K n) (hk : stepX (nextG K n) (ix K n xs) s = k) (u v : Value) (w' : World) (hx : Ints w' u xs) (hy : Ints w' v [(s : Int)]) => sums_times hv q1 rfl hs hk u v w' hx hy)
  have PT := Lib.hid (fun (k : Nat) (gp : List Int) (hk : k < (wordsG K n).length) (hp : pT K n k (ix K n ys) = gp) (u v : Value) (w' : World) (hx : Ints w' u (toI ((wordsG K n).getD k []))) (hy : Ints w' v ys) => sums_P hv hs q2 hk rfl hp u v w' hx hy)
  have SA := Lib.hid (sums_at hv hs hi1 hi2)
  have STP := Lib.hid (fun s (hs : s < mirs K n) => (show stepX (nextG K n) (ix K n xs) s < (wordsG K n).length from by have := (tkG hv).walk [s] _ hi1 (by simpa using hs); simpa [walkX] using this))
  have WL := Lib.hid (fun (k : Nat) (hk : k < (wordsG K n).length) => word_len ((tabW hv).wd k hk))
  have lr := rT_len hv hs (ix K n xs) (ix K n ys)
  have lp := pT_len hv hs (ix K n xs) (ix K n ys)
  have hsm := sum_small _ (rT_small hv hs (ix K n xs) (ix K n ys))
  have hrs := rT_small hv hs (ix K n xs) (ix K n ys)
  have hm4 := mirs_le hv
  have h12 := len_12S hv hi1
  have h12' := len_12S hv hi2
  have hF16 := fallsTo_16 (wordsG K n) (nextG K n) (ix K n ys) (mirs K n) hm4
  have hFB := Lib.hid (fun s => fallsTo_bit (wordsG K n) (nextG K n) (ix K n ys) s (mirs K n))
  obtain ⟨i1, e1⟩ : ∃ i1, ix K n xs = i1 := ⟨_, rfl⟩
  obtain ⟨i2, e2⟩ : ∃ i2, ix K n ys = i2 := ⟨_, rfl⟩
  rw [e1] at TM STP NO h12
  rw [e2] at PT NP FA hFB hF16 h12'
  rw [e1, e2] at MR MP BW SA lr lp hsm hrs
  obtain ⟨gr, er⟩ : ∃ gr, rT K n i1 i2 = gr := ⟨_, rfl⟩
  obtain ⟨gp, ep⟩ : ∃ gp, pT K n i1 i2 = gp := ⟨_, rfl⟩
  obtain ⟨l1, el1⟩ : ∃ l1, lenX (wordsG K n) i1 = l1 := ⟨_, rfl⟩
  obtain ⟨l2, el2⟩ : ∃ l2, lenX (wordsG K n) i2 = l2 := ⟨_, rfl⟩
  obtain ⟨F, eF⟩ : ∃ F, fallsTo (wordsG K n) (nextG K n) i2 (mirs K n) = F := ⟨_, rfl⟩
  obtain ⟨bb, ebb⟩ : ∃ bb, belG (wordsG K n) (nextG K n) i1 i2 = bb := ⟨_, rfl⟩
  rw [er] at MR lr hsm hrs
  rw [ep] at MP lp
  rw [ebb] at BW
  rw [eF] at FA hFB hF16
  rw [el1] at h12
  rw [el2] at h12'
  have HER := Lib.hid er
  have HEP := Lib.hid ep
  have HL1 := Lib.hid el1
  have HL2 := Lib.hid el2
  have HBB := Lib.hid ebb
  have HHR := Lib.hid hrs
  have HSM := Lib.hid hsm
  obtain ⟨lrn, elr⟩ : ∃ lrn, gr.length = lrn := ⟨_, rfl⟩
  obtain ⟨lpn, elp⟩ : ∃ lpn, gp.length = lpn := ⟨_, rfl⟩
  have HLR := Lib.hid elr
  have HLP := Lib.hid elp
  rw [elr] at lr
  rw [elp] at lp
  have hb1p : bb = decide (0 < lpn) := by rw [← elp, ← ep, ← ebb]; exact SA.out.1
  have hb2p : bb = decide (0 < lrn) := by rw [← elr, ← er, ← ebb]; exact SA.out.2.1
  obtain ⟨m, em⟩ : ∃ m, mirs K n = m := ⟨_, rfl⟩
  have HMM := Lib.hid em
  rw [em] at MI TM STP hm4 hFB
  have HF16 := Lib.hid hF16
  obtain ⟨a, c, rfl, hx1⟩ := hx
  obtain ⟨a2, c2, rfl, hy1⟩ := hy
  unfold grpI at *
  clear hx1 hy1 hok q1 q2 n1 n2 e1 e2 er ep el1 el2 eF ebb elr elp em hi1 hi2 hv hs hsm hrs
  have hlu0 : (0 : Nat) = 0 := rfl
  clear hlu0
  have HLP2 := Lib.hid (show gp.length ≤ 17592186044416 by rw [HLP.out]; omega)
  have HLR2 := Lib.hid (show gr.length ≤ 17592186044416 by rw [HLR.out]; omega)
  have hp0 := of_bool_dec hb1p
  have hr0 := of_bool_dec hb2p
  have hpn := nat_dec hb1p
  have hrn := nat_dec hb2p
  have hpd := hb1p.symm
  have hrd := hb2p.symm
  have hpi := (dec_nat lpn).trans hb1p.symm
  have hri := (dec_nat lrn).trans hb2p.symm
  clear hb1p hb2p
  cases bb with
  | false =>
    simp only [Bool.false_eq_true, false_iff] at hp0 hr0 hpn hrn
    go_enter Try.func7, Try.ntmps7
    go_upto_region 12 with (first
        | (go_at_call 30; refine (MI.out _).mono ?_; rintro e w23 ⟨rfl, hb23'⟩; have hb23 := chainS hb22 hb23')
        | (go_at_call 26; refine (FA.out v21 w21 (ho21.ints hlw)).mono ?_; rintro e w22 ⟨rfl, hb22'⟩; have hb22 := chainS hb21 hb22'; have g220 := (heldS hb22).at (i := 0) rfl; have g221 := (heldS hb22).at (i := 1) rfl)
        | (go_at_call 17; refine (LW.out w20 hb20).mono ?_; rintro e w21 ⟨v21, rfl, ho21, hb21'⟩; have hb21 := chainS hb20 hb21')
        | (go_at_call 16; refine (OF.out _).mono ?_; rintro e w20 ⟨rfl, hb20'⟩; have hb20 := chainS hb19 hb20')
        | (go_at_call 33; refine (BW.out v17 v18 w18 ((ho17.below hb18').ints hlu) (ho18.ints hlw)).mono ?_; rintro e w19 ⟨rfl, hb19'⟩; have hb19 := chainS hb18 hb19'; have g190 := (heldS hb19).at (i := 0) rfl; have g191 := (heldS hb19).at (i := 1) rfl)
        | (go_at_call 17; refine (LW.out w17 hb17).mono ?_; rintro e w18 ⟨v18, rfl, ho18, hb18'⟩; have hb18 := chainS hb17 hb18')
        | (go_at_call 17; refine (LU.out w16 hb16).mono ?_; rintro e w17 ⟨v17, rfl, ho17, hb17'⟩; have hb17 := chainS hb16 hb17')
        | (go_at_call 16; refine (OF.out _).mono ?_; rintro e w16 ⟨rfl, hb16'⟩; have hb16 := chainS hb15 hb16')
        | (go_at_call 36; refine (NP.out v14 w14 (ho14.ints hlw)).mono ?_; rintro e w15 ⟨v15, rfl, ho15, hb15'⟩; have hb15 := chainS hb14 hb15'; have g150 := (heldS hb15).at (i := 0) rfl; have g151 := (heldS hb15).at (i := 1) rfl; obtain ⟨a15, c15, rfl⟩ := own_lenX ho15; rw [HL2.out])
        | (go_at_call 17; refine (LW.out w13 hb13).mono ?_; rintro e w14 ⟨v14, rfl, ho14, hb14'⟩; have hb14 := chainS hb13 hb14')
        | (go_at_call 16; refine (OF.out _).mono ?_; rintro e w13 ⟨rfl, hb13'⟩; have hb13 := chainS hb12 hb13')
        | (go_at_call 36; refine (NO.out v11 w11 (ho11.ints hlu)).mono ?_; rintro e w12 ⟨v12, rfl, ho12, hb12'⟩; have hb12 := chainS hb11 hb12'; have g120 := (heldS hb12).at (i := 0) rfl; have g121 := (heldS hb12).at (i := 1) rfl; obtain ⟨a12, c12, rfl⟩ := own_lenX ho12; rw [HL1.out])
        | (go_at_call 17; refine (LU.out w10 hb10).mono ?_; rintro e w11 ⟨v11, rfl, ho11, hb11'⟩; have hb11 := chainS hb10 hb11')
        | (go_at_call 16; refine (OF.out _).mono ?_; rintro e w10 ⟨rfl, hb10'⟩; have hb10 := chainS hb9 hb10')
        | (go_at_call 19; refine (FN.out _ _ (args2 (HU.out w8 hb8) (HW.out w8 hb8) _ rfl)).mono ?_; rintro e w9 ⟨rfl, hb9q⟩; have hb9' := below_al (Nat.le_refl _) hb9q; have hb9 := chainS hb8 hb9'; have g90 := (heldS hb9).at (i := 0) rfl; have g91 := (heldS hb9).at (i := 1) rfl)
        | (go_at_call 37; refine (MR.out v6 v7 w7 ((ho6.below hb7').ints hlu) (ho7.ints hlw)).mono ?_; rintro e w8 ⟨v8, rfl, ho8, hb8'⟩; have hb8 := chainS hb7 hb8'; have g80 := (heldS hb8).at (i := 0) rfl; have g81 := (heldS hb8).at (i := 1) rfl; obtain ⟨a8, c8, rfl⟩ := poly_formS ho8; rw [HLR.out] at ho8 ⊢)
        | (go_at_call 17; refine (LW.out w6 hb6).mono ?_; rintro e w7 ⟨v7, rfl, ho7, hb7'⟩; have hb7 := chainS hb6 hb7')
        | (go_at_call 17; refine (LU.out w5 hb5).mono ?_; rintro e w6 ⟨v6, rfl, ho6, hb6'⟩; have hb6 := chainS hb5 hb6')
        | (go_at_call 16; refine (OF.out _).mono ?_; rintro e w5 ⟨rfl, hb5'⟩; have hb5 := chainS hb4 hb5')
        | (go_at_call 38; refine (MP.out v2 v3 w3 ((ho2.below hb3').ints hlu) (ho3.ints hlw)).mono ?_; rintro e w4 ⟨v4, rfl, ho4, hb4'⟩; have hb4 := chainS hb3 hb4'; have g40 := (heldS hb4).at (i := 0) rfl; have g41 := (heldS hb4).at (i := 1) rfl; obtain ⟨a4, c4, rfl⟩ := poly_formS ho4; rw [HLP.out] at ho4 ⊢)
        | (go_at_call 17; refine (LW.out w2 hb2).mono ?_; rintro e w3 ⟨v3, rfl, ho3, hb3'⟩; have hb3 := chainS hb2 hb3')
        | (go_at_call 17; refine (LU.out w1 hb1).mono ?_; rintro e w2 ⟨v2, rfl, ho2, hb2'⟩; have hb2 := chainS hb1 hb2')
        | (go_at_call 16; refine (OF.out _).mono ?_; rintro e w1 ⟨rfl, hb1q⟩; have hb1 := hb1q.mono (show w.heap.size + 1 ≤ _ by simp)))
    have HB23 := Lib.hid hb23
    have HO4 := Lib.hid (((((((((((((((((((ho4.below hb5').below hb6').below hb7').below hb8').below hb9').below hb10').below hb11').below hb12').below hb13').below hb14').below hb15').below hb16').below hb17').below hb18').below hb19').below hb20').below hb21').below hb22').below hb23')
    have HO8 := Lib.hid (((((((((((((((ho8.below hb9').below hb10').below hb11').below hb12').below hb13').below hb14').below hb15').below hb16').below hb17').below hb18').below hb19').below hb20').below hb21').below hb22').below hb23')
    clear hb2' hb3' hb4' hb5' hb6' hb7' hb8' hb9' hb10' hb11' hb12' hb13' hb14' hb15' hb16' hb17' hb18' hb19' hb20' hb21' hb22' hb23' hb1 hb2 hb3 hb4 hb5 hb6 hb7 hb8 hb9 hb10 hb11 hb12 hb13 hb14 hb15 hb16 hb17 hb18 hb19 hb20 hb21 hb22 hb23 hb1q hb9q ho2 ho3 ho4 ho6 ho7 ho8 ho11 ho12 ho14 ho15 ho17 ho18 ho21 g40 g41 g80 g81 g90 g91 g120 g121 g150 g151 g190 g191 g220 g221
    go_loopw [143] (fun ix wr => ∃ s : Nat, ix = .int .i64 s ∧ s ≤ m ∧ Below w23.heap.size w23 wr) (fun ix _ => m - (intOf ix).toNat)
    case atStart => exact ⟨0, rfl, Nat.zero_le _, Below.refl _ _⟩
    case round =>
      obtain ⟨s, rfl, hsm, hbr⟩ := hrel
      have HBR := Lib.hid hbr
      by_cases hlt : s < m
      · have hsi : (s : Int) < (m : Int) := by omega
        have hs4 : s < 4 := by omega
        have d0 : decide ((0 : Int) ≤ (s : Int)) = true := decide_eq_true (by omega)
        have d2 : decide ((s : Int) < 4) = true := decide_eq_true (by omega)
        have d3 : (0 : Int) ≤ (s : Int) := by omega
        have hbq := bit_wS F HF16.out s hs4
        have ws1 : IntKind.i64.wrap ((s : Int) + 1) = (s : Int) + 1 := IntWalk.i64_in _ (by omega)
        cases hb : F.testBit s with
        | false =>
          rw [hb] at hbq
          simp only [Bool.false_eq_true, if_false] at hbq
          clear hb hbr
          go_wp2
          go_roundw
          case rel => exact ⟨s + 1, by go_num, by omega, HBR.out⟩
          case measure => simp [intOf]; omega
        | true =>
          rw [hb] at hbq
          simp only [if_true] at hbq
          obtain ⟨k, hk⟩ : ∃ k, stepX (nextG K n) i1 s = k := ⟨_, rfl⟩
          have hkN := STP.out s hlt
          rw [hk] at hkN
          have TMS := Lib.hid (TM.out s k hlt hk)
          have PTS := Lib.hid (PT.out k gp hkN (sums_turn hFB.out HMM.out SA.out.2.2.1 HEP.out hk hb))
          have HWL := Lib.hid (WL.out k hkN)
          have HO4R := Lib.hid (HO4.out.below hbr)
          obtain ⟨w30, hw30⟩ : ∃ w30, w30 = wr := ⟨_, rfl⟩
          subst hw30
          have hb30 := chainS HB23.out hbr
          have g300 := (heldS hb30).at (i := 0) rfl
          have g301 := (heldS hb30).at (i := 1) rfl
          clear hb hk hkN hbr
          go_wp2_with (first
              | (go_at_call 23; refine (EqualM_any _ _ gp gp w36 ((HO4R.out.below ((chainT ((chainT ((chainT ((chainT ((chainT (hb31') hb32')) hb33')) hb34')) hb35')) hb36'))).ints HLP2.out) (ho36.ints HLP2.out) true (by simp)).mono ?_; rintro e w37 ⟨rfl, hb37'⟩; have hb37 := chainS hb36 hb37')
              | (go_at_call 38; refine (PTS.out _ v35 w35 (((ho33.below hb34').below hb35').ints HWL.out) (ho35.ints hlw)).mono ?_; rintro e w36 ⟨v36, rfl, ho36, hb36'⟩; have hb36 := chainS hb35 hb36')
              | (go_at_call 17; refine (LW.out w34 hb34).mono ?_; rintro e w35 ⟨v35, rfl, ho35, hb35'⟩; have hb35 := chainS hb34 hb35')
              | (go_at_call 16; refine (OF.out _).mono ?_; rintro e w34 ⟨rfl, hb34'⟩; have hb34 := chainS hb33 hb34')
              | (go_at_call 15; refine (TMS.out v32 _ _ ((ho32.below ((Below.refl _ _).alloc (Nat.le_refl _) _)).ints hlu) (own_one2 w32 _)).mono ?_; rintro e w33 ⟨v33, rfl, ho33, hb33q⟩; have hb33' := below_al (Nat.le_refl _) hb33q; have hb33 := chainS hb32 hb33'; have g330 := (heldS hb33).at (i := 0) rfl; have g331 := (heldS hb33).at (i := 1) rfl; obtain ⟨a33, n33, c33, rfl⟩ := own_form ho33)
              | (go_at_call 17; refine (LU.out w31 hb31).mono ?_; rintro e w32 ⟨v32, rfl, ho32, hb32'⟩; have hb32 := chainS hb31 hb32')
              | (go_at_call 16; refine (OF.out _).mono ?_; rintro e w31 ⟨rfl, hb31'⟩; have hb31 := chainS hb30 hb31'))
          have HBT := Lib.hid (HBR.out.trans (((chainT ((chainT ((chainT ((chainT ((chainT ((chainT (hb31') hb32')) hb33')) hb34')) hb35')) hb36')) hb37')).mono HBR.out.size))
          clear hb31' hb32' hb33' hb34' hb35' hb36' hb37' hb30 hb31 hb32 hb33 hb34 hb35 hb36 hb37 ho32 ho33 ho35 ho36 hb33q
          go_roundw
          case rel => exact ⟨s + 1, by go_num, by omega, HBT.out⟩
          case measure => simp [intOf]; omega
      · have hsi : ¬ (s : Int) < (m : Int) := by omega
        have HB40 := Lib.hid (chainS HB23.out hbr)
        have HO4R := Lib.hid (HO4.out.below hbr)
        have HO8R := Lib.hid (HO8.out.below hbr)
        have hg0 := (heldS HB40.out).at (i := 0) rfl
        have hg1 := (heldS HB40.out).at (i := 1) rfl
        clear hbr hlt
        go_wp2_with (go_at_call 20; refine (AW.out _).mono ?_; rintro e w50 ⟨rfl, hb50'⟩; have hb50 := chainS HB40.out hb50')
        go_ret
        exact ⟨rfl, chainE hb50⟩
  | true =>
    simp only [true_iff] at hp0 hr0 hpn hrn
    go_enter Try.func7, Try.ntmps7
    go_upto_region 12 with (first
        | (go_at_call 30; refine (MI.out _).mono ?_; rintro e w23 ⟨rfl, hb23'⟩; have hb23 := chainS hb22 hb23')
        | (go_at_call 26; refine (FA.out v21 w21 (ho21.ints hlw)).mono ?_; rintro e w22 ⟨rfl, hb22'⟩; have hb22 := chainS hb21 hb22'; have g220 := (heldS hb22).at (i := 0) rfl; have g221 := (heldS hb22).at (i := 1) rfl)
        | (go_at_call 17; refine (LW.out w20 hb20).mono ?_; rintro e w21 ⟨v21, rfl, ho21, hb21'⟩; have hb21 := chainS hb20 hb21')
        | (go_at_call 16; refine (OF.out _).mono ?_; rintro e w20 ⟨rfl, hb20'⟩; have hb20 := chainS hb19 hb20')
        | (go_at_call 33; refine (BW.out v17 v18 w18 ((ho17.below hb18').ints hlu) (ho18.ints hlw)).mono ?_; rintro e w19 ⟨rfl, hb19'⟩; have hb19 := chainS hb18 hb19'; have g190 := (heldS hb19).at (i := 0) rfl; have g191 := (heldS hb19).at (i := 1) rfl)
        | (go_at_call 17; refine (LW.out w17 hb17).mono ?_; rintro e w18 ⟨v18, rfl, ho18, hb18'⟩; have hb18 := chainS hb17 hb18')
        | (go_at_call 17; refine (LU.out w16 hb16).mono ?_; rintro e w17 ⟨v17, rfl, ho17, hb17'⟩; have hb17 := chainS hb16 hb17')
        | (go_at_call 16; refine (OF.out _).mono ?_; rintro e w16 ⟨rfl, hb16'⟩; have hb16 := chainS hb15 hb16')
        | (go_at_call 36; refine (NP.out v14 w14 (ho14.ints hlw)).mono ?_; rintro e w15 ⟨v15, rfl, ho15, hb15'⟩; have hb15 := chainS hb14 hb15'; have g150 := (heldS hb15).at (i := 0) rfl; have g151 := (heldS hb15).at (i := 1) rfl; obtain ⟨a15, c15, rfl⟩ := own_lenX ho15; rw [HL2.out])
        | (go_at_call 17; refine (LW.out w13 hb13).mono ?_; rintro e w14 ⟨v14, rfl, ho14, hb14'⟩; have hb14 := chainS hb13 hb14')
        | (go_at_call 16; refine (OF.out _).mono ?_; rintro e w13 ⟨rfl, hb13'⟩; have hb13 := chainS hb12 hb13')
        | (go_at_call 36; refine (NO.out v11 w11 (ho11.ints hlu)).mono ?_; rintro e w12 ⟨v12, rfl, ho12, hb12'⟩; have hb12 := chainS hb11 hb12'; have g120 := (heldS hb12).at (i := 0) rfl; have g121 := (heldS hb12).at (i := 1) rfl; obtain ⟨a12, c12, rfl⟩ := own_lenX ho12; rw [HL1.out])
        | (go_at_call 17; refine (LU.out w10 hb10).mono ?_; rintro e w11 ⟨v11, rfl, ho11, hb11'⟩; have hb11 := chainS hb10 hb11')
        | (go_at_call 16; refine (OF.out _).mono ?_; rintro e w10 ⟨rfl, hb10'⟩; have hb10 := chainS hb9 hb10')
        | (go_at_call 19; refine (FN.out _ _ (args2 (HU.out w8 hb8) (HW.out w8 hb8) _ rfl)).mono ?_; rintro e w9 ⟨rfl, hb9q⟩; have hb9' := below_al (Nat.le_refl _) hb9q; have hb9 := chainS hb8 hb9'; have g90 := (heldS hb9).at (i := 0) rfl; have g91 := (heldS hb9).at (i := 1) rfl)
        | (go_at_call 37; refine (MR.out v6 v7 w7 ((ho6.below hb7').ints hlu) (ho7.ints hlw)).mono ?_; rintro e w8 ⟨v8, rfl, ho8, hb8'⟩; have hb8 := chainS hb7 hb8'; have g80 := (heldS hb8).at (i := 0) rfl; have g81 := (heldS hb8).at (i := 1) rfl; obtain ⟨a8, c8, rfl⟩ := poly_formS ho8; rw [HLR.out] at ho8 ⊢)
        | (go_at_call 17; refine (LW.out w6 hb6).mono ?_; rintro e w7 ⟨v7, rfl, ho7, hb7'⟩; have hb7 := chainS hb6 hb7')
        | (go_at_call 17; refine (LU.out w5 hb5).mono ?_; rintro e w6 ⟨v6, rfl, ho6, hb6'⟩; have hb6 := chainS hb5 hb6')
        | (go_at_call 16; refine (OF.out _).mono ?_; rintro e w5 ⟨rfl, hb5'⟩; have hb5 := chainS hb4 hb5')
        | (go_at_call 38; refine (MP.out v2 v3 w3 ((ho2.below hb3').ints hlu) (ho3.ints hlw)).mono ?_; rintro e w4 ⟨v4, rfl, ho4, hb4'⟩; have hb4 := chainS hb3 hb4'; have g40 := (heldS hb4).at (i := 0) rfl; have g41 := (heldS hb4).at (i := 1) rfl; obtain ⟨a4, c4, rfl⟩ := poly_formS ho4; rw [HLP.out] at ho4 ⊢)
        | (go_at_call 17; refine (LW.out w2 hb2).mono ?_; rintro e w3 ⟨v3, rfl, ho3, hb3'⟩; have hb3 := chainS hb2 hb3')
        | (go_at_call 17; refine (LU.out w1 hb1).mono ?_; rintro e w2 ⟨v2, rfl, ho2, hb2'⟩; have hb2 := chainS hb1 hb2')
        | (go_at_call 16; refine (OF.out _).mono ?_; rintro e w1 ⟨rfl, hb1q⟩; have hb1 := hb1q.mono (show w.heap.size + 1 ≤ _ by simp)))
    have HB23 := Lib.hid hb23
    have HO4 := Lib.hid (((((((((((((((((((ho4.below hb5').below hb6').below hb7').below hb8').below hb9').below hb10').below hb11').below hb12').below hb13').below hb14').below hb15').below hb16').below hb17').below hb18').below hb19').below hb20').below hb21').below hb22').below hb23')
    have HO8 := Lib.hid (((((((((((((((ho8.below hb9').below hb10').below hb11').below hb12').below hb13').below hb14').below hb15').below hb16').below hb17').below hb18').below hb19').below hb20').below hb21').below hb22').below hb23')
    clear hb2' hb3' hb4' hb5' hb6' hb7' hb8' hb9' hb10' hb11' hb12' hb13' hb14' hb15' hb16' hb17' hb18' hb19' hb20' hb21' hb22' hb23' hb1 hb2 hb3 hb4 hb5 hb6 hb7 hb8 hb9 hb10 hb11 hb12 hb13 hb14 hb15 hb16 hb17 hb18 hb19 hb20 hb21 hb22 hb23 hb1q hb9q ho2 ho3 ho4 ho6 ho7 ho8 ho11 ho12 ho14 ho15 ho17 ho18 ho21 g40 g41 g80 g81 g90 g91 g120 g121 g150 g151 g190 g191 g220 g221
    go_loopw [143] (fun ix wr => ∃ s : Nat, ix = .int .i64 s ∧ s ≤ m ∧ Below w23.heap.size w23 wr) (fun ix _ => m - (intOf ix).toNat)
    case atStart => exact ⟨0, rfl, Nat.zero_le _, Below.refl _ _⟩
    case round =>
      obtain ⟨s, rfl, hsm, hbr⟩ := hrel
      have HBR := Lib.hid hbr
      by_cases hlt : s < m
      · have hsi : (s : Int) < (m : Int) := by omega
        have hs4 : s < 4 := by omega
        have d0 : decide ((0 : Int) ≤ (s : Int)) = true := decide_eq_true (by omega)
        have d2 : decide ((s : Int) < 4) = true := decide_eq_true (by omega)
        have d3 : (0 : Int) ≤ (s : Int) := by omega
        have hbq := bit_wS F HF16.out s hs4
        have ws1 : IntKind.i64.wrap ((s : Int) + 1) = (s : Int) + 1 := IntWalk.i64_in _ (by omega)
        cases hb : F.testBit s with
        | false =>
          rw [hb] at hbq
          simp only [Bool.false_eq_true, if_false] at hbq
          clear hb hbr
          go_wp2
          go_roundw
          case rel => exact ⟨s + 1, by go_num, by omega, HBR.out⟩
          case measure => simp [intOf]; omega
        | true =>
          rw [hb] at hbq
          simp only [if_true] at hbq
          obtain ⟨k, hk⟩ : ∃ k, stepX (nextG K n) i1 s = k := ⟨_, rfl⟩
          have hkN := STP.out s hlt
          rw [hk] at hkN
          have TMS := Lib.hid (TM.out s k hlt hk)
          have PTS := Lib.hid (PT.out k gp hkN (sums_turn hFB.out HMM.out SA.out.2.2.1 HEP.out hk hb))
          have HWL := Lib.hid (WL.out k hkN)
          have HO4R := Lib.hid (HO4.out.below hbr)
          obtain ⟨w30, hw30⟩ : ∃ w30, w30 = wr := ⟨_, rfl⟩
          subst hw30
          have hb30 := chainS HB23.out hbr
          have g300 := (heldS hb30).at (i := 0) rfl
          have g301 := (heldS hb30).at (i := 1) rfl
          clear hb hk hkN hbr
          go_wp2_with (first
              | (go_at_call 23; refine (EqualM_any _ _ gp gp w36 ((HO4R.out.below ((chainT ((chainT ((chainT ((chainT ((chainT (hb31') hb32')) hb33')) hb34')) hb35')) hb36'))).ints HLP2.out) (ho36.ints HLP2.out) true (by simp)).mono ?_; rintro e w37 ⟨rfl, hb37'⟩; have hb37 := chainS hb36 hb37')
              | (go_at_call 38; refine (PTS.out _ v35 w35 (((ho33.below hb34').below hb35').ints HWL.out) (ho35.ints hlw)).mono ?_; rintro e w36 ⟨v36, rfl, ho36, hb36'⟩; have hb36 := chainS hb35 hb36')
              | (go_at_call 17; refine (LW.out w34 hb34).mono ?_; rintro e w35 ⟨v35, rfl, ho35, hb35'⟩; have hb35 := chainS hb34 hb35')
              | (go_at_call 16; refine (OF.out _).mono ?_; rintro e w34 ⟨rfl, hb34'⟩; have hb34 := chainS hb33 hb34')
              | (go_at_call 15; refine (TMS.out v32 _ _ ((ho32.below ((Below.refl _ _).alloc (Nat.le_refl _) _)).ints hlu) (own_one2 w32 _)).mono ?_; rintro e w33 ⟨v33, rfl, ho33, hb33q⟩; have hb33' := below_al (Nat.le_refl _) hb33q; have hb33 := chainS hb32 hb33'; have g330 := (heldS hb33).at (i := 0) rfl; have g331 := (heldS hb33).at (i := 1) rfl; obtain ⟨a33, n33, c33, rfl⟩ := own_form ho33)
              | (go_at_call 17; refine (LU.out w31 hb31).mono ?_; rintro e w32 ⟨v32, rfl, ho32, hb32'⟩; have hb32 := chainS hb31 hb32')
              | (go_at_call 16; refine (OF.out _).mono ?_; rintro e w31 ⟨rfl, hb31'⟩; have hb31 := chainS hb30 hb31'))
          have HBT := Lib.hid (HBR.out.trans (((chainT ((chainT ((chainT ((chainT ((chainT ((chainT (hb31') hb32')) hb33')) hb34')) hb35')) hb36')) hb37')).mono HBR.out.size))
          clear hb31' hb32' hb33' hb34' hb35' hb36' hb37' hb30 hb31 hb32 hb33 hb34 hb35 hb36 hb37 ho32 ho33 ho35 ho36 hb33q
          go_roundw
          case rel => exact ⟨s + 1, by go_num, by omega, HBT.out⟩
          case measure => simp [intOf]; omega
      · have hsi : ¬ (s : Int) < (m : Int) := by omega
        have HB40 := Lib.hid (chainS HB23.out hbr)
        have HO4R := Lib.hid (HO4.out.below hbr)
        have HO8R := Lib.hid (HO8.out.below hbr)
        have hg0 := (heldS HB40.out).at (i := 0) rfl
        have hg1 := (heldS HB40.out).at (i := 1) rfl
        clear hbr hlt
        have SI := Lib.hid (SA.out.2.2.2 HBB.out)
        obtain ⟨d, hd⟩ : ∃ d, l2 - l1 = d := ⟨_, rfl⟩
        have hle := SI.out.le
        rw [HL1.out, HL2.out] at hle
        have HLE := Lib.hid hle
        have HRL := Lib.hid (show lrn = d + 1 by have h := SI.out.rl; rw [HER.out, HLR.out, HL1.out, HL2.out] at h; omega)
        have HSU := Lib.hid (sums_sum SI.out HER.out HL1.out HL2.out hd)
        have HPO := Lib.hid (sums_pos SI.out HEP.out)
        have HON := Lib.hid (sums_one SI.out HEP.out)
        have HDE := Lib.hid (sums_deg SI.out HEP.out HL1.out HL2.out hd HLP.out)
        have HPL := Lib.hid (sums_plain SI.out HEP.out HL1.out HL2.out hd HLP.out)
        have hd12 : d ≤ 12 := by omega
        have HD := Lib.hid hd
        have wdd : IntKind.i64.wrap ((l2 : Int) - (l1 : Int)) = (d : Int) := by rw [IntWalk.i64_in _ (by omega)]; omega
        clear hle hd SI
        go_upto_region 24 with (fail)
        go_loopw [24, 188] (fun t24 ix wx => ∃ k : Nat, ix = .int .i64 k ∧ k ≤ lrn ∧ t24 = .int .i64 (gr.take k).sum ∧ wx = wr) (fun _ ix _ => lrn - (intOf ix).toNat)
        case atStart => exact ⟨0, rfl, Nat.zero_le _, by simp, rfl⟩
        case round =>
          obtain ⟨k, rfl, hk, rfl, rfl⟩ := hrel
          by_cases hkl : k < lrn
          · obtain ⟨bx, offx, rfl, hbx, hcell⟩ := ints_at (HO8R.out.ints HLR2.out) (by rw [HLR.out]; omega)
            have hcx := hcell k (by rw [HLR.out]; exact hkl)
            obtain ⟨z, hz⟩ : ∃ z, gr.getD k 0 = z := ⟨_, rfl⟩
            rw [hz] at hcx
            obtain ⟨S, hS⟩ : ∃ S, (gr.take k).sum = S := ⟨_, rfl⟩
            have HNS := Lib.hid (sums_next HHR.out HLR.out lr hkl hz hS)
            rw [hS]
            have hsw := HNS.out.2
            have hki : (k : Int) < (lrn : Int) := by omega
            have hkd : ¬ (d : Int) < (k : Int) := by have := HRL.out; omega
            have hkn : ¬ d < k := by have := HRL.out; omega
            clear hz hS hcell hbx
            go_wp2
            go_roundw
            case rel => exact ⟨k + 1, by go_num, by omega, by rw [HNS.out.1], trivial⟩
            case measure => simp [intOf]; omega
          · have hke : k = lrn := by omega
            have hki : ¬ (k : Int) < (lrn : Int) := by omega
            have hst : (gr.take k).sum = gr.sum := by rw [List.take_of_length_le (by rw [HLR.out]; omega)]
            rw [hst]
            obtain ⟨S, hS⟩ : ∃ S, gr.sum = S := ⟨_, rfl⟩
            rw [hS] at HSU ⊢
            clear hst hS hke hkl hk
            go_upto_region 31 with (fail)
            go_loopw [206] (fun ix wx => ∃ k : Nat, ix = .int .i64 k ∧ k ≤ lpn ∧ wx = wr) (fun ix _ => lpn - (intOf ix).toNat)
            case atStart => exact ⟨0, rfl, Nat.zero_le _, rfl⟩
            case round =>
              obtain ⟨k, rfl, hk, rfl⟩ := hrel
              obtain ⟨by', offy, rfl, hby, hcell⟩ := ints_at (HO4R.out.ints HLP2.out) (by rw [HLP.out]; omega)
              by_cases hkl : k < lpn
              · have hcx := hcell k (by rw [HLP.out]; exact hkl)
                obtain ⟨z, hz⟩ : ∃ z, gp.getD k 0 = z := ⟨_, rfl⟩
                rw [hz] at hcx
                have hz0 : ¬ z < 0 := by have h9 := HPO.out k (by rw [HLP.out]; exact hkl); rw [hz] at h9; omega
                have hki : (k : Int) < (lpn : Int) := by omega
                clear hz hcell hby
                go_wp2
                go_roundw
                case rel => exact ⟨k + 1, by go_num, by omega, trivial⟩
                case measure => simp [intOf]; omega
              · have hki : ¬ (k : Int) < (lpn : Int) := by omega
                have hcx := hcell 0 (by rw [HLP.out]; omega)
                rw [HON.out, Nat.add_zero] at hcx
                have w1' : IntKind.i64.wrap ((lpn : Int) - 1) = ((lpn - 1 : Nat) : Int) := by rw [IntWalk.i64_in _ (by omega)]; omega
                have w2' : IntKind.i64.wrap (2 * ((lpn - 1 : Nat) : Int)) = 2 * ((lpn - 1 : Nat) : Int) := IntWalk.i64_in _ (by omega)
                have w3' : IntKind.i64.wrap ((d : Int) - 1) = (d : Int) - 1 := IntWalk.i64_in _ (by omega)
                have hmx : max ((d : Int) - 1) 0 = ((d - 1 : Nat) : Int) := by omega
                have hdeg : 2 * ((lpn - 1 : Nat) : Int) ≤ ((d - 1 : Nat) : Int) := by have := HDE.out; omega
                have hdeg2 : 2 * (lpn - 1) ≤ d - 1 := HDE.out
                have w4' : IntKind.i64.wrap ((d : Int) + 1) = (d : Int) + 1 := IntWalk.i64_in _ (by omega)
                have hlre : ((lrn : Int) == (d : Int) + 1) = true := by have := HRL.out; simp; omega
                clear hkl hk hcell hby wdd
                have wdd : IntKind.i64.wrap ((l2 : Int) - (l1 : Int)) = (d : Int) := by rw [IntWalk.i64_in _ (by omega)]; have := HD.out; have := HLE.out; omega
                rcases plain_cases K n d with ⟨p1, p1', pl⟩ | ⟨p1, p1', p2, pl⟩ | ⟨p1, p1', p2, p3, p4, p4', pl⟩ | ⟨p1, p1', p2, p3, p4, p4'⟩ | ⟨p1, p1', p2, p3⟩
                · have pd1 : decide ((d : Int) ≤ 2) = true := decide_eq_true p1
                  have pd2 : decide (d ≤ 2) = true := decide_eq_true p1'
                  have hl1 := one_eq (HPL.out pl)
                  clear pl
                  rcases HSU.out with ⟨s1, s2, s2'⟩ | ⟨s1, s2, s2'⟩
                  all_goals
                    go_wp2_with (go_at_call 20; refine (AW.out _).mono ?_; rintro e w50 ⟨rfl, hb50'⟩; have hb50 := chainS HB40.out hb50')
                    go_ret
                    exact ⟨rfl, chainE hb50⟩
                · have pd1 : decide ((d : Int) ≤ 2) = false := decide_eq_false p1
                  have pd2 : decide (d ≤ 2) = false := decide_eq_false p1'
                  have hl1 := one_eq (HPL.out pl)
                  clear pl
                  rcases HSU.out with ⟨s1, s2, s2'⟩ | ⟨s1, s2, s2'⟩
                  · go_wp2_with (go_at_call 20; refine (AW.out _).mono ?_; rintro e w50 ⟨rfl, hb50'⟩; have hb50 := chainS HB40.out hb50')
                    go_ret
                    exact ⟨rfl, chainE hb50⟩
                  · exact absurd (show 0 < d by omega) s2'
                · have pd1 : decide ((d : Int) ≤ 2) = false := decide_eq_false p1
                  have pd2 : decide (d ≤ 2) = false := decide_eq_false p1'
                  have pn1 : decide ((n : Int) ≤ 2) = true := decide_eq_true p4
                  have pn2 : decide (n ≤ 2) = true := decide_eq_true p4'
                  have hl1 := one_eq (HPL.out pl)
                  clear pl
                  rcases HSU.out with ⟨s1, s2, s2'⟩ | ⟨s1, s2, s2'⟩
                  · go_wp2_with (go_at_call 20; refine (AW.out _).mono ?_; rintro e w50 ⟨rfl, hb50'⟩; have hb50 := chainS HB40.out hb50')
                    go_ret
                    exact ⟨rfl, chainE hb50⟩
                  · exact absurd (show 0 < d by omega) s2'
                · have pd1 : decide ((d : Int) ≤ 2) = false := decide_eq_false p1
                  have pd2 : decide (d ≤ 2) = false := decide_eq_false p1'
                  have pn1 : decide ((n : Int) ≤ 2) = false := decide_eq_false p4
                  have pn2 : decide (n ≤ 2) = false := decide_eq_false p4'
                  rcases HSU.out with ⟨s1, s2, s2'⟩ | ⟨s1, s2, s2'⟩
                  · go_wp2_with (go_at_call 20; refine (AW.out _).mono ?_; rintro e w50 ⟨rfl, hb50'⟩; have hb50 := chainS HB40.out hb50')
                    go_ret
                    exact ⟨rfl, chainE hb50⟩
                  · exact absurd (show 0 < d by omega) s2'
                · have pd1 : decide ((d : Int) ≤ 2) = false := decide_eq_false p1
                  have pd2 : decide (d ≤ 2) = false := decide_eq_false p1'
                  rcases HSU.out with ⟨s1, s2, s2'⟩ | ⟨s1, s2, s2'⟩
                  · go_wp2_with (go_at_call 20; refine (AW.out _).mono ?_; rintro e w50 ⟨rfl, hb50'⟩; have hb50 := chainS HB40.out hb50')
                    go_ret
                    exact ⟨rfl, chainE hb50⟩
                  · exact absurd (show 0 < d by omega) s2'
theorem mirrorSums_true (K : Nat) (n : Int) (vu : Value) (xs : List Int) (vw : Value) (ys : List Int) (w : World) (hK : K < 256) (hx : Ints w vu xs) (hy : Ints w vw ys) :
    Calls Try.prog 7 #[grpI K n, vu, vw] w (TrueM w) := by
  cases hok : okI K n [xs, ys] with
  | false => exact SumL_no K n vu vw xs ys w hK hx hy hok
  | true =>
    obtain ⟨m, rfl, hv, hall⟩ := okI_nat hok
    simp only [List.all_cons, List.all_nil, Bool.and_true, Bool.and_eq_true] at hall
    unfold grpI
    by_cases hs : K = 65 ∧ m = 4
    · exact SumL_big K m vu vw xs ys w hv hx hy hall.1 hall.2 hs
    · exact SumL_yes K m vu vw xs ys w hv hx hy hall.1 hall.2 hs
end Go.Proofs.Ytmlhecfhhhebnaa

/- What every law's statement asks beside its walk: a witness, the arguments opened, the form closed. -/
namespace Go.Proofs.Ytmlhecfhhhebnaa
open Go.RowKit Go.ChangeShapes Go.WideShapes Go.ChangeAt Go.WideElems Go.Joins Go.Deep

theorem ownK : ownKnob Try.prog.godebug = none := by kernel_rfl
theorem cellsInt : Try.prog.cellsOf 3 = 1 := by kernel_rfl
theorem bytesInt : Try.prog.bytesOf 3 = 8 := by kernel_rfl
theorem laidOut : laidOutB Try.prog = true := by kernel_rfl
set_option maxRecDepth 100000 in
theorem groupFields : ∃ f0 f1, Try.prog.underlying 23 = some (.struct #[f0, f1]) ∧ oneCellFields Try.prog #[f0, f1] = true ∧ f0.type = 5 ∧ f1.type = 3 :=
  ⟨_, _, Try.underlying23, by kernel_rfl, rfl, rfl⟩
theorem groupCells : Try.prog.cellsOf 23 = 2 := by kernel_rfl

section
variable {H : Type} {enc : TypeId × Value → H}

set_option maxRecDepth 100000 in
theorem group_arg {W : World} {base : Nat} {v0 : Value} {d0 : DataW H} {p0 : List MemPlace} (hok : Value.okWide Try.prog W .any base 23 v0) (h0 : DataW.Trod enc Try.prog W 0 (fun _ => true) true 23 v0 d0 p0) :
    ∃ (K : Nat) (n : Int), v0 = grpI K n ∧ K < 256 := by
  obtain ⟨f0, f1, hs, hone, e0, e1⟩ := groupFields
  obtain ⟨c0, c1, y0, y1, nn, rfl, _, _, t0, t1⟩ := open_agg2 hs hone groupCells hok h0
  rw [e0] at t0
  rw [e1] at t1
  obtain ⟨a, ha, _, hw⟩ := DataW.trod_int Try.underlying5 t0
  obtain ⟨b, hb, _, _⟩ := DataW.trod_int Try.underlying3 t1
  simp only [List.cons.injEq, and_true] at ha hb
  subst ha
  subst hb
  simp [Lit.wf, IntKind.min, IntKind.max, IntKind.signed, IntKind.bits] at hw
  exact ⟨a.toNat, b, by unfold grpI; rw [show ((a.toNat : Nat) : Int) = a by omega], by omega⟩

set_option maxRecDepth 100000 in
theorem slice_arg {W : World} {base : Nat} {v0 : Value} {d0 : DataW H} {p0 : List MemPlace} (hok : Value.okWide Try.prog W .any base 24 v0) (h0 : DataW.Trod enc Try.prog W 0 (fun _ => true) true 24 v0 d0 p0)
    (hs : ∀ elems spare, d0 = .slice elems spare → (elems.length + spare.length) * 8 ≤ reachBytes) (hlt : ∀ x ∈ p0, x.block < W.heap.size) : ∃ xs, Ints W v0 xs := by
  obtain ⟨a0, len, cap, rfl⟩ := okWide_slice Try.underlying24 hok
  obtain ⟨fuel0, hf⟩ := h0
  rcases open_ints Try.underlying24 Try.underlying3 cellsInt hf with ⟨hcs, hx⟩ | ⟨a, len', cap', zs, hcs, _, hl, hm, hz, hx, hcell, hwz⟩
  · simp [Value.cells] at hcs
    obtain ⟨rfl, rfl, rfl⟩ := hcs
    exact ⟨[], Ints.nil W⟩
  · simp [Value.cells] at hcs
    obtain ⟨rfl, rfl, rfl⟩ := hcs
    simp only [Prod.mk.injEq] at hx
    obtain ⟨rfl, rfl⟩ := hx
    simp only [if_true] at hz
    have hlen : (zs.take len).length = len := by simp; omega
    have hreach := hs _ _ rfl
    simp only [lits, List.length_map, List.length_take, List.length_drop, reachBytes] at hreach
    refine ⟨zs.take len, some a, cap, by rw [hlen], by rw [hlen]; omega, by rw [hlen]; exact hl, fun hne => ?_⟩
    have h0l : 0 < len := by rw [← hlen]; exact List.length_pos_iff.2 hne
    obtain ⟨b, off, spot⟩ := a
    have hspot : spot = none := by simpa [Addr.add] using World.cell?_spot (hcell 0 (by omega))
    subst hspot
    refine ⟨b, off, rfl, World.block_lt_of_cell? W _ (hcell 0 (by omega)), fun i hi => ?_⟩
    rw [hlen] at hi
    have := hcell i (by omega)
    rw [add_plain] at this
    rw [this]
    simp [List.getD, List.getElem?_eq_getElem (show i < zs.length by omega)]

set_option maxRecDepth 100000 in
theorem below_trodAll {W W' : World} (hb : Below W.heap.size W W') : ∀ {ts : List TypeId} {vs : List Value} {ds : List (DataW H)} {p : List MemPlace}, (∀ t ∈ ts, Try.prog.readableRec t = true ∧ t < Try.prog.types.size) →
    (∀ x ∈ p, x.block < W.heap.size) → DataW.TrodAll enc Try.prog W 0 (fun _ => true) true ts vs ds p → DataW.TrodAll enc Try.prog W' 0 (fun b => decide (b < W.heap.size)) true ts vs ds p
  | [], _, _, _, _, _, h => by
    obtain ⟨rfl, rfl, rfl⟩ := trodAll_nil h
    exact rfl
  | t :: ts, _, _, _, ht, hlt, h => by
    obtain ⟨v, vs1, d, ds1, a, b, rfl, rfl, rfl, h1, h2⟩ := trodAll_cons h
    refine trodAll_cons_mk (Below.trod laidOut (ht t List.mem_cons_self).1 (ht t List.mem_cons_self).2 h1 hb (fun x hx => hlt x (List.mem_append_left _ hx))) ?_
    exact below_trodAll hb (fun u hu => ht u (List.mem_cons_of_mem _ hu)) (fun x hx => hlt x (List.mem_append_right _ hx)) h2

set_option maxRecDepth 100000 in
/-- A law that answered true and left what lay before. -/
theorem post_law {spec : ChangeSpec} {fn : Func} {W W' : World} {args : Array Value} {ds : List (DataW H)} {p : List MemPlace} (hv : spec.vars = [])
    (hW : DataW.Whole enc Try.prog fn.params.toList spec.vars false W args.toList ds [] p)
    (hfn : spec.fn H (ds ++ []) = { results := [.lit (.bool true)], args := ds }) (hres : fn.resultTypes = #[4]) (hr : ∀ t ∈ fn.params.toList, Try.prog.readableRec t = true ∧ t < Try.prog.types.size)
    (hB : Below W.heap.size W W') : spec.post enc Try.prog fn false true false false W args (.bool true) W' := by
  have hlt : ∀ x ∈ p, x.block < W.heap.size := fun x hx => by simpa using hW.lt x hx
  refine ⟨ds, [], p, [], p, [], hW, ?_, ?_, ?_, hB.frame _, fun h => by cases h⟩
  · rw [hfn, hres]; exact trodAll_mk1 (shut_bool Try.underlying4 true)
  · rw [hfn]
    obtain ⟨p', q, hA, hV, rfl, _, _⟩ := hW
    rw [hv] at hV
    obtain ⟨_, rfl⟩ := trodVars_none hV
    rw [List.append_nil] at hlt ⊢
    exact below_trodAll hB hr hlt hA
  · rw [hfn, hv]; rfl
end
end Go.Proofs.Ytmlhecfhhhebnaa
