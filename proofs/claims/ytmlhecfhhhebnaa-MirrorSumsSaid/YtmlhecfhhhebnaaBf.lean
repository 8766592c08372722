/- Listing the elements breadth first: what is kept. No Go in sight. -/
import Derived.Test.YtmlhecfhhhebnaaMir
namespace Go.Proofs.Ytmlhecfhhhebnaa

/-- What is kept of the elements and the words; k: the longest word. -/
structure BfOk (L : List (List Int)) (W : List (List Nat)) (k : Nat) : Prop where
  elt : ∀ l ∈ L, Elt l
  nodup : L.Nodup
  len : W.length = L.length
  short : ∀ w ∈ W, w.length ≤ k
  first : 0 < L.length
theorem bfS_ok {K n k s : Nat} (hv : validB K n = true) (hs : s < mirs K n) {L : List (List Int)} {W : List (List Nat)} {row : List Nat} (h : BfOk L W (k + 1)) (hk : k < L.length) (hkw : (W.getD k []).length ≤ k) :
    BfOk (bfS K n k s (L, W, row)).1 (bfS K n k s (L, W, row)).2.1 (k + 1) ∧ L <+: (bfS K n k s (L, W, row)).1 ∧ W <+: (bfS K n k s (L, W, row)).2.1 ∧ (bfS K n k s (L, W, row)).2.2.length = row.length + 1 ∧ (bfS K n k s (L, W, row)).1.length ≤ L.length + 1 := by
  have he : Elt (thenE (L.getD k []) (mirE K n s)) := by
    rw [show L.getD k [] = L[k] by simp [List.getD, List.getElem?_eq_getElem hk]]
    exact (h.elt _ (List.getElem_mem hk)).then (elt_mir K n s hv hs)
  unfold bfS
  simp only
  split
  · exact ⟨h, List.prefix_refl _, List.prefix_refl _, by simp, Nat.le_succ _⟩
  · rename_i hn
    have hnm : thenE (L.getD k []) (mirE K n s) ∉ L := fun hm => hn (List.idxOf_lt_length_iff.2 hm)
    refine ⟨⟨fun l hl => ?_, ?_, by simp [h.len], fun w hw => ?_, by simp⟩, List.prefix_append _ _, List.prefix_append _ _, by simp, by simp⟩
    · rcases List.mem_append.1 hl with hl | hl
      · exact h.elt l hl
      · rw [List.mem_singleton.1 hl]; exact he
    · rw [List.nodup_append]
      refine ⟨h.nodup, by simp, fun a ha b hb => ?_⟩
      rw [List.mem_singleton.1 hb]
      rintro rfl
      exact hnm ha
    · rcases List.mem_append.1 hw with hw | hw
      · exact h.short w hw
      · rw [List.mem_singleton.1 hw, List.length_append]; simp; exact hkw
structure RowOk (k : Nat) (L0 : List (List Int)) (W0 : List (List Nat)) (s : Nat) (r : List (List Int) × List (List Nat) × List Nat) : Prop where
  ok : BfOk r.1 r.2.1 (k + 1)
  preL : L0 <+: r.1
  preW : W0 <+: r.2.1
  row : r.2.2.length = s
  grow : r.1.length ≤ L0.length + s
theorem prefix_getD {α : Type} {a b : List α} (h : a <+: b) (k : Nat) (hk : k < a.length) (d : α) : b.getD k d = a.getD k d := by
  obtain ⟨c, rfl⟩ := h
  simp [List.getD, List.getElem?_append_left hk]
theorem bfR_ok {K n k : Nat} (hv : validB K n = true) {L0 : List (List Int)} {W0 : List (List Nat)} (h : BfOk L0 W0 k) (hk : k < L0.length) : ∀ s, s ≤ mirs K n → RowOk k L0 W0 s (bfR K n k L0 W0 s)
  | 0, _ => ⟨⟨h.elt, h.nodup, h.len, fun w hw => by have := h.short w hw; omega, h.first⟩, List.prefix_refl _, List.prefix_refl _, rfl, by simp [bfR]⟩
  | s + 1, hs => by
    have ih := bfR_ok hv h hk s (by omega)
    have hkl : k < (bfR K n k L0 W0 s).1.length := Nat.lt_of_lt_of_le hk ih.preL.length_le
    have hkw : ((bfR K n k L0 W0 s).2.1.getD k []).length ≤ k := by
      have hk0 : k < W0.length := by rw [h.len]; exact hk
      rw [prefix_getD ih.preW k hk0]
      rw [show W0.getD k [] = W0[k] by simp [List.getD, List.getElem?_eq_getElem hk0]]
      exact h.short _ (List.getElem_mem hk0)
    obtain ⟨h1, h2, h3, h4, h5⟩ := bfS_ok (row := (bfR K n k L0 W0 s).2.2) hv (show s < mirs K n by omega) ih.ok hkl hkw
    have e : bfR K n k L0 W0 (s + 1) = bfS K n k s ((bfR K n k L0 W0 s).1, (bfR K n k L0 W0 s).2.1, (bfR K n k L0 W0 s).2.2) := rfl
    exact ⟨h1, ih.preL.trans h2, ih.preW.trans h3, by rw [e, h4, ih.row], by rw [e]; have := ih.grow; omega⟩

/-- The whole table's size. -/
def szG (K n : Nat) : Nat := (bfN K n 130).L.length
def allGroups : List (Nat × Nat) := [(65, 1), (65, 2), (65, 3), (65, 4), (66, 2), (66, 3), (73, 2), (73, 3), (73, 4), (73, 5), (73, 6), (73, 7), (73, 8), (73, 9), (73, 10), (73, 11), (73, 12)]
theorem valid_in {K n : Nat} (h : validB K n = true) : (K, n) ∈ allGroups := by
  unfold validB at h
  simp only [Bool.or_eq_true, Bool.and_eq_true, beq_iff_eq, decide_eq_true_eq] at h
  unfold allGroups
  rcases h with (⟨⟨rfl, h1⟩, h2⟩ | ⟨⟨rfl, h1⟩, h2⟩) | ⟨⟨rfl, h1⟩, h2⟩
  · obtain rfl | rfl | rfl | rfl : n = 1 ∨ n = 2 ∨ n = 3 ∨ n = 4 := by omega
    all_goals simp
  · obtain rfl | rfl : n = 2 ∨ n = 3 := by omega
    all_goals simp
  · obtain rfl | rfl | rfl | rfl | rfl | rfl | rfl | rfl | rfl | rfl | rfl : n = 2 ∨ n = 3 ∨ n = 4 ∨ n = 5 ∨ n = 6 ∨ n = 7 ∨ n = 8 ∨ n = 9 ∨ n = 10 ∨ n = 11 ∨ n = 12 := by omega
    all_goals simp
theorem sz_all : (allGroups.all fun g => decide ((bfN g.1 g.2 130).L.length ≤ 120)) = true := by decide +kernel
theorem sz_le {K n : Nat} (h : validB K n = true) : szG K n ≤ 120 := by
  have := List.all_eq_true.1 sz_all _ (valid_in h)
  exact of_decide_eq_true this

structure BfN (K n k : Nat) : Prop where
  ok : BfOk (bfN K n k).L (bfN K n k).W k
  x : (bfN K n k).X.length ≤ k
  xl : (bfN K n k).X.length ≤ (bfN K n k).L.length
  run : (bfN K n k).X.length = k ∨ (bfN K n k).X.length = (bfN K n k).L.length
theorem bfN_succ_of {K n k : Nat} (h : (bfN K n k).X.length < (bfN K n k).L.length) : bfN K n (k + 1) = ⟨(bfR K n (bfN K n k).X.length (bfN K n k).L (bfN K n k).W (mirs K n)).1, (bfR K n (bfN K n k).X.length (bfN K n k).L (bfN K n k).W (mirs K n)).2.1, (bfN K n k).X ++ [(bfR K n (bfN K n k).X.length (bfN K n k).L (bfN K n k).W (mirs K n)).2.2]⟩ := by
  rw [bfN, bfK, if_pos h]
theorem bfN_stop {K n k : Nat} (h : ¬ (bfN K n k).X.length < (bfN K n k).L.length) : bfN K n (k + 1) = bfN K n k := by
  rw [bfN, bfK, if_neg h]
theorem bfN_ok {K n : Nat} (hv : validB K n = true) : ∀ k, BfN K n k
  | 0 => ⟨⟨fun l hl => by rw [show l = oneE by simpa [bfN] using hl]; exact elt_one, by simp [bfN], rfl, fun w hw => by rw [show w = [] by simpa [bfN] using hw]; simp, by simp [bfN]⟩, by simp [bfN], by simp [bfN], .inl rfl⟩
  | k + 1 => by
    have ih := bfN_ok hv k
    by_cases h : (bfN K n k).X.length < (bfN K n k).L.length
    · have hx : (bfN K n k).X.length = k := by
        rcases ih.run with h1 | h1
        · exact h1
        · omega
      have hr := bfR_ok hv ih.ok (by omega) (mirs K n) (Nat.le_refl _)
      have e := bfN_succ_of h
      rw [hx] at e
      have hge := hr.preL.length_le
      refine ⟨by rw [e]; exact hr.ok, by rw [e]; simp [hx], by rw [e]; simp [hx]; omega, .inl (by rw [e]; simp [hx])⟩
    · rw [show BfN K n (k + 1) ↔ BfN K n (k + 1) from Iff.rfl]
      have e := bfN_stop h
      refine ⟨by rw [e]; exact ⟨ih.ok.elt, ih.ok.nodup, ih.ok.len, fun w hw => by have := ih.ok.short w hw; omega, ih.ok.first⟩, by rw [e]; have := ih.x; omega, by rw [e]; exact ih.xl, .inr (by rw [e]; have := ih.xl; omega)⟩
theorem bfN_mono {K n : Nat} (hv : validB K n = true) (k : Nat) : ∀ d, (bfN K n k).L.length ≤ (bfN K n (k + d)).L.length
  | 0 => Nat.le_refl _
  | d + 1 => by
    refine Nat.le_trans (bfN_mono hv k d) ?_
    have ih := bfN_ok hv (k + d)
    by_cases h : (bfN K n (k + d)).X.length < (bfN K n (k + d)).L.length
    · have hx : (bfN K n (k + d)).X.length = k + d := by
        rcases ih.run with h1 | h1
        · exact h1
        · omega
      have hr := bfR_ok hv ih.ok (by omega) (mirs K n) (Nat.le_refl _)
      have e := bfN_succ_of h
      rw [hx] at e
      rw [show k + (d + 1) = k + d + 1 from rfl, e]
      exact hr.preL.length_le
    · rw [show k + (d + 1) = k + d + 1 from rfl, bfN_stop h]; exact Nat.le_refl _
theorem bfN_stay {K n : Nat} (k : Nat) (h : ¬ (bfN K n k).X.length < (bfN K n k).L.length) : ∀ d, bfN K n (k + d) = bfN K n k
  | 0 => rfl
  | d + 1 => by
    rw [show k + (d + 1) = k + d + 1 from rfl, bfN_stop (by rw [bfN_stay k h d]; exact h), bfN_stay k h d]
theorem bfN_le {K n : Nat} (hv : validB K n = true) {k : Nat} (hk : k ≤ 130) : (bfN K n k).L.length ≤ 120 := by
  have h1 := bfN_mono hv k (130 - k)
  rw [show k + (130 - k) = 130 by omega] at h1
  have h2 := sz_le hv
  unfold szG at h2
  omega
/-- The words and the products. -/
def wordsG (K n : Nat) : List (List Nat) := (bfN K n 130).W
def nextG (K n : Nat) : List (List Nat) := (bfN K n 130).X
theorem bfN_end {K n k : Nat} (hk : k ≤ 130) (h : ¬ (bfN K n k).X.length < (bfN K n k).L.length) : (bfN K n k).W = wordsG K n ∧ (bfN K n k).X = nextG K n := by
  have := bfN_stay k h (130 - k)
  rw [show k + (130 - k) = 130 by omega] at this
  unfold wordsG nextG
  rw [this]
  exact ⟨rfl, rfl⟩
end Go.Proofs.Ytmlhecfhhhebnaa
