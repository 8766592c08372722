/- The reference's listing only grows, and stays where it ends. -/
import Derived.Test.YtmlhecfhhhebnaaRl
namespace Go.Proofs.Ytmlhecfhhhebnaa

theorem rfS_le (K n i s : Nat) (t : Rf) : t.W.length ≤ (rfS K n i s t).W.length ∧ t.P.length ≤ (rfS K n i s t).P.length := by
  simp only [rfS]
  split
  · exact ⟨Nat.le_refl _, Nat.le_refl _⟩
  · simp
theorem rfR_le (K n i : Nat) (t : Rf) : ∀ s, t.W.length ≤ (rfR K n i t s).W.length ∧ t.P.length ≤ (rfR K n i t s).P.length
  | 0 => ⟨Nat.le_refl _, Nat.le_refl _⟩
  | s + 1 => ⟨Nat.le_trans (rfR_le K n i t s).1 (rfS_le K n i s _).1, Nat.le_trans (rfR_le K n i t s).2 (rfS_le K n i s _).2⟩
theorem rfK_le (K n i : Nat) (t : Rf) : t.W.length ≤ (rfK K n i t).W.length ∧ t.P.length ≤ (rfK K n i t).P.length := by
  unfold rfK
  split
  · exact rfR_le K n i t _
  · exact ⟨Nat.le_refl _, Nat.le_refl _⟩
theorem rfN_mono (K n i : Nat) : ∀ d, (rfN K n i).W.length ≤ (rfN K n (i + d)).W.length ∧ (rfN K n i).P.length ≤ (rfN K n (i + d)).P.length
  | 0 => ⟨Nat.le_refl _, Nat.le_refl _⟩
  | d + 1 => ⟨Nat.le_trans (rfN_mono K n i d).1 (rfK_le K n (i + d) _).1, Nat.le_trans (rfN_mono K n i d).2 (rfK_le K n (i + d) _).2⟩
theorem rfN_stay (K n i : Nat) (h : ¬ i < (rfN K n i).W.length) : ∀ d, rfN K n (i + d) = rfN K n i
  | 0 => rfl
  | d + 1 => by
    show rfK K n (i + d) (rfN K n (i + d)) = _
    rw [rfN_stay K n i h d, rfK, if_neg (by omega)]
theorem rfN_end {K n i : Nat} (hi : i ≤ 130) (h : ¬ i < (rfN K n i).W.length) : rfN K n i = rfN K n 130 := by
  obtain ⟨d, e⟩ := Nat.le.dest hi
  rw [← e]
  exact (rfN_stay K n i h d).symm
theorem rfN_le {K n i : Nat} (hv : validB K n = true) (hi : i ≤ 130) : (rfN K n i).W.length ≤ 120 ∧ (rfN K n i).P.length ≤ 120 := by
  have h := rf_of hv
  simp only [rfOk, Bool.and_eq_true, beq_iff_eq, decide_eq_true_eq] at h
  obtain ⟨d, e⟩ := Nat.le.dest hi
  have hm := rfN_mono K n i d
  rw [e] at hm
  omega
theorem rfS_pre (K n i s : Nat) (t : Rf) : t.W <+: (rfS K n i s t).W ∧ t.P <+: (rfS K n i s t).P := by
  simp only [rfS]
  split
  · exact ⟨List.prefix_refl _, List.prefix_refl _⟩
  · exact ⟨List.prefix_append _ _, List.prefix_append _ _⟩
theorem rfR_pre (K n i : Nat) (t : Rf) (s : Nat) : ∀ d, (rfR K n i t s).W <+: (rfR K n i t (s + d)).W ∧ (rfR K n i t s).P <+: (rfR K n i t (s + d)).P
  | 0 => ⟨List.prefix_refl _, List.prefix_refl _⟩
  | d + 1 => ⟨(rfR_pre K n i t s d).1.trans (rfS_pre K n i (s + d) _).1, (rfR_pre K n i t s d).2.trans (rfS_pre K n i (s + d) _).2⟩
theorem rfN_pre (K n i : Nat) : ∀ d, (rfN K n i).W <+: (rfN K n (i + d)).W ∧ (rfN K n i).P <+: (rfN K n (i + d)).P
  | 0 => ⟨List.prefix_refl _, List.prefix_refl _⟩
  | d + 1 => by
    obtain ⟨a, b⟩ := rfN_pre K n i d
    have : (rfN K n (i + d)).W <+: (rfK K n (i + d) (rfN K n (i + d))).W ∧ (rfN K n (i + d)).P <+: (rfK K n (i + d) (rfN K n (i + d))).P := by
      unfold rfK
      split
      · have := rfR_pre K n (i + d) (rfN K n (i + d)) 0 (mirs K n)
        rw [Nat.zero_add] at this
        exact this
      · exact ⟨List.prefix_refl _, List.prefix_refl _⟩
    exact ⟨a.trans this.1, b.trans this.2⟩
/-- In the inner loop of round i, s rounds on: both lists are prefixes of the finished table's. -/
theorem rfR_in {K n i s : Nat} (hi : i < 130) (h : i < (rfN K n i).W.length) (hs : s ≤ mirs K n) : (rfR K n i (rfN K n i) s).W <+: (rfN K n 130).W ∧ (rfR K n i (rfN K n i) s).P <+: (rfN K n 130).P := by
  obtain ⟨d, e⟩ := Nat.le.dest hs
  have h1 := rfR_pre K n i (rfN K n i) s d
  rw [e] at h1
  have h2 : rfN K n (i + 1) = rfR K n i (rfN K n i) (mirs K n) := by
    show rfK K n i (rfN K n i) = _
    rw [rfK, if_pos h]
  obtain ⟨d', e'⟩ := Nat.le.dest (show i + 1 ≤ 130 by omega)
  have h3 := rfN_pre K n (i + 1) d'
  rw [e', h2] at h3
  exact ⟨h1.1.trans h3.1, h1.2.trans h3.2⟩
end Go.Proofs.Ytmlhecfhhhebnaa
