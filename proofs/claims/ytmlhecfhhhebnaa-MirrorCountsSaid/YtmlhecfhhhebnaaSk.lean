/- MirrorCounts, plain: the documented product, and how the law reckons it. No Go in sight. -/
import Derived.Test.YtmlhecfhhhebnaaN1
namespace Go.Proofs.Ytmlhecfhhhebnaa

def topsN (K n : Nat) : List Nat := if K = 65 then (List.range n).map (fun k => k + 1) else if K = 66 then (List.range n).map (fun k => 2 * k + 1) else [1, n - 1]
def nxJ (x i : Nat) (l : List Nat) : Nat → List Nat
  | 0 => l
  | j + 1 => (nxJ x i l j).modify (i + j) (fun c => c + x)
def nxI (want : List Nat) (k : Nat) : Nat → List Nat
  | 0 => List.replicate (want.length + k) 0
  | i + 1 => nxJ (want.getD i 0) i (nxI want k i) (k + 1)
def wantTo (T : List Nat) : Nat → List Nat
  | 0 => [1]
  | t + 1 => nxI (wantTo T t) (T.getD t 0) (wantTo T t).length
theorem nxJ_len (x i : Nat) (l : List Nat) : ∀ j, (nxJ x i l j).length = l.length
  | 0 => rfl
  | j + 1 => by rw [nxJ, List.length_modify, nxJ_len x i l j]
theorem nxI_len (want : List Nat) (k : Nat) : ∀ i, (nxI want k i).length = want.length + k
  | 0 => by simp [nxI]
  | i + 1 => by rw [nxI, nxJ_len, nxI_len want k i]
def polB (T : List Nat) : Bool := decide (T.length ≤ 12) && (List.range T.length).all fun t => decide ((wantTo T t).length ≤ 40) && decide (T.getD t 0 ≤ 12) && (List.range (wantTo T t).length).all fun i => decide ((wantTo T t).getD i 0 ≤ 1000) && (List.range (T.getD t 0 + 1)).all fun j => (nxJ ((wantTo T t).getD i 0) i (nxI (wantTo T t) (T.getD t 0) i) j).all fun c => decide (c ≤ 1000)
theorem pol_all : (allGroups.all fun g => polB (topsN g.1 g.2) && wantTo (topsN g.1 g.2) (topsN g.1 g.2).length == cntTo (litW g.1 g.2) (litW g.1 g.2).length && (cntTo (litW g.1 g.2) (litW g.1 g.2).length).reverse == cntTo (litW g.1 g.2) (litW g.1 g.2).length) = true := by decide +kernel
theorem polG {K n : Nat} (hv : validB K n = true) : polB (topsN K n) = true ∧ wantTo (topsN K n) (topsN K n).length = cntTo (wordsG K n) (wordsG K n).length ∧ (cntTo (wordsG K n) (wordsG K n).length).reverse = cntTo (wordsG K n) (wordsG K n).length := by
  rw [(lit_of hv).1]
  have := List.all_eq_true.1 pol_all _ (valid_in hv)
  simp only [Bool.and_eq_true, beq_iff_eq] at this
  exact ⟨this.1.1, this.1.2, this.2⟩
structure PolAt (T : List Nat) (t : Nat) : Prop where
  l40 : (wantTo T t).length ≤ 40
  k12 : T.getD t 0 ≤ 12
  x : ∀ i, i < (wantTo T t).length → (wantTo T t).getD i 0 ≤ 1000
  c : ∀ i, i < (wantTo T t).length → ∀ j, j < T.getD t 0 + 1 → ∀ c ∈ nxJ ((wantTo T t).getD i 0) i (nxI (wantTo T t) (T.getD t 0) i) j, c ≤ 1000
theorem pol_at {T : List Nat} (h : polB T = true) {t : Nat} (ht : t < T.length) : PolAt T t := by
  unfold polB at h
  simp only [Bool.and_eq_true, List.all_eq_true, List.mem_range, decide_eq_true_eq] at h
  obtain ⟨⟨h1, h2⟩, h3⟩ := h.2 t ht
  exact ⟨h1, h2, fun i hi => (h3 i hi).1, fun i hi j hj c hc => (h3 i hi).2 j hj c hc⟩
theorem pol_len {T : List Nat} (h : polB T = true) : T.length ≤ 12 := by
  unfold polB at h
  simp only [Bool.and_eq_true, decide_eq_true_eq] at h
  exact h.1
theorem modify_setX (x : Nat) : ∀ (o : List Nat) (l : Nat) (h : l < o.length), o.modify l (fun c => c + x) = o.set l (o[l] + x)
  | [], _, h => by simp at h
  | _ :: _, 0, _ => rfl
  | y :: o, l + 1, h => by
    have := modify_setX x o l (by simpa using h)
    show y :: o.modify l (fun c => c + x) = y :: o.set l (o[l]'(by simpa using h) + x)
    rw [this]
theorem cnt_pos {K n : Nat} (hv : validB K n = true) : 1 ≤ (cntTo (wordsG K n) (wordsG K n).length).length := by
  rw [(cntG hv).2.2, rcn_len _ _ (Nat.le_refl _)]; omega
end Go.Proofs.Ytmlhecfhhhebnaa
