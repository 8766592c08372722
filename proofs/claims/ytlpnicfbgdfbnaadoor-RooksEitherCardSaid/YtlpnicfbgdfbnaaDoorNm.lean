/- The rook numbers as rooks.numbers reckons them: plain lists. -/
import Derived.Test.YtlpnicfbgdfbnaaDoorPl
namespace Go.Proofs.YtlpnicfbgdfbnaaDoor

theorem getD_at {l : List Nat} {i : Nat} (h : i < l.length) : l.getD i 0 = l[i] := by simp [List.getD, List.getElem?_eq_getElem h]
theorem getD_out {l : List Nat} {i : Nat} (h : l.length ≤ i) : l.getD i 0 = 0 := by simp [List.getD, List.getElem?_eq_none h]

/-- One list added to another, from the front. -/
def addZ : List Nat → List Nat → List Nat
  | [], _ => []
  | o :: os, [] => o :: os
  | o :: os, z :: zs => (o + z) :: addZ os zs
/-- The same, one place further. -/
def addSh : List Nat → List Nat → List Nat
  | [], _ => []
  | o :: os, zs => o :: addZ os zs

theorem addZ_nil (os : List Nat) : addZ os [] = os := by cases os <;> rfl
theorem addSh_nil (os : List Nat) : addSh os [] = os := by cases os <;> simp [addSh, addZ_nil]
theorem addZ_length : ∀ os zs : List Nat, (addZ os zs).length = os.length
  | [], _ => rfl
  | _ :: _, [] => rfl
  | o :: os, z :: zs => by simp [addZ, addZ_length os zs]
theorem addSh_length (os zs : List Nat) : (addSh os zs).length = os.length := by cases os <;> simp [addSh, addZ_length]

theorem addZ_getD : ∀ (os zs : List Nat) (i : Nat), i < os.length → (addZ os zs).getD i 0 = os.getD i 0 + zs.getD i 0
  | [], _, i, h => by simp at h
  | o :: os, [], i, h => by simp [addZ]
  | o :: os, z :: zs, 0, h => by simp [addZ]
  | o :: os, z :: zs, i + 1, h => by
    have := addZ_getD os zs i (by simpa using h)
    simpa [addZ] using this
theorem addSh_getD_zero (os zs : List Nat) : (addSh os zs).getD 0 0 = os.getD 0 0 := by cases os <;> rfl
theorem addSh_getD_succ (os zs : List Nat) (i : Nat) (h : i + 1 < os.length) : (addSh os zs).getD (i + 1) 0 = os.getD (i + 1) 0 + zs.getD i 0 := by
  cases os with
  | nil => simp at h
  | cons o os =>
    have := addZ_getD os zs i (by simpa using h)
    simpa [addSh] using this

theorem getD_ext {a b : List Nat} (hl : a.length = b.length) (h : ∀ i, i < a.length → a.getD i 0 = b.getD i 0) : a = b := by
  refine List.ext_getElem hl fun i h1 h2 => ?_
  have := h i h1
  rwa [getD_at h1, getD_at h2] at this

theorem addSh_take_succ (os zs : List Nat) (k : Nat) (hk : k < zs.length) (h : k + 1 < os.length) :
    addSh os (zs.take (k + 1)) = (addSh os (zs.take k)).set (k + 1) ((addSh os (zs.take k)).getD (k + 1) 0 + zs[k]) := by
  refine getD_ext (by simp [addSh_length]) fun i hi => ?_
  rw [addSh_length] at hi
  have hd (n : Nat) (j : Nat) : (zs.take n).getD j 0 = if j < n then zs.getD j 0 else 0 := by
    simp only [List.getD, List.getElem?_take]
    split <;> rfl
  have hset : ∀ (l : List Nat) (v : Nat), i < l.length → (l.set (k + 1) v).getD i 0 = if k + 1 = i then v else l.getD i 0 := by
    intro l v hl
    simp only [List.getD, List.getElem?_set]
    split
    · rename_i he; subst he; simp [hl]
    · rfl
  rw [hset _ _ (by rw [addSh_length]; exact hi)]
  cases i with
  | zero => rw [if_neg (by omega), addSh_getD_zero, addSh_getD_zero]
  | succ i =>
    by_cases hik : k = i
    · subst hik
      rw [if_pos rfl, addSh_getD_succ _ _ k h, addSh_getD_succ _ _ k h, hd, hd, if_pos (by omega), if_neg (by omega), getD_at hk]
      omega
    · rw [if_neg (by omega), addSh_getD_succ _ _ i hi, addSh_getD_succ _ _ i hi, hd, hd]
      by_cases h1 : i < k
      · rw [if_pos (by omega), if_pos h1]
      · rw [if_neg (by omega), if_neg h1]

theorem le_addSh (os zs : List Nat) (i : Nat) : os.getD i 0 ≤ (addSh os zs).getD i 0 := by
  by_cases h : i < os.length
  · cases i with
    | zero => rw [addSh_getD_zero]; exact Nat.le_refl _
    | succ i => rw [addSh_getD_succ _ _ _ h]; omega
  · rw [getD_out (by omega)]; omega
theorem addSh_take_le (os zs : List Nat) (k i : Nat) : (addSh os (zs.take k)).getD i 0 ≤ (addSh os zs).getD i 0 := by
  by_cases h : i < os.length
  · cases i with
    | zero => rw [addSh_getD_zero, addSh_getD_zero]; exact Nat.le_refl _
    | succ i =>
      rw [addSh_getD_succ _ _ _ h, addSh_getD_succ _ _ _ h]
      have : (zs.take k).getD i 0 ≤ zs.getD i 0 := by
        simp only [List.getD, List.getElem?_take]
        split
        · exact Nat.le_refl _
        · simp
      omega
  · rw [getD_out (by rw [addSh_length]; omega)]; omega

theorem foldl_addSh_length {α : Type} (f : α → List Nat) : ∀ (l : List α) (cur : List Nat), (l.foldl (fun out j => addSh out (f j)) cur).length = cur.length
  | [], _ => rfl
  | x :: l, cur => by rw [List.foldl_cons, foldl_addSh_length f l, addSh_length]
theorem le_foldl_addSh {α : Type} (f : α → List Nat) (i : Nat) : ∀ (l : List α) (cur : List Nat), cur.getD i 0 ≤ (l.foldl (fun out j => addSh out (f j)) cur).getD i 0
  | [], _ => Nat.le_refl _
  | x :: l, cur => Nat.le_trans (le_addSh cur (f x) i) (by rw [List.foldl_cons]; exact le_foldl_addSh f i l _)

/-- The columns of r that are not used. -/
def diffS (r u : Nat) : Nat := r ^^^ (r &&& u)
/-- The elements of a set of numbers below 8, rising. -/
def elems (s : Nat) : List Nat := (List.range 8).filter (s.testBit ·)
theorem elems_zero : elems 0 = [] := by decide
theorem elems_lt {s j : Nat} (h : j ∈ elems s) : j < 8 := by
  unfold elems at h; simp at h; exact h.1

/-- The rook numbers of some rows where some columns are used. -/
def numL : List Nat → Nat → List Nat
  | [], _ => [1]
  | r :: rs, used => (elems (diffS r used)).foldl (fun out j => addSh out (numL rs (used ||| 2 ^ j))) (numL rs used ++ [0])

theorem numL_length : ∀ (rs : List Nat) (used : Nat), (numL rs used).length = rs.length + 1
  | [], _ => rfl
  | r :: rs, used => by rw [numL, foldl_addSh_length]; simp [numL_length rs used]

theorem elems_length (s : Nat) : (elems s).length ≤ 8 := Nat.le_trans (List.length_filter_le _ _) (by simp)

theorem foldl_addSh_le {α : Type} (f : α → List Nat) (M : Nat) (hf : ∀ x i, (f x).getD i 0 ≤ M) (i : Nat) : ∀ (l : List α) (cur : List Nat),
    (l.foldl (fun out j => addSh out (f j)) cur).getD i 0 ≤ cur.getD i 0 + l.length * M
  | [], cur => by simp
  | x :: l, cur => by
    rw [List.foldl_cons]
    refine Nat.le_trans (foldl_addSh_le f M hf i l _) ?_
    have h1 : (addSh cur (f x)).getD i 0 ≤ cur.getD i 0 + M := by
      by_cases h : i < cur.length
      · cases i with
        | zero => rw [addSh_getD_zero]; omega
        | succ i => rw [addSh_getD_succ _ _ _ h]; have := hf x i; omega
      · rw [getD_out (by rw [addSh_length]; omega)]; omega
    rw [List.length_cons, Nat.succ_mul]
    omega

theorem numL_le : ∀ (rs : List Nat) (used i : Nat), (numL rs used).getD i 0 ≤ 9 ^ rs.length
  | [], used, i => by
    cases i <;> simp [numL]
  | r :: rs, used, i => by
    rw [numL]
    refine Nat.le_trans (foldl_addSh_le _ (9 ^ rs.length) (fun j i => numL_le rs _ i) i _ _) ?_
    have h1 : (numL rs used ++ [0]).getD i 0 ≤ 9 ^ rs.length := by
      by_cases h : i < (numL rs used).length
      · have : (numL rs used ++ [0]).getD i 0 = (numL rs used).getD i 0 := by
          simp only [List.getD]; rw [List.getElem?_append_left h]
        rw [this]; exact numL_le rs used i
      · have : (numL rs used ++ [0]).getD i 0 = 0 := by
          simp only [List.getD]
          rw [List.getElem?_append_right (by omega)]
          cases hh : i - (numL rs used).length <;> simp
        rw [this]; exact Nat.zero_le _
    have h2 := elems_length (diffS r used)
    have h3 : (elems (diffS r used)).length * 9 ^ rs.length ≤ 8 * 9 ^ rs.length := Nat.mul_le_mul_right _ h2
    rw [List.length_cons, Nat.pow_succ]
    omega

theorem numL_lt (rs : List Nat) (used i : Nat) (h : rs.length ≤ 6) : (numL rs used).getD i 0 ≤ 531441 :=
  Nat.le_trans (numL_le rs used i) (Nat.pow_le_pow_right (by decide) h)

end Go.Proofs.YtlpnicfbgdfbnaaDoor
