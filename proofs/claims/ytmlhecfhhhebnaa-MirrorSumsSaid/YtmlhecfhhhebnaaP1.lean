/- Py, Qa, Qb, Pz, Qc, Qg, Qd, Qe, Qf, Qh of the seat's texts, in this order. -/
import Derived.Test.YtmlhecfhhhebnaaPu
import Derived.Laws.BitsLemmas
import Derived.Test.YtmlhecfhhhebnaaSl
import Derived.Laws.CopyOwn
import Derived.Test.YtmlhecfhhhebnaaN1
import Derived.Test.YtmlhecfhhhebnaaPp
import Derived.Test.YtmlhecfhhhebnaaMap
import Derived.Test.YtmlhecfhhhebnaaN2
import Derived.Deep.RegionLaw
import Derived.Deep.RegionWith

/- Polynomials, plain: coefficients, sums, products. No Go in sight. -/
namespace Go.Proofs.Ytmlhecfhhhebnaa

/-- A sum as a machine makes it. -/
def w64 (x : Int) : Int := (x + 9223372036854775808) % 18446744073709551616 - 9223372036854775808
theorem wrap_w64 (x : Int) : IntKind.i64.wrap x = w64 x := IntKind.wrap_i64 x
theorem w64_add (a b : Int) : w64 (w64 a + b) = w64 (a + b) := by unfold w64; omega
theorem w64_add' (a b : Int) : w64 (a + w64 b) = w64 (a + b) := by unfold w64; omega
theorem w64_idem (a : Int) : w64 (w64 a) = w64 a := by unfold w64; omega
theorem w64_range (a : Int) : -9223372036854775808 ≤ w64 a ∧ w64 a ≤ 9223372036854775807 := by unfold w64; omega
theorem w64_in {a : Int} (h : -9223372036854775808 ≤ a) (h' : a ≤ 9223372036854775807) : w64 a = a := by unfold w64; omega
/-- Without 0s at the end. -/
def trimL : List Int → List Int
  | [] => []
  | x :: xs => match trimL xs with
    | [] => if x = 0 then [] else [x]
    | y :: ys => x :: y :: ys
theorem trimL_cons (x : Int) (xs : List Int) : trimL (x :: xs) = if trimL xs = [] ∧ x = 0 then [] else x :: trimL xs := by
  rw [trimL]
  cases h : trimL xs with
  | nil => by_cases hx : x = 0 <;> simp [hx]
  | cons y ys => simp
theorem trimL_get : ∀ (l : List Int) (i : Nat), (trimL l).getD i 0 = l.getD i 0
  | [], _ => rfl
  | x :: xs, i => by
    rw [trimL_cons]
    by_cases h : trimL xs = [] ∧ x = 0
    · rw [if_pos h]
      cases i with
      | zero => simp [h.2]
      | succ i =>
        have := trimL_get xs i
        rw [h.1] at this
        simpa using this
    · rw [if_neg h]
      cases i with
      | zero => rfl
      | succ i => simpa using trimL_get xs i
theorem trimL_zero : ∀ {l : List Int}, (∀ i, l.getD i 0 = 0) → trimL l = []
  | [], _ => rfl
  | x :: xs, h => by
    rw [trimL_cons, if_pos]
    exact ⟨trimL_zero fun i => by simpa using h (i + 1), by simpa using h 0⟩
theorem trim_ext : ∀ {a b : List Int}, (∀ i, a.getD i 0 = b.getD i 0) → trimL a = trimL b
  | [], b, h => (trimL_zero fun i => (h i).symm).symm
  | x :: xs, [], h => trimL_zero h
  | x :: xs, y :: ys, h => by
    have h0 : x = y := by simpa using h 0
    have h1 : trimL xs = trimL ys := trim_ext fun i => by simpa using h (i + 1)
    rw [trimL_cons, trimL_cons, h0, h1]
theorem trimL_trim (l : List Int) : trimL (trimL l) = trimL l := trim_ext (trimL_get l)
theorem trimL_len : ∀ l : List Int, (trimL l).length ≤ l.length
  | [] => Nat.le_refl _
  | x :: xs => by
    rw [trimL_cons]
    split
    · simp
    · simpa using trimL_len xs
theorem trimL_mem {l : List Int} {x : Int} : x ∈ trimL l → x ∈ l := by
  induction l with
  | nil => exact id
  | cons y ys ih =>
    rw [trimL_cons]
    split
    · intro h; cases h
    · intro h
      rcases List.mem_cons.1 h with rfl | h
      · exact List.mem_cons_self
      · exact List.mem_cons_of_mem _ (ih h)
theorem trimL_snoc0 (l : List Int) : trimL (l ++ [0]) = trimL l := trim_ext fun i => by
  by_cases h : i < l.length
  · rw [List.getD_eq_getElem?_getD, List.getElem?_append_left h, ← List.getD_eq_getElem?_getD]
  · rw [List.getD_eq_getElem?_getD, List.getD_eq_getElem?_getD, List.getElem?_append_right (by omega), List.getElem?_eq_none (show l.length ≤ i by omega)]
    cases hd : i - l.length with
    | zero => rfl
    | succ j => rfl
theorem trimL_zeros (l : List Int) : ∀ m, trimL (l ++ List.replicate m 0) = trimL l
  | 0 => by simp
  | m + 1 => by rw [List.replicate_succ', ← List.append_assoc, trimL_snoc0, trimL_zeros l m]
theorem trimL_snoc {x : Int} (hx : x ≠ 0) : ∀ l : List Int, trimL (l ++ [x]) = l ++ [x]
  | [] => by simp [trimL, hx]
  | y :: ys => by
    rw [List.cons_append, trimL_cons, trimL_snoc hx ys, if_neg]
    rintro ⟨h, _⟩
    simp at h
/-- The step of a loop that takes 0s off the end. -/
theorem trimL_step {l : List Int} {k : Nat} (hk : k + 1 ≤ l.length) (h0 : l.getD k 0 = 0) (h : trimL (l.take (k + 1)) = trimL l) : trimL (l.take k) = trimL l := by
  rw [← h, List.take_succ_eq_append_getElem (by omega)]
  have : l[k] = 0 := by
    rw [List.getD_eq_getElem?_getD, List.getElem?_eq_getElem (by omega)] at h0
    exact h0
  rw [this, trimL_snoc0]
theorem trimL_end {l : List Int} {k : Nat} (hk : k + 1 ≤ l.length) (h0 : l.getD k 0 ≠ 0) (h : trimL (l.take (k + 1)) = trimL l) : trimL l = l.take (k + 1) := by
  rw [← h, List.take_succ_eq_append_getElem (by omega)]
  refine trimL_snoc ?_ _
  rw [List.getD_eq_getElem?_getD, List.getElem?_eq_getElem (by omega)] at h0
  exact h0

/-- A polynomial with another one added a number of times, from some power on. -/
def addAt (k : Int) : List Int → List Int → List Int
  | o, [] => o
  | [], x :: xs => w64 (0 + w64 (k * x)) :: addAt k [] xs
  | o :: os, x :: xs => w64 (o + w64 (k * x)) :: addAt k os xs
def shiftAdd (k : Int) : Nat → List Int → List Int → List Int
  | _, f, [] => f
  | 0, f, x :: xs => addAt k f (x :: xs)
  | n + 1, [], x :: xs => 0 :: shiftAdd k n [] (x :: xs)
  | n + 1, y :: ys, x :: xs => y :: shiftAdd k n ys (x :: xs)
def plusL (f : List Int) (k : Int) (n : Nat) (g : List Int) : List Int := trimL (shiftAdd k n f g)
theorem addAt_len (k : Int) : ∀ (f g : List Int), (addAt k f g).length = max f.length g.length
  | o, [] => by simp [addAt]
  | [], x :: xs => by simp [addAt, addAt_len k [] xs]
  | o :: os, x :: xs => by simp [addAt, addAt_len k os xs]
theorem addAt_get (k : Int) : ∀ (f g : List Int) (j : Nat), (addAt k f g).getD j 0 = if j < g.length then w64 (f.getD j 0 + w64 (k * g.getD j 0)) else f.getD j 0
  | o, [], j => by simp [addAt]
  | [], x :: xs, 0 => by simp [addAt]
  | [], x :: xs, j + 1 => by
    have := addAt_get k [] xs j
    simpa [addAt] using this
  | o :: os, x :: xs, 0 => by simp [addAt]
  | o :: os, x :: xs, j + 1 => by
    have := addAt_get k os xs j
    simpa [addAt] using this
theorem shiftAdd_len (k : Int) : ∀ (n : Nat) (f g : List Int), (shiftAdd k n f g).length = if g.length = 0 then f.length else max f.length (n + g.length)
  | _, f, [] => by simp [shiftAdd]
  | 0, f, x :: xs => by rw [shiftAdd, addAt_len]; simp
  | n + 1, [], x :: xs => by
    rw [shiftAdd, List.length_cons, shiftAdd_len k n [] (x :: xs)]
    simp; omega
  | n + 1, y :: ys, x :: xs => by
    rw [shiftAdd, List.length_cons, shiftAdd_len k n ys (x :: xs)]
    simp; omega
theorem shiftAdd_get (k : Int) : ∀ (n : Nat) (f g : List Int) (j : Nat), (shiftAdd k n f g).getD j 0 = if n ≤ j ∧ j - n < g.length then w64 (f.getD j 0 + w64 (k * g.getD (j - n) 0)) else f.getD j 0
  | _, f, [], j => by simp [shiftAdd]
  | 0, f, x :: xs, j => by rw [shiftAdd, addAt_get]; simp
  | n + 1, [], x :: xs, 0 => by simp [shiftAdd]
  | n + 1, [], x :: xs, j + 1 => by
    have := shiftAdd_get k n [] (x :: xs) j
    rw [shiftAdd, List.getD_cons_succ, this, Nat.add_sub_add_right]
    simp
  | n + 1, y :: ys, x :: xs, 0 => by simp [shiftAdd]
  | n + 1, y :: ys, x :: xs, j + 1 => by
    have := shiftAdd_get k n ys (x :: xs) j
    rw [shiftAdd, List.getD_cons_succ, this, Nat.add_sub_add_right]
    simp
theorem plusL_get (f : List Int) (k : Int) (n : Nat) (g : List Int) (j : Nat) : (plusL f k n g).getD j 0 = if n ≤ j ∧ j - n < g.length then w64 (f.getD j 0 + w64 (k * g.getD (j - n) 0)) else f.getD j 0 := by
  rw [plusL, trimL_get, shiftAdd_get]
def InR (l : List Int) : Prop := ∀ i, -9223372036854775808 ≤ l.getD i 0 ∧ l.getD i 0 ≤ 9223372036854775807
theorem InR.nil : InR [] := fun i => by simp
theorem plusL_in {f : List Int} (h : InR f) (k : Int) (n : Nat) (g : List Int) : InR (plusL f k n g) := fun j => by
  rw [plusL_get]
  split
  · exact w64_range _
  · exact h j
theorem plusL_getW {f : List Int} (h : InR f) (k : Int) (n : Nat) (g : List Int) (j : Nat) : (plusL f k n g).getD j 0 = w64 (f.getD j 0 + k * (if n ≤ j then g.getD (j - n) 0 else 0)) := by
  rw [plusL_get]
  split
  · rename_i hc
    rw [if_pos hc.1, w64_add']
  · rename_i hc
    have : (if n ≤ j then g.getD (j - n) 0 else 0) = 0 := by
      split
      · rw [List.getD_eq_getElem?_getD, List.getElem?_eq_none (by omega)]; rfl
      · rfl
    rw [this, Int.mul_zero, Int.add_zero, w64_in (h j).1 (h j).2]
theorem plusL_trim (f : List Int) (k : Int) (n : Nat) (g : List Int) : trimL (plusL f k n g) = plusL f k n g := trimL_trim _
theorem eq_trim {a b : List Int} (ha : trimL a = a) (hb : trimL b = b) (h : ∀ i, a.getD i 0 = b.getD i 0) : a = b := by rw [← ha, ← hb]; exact trim_ext h
/-- The sum's last steps in either order. -/
theorem plus_swap (g : List Int) (k l : Int) (n m : Nat) : plusL (plusL [] k n g) l m g = plusL (plusL [] l m g) k n g := by
  refine eq_trim (plusL_trim _ _ _ _) (plusL_trim _ _ _ _) fun j => ?_
  rw [plusL_getW (plusL_in InR.nil _ _ _), plusL_getW InR.nil, plusL_getW (plusL_in InR.nil _ _ _), plusL_getW InR.nil, w64_add, w64_add]
  congr 1
  simp only [List.getD_nil]
  omega
def timesTo (f g : List Int) : Nat → List Int
  | 0 => []
  | k + 1 => plusL (timesTo f g k) (f.getD k 0) k g
def timesL (f g : List Int) : List Int := timesTo f g f.length
def accTo (f g s : List Int) : Nat → List Int
  | 0 => s
  | k + 1 => plusL (accTo f g s k) (f.getD k 0) k g
theorem timesTo_in (f g : List Int) : ∀ k, InR (timesTo f g k)
  | 0 => InR.nil
  | k + 1 => plusL_in (timesTo_in f g k) _ _ _
theorem accTo_in (f g : List Int) {s : List Int} (h : InR s) : ∀ k, InR (accTo f g s k)
  | 0 => h
  | k + 1 => plusL_in (accTo_in f g h k) _ _ _
theorem accTo_trim (f g : List Int) {s : List Int} (h : trimL s = s) : ∀ k, trimL (accTo f g s k) = accTo f g s k
  | 0 => h
  | _ + 1 => plusL_trim _ _ _ _
theorem accTo_get (f g : List Int) {s : List Int} (h : InR s) (j : Nat) : ∀ k, (accTo f g s k).getD j 0 = w64 (s.getD j 0 + (timesTo f g k).getD j 0)
  | 0 => by rw [accTo, timesTo, List.getD_nil, Int.add_zero, w64_in (h j).1 (h j).2]
  | k + 1 => by
    rw [accTo, timesTo, plusL_getW (accTo_in f g h k), plusL_getW (timesTo_in f g k), accTo_get f g h j k, w64_add, w64_add', Int.add_assoc]
/-- A product added, or its parts one after the other. -/
theorem acc_times (f g : List Int) {s : List Int} (h : InR s) (ht : trimL s = s) : accTo f g s f.length = plusL s 1 0 (timesL f g) := by
  refine eq_trim (accTo_trim f g ht _) (plusL_trim _ _ _ _) fun j => ?_
  rw [accTo_get f g h j, plusL_getW h, timesL]
  simp
/-- The lower part of a sum, with the sign turned. -/
def lowTo (s : List Int) : Nat → List Int
  | 0 => []
  | i + 1 => plusL (lowTo s i) (w64 (-(s.getD i 0))) i [1]
theorem lowTo_in (s : List Int) : ∀ k, InR (lowTo s k)
  | 0 => InR.nil
  | _ + 1 => plusL_in (lowTo_in s _) _ _ _
theorem lowTo_trim (s : List Int) : ∀ k, trimL (lowTo s k) = lowTo s k
  | 0 => rfl
  | _ + 1 => plusL_trim _ _ _ _
theorem one_get (d : Nat) : ([1] : List Int).getD d 0 = if d = 0 then 1 else 0 := by
  cases d <;> simp
theorem lowTo_get (s : List Int) (j : Nat) : ∀ k, (lowTo s k).getD j 0 = if j < k then w64 (-(s.getD j 0)) else 0
  | 0 => by simp [lowTo]
  | k + 1 => by
    rw [lowTo, plusL_getW (lowTo_in s k), lowTo_get s j k, one_get]
    by_cases h1 : j < k
    · rw [if_pos h1, if_pos (show j < k + 1 by omega), if_neg (show ¬ k ≤ j by omega), Int.mul_zero, Int.add_zero, w64_idem]
    · rw [if_neg h1]
      by_cases h2 : j = k
      · subst h2
        simp [w64_idem]
      · rw [if_neg (show ¬ j < k + 1 by omega), if_pos (show k ≤ j by omega), if_neg (show ¬ j - k = 0 by omega), Int.mul_zero]
        rfl
theorem low_ref (s : List Int) (k : Nat) (hk : k ≤ s.length) : plusL [] (-1) 0 (trimL (s.take k)) = lowTo s k := by
  refine eq_trim (plusL_trim _ _ _ _) (lowTo_trim _ _) fun j => ?_
  rw [plusL_getW InR.nil, lowTo_get, if_pos (Nat.zero_le _), trimL_get, List.getD_nil, Int.zero_add, Nat.sub_zero]
  by_cases h : j < k
  · rw [if_pos h, List.getD_eq_getElem?_getD, List.getElem?_take_of_lt h, ← List.getD_eq_getElem?_getD]
    congr 1
    omega
  · rw [if_neg h, List.getD_eq_getElem?_getD, List.getElem?_eq_none (by simp; omega)]
    rfl
/-- A loop's step of plus: the place is made, then the coefficient added. -/
theorem shiftAdd_nil (k : Int) (n : Nat) (f : List Int) : shiftAdd k n f [] = f := by cases n <;> simp [shiftAdd]
theorem getD_ext {a b : List Int} (hl : a.length = b.length) (h : ∀ i, a.getD i 0 = b.getD i 0) : a = b := by
  apply List.ext_getElem hl
  intro i h1 h2
  have := h i
  rw [List.getD_eq_getElem?_getD, List.getD_eq_getElem?_getD, List.getElem?_eq_getElem h1, List.getElem?_eq_getElem h2] at this
  exact this
theorem getD_app_zeros (l : List Int) (m j : Nat) : (l ++ List.replicate m 0).getD j 0 = l.getD j 0 := by
  by_cases h : j < l.length
  · rw [List.getD_eq_getElem?_getD, List.getElem?_append_left h, ← List.getD_eq_getElem?_getD]
  · rw [List.getD_eq_getElem?_getD, List.getElem?_append_right (by omega), List.getD_eq_getElem?_getD, List.getElem?_eq_none (show l.length ≤ j by omega), List.getElem?_replicate]
    split <;> rfl
theorem getD_set (l : List Int) (i j : Nat) (x : Int) (hi : i < l.length) : (l.set i x).getD j 0 = if i = j then x else l.getD j 0 := by
  rw [List.getD_eq_getElem?_getD, List.getElem?_set]
  split
  · rename_i h
    subst h
    simp
  · rw [← List.getD_eq_getElem?_getD]
theorem getD_takeI (l : List Int) (k j : Nat) : (l.take k).getD j 0 = if j < k then l.getD j 0 else 0 := by
  rw [List.getD_eq_getElem?_getD, List.getElem?_take]
  split
  · rw [← List.getD_eq_getElem?_getD]
  · rfl
/-- The row while its place is made. -/
def padTo (m : Nat) (l : List Int) : List Int := l ++ List.replicate (m - l.length) 0
theorem padTo_len (m : Nat) (l : List Int) : (padTo m l).length = max m l.length := by simp [padTo]; omega
theorem padTo_get (m : Nat) (l : List Int) (j : Nat) : (padTo m l).getD j 0 = l.getD j 0 := getD_app_zeros l _ j
theorem padTo_ge {m : Nat} {l : List Int} (h : m ≤ l.length) : padTo m l = l := by simp [padTo, Nat.sub_eq_zero_of_le h]
theorem padTo_trim (m : Nat) (l : List Int) : trimL (padTo m l) = trimL l := trimL_zeros l _
theorem padTo_snoc {m : Nat} {l : List Int} (h : l.length ≤ m) : padTo (m + 1) l = padTo m l ++ [0] := by
  unfold padTo
  rw [Nat.succ_sub h, List.replicate_succ', List.append_assoc]
theorem shift_step {M : Nat} (k : Int) (n : Nat) (f g : List Int) (i : Nat) (hi : i < g.length) (hM : n + i + 1 ≤ M) (hM2 : M = n + i + 1 ∨ (f.length ≤ M ∧ n + g.length ≤ M)) :
    (padTo M (shiftAdd k n f (g.take i))).set (n + i) (w64 ((padTo M (shiftAdd k n f (g.take i))).getD (n + i) 0 + w64 (k * g.getD i 0))) = padTo M (shiftAdd k n f (g.take (i + 1))) := by
  have hlen : (padTo M (shiftAdd k n f (g.take i))).length = (padTo M (shiftAdd k n f (g.take (i + 1)))).length := by
    rw [padTo_len, padTo_len, shiftAdd_len, shiftAdd_len, List.length_take, List.length_take, Nat.min_eq_left (by omega), Nat.min_eq_left (by omega)]
    rcases hM2 with h | ⟨h1, h2⟩
    · split <;> split <;> omega
    · split <;> split <;> omega
  refine getD_ext (by rw [List.length_set]; exact hlen) fun j => ?_
  rw [getD_set _ _ _ _ (by rw [padTo_len]; omega), padTo_get, padTo_get, padTo_get, shiftAdd_get, shiftAdd_get, shiftAdd_get, List.length_take, List.length_take, Nat.min_eq_left (by omega), Nat.min_eq_left (by omega)]
  by_cases e : n + i = j
  · subst e
    rw [if_pos rfl, if_neg (by omega), if_pos (by omega), getD_takeI, if_pos (by omega), show n + i - n = i by omega]
  · rw [if_neg e]
    by_cases h : n ≤ j ∧ j - n < i
    · rw [if_pos h, if_pos (by omega), getD_takeI, getD_takeI, if_pos (by omega), if_pos (by omega)]
    · rw [if_neg h, if_neg (by omega)]
end Go.Proofs.Ytmlhecfhhhebnaa

/- Polynomials: the walks of the small functions (trimmed, Clone, plus, times of the program; trimmed, add of the reference). -/
namespace Go.Proofs.Ytmlhecfhhhebnaa
open Go.RowKit

theorem ret_slice {a b : Value} (h : a = b) : Ending.returned a = .returned b := by rw [h]
/-- The first part of a slice that is only read. -/
theorem fz_take {S : Nat → Prop} {w : World} {a : Option Addr} {n c k : Nat} {xs ys : List Int} (h : Fz S w (.slice a n c) xs) (hk : k ≤ xs.length) (he : xs.take k = ys) : Fz S w (.slice a k c) ys := by
  subst he
  obtain ⟨a', c', e, h1, h2, h3⟩ := h
  obtain ⟨rfl, rfl, rfl⟩ := Value.slice.inj e
  have hl : (xs.take k).length = k := by simp; omega
  refine ⟨a, c, by rw [hl], by omega, by omega, fun hne => ?_⟩
  obtain ⟨b, off, rfl, hS, hlt, hcell⟩ := h3 (by intro h; simp [h] at hne)
  exact ⟨b, off, rfl, hS, hlt, fun i hi => by rw [hcell i (by omega)]; simp⟩
theorem ints_pfx {w : World} {a : Option Addr} {n c k : Nat} {xs ys : List Int} (h : Ints w (.slice a n c) xs) (hk : k ≤ xs.length) (he : xs.take k = ys) : Ints w (.slice a k c) ys := by
  subst he
  obtain ⟨a', c', e, h1, h2, h3⟩ := h
  obtain ⟨rfl, rfl, rfl⟩ := Value.slice.inj e
  have hl : (xs.take k).length = k := by simp; omega
  refine ⟨a, c, by rw [hl], by omega, by omega, fun hne => ?_⟩
  obtain ⟨b, off, rfl, hlt, hcell⟩ := h3 (by intro h; simp [h] at hne)
  exact ⟨b, off, rfl, hlt, fun i hi => by rw [hcell i (by omega)]; simp⟩
/-- The cell of an index of a slice that is only read. -/
theorem ints_at {w : World} {a : Option Addr} {n c : Nat} {xs : List Int} (h : Ints w (.slice a n c) xs) (h0 : 0 < xs.length) : ∃ b off, a = some ⟨b, off, none⟩ ∧ b < w.heap.size ∧ ∀ i, i < xs.length → w.cell? ⟨b, off + i, none⟩ = some (.int .i64 (xs.getD i 0)) := by
  obtain ⟨a', c', e, h1, h2, h3⟩ := h
  obtain ⟨rfl, _, rfl⟩ := Value.slice.inj e
  obtain ⟨b, off, rfl, hlt, hcell⟩ := h3 (by intro e; rw [e] at h0; simp at h0)
  refine ⟨b, off, rfl, hlt, fun i hi => ?_⟩
  rw [hcell i hi, List.getD_eq_getElem?_getD, List.getElem?_eq_getElem hi]
  rfl
section own
variable {e : TypeId} {B g n cap : Nat} {w : World} {xs : List Int}
theorem OwnI.cellZ (h : OwnI e B w (.slice (some ⟨g, 0, none⟩) n cap) xs) (j : Nat) (hj : j < xs.length) : w.cell? ⟨g, j, none⟩ = some (.int .i64 (xs.getD j 0)) := by
  obtain ⟨a, c, e1⟩ := h.form
  obtain ⟨_, rfl, _⟩ := Value.slice.inj e1
  rw [World.ownsRow.cellAt (w := w) (base := B) (e := e) (size := 1) (g := g) (cap := cap) h j (by omega), List.getD_eq_getElem?_getD]
  simp [List.getElem?_eq_getElem hj]
theorem OwnI.putZ (h : OwnI e B w (.slice (some ⟨g, 0, none⟩) n cap) xs) (j : Nat) (x : Int) : OwnI e B (w.setCell ⟨g, j, none⟩ (.int .i64 x)) (.slice (some ⟨g, 0, none⟩) n cap) (xs.set j x) := by
  obtain ⟨a, c, e1⟩ := h.form
  obtain ⟨_, rfl, _⟩ := Value.slice.inj e1
  have := World.ownsRow.stored (w := w) (base := B) (e := e) (size := 1) (g := g) (cap := cap) h j (.int .i64 x)
  unfold OwnI
  rw [List.length_set, List.map_set]
  exact this.1
theorem OwnI.rowZ {v : Value} (h : OwnI e B w v xs) (h0 : 0 < xs.length) : ∃ g cap, v = .slice (some ⟨g, 0, none⟩) xs.length cap ∧ B ≤ g ∧ g < w.heap.size := by
  rcases h.2 with ⟨_, hn⟩ | ⟨g, cap, cur, hv, hg, hb, _⟩
  · omega
  · exact ⟨g, cap, hv, hg, (Array.getElem?_eq_some_iff.1 hb).1⟩
theorem OwnI.frozenZ (h : OwnI e B w (.slice (some ⟨g, 0, none⟩) n cap) xs) (j : Nat) : w.frozen? ⟨g, j, none⟩ = false := by
  obtain ⟨a, c, e1⟩ := h.form
  obtain ⟨_, rfl, _⟩ := Value.slice.inj e1
  exact World.ownsRow.frozenAt (w := w) (base := B) (e := e) (size := 1) (g := g) (cap := cap) h j
end own

/-! ### trimmed -/
theorem take_len {xs : List Int} {k : Nat} (hk : k ≤ xs.length) (h : xs.take k = trimL xs) : k = (trimL xs).length := by rw [← h, List.length_take]; omega
/-- What trimmed returns: the beginning of the same row. -/
def TrimOut (a : Option Addr) (c : Nat) (xs : List Int) (w : World) (e : Ending) (w' : World) : Prop := ∃ k, e = .returned (.slice a k c) ∧ xs.take k = trimL xs ∧ k ≤ xs.length ∧ w = w'
set_option maxRecDepth 20000 in
set_option maxHeartbeats 1000000 in
theorem trimP_any (a : Option Addr) (c : Nat) (xs : List Int) (w : World) (hv : Ints w (.slice a xs.length c) xs) :
    Calls Try.prog 102 #[.slice a xs.length c] w (TrimOut a c xs w) := by
  have HV := Lib.hid hv
  obtain ⟨n, hn⟩ : ∃ n, xs.length = n := ⟨_, rfl⟩
  have hn17 := hv.len
  obtain ⟨a', c', e, _, hcl, _⟩ := hv
  obtain ⟨rfl, _, rfl⟩ := Value.slice.inj e
  have HN := Lib.hid hn
  rw [hn] at hn17 hcl ⊢
  clear hn e
  go_enter Try.func102, Try.ntmps102
  go_wp2
  go_loopw [0] (fun t0 wr => ∃ k, t0 = .slice a k c ∧ k ≤ n ∧ trimL (xs.take k) = trimL xs ∧ wr = w) (fun t0 _ => match t0 with | .slice _ k _ => k | _ => 0)
  case atStart => exact ⟨n, rfl, Nat.le_refl _, by rw [List.take_of_length_le (by rw [HN.out]; omega)], rfl⟩
  case round =>
    obtain ⟨k, rfl, hk, ht, rfl⟩ := hrel
    by_cases h0 : k = 0
    · subst h0
      go_wp2
      go_ret
      exact ⟨0, rfl, by rw [← ht]; simp [trimL], Nat.zero_le _, rfl⟩
    · obtain ⟨b, off, rfl, hb, hcell⟩ := ints_at HV.out (by rw [HN.out]; omega)
      have hkc := hcell (k - 1) (by rw [HN.out]; omega)
      obtain ⟨x, hx⟩ : ∃ x, xs.getD (k - 1) 0 = x := ⟨_, rfl⟩
      rw [hx] at hkc
      have HX := Lib.hid hx
      have HT := Lib.hid ht
      have hk1 : ((k - 1 : Nat) : Int) < (k : Int) := by omega
      have hk2 : IntKind.i64.wrap ((k : Int) - 1) = ((k - 1 : Nat) : Int) := by rw [IntWalk.i64_in _ (by omega)]; omega
      have hk3 : (0 : Int) < (k : Int) := by omega
      have hk4 : ((k - 1 : Nat) : Int) ≤ (c : Int) := by omega
      have hk5 : k - 1 ≤ c := by omega
      have HK := Lib.hid (show k - 1 + 1 ≤ xs.length by rw [HN.out]; omega)
      have HKE := Lib.hid (show k - 1 + 1 = k by omega)
      clear hx hcell ht
      by_cases hx0 : x = 0
      · subst hx0
        clear h0
        go_wp2
        go_roundw
        case rel => exact ⟨k - 1, rfl, by omega, trimL_step HK.out HX.out (by rw [HKE.out]; exact HT.out), trivial⟩
        case measure => have := HKE.out; simp; omega
      · have hx1 : (x == 0) = false := by simp [hx0]
        have HE := Lib.hid (show trimL xs = xs.take k by have := trimL_end HK.out (by rw [HX.out]; exact hx0) (by rw [HKE.out]; exact HT.out); rwa [HKE.out] at this)
        clear h0
        go_wp2
        go_ret
        exact ⟨k, rfl, HE.out.symm, by rw [HN.out]; exact hk, rfl⟩
set_option maxRecDepth 20000 in
set_option maxHeartbeats 1000000 in
theorem trimR_any (a : Option Addr) (c : Nat) (xs : List Int) (w : World) (hv : Ints w (.slice a xs.length c) xs) :
    Calls Try.prog 74 #[.slice a xs.length c] w (TrimOut a c xs w) := by
  have HV := Lib.hid hv
  obtain ⟨n, hn⟩ : ∃ n, xs.length = n := ⟨_, rfl⟩
  have hn17 := hv.len
  obtain ⟨a', c', e, _, hcl, _⟩ := hv
  obtain ⟨rfl, _, rfl⟩ := Value.slice.inj e
  have HN := Lib.hid hn
  rw [hn] at hn17 hcl ⊢
  clear hn e
  go_enter Try.func74, Try.ntmps74
  go_wp2
  go_loopw [0] (fun t0 wr => ∃ k, t0 = .slice a k c ∧ k ≤ n ∧ trimL (xs.take k) = trimL xs ∧ wr = w) (fun t0 _ => match t0 with | .slice _ k _ => k | _ => 0)
  case atStart => exact ⟨n, rfl, Nat.le_refl _, by rw [List.take_of_length_le (by rw [HN.out]; omega)], rfl⟩
  case round =>
    obtain ⟨k, rfl, hk, ht, rfl⟩ := hrel
    by_cases h0 : k = 0
    · subst h0
      go_wp2
      go_ret
      exact ⟨0, rfl, by rw [← ht]; simp [trimL], Nat.zero_le _, rfl⟩
    · obtain ⟨b, off, rfl, hb, hcell⟩ := ints_at HV.out (by rw [HN.out]; omega)
      have hkc := hcell (k - 1) (by rw [HN.out]; omega)
      obtain ⟨x, hx⟩ : ∃ x, xs.getD (k - 1) 0 = x := ⟨_, rfl⟩
      rw [hx] at hkc
      have HX := Lib.hid hx
      have HT := Lib.hid ht
      have hk1 : ((k - 1 : Nat) : Int) < (k : Int) := by omega
      have hk2 : IntKind.i64.wrap ((k : Int) - 1) = ((k - 1 : Nat) : Int) := by rw [IntWalk.i64_in _ (by omega)]; omega
      have hk3 : (0 : Int) < (k : Int) := by omega
      have hk4 : ((k - 1 : Nat) : Int) ≤ (c : Int) := by omega
      have hk5 : k - 1 ≤ c := by omega
      have HK := Lib.hid (show k - 1 + 1 ≤ xs.length by rw [HN.out]; omega)
      have HKE := Lib.hid (show k - 1 + 1 = k by omega)
      clear hx hcell ht
      by_cases hx0 : x = 0
      · subst hx0
        clear h0
        go_wp2
        go_roundw
        case rel => exact ⟨k - 1, rfl, by omega, trimL_step HK.out HX.out (by rw [HKE.out]; exact HT.out), trivial⟩
        case measure => have := HKE.out; simp; omega
      · have hx1 : (x == 0) = false := by simp [hx0]
        have HE := Lib.hid (show trimL xs = xs.take k by have := trimL_end HK.out (by rw [HX.out]; exact hx0) (by rw [HKE.out]; exact HT.out); rwa [HKE.out] at this)
        clear h0
        go_wp2
        go_ret
        exact ⟨k, rfl, HE.out.symm, by rw [HN.out]; exact hk, rfl⟩

set_option maxHeartbeats 400000 in
theorem CloneP_any (v : Value) (xs : List Int) (w : World) (hv : Ints w v xs) :
    Calls Try.prog 90 #[v] w fun e w' => ∃ v', e = .returned v' ∧ OwnI 3 w.heap.size w' v' xs ∧ Below w.heap.size w w' := by
  obtain ⟨a, c, rfl, hlen, hcl, hc⟩ := hv
  obtain ⟨i0, hi, hz0, hz1, hz2⟩ := info_parts info3
  have q22 : ∀ (w : World) (a : Option Addr) (n c n' c' : Nat), (binOp .eql 99 (.slice a n c) (.slice none n' c')).run Try.prog w = .ok (.bool a.isNone) w := fun w a n c n' c' => Lib.run_eql_slice_nil w _ _ a n c n' c' Try.underlying99
  have A := Lib.hid hc
  clear hc
  cases a with
  | none =>
    have hx : xs = [] := by
      by_cases h : xs = []
      · exact h
      · obtain ⟨b, off, h1, _⟩ := A.out h; cases h1
    subst hx
    go_enter Try.func90, Try.ntmps90
    go_wp2
    go_ret
    exact ⟨_, rfl, OwnI.nil _ _ _, Below.refl _ _⟩
  | some ad =>
    go_enter Try.func90, Try.ntmps90
    go_wp2_with (at_builtin; refine wpList_append_own _ rfl _ _ 99 rfl w.heap.size 3 i0 (.int .i64 0) 1 8 Try.underlying99 hi hz0 hz1 hz2 rfl (by decide) _ _ _ rfl (World.ownsRow_made w #[] 0 (Nat.le_refl _) (Nat.zero_le _) rfl) ad xs.length c (xs.map (Value.int .i64)) rfl ?qc1 ?qc2 ?qc3 ?qc4 ?qc5 ?qc6 ?_)
    case qc1 => simp
    case qc2 =>
      intro j u hj
      have hjn : j < xs.length := by
        have := (List.getElem?_eq_some_iff.1 hj).1
        simpa using this
      obtain ⟨b, off, h1, hlt, hcell⟩ := A.out (by intro h; simp [h] at hjn)
      obtain rfl : ad = ⟨b, off, none⟩ := by simpa using h1
      rw [Addr.add_lit]
      refine Lib.cell?_alloc_some _ ?_
      rw [hcell j hjn]
      simpa [List.getElem?_eq_getElem hjn] using hj
    case qc3 => intro u hu; obtain ⟨x, _, rfl⟩ := List.mem_map.1 hu; rfl
    case qc4 => unfold maxLen; omega
    case qc5 => omega
    case qc6 => simp
    intro v' w1 hown hgrow hnil
    go_wp2
    go_ret
    refine ⟨v', rfl, by unfold OwnI; simpa using hown, ?_⟩
    exact ((Below.refl _ w).alloc (Nat.le_refl _) _).grown hgrow (by simp) (by intro k hk; simp [Value.ownBlock] at hk; omega)

/-! ### plus -/
theorem pad_exit {M N : Nat} {l : List Int} (h1 : M ≤ N) (h2 : N ≤ (padTo M l).length) : padTo M l = padTo N l := by
  rw [padTo_len] at h2
  by_cases h : M = N
  · rw [h]
  · rw [padTo_ge (show M ≤ l.length by omega), padTo_ge (show N ≤ l.length by omega)]
theorem pad_grow {M N : Nat} {l : List Int} (h2 : (padTo M l).length < N) : ∃ M', M' ≤ N ∧ padTo M l ++ [0] = padTo M' l := by
  rw [padTo_len] at h2
  refine ⟨max M l.length + 1, by omega, ?_⟩
  rw [padTo_snoc (by omega)]
  congr 1
  by_cases h : M ≤ l.length
  · rw [padTo_ge h, show max M l.length = l.length by omega, padTo_ge (Nat.le_refl _)]
  · rw [show max M l.length = M by omega]
theorem pad_zero (l : List Int) : l = padTo 0 l := (padTo_ge (Nat.zero_le _)).symm
/-- What a function returns that gives a new polynomial. -/
def PolOut (l : List Int) (w : World) (e : Ending) (w' : World) : Prop := ∃ v', e = .returned v' ∧ Fz (fun q => w.heap.size ≤ q) w' v' l ∧ Below w.heap.size w w'
theorem own_block {e : TypeId} {B : Nat} {w : World} {v : Value} {xs : List Int} (h : OwnI e B w v xs) : ∀ k, v.ownBlock = some k → B ≤ k := fun k hk => (World.ownsRow.lt h k hk).1
theorem pol_end {w w' : World} {v : Value} {xs : List Int} (h : OwnI 3 w.heap.size w' v xs) (hl : xs.length ≤ 1000000) {a : Option Addr} {n c k : Nat} (hv : v = .slice a n c) (hk : k ≤ xs.length) (ht : xs.take k = trimL xs) : Fz (fun q => w.heap.size ≤ q) w' (.slice a k c) (trimL xs) := by
  subst hv
  exact fz_take (h.fz hl (own_block h)) hk ht
theorem shift_next {M : Nat} (k : Int) (n : Nat) (f g : List Int) (i : Nat) (hi : i < g.length) (hM : M = n + i + 1) {x o : Int} (hx : g.getD i 0 = x) (ho : (padTo M (shiftAdd k n f (g.take i))).getD (n + i) 0 = o) :
    (padTo M (shiftAdd k n f (g.take i))).set (n + i) (wrap64 (o + wrap64 (k * x))) = shiftAdd k n f (g.take (i + 1)) := by
  subst hM hx ho
  have e : ∀ z, wrap64 z = w64 z := fun z => by unfold wrap64 w64; rfl
  rw [e, e, shift_step k n f g i hi (Nat.le_refl _) (.inl rfl)]
  refine padTo_ge ?_
  rw [shiftAdd_len, List.length_take, Nat.min_eq_left (by omega), if_neg (by omega)]
  omega
theorem shift_len (k : Int) (n : Nat) (f g : List Int) (i : Nat) {m : Nat} (hf : f.length ≤ m) (hg : n + g.length ≤ m) : (shiftAdd k n f (g.take i)).length ≤ m := by
  rw [shiftAdd_len, List.length_take]
  split <;> omega

set_option maxRecDepth 20000 in
set_option maxHeartbeats 4000000 in
theorem plus_any (vf vg : Value) (f g : List Int) (k : Int) (n : Nat) (w : World) (hf : Ints w vf f) (hg : Ints w vg g) (lf : f.length ≤ 1000) (lg : g.length ≤ 1000) (ln : n ≤ 1000) :
    Calls Try.prog 91 #[vf, .int .i64 k, .int .i64 (n : Nat), vg] w (PolOut (plusL f k n g) w) := by
  have HG := Lib.hid hg
  have CL := Lib.hid (CloneP_any vf f w hf)
  obtain ⟨af, cf, rfl, hf1⟩ := hf
  obtain ⟨ag, cg, rfl, hg1⟩ := hg
  obtain ⟨lgn, hlg⟩ : ∃ lgn, g.length = lgn := ⟨_, rfl⟩
  obtain ⟨lfn, hlf⟩ : ∃ lfn, f.length = lfn := ⟨_, rfl⟩
  have HLG := Lib.hid hlg
  have HLF := Lib.hid hlf
  rw [hlg] at lg ⊢
  rw [hlf] at lf ⊢
  rw [hlf] at CL
  clear hf1 hg1 hlg hlf
  go_enter Try.func91, Try.ntmps91
  go_upto_region 3 with (go_at_call 90; refine CL.out.mono ?_; rintro e w1 ⟨v1, rfl, ho1, hb1⟩)
  have HO1 := Lib.hid ho1
  have HB1 := Lib.hid hb1
  clear ho1 hb1
  go_loopw [9, 16] (fun t9 ix wr => ∃ i : Nat, ix = .int .i64 i ∧ i ≤ lgn ∧ OwnI 3 w.heap.size wr t9 (shiftAdd k n f (g.take i)) ∧ Below w.heap.size w wr) (fun _ ix _ => lgn - (intOf ix).toNat)
  case atStart => exact ⟨0, rfl, Nat.zero_le _, by rw [List.take_zero, shiftAdd_nil]; exact HO1.out, HB1.out⟩
  case round =>
    obtain ⟨i, rfl, hi, ho, hb⟩ := hrel
    have HO := Lib.hid ho
    have HB := Lib.hid hb
    by_cases hlt : i < lgn
    · obtain ⟨b, off, rfl, hbl, hcell⟩ := ints_at (HG.out.below hb) (by rw [HLG.out]; omega)
      have hgc := hcell i (by rw [HLG.out]; exact hlt)
      obtain ⟨x, hx⟩ : ∃ x, g.getD i 0 = x := ⟨_, rfl⟩
      rw [hx] at hgc
      have HX := Lib.hid hx
      have hii : (i : Int) < (lgn : Int) := by omega
      have w1' : IntKind.i64.wrap ((i : Int) + (n : Int)) = (i : Int) + (n : Int) := IntWalk.i64_in _ (by omega)
      have f2 : (0 : Int) ≤ (i : Int) + (n : Int) := by omega
      have f3 : ((i : Int) + (n : Int)).toNat = i + n := by omega
      clear hx hcell ho hb hbl
      go_upto_region 5 with (fail)
      go_loopw [9] (fun t9 wx => ∃ M : Nat, M ≤ n + i + 1 ∧ OwnI 3 w.heap.size wx t9 (padTo M (shiftAdd k n f (g.take i))) ∧ Below w.heap.size w wx) (fun t9 _ => n + i + 1 - match t9 with | .slice _ m _ => m | _ => 0)
      case atStart => exact ⟨0, Nat.zero_le _, by rw [← pad_zero]; exact HO.out, HB.out⟩
      case round =>
        obtain ⟨M, hM, ho, hb⟩ := hrel
        obtain ⟨a9, c9, rfl⟩ := ho.form
        obtain ⟨m, hm⟩ : ∃ m, (padTo M (shiftAdd k n f (g.take i))).length = m := ⟨_, rfl⟩
        have HM := Lib.hid hm
        have hm2 : m ≤ 4000 := by
          have := shift_len k n f g i (m := 3000) (by rw [HLF.out]; omega) (by rw [HLG.out]; omega)
          rw [← hm, padTo_len]; omega
        rw [hm] at ho ⊢
        have HO9 := Lib.hid ho
        have HB9 := Lib.hid hb
        have HM9 := Lib.hid hM
        have hsz := HB9.out.size
        clear ho hb hm hM
        by_cases hlm : m ≤ i + n
        · have hlm2 : (m : Int) ≤ (i : Int) + (n : Int) := by omega
          obtain ⟨M', hM', hgr⟩ := pad_grow (M := M) (N := n + i + 1) (l := shiftAdd k n f (g.take i)) (by rw [HM.out]; omega)
          have HGR := Lib.hid hgr
          clear hgr
          go_wp2_with (at_builtin; refine wpList_app1 rfl _ _ 99 rfl 3 Try.underlying99 info3 w.heap.size _ (padTo M (shiftAdd k n f (g.take i))) 0 rfl (HO9.out.alloc _) ⟨_, 0, none⟩ 1 rfl (cell_new1 _ _ _) (by rw [HM.out]; omega) (by simp; omega) ?_; intro v4 w4 ho4 hg4 hb4; rw [HGR.out] at ho4; have HO4 := Lib.hid ho4; have HB4 := Lib.hid ((HB9.out.alloc hsz _).trans hb4); have HL4 := Lib.hid (show (padTo M' (shiftAdd k n f (g.take i))).length = m + 1 by rw [← HGR.out, List.length_append, HM.out]; rfl); clear ho4 hg4 hb4)
          go_roundw
          case rel => exact ⟨M', hM', HO4.out, HB4.out⟩
          case measure =>
            obtain ⟨a4, c4, e4⟩ := HO4.out.form
            rw [HL4.out] at e4
            subst e4
            simp
            omega
        · have hlm2 : ¬ (m : Int) ≤ (i : Int) + (n : Int) := by omega
          have hpe := pad_exit HM9.out (by rw [HM.out]; omega)
          have hlt2 : i + n < m := by omega
          have hlt3 : (i : Int) + (n : Int) < (m : Int) := by omega
          obtain ⟨g9, cap9, e9, hg9, hg9'⟩ := HO9.out.rowZ (by rw [HM.out]; omega)
          rw [HM.out] at e9
          obtain ⟨rfl, _, rfl⟩ := Value.slice.inj e9
          have HPE := Lib.hid hpe
          have hc9 := HO9.out.cellZ (i + n) (by rw [HM.out]; omega)
          have hz9 := HO9.out.frozenZ (i + n)
          obtain ⟨o, ho⟩ : ∃ o, (padTo M (shiftAdd k n f (g.take i))).getD (i + n) 0 = o := ⟨_, rfl⟩
          rw [ho] at hc9
          have HNX := Lib.hid (shift_next (x := x) (o := o) k n f g i (by rw [HLG.out]; exact hlt) rfl HX.out (by rw [← hpe, Nat.add_comm n i]; exact ho))
          have HST := Lib.hid (show OwnI 3 w.heap.size (wr.setCell ⟨g9, i + n, none⟩ (.int .i64 (wrap64 (o + wrap64 (k * x))))) (.slice (some ⟨g9, 0, none⟩) m c9) (shiftAdd k n f (g.take (i + 1))) by have := HO9.out.putZ (i + n) (wrap64 (o + wrap64 (k * x))); rw [hpe, Nat.add_comm i n, HNX.out, Nat.add_comm n i] at this; exact this)
          have HBS := Lib.hid (HB9.out.setCell (p := ⟨g9, i + n, none⟩) hg9 (.int .i64 (wrap64 (o + wrap64 (k * x)))))
          clear hpe ho hlm e9 hg9 hg9' hm2 hlt2
          go_wp2
          go_roundw
          case rel => exact ⟨i + 1, by go_num, by omega, HST.out, HBS.out⟩
          case measure => simp [intOf]; omega
    · have hie : i = lgn := by omega
      have hii : ¬ (i : Int) < (lgn : Int) := by omega
      obtain ⟨a9, c9, rfl⟩ := ho.form
      obtain ⟨m, hm⟩ : ∃ m, (shiftAdd k n f (g.take i)).length = m := ⟨_, rfl⟩
      have hm2 : m ≤ 3000 := by
        have := shift_len k n f g i (m := 3000) (by rw [HLF.out]; omega) (by rw [HLG.out]; omega)
        rw [← hm]; omega
      have HFI := Lib.hid (show shiftAdd k n f (g.take i) = shiftAdd k n f g by rw [List.take_of_length_le (by rw [HLG.out]; omega)])
      have HM := Lib.hid hm
      have HM2 := Lib.hid hm2
      rw [hm] at ho ⊢
      have HO9 := Lib.hid ho
      clear ho hb hm hie hlt
      go_wp2_with (go_at_call 102; refine (show Calls Try.prog 102 #[.slice a9 m c9] wr (TrimOut a9 c9 (shiftAdd k n f (g.take i)) wr) from by have := trimP_any a9 c9 (shiftAdd k n f (g.take i)) wr (by rw [HM.out]; exact HO9.out.ints (by rw [HM.out]; have := HM2.out; omega)); rw [HM.out] at this; exact this).mono ?_; rintro e w9 ⟨q, rfl, hq, hql, rfl⟩)
      go_ret
      refine ⟨_, rfl, ?_, HB.out⟩
      unfold plusL
      rw [← HFI.out]
      exact pol_end HO9.out (by rw [HM.out]; have := HM2.out; omega) rfl hql hq
end Go.Proofs.Ytmlhecfhhhebnaa

/- Polynomials: the walks of times (program) and add (reference). -/
namespace Go.Proofs.Ytmlhecfhhhebnaa
open Go.RowKit

theorem trim_len (l : List Int) {m : Nat} (h : l.length ≤ m) : (trimL l).length ≤ m := Nat.le_trans (trimL_len l) h
theorem plusL_len (f : List Int) (k : Int) (n : Nat) (g : List Int) {m : Nat} (hf : f.length ≤ m) (hg : n + g.length ≤ m) : (plusL f k n g).length ≤ m := by
  refine trim_len _ ?_
  rw [shiftAdd_len]
  split <;> omega
theorem timesTo_len (f g : List Int) : ∀ k, (timesTo f g k).length ≤ k + g.length
  | 0 => by simp [timesTo]
  | k + 1 => by
    have := timesTo_len f g k
    exact plusL_len _ _ _ _ (by omega) (by omega)
theorem timesL_len (f g : List Int) : (timesL f g).length ≤ f.length + g.length := timesTo_len f g _
theorem fz_nilP (S : Nat → Prop) (w : World) : Fz S w (.slice none 0 0) [] := ⟨none, 0, rfl, by simp, by simp, fun h => absurd rfl h⟩

set_option maxRecDepth 20000 in
set_option maxHeartbeats 2000000 in
theorem times_any (vf vg : Value) (f g : List Int) (w : World) (hf : Ints w vf f) (hg : Ints w vg g) (lf : f.length ≤ 400) (lg : g.length ≤ 400) :
    Calls Try.prog 92 #[vf, vg] w (PolOut (timesL f g) w) := by
  have HF := Lib.hid hf
  have HG := Lib.hid hg
  obtain ⟨lfn, hlf⟩ : ∃ lfn, f.length = lfn := ⟨_, rfl⟩
  have HLF := Lib.hid hlf
  have HLG := Lib.hid lg
  obtain ⟨af, cf, rfl, hf1⟩ := hf
  obtain ⟨ag, cg, rfl, hg1⟩ := hg
  rw [hlf] at lf ⊢
  clear hf1 hg1 hlf lg
  go_enter Try.func92, Try.ntmps92
  go_upto_region 3 with (fail)
  go_loopw [5, 10] (fun t5 ix wr => ∃ i : Nat, ix = .int .i64 i ∧ i ≤ lfn ∧ Fz (fun q => w.heap.size ≤ q) wr t5 (timesTo f g i) ∧ Below w.heap.size w wr) (fun _ ix _ => lfn - (intOf ix).toNat)
  case atStart => exact ⟨0, rfl, Nat.zero_le _, fz_nilP _ _, Below.refl _ _⟩
  case round =>
    obtain ⟨i, rfl, hi, ho, hb⟩ := hrel
    have HO := Lib.hid ho
    have HB := Lib.hid hb
    by_cases hlt : i < lfn
    · obtain ⟨b, off, rfl, hbl, hcell⟩ := ints_at (HF.out.below hb) (by rw [HLF.out]; omega)
      have hfc := hcell i (by rw [HLF.out]; exact hlt)
      obtain ⟨x, hx⟩ : ∃ x, f.getD i 0 = x := ⟨_, rfl⟩
      rw [hx] at hfc
      have HX := Lib.hid (show timesTo f g (i + 1) = plusL (timesTo f g i) x i g by rw [timesTo, hx])
      have hii : (i : Int) < (lfn : Int) := by omega
      have PL := Lib.hid (plus_any _ _ (timesTo f g i) g x i wr ho.ints (HG.out.below hb) (by have := timesTo_len f g i; have := HLG.out; omega) (by have := HLG.out; omega) (by omega))
      clear hx hcell ho hb hbl
      go_wp2_with (go_at_call 91; refine PL.out.mono ?_; rintro e w2 ⟨v2, rfl, ho2, hb2⟩; have HO2 := Lib.hid ho2; have HB2 := Lib.hid hb2; clear ho2 hb2)
      go_roundw
      case rel => exact ⟨i + 1, by go_num, by omega, by rw [HX.out]; exact HO2.out.mono (fun q hq => Nat.le_trans HB.out.size hq), HB.out.trans (HB2.out.mono HB.out.size)⟩
      case measure => simp [intOf]; omega
    · have hie : lfn = i := by omega
      have hii : ¬ (i : Int) < (lfn : Int) := by omega
      have HE := Lib.hid (show timesTo f g i = timesL f g by unfold timesL; rw [HLF.out, hie])
      clear ho hb hie hlt
      go_wp2
      go_ret
      exact ⟨_, rfl, by rw [← HE.out]; exact HO.out, HB.out⟩

/-! ### the reference's add -/
def zeroZ (N : Nat) : List Int := List.replicate N 0
def mkZ (N : Nat) (w : World) : World := w.alloc (.cells ((zeroZ N).map (Value.int .i64)).toArray 3)
theorem make_Z (n : Nat) (hn : n ≤ 35184372088832) (w : World) : (Instr.makeSlice 24 (.int .i64 (n : Int)) (.int .i64 (n : Int))).run Try.prog w = .ok (.slice (some ⟨w.heap.size, 0, none⟩) n n) (mkZ n w) := by
  have := make_ints n hn w
  rw [this]
  simp [mkZ, zeroZ, toI]
theorem make_ZA (a b : Nat) (hn : a + b ≤ 35184372088832) (w : World) : (Instr.makeSlice 24 (.int .i64 ((a : Int) + (b : Int))) (.int .i64 ((a : Int) + (b : Int)))).run Try.prog w = .ok (.slice (some ⟨w.heap.size, 0, none⟩) (a + b) (a + b)) (mkZ (a + b) w) := by
  have := make_Z (a + b) hn w
  push_cast at this
  exact this
theorem mkZ_heap (N : Nat) (w : World) : (mkZ N w).heap[w.heap.size]? = some (.cells ((zeroZ N).map (Value.int .i64)).toArray 3 (0, 0)) := heap_alloc_new w _
theorem mkZ_below (N : Nat) (w : World) : Below w.heap.size w (mkZ N w) := (Below.refl _ _).alloc (Nat.le_refl _) _
theorem mkZ_size (N : Nat) (w : World) : (mkZ N w).heap.size = w.heap.size + 1 := by simp [mkZ]
theorem splice_pad (N : Nat) (p : List Int) (_ : p.length ≤ N) : splice ((zeroZ N).map (Value.int .i64)) 0 (p.map (Value.int .i64)) = (padTo N p).map (Value.int .i64) := by
  unfold splice zeroZ padTo
  rw [List.take_zero, List.nil_append, List.map_append, Nat.zero_add, List.length_map, ← List.map_drop, List.drop_replicate]
theorem pad_len (N : Nat) (p : List Int) (h : p.length ≤ N) : (padTo N p).length = N := by rw [padTo_len]; omega
theorem own_pad {N B g : Nat} {w : World} {p : List Int} (h : w.heap[g]? = some (.cells (splice ((zeroZ N).map (Value.int .i64)) 0 (p.map (Value.int .i64))).toArray 3 (0, 0))) (hp : p.length ≤ N) (hN : N ≤ 10000) (hB : B ≤ g) :
    OwnI 3 B w (.slice (some ⟨g, 0, none⟩) N N) (padTo N p) := by
  rw [splice_pad N p hp] at h
  have hl := pad_len N p hp
  refine ⟨by simp, .inr ⟨g, N, _, by rw [hl], hB, h, by omega, by unfold maxLen; omega, by simp [hl], by simp [hl, List.take_of_length_le]⟩⟩
theorem copy_src {w : World} {a : Option Addr} {n c : Nat} {p : List Int} (h : Ints w (.slice a n c) p) (h0 : 0 < (p.map (Value.int .i64)).length) :
    ∃ ad, a = some ad ∧ ∀ j v, (p.map (Value.int .i64))[j]? = some v → w.cell? (ad.add j) = some v := by
  obtain ⟨b, off, rfl, _, hcell⟩ := ints_at h (by simpa using h0)
  refine ⟨_, rfl, fun j v hj => ?_⟩
  have hjl : j < p.length := by have := (List.getElem?_eq_some_iff.1 hj).1; simpa using this
  rw [Addr.add_lit, hcell j hjl, List.getD_eq_getElem?_getD, List.getElem?_eq_getElem hjl]
  simpa [List.getElem?_eq_getElem hjl] using hj
theorem add_next {N : Nat} (k : Int) (n : Nat) (f g : List Int) (i : Nat) (hi : i < g.length) (hf : f.length ≤ N) (hg : n + g.length ≤ N) {x o : Int} (hx : g.getD i 0 = x) (ho : (padTo N (shiftAdd k n f (g.take i))).getD (n + i) 0 = o) :
    (padTo N (shiftAdd k n f (g.take i))).set (n + i) (wrap64 (o + wrap64 (k * x))) = padTo N (shiftAdd k n f (g.take (i + 1))) := by
  subst hx ho
  have e : ∀ z, wrap64 z = w64 z := fun z => by unfold wrap64 w64; rfl
  rw [e, e, shift_step k n f g i hi (by omega) (.inr ⟨hf, hg⟩)]

set_option maxRecDepth 20000 in
set_option maxHeartbeats 4000000 in
theorem add_tail (ap : Option Addr) (cp : Nat) (vq : Value) (p q : List Int) (k : Int) (n lpn lqn N : Nat) (w : World) (hp : Ints w (.slice ap lpn cp) p) (hq : Ints w vq q) (hlp : p.length = lpn) (hlq : q.length = lqn) (_ : lpn ≤ 1000) (lq : lqn ≤ 1000) (ln : n ≤ 1000) (hmax : lpn ≤ N ∧ n + lqn ≤ N ∧ N ≤ 3000 ∧ max (lpn : Int) ((lqn : Int) + (n : Int)) = (N : Int)) :
    Calls Try.prog 73 #[.slice ap lpn cp, vq, .int .i64 k, .int .i64 (n : Nat)] w (PolOut (plusL p k n q) w) := by
  have HQ := Lib.hid hq
  have HCS := Lib.hid (fun h0 => copy_src (hp.below (mkZ_below N w)) h0)
  have MZ := make_Z N (by omega) w
  obtain ⟨aq, cq, rfl, hq1⟩ := hq
  rw [hlq] at HQ ⊢
  have HLQ := Lib.hid hlq
  have HLP := Lib.hid hlp
  have w0 : IntKind.i64.wrap ((lqn : Int) + (n : Int)) = (lqn : Int) + (n : Int) := IntWalk.i64_in _ (by omega)
  have hch := hmax.2.2.2
  have hN0 := hmax.2.2.1
  have HMX := Lib.hid hmax
  have info : (Try.prog.info? 3).map (·.size) = some 1 := by kernel_rfl
  clear hq1 hlq hlp hp hmax
  go_enter Try.func73, Try.ntmps73
  go_upto_region 2 with (fail)
  go_upto_region 4 with (refine wpList_copy_splice rfl _ _ _ _ rfl 3 Try.underlying24 info _ _ _ _ _ _ rfl rfl w.heap.size 0 ((zeroZ N).map (Value.int .i64)) 3 ?h1 (p.map (Value.int .i64)) ?h2 ?h3 ?h4 ?h5 w.heap.size w ?h6 ?h7 ?_; (case h1 => exact mkZ_heap N w); (case h2 => rw [List.length_map, HLP.out]; exact (Nat.min_eq_left HMX.out.1).symm); (case h3 => exact fun h0 => by obtain ⟨ad, e, hc⟩ := HCS.out h0; exact ⟨rfl, ad, e, hc⟩); (case h4 => rw [List.length_map, List.length_map, HLP.out, zeroZ, List.length_replicate]; have := HMX.out; omega); (case h5 => intro u hu; obtain ⟨x, _, rfl⟩ := List.mem_map.1 hu; rfl); (case h6 => exact mkZ_below N w); (case h7 => exact Nat.le_refl _); intro w2 HG2 hb2)
  have HO2 := Lib.hid (own_pad (B := w.heap.size) HG2.out (by rw [HLP.out]; have := HMX.out; omega) (by omega) (Nat.le_refl _))
  have HB2 := Lib.hid hb2
  have hN3 := hN0
  have HNP := Lib.hid HMX.out.1
  have HNQ := Lib.hid HMX.out.2.1
  clear HG2 hb2 MZ HCS hch
  go_loopw [25] (fun ix wr => ∃ i : Nat, ix = .int .i64 i ∧ i ≤ lqn ∧ OwnI 3 w.heap.size wr (.slice (some ⟨w.heap.size, 0, none⟩) N N) (padTo N (shiftAdd k n p (q.take i))) ∧ Below w.heap.size w wr) (fun ix _ => lqn - (intOf ix).toNat)
  case atStart => exact ⟨0, rfl, Nat.zero_le _, by rw [List.take_zero, shiftAdd_nil]; exact HO2.out, HB2.out⟩
  case round =>
    obtain ⟨i, rfl, hi, ho, hb⟩ := hrel
    have HO := Lib.hid ho
    have HB := Lib.hid hb
    by_cases hlt : i < lqn
    · obtain ⟨b, off, rfl, hbl, hcell⟩ := ints_at (HQ.out.below hb) (by rw [HLQ.out]; omega)
      have hgc := hcell i (by rw [HLQ.out]; exact hlt)
      obtain ⟨x, hx⟩ : ∃ x, q.getD i 0 = x := ⟨_, rfl⟩
      rw [hx] at hgc
      have HX := Lib.hid hx
      have hii : (i : Int) < (lqn : Int) := by omega
      have w1' : IntKind.i64.wrap ((i : Int) + (n : Int)) = (i : Int) + (n : Int) := IntWalk.i64_in _ (by omega)
      have f2 : (0 : Int) ≤ (i : Int) + (n : Int) := by omega
      have f3 : ((i : Int) + (n : Int)).toNat = i + n := by omega
      have hq3 := HNQ.out
      have f4 : (i : Int) + (n : Int) < (N : Int) := by omega
      have HLN := Lib.hid (show (padTo N (shiftAdd k n p (q.take i))).length = N from pad_len _ _ (shift_len k n p q i (by rw [HLP.out]; exact HNP.out) (by rw [HLQ.out]; exact HNQ.out)))
      have hc9 := HO.out.cellZ (i + n) (by rw [HLN.out]; omega)
      have hz9 := HO.out.frozenZ (i + n)
      obtain ⟨o, ho9⟩ : ∃ o, (padTo N (shiftAdd k n p (q.take i))).getD (i + n) 0 = o := ⟨_, rfl⟩
      rw [ho9] at hc9
      have HNX := Lib.hid (add_next (x := x) (o := o) k n p q i (by rw [HLQ.out]; exact hlt) (by rw [HLP.out]; exact HNP.out) (by rw [HLQ.out]; exact HNQ.out) HX.out (by rw [Nat.add_comm n i]; exact ho9))
      have HST := Lib.hid (show OwnI 3 w.heap.size (wr.setCell ⟨w.heap.size, i + n, none⟩ (.int .i64 (wrap64 (o + wrap64 (k * x))))) (.slice (some ⟨w.heap.size, 0, none⟩) N N) (padTo N (shiftAdd k n p (q.take (i + 1)))) by have := HO.out.putZ (i + n) (wrap64 (o + wrap64 (k * x))); rw [Nat.add_comm i n, HNX.out, Nat.add_comm n i] at this; exact this)
      have HBS := Lib.hid (HB.out.setCell (p := ⟨w.heap.size, i + n, none⟩) (Nat.le_refl _) (.int .i64 (wrap64 (o + wrap64 (k * x)))))
      clear hx hcell ho hb hbl ho9 hlt
      go_wp2
      go_roundw
      case rel => exact ⟨i + 1, by go_num, by omega, HST.out, HBS.out⟩
      case measure => simp [intOf]; omega
    · have hie : i = lqn := by omega
      have hii : ¬ (i : Int) < (lqn : Int) := by omega
      have HFI := Lib.hid (show shiftAdd k n p (q.take i) = shiftAdd k n p q by rw [List.take_of_length_le (by rw [HLQ.out]; omega)])
      have HLN := Lib.hid (show (padTo N (shiftAdd k n p (q.take i))).length = N from pad_len _ _ (shift_len k n p q i (by rw [HLP.out]; exact HNP.out) (by rw [HLQ.out]; exact HNQ.out)))
      have HN3 := Lib.hid hN3
      have TR := Lib.hid (show Calls Try.prog 74 #[.slice (some ⟨w.heap.size, 0, none⟩) N N] wr (TrimOut (some ⟨w.heap.size, 0, none⟩) N (padTo N (shiftAdd k n p (q.take i))) wr) from by have := trimR_any (some ⟨w.heap.size, 0, none⟩) N (padTo N (shiftAdd k n p (q.take i))) wr (by rw [HLN.out]; exact ho.ints (by rw [HLN.out]; omega)); rw [HLN.out] at this; exact this)
      clear ho hb hie hlt
      go_wp2_with (go_at_call 74; refine TR.out.mono ?_; rintro e w9 ⟨j, rfl, hj, hjl, rfl⟩)
      go_ret
      refine ⟨_, rfl, ?_, HB.out⟩
      have HF := pol_end HO.out (by rw [HLN.out]; have := HN3.out; omega) rfl hjl hj
      rw [padTo_trim, HFI.out] at HF
      exact HF

theorem add_any (vp vq : Value) (p q : List Int) (k : Int) (n : Nat) (w : World) (hp : Ints w vp p) (hq : Ints w vq q) (lp : p.length ≤ 1000) (lq : q.length ≤ 1000) (ln : n ≤ 1000) :
    Calls Try.prog 73 #[vp, vq, .int .i64 k, .int .i64 (n : Nat)] w (PolOut (plusL p k n q) w) := by
  obtain ⟨ap, cp, rfl, hp1⟩ := id hp
  exact add_tail ap cp vq p q k n _ _ (max p.length (q.length + n)) w hp hq rfl rfl lp lq ln ⟨by omega, by omega, by omega, by omega⟩
end Go.Proofs.Ytmlhecfhhhebnaa

/- Polynomials, plain: the tables of R and P, checked by the kernel. No Go in sight. -/
namespace Go.Proofs.Ytmlhecfhhhebnaa

def kA65x1 : List (List Int) := [[], [1], [-1, 1]]
def kB65x1 : List (List Nat) := [[1, 2], [0, 1]]
def kC65x1 : List (List Int) := [[], [1]]
def kD65x1 : List (List Nat) := [[1, 1], [0, 1]]
def kA65x2 : List (List Int) := [[], [1], [-1, 1], [1, -2, 1], [-1, 2, -2, 1]]
def kB65x2 : List (List Nat) := [[1, 2, 2, 3, 3, 4], [0, 1, 0, 2, 2, 3], [0, 0, 1, 2, 2, 3], [0, 0, 0, 1, 0, 2], [0, 0, 0, 0, 1, 2], [0, 0, 0, 0, 0, 1]]
def kC65x2 : List (List Int) := [[], [1]]
def kD65x2 : List (List Nat) := [[1, 1, 1, 1, 1, 1], [0, 1, 0, 1, 1, 1], [0, 0, 1, 1, 1, 1], [0, 0, 0, 1, 0, 1], [0, 0, 0, 0, 1, 1], [0, 0, 0, 0, 0, 1]]
def kA65x3 : List (List Int) := [[], [1], [-1, 1], [1, -2, 1], [-1, 2, -2, 1], [-1, 3, -3, 1], [1, -4, 6, -4, 1], [1, -3, 4, -3, 1], [-1, 3, -5, 5, -3, 1], [-1, 3, -4, 4, -3, 1], [1, -3, 4, -4, 4, -3, 1]]
def kB65x3 : List (List Nat) := [[1, 2, 2, 2, 3, 3, 3, 3, 3, 4, 5, 5, 5, 4, 5, 7, 7, 7, 7, 7, 9, 8, 9, 10], [0, 1, 0, 0, 2, 2, 2, 0, 0, 3, 3, 3, 3, 0, 3, 5, 4, 5, 5, 4, 7, 7, 7, 9], [0, 0, 1, 0, 2, 0, 2, 2, 2, 3, 3, 3, 3, 3, 3, 5, 5, 5, 5, 5, 7, 6, 7, 8], [0, 0, 0, 1, 0, 2, 0, 2, 2, 0, 3, 3, 3, 3, 3, 4, 5, 4, 5, 5, 7, 7, 7, 9], [0, 0, 0, 0, 1, 0, 0, 0, 0, 2, 2, 2, 0, 0, 0, 3, 3, 3, 3, 0, 5, 5, 4, 7], [0, 0, 0, 0, 0, 1, 0, 0, 0, 0, 2, 2, 2, 0, 2, 3, 3, 3, 3, 3, 5, 5, 5, 7], [0, 0, 0, 0, 0, 0, 1, 0, 0, 2, 0, 0, 2, 0, 2, 3, 0, 3, 3, 3, 4, 5, 5, 7], [0, 0, 0, 0, 0, 0, 0, 1, 0, 0, 2, 0, 2, 2, 0, 3, 3, 0, 3, 3, 5, 5, 4, 7], [0, 0, 0, 0, 0, 0, 0, 0, 1, 0, 0, 2, 0, 2, 2, 0, 3, 3, 3, 3, 4, 5, 5, 7], [0, 0, 0, 0, 0, 0, 0, 0, 0, 1, 0, 0, 0, 0, 0, 2, 0, 2, 2, 0, 3, 3, 3, 5], [0, 0, 0, 0, 0, 0, 0, 0, 0, 0, 1, 0, 0, 0, 0, 2, 2, 0, 0, 0, 3, 3, 0, 4], [0, 0, 0, 0, 0, 0, 0, 0, 0, 0, 0, 1, 0, 0, 0, 0, 2, 2, 2, 0, 3, 3, 3, 5], [0, 0, 0, 0, 0, 0, 0, 0, 0, 0, 0, 0, 1, 0, 0, 2, 0, 0, 2, 2, 3, 3, 3, 5], [0, 0, 0, 0, 0, 0, 0, 0, 0, 0, 0, 0, 0, 1, 0, 0, 2, 0, 2, 2, 3, 3, 3, 5], [0, 0, 0, 0, 0, 0, 0, 0, 0, 0, 0, 0, 0, 0, 1, 0, 0, 2, 0, 2, 0, 3, 3, 4], [0, 0, 0, 0, 0, 0, 0, 0, 0, 0, 0, 0, 0, 0, 0, 1, 0, 0, 0, 0, 2, 2, 0, 3], [0, 0, 0, 0, 0, 0, 0, 0, 0, 0, 0, 0, 0, 0, 0, 0, 1, 0, 0, 0, 2, 2, 0, 3], [0, 0, 0, 0, 0, 0, 0, 0, 0, 0, 0, 0, 0, 0, 0, 0, 0, 1, 0, 0, 0, 2, 2, 3], [0, 0, 0, 0, 0, 0, 0, 0, 0, 0, 0, 0, 0, 0, 0, 0, 0, 0, 1, 0, 2, 0, 2, 3], [0, 0, 0, 0, 0, 0, 0, 0, 0, 0, 0, 0, 0, 0, 0, 0, 0, 0, 0, 1, 0, 2, 2, 3], [0, 0, 0, 0, 0, 0, 0, 0, 0, 0, 0, 0, 0, 0, 0, 0, 0, 0, 0, 0, 1, 0, 0, 2], [0, 0, 0, 0, 0, 0, 0, 0, 0, 0, 0, 0, 0, 0, 0, 0, 0, 0, 0, 0, 0, 1, 0, 2], [0, 0, 0, 0, 0, 0, 0, 0, 0, 0, 0, 0, 0, 0, 0, 0, 0, 0, 0, 0, 0, 0, 1, 2], [0, 0, 0, 0, 0, 0, 0, 0, 0, 0, 0, 0, 0, 0, 0, 0, 0, 0, 0, 0, 0, 0, 0, 1]]
def kC65x3 : List (List Int) := [[], [1], [1, 1]]
def kD65x3 : List (List Nat) := [[1, 1, 1, 1, 1, 1, 1, 1, 1, 1, 1, 1, 1, 1, 1, 1, 1, 1, 2, 1, 1, 2, 1, 1], [0, 1, 0, 0, 1, 1, 1, 0, 0, 1, 1, 1, 1, 0, 1, 1, 1, 1, 1, 1, 1, 2, 1, 1], [0, 0, 1, 0, 1, 0, 1, 1, 1, 1, 1, 1, 1, 1, 1, 1, 1, 1, 2, 1, 1, 1, 1, 1], [0, 0, 0, 1, 0, 1, 0, 1, 1, 0, 1, 1, 1, 1, 1, 1, 1, 1, 1, 1, 1, 2, 1, 1], [0, 0, 0, 0, 1, 0, 0, 0, 0, 1, 1, 1, 0, 0, 0, 1, 1, 1, 1, 0, 1, 1, 1, 1], [0, 0, 0, 0, 0, 1, 0, 0, 0, 0, 1, 1, 1, 0, 1, 1, 1, 1, 1, 1, 1, 2, 1, 1], [0, 0, 0, 0, 0, 0, 1, 0, 0, 1, 0, 0, 1, 0, 1, 1, 0, 1, 1, 1, 1, 1, 1, 1], [0, 0, 0, 0, 0, 0, 0, 1, 0, 0, 1, 0, 1, 1, 0, 1, 1, 0, 1, 1, 1, 1, 1, 1], [0, 0, 0, 0, 0, 0, 0, 0, 1, 0, 0, 1, 0, 1, 1, 0, 1, 1, 1, 1, 1, 1, 1, 1], [0, 0, 0, 0, 0, 0, 0, 0, 0, 1, 0, 0, 0, 0, 0, 1, 0, 1, 1, 0, 1, 1, 1, 1], [0, 0, 0, 0, 0, 0, 0, 0, 0, 0, 1, 0, 0, 0, 0, 1, 1, 0, 0, 0, 1, 1, 0, 1], [0, 0, 0, 0, 0, 0, 0, 0, 0, 0, 0, 1, 0, 0, 0, 0, 1, 1, 1, 0, 1, 1, 1, 1], [0, 0, 0, 0, 0, 0, 0, 0, 0, 0, 0, 0, 1, 0, 0, 1, 0, 0, 1, 1, 1, 1, 1, 1], [0, 0, 0, 0, 0, 0, 0, 0, 0, 0, 0, 0, 0, 1, 0, 0, 1, 0, 1, 1, 1, 1, 1, 1], [0, 0, 0, 0, 0, 0, 0, 0, 0, 0, 0, 0, 0, 0, 1, 0, 0, 1, 0, 1, 0, 1, 1, 1], [0, 0, 0, 0, 0, 0, 0, 0, 0, 0, 0, 0, 0, 0, 0, 1, 0, 0, 0, 0, 1, 1, 0, 1], [0, 0, 0, 0, 0, 0, 0, 0, 0, 0, 0, 0, 0, 0, 0, 0, 1, 0, 0, 0, 1, 1, 0, 1], [0, 0, 0, 0, 0, 0, 0, 0, 0, 0, 0, 0, 0, 0, 0, 0, 0, 1, 0, 0, 0, 1, 1, 1], [0, 0, 0, 0, 0, 0, 0, 0, 0, 0, 0, 0, 0, 0, 0, 0, 0, 0, 1, 0, 1, 0, 1, 1], [0, 0, 0, 0, 0, 0, 0, 0, 0, 0, 0, 0, 0, 0, 0, 0, 0, 0, 0, 1, 0, 1, 1, 1], [0, 0, 0, 0, 0, 0, 0, 0, 0, 0, 0, 0, 0, 0, 0, 0, 0, 0, 0, 0, 1, 0, 0, 1], [0, 0, 0, 0, 0, 0, 0, 0, 0, 0, 0, 0, 0, 0, 0, 0, 0, 0, 0, 0, 0, 1, 0, 1], [0, 0, 0, 0, 0, 0, 0, 0, 0, 0, 0, 0, 0, 0, 0, 0, 0, 0, 0, 0, 0, 0, 1, 1], [0, 0, 0, 0, 0, 0, 0, 0, 0, 0, 0, 0, 0, 0, 0, 0, 0, 0, 0, 0, 0, 0, 0, 1]]
def kA66x2 : List (List Int) := [[], [1], [-1, 1], [1, -2, 1], [-1, 2, -2, 1], [1, -2, 2, -2, 1]]
def kB66x2 : List (List Nat) := [[1, 2, 2, 3, 3, 4, 4, 5], [0, 1, 0, 2, 2, 3, 3, 4], [0, 0, 1, 2, 2, 3, 3, 4], [0, 0, 0, 1, 0, 2, 2, 3], [0, 0, 0, 0, 1, 2, 2, 3], [0, 0, 0, 0, 0, 1, 0, 2], [0, 0, 0, 0, 0, 0, 1, 2], [0, 0, 0, 0, 0, 0, 0, 1]]
def kC66x2 : List (List Int) := [[], [1]]
def kD66x2 : List (List Nat) := [[1, 1, 1, 1, 1, 1, 1, 1], [0, 1, 0, 1, 1, 1, 1, 1], [0, 0, 1, 1, 1, 1, 1, 1], [0, 0, 0, 1, 0, 1, 1, 1], [0, 0, 0, 0, 1, 1, 1, 1], [0, 0, 0, 0, 0, 1, 0, 1], [0, 0, 0, 0, 0, 0, 1, 1], [0, 0, 0, 0, 0, 0, 0, 1]]
def kA66x3 : List (List Int) := [[], [1], [-1, 1], [1, -2, 1], [-1, 2, -2, 1], [-1, 3, -3, 1], [1, -4, 6, -4, 1], [1, -3, 4, -3, 1], [1, -2, 2, -2, 1], [-1, 3, -5, 5, -3, 1], [-1, 3, -4, 4, -3, 1], [-1, 4, -7, 7, -4, 1], [1, -3, 3, -2, 3, -3, 1], [1, -3, 4, -4, 4, -3, 1], [1, -3, 5, -6, 5, -3, 1], [-1, 3, -4, 3, -3, 4, -3, 1], [-1, 3, -4, 4, -4, 4, -3, 1], [-1, 3, -3, 1, -1, 3, -3, 1], [1, -3, 4, -4, 4, -4, 4, -3, 1], [1, -3, 4, -3, 2, -3, 4, -3, 1], [-1, 3, -4, 4, -4, 4, -4, 4, -3, 1]]
def kB66x3 : List (List Nat) := [[1, 2, 2, 2, 3, 3, 3, 3, 3, 4, 5, 5, 5, 4, 5, 4, 7, 7, 7, 7, 7, 7, 8, 7, 10, 9, 10, 9, 10, 10, 10, 10, 13, 13, 14, 13, 13, 13, 13, 16, 16, 16, 15, 16, 19, 18, 18, 20], [0, 1, 0, 0, 2, 2, 2, 0, 0, 3, 3, 3, 3, 0, 3, 0, 5, 4, 5, 4, 5, 4, 0, 4, 7, 7, 8, 7, 7, 7, 8, 7, 10, 10, 10, 10, 10, 10, 10, 13, 13, 13, 13, 13, 15, 16, 16, 18], [0, 0, 1, 0, 2, 0, 2, 2, 2, 3, 3, 3, 3, 3, 3, 3, 5, 5, 5, 5, 5, 5, 4, 5, 7, 6, 7, 6, 7, 7, 7, 7, 9, 10, 11, 9, 9, 10, 10, 14, 14, 13, 13, 13, 16, 16, 16, 18], [0, 0, 0, 1, 0, 2, 0, 2, 2, 0, 3, 3, 3, 3, 3, 3, 4, 5, 4, 5, 5, 5, 4, 5, 7, 7, 7, 7, 7, 7, 7, 7, 10, 10, 9, 10, 10, 10, 10, 13, 13, 13, 12, 13, 17, 16, 15, 19], [0, 0, 0, 0, 1, 0, 0, 0, 0, 2, 2, 2, 0, 0, 0, 0, 3, 3, 3, 3, 3, 0, 0, 0, 5, 5, 4, 5, 4, 5, 0, 4, 7, 7, 7, 7, 7, 8, 7, 9, 10, 10, 10, 10, 13, 13, 13, 16], [0, 0, 0, 0, 0, 1, 0, 0, 0, 0, 2, 2, 2, 0, 2, 0, 3, 3, 3, 3, 3, 3, 0, 3, 5, 5, 4, 5, 5, 5, 4, 5, 7, 7, 7, 7, 7, 7, 7, 10, 10, 10, 10, 10, 12, 13, 13, 15], [0, 0, 0, 0, 0, 0, 1, 0, 0, 2, 0, 0, 2, 0, 2, 0, 3, 0, 3, 0, 3, 3, 0, 3, 4, 5, 0, 5, 5, 4, 4, 5, 7, 8, 7, 7, 7, 7, 7, 10, 9, 10, 10, 10, 13, 13, 13, 16], [0, 0, 0, 0, 0, 0, 0, 1, 0, 0, 2, 0, 2, 2, 0, 2, 3, 3, 0, 3, 3, 3, 3, 3, 5, 5, 5, 5, 4, 5, 5, 5, 7, 7, 6, 6, 7, 7, 7, 9, 11, 9, 10, 10, 13, 14, 13, 16], [0, 0, 0, 0, 0, 0, 0, 0, 1, 0, 0, 2, 0, 2, 2, 2, 0, 3, 3, 3, 3, 3, 3, 3, 4, 5, 5, 5, 5, 5, 5, 5, 7, 7, 6, 7, 6, 7, 7, 11, 9, 10, 10, 9, 13, 14, 13, 16], [0, 0, 0, 0, 0, 0, 0, 0, 0, 1, 0, 0, 0, 0, 0, 0, 2, 0, 2, 0, 2, 0, 0, 0, 3, 3, 0, 3, 3, 3, 0, 3, 5, 4, 4, 5, 5, 4, 5, 7, 7, 7, 7, 7, 10, 10, 10, 13], [0, 0, 0, 0, 0, 0, 0, 0, 0, 0, 1, 0, 0, 0, 0, 0, 2, 2, 0, 2, 0, 0, 0, 0, 3, 3, 3, 3, 0, 3, 0, 0, 4, 5, 5, 5, 4, 0, 4, 7, 7, 7, 7, 8, 10, 10, 10, 13], [0, 0, 0, 0, 0, 0, 0, 0, 0, 0, 0, 1, 0, 0, 0, 0, 0, 2, 2, 2, 2, 0, 0, 0, 3, 3, 3, 3, 3, 3, 0, 3, 5, 5, 5, 5, 5, 4, 5, 6, 7, 7, 7, 7, 10, 9, 10, 13], [0, 0, 0, 0, 0, 0, 0, 0, 0, 0, 0, 0, 1, 0, 0, 0, 2, 0, 0, 0, 2, 2, 0, 2, 3, 3, 0, 3, 3, 3, 3, 3, 5, 4, 5, 5, 5, 5, 5, 7, 6, 7, 7, 7, 10, 9, 10, 13], [0, 0, 0, 0, 0, 0, 0, 0, 0, 0, 0, 0, 0, 1, 0, 0, 0, 2, 0, 0, 2, 2, 2, 0, 3, 3, 3, 0, 3, 3, 3, 3, 5, 5, 5, 5, 5, 5, 4, 6, 6, 7, 7, 7, 9, 11, 10, 14], [0, 0, 0, 0, 0, 0, 0, 0, 0, 0, 0, 0, 0, 0, 1, 0, 0, 0, 2, 0, 0, 2, 0, 2, 0, 3, 0, 3, 3, 0, 3, 3, 4, 0, 5, 4, 5, 5, 4, 7, 7, 8, 7, 7, 10, 10, 10, 13], [0, 0, 0, 0, 0, 0, 0, 0, 0, 0, 0, 0, 0, 0, 0, 1, 0, 0, 0, 2, 0, 0, 2, 2, 0, 0, 3, 3, 0, 3, 3, 3, 0, 4, 5, 5, 5, 4, 5, 7, 7, 7, 7, 7, 10, 9, 10, 13], [0, 0, 0, 0, 0, 0, 0, 0, 0, 0, 0, 0, 0, 0, 0, 0, 1, 0, 0, 0, 0, 0, 0, 0, 2, 2, 0, 2, 0, 2, 0, 0, 3, 3, 3, 3, 3, 0, 3, 5, 5, 5, 5, 4, 7, 7, 7, 10], [0, 0, 0, 0, 0, 0, 0, 0, 0, 0, 0, 0, 0, 0, 0, 0, 0, 1, 0, 0, 0, 0, 0, 0, 2, 2, 2, 0, 0, 0, 0, 0, 3, 3, 3, 3, 0, 0, 0, 5, 5, 4, 4, 0, 7, 7, 8, 10], [0, 0, 0, 0, 0, 0, 0, 0, 0, 0, 0, 0, 0, 0, 0, 0, 0, 0, 1, 0, 0, 0, 0, 0, 0, 2, 0, 2, 2, 0, 0, 2, 3, 0, 3, 3, 3, 3, 3, 5, 5, 4, 5, 5, 7, 7, 7, 10], [0, 0, 0, 0, 0, 0, 0, 0, 0, 0, 0, 0, 0, 0, 0, 0, 0, 0, 0, 1, 0, 0, 0, 0, 0, 0, 2, 2, 0, 2, 0, 0, 0, 3, 3, 3, 3, 0, 3, 5, 4, 5, 5, 4, 7, 7, 7, 10], [0, 0, 0, 0, 0, 0, 0, 0, 0, 0, 0, 0, 0, 0, 0, 0, 0, 0, 0, 0, 1, 0, 0, 0, 2, 0, 0, 0, 2, 2, 0, 2, 3, 3, 0, 3, 3, 3, 3, 5, 5, 5, 5, 5, 7, 6, 7, 9], [0, 0, 0, 0, 0, 0, 0, 0, 0, 0, 0, 0, 0, 0, 0, 0, 0, 0, 0, 0, 0, 1, 0, 0, 0, 2, 0, 0, 2, 0, 2, 0, 3, 0, 3, 0, 3, 3, 0, 5, 5, 0, 4, 4, 7, 7, 8, 10], [0, 0, 0, 0, 0, 0, 0, 0, 0, 0, 0, 0, 0, 0, 0, 0, 0, 0, 0, 0, 0, 0, 1, 0, 0, 0, 2, 0, 0, 2, 2, 2, 0, 3, 3, 3, 3, 3, 3, 5, 5, 5, 5, 5, 7, 6, 7, 9], [0, 0, 0, 0, 0, 0, 0, 0, 0, 0, 0, 0, 0, 0, 0, 0, 0, 0, 0, 0, 0, 0, 0, 1, 0, 0, 0, 2, 0, 0, 2, 2, 0, 0, 3, 3, 3, 3, 3, 4, 5, 4, 5, 5, 7, 7, 7, 10], [0, 0, 0, 0, 0, 0, 0, 0, 0, 0, 0, 0, 0, 0, 0, 0, 0, 0, 0, 0, 0, 0, 0, 0, 1, 0, 0, 0, 0, 0, 0, 0, 2, 2, 0, 2, 0, 0, 0, 3, 3, 3, 3, 0, 5, 5, 4, 7], [0, 0, 0, 0, 0, 0, 0, 0, 0, 0, 0, 0, 0, 0, 0, 0, 0, 0, 0, 0, 0, 0, 0, 0, 0, 1, 0, 0, 0, 0, 0, 0, 2, 0, 2, 0, 0, 0, 0, 3, 3, 0, 0, 0, 4, 4, 0, 8], [0, 0, 0, 0, 0, 0, 0, 0, 0, 0, 0, 0, 0, 0, 0, 0, 0, 0, 0, 0, 0, 0, 0, 0, 0, 0, 1, 0, 0, 0, 0, 0, 0, 2, 2, 2, 0, 0, 0, 3, 3, 3, 3, 0, 5, 5, 4, 7], [0, 0, 0, 0, 0, 0, 0, 0, 0, 0, 0, 0, 0, 0, 0, 0, 0, 0, 0, 0, 0, 0, 0, 0, 0, 0, 0, 1, 0, 0, 0, 0, 0, 0, 2, 2, 2, 0, 2, 3, 3, 3, 3, 3, 5, 5, 5, 7], [0, 0, 0, 0, 0, 0, 0, 0, 0, 0, 0, 0, 0, 0, 0, 0, 0, 0, 0, 0, 0, 0, 0, 0, 0, 0, 0, 0, 1, 0, 0, 0, 2, 0, 0, 0, 2, 2, 0, 3, 3, 0, 3, 3, 5, 5, 4, 7], [0, 0, 0, 0, 0, 0, 0, 0, 0, 0, 0, 0, 0, 0, 0, 0, 0, 0, 0, 0, 0, 0, 0, 0, 0, 0, 0, 0, 0, 1, 0, 0, 0, 2, 0, 0, 2, 0, 2, 3, 0, 3, 3, 3, 4, 5, 5, 7], [0, 0, 0, 0, 0, 0, 0, 0, 0, 0, 0, 0, 0, 0, 0, 0, 0, 0, 0, 0, 0, 0, 0, 0, 0, 0, 0, 0, 0, 0, 1, 0, 0, 0, 2, 0, 2, 2, 0, 3, 3, 0, 3, 3, 5, 5, 4, 7], [0, 0, 0, 0, 0, 0, 0, 0, 0, 0, 0, 0, 0, 0, 0, 0, 0, 0, 0, 0, 0, 0, 0, 0, 0, 0, 0, 0, 0, 0, 0, 1, 0, 0, 0, 2, 0, 2, 2, 0, 3, 3, 3, 3, 4, 5, 5, 7], [0, 0, 0, 0, 0, 0, 0, 0, 0, 0, 0, 0, 0, 0, 0, 0, 0, 0, 0, 0, 0, 0, 0, 0, 0, 0, 0, 0, 0, 0, 0, 0, 1, 0, 0, 0, 0, 0, 0, 2, 2, 0, 0, 0, 3, 3, 0, 4], [0, 0, 0, 0, 0, 0, 0, 0, 0, 0, 0, 0, 0, 0, 0, 0, 0, 0, 0, 0, 0, 0, 0, 0, 0, 0, 0, 0, 0, 0, 0, 0, 0, 1, 0, 0, 0, 0, 0, 2, 0, 2, 2, 0, 3, 3, 3, 5], [0, 0, 0, 0, 0, 0, 0, 0, 0, 0, 0, 0, 0, 0, 0, 0, 0, 0, 0, 0, 0, 0, 0, 0, 0, 0, 0, 0, 0, 0, 0, 0, 0, 0, 1, 0, 0, 0, 0, 2, 2, 0, 0, 0, 3, 3, 0, 4], [0, 0, 0, 0, 0, 0, 0, 0, 0, 0, 0, 0, 0, 0, 0, 0, 0, 0, 0, 0, 0, 0, 0, 0, 0, 0, 0, 0, 0, 0, 0, 0, 0, 0, 0, 1, 0, 0, 0, 0, 2, 2, 2, 0, 3, 3, 3, 5], [0, 0, 0, 0, 0, 0, 0, 0, 0, 0, 0, 0, 0, 0, 0, 0, 0, 0, 0, 0, 0, 0, 0, 0, 0, 0, 0, 0, 0, 0, 0, 0, 0, 0, 0, 0, 1, 0, 0, 2, 0, 0, 2, 2, 3, 3, 3, 5], [0, 0, 0, 0, 0, 0, 0, 0, 0, 0, 0, 0, 0, 0, 0, 0, 0, 0, 0, 0, 0, 0, 0, 0, 0, 0, 0, 0, 0, 0, 0, 0, 0, 0, 0, 0, 0, 1, 0, 0, 2, 0, 2, 2, 3, 3, 3, 5], [0, 0, 0, 0, 0, 0, 0, 0, 0, 0, 0, 0, 0, 0, 0, 0, 0, 0, 0, 0, 0, 0, 0, 0, 0, 0, 0, 0, 0, 0, 0, 0, 0, 0, 0, 0, 0, 0, 1, 0, 0, 2, 0, 2, 0, 3, 3, 4], [0, 0, 0, 0, 0, 0, 0, 0, 0, 0, 0, 0, 0, 0, 0, 0, 0, 0, 0, 0, 0, 0, 0, 0, 0, 0, 0, 0, 0, 0, 0, 0, 0, 0, 0, 0, 0, 0, 0, 1, 0, 0, 0, 0, 2, 2, 0, 3], [0, 0, 0, 0, 0, 0, 0, 0, 0, 0, 0, 0, 0, 0, 0, 0, 0, 0, 0, 0, 0, 0, 0, 0, 0, 0, 0, 0, 0, 0, 0, 0, 0, 0, 0, 0, 0, 0, 0, 0, 1, 0, 0, 0, 2, 2, 0, 3], [0, 0, 0, 0, 0, 0, 0, 0, 0, 0, 0, 0, 0, 0, 0, 0, 0, 0, 0, 0, 0, 0, 0, 0, 0, 0, 0, 0, 0, 0, 0, 0, 0, 0, 0, 0, 0, 0, 0, 0, 0, 1, 0, 0, 0, 2, 2, 3], [0, 0, 0, 0, 0, 0, 0, 0, 0, 0, 0, 0, 0, 0, 0, 0, 0, 0, 0, 0, 0, 0, 0, 0, 0, 0, 0, 0, 0, 0, 0, 0, 0, 0, 0, 0, 0, 0, 0, 0, 0, 0, 1, 0, 2, 0, 2, 3], [0, 0, 0, 0, 0, 0, 0, 0, 0, 0, 0, 0, 0, 0, 0, 0, 0, 0, 0, 0, 0, 0, 0, 0, 0, 0, 0, 0, 0, 0, 0, 0, 0, 0, 0, 0, 0, 0, 0, 0, 0, 0, 0, 1, 0, 2, 2, 3], [0, 0, 0, 0, 0, 0, 0, 0, 0, 0, 0, 0, 0, 0, 0, 0, 0, 0, 0, 0, 0, 0, 0, 0, 0, 0, 0, 0, 0, 0, 0, 0, 0, 0, 0, 0, 0, 0, 0, 0, 0, 0, 0, 0, 1, 0, 0, 2], [0, 0, 0, 0, 0, 0, 0, 0, 0, 0, 0, 0, 0, 0, 0, 0, 0, 0, 0, 0, 0, 0, 0, 0, 0, 0, 0, 0, 0, 0, 0, 0, 0, 0, 0, 0, 0, 0, 0, 0, 0, 0, 0, 0, 0, 1, 0, 2], [0, 0, 0, 0, 0, 0, 0, 0, 0, 0, 0, 0, 0, 0, 0, 0, 0, 0, 0, 0, 0, 0, 0, 0, 0, 0, 0, 0, 0, 0, 0, 0, 0, 0, 0, 0, 0, 0, 0, 0, 0, 0, 0, 0, 0, 0, 1, 2], [0, 0, 0, 0, 0, 0, 0, 0, 0, 0, 0, 0, 0, 0, 0, 0, 0, 0, 0, 0, 0, 0, 0, 0, 0, 0, 0, 0, 0, 0, 0, 0, 0, 0, 0, 0, 0, 0, 0, 0, 0, 0, 0, 0, 0, 0, 0, 1]]
def kC66x3 : List (List Int) := [[], [1], [1, 1], [1, 0, 1], [1, 1, 1]]
def kD66x3 : List (List Nat) := [[1, 1, 1, 1, 1, 1, 1, 1, 1, 1, 1, 1, 1, 1, 1, 1, 1, 1, 1, 1, 2, 1, 1, 1, 1, 2, 1, 2, 1, 2, 1, 2, 1, 1, 2, 2, 2, 1, 3, 2, 2, 1, 4, 1, 3, 2, 1, 1], [0, 1, 0, 0, 1, 1, 1, 0, 0, 1, 1, 1, 1, 0, 1, 0, 1, 1, 1, 1, 1, 1, 0, 1, 1, 2, 1, 2, 1, 1, 1, 1, 1, 1, 2, 2, 2, 1, 1, 2, 2, 1, 2, 1, 3, 2, 1, 1], [0, 0, 1, 0, 1, 0, 1, 1, 1, 1, 1, 1, 1, 1, 1, 1, 1, 1, 1, 1, 2, 1, 1, 1, 1, 1, 1, 1, 1, 2, 1, 2, 1, 1, 1, 2, 2, 1, 1, 2, 2, 1, 4, 1, 3, 2, 1, 1], [0, 0, 0, 1, 0, 1, 0, 1, 1, 0, 1, 1, 1, 1, 1, 1, 1, 1, 1, 1, 1, 1, 1, 1, 1, 2, 1, 2, 1, 2, 1, 2, 1, 1, 2, 2, 2, 1, 3, 2, 2, 1, 2, 1, 1, 2, 1, 1], [0, 0, 0, 0, 1, 0, 0, 0, 0, 1, 1, 1, 0, 0, 0, 0, 1, 1, 1, 1, 1, 0, 0, 0, 1, 1, 1, 1, 1, 1, 0, 1, 1, 1, 1, 2, 1, 1, 1, 2, 2, 1, 2, 1, 3, 2, 1, 1], [0, 0, 0, 0, 0, 1, 0, 0, 0, 0, 1, 1, 1, 0, 1, 0, 1, 1, 1, 1, 1, 1, 0, 1, 1, 2, 1, 2, 1, 1, 1, 1, 1, 1, 2, 2, 2, 1, 1, 2, 2, 1, 2, 1, 1, 2, 1, 1], [0, 0, 0, 0, 0, 0, 1, 0, 0, 1, 0, 0, 1, 0, 1, 0, 1, 0, 1, 0, 1, 1, 0, 1, 1, 1, 0, 1, 1, 1, 1, 1, 1, 1, 1, 1, 2, 1, 1, 2, 2, 1, 2, 1, 3, 2, 1, 1], [0, 0, 0, 0, 0, 0, 0, 1, 0, 0, 1, 0, 1, 1, 0, 1, 1, 1, 0, 1, 1, 1, 1, 1, 1, 1, 1, 1, 1, 2, 1, 1, 1, 1, 1, 1, 2, 1, 1, 2, 1, 1, 2, 1, 1, 2, 1, 1], [0, 0, 0, 0, 0, 0, 0, 0, 1, 0, 0, 1, 0, 1, 1, 1, 0, 1, 1, 1, 1, 1, 1, 1, 1, 1, 1, 1, 1, 1, 1, 2, 1, 1, 1, 2, 1, 1, 1, 1, 2, 1, 2, 1, 1, 2, 1, 1], [0, 0, 0, 0, 0, 0, 0, 0, 0, 1, 0, 0, 0, 0, 0, 0, 1, 0, 1, 0, 1, 0, 0, 0, 1, 1, 0, 1, 1, 1, 0, 1, 1, 1, 1, 1, 1, 1, 1, 2, 2, 1, 2, 1, 3, 2, 1, 1], [0, 0, 0, 0, 0, 0, 0, 0, 0, 0, 1, 0, 0, 0, 0, 0, 1, 1, 0, 1, 0, 0, 0, 0, 1, 1, 1, 1, 0, 1, 0, 0, 1, 1, 1, 1, 1, 0, 1, 2, 1, 1, 1, 1, 1, 2, 1, 1], [0, 0, 0, 0, 0, 0, 0, 0, 0, 0, 0, 1, 0, 0, 0, 0, 0, 1, 1, 1, 1, 0, 0, 0, 1, 1, 1, 1, 1, 1, 0, 1, 1, 1, 1, 2, 1, 1, 1, 1, 2, 1, 2, 1, 1, 2, 1, 1], [0, 0, 0, 0, 0, 0, 0, 0, 0, 0, 0, 0, 1, 0, 0, 0, 1, 0, 0, 0, 1, 1, 0, 1, 1, 1, 0, 1, 1, 1, 1, 1, 1, 1, 1, 1, 2, 1, 1, 2, 1, 1, 2, 1, 1, 2, 1, 1], [0, 0, 0, 0, 0, 0, 0, 0, 0, 0, 0, 0, 0, 1, 0, 0, 0, 1, 0, 0, 1, 1, 1, 0, 1, 1, 1, 0, 1, 1, 1, 1, 1, 1, 1, 1, 1, 1, 1, 1, 1, 1, 2, 1, 1, 1, 1, 1], [0, 0, 0, 0, 0, 0, 0, 0, 0, 0, 0, 0, 0, 0, 1, 0, 0, 0, 1, 0, 0, 1, 0, 1, 0, 1, 0, 1, 1, 0, 1, 1, 1, 0, 1, 1, 1, 1, 1, 1, 2, 1, 1, 1, 1, 2, 1, 1], [0, 0, 0, 0, 0, 0, 0, 0, 0, 0, 0, 0, 0, 0, 0, 1, 0, 0, 0, 1, 0, 0, 1, 1, 0, 0, 1, 1, 0, 1, 1, 1, 0, 1, 1, 1, 1, 1, 1, 1, 1, 1, 2, 1, 1, 2, 1, 1], [0, 0, 0, 0, 0, 0, 0, 0, 0, 0, 0, 0, 0, 0, 0, 0, 1, 0, 0, 0, 0, 0, 0, 0, 1, 1, 0, 1, 0, 1, 0, 0, 1, 1, 1, 1, 1, 0, 1, 2, 1, 1, 1, 1, 1, 2, 1, 1], [0, 0, 0, 0, 0, 0, 0, 0, 0, 0, 0, 0, 0, 0, 0, 0, 0, 1, 0, 0, 0, 0, 0, 0, 1, 1, 1, 0, 0, 0, 0, 0, 1, 1, 1, 1, 0, 0, 0, 1, 1, 1, 1, 0, 1, 1, 1, 1], [0, 0, 0, 0, 0, 0, 0, 0, 0, 0, 0, 0, 0, 0, 0, 0, 0, 0, 1, 0, 0, 0, 0, 0, 0, 1, 0, 1, 1, 0, 0, 1, 1, 0, 1, 1, 1, 1, 1, 1, 2, 1, 1, 1, 1, 2, 1, 1], [0, 0, 0, 0, 0, 0, 0, 0, 0, 0, 0, 0, 0, 0, 0, 0, 0, 0, 0, 1, 0, 0, 0, 0, 0, 0, 1, 1, 0, 1, 0, 0, 0, 1, 1, 1, 1, 0, 1, 1, 1, 1, 1, 1, 1, 2, 1, 1], [0, 0, 0, 0, 0, 0, 0, 0, 0, 0, 0, 0, 0, 0, 0, 0, 0, 0, 0, 0, 1, 0, 0, 0, 1, 0, 0, 0, 1, 1, 0, 1, 1, 1, 0, 1, 1, 1, 1, 1, 1, 1, 2, 1, 1, 1, 1, 1], [0, 0, 0, 0, 0, 0, 0, 0, 0, 0, 0, 0, 0, 0, 0, 0, 0, 0, 0, 0, 0, 1, 0, 0, 0, 1, 0, 0, 1, 0, 1, 0, 1, 0, 1, 0, 1, 1, 0, 1, 1, 0, 1, 1, 1, 1, 1, 1], [0, 0, 0, 0, 0, 0, 0, 0, 0, 0, 0, 0, 0, 0, 0, 0, 0, 0, 0, 0, 0, 0, 1, 0, 0, 0, 1, 0, 0, 1, 1, 1, 0, 1, 1, 1, 1, 1, 1, 1, 1, 1, 2, 1, 1, 1, 1, 1], [0, 0, 0, 0, 0, 0, 0, 0, 0, 0, 0, 0, 0, 0, 0, 0, 0, 0, 0, 0, 0, 0, 0, 1, 0, 0, 0, 1, 0, 0, 1, 1, 0, 0, 1, 1, 1, 1, 1, 1, 1, 1, 1, 1, 1, 2, 1, 1], [0, 0, 0, 0, 0, 0, 0, 0, 0, 0, 0, 0, 0, 0, 0, 0, 0, 0, 0, 0, 0, 0, 0, 0, 1, 0, 0, 0, 0, 0, 0, 0, 1, 1, 0, 1, 0, 0, 0, 1, 1, 1, 1, 0, 1, 1, 1, 1], [0, 0, 0, 0, 0, 0, 0, 0, 0, 0, 0, 0, 0, 0, 0, 0, 0, 0, 0, 0, 0, 0, 0, 0, 0, 1, 0, 0, 0, 0, 0, 0, 1, 0, 1, 0, 0, 0, 0, 1, 1, 0, 0, 0, 1, 1, 0, 1], [0, 0, 0, 0, 0, 0, 0, 0, 0, 0, 0, 0, 0, 0, 0, 0, 0, 0, 0, 0, 0, 0, 0, 0, 0, 0, 1, 0, 0, 0, 0, 0, 0, 1, 1, 1, 0, 0, 0, 1, 1, 1, 1, 0, 1, 1, 1, 1], [0, 0, 0, 0, 0, 0, 0, 0, 0, 0, 0, 0, 0, 0, 0, 0, 0, 0, 0, 0, 0, 0, 0, 0, 0, 0, 0, 1, 0, 0, 0, 0, 0, 0, 1, 1, 1, 0, 1, 1, 1, 1, 1, 1, 1, 2, 1, 1], [0, 0, 0, 0, 0, 0, 0, 0, 0, 0, 0, 0, 0, 0, 0, 0, 0, 0, 0, 0, 0, 0, 0, 0, 0, 0, 0, 0, 1, 0, 0, 0, 1, 0, 0, 0, 1, 1, 0, 1, 1, 0, 1, 1, 1, 1, 1, 1], [0, 0, 0, 0, 0, 0, 0, 0, 0, 0, 0, 0, 0, 0, 0, 0, 0, 0, 0, 0, 0, 0, 0, 0, 0, 0, 0, 0, 0, 1, 0, 0, 0, 1, 0, 0, 1, 0, 1, 1, 0, 1, 1, 1, 1, 1, 1, 1], [0, 0, 0, 0, 0, 0, 0, 0, 0, 0, 0, 0, 0, 0, 0, 0, 0, 0, 0, 0, 0, 0, 0, 0, 0, 0, 0, 0, 0, 0, 1, 0, 0, 0, 1, 0, 1, 1, 0, 1, 1, 0, 1, 1, 1, 1, 1, 1], [0, 0, 0, 0, 0, 0, 0, 0, 0, 0, 0, 0, 0, 0, 0, 0, 0, 0, 0, 0, 0, 0, 0, 0, 0, 0, 0, 0, 0, 0, 0, 1, 0, 0, 0, 1, 0, 1, 1, 0, 1, 1, 1, 1, 1, 1, 1, 1], [0, 0, 0, 0, 0, 0, 0, 0, 0, 0, 0, 0, 0, 0, 0, 0, 0, 0, 0, 0, 0, 0, 0, 0, 0, 0, 0, 0, 0, 0, 0, 0, 1, 0, 0, 0, 0, 0, 0, 1, 1, 0, 0, 0, 1, 1, 0, 1], [0, 0, 0, 0, 0, 0, 0, 0, 0, 0, 0, 0, 0, 0, 0, 0, 0, 0, 0, 0, 0, 0, 0, 0, 0, 0, 0, 0, 0, 0, 0, 0, 0, 1, 0, 0, 0, 0, 0, 1, 0, 1, 1, 0, 1, 1, 1, 1], [0, 0, 0, 0, 0, 0, 0, 0, 0, 0, 0, 0, 0, 0, 0, 0, 0, 0, 0, 0, 0, 0, 0, 0, 0, 0, 0, 0, 0, 0, 0, 0, 0, 0, 1, 0, 0, 0, 0, 1, 1, 0, 0, 0, 1, 1, 0, 1], [0, 0, 0, 0, 0, 0, 0, 0, 0, 0, 0, 0, 0, 0, 0, 0, 0, 0, 0, 0, 0, 0, 0, 0, 0, 0, 0, 0, 0, 0, 0, 0, 0, 0, 0, 1, 0, 0, 0, 0, 1, 1, 1, 0, 1, 1, 1, 1], [0, 0, 0, 0, 0, 0, 0, 0, 0, 0, 0, 0, 0, 0, 0, 0, 0, 0, 0, 0, 0, 0, 0, 0, 0, 0, 0, 0, 0, 0, 0, 0, 0, 0, 0, 0, 1, 0, 0, 1, 0, 0, 1, 1, 1, 1, 1, 1], [0, 0, 0, 0, 0, 0, 0, 0, 0, 0, 0, 0, 0, 0, 0, 0, 0, 0, 0, 0, 0, 0, 0, 0, 0, 0, 0, 0, 0, 0, 0, 0, 0, 0, 0, 0, 0, 1, 0, 0, 1, 0, 1, 1, 1, 1, 1, 1], [0, 0, 0, 0, 0, 0, 0, 0, 0, 0, 0, 0, 0, 0, 0, 0, 0, 0, 0, 0, 0, 0, 0, 0, 0, 0, 0, 0, 0, 0, 0, 0, 0, 0, 0, 0, 0, 0, 1, 0, 0, 1, 0, 1, 0, 1, 1, 1], [0, 0, 0, 0, 0, 0, 0, 0, 0, 0, 0, 0, 0, 0, 0, 0, 0, 0, 0, 0, 0, 0, 0, 0, 0, 0, 0, 0, 0, 0, 0, 0, 0, 0, 0, 0, 0, 0, 0, 1, 0, 0, 0, 0, 1, 1, 0, 1], [0, 0, 0, 0, 0, 0, 0, 0, 0, 0, 0, 0, 0, 0, 0, 0, 0, 0, 0, 0, 0, 0, 0, 0, 0, 0, 0, 0, 0, 0, 0, 0, 0, 0, 0, 0, 0, 0, 0, 0, 1, 0, 0, 0, 1, 1, 0, 1], [0, 0, 0, 0, 0, 0, 0, 0, 0, 0, 0, 0, 0, 0, 0, 0, 0, 0, 0, 0, 0, 0, 0, 0, 0, 0, 0, 0, 0, 0, 0, 0, 0, 0, 0, 0, 0, 0, 0, 0, 0, 1, 0, 0, 0, 1, 1, 1], [0, 0, 0, 0, 0, 0, 0, 0, 0, 0, 0, 0, 0, 0, 0, 0, 0, 0, 0, 0, 0, 0, 0, 0, 0, 0, 0, 0, 0, 0, 0, 0, 0, 0, 0, 0, 0, 0, 0, 0, 0, 0, 1, 0, 1, 0, 1, 1], [0, 0, 0, 0, 0, 0, 0, 0, 0, 0, 0, 0, 0, 0, 0, 0, 0, 0, 0, 0, 0, 0, 0, 0, 0, 0, 0, 0, 0, 0, 0, 0, 0, 0, 0, 0, 0, 0, 0, 0, 0, 0, 0, 1, 0, 1, 1, 1], [0, 0, 0, 0, 0, 0, 0, 0, 0, 0, 0, 0, 0, 0, 0, 0, 0, 0, 0, 0, 0, 0, 0, 0, 0, 0, 0, 0, 0, 0, 0, 0, 0, 0, 0, 0, 0, 0, 0, 0, 0, 0, 0, 0, 1, 0, 0, 1], [0, 0, 0, 0, 0, 0, 0, 0, 0, 0, 0, 0, 0, 0, 0, 0, 0, 0, 0, 0, 0, 0, 0, 0, 0, 0, 0, 0, 0, 0, 0, 0, 0, 0, 0, 0, 0, 0, 0, 0, 0, 0, 0, 0, 0, 1, 0, 1], [0, 0, 0, 0, 0, 0, 0, 0, 0, 0, 0, 0, 0, 0, 0, 0, 0, 0, 0, 0, 0, 0, 0, 0, 0, 0, 0, 0, 0, 0, 0, 0, 0, 0, 0, 0, 0, 0, 0, 0, 0, 0, 0, 0, 0, 0, 1, 1], [0, 0, 0, 0, 0, 0, 0, 0, 0, 0, 0, 0, 0, 0, 0, 0, 0, 0, 0, 0, 0, 0, 0, 0, 0, 0, 0, 0, 0, 0, 0, 0, 0, 0, 0, 0, 0, 0, 0, 0, 0, 0, 0, 0, 0, 0, 0, 1]]
def kA73x2 : List (List Int) := [[], [1], [-1, 1], [1, -2, 1]]
def kB73x2 : List (List Nat) := [[1, 2, 2, 3], [0, 1, 0, 2], [0, 0, 1, 2], [0, 0, 0, 1]]
def kC73x2 : List (List Int) := [[], [1]]
def kD73x2 : List (List Nat) := [[1, 1, 1, 1], [0, 1, 0, 1], [0, 0, 1, 1], [0, 0, 0, 1]]
def kA73x3 : List (List Int) := [[], [1], [-1, 1], [1, -2, 1], [-1, 2, -2, 1]]
def kB73x3 : List (List Nat) := [[1, 2, 2, 3, 3, 4], [0, 1, 0, 2, 2, 3], [0, 0, 1, 2, 2, 3], [0, 0, 0, 1, 0, 2], [0, 0, 0, 0, 1, 2], [0, 0, 0, 0, 0, 1]]
def kC73x3 : List (List Int) := [[], [1]]
def kD73x3 : List (List Nat) := [[1, 1, 1, 1, 1, 1], [0, 1, 0, 1, 1, 1], [0, 0, 1, 1, 1, 1], [0, 0, 0, 1, 0, 1], [0, 0, 0, 0, 1, 1], [0, 0, 0, 0, 0, 1]]
def kA73x4 : List (List Int) := [[], [1], [-1, 1], [1, -2, 1], [-1, 2, -2, 1], [1, -2, 2, -2, 1]]
def kB73x4 : List (List Nat) := [[1, 2, 2, 3, 3, 4, 4, 5], [0, 1, 0, 2, 2, 3, 3, 4], [0, 0, 1, 2, 2, 3, 3, 4], [0, 0, 0, 1, 0, 2, 2, 3], [0, 0, 0, 0, 1, 2, 2, 3], [0, 0, 0, 0, 0, 1, 0, 2], [0, 0, 0, 0, 0, 0, 1, 2], [0, 0, 0, 0, 0, 0, 0, 1]]
def kC73x4 : List (List Int) := [[], [1]]
def kD73x4 : List (List Nat) := [[1, 1, 1, 1, 1, 1, 1, 1], [0, 1, 0, 1, 1, 1, 1, 1], [0, 0, 1, 1, 1, 1, 1, 1], [0, 0, 0, 1, 0, 1, 1, 1], [0, 0, 0, 0, 1, 1, 1, 1], [0, 0, 0, 0, 0, 1, 0, 1], [0, 0, 0, 0, 0, 0, 1, 1], [0, 0, 0, 0, 0, 0, 0, 1]]
def kA73x5 : List (List Int) := [[], [1], [-1, 1], [1, -2, 1], [-1, 2, -2, 1], [1, -2, 2, -2, 1], [-1, 2, -2, 2, -2, 1]]
def kB73x5 : List (List Nat) := [[1, 2, 2, 3, 3, 4, 4, 5, 5, 6], [0, 1, 0, 2, 2, 3, 3, 4, 4, 5], [0, 0, 1, 2, 2, 3, 3, 4, 4, 5], [0, 0, 0, 1, 0, 2, 2, 3, 3, 4], [0, 0, 0, 0, 1, 2, 2, 3, 3, 4], [0, 0, 0, 0, 0, 1, 0, 2, 2, 3], [0, 0, 0, 0, 0, 0, 1, 2, 2, 3], [0, 0, 0, 0, 0, 0, 0, 1, 0, 2], [0, 0, 0, 0, 0, 0, 0, 0, 1, 2], [0, 0, 0, 0, 0, 0, 0, 0, 0, 1]]
def kC73x5 : List (List Int) := [[], [1]]
def kD73x5 : List (List Nat) := [[1, 1, 1, 1, 1, 1, 1, 1, 1, 1], [0, 1, 0, 1, 1, 1, 1, 1, 1, 1], [0, 0, 1, 1, 1, 1, 1, 1, 1, 1], [0, 0, 0, 1, 0, 1, 1, 1, 1, 1], [0, 0, 0, 0, 1, 1, 1, 1, 1, 1], [0, 0, 0, 0, 0, 1, 0, 1, 1, 1], [0, 0, 0, 0, 0, 0, 1, 1, 1, 1], [0, 0, 0, 0, 0, 0, 0, 1, 0, 1], [0, 0, 0, 0, 0, 0, 0, 0, 1, 1], [0, 0, 0, 0, 0, 0, 0, 0, 0, 1]]
def kA73x6 : List (List Int) := [[], [1], [-1, 1], [1, -2, 1], [-1, 2, -2, 1], [1, -2, 2, -2, 1], [-1, 2, -2, 2, -2, 1], [1, -2, 2, -2, 2, -2, 1]]
def kB73x6 : List (List Nat) := [[1, 2, 2, 3, 3, 4, 4, 5, 5, 6, 6, 7], [0, 1, 0, 2, 2, 3, 3, 4, 4, 5, 5, 6], [0, 0, 1, 2, 2, 3, 3, 4, 4, 5, 5, 6], [0, 0, 0, 1, 0, 2, 2, 3, 3, 4, 4, 5], [0, 0, 0, 0, 1, 2, 2, 3, 3, 4, 4, 5], [0, 0, 0, 0, 0, 1, 0, 2, 2, 3, 3, 4], [0, 0, 0, 0, 0, 0, 1, 2, 2, 3, 3, 4], [0, 0, 0, 0, 0, 0, 0, 1, 0, 2, 2, 3], [0, 0, 0, 0, 0, 0, 0, 0, 1, 2, 2, 3], [0, 0, 0, 0, 0, 0, 0, 0, 0, 1, 0, 2], [0, 0, 0, 0, 0, 0, 0, 0, 0, 0, 1, 2], [0, 0, 0, 0, 0, 0, 0, 0, 0, 0, 0, 1]]
def kC73x6 : List (List Int) := [[], [1]]
def kD73x6 : List (List Nat) := [[1, 1, 1, 1, 1, 1, 1, 1, 1, 1, 1, 1], [0, 1, 0, 1, 1, 1, 1, 1, 1, 1, 1, 1], [0, 0, 1, 1, 1, 1, 1, 1, 1, 1, 1, 1], [0, 0, 0, 1, 0, 1, 1, 1, 1, 1, 1, 1], [0, 0, 0, 0, 1, 1, 1, 1, 1, 1, 1, 1], [0, 0, 0, 0, 0, 1, 0, 1, 1, 1, 1, 1], [0, 0, 0, 0, 0, 0, 1, 1, 1, 1, 1, 1], [0, 0, 0, 0, 0, 0, 0, 1, 0, 1, 1, 1], [0, 0, 0, 0, 0, 0, 0, 0, 1, 1, 1, 1], [0, 0, 0, 0, 0, 0, 0, 0, 0, 1, 0, 1], [0, 0, 0, 0, 0, 0, 0, 0, 0, 0, 1, 1], [0, 0, 0, 0, 0, 0, 0, 0, 0, 0, 0, 1]]
def kA73x7 : List (List Int) := [[], [1], [-1, 1], [1, -2, 1], [-1, 2, -2, 1], [1, -2, 2, -2, 1], [-1, 2, -2, 2, -2, 1], [1, -2, 2, -2, 2, -2, 1], [-1, 2, -2, 2, -2, 2, -2, 1]]
def kB73x7 : List (List Nat) := [[1, 2, 2, 3, 3, 4, 4, 5, 5, 6, 6, 7, 7, 8], [0, 1, 0, 2, 2, 3, 3, 4, 4, 5, 5, 6, 6, 7], [0, 0, 1, 2, 2, 3, 3, 4, 4, 5, 5, 6, 6, 7], [0, 0, 0, 1, 0, 2, 2, 3, 3, 4, 4, 5, 5, 6], [0, 0, 0, 0, 1, 2, 2, 3, 3, 4, 4, 5, 5, 6], [0, 0, 0, 0, 0, 1, 0, 2, 2, 3, 3, 4, 4, 5], [0, 0, 0, 0, 0, 0, 1, 2, 2, 3, 3, 4, 4, 5], [0, 0, 0, 0, 0, 0, 0, 1, 0, 2, 2, 3, 3, 4], [0, 0, 0, 0, 0, 0, 0, 0, 1, 2, 2, 3, 3, 4], [0, 0, 0, 0, 0, 0, 0, 0, 0, 1, 0, 2, 2, 3], [0, 0, 0, 0, 0, 0, 0, 0, 0, 0, 1, 2, 2, 3], [0, 0, 0, 0, 0, 0, 0, 0, 0, 0, 0, 1, 0, 2], [0, 0, 0, 0, 0, 0, 0, 0, 0, 0, 0, 0, 1, 2], [0, 0, 0, 0, 0, 0, 0, 0, 0, 0, 0, 0, 0, 1]]
def kC73x7 : List (List Int) := [[], [1]]
def kD73x7 : List (List Nat) := [[1, 1, 1, 1, 1, 1, 1, 1, 1, 1, 1, 1, 1, 1], [0, 1, 0, 1, 1, 1, 1, 1, 1, 1, 1, 1, 1, 1], [0, 0, 1, 1, 1, 1, 1, 1, 1, 1, 1, 1, 1, 1], [0, 0, 0, 1, 0, 1, 1, 1, 1, 1, 1, 1, 1, 1], [0, 0, 0, 0, 1, 1, 1, 1, 1, 1, 1, 1, 1, 1], [0, 0, 0, 0, 0, 1, 0, 1, 1, 1, 1, 1, 1, 1], [0, 0, 0, 0, 0, 0, 1, 1, 1, 1, 1, 1, 1, 1], [0, 0, 0, 0, 0, 0, 0, 1, 0, 1, 1, 1, 1, 1], [0, 0, 0, 0, 0, 0, 0, 0, 1, 1, 1, 1, 1, 1], [0, 0, 0, 0, 0, 0, 0, 0, 0, 1, 0, 1, 1, 1], [0, 0, 0, 0, 0, 0, 0, 0, 0, 0, 1, 1, 1, 1], [0, 0, 0, 0, 0, 0, 0, 0, 0, 0, 0, 1, 0, 1], [0, 0, 0, 0, 0, 0, 0, 0, 0, 0, 0, 0, 1, 1], [0, 0, 0, 0, 0, 0, 0, 0, 0, 0, 0, 0, 0, 1]]
def kA73x8 : List (List Int) := [[], [1], [-1, 1], [1, -2, 1], [-1, 2, -2, 1], [1, -2, 2, -2, 1], [-1, 2, -2, 2, -2, 1], [1, -2, 2, -2, 2, -2, 1], [-1, 2, -2, 2, -2, 2, -2, 1], [1, -2, 2, -2, 2, -2, 2, -2, 1]]
def kB73x8 : List (List Nat) := [[1, 2, 2, 3, 3, 4, 4, 5, 5, 6, 6, 7, 7, 8, 8, 9], [0, 1, 0, 2, 2, 3, 3, 4, 4, 5, 5, 6, 6, 7, 7, 8], [0, 0, 1, 2, 2, 3, 3, 4, 4, 5, 5, 6, 6, 7, 7, 8], [0, 0, 0, 1, 0, 2, 2, 3, 3, 4, 4, 5, 5, 6, 6, 7], [0, 0, 0, 0, 1, 2, 2, 3, 3, 4, 4, 5, 5, 6, 6, 7], [0, 0, 0, 0, 0, 1, 0, 2, 2, 3, 3, 4, 4, 5, 5, 6], [0, 0, 0, 0, 0, 0, 1, 2, 2, 3, 3, 4, 4, 5, 5, 6], [0, 0, 0, 0, 0, 0, 0, 1, 0, 2, 2, 3, 3, 4, 4, 5], [0, 0, 0, 0, 0, 0, 0, 0, 1, 2, 2, 3, 3, 4, 4, 5], [0, 0, 0, 0, 0, 0, 0, 0, 0, 1, 0, 2, 2, 3, 3, 4], [0, 0, 0, 0, 0, 0, 0, 0, 0, 0, 1, 2, 2, 3, 3, 4], [0, 0, 0, 0, 0, 0, 0, 0, 0, 0, 0, 1, 0, 2, 2, 3], [0, 0, 0, 0, 0, 0, 0, 0, 0, 0, 0, 0, 1, 2, 2, 3], [0, 0, 0, 0, 0, 0, 0, 0, 0, 0, 0, 0, 0, 1, 0, 2], [0, 0, 0, 0, 0, 0, 0, 0, 0, 0, 0, 0, 0, 0, 1, 2], [0, 0, 0, 0, 0, 0, 0, 0, 0, 0, 0, 0, 0, 0, 0, 1]]
def kC73x8 : List (List Int) := [[], [1]]
def kD73x8 : List (List Nat) := [[1, 1, 1, 1, 1, 1, 1, 1, 1, 1, 1, 1, 1, 1, 1, 1], [0, 1, 0, 1, 1, 1, 1, 1, 1, 1, 1, 1, 1, 1, 1, 1], [0, 0, 1, 1, 1, 1, 1, 1, 1, 1, 1, 1, 1, 1, 1, 1], [0, 0, 0, 1, 0, 1, 1, 1, 1, 1, 1, 1, 1, 1, 1, 1], [0, 0, 0, 0, 1, 1, 1, 1, 1, 1, 1, 1, 1, 1, 1, 1], [0, 0, 0, 0, 0, 1, 0, 1, 1, 1, 1, 1, 1, 1, 1, 1], [0, 0, 0, 0, 0, 0, 1, 1, 1, 1, 1, 1, 1, 1, 1, 1], [0, 0, 0, 0, 0, 0, 0, 1, 0, 1, 1, 1, 1, 1, 1, 1], [0, 0, 0, 0, 0, 0, 0, 0, 1, 1, 1, 1, 1, 1, 1, 1], [0, 0, 0, 0, 0, 0, 0, 0, 0, 1, 0, 1, 1, 1, 1, 1], [0, 0, 0, 0, 0, 0, 0, 0, 0, 0, 1, 1, 1, 1, 1, 1], [0, 0, 0, 0, 0, 0, 0, 0, 0, 0, 0, 1, 0, 1, 1, 1], [0, 0, 0, 0, 0, 0, 0, 0, 0, 0, 0, 0, 1, 1, 1, 1], [0, 0, 0, 0, 0, 0, 0, 0, 0, 0, 0, 0, 0, 1, 0, 1], [0, 0, 0, 0, 0, 0, 0, 0, 0, 0, 0, 0, 0, 0, 1, 1], [0, 0, 0, 0, 0, 0, 0, 0, 0, 0, 0, 0, 0, 0, 0, 1]]
def kA73x9 : List (List Int) := [[], [1], [-1, 1], [1, -2, 1], [-1, 2, -2, 1], [1, -2, 2, -2, 1], [-1, 2, -2, 2, -2, 1], [1, -2, 2, -2, 2, -2, 1], [-1, 2, -2, 2, -2, 2, -2, 1], [1, -2, 2, -2, 2, -2, 2, -2, 1], [-1, 2, -2, 2, -2, 2, -2, 2, -2, 1]]
def kB73x9 : List (List Nat) := [[1, 2, 2, 3, 3, 4, 4, 5, 5, 6, 6, 7, 7, 8, 8, 9, 9, 10], [0, 1, 0, 2, 2, 3, 3, 4, 4, 5, 5, 6, 6, 7, 7, 8, 8, 9], [0, 0, 1, 2, 2, 3, 3, 4, 4, 5, 5, 6, 6, 7, 7, 8, 8, 9], [0, 0, 0, 1, 0, 2, 2, 3, 3, 4, 4, 5, 5, 6, 6, 7, 7, 8], [0, 0, 0, 0, 1, 2, 2, 3, 3, 4, 4, 5, 5, 6, 6, 7, 7, 8], [0, 0, 0, 0, 0, 1, 0, 2, 2, 3, 3, 4, 4, 5, 5, 6, 6, 7], [0, 0, 0, 0, 0, 0, 1, 2, 2, 3, 3, 4, 4, 5, 5, 6, 6, 7], [0, 0, 0, 0, 0, 0, 0, 1, 0, 2, 2, 3, 3, 4, 4, 5, 5, 6], [0, 0, 0, 0, 0, 0, 0, 0, 1, 2, 2, 3, 3, 4, 4, 5, 5, 6], [0, 0, 0, 0, 0, 0, 0, 0, 0, 1, 0, 2, 2, 3, 3, 4, 4, 5], [0, 0, 0, 0, 0, 0, 0, 0, 0, 0, 1, 2, 2, 3, 3, 4, 4, 5], [0, 0, 0, 0, 0, 0, 0, 0, 0, 0, 0, 1, 0, 2, 2, 3, 3, 4], [0, 0, 0, 0, 0, 0, 0, 0, 0, 0, 0, 0, 1, 2, 2, 3, 3, 4], [0, 0, 0, 0, 0, 0, 0, 0, 0, 0, 0, 0, 0, 1, 0, 2, 2, 3], [0, 0, 0, 0, 0, 0, 0, 0, 0, 0, 0, 0, 0, 0, 1, 2, 2, 3], [0, 0, 0, 0, 0, 0, 0, 0, 0, 0, 0, 0, 0, 0, 0, 1, 0, 2], [0, 0, 0, 0, 0, 0, 0, 0, 0, 0, 0, 0, 0, 0, 0, 0, 1, 2], [0, 0, 0, 0, 0, 0, 0, 0, 0, 0, 0, 0, 0, 0, 0, 0, 0, 1]]
def kC73x9 : List (List Int) := [[], [1]]
def kD73x9 : List (List Nat) := [[1, 1, 1, 1, 1, 1, 1, 1, 1, 1, 1, 1, 1, 1, 1, 1, 1, 1], [0, 1, 0, 1, 1, 1, 1, 1, 1, 1, 1, 1, 1, 1, 1, 1, 1, 1], [0, 0, 1, 1, 1, 1, 1, 1, 1, 1, 1, 1, 1, 1, 1, 1, 1, 1], [0, 0, 0, 1, 0, 1, 1, 1, 1, 1, 1, 1, 1, 1, 1, 1, 1, 1], [0, 0, 0, 0, 1, 1, 1, 1, 1, 1, 1, 1, 1, 1, 1, 1, 1, 1], [0, 0, 0, 0, 0, 1, 0, 1, 1, 1, 1, 1, 1, 1, 1, 1, 1, 1], [0, 0, 0, 0, 0, 0, 1, 1, 1, 1, 1, 1, 1, 1, 1, 1, 1, 1], [0, 0, 0, 0, 0, 0, 0, 1, 0, 1, 1, 1, 1, 1, 1, 1, 1, 1], [0, 0, 0, 0, 0, 0, 0, 0, 1, 1, 1, 1, 1, 1, 1, 1, 1, 1], [0, 0, 0, 0, 0, 0, 0, 0, 0, 1, 0, 1, 1, 1, 1, 1, 1, 1], [0, 0, 0, 0, 0, 0, 0, 0, 0, 0, 1, 1, 1, 1, 1, 1, 1, 1], [0, 0, 0, 0, 0, 0, 0, 0, 0, 0, 0, 1, 0, 1, 1, 1, 1, 1], [0, 0, 0, 0, 0, 0, 0, 0, 0, 0, 0, 0, 1, 1, 1, 1, 1, 1], [0, 0, 0, 0, 0, 0, 0, 0, 0, 0, 0, 0, 0, 1, 0, 1, 1, 1], [0, 0, 0, 0, 0, 0, 0, 0, 0, 0, 0, 0, 0, 0, 1, 1, 1, 1], [0, 0, 0, 0, 0, 0, 0, 0, 0, 0, 0, 0, 0, 0, 0, 1, 0, 1], [0, 0, 0, 0, 0, 0, 0, 0, 0, 0, 0, 0, 0, 0, 0, 0, 1, 1], [0, 0, 0, 0, 0, 0, 0, 0, 0, 0, 0, 0, 0, 0, 0, 0, 0, 1]]
def kA73x10 : List (List Int) := [[], [1], [-1, 1], [1, -2, 1], [-1, 2, -2, 1], [1, -2, 2, -2, 1], [-1, 2, -2, 2, -2, 1], [1, -2, 2, -2, 2, -2, 1], [-1, 2, -2, 2, -2, 2, -2, 1], [1, -2, 2, -2, 2, -2, 2, -2, 1], [-1, 2, -2, 2, -2, 2, -2, 2, -2, 1], [1, -2, 2, -2, 2, -2, 2, -2, 2, -2, 1]]
def kB73x10 : List (List Nat) := [[1, 2, 2, 3, 3, 4, 4, 5, 5, 6, 6, 7, 7, 8, 8, 9, 9, 10, 10, 11], [0, 1, 0, 2, 2, 3, 3, 4, 4, 5, 5, 6, 6, 7, 7, 8, 8, 9, 9, 10], [0, 0, 1, 2, 2, 3, 3, 4, 4, 5, 5, 6, 6, 7, 7, 8, 8, 9, 9, 10], [0, 0, 0, 1, 0, 2, 2, 3, 3, 4, 4, 5, 5, 6, 6, 7, 7, 8, 8, 9], [0, 0, 0, 0, 1, 2, 2, 3, 3, 4, 4, 5, 5, 6, 6, 7, 7, 8, 8, 9], [0, 0, 0, 0, 0, 1, 0, 2, 2, 3, 3, 4, 4, 5, 5, 6, 6, 7, 7, 8], [0, 0, 0, 0, 0, 0, 1, 2, 2, 3, 3, 4, 4, 5, 5, 6, 6, 7, 7, 8], [0, 0, 0, 0, 0, 0, 0, 1, 0, 2, 2, 3, 3, 4, 4, 5, 5, 6, 6, 7], [0, 0, 0, 0, 0, 0, 0, 0, 1, 2, 2, 3, 3, 4, 4, 5, 5, 6, 6, 7], [0, 0, 0, 0, 0, 0, 0, 0, 0, 1, 0, 2, 2, 3, 3, 4, 4, 5, 5, 6], [0, 0, 0, 0, 0, 0, 0, 0, 0, 0, 1, 2, 2, 3, 3, 4, 4, 5, 5, 6], [0, 0, 0, 0, 0, 0, 0, 0, 0, 0, 0, 1, 0, 2, 2, 3, 3, 4, 4, 5], [0, 0, 0, 0, 0, 0, 0, 0, 0, 0, 0, 0, 1, 2, 2, 3, 3, 4, 4, 5], [0, 0, 0, 0, 0, 0, 0, 0, 0, 0, 0, 0, 0, 1, 0, 2, 2, 3, 3, 4], [0, 0, 0, 0, 0, 0, 0, 0, 0, 0, 0, 0, 0, 0, 1, 2, 2, 3, 3, 4], [0, 0, 0, 0, 0, 0, 0, 0, 0, 0, 0, 0, 0, 0, 0, 1, 0, 2, 2, 3], [0, 0, 0, 0, 0, 0, 0, 0, 0, 0, 0, 0, 0, 0, 0, 0, 1, 2, 2, 3], [0, 0, 0, 0, 0, 0, 0, 0, 0, 0, 0, 0, 0, 0, 0, 0, 0, 1, 0, 2], [0, 0, 0, 0, 0, 0, 0, 0, 0, 0, 0, 0, 0, 0, 0, 0, 0, 0, 1, 2], [0, 0, 0, 0, 0, 0, 0, 0, 0, 0, 0, 0, 0, 0, 0, 0, 0, 0, 0, 1]]
def kC73x10 : List (List Int) := [[], [1]]
def kD73x10 : List (List Nat) := [[1, 1, 1, 1, 1, 1, 1, 1, 1, 1, 1, 1, 1, 1, 1, 1, 1, 1, 1, 1], [0, 1, 0, 1, 1, 1, 1, 1, 1, 1, 1, 1, 1, 1, 1, 1, 1, 1, 1, 1], [0, 0, 1, 1, 1, 1, 1, 1, 1, 1, 1, 1, 1, 1, 1, 1, 1, 1, 1, 1], [0, 0, 0, 1, 0, 1, 1, 1, 1, 1, 1, 1, 1, 1, 1, 1, 1, 1, 1, 1], [0, 0, 0, 0, 1, 1, 1, 1, 1, 1, 1, 1, 1, 1, 1, 1, 1, 1, 1, 1], [0, 0, 0, 0, 0, 1, 0, 1, 1, 1, 1, 1, 1, 1, 1, 1, 1, 1, 1, 1], [0, 0, 0, 0, 0, 0, 1, 1, 1, 1, 1, 1, 1, 1, 1, 1, 1, 1, 1, 1], [0, 0, 0, 0, 0, 0, 0, 1, 0, 1, 1, 1, 1, 1, 1, 1, 1, 1, 1, 1], [0, 0, 0, 0, 0, 0, 0, 0, 1, 1, 1, 1, 1, 1, 1, 1, 1, 1, 1, 1], [0, 0, 0, 0, 0, 0, 0, 0, 0, 1, 0, 1, 1, 1, 1, 1, 1, 1, 1, 1], [0, 0, 0, 0, 0, 0, 0, 0, 0, 0, 1, 1, 1, 1, 1, 1, 1, 1, 1, 1], [0, 0, 0, 0, 0, 0, 0, 0, 0, 0, 0, 1, 0, 1, 1, 1, 1, 1, 1, 1], [0, 0, 0, 0, 0, 0, 0, 0, 0, 0, 0, 0, 1, 1, 1, 1, 1, 1, 1, 1], [0, 0, 0, 0, 0, 0, 0, 0, 0, 0, 0, 0, 0, 1, 0, 1, 1, 1, 1, 1], [0, 0, 0, 0, 0, 0, 0, 0, 0, 0, 0, 0, 0, 0, 1, 1, 1, 1, 1, 1], [0, 0, 0, 0, 0, 0, 0, 0, 0, 0, 0, 0, 0, 0, 0, 1, 0, 1, 1, 1], [0, 0, 0, 0, 0, 0, 0, 0, 0, 0, 0, 0, 0, 0, 0, 0, 1, 1, 1, 1], [0, 0, 0, 0, 0, 0, 0, 0, 0, 0, 0, 0, 0, 0, 0, 0, 0, 1, 0, 1], [0, 0, 0, 0, 0, 0, 0, 0, 0, 0, 0, 0, 0, 0, 0, 0, 0, 0, 1, 1], [0, 0, 0, 0, 0, 0, 0, 0, 0, 0, 0, 0, 0, 0, 0, 0, 0, 0, 0, 1]]
def kA73x11 : List (List Int) := [[], [1], [-1, 1], [1, -2, 1], [-1, 2, -2, 1], [1, -2, 2, -2, 1], [-1, 2, -2, 2, -2, 1], [1, -2, 2, -2, 2, -2, 1], [-1, 2, -2, 2, -2, 2, -2, 1], [1, -2, 2, -2, 2, -2, 2, -2, 1], [-1, 2, -2, 2, -2, 2, -2, 2, -2, 1], [1, -2, 2, -2, 2, -2, 2, -2, 2, -2, 1], [-1, 2, -2, 2, -2, 2, -2, 2, -2, 2, -2, 1]]
def kB73x11 : List (List Nat) := [[1, 2, 2, 3, 3, 4, 4, 5, 5, 6, 6, 7, 7, 8, 8, 9, 9, 10, 10, 11, 11, 12], [0, 1, 0, 2, 2, 3, 3, 4, 4, 5, 5, 6, 6, 7, 7, 8, 8, 9, 9, 10, 10, 11], [0, 0, 1, 2, 2, 3, 3, 4, 4, 5, 5, 6, 6, 7, 7, 8, 8, 9, 9, 10, 10, 11], [0, 0, 0, 1, 0, 2, 2, 3, 3, 4, 4, 5, 5, 6, 6, 7, 7, 8, 8, 9, 9, 10], [0, 0, 0, 0, 1, 2, 2, 3, 3, 4, 4, 5, 5, 6, 6, 7, 7, 8, 8, 9, 9, 10], [0, 0, 0, 0, 0, 1, 0, 2, 2, 3, 3, 4, 4, 5, 5, 6, 6, 7, 7, 8, 8, 9], [0, 0, 0, 0, 0, 0, 1, 2, 2, 3, 3, 4, 4, 5, 5, 6, 6, 7, 7, 8, 8, 9], [0, 0, 0, 0, 0, 0, 0, 1, 0, 2, 2, 3, 3, 4, 4, 5, 5, 6, 6, 7, 7, 8], [0, 0, 0, 0, 0, 0, 0, 0, 1, 2, 2, 3, 3, 4, 4, 5, 5, 6, 6, 7, 7, 8], [0, 0, 0, 0, 0, 0, 0, 0, 0, 1, 0, 2, 2, 3, 3, 4, 4, 5, 5, 6, 6, 7], [0, 0, 0, 0, 0, 0, 0, 0, 0, 0, 1, 2, 2, 3, 3, 4, 4, 5, 5, 6, 6, 7], [0, 0, 0, 0, 0, 0, 0, 0, 0, 0, 0, 1, 0, 2, 2, 3, 3, 4, 4, 5, 5, 6], [0, 0, 0, 0, 0, 0, 0, 0, 0, 0, 0, 0, 1, 2, 2, 3, 3, 4, 4, 5, 5, 6], [0, 0, 0, 0, 0, 0, 0, 0, 0, 0, 0, 0, 0, 1, 0, 2, 2, 3, 3, 4, 4, 5], [0, 0, 0, 0, 0, 0, 0, 0, 0, 0, 0, 0, 0, 0, 1, 2, 2, 3, 3, 4, 4, 5], [0, 0, 0, 0, 0, 0, 0, 0, 0, 0, 0, 0, 0, 0, 0, 1, 0, 2, 2, 3, 3, 4], [0, 0, 0, 0, 0, 0, 0, 0, 0, 0, 0, 0, 0, 0, 0, 0, 1, 2, 2, 3, 3, 4], [0, 0, 0, 0, 0, 0, 0, 0, 0, 0, 0, 0, 0, 0, 0, 0, 0, 1, 0, 2, 2, 3], [0, 0, 0, 0, 0, 0, 0, 0, 0, 0, 0, 0, 0, 0, 0, 0, 0, 0, 1, 2, 2, 3], [0, 0, 0, 0, 0, 0, 0, 0, 0, 0, 0, 0, 0, 0, 0, 0, 0, 0, 0, 1, 0, 2], [0, 0, 0, 0, 0, 0, 0, 0, 0, 0, 0, 0, 0, 0, 0, 0, 0, 0, 0, 0, 1, 2], [0, 0, 0, 0, 0, 0, 0, 0, 0, 0, 0, 0, 0, 0, 0, 0, 0, 0, 0, 0, 0, 1]]
def kC73x11 : List (List Int) := [[], [1]]
def kD73x11 : List (List Nat) := [[1, 1, 1, 1, 1, 1, 1, 1, 1, 1, 1, 1, 1, 1, 1, 1, 1, 1, 1, 1, 1, 1], [0, 1, 0, 1, 1, 1, 1, 1, 1, 1, 1, 1, 1, 1, 1, 1, 1, 1, 1, 1, 1, 1], [0, 0, 1, 1, 1, 1, 1, 1, 1, 1, 1, 1, 1, 1, 1, 1, 1, 1, 1, 1, 1, 1], [0, 0, 0, 1, 0, 1, 1, 1, 1, 1, 1, 1, 1, 1, 1, 1, 1, 1, 1, 1, 1, 1], [0, 0, 0, 0, 1, 1, 1, 1, 1, 1, 1, 1, 1, 1, 1, 1, 1, 1, 1, 1, 1, 1], [0, 0, 0, 0, 0, 1, 0, 1, 1, 1, 1, 1, 1, 1, 1, 1, 1, 1, 1, 1, 1, 1], [0, 0, 0, 0, 0, 0, 1, 1, 1, 1, 1, 1, 1, 1, 1, 1, 1, 1, 1, 1, 1, 1], [0, 0, 0, 0, 0, 0, 0, 1, 0, 1, 1, 1, 1, 1, 1, 1, 1, 1, 1, 1, 1, 1], [0, 0, 0, 0, 0, 0, 0, 0, 1, 1, 1, 1, 1, 1, 1, 1, 1, 1, 1, 1, 1, 1], [0, 0, 0, 0, 0, 0, 0, 0, 0, 1, 0, 1, 1, 1, 1, 1, 1, 1, 1, 1, 1, 1], [0, 0, 0, 0, 0, 0, 0, 0, 0, 0, 1, 1, 1, 1, 1, 1, 1, 1, 1, 1, 1, 1], [0, 0, 0, 0, 0, 0, 0, 0, 0, 0, 0, 1, 0, 1, 1, 1, 1, 1, 1, 1, 1, 1], [0, 0, 0, 0, 0, 0, 0, 0, 0, 0, 0, 0, 1, 1, 1, 1, 1, 1, 1, 1, 1, 1], [0, 0, 0, 0, 0, 0, 0, 0, 0, 0, 0, 0, 0, 1, 0, 1, 1, 1, 1, 1, 1, 1], [0, 0, 0, 0, 0, 0, 0, 0, 0, 0, 0, 0, 0, 0, 1, 1, 1, 1, 1, 1, 1, 1], [0, 0, 0, 0, 0, 0, 0, 0, 0, 0, 0, 0, 0, 0, 0, 1, 0, 1, 1, 1, 1, 1], [0, 0, 0, 0, 0, 0, 0, 0, 0, 0, 0, 0, 0, 0, 0, 0, 1, 1, 1, 1, 1, 1], [0, 0, 0, 0, 0, 0, 0, 0, 0, 0, 0, 0, 0, 0, 0, 0, 0, 1, 0, 1, 1, 1], [0, 0, 0, 0, 0, 0, 0, 0, 0, 0, 0, 0, 0, 0, 0, 0, 0, 0, 1, 1, 1, 1], [0, 0, 0, 0, 0, 0, 0, 0, 0, 0, 0, 0, 0, 0, 0, 0, 0, 0, 0, 1, 0, 1], [0, 0, 0, 0, 0, 0, 0, 0, 0, 0, 0, 0, 0, 0, 0, 0, 0, 0, 0, 0, 1, 1], [0, 0, 0, 0, 0, 0, 0, 0, 0, 0, 0, 0, 0, 0, 0, 0, 0, 0, 0, 0, 0, 1]]
def kA73x12 : List (List Int) := [[], [1], [-1, 1], [1, -2, 1], [-1, 2, -2, 1], [1, -2, 2, -2, 1], [-1, 2, -2, 2, -2, 1], [1, -2, 2, -2, 2, -2, 1], [-1, 2, -2, 2, -2, 2, -2, 1], [1, -2, 2, -2, 2, -2, 2, -2, 1], [-1, 2, -2, 2, -2, 2, -2, 2, -2, 1], [1, -2, 2, -2, 2, -2, 2, -2, 2, -2, 1], [-1, 2, -2, 2, -2, 2, -2, 2, -2, 2, -2, 1], [1, -2, 2, -2, 2, -2, 2, -2, 2, -2, 2, -2, 1]]
def kB73x12 : List (List Nat) := [[1, 2, 2, 3, 3, 4, 4, 5, 5, 6, 6, 7, 7, 8, 8, 9, 9, 10, 10, 11, 11, 12, 12, 13], [0, 1, 0, 2, 2, 3, 3, 4, 4, 5, 5, 6, 6, 7, 7, 8, 8, 9, 9, 10, 10, 11, 11, 12], [0, 0, 1, 2, 2, 3, 3, 4, 4, 5, 5, 6, 6, 7, 7, 8, 8, 9, 9, 10, 10, 11, 11, 12], [0, 0, 0, 1, 0, 2, 2, 3, 3, 4, 4, 5, 5, 6, 6, 7, 7, 8, 8, 9, 9, 10, 10, 11], [0, 0, 0, 0, 1, 2, 2, 3, 3, 4, 4, 5, 5, 6, 6, 7, 7, 8, 8, 9, 9, 10, 10, 11], [0, 0, 0, 0, 0, 1, 0, 2, 2, 3, 3, 4, 4, 5, 5, 6, 6, 7, 7, 8, 8, 9, 9, 10], [0, 0, 0, 0, 0, 0, 1, 2, 2, 3, 3, 4, 4, 5, 5, 6, 6, 7, 7, 8, 8, 9, 9, 10], [0, 0, 0, 0, 0, 0, 0, 1, 0, 2, 2, 3, 3, 4, 4, 5, 5, 6, 6, 7, 7, 8, 8, 9], [0, 0, 0, 0, 0, 0, 0, 0, 1, 2, 2, 3, 3, 4, 4, 5, 5, 6, 6, 7, 7, 8, 8, 9], [0, 0, 0, 0, 0, 0, 0, 0, 0, 1, 0, 2, 2, 3, 3, 4, 4, 5, 5, 6, 6, 7, 7, 8], [0, 0, 0, 0, 0, 0, 0, 0, 0, 0, 1, 2, 2, 3, 3, 4, 4, 5, 5, 6, 6, 7, 7, 8], [0, 0, 0, 0, 0, 0, 0, 0, 0, 0, 0, 1, 0, 2, 2, 3, 3, 4, 4, 5, 5, 6, 6, 7], [0, 0, 0, 0, 0, 0, 0, 0, 0, 0, 0, 0, 1, 2, 2, 3, 3, 4, 4, 5, 5, 6, 6, 7], [0, 0, 0, 0, 0, 0, 0, 0, 0, 0, 0, 0, 0, 1, 0, 2, 2, 3, 3, 4, 4, 5, 5, 6], [0, 0, 0, 0, 0, 0, 0, 0, 0, 0, 0, 0, 0, 0, 1, 2, 2, 3, 3, 4, 4, 5, 5, 6], [0, 0, 0, 0, 0, 0, 0, 0, 0, 0, 0, 0, 0, 0, 0, 1, 0, 2, 2, 3, 3, 4, 4, 5], [0, 0, 0, 0, 0, 0, 0, 0, 0, 0, 0, 0, 0, 0, 0, 0, 1, 2, 2, 3, 3, 4, 4, 5], [0, 0, 0, 0, 0, 0, 0, 0, 0, 0, 0, 0, 0, 0, 0, 0, 0, 1, 0, 2, 2, 3, 3, 4], [0, 0, 0, 0, 0, 0, 0, 0, 0, 0, 0, 0, 0, 0, 0, 0, 0, 0, 1, 2, 2, 3, 3, 4], [0, 0, 0, 0, 0, 0, 0, 0, 0, 0, 0, 0, 0, 0, 0, 0, 0, 0, 0, 1, 0, 2, 2, 3], [0, 0, 0, 0, 0, 0, 0, 0, 0, 0, 0, 0, 0, 0, 0, 0, 0, 0, 0, 0, 1, 2, 2, 3], [0, 0, 0, 0, 0, 0, 0, 0, 0, 0, 0, 0, 0, 0, 0, 0, 0, 0, 0, 0, 0, 1, 0, 2], [0, 0, 0, 0, 0, 0, 0, 0, 0, 0, 0, 0, 0, 0, 0, 0, 0, 0, 0, 0, 0, 0, 1, 2], [0, 0, 0, 0, 0, 0, 0, 0, 0, 0, 0, 0, 0, 0, 0, 0, 0, 0, 0, 0, 0, 0, 0, 1]]
def kC73x12 : List (List Int) := [[], [1]]
def kD73x12 : List (List Nat) := [[1, 1, 1, 1, 1, 1, 1, 1, 1, 1, 1, 1, 1, 1, 1, 1, 1, 1, 1, 1, 1, 1, 1, 1], [0, 1, 0, 1, 1, 1, 1, 1, 1, 1, 1, 1, 1, 1, 1, 1, 1, 1, 1, 1, 1, 1, 1, 1], [0, 0, 1, 1, 1, 1, 1, 1, 1, 1, 1, 1, 1, 1, 1, 1, 1, 1, 1, 1, 1, 1, 1, 1], [0, 0, 0, 1, 0, 1, 1, 1, 1, 1, 1, 1, 1, 1, 1, 1, 1, 1, 1, 1, 1, 1, 1, 1], [0, 0, 0, 0, 1, 1, 1, 1, 1, 1, 1, 1, 1, 1, 1, 1, 1, 1, 1, 1, 1, 1, 1, 1], [0, 0, 0, 0, 0, 1, 0, 1, 1, 1, 1, 1, 1, 1, 1, 1, 1, 1, 1, 1, 1, 1, 1, 1], [0, 0, 0, 0, 0, 0, 1, 1, 1, 1, 1, 1, 1, 1, 1, 1, 1, 1, 1, 1, 1, 1, 1, 1], [0, 0, 0, 0, 0, 0, 0, 1, 0, 1, 1, 1, 1, 1, 1, 1, 1, 1, 1, 1, 1, 1, 1, 1], [0, 0, 0, 0, 0, 0, 0, 0, 1, 1, 1, 1, 1, 1, 1, 1, 1, 1, 1, 1, 1, 1, 1, 1], [0, 0, 0, 0, 0, 0, 0, 0, 0, 1, 0, 1, 1, 1, 1, 1, 1, 1, 1, 1, 1, 1, 1, 1], [0, 0, 0, 0, 0, 0, 0, 0, 0, 0, 1, 1, 1, 1, 1, 1, 1, 1, 1, 1, 1, 1, 1, 1], [0, 0, 0, 0, 0, 0, 0, 0, 0, 0, 0, 1, 0, 1, 1, 1, 1, 1, 1, 1, 1, 1, 1, 1], [0, 0, 0, 0, 0, 0, 0, 0, 0, 0, 0, 0, 1, 1, 1, 1, 1, 1, 1, 1, 1, 1, 1, 1], [0, 0, 0, 0, 0, 0, 0, 0, 0, 0, 0, 0, 0, 1, 0, 1, 1, 1, 1, 1, 1, 1, 1, 1], [0, 0, 0, 0, 0, 0, 0, 0, 0, 0, 0, 0, 0, 0, 1, 1, 1, 1, 1, 1, 1, 1, 1, 1], [0, 0, 0, 0, 0, 0, 0, 0, 0, 0, 0, 0, 0, 0, 0, 1, 0, 1, 1, 1, 1, 1, 1, 1], [0, 0, 0, 0, 0, 0, 0, 0, 0, 0, 0, 0, 0, 0, 0, 0, 1, 1, 1, 1, 1, 1, 1, 1], [0, 0, 0, 0, 0, 0, 0, 0, 0, 0, 0, 0, 0, 0, 0, 0, 0, 1, 0, 1, 1, 1, 1, 1], [0, 0, 0, 0, 0, 0, 0, 0, 0, 0, 0, 0, 0, 0, 0, 0, 0, 0, 1, 1, 1, 1, 1, 1], [0, 0, 0, 0, 0, 0, 0, 0, 0, 0, 0, 0, 0, 0, 0, 0, 0, 0, 0, 1, 0, 1, 1, 1], [0, 0, 0, 0, 0, 0, 0, 0, 0, 0, 0, 0, 0, 0, 0, 0, 0, 0, 0, 0, 1, 1, 1, 1], [0, 0, 0, 0, 0, 0, 0, 0, 0, 0, 0, 0, 0, 0, 0, 0, 0, 0, 0, 0, 0, 1, 0, 1], [0, 0, 0, 0, 0, 0, 0, 0, 0, 0, 0, 0, 0, 0, 0, 0, 0, 0, 0, 0, 0, 0, 1, 1], [0, 0, 0, 0, 0, 0, 0, 0, 0, 0, 0, 0, 0, 0, 0, 0, 0, 0, 0, 0, 0, 0, 0, 1]]
def kAT (K n : Nat) : List (List Int) :=
  if K = 65 ∧ n = 1 then kA65x1 else if K = 65 ∧ n = 2 then kA65x2 else if K = 65 ∧ n = 3 then kA65x3 else if K = 66 ∧ n = 2 then kA66x2 else if K = 66 ∧ n = 3 then kA66x3 else if K = 73 ∧ n = 2 then kA73x2 else if K = 73 ∧ n = 3 then kA73x3 else if K = 73 ∧ n = 4 then kA73x4 else if K = 73 ∧ n = 5 then kA73x5 else if K = 73 ∧ n = 6 then kA73x6 else if K = 73 ∧ n = 7 then kA73x7 else if K = 73 ∧ n = 8 then kA73x8 else if K = 73 ∧ n = 9 then kA73x9 else if K = 73 ∧ n = 10 then kA73x10 else if K = 73 ∧ n = 11 then kA73x11 else if K = 73 ∧ n = 12 then kA73x12 else []
def kBT (K n : Nat) : List (List Nat) :=
  if K = 65 ∧ n = 1 then kB65x1 else if K = 65 ∧ n = 2 then kB65x2 else if K = 65 ∧ n = 3 then kB65x3 else if K = 66 ∧ n = 2 then kB66x2 else if K = 66 ∧ n = 3 then kB66x3 else if K = 73 ∧ n = 2 then kB73x2 else if K = 73 ∧ n = 3 then kB73x3 else if K = 73 ∧ n = 4 then kB73x4 else if K = 73 ∧ n = 5 then kB73x5 else if K = 73 ∧ n = 6 then kB73x6 else if K = 73 ∧ n = 7 then kB73x7 else if K = 73 ∧ n = 8 then kB73x8 else if K = 73 ∧ n = 9 then kB73x9 else if K = 73 ∧ n = 10 then kB73x10 else if K = 73 ∧ n = 11 then kB73x11 else if K = 73 ∧ n = 12 then kB73x12 else []
def kCT (K n : Nat) : List (List Int) :=
  if K = 65 ∧ n = 1 then kC65x1 else if K = 65 ∧ n = 2 then kC65x2 else if K = 65 ∧ n = 3 then kC65x3 else if K = 66 ∧ n = 2 then kC66x2 else if K = 66 ∧ n = 3 then kC66x3 else if K = 73 ∧ n = 2 then kC73x2 else if K = 73 ∧ n = 3 then kC73x3 else if K = 73 ∧ n = 4 then kC73x4 else if K = 73 ∧ n = 5 then kC73x5 else if K = 73 ∧ n = 6 then kC73x6 else if K = 73 ∧ n = 7 then kC73x7 else if K = 73 ∧ n = 8 then kC73x8 else if K = 73 ∧ n = 9 then kC73x9 else if K = 73 ∧ n = 10 then kC73x10 else if K = 73 ∧ n = 11 then kC73x11 else if K = 73 ∧ n = 12 then kC73x12 else []
def kDT (K n : Nat) : List (List Nat) :=
  if K = 65 ∧ n = 1 then kD65x1 else if K = 65 ∧ n = 2 then kD65x2 else if K = 65 ∧ n = 3 then kD65x3 else if K = 66 ∧ n = 2 then kD66x2 else if K = 66 ∧ n = 3 then kD66x3 else if K = 73 ∧ n = 2 then kD73x2 else if K = 73 ∧ n = 3 then kD73x3 else if K = 73 ∧ n = 4 then kD73x4 else if K = 73 ∧ n = 5 then kD73x5 else if K = 73 ∧ n = 6 then kD73x6 else if K = 73 ∧ n = 7 then kD73x7 else if K = 73 ∧ n = 8 then kD73x8 else if K = 73 ∧ n = 9 then kD73x9 else if K = 73 ∧ n = 10 then kD73x10 else if K = 73 ∧ n = 11 then kD73x11 else if K = 73 ∧ n = 12 then kD73x12 else []

def polT (A : List (List Int)) (B : List (List Nat)) (u w : Nat) : List Int := A.getD ((B.getD u []).getD w 0) []
def rT (K n : Nat) : Nat → Nat → List Int := polT (kAT K n) (kBT K n)
def pT (K n : Nat) : Nat → Nat → List Int := polT (kCT K n) (kDT K n)
def bitR (R : List Nat) (u w : Nat) : Bool := Nat.testBit (gN R w) u
/-- R of two elements, out of shorter ones. -/
def stepR (W X : List (List Nat)) (bel : Nat → Nat → Bool) (r : Nat → Nat → List Int) (u w : Nat) : List Int :=
  if bel u w = false then [] else if u = w then [1] else
    if lenX W (stepX X u (lastX W w)) < lenX W u then r (stepX X u (lastX W w)) (stepX X w (lastX W w)) else
      plusL (plusL (plusL [] 1 1 (r u (stepX X w (lastX W w)))) (-1) 0 (r u (stepX X w (lastX W w)))) 1 1 (r (stepX X u (lastX W w)) (stepX X w (lastX W w)))
/-- The sum over the elements between two, the first left out. -/
def sumTo (bel : Nat → Nat → Bool) (r p : Nat → Nat → List Int) (u w : Nat) : Nat → List Int
  | 0 => []
  | x + 1 => if (!(x == u) && bel u x) && bel x w then plusL (sumTo bel r p u w x) 1 0 (timesL (r u x) (p x w)) else sumTo bel r p u w x
def stepP (W : List (List Nat)) (bel : Nat → Nat → Bool) (r p : Nat → Nat → List Int) (u w : Nat) : List Int :=
  if bel u w = false then [] else if u = w then [1] else
    lowTo (sumTo bel r p u w W.length) (min (sumTo bel r p u w W.length).length ((lenX W w - lenX W u - 1) / 2 + 1))
def smallG : List (Nat × Nat) := [(65, 1), (65, 2), (65, 3), (66, 2), (66, 3), (73, 2), (73, 3), (73, 4), (73, 5), (73, 6), (73, 7), (73, 8), (73, 9), (73, 10), (73, 11), (73, 12)]
def ckKr (W X : List (List Nat)) (R : List Nat) (r : Nat → Nat → List Int) : Bool := (List.range W.length).all fun u => (List.range W.length).all fun w => r u w == stepR W X (bitR R) r u w
def ckKp (W : List (List Nat)) (R : List Nat) (r p : Nat → Nat → List Int) (u : Nat) : Bool := (List.range W.length).all fun w => p u w == stepP W (bitR R) r p u w
theorem ckKr_all : (smallG.all fun g => ckKr (litW g.1 g.2) (litX g.1 g.2) (oRT g.1 g.2) (rT g.1 g.2)) = true := by decide +kernel
theorem ckKp_all : (smallG.all fun g => (List.range (litW g.1 g.2).length).all (ckKp (litW g.1 g.2) (oRT g.1 g.2) (rT g.1 g.2) (pT g.1 g.2))) = true := by decide +kernel
end Go.Proofs.Ytmlhecfhhhebnaa

/- The maps of the polynomials of two elements; the box of measures. -/
namespace Go.Proofs.Ytmlhecfhhhebnaa
open Go.RowKit

theorem cells_int : Try.prog.cellsOf 3 = 1 := by kernel_rfl
theorem cells_edge : Try.prog.cellsOf 106 = 2 := by kernel_rfl
theorem keyt_edge : Try.prog.keyType 106 = true := by kernel_rfl
def edgeV (u x : Nat) : Value := .agg #[.int .i64 (u : Nat), .int .i64 (x : Nat)]
theorem edgeV_inj {u x u' x' : Nat} (h : edgeV u x = edgeV u' x') : u = u' ∧ x = x' := by
  unfold edgeV at h
  injection h with h
  have h1 := congrArg (fun a : Array Value => a.toList) h
  simp only [List.cons.injEq, Value.int.injEq, true_and, and_true] at h1
  exact ⟨by omega, by omega⟩
theorem key_edge {u x : Nat} (hu : u < 1000) (hx : x < 1000) : ∃ kl, keyOf Try.prog 106 (edgeV u x) = some kl := by
  have hwf : ∀ n : Nat, n < 1000 → (Lit.int .i64 (n : Int)).wf = true := fun n hn => by
    simp [Lit.wf, IntKind.min, IntKind.max, IntKind.signed, IntKind.bits]
    omega
  have hin : ∀ d (n : Nat), n < 1000 → Try.prog.keyLits (d + 1) 3 [.int .i64 (n : Int)] = some [.int .i64 (n : Int)] := fun d n hn => by
    unfold Program.keyLits
    rw [Try.underlying3]
    simp only
    rw [if_pos ⟨trivial, hwf n hn⟩]
  have hf : (edgeV u x).formed Try.prog 106 = true := by
    unfold Value.formed edgeV
    rw [Try.underlying106, cells_edge]
    rfl
  have hk : ∀ d, Try.prog.keyLits (d + 1 + 1) 106 [.int .i64 (u : Nat), .int .i64 (x : Nat)] = some [.int .i64 (u : Nat), .int .i64 (x : Nat)] := by
    intro d
    unfold Program.keyLits
    rw [Try.underlying106]
    simp only
    rw [if_pos ⟨by rw [cells_edge]; rfl, by decide +kernel⟩]
    simp [cells_int, hin d u hu, hin d x hx]
  have hsz : Try.prog.types.size = (Try.prog.types.size - 1) + 1 := by kernel_rfl
  unfold keyOf
  rw [Try.underlying106]
  simp only
  rw [keyt_edge, hf]
  simp only [Bool.and_self, if_true, Value.cells, edgeV]
  rw [hsz, hk]
  exact ⟨_, rfl⟩
theorem law_edge : WideMaps.KeyLaw Try.prog 106 :=
  deep_law_laid (m := 2) (by kernel_rfl) (by decide) (of_decide_eq_true (by kernel_rfl)) (by kernel_rfl) (by kernel_rfl)

/-- Block b is a map of polynomials of two elements: what lies in it is what the table says. -/
def MapP (S : Nat → Prop) (T : Nat → Nat → List Int) (w : World) (b : Nat) : Prop :=
  ∃ es clock, w.heap[b]? = some (.map es clock) ∧ ∀ e ∈ es.toList, ∃ u x, u < 1000 ∧ x < 1000 ∧ e.key = edgeV u x ∧ Fz S w e.val (T u x)
section
variable {S : Nat → Prop} {T : Nat → Nat → List Int} {w w' : World} {b : Nat}
theorem MapP.lt (h : MapP S T w b) : b < w.heap.size := by
  obtain ⟨es, clock, hb, _⟩ := h
  exact (Array.getElem?_eq_some_iff.1 hb).1
theorem MapP.kept (h : MapP S T w b) (hs : Sm S w w') (hb : w'.heap[b]? = w.heap[b]?) : MapP S T w' b := by
  obtain ⟨es, clock, hb', he⟩ := h
  exact ⟨es, clock, hb.trans hb', fun e hm => by obtain ⟨u, x, h1, h2, h3, h4⟩ := he e hm; exact ⟨u, x, h1, h2, h3, h4.kept hs⟩⟩
theorem MapP.below (h : MapP S T w b) (hb : Below w.heap.size w w') : MapP S T w' b := h.kept (Sm.of_below hb) (hb.block b h.lt)
theorem MapP.look (h : MapP S T w b) {u x : Nat} (hu : u < 1000) (hx : x < 1000) :
    ∃ v bb, (Instr.lookup 101 (.map (some b)) (.agg #[.int .i64 (u : Nat), .int .i64 (x : Nat)]) true).run Try.prog w = .ok (.tuple #[v, .bool bb]) w ∧ (bb = true → Fz S w v (T u x)) := by
  obtain ⟨es, clock, hb, he⟩ := h
  obtain ⟨kl, hkl⟩ := key_edge hu hx
  have hz : (zeroValue 99).run Try.prog w = .ok (.slice none 0 0) w := by kernel_rfl
  have ht : Try.prog.underlying 101 = some (.map 106 99) := Try.underlying101
  have hc : ∀ em, (Instr.checkKey em 10000 106 (edgeV u x)).run Try.prog w = .ok () w := fun em => law_edge.check w em hkl
  rcases law_edge.find w hkl es.toList (fun e hm => by obtain ⟨u', x', h1, h2, h3, _⟩ := he e hm; rw [h3]; exact key_edge h1 h2) with ⟨hf, _⟩ | ⟨j, e0, hf, hj, hk⟩
  · refine ⟨.slice none 0 0, false, ?_, fun h => by cases h⟩
    unfold edgeV at hf hc
    simp [Instr.lookup, run_underlying ht, MapKept.run_getObj_map hb, hc, hf, hz, Result.andThen]
  · refine ⟨e0.val, true, ?_, fun _ => ?_⟩
    · unfold edgeV at hf hc
      simp [Instr.lookup, run_underlying ht, MapKept.run_getObj_map hb, hc, hf, Result.andThen]
    · obtain ⟨u', x', h1, h2, h3, h4⟩ := he e0 (List.mem_of_getElem? hj)
      obtain ⟨rfl, rfl⟩ := edgeV_inj (hk.symm.trans h3)
      exact h4
theorem modify_mem (l : List MapEntry) (f : MapEntry → MapEntry) (j : Nat) : ∀ x ∈ l.modify j f, x ∈ l ∨ ∃ y ∈ l, x = f y := by
  intro x hx
  obtain ⟨i, hi, e⟩ := List.getElem_of_mem hx
  rw [List.getElem_modify] at e
  split at e
  · exact .inr ⟨_, List.getElem_mem _, e.symm⟩
  · exact .inl (e ▸ List.getElem_mem _)
theorem MapP.add (h : MapP S T w b) (hS : ∀ k, S k → k ≠ b) {u x : Nat} (hu : u < 1000) (hx : x < 1000) {v : Value} (hv : Fz S w v (T u x)) :
    ∃ w', (Instr.mapUpdate 101 (.map (some b)) (.agg #[.int .i64 (u : Nat), .int .i64 (x : Nat)]) v).run Try.prog w = .ok () w' ∧ MapP S T w' b ∧ Sm (fun k => k ≠ b) w w' ∧ w'.heap.size = w.heap.size := by
  obtain ⟨es, clock, hb, he⟩ := h
  obtain ⟨kl, hkl⟩ := key_edge hu hx
  have ht : Try.prog.underlying 101 = some (.map 106 99) := Try.underlying101
  have hc : ∀ em, (Instr.checkKey em 10000 106 (edgeV u x)).run Try.prog w = .ok () w := fun em => law_edge.check w em hkl
  have hst := law_edge.stays w hkl
  have hlt := (Array.getElem?_eq_some_iff.1 hb).1
  rcases law_edge.find w hkl es.toList (fun e hm => by obtain ⟨u', x', h1, h2, h3, _⟩ := he e hm; rw [h3]; exact key_edge h1 h2) with ⟨hf, _⟩ | ⟨j, e0, hf, hj, hk⟩
  · unfold edgeV at hf hc
    refine ⟨_, by simp [Instr.mapUpdate, run_underlying ht, MapKept.run_getObj_map hb, hc, hf, MapKept.run_setObj_map _ hb, Result.andThen]; rfl, ?_, ?_, ?_⟩
    · have hs : Sm S w { w with heap := w.heap.setIfInBounds b (.map (es.push { key := edgeV u x, val := v, born := clock }) (clock + 1)) } := ⟨rfl, rfl, rfl, by simp, fun k hk _ => by simp [Ne.symm (hS k hk)]⟩
      refine ⟨es.push { key := edgeV u x, val := v, born := clock }, clock + 1, by simp [hlt]; rfl, fun e hm => ?_⟩
      rw [Array.toList_push] at hm
      rcases List.mem_append.1 hm with hm | hm
      · obtain ⟨u', x', h1, h2, h3, h4⟩ := he e hm
        exact ⟨u', x', h1, h2, h3, h4.kept hs⟩
      · obtain rfl := List.mem_singleton.1 hm
        exact ⟨u, x, hu, hx, rfl, hv.kept hs⟩
    · exact ⟨rfl, rfl, rfl, by simp, fun k hk _ => by simp [Ne.symm hk]⟩
    · simp
  · have hk' := hk
    have hj2 : es[j]? = some e0 := by simpa using hj
    unfold edgeV at hf hc hst hk'
    have hs : Sm S w { w with heap := w.heap.setIfInBounds b (.map (es.modify j fun e => { key := edgeV u x, val := v, born := e.born }) clock) } := ⟨rfl, rfl, rfl, by simp, fun k hk _ => by simp [Ne.symm (hS k hk)]⟩
    refine ⟨_, by simp [Instr.mapUpdate, run_underlying ht, MapKept.run_getObj_map hb, hc, hf, hj2, hk', hst, MapKept.run_setObj_map _ hb, Result.andThen]; rfl, ?_, ?_, ?_⟩
    · refine ⟨es.modify j fun e => { key := edgeV u x, val := v, born := e.born }, clock, by simp [hlt]; rfl, fun e hm => ?_⟩
      rw [Array.toList_modify] at hm
      rcases modify_mem _ _ _ e hm with hm | ⟨y, _, rfl⟩
      · obtain ⟨u', x', h1, h2, h3, h4⟩ := he e hm
        exact ⟨u', x', h1, h2, h3, h4.kept hs⟩
      · exact ⟨u, x, hu, hx, rfl, hv.kept hs⟩
    · exact ⟨rfl, rfl, rfl, by simp, fun k hk _ => by simp [Ne.symm hk]⟩
    · simp
end
end Go.Proofs.Ytmlhecfhhhebnaa

/- Polynomials: the tables' facts for a group. No Go in sight. -/
namespace Go.Proofs.Ytmlhecfhhhebnaa

theorem small_all : (allGroups.all fun g => (g == (65, 4)) || smallG.contains g) = true := by decide
theorem small_in {K n : Nat} (hv : validB K n = true) (h : ¬ (K = 65 ∧ n = 4)) : (K, n) ∈ smallG := by
  have := List.all_eq_true.1 small_all _ (valid_in hv)
  simp only [Bool.or_eq_true, beq_iff_eq, List.contains_iff_mem, Prod.mk.injEq] at this
  exact this.resolve_left h
theorem small_48 : (smallG.all fun g => decide ((litW g.1 g.2).length ≤ 48)) = true := by decide +kernel
theorem big_120 : decide ((litW 65 4).length = 120) = true := by decide +kernel
theorem len_small {K n : Nat} (hv : validB K n = true) (h : ¬ (K = 65 ∧ n = 4)) : (wordsG K n).length ≤ 48 := by
  rw [(lit_of hv).1]
  exact of_decide_eq_true (List.all_eq_true.1 small_48 _ (small_in hv h))
theorem len_big {K n : Nat} (hv : validB K n = true) (h : K = 65 ∧ n = 4) : (wordsG K n).length = 120 := by
  rw [(lit_of hv).1, h.1, h.2]
  exact of_decide_eq_true big_120
theorem bit_bel {K n : Nat} (hv : validB K n = true) {u w : Nat} (hu : u < (wordsG K n).length) (hw : w < (wordsG K n).length) : bitR (oRT K n) u w = belG (wordsG K n) (nextG K n) u w := by
  have hR : ckR (wordsG K n) (nextG K n) (oRT K n) = true := by
    rw [(lit_of hv).1, (lit_of hv).2]
    exact List.all_eq_true.1 ckR_all _ (valid_in hv)
  exact (belG_R (tkG hv) (lstG hv) hR hu hw).symm
theorem sumTo_congr {bel bel' : Nat → Nat → Bool} {r p : Nat → Nat → List Int} {N u x : Nat} (h : ∀ a b, a < N → b < N → bel a b = bel' a b) (hu : u < N) (hx : x < N) : ∀ k, k ≤ N → sumTo bel r p u x k = sumTo bel' r p u x k
  | 0, _ => rfl
  | k + 1, hk => by rw [sumTo, sumTo, h u k hu (by omega), h k x (by omega) hx, sumTo_congr h hu hx k (by omega)]
section
variable {K n : Nat}
theorem kr_at (hv : validB K n = true) (h : ¬ (K = 65 ∧ n = 4)) (u w : Nat) (hu : u < (wordsG K n).length) (hw : w < (wordsG K n).length) : rT K n u w = stepR (wordsG K n) (nextG K n) (belG (wordsG K n) (nextG K n)) (rT K n) u w := by
  have h1 := List.all_eq_true.1 ckKr_all _ (small_in hv h)
  rw [← (lit_of hv).1, ← (lit_of hv).2] at h1
  have h2 := List.all_eq_true.1 (List.all_eq_true.1 h1 u (List.mem_range.2 hu)) w (List.mem_range.2 hw)
  rw [beq_iff_eq] at h2
  rw [h2]
  unfold stepR
  rw [bit_bel hv hu hw]
theorem kp_at (hv : validB K n = true) (h : ¬ (K = 65 ∧ n = 4)) (u w : Nat) (hu : u < (wordsG K n).length) (hw : w < (wordsG K n).length) : pT K n u w = stepP (wordsG K n) (belG (wordsG K n) (nextG K n)) (rT K n) (pT K n) u w := by
  have h1 := List.all_eq_true.1 ckKp_all _ (small_in hv h)
  rw [← (lit_of hv).1] at h1
  have h2 := List.all_eq_true.1 (List.all_eq_true.1 h1 u (List.mem_range.2 hu)) w (List.mem_range.2 hw)
  rw [beq_iff_eq] at h2
  rw [h2]
  unfold stepP
  rw [bit_bel hv hu hw, sumTo_congr (fun a b ha hb => bit_bel hv ha hb) hu hw _ (Nat.le_refl _)]
def ckLenP (A : List (List Int)) : Bool := A.all fun l => decide (l.length ≤ 100) && l.all fun c => decide (-1000 ≤ c) && decide (c ≤ 1000)
theorem ckLenP_all : (smallG.all fun g => ckLenP (kAT g.1 g.2) && ckLenP (kCT g.1 g.2)) = true := by decide +kernel
theorem polT_in {A : List (List Int)} (h : ckLenP A = true) (B : List (List Nat)) (u w : Nat) : (polT A B u w).length ≤ 100 ∧ ∀ c ∈ polT A B u w, -1000 ≤ c ∧ c ≤ 1000 := by
  unfold polT
  rw [List.getD_eq_getElem?_getD]
  cases he : A[(B.getD u []).getD w 0]? with
  | none => simp
  | some l =>
    have := List.all_eq_true.1 h l (List.mem_of_getElem? he)
    simp only [Bool.and_eq_true, decide_eq_true_eq, List.all_eq_true] at this
    exact ⟨this.1, fun c hc => this.2 c hc⟩
theorem rT_len (hv : validB K n = true) (h : ¬ (K = 65 ∧ n = 4)) (u w : Nat) : (rT K n u w).length ≤ 100 := by
  have h1 := List.all_eq_true.1 ckLenP_all _ (small_in hv h)
  rw [Bool.and_eq_true] at h1
  exact (polT_in h1.1 _ u w).1
theorem pT_len (hv : validB K n = true) (h : ¬ (K = 65 ∧ n = 4)) (u w : Nat) : (pT K n u w).length ≤ 100 := by
  have h1 := List.all_eq_true.1 ckLenP_all _ (small_in hv h)
  rw [Bool.and_eq_true] at h1
  exact (polT_in h1.2 _ u w).1
def ckOrdL (W : List (List Nat)) (R : List Nat) : Bool := (List.range W.length).all fun y => (List.range W.length).all fun x => !Nat.testBit (gN R y) x || (x == y) || decide (lenX W x < lenX W y)
theorem ckOrdL_all : (allGroups.all fun g => ckOrdL (litW g.1 g.2) (oRT g.1 g.2)) = true := by decide +kernel
theorem bel_len (hv : validB K n = true) (a b : Nat) (ha : a < (wordsG K n).length) (hb : b < (wordsG K n).length) (h : belG (wordsG K n) (nextG K n) a b = true) (hne : a ≠ b) : lenX (wordsG K n) a < lenX (wordsG K n) b := by
  have h1 := List.all_eq_true.1 ckOrdL_all _ (valid_in hv)
  rw [← (lit_of hv).1] at h1
  have h2 := List.all_eq_true.1 (List.all_eq_true.1 h1 b (List.mem_range.2 hb)) a (List.mem_range.2 ha)
  have h3 : Nat.testBit (gN (oRT K n) b) a = true := by rw [← h, ← bit_bel hv ha hb]; rfl
  rw [h3] at h2
  simpa [hne] using h2
end
end Go.Proofs.Ytmlhecfhhhebnaa

/- Polynomials: the walk of rOf. -/
namespace Go.Proofs.Ytmlhecfhhhebnaa
open Go.RowKit
attribute [local go_sem] Oper.semAt_some

def Sx (bR bP : Nat) : Nat → Prop := fun k => k ≠ bR ∧ k ≠ bP
structure MF (bm bR bP : Nat) (w0 : World) : Prop where
  hR : w0.heap.size ≤ bR
  hP : w0.heap.size ≤ bP
  ne : bR ≠ bP
  mR : bm ≠ bR
  mP : bm ≠ bP
/-- The box of measures, with the maps. -/
structure MS (r p : Nat → Nat → List Int) (bT bm bR bP : Nat) (w0 w : World) : Prop where
  bel : Below w0.heap.size w0 w
  box : Held w bm 103 [.pointer (some ⟨bT, 0, none⟩), .map (some bR), .map (some bP)]
  mr : MapP (Sx bR bP) r w bR
  mp : MapP (Sx bR bP) p w bP
section
variable {r p : Nat → Nat → List Int} {bT bm bR bP : Nat} {w0 w w' : World}
theorem MS.below (h : MS r p bT bm bR bP w0 w) (hb : Below w.heap.size w w') : MS r p bT bm bR bP w0 w' :=
  ⟨h.bel.trans (hb.mono h.bel.size), h.box.below hb h.box.lt, h.mr.below hb, h.mp.below hb⟩
theorem MS.putR (F : MF bm bR bP w0) (h : MS r p bT bm bR bP w0 w) {u x : Nat} (hu : u < 1000) (hx : x < 1000) {v : Value} (hv : Fz (Sx bR bP) w v (r u x)) :
    ∃ w', (Instr.mapUpdate 101 (.map (some bR)) (.agg #[.int .i64 (u : Nat), .int .i64 (x : Nat)]) v).run Try.prog w = .ok () w' ∧ MS r p bT bm bR bP w0 w' ∧ Sm (Sx bR bP) w w' := by
  obtain ⟨w', h1, h2, h3, h4⟩ := h.mr.add (fun k hk => hk.1) hu hx hv
  have hs : Sm (Sx bR bP) w w' := h3.weak fun k _ hk => hk.1
  refine ⟨w', h1, ⟨h3.below h.bel F.hR h.bel.size, h.box.sm h3 F.mR, h2, h.mp.kept hs (h3.block bP (Ne.symm F.ne) h.mp.lt)⟩, hs⟩
theorem MS.putP (F : MF bm bR bP w0) (h : MS r p bT bm bR bP w0 w) {u x : Nat} (hu : u < 1000) (hx : x < 1000) {v : Value} (hv : Fz (Sx bR bP) w v (p u x)) :
    ∃ w', (Instr.mapUpdate 101 (.map (some bP)) (.agg #[.int .i64 (u : Nat), .int .i64 (x : Nat)]) v).run Try.prog w = .ok () w' ∧ MS r p bT bm bR bP w0 w' ∧ Sm (Sx bR bP) w w' := by
  obtain ⟨w', h1, h2, h3, h4⟩ := h.mp.add (fun k hk => hk.2) hu hx hv
  have hs : Sm (Sx bR bP) w w' := h3.weak fun k _ hk => hk.2
  refine ⟨w', h1, ⟨h3.below h.bel F.hP h.bel.size, h.box.sm h3 F.mP, h.mr.kept hs (h3.block bR F.ne h.mr.lt), h2⟩, hs⟩
/-- A new polynomial lies apart from the maps. -/
theorem MS.new (h : MS r p bT bm bR bP w0 w) {w2 : World} {v : Value} {l : List Int} (hf : Fz (fun q => w.heap.size ≤ q) w2 v l) : Fz (Sx bR bP) w2 v l :=
  hf.mono fun q hq => ⟨by have := h.mr.lt; omega, by have := h.mp.lt; omega⟩
end
/-- What rOf and pOf return. -/
def ROut (r p : Nat → Nat → List Int) (bT bm bR bP : Nat) (w0 : World) (l : List Int) (w : World) (e : Ending) (w' : World) : Prop :=
  ∃ v', e = .returned v' ∧ Fz (Sx bR bP) w' v' l ∧ MS r p bT bm bR bP w0 w' ∧ Sm (Sx bR bP) w w'
section
variable {K n m N : Nat} {W X : List (List Nat)}
theorem lastX_m (hk : Tk m N W X) (hl : lstB W X = true) {x : Nat} (hx : x < N) (h0 : x ≠ 0) : lastX W x < m := by
  have hxW : x < W.length := by rw [hk.lw]; exact hx
  have h1 := (lst_at hl hxW h0).1
  have hlW : lenX W x = (W[x]).length := by unfold lenX; rw [getDL hxW]
  unfold lastX
  rw [getDL hxW, hlW, getDN (by omega)]
  exact hk.letter _ (List.getElem_mem hxW) _ (List.getElem_mem (by omega))
theorem word_cells {bT : Nat} {w : World} (ht : TabIs K n W X w bT) (hk : Tk m N W X) (hl : lstB W X = true) {x : Nat} (hx : x < N) (h0 : x ≠ 0) :
    ∃ gW capW b off c, w.cell? ⟨bT, 2, none⟩ = some (.slice (some ⟨gW, 0, none⟩) N capW) ∧ w.cell? ⟨gW, x, none⟩ = some (.slice (some ⟨b, off, none⟩) (lenX W x) c) ∧ w.cell? ⟨b, off + (lenX W x - 1), none⟩ = some (.int .i64 ((lastX W x : Nat) : Int)) := by
  have hxW : x < W.length := by rw [hk.lw]; exact hx
  obtain ⟨vW, vX, vM, hh, hW, hX⟩ := ht
  obtain ⟨gW, capW, wa, wc, eW, hgW, hwc, hInW, hrowW⟩ := hW.cells x hxW
  have h1 := (lst_at hl hxW h0).1
  have hlW : lenX W x = (W[x]).length := by unfold lenX; rw [getDL hxW]
  obtain ⟨bW, offW, rfl, hcW⟩ := hrowW (by omega)
  have hlm : lenX W x - 1 < (W[x]).length := by omega
  have ctW := hh.at (i := 2) rfl
  subst eW
  rw [hk.lw] at ctW
  refine ⟨gW, capW, bW, offW, wc, ctW, by rw [hlW]; exact hgW, ?_⟩
  rw [hcW _ hlm]
  unfold lastX
  rw [getDL hxW, getDN hlm]
theorem next_cells {bT : Nat} {w : World} (ht : TabIs K n W X w bT) (hk : Tk m N W X) (hm : 0 < m) {u s : Nat} (hu : u < N) (hs : s < m) :
    ∃ gX capX b off c, w.cell? ⟨bT, 3, none⟩ = some (.slice (some ⟨gX, 0, none⟩) N capX) ∧ w.cell? ⟨gX, u, none⟩ = some (.slice (some ⟨b, off, none⟩) m c) ∧ w.cell? ⟨b, off + s, none⟩ = some (.int .i64 ((stepX X u s : Nat) : Int)) ∧ stepX X u s < N := by
  have huX : u < X.length := by rw [hk.lx]; exact hu
  obtain ⟨vW, vX, vM, hh, hW, hX⟩ := ht
  obtain ⟨q, hr1, hr2, hr3, hr4⟩ := hk.rowAt hu
  obtain ⟨gX, capX, ya, yc, eX, hgY, hyc, hInY, hrowY⟩ := hX.cells u huX
  rw [hr1] at hgY hyc hrowY
  rw [hr3] at hgY hyc
  obtain ⟨bY, offY, rfl, hcY⟩ := hrowY (by omega)
  have hsr : s < q.length := by omega
  have hY1 : stepX X u s = q[s] := by unfold stepX; rw [hr2, getDN hsr]
  have ctX := hh.at (i := 3) rfl
  subst eX
  rw [hk.lx] at ctX
  refine ⟨gX, capX, bY, offY, yc, ctX, hgY, ?_, ?_⟩
  · rw [hcY s (by omega), hY1]
  · rw [hY1]; exact hr4 _ (List.getElem_mem hsr)
end
theorem BelW.at {w w1 : World} {a : Addr} {u : Value} (h : w.cell? a = some u) (hb : Below w.heap.size w w1) (q : BelW w1) : q.v.cell? a = some u :=
  ((hb.trans (q.h.mono hb.size)).cell (World.block_lt_of_cell? _ _ h)).trans h
section
variable {K n m N : Nat} {W X : List (List Nat)}
theorem next_cells2 {bT : Nat} {w : World} (ht : TabIs K n W X w bT) (hk : Tk m N W X) {u x s : Nat} (hu : u < N) (hx : x < N) (hs : s < m) :
    ∃ gX capX b off c b' off' c', w.cell? ⟨bT, 3, none⟩ = some (.slice (some ⟨gX, 0, none⟩) N capX) ∧ w.cell? ⟨gX, u, none⟩ = some (.slice (some ⟨b, off, none⟩) m c) ∧ w.cell? ⟨b, off + s, none⟩ = some (.int .i64 ((stepX X u s : Nat) : Int)) ∧
      w.cell? ⟨gX, x, none⟩ = some (.slice (some ⟨b', off', none⟩) m c') ∧ w.cell? ⟨b', off' + s, none⟩ = some (.int .i64 ((stepX X x s : Nat) : Int)) ∧ stepX X u s < N ∧ stepX X x s < N := by
  obtain ⟨gX, capX, b, off, c, h1, h2, h3, h4⟩ := next_cells ht hk (by omega) hu hs
  obtain ⟨gX', capX', b', off', c', k1, k2, k3, k4⟩ := next_cells ht hk (by omega) hx hs
  obtain ⟨e1, _, e3⟩ := Value.slice.inj (Option.some.inj (h1.symm.trans k1))
  cases e1
  exact ⟨gX, capX, b, off, c, b', off', c', h1, h2, h3, k2, k3, h4, k4⟩
theorem length_bel {bT : Nat} {w w1 : World} (ht : TabIs K n W X w bT) (hk : Tk m N W X) (hb : Below w.heap.size w w1) {y l : Nat} (hy : y < N) (hl : lenX W y = l) (q : BelW w1) :
    Calls Try.prog 67 #[.pointer (some ⟨bT, 0, none⟩), .int .i64 (y : Nat)] q.v fun e w' => e = .returned (.int .i64 ((l : Nat) : Int)) ∧ Below q.v.heap.size q.v w' := by
  refine (length_any bT y q.v (ht.below (hb.trans (q.h.mono hb.size))) hk hy).mono ?_
  rintro e w' ⟨rfl, rfl⟩
  exact ⟨by rw [hl], Below.refl _ _⟩
theorem belG_zero (W X : List (List Nat)) (u : Nat) : belG W X u 0 = (u == 0) := by simp [belG, belX]
end
theorem plus_11 (vf vg : Value) (f g : List Int) (w : World) (hf : Ints w vf f) (hg : Ints w vg g) (lf : f.length ≤ 1000) (lg : g.length ≤ 1000) :
    Calls Try.prog 91 #[vf, .int .i64 1, .int .i64 1, vg] w (PolOut (plusL f 1 1 g) w) := plus_any vf vg f g 1 1 w hf hg lf lg (by omega)
theorem plus_m0 (vf vg : Value) (f g : List Int) (w : World) (hf : Ints w vf f) (hg : Ints w vg g) (lf : f.length ≤ 1000) (lg : g.length ≤ 1000) :
    Calls Try.prog 91 #[vf, .int .i64 (-1), .int .i64 0, vg] w (PolOut (plusL f (-1) 0 g) w) := plus_any vf vg f g (-1) 0 w hf hg lf lg (by omega)
theorem plus_10 (vf vg : Value) (f g : List Int) (w : World) (hf : Ints w vf f) (hg : Ints w vg g) (lf : f.length ≤ 1000) (lg : g.length ≤ 1000) :
    Calls Try.prog 91 #[vf, .int .i64 1, .int .i64 0, vg] w (PolOut (plusL f 1 0 g) w) := plus_any vf vg f g 1 0 w hf hg lf lg (by omega)
theorem one_fz {S : Nat → Prop} (w : World) (hS : S w.heap.size) : Fz S (w.alloc (.cells #[.int .i64 1] 3)) (.slice (some ⟨w.heap.size, 0, none⟩) 1 1) [1] := by
  have h : OwnI 3 w.heap.size (w.alloc (.cells #[.int .i64 1] 3)) (.slice (some ⟨w.heap.size, 0, none⟩) 1 1) [1] := own_fresh w 3 [1] (Nat.le_refl _) (by simp [maxLen])
  exact h.fz (by simp) (fun k hk => by cases hk; exact hS)
end Go.Proofs.Ytmlhecfhhhebnaa

/- Polynomials: the walk of rOf. -/
namespace Go.Proofs.Ytmlhecfhhhebnaa
open Go.RowKit
attribute [local go_sem] Oper.semAt_some

set_option maxRecDepth 20000 in
set_option maxHeartbeats 8000000 in
theorem rOf_step {K n m N : Nat} {W X : List (List Nat)} {r p : Nat → Nat → List Int} {bT bm bR bP : Nat} {w0 : World} (hk : Tk m N W X) (hl : lstB W X = true) (ht : TabIs K n W X w0 bT) (F : MF bm bR bP w0)
    (hr : ∀ u x, u < N → x < N → r u x = stepR W X (belG W X) r u x) (hlen : ∀ u x, (r u x).length ≤ 100) (u x : Nat) (w : World) (hu : u < N) (hx : x < N) (hM : MS r p bT bm bR bP w0 w)
    (ih : ∀ u' x' w', lenX W x' < lenX W x → u' < N → x' < N → MS r p bT bm bR bP w0 w' → Calls Try.prog 71 #[.pointer (some ⟨bm, 0, none⟩), .int .i64 (u' : Nat), .int .i64 (x' : Nat)] w' (ROut r p bT bm bR bP w0 (r u' x') w')) :
    Calls Try.prog 71 #[.pointer (some ⟨bm, 0, none⟩), .int .i64 (u : Nat), .int .i64 (x : Nat)] w (ROut r p bT bm bR bP w0 (r u x) w) := by
  have hN := hk.small
  have HMX := Lib.hid (show Try.prog.follows .mixedOrders = true by kernel_rfl)
  have HT := Lib.hid (fun (w' : World) (h : MS r p bT bm bR bP w0 w') => ht.below h.bel)
  have BW := Lib.hid (fun (w' : World) (h : MS r p bT bm bR bP w0 w') => below_any bT u x w' (ht.below h.bel) hk hl hu hx)
  have hb0 := hM.box.at (i := 0) rfl
  have hb1 := hM.box.at (i := 1) rfl
  have HM := Lib.hid hM
  have hre := hr u x hu hx
  unfold stepR at hre
  by_cases hbel : belG W X u x = true
  · rw [hbel] at BW hre
    rw [if_neg (by simp)] at hre
    by_cases hux : u = x
    · rw [if_pos hux] at hre
      have HRE := Lib.hid hre
      have he : ((u : Int) == (x : Int)) = true := by simp [hux]
      clear hre hux hM hbel ih hr
      go_enter Try.func71, Try.ntmps71
      go_wp2_with (go_at_call 68; refine (BW.out _ HM.out).mono ?_; rintro e w1 ⟨rfl, hb1⟩)
      go_ret
      have hm1 := HM.out.below hb1
      refine ⟨_, rfl, ?_, hm1.below ((Below.refl _ _).alloc (Nat.le_refl _) _), (Sm.of_below hb1).trans (Sm.of_below ((Below.refl _ _).alloc (Nat.le_refl _) _))⟩
      rw [HRE.out]
      exact one_fz w1 ⟨by have := hm1.mr.lt; omega, by have := hm1.mp.lt; omega⟩
    · rw [if_neg hux] at hre
      have he : ((u : Int) == (x : Int)) = false := by simp; omega
      have h0 : x ≠ 0 := by
        intro e
        subst e
        rw [belG_zero] at hbel
        exact hux (by simpa using hbel)
      have hxW : x < W.length := by rw [hk.lw]; exact hx
      have hll := lst_at hl hxW h0
      have hsm := lastX_m hk hl hx h0
      have htw := HT.out w hM
      obtain ⟨gW, capW, bW, offW, cW, cw2, cwx, cwl⟩ := word_cells htw hk hl hx h0
      obtain ⟨gX, capX, bu, ofu, cu, bx, ofx, cx, cx3, cu1, cu2, cx1, cx2, husN, hxsN⟩ := next_cells2 htw hk hu hx hsm
      obtain ⟨s, hs⟩ : ∃ s, lastX W x = s := ⟨_, rfl⟩
      rw [hs] at hll hsm cwl cu2 cx2 husN hxsN hre
      obtain ⟨us, hus⟩ : ∃ us, stepX X u s = us := ⟨_, rfl⟩
      obtain ⟨xs, hxs⟩ : ∃ xs, stepX X x s = xs := ⟨_, rfl⟩
      rw [hus] at cu2 husN hre
      rw [hxs] at cx2 hxsN hre hll
      have hl12 : lenX W x ≤ 12 := by unfold lenX; rw [getDL hxW]; exact hk.short _ (List.getElem_mem hxW)
      have hlxs := hll.2
      obtain ⟨l, hlE⟩ : ∃ l, lenX W x = l := ⟨_, rfl⟩
      rw [hlE] at hll hl12 cwx cwl
      obtain ⟨lu, hluE⟩ : ∃ lu, lenX W u = lu := ⟨_, rfl⟩
      obtain ⟨lus, hlusE⟩ : ∃ lus, lenX W us = lus := ⟨_, rfl⟩
      rw [hluE, hlusE] at hre
      have LX := Lib.hid (fun (w1 : World) (hb : Below w.heap.size w w1) (q : BelW w1) => length_bel htw hk hb hx hlE q)
      have LU := Lib.hid (fun (w1 : World) (hb : Below w.heap.size w w1) (q : BelW w1) => length_bel htw hk hb hu hluE q)
      have LUS := Lib.hid (fun (w1 : World) (hb : Below w.heap.size w w1) (q : BelW w1) => length_bel htw hk hb husN hlusE q)
      have C0 := Lib.hid (fun (w1 : World) (hb : Below w.heap.size w w1) (q : BelW w1) => BelW.at hb0 hb q)
      have C1 := Lib.hid (fun (w1 : World) (hb : Below w.heap.size w w1) (q : BelW w1) => BelW.at cw2 hb q)
      have C2 := Lib.hid (fun (w1 : World) (hb : Below w.heap.size w w1) (q : BelW w1) => BelW.at cwx hb q)
      have C3 := Lib.hid (fun (w1 : World) (hb : Below w.heap.size w w1) (q : BelW w1) => BelW.at cwl hb q)
      have D0 := Lib.hid (fun (w1 : World) (hb : Below w.heap.size w w1) (q : BelW w1) => BelW.at cx3 hb q)
      have D1 := Lib.hid (fun (w1 : World) (hb : Below w.heap.size w w1) (q : BelW w1) => BelW.at cu1 hb q)
      have D2 := Lib.hid (fun (w1 : World) (hb : Below w.heap.size w w1) (q : BelW w1) => BelW.at cu2 hb q)
      have D3 := Lib.hid (fun (w1 : World) (hb : Below w.heap.size w w1) (q : BelW w1) => BelW.at cx1 hb q)
      have D4 := Lib.hid (fun (w1 : World) (hb : Below w.heap.size w w1) (q : BelW w1) => BelW.at cx2 hb q)
      have HRE := Lib.hid hre
      have HLX := Lib.hid hlxs
      have HF := Lib.hid F
      have HUS := Lib.hid husN
      have HXS := Lib.hid hxsN
      have HLEN := Lib.hid hlen
      have IHA := Lib.hid (fun (w' : World) (h : MS r p bT bm bR bP w0 w') => ih us xs w' hlxs husN hxsN h)
      have IHB := Lib.hid (fun (w' : World) (h : MS r p bT bm bR bP w0 w') => ih u xs w' hlxs hu hxsN h)
      have hu3 : u < 1000 := by omega
      have hx3 : x < 1000 := by omega
      have hl0 := hll.1
      have hwl : IntKind.i64.wrap ((l : Int) - 1) = ((l - 1 : Nat) : Int) := by rw [IntWalk.i64_in _ (by omega)]; omega
      have hlk : ((l - 1 : Nat) : Int) < (l : Int) := by omega
      have hxi : (x : Int) < (N : Int) := by omega
      have hui : (u : Int) < (N : Int) := by omega
      have hsi : (s : Int) < (m : Int) := by omega
      clear hM htw cw2 cwx cwl cx3 cu1 cu2 cx1 cx2 hs hus hxs hlE hluE hlusE hre hlxs husN hxsN hlen ih hll h0 hxW hux hbel hsm hr hl ht F hb0 hb1
      have hb1 := HM.out.box.at (i := 1) rfl
      have hb0 := HM.out.box.at (i := 0) rfl
      go_enter Try.func71, Try.ntmps71
      go_upto_region 5 with (go_at_call 68; refine (BW.out _ HM.out).mono ?_; rintro e w1 ⟨rfl, hbw⟩)
      have HM1 := Lib.hid (HM.out.below hbw)
      have HBW := Lib.hid hbw
      clear hbw hb1 hb0
      have hb1 := HM1.out.box.at (i := 1) rfl
      obtain ⟨v7, bb, hlk7, hv7⟩ := HM1.out.mr.look hu3 hx3
      have HV7 := Lib.hid hv7
      clear hv7
      cases bb with
      | true =>
        go_wp2
        go_ret
        exact ⟨_, rfl, HV7.out trivial, HM1.out, Sm.of_below HBW.out⟩
      | false =>
        go_upto_region 8 with (fail)
        have q0 := C0.out w1 HBW.out
        have q1 := C1.out w1 HBW.out
        have q2 := C2.out w1 HBW.out
        have q3 := C3.out w1 HBW.out
        have LX1 := Lib.hid (LX.out w1 HBW.out)
        clear hlk7 hb1
        refine wp_region_bel HMX.out (by kernel_rfl) ?_
        repeat (first
          | go_big_quiet_step ((go_at_call 67; (with_reducible refine Calls.bel_of (LX1.out _))))
          | quiet_step ((go_at_call 67; (with_reducible refine Calls.bel_of (LX1.out _)))))
        refine wpQuiet_nil ?_
        intro w2 hw'
        have hb2 := BelW.of hw'
        clear hw' q0 q1 q2 q3
        have HB2 := Lib.hid (HBW.out.trans (hb2.mono HBW.out.size))
        have HM2 := Lib.hid (HM1.out.below hb2)
        clear hb2
        go_upto_region 9 with (fail)
        have q0 := C0.out w2 HB2.out
        have q1 := D0.out w2 HB2.out
        have q2 := D1.out w2 HB2.out
        have q3 := D2.out w2 HB2.out
        have q4 := D3.out w2 HB2.out
        have q5 := D4.out w2 HB2.out
        refine wp_region_bel HMX.out (by kernel_rfl) ?_
        repeat (first | go_big_quiet_step (fail) | quiet_step (fail))
        refine wpQuiet_nil ?_
        intro w3 hw'
        have hb3 := BelW.of hw'
        clear hw' q0 q1 q2 q3 q4 q5
        have HB3 := Lib.hid (HB2.out.trans (hb3.mono HB2.out.size))
        have HM3 := Lib.hid (HM2.out.below hb3)
        clear hb3
        go_upto_region 11 with (fail)
        have q0 := C0.out w3 HB3.out
        have LU3 := Lib.hid (LU.out w3 HB3.out)
        have LUS3 := Lib.hid (LUS.out w3 HB3.out)
        refine wp_region_bel HMX.out (by kernel_rfl) ?_
        repeat (first
          | go_big_quiet_step (first | (go_at_call 67; (with_reducible refine Calls.bel_of (LUS3.out _))) | (go_at_call 67; (with_reducible refine Calls.bel_of (LU3.out _))))
          | quiet_step (first | (go_at_call 67; (with_reducible refine Calls.bel_of (LUS3.out _))) | (go_at_call 67; (with_reducible refine Calls.bel_of (LU3.out _)))))
        refine wpQuiet_nil ?_
        intro w4 hw'
        have hb4 := BelW.of hw'
        clear hw' q0
        have HB4 := Lib.hid (HB3.out.trans (hb4.mono HB3.out.size))
        have HM4 := Lib.hid (HM3.out.below hb4)
        have HS4 := Lib.hid (Sm.of_below (S := Sx bR bP) HB4.out)
        clear hb4
        by_cases hlt : lus < lu
        · have hli : (lus : Int) < (lu : Int) := by omega
          have HRX := Lib.hid (show r u x = r us xs by rw [HRE.out, if_pos hlt])
          clear hlt
          go_upto_region 15 with (go_at_call 71; refine (IHA.out _ HM4.out).mono ?_; rintro e w5 ⟨v5, rfl, hf5, hm5, hs5⟩)
          rw [← HRX.out] at hf5
          have hbx5 := hm5.box.at (i := 1) rfl
          obtain ⟨w6, hmu, hm6, hs6⟩ := hm5.putR HF.out hu3 hx3 hf5
          have HF6 := Lib.hid (hf5.kept hs6)
          have HM6 := Lib.hid hm6
          have HS6 := Lib.hid (HS4.out.trans (hs5.trans hs6))
          clear hf5 hm5 hs5 hm6 hs6
          go_wp2
          go_ret
          exact ⟨_, rfl, HF6.out, HM6.out, HS6.out⟩
        · have hli : ¬ (lus : Int) < (lu : Int) := by omega
          have HRX := Lib.hid (show r u x = plusL (plusL (plusL [] 1 1 (r u xs)) (-1) 0 (r u xs)) 1 1 (r us xs) by rw [HRE.out, if_neg hlt])
          clear hlt
          go_upto_region 14 with (go_at_call 71; refine (IHB.out _ HM4.out).mono ?_; rintro e w5 ⟨v5, rfl, hf5, hm5, hs5⟩)
          have HF5 := Lib.hid hf5
          have HM5 := Lib.hid hm5
          have HS5 := Lib.hid (HS4.out.trans hs5)
          obtain ⟨g, hg⟩ : ∃ g, r u xs = g := ⟨_, rfl⟩
          obtain ⟨h, hh⟩ : ∃ h, r us xs = h := ⟨_, rfl⟩
          rw [hg] at HF5 hf5 HRX
          rw [hh] at HRX IHA
          have lg : g.length ≤ 100 := by rw [← hg]; exact HLEN.out u xs
          have lh : h.length ≤ 100 := by rw [← hh]; exact HLEN.out us xs
          obtain ⟨g1, hg1⟩ : ∃ g1, plusL [] 1 1 g = g1 := ⟨_, rfl⟩
          obtain ⟨g2, hg2⟩ : ∃ g2, plusL g1 (-1) 0 g = g2 := ⟨_, rfl⟩
          have lg1 : g1.length ≤ 200 := by rw [← hg1]; exact plusL_len _ _ _ _ (by simp) (by omega)
          have lg2 : g2.length ≤ 200 := by rw [← hg2]; exact plusL_len _ _ _ _ lg1 (by omega)
          rw [hg1, hg2] at HRX
          have PA := Lib.hid (plus_11 (.slice none 0 0) v5 [] g w5 (Ints.nil _) hf5.ints (by simp) (by omega))
          have PB := Lib.hid (fun (v : Value) (w' : World) (h1 : Ints w' v g1) (h2 : Ints w' v5 g) => plus_m0 v v5 g1 g w' h1 h2 (by omega) (by omega))
          have PC := Lib.hid (fun (v v' : Value) (w' : World) (h1 : Ints w' v g2) (h2 : Ints w' v' h) => plus_11 v v' g2 h w' h1 h2 (by omega) (by omega))
          rw [hg1] at PA
          rw [hg2] at PB
          rw [← HRX.out] at PC
          clear hf5 hm5 hs5 hg hh hg1 hg2 lg lh lg1 lg2
          go_upto_region 15 with (first
            | (go_at_call 91; refine (PC.out vb vc wc (hfb.kept hsc).ints hfc.ints).mono ?_; rintro e wd ⟨vd, rfl, hfd, hbd⟩)
            | (go_at_call 71; refine (IHA.out _ hmb).mono ?_; rintro e wc ⟨vc, rfl, hfc, hmc, hsc⟩)
            | (go_at_call 91; refine (PB.out va wa hfa.ints (HF5.out.kept (Sm.of_below hba)).ints).mono ?_; rintro e wb ⟨vb, rfl, hfb0, hbb⟩; have hfb := hma.new hfb0; have hmb := hma.below hbb)
            | (go_at_call 91; refine PA.out.mono ?_; rintro e wa ⟨va, rfl, hfa0, hba⟩; have hfa := HM5.out.new hfa0; have hma := HM5.out.below hba))
          have hfd' := hmc.new hfd
          have hmd := hmc.below hbd
          have hbxd := hmd.box.at (i := 1) rfl
          obtain ⟨we, hmu, hme, hse⟩ := hmd.putR HF.out hu3 hx3 hfd'
          have HFE := Lib.hid (hfd'.kept hse)
          have HME := Lib.hid hme
          have HSE := Lib.hid (HS5.out.trans ((Sm.of_below hba).trans ((Sm.of_below hbb).trans (hsc.trans ((Sm.of_below hbd).trans hse)))))
          clear hfd hfd' hmd hme hse hfa0 hba hfa hma hfb0 hbb hfb hmb hfc hmc hsc hbd
          go_wp2
          go_ret
          exact ⟨_, rfl, HFE.out, HME.out, HSE.out⟩
  · have hbf : belG W X u x = false := by simpa using hbel
    rw [hbf] at BW hre
    rw [if_pos rfl] at hre
    have HRE := Lib.hid hre
    clear hre hM hbel hbf ih hr
    go_enter Try.func71, Try.ntmps71
    go_wp2_with (go_at_call 68; refine (BW.out _ HM.out).mono ?_; rintro e w1 ⟨rfl, hb1⟩)
    go_ret
    exact ⟨_, rfl, by rw [HRE.out]; exact fz_nilP _ _, HM.out.below hb1, Sm.of_below hb1⟩
theorem rOf_any {K n m N : Nat} {W X : List (List Nat)} {r p : Nat → Nat → List Int} {bT bm bR bP : Nat} {w0 : World} (hk : Tk m N W X) (hl : lstB W X = true) (ht : TabIs K n W X w0 bT) (F : MF bm bR bP w0)
    (hr : ∀ u x, u < N → x < N → r u x = stepR W X (belG W X) r u x) (hlen : ∀ u x, (r u x).length ≤ 100) : ∀ (f u x : Nat) (w : World), lenX W x < f → u < N → x < N → MS r p bT bm bR bP w0 w →
    Calls Try.prog 71 #[.pointer (some ⟨bm, 0, none⟩), .int .i64 (u : Nat), .int .i64 (x : Nat)] w (ROut r p bT bm bR bP w0 (r u x) w)
  | 0, _, _, _, h, _, _, _ => absurd h (Nat.not_lt_zero _)
  | f + 1, u, x, w, h, hu, hx, hM => rOf_step hk hl ht F hr hlen u x w hu hx hM fun u' x' w' hlt hu' hx' hM' => rOf_any hk hl ht F hr hlen f u' x' w' (by omega) hu' hx' hM'
end Go.Proofs.Ytmlhecfhhhebnaa

/- Polynomials: the walk of pOf. -/
namespace Go.Proofs.Ytmlhecfhhhebnaa
open Go.RowKit
attribute [local go_sem] Oper.semAt_some

theorem plus_low (vf vg : Value) (s : List Int) (i : Nat) (x k : Int) (w : World) (hx : s.getD i 0 = x) (hk : wrap64 (-x) = k) (hf : Ints w vf (lowTo s i)) (hg : Ints w vg [1]) (lf : (lowTo s i).length ≤ 1000) (li : i ≤ 1000) :
    Calls Try.prog 91 #[vf, .int .i64 k, .int .i64 (i : Nat), vg] w (PolOut (lowTo s (i + 1)) w) := by
  have := plus_any vf vg (lowTo s i) [1] k i w hf hg lf (by simp) li
  have e : lowTo s (i + 1) = plusL (lowTo s i) k i [1] := by
    rw [lowTo, hx, ← hk]
    unfold w64 wrap64
    rfl
  rw [e]
  exact this
theorem lowTo_len (s : List Int) : ∀ k, (lowTo s k).length ≤ k
  | 0 => by simp [lowTo]
  | k + 1 => plusL_len _ _ _ _ (by have := lowTo_len s k; omega) (by simp)
theorem sumTo_len {bel : Nat → Nat → Bool} {r p : Nat → Nat → List Int} (hr : ∀ u x, (r u x).length ≤ 100) (hp : ∀ u x, (p u x).length ≤ 100) (u x : Nat) : ∀ k, (sumTo bel r p u x k).length ≤ 200
  | 0 => by simp [sumTo]
  | k + 1 => by
    rw [sumTo]
    split
    · refine plusL_len _ _ _ _ (sumTo_len hr hp u x k) ?_
      have := timesL_len (r u k) (p k x)
      have := hr u k
      have := hp k x
      omega
    · exact sumTo_len hr hp u x k
theorem one_own (w : World) : Ints (w.alloc (.cells #[.int .i64 1] 3)) (.slice (some ⟨w.heap.size, 0, none⟩) 1 1) [1] := (one_fz (S := fun _ => True) w trivial).ints

set_option maxRecDepth 20000 in
set_option maxHeartbeats 8000000 in
theorem pOf_step {K n m N : Nat} {W X : List (List Nat)} {r p : Nat → Nat → List Int} {bT bm bR bP : Nat} {w0 : World} (hk : Tk m N W X) (hl : lstB W X = true) (ht : TabIs K n W X w0 bT) (F : MF bm bR bP w0)
    (hlen : ∀ u x, (r u x).length ≤ 100) (hplen : ∀ u x, (p u x).length ≤ 100) (hp : ∀ u x, u < N → x < N → p u x = stepP W (belG W X) r p u x)
    (hord : ∀ a b, a < N → b < N → belG W X a b = true → a ≠ b → lenX W a < lenX W b)
    (ROF : ∀ u' x' w', u' < N → x' < N → MS r p bT bm bR bP w0 w' → Calls Try.prog 71 #[.pointer (some ⟨bm, 0, none⟩), .int .i64 (u' : Nat), .int .i64 (x' : Nat)] w' (ROut r p bT bm bR bP w0 (r u' x') w'))
    (u x : Nat) (w : World) (hu : u < N) (hx : x < N) (hM : MS r p bT bm bR bP w0 w)
    (ih : ∀ u' w', lenX W u < lenX W u' → u' < N → MS r p bT bm bR bP w0 w' → Calls Try.prog 72 #[.pointer (some ⟨bm, 0, none⟩), .int .i64 (u' : Nat), .int .i64 (x : Nat)] w' (ROut r p bT bm bR bP w0 (p u' x) w')) :
    Calls Try.prog 72 #[.pointer (some ⟨bm, 0, none⟩), .int .i64 (u : Nat), .int .i64 (x : Nat)] w (ROut r p bT bm bR bP w0 (p u x) w) := by
  have hN := hk.small
  have HMX := Lib.hid (show Try.prog.follows .mixedOrders = true by kernel_rfl)
  have HT := Lib.hid (fun (w' : World) (h : MS r p bT bm bR bP w0 w') => ht.below h.bel)
  have BW := Lib.hid (fun (w' : World) (h : MS r p bT bm bR bP w0 w') => below_any bT u x w' (ht.below h.bel) hk hl hu hx)
  have hb0 := hM.box.at (i := 0) rfl
  have hb2 := hM.box.at (i := 2) rfl
  have HM := Lib.hid hM
  have hre := hp u x hu hx
  unfold stepP at hre
  by_cases hbel : belG W X u x = true
  · rw [hbel] at BW hre
    rw [if_neg (by simp)] at hre
    by_cases hux : u = x
    · rw [if_pos hux] at hre
      have HRE := Lib.hid hre
      have he : ((u : Int) == (x : Int)) = true := by simp [hux]
      clear hre hux hM hbel ih hp
      go_enter Try.func72, Try.ntmps72
      go_wp2_with (go_at_call 68; refine (BW.out _ HM.out).mono ?_; rintro e w1 ⟨rfl, hb1⟩)
      go_ret
      have hm1 := HM.out.below hb1
      refine ⟨_, rfl, ?_, hm1.below ((Below.refl _ _).alloc (Nat.le_refl _) _), (Sm.of_below hb1).trans (Sm.of_below ((Below.refl _ _).alloc (Nat.le_refl _) _))⟩
      rw [HRE.out]
      exact one_fz w1 ⟨by have := hm1.mr.lt; omega, by have := hm1.mp.lt; omega⟩
    · rw [if_neg hux] at hre
      have he : ((u : Int) == (x : Int)) = false := by simp; omega
      have hlux := hord u x hu hx hbel hux
      have hxW : x < W.length := by rw [hk.lw]; exact hx
      have huW : u < W.length := by rw [hk.lw]; exact hu
      have hl12 : lenX W x ≤ 12 := by unfold lenX; rw [getDL hxW]; exact hk.short _ (List.getElem_mem hxW)
      have htw := HT.out w hM
      have h0 : x ≠ 0 := by
        intro e
        subst e
        rw [belG_zero] at hbel
        exact hux (by simpa using hbel)
      obtain ⟨gW, capW, bW, offW, cW, cw2, _, _⟩ := word_cells htw hk hl hx h0
      obtain ⟨lx, hlxE⟩ : ∃ lx, lenX W x = lx := ⟨_, rfl⟩
      obtain ⟨lu, hluE⟩ : ∃ lu, lenX W u = lu := ⟨_, rfl⟩
      rw [hk.lw, hlxE, hluE] at hre
      have HTW := Lib.hid htw
      have HKK := Lib.hid hk
      have LX := Lib.hid (fun (w1 : World) (hm : MS r p bT bm bR bP w0 w1) (q : BelW w1) => length_bel (HT.out w1 hm) HKK.out (Below.refl _ _) hx hlxE q)
      have LU := Lib.hid (fun (w1 : World) (hm : MS r p bT bm bR bP w0 w1) (q : BelW w1) => length_bel (HT.out w1 hm) HKK.out (Below.refl _ _) hu hluE q)
      have BU := Lib.hid (fun (i : Nat) (hi : i < N) (w' : World) (h : MS r p bT bm bR bP w0 w') => below_any bT u i w' (HT.out w' h) hk hl hu hi)
      have BX := Lib.hid (fun (i : Nat) (hi : i < N) (w' : World) (h : MS r p bT bm bR bP w0 w') => below_any bT i x w' (HT.out w' h) hk hl hi hx)
      have IH := Lib.hid (fun (i : Nat) (hi : i < N) (hb : belG W X u i = true) (hne : u ≠ i) (w' : World) (h : MS r p bT bm bR bP w0 w') => ih i w' (hord u i hu hi hb hne) hi h)
      have ROU := Lib.hid (fun (i : Nat) (hi : i < N) (w' : World) (h : MS r p bT bm bR bP w0 w') => ROF u i w' hu hi h)
      have HRE := Lib.hid hre
      have HF := Lib.hid F
      have HLEN := Lib.hid hlen
      have HPLEN := Lib.hid hplen
      have hu3 : u < 1000 := by omega
      have hx3 : x < 1000 := by omega
      rw [hlxE, hluE] at hlux
      rw [hlxE] at hl12
      clear hM htw hlxE hluE hre hlen hplen ih hux hbel hp hl ht F hb0 hb2 hord ROF huW hxW h0 hk
      have hb2 := HM.out.box.at (i := 2) rfl
      have hb0 := HM.out.box.at (i := 0) rfl
      go_enter Try.func72, Try.ntmps72
      go_upto_region 5 with (go_at_call 68; refine (BW.out _ HM.out).mono ?_; rintro e w1 ⟨rfl, hbw⟩)
      have HM1 := Lib.hid (HM.out.below hbw)
      have HBW := Lib.hid hbw
      have cw3 := ((hbw.cell (World.block_lt_of_cell? _ _ cw2)).trans cw2)
      clear hbw hb2 hb0 cw2
      have hb2 := HM1.out.box.at (i := 2) rfl
      have hb0 := HM1.out.box.at (i := 0) rfl
      obtain ⟨v7, bb, hlk7, hv7⟩ := HM1.out.mp.look hu3 hx3
      have HV7 := Lib.hid hv7
      clear hv7
      cases bb with
      | true =>
        go_wp2
        go_ret
        exact ⟨_, rfl, HV7.out trivial, HM1.out, Sm.of_below HBW.out⟩
      | false =>
        go_upto_region 10 with (fail)
        clear hlk7 hb2 hb0 cw3
        go_loopw [9, 47] (fun t9 ix wr => ∃ i : Nat, ix = .int .i64 i ∧ i ≤ N ∧ Fz (Sx bR bP) wr t9 (sumTo (belG W X) r p u x i) ∧ MS r p bT bm bR bP w0 wr ∧ Sm (Sx bR bP) w wr) (fun _ ix _ => N - (intOf ix).toNat)
        case atStart => exact ⟨0, rfl, Nat.zero_le _, fz_nilP _ _, HM1.out, Sm.of_below HBW.out⟩
        case round =>
          obtain ⟨i, rfl, hi, hf, hm, hs⟩ := hrel
          have HFI := Lib.hid hf
          have HMI := Lib.hid hm
          have HSI := Lib.hid hs
          by_cases hlt : i < N
          · have hii : (i : Int) < (N : Int) := by omega
            have hb0 := hm.box.at (i := 0) rfl
            have BUI := Lib.hid (fun (w' : World) (h : MS r p bT bm bR bP w0 w') => BU.out i hlt w' h)
            have BXI := Lib.hid (fun (w' : World) (h : MS r p bT bm bR bP w0 w') => BX.out i hlt w' h)
            have HSS := Lib.hid (show sumTo (belG W X) r p u x (i + 1) = if (!(i == u) && belG W X u i) && belG W X i x then plusL (sumTo (belG W X) r p u x i) 1 0 (timesL (r u i) (p i x)) else sumTo (belG W X) r p u x i from rfl)
            clear hf hm hs
            by_cases hiu : i = u
            · have hne : ((i : Int) != (u : Int)) = false := by simp [hiu]
              have HEQ := Lib.hid (show sumTo (belG W X) r p u x (i + 1) = sumTo (belG W X) r p u x i by rw [HSS.out, hiu]; simp)
              clear hiu
              go_wp2
              go_roundw
              case rel => exact ⟨i + 1, by go_num, by omega, by rw [HEQ.out]; exact HFI.out, HMI.out, HSI.out⟩
              case measure => simp [intOf]; omega
            · have hne : ((i : Int) != (u : Int)) = true := by simp; omega
              have hiub : (i == u) = false := by simp [hiu]
              have HIU := Lib.hid (show u ≠ i from fun e => hiu e.symm)
              clear hiu
              cases hB1 : belG W X u i with
              | false =>
                have HEQ := Lib.hid (show sumTo (belG W X) r p u x (i + 1) = sumTo (belG W X) r p u x i by rw [HSS.out, hiub, hB1]; simp)
                rw [hB1] at BUI
                clear hB1
                go_wp2_with (go_at_call 68; refine (BUI.out _ HMI.out).mono ?_; rintro e w2 ⟨rfl, hb2⟩; have HB2 := Lib.hid hb2; clear hb2)
                go_roundw
                case rel => exact ⟨i + 1, by go_num, by omega, by rw [HEQ.out]; exact HFI.out.kept (Sm.of_below HB2.out), HMI.out.below HB2.out, HSI.out.trans (Sm.of_below HB2.out)⟩
                case measure => simp [intOf]; omega
              | true =>
                have IHI := Lib.hid (fun (w' : World) (h : MS r p bT bm bR bP w0 w') => IH.out i hlt hB1 HIU.out w' h)
                rw [hB1] at BUI
                cases hB2 : belG W X i x with
                | false =>
                  have HEQ := Lib.hid (show sumTo (belG W X) r p u x (i + 1) = sumTo (belG W X) r p u x i by rw [HSS.out, hiub, hB1, hB2]; simp)
                  rw [hB2] at BXI
                  clear hB1 hB2
                  go_wp2_with (first
                    | (go_at_call 68; refine (BXI.out _ (HMI.out.below hb2)).mono ?_; rintro e w3 ⟨rfl, hb3⟩; have HB3 := Lib.hid (hb2.trans (hb3.mono hb2.size)); clear hb2 hb3)
                    | (go_at_call 68; refine (BUI.out _ HMI.out).mono ?_; rintro e w2 ⟨rfl, hb2⟩; have hb02 := (HMI.out.below hb2).box.at (i := 0) rfl))
                  go_roundw
                  case rel => exact ⟨i + 1, by go_num, by omega, by rw [HEQ.out]; exact HFI.out.kept (Sm.of_below HB3.out), HMI.out.below HB3.out, HSI.out.trans (Sm.of_below HB3.out)⟩
                  case measure => simp [intOf]; omega
                | true =>
                  have HEQ := Lib.hid (show sumTo (belG W X) r p u x (i + 1) = plusL (sumTo (belG W X) r p u x i) 1 0 (timesL (r u i) (p i x)) by rw [HSS.out, hiub, hB1, hB2]; simp)
                  rw [hB2] at BXI
                  have HIX := Lib.hid (show (r u i).length ≤ 100 ∧ (p i x).length ≤ 100 from ⟨HLEN.out u i, HPLEN.out i x⟩)
                  have HSL := Lib.hid (show (sumTo (belG W X) r p u x i).length ≤ 200 from sumTo_len HLEN.out HPLEN.out u x i)
                  have ROI := Lib.hid (fun (w' : World) (h : MS r p bT bm bR bP w0 w') => ROU.out i hlt w' h)
                  obtain ⟨ra, hra⟩ : ∃ ra, r u i = ra := ⟨_, rfl⟩
                  obtain ⟨pa, hpa⟩ : ∃ pa, p i x = pa := ⟨_, rfl⟩
                  obtain ⟨sa, hsa⟩ : ∃ sa, sumTo (belG W X) r p u x i = sa := ⟨_, rfl⟩
                  rw [hra, hpa] at HIX HEQ
                  rw [hra] at ROI
                  rw [hpa] at IHI
                  rw [hsa] at HEQ HFI HSL
                  clear hB1 hB2 hra hpa hsa
                  go_wp2_with (first
                    | (go_at_call 91; refine (plus_10 _ v6 sa (timesL ra pa) w6 ((((HFI.out.kept (Sm.of_below HB3.out)).kept (hs4.trans hs5)).kept (Sm.of_below hb6)).ints) hf6.ints (by have := HSL.out; omega) (by have := timesL_len ra pa; have := HIX.out; omega)).mono ?_; rintro e w7 ⟨v7, rfl, hf7, hb7⟩; have hm7 := hm6.below hb7; have HF7 := Lib.hid (hm6.new hf7); have HM7 := Lib.hid hm7; have HS7 := Lib.hid (HSI.out.trans ((Sm.of_below HB3.out).trans ((hs4.trans hs5).trans ((Sm.of_below hb6).trans (Sm.of_below hb7))))); clear hf4 hm4 hs4 hf5 hm5 hs5 hf6 hb6 hm6 hf7 hb7 hm7 hf4b)
                    | (go_at_call 92; refine (times_any v4 v5 ra pa w5 hf4b.ints hf5.ints (by have := HIX.out; omega) (by have := HIX.out; omega)).mono ?_; rintro e w6 ⟨v6, rfl, hf6, hb6⟩; have hm6 := hm5.below hb6)
                    | (go_at_call 72; refine (IHI.out _ hm4).mono ?_; rintro e w5 ⟨v5, rfl, hf5, hm5, hs5⟩; have hf4b := hf4.kept hs5)
                    | (go_at_call 71; refine (ROI.out _ HM3.out).mono ?_; rintro e w4 ⟨v4, rfl, hf4, hm4, hs4⟩)
                    | (go_at_call 68; refine (BXI.out _ (HMI.out.below hb2)).mono ?_; rintro e w3 ⟨rfl, hb3⟩; have HB3 := Lib.hid (hb2.trans (hb3.mono hb2.size)); have HM3 := Lib.hid (HMI.out.below HB3.out); clear hb2 hb3)
                    | (go_at_call 68; refine (BUI.out _ HMI.out).mono ?_; rintro e w2 ⟨rfl, hb2⟩; have hb02 := (HMI.out.below hb2).box.at (i := 0) rfl))
                  go_roundw
                  case rel => exact ⟨i + 1, by go_num, by omega, by rw [HEQ.out]; exact HF7.out, HM7.out, HS7.out⟩
                  case measure => simp [intOf]; omega
          · have hie : i = N := by omega
            have hii : ¬ (i : Int) < (N : Int) := by omega
            rw [hie] at hf
            obtain ⟨sa, hsa⟩ : ∃ sa, sumTo (belG W X) r p u x N = sa := ⟨_, rfl⟩
            rw [hsa] at hf HRE
            have HSL := Lib.hid (show sa.length ≤ 200 by rw [← hsa]; exact sumTo_len HLEN.out HPLEN.out u x _)
            obtain ⟨a9, c9, rfl, hr9⟩ := id hf
            have HFS := Lib.hid hf
            obtain ⟨ls, hls⟩ : ∃ ls, sa.length = ls := ⟨_, rfl⟩
            have HLS := Lib.hid hls
            rw [hls] at HFS HSL HRE ⊢
            have hls2 := HSL.out
            have hb0 := hm.box.at (i := 0) rfl
            have B0 := Lib.hid (fun (q : BelW wr) => BelW.at hb0 (Below.refl _ _) q)
            have LXR := Lib.hid (LX.out wr hm)
            have LUR := Lib.hid (LU.out wr hm)
            have q0 := B0.out
            have hlw : IntKind.i64.wrap ((lx : Int) - (lu : Int)) = ((lx - lu : Nat) : Int) := by rw [IntWalk.i64_in _ (by omega)]; omega
            clear hf hm hs hsa hr9 hie hlt hls hi hb0 HFI
            go_upto_region 15 with (fail)
            refine wp_region_bel HMX.out (by kernel_rfl) ?_
            repeat (first
              | go_big_quiet_step (first | (go_at_call 67; (with_reducible refine Calls.bel_of (LXR.out _))) | (go_at_call 67; (with_reducible refine Calls.bel_of (LUR.out _))))
              | quiet_step (first | (go_at_call 67; (with_reducible refine Calls.bel_of (LXR.out _))) | (go_at_call 67; (with_reducible refine Calls.bel_of (LUR.out _)))))
            refine wpQuiet_nil ?_
            intro w8 hw'
            have hb8 := BelW.of hw'
            clear hw' q0 hlw
            have HF8 := Lib.hid (HFS.out.kept (Sm.of_below hb8))
            have HM8 := Lib.hid (HMI.out.below hb8)
            have HS8 := Lib.hid (HSI.out.trans (Sm.of_below hb8))
            clear hb8
            obtain ⟨d, hd⟩ : ∃ d, lx - lu = d := ⟨_, rfl⟩
            have hd1 : 0 < d := by omega
            have hd2 : d ≤ 12 := by omega
            rw [hd] at HRE ⊢
            obtain ⟨h, hh⟩ : ∃ h, (d - 1) / 2 = h := ⟨_, rfl⟩
            have hh2 : h ≤ 12 := by omega
            rw [hh] at HRE
            have hw1 : IntKind.i64.wrap ((d : Int) - 1) = ((d - 1 : Nat) : Int) := by rw [IntWalk.i64_in _ (by omega)]; omega
            have hq1 : (((d - 1 : Nat) : Int)).tdiv 2 = (h : Int) := by rw [Int.tdiv_eq_ediv_of_nonneg (by omega)]; omega
            have hq2 : (((d - 1 : Nat) : Int)) / 2 = (h : Int) := by omega
            have hw2 : IntKind.i64.wrap (h : Int) = (h : Int) := IntWalk.i64_in _ (by omega)
            have hw3 : IntKind.i64.wrap ((h : Int) + 1) = (h : Int) + 1 := IntWalk.i64_in _ (by omega)
            obtain ⟨k, hk⟩ : ∃ k, min ls (h + 1) = k := ⟨_, rfl⟩
            have hmn : min (ls : Int) ((h : Int) + 1) = (k : Int) := by omega
            have hkl : k ≤ ls := by omega
            rw [hk] at HRE
            clear hd hh hk hd1 hlux
            go_upto_region 18 with (fail)
            have HB8 := Lib.hid (Below.refl w8.heap.size w8)
            go_loopw [12, 103] (fun t12 ix wr => ∃ i : Nat, ix = .int .i64 i ∧ i ≤ k ∧ Fz (Sx bR bP) wr t12 (lowTo sa i) ∧ Below w8.heap.size w8 wr) (fun _ ix _ => k - (intOf ix).toNat)
            case atStart => exact ⟨0, rfl, Nat.zero_le _, fz_nilP _ _, HB8.out⟩
            case round =>
              obtain ⟨i, rfl, hi, hf, hb⟩ := hrel
              have HFI := Lib.hid hf
              have HBI := Lib.hid hb
              have HMJ := Lib.hid (HM8.out.below hb)
              by_cases hlt : i < k
              · obtain ⟨b, off, rfl, hbl, hcell⟩ := ints_at ((HF8.out.kept (Sm.of_below hb)).ints) (by rw [HLS.out]; omega)
                have hgc := hcell i (by rw [HLS.out]; omega)
                obtain ⟨z, hz⟩ : ∃ z, sa.getD i 0 = z := ⟨_, rfl⟩
                rw [hz] at hgc
                have HZ := Lib.hid hz
                have hii : (i : Int) < (k : Int) := by omega
                have hil : (i : Int) < (ls : Int) := by omega
                obtain ⟨y, hy⟩ : ∃ y, wrap64 (-z) = y := ⟨_, rfl⟩
                have hy2 : IntKind.i64.wrap (-z) = y := (IntWalk.i64_left _).trans hy
                have PL := Lib.hid (fun (w' : World) (vf vg : Value) (h1 : Ints w' vf (lowTo sa i)) (h2 : Ints w' vg [1]) => plus_low vf vg sa i z y w' HZ.out hy h1 h2 (by have := lowTo_len sa i; omega) (by omega))
                clear hz hf hb hbl hcell
                go_wp2_with (go_at_call 91; refine (PL.out _ _ _ (HFI.out.kept (Sm.of_below ((Below.refl _ _).alloc (Nat.le_refl _) _))).ints (one_own _)).mono ?_; rintro e w9 ⟨v9, rfl, hf9, hb9⟩; have HF9 := Lib.hid ((HMJ.out.below ((Below.refl _ _).alloc (Nat.le_refl _) _)).new hf9); have HB9 := Lib.hid ((HBI.out.alloc HBI.out.size _).trans (hb9.mono (by have := HBI.out.size; simp; omega))); clear hf9 hb9)
                go_roundw
                case rel => exact ⟨i + 1, by go_num, by omega, HF9.out, HB9.out⟩
                case measure => simp [intOf]; omega
              · have hie : i = k := by omega
                have hii : ¬ (i : Int) < (k : Int) := by omega
                have HRX := Lib.hid (show lowTo sa i = p u x by rw [HRE.out, hie])
                rw [HRX.out] at hf
                have hbx5 := HMJ.out.box.at (i := 2) rfl
                obtain ⟨w6, hmu, hm6, hs6⟩ := HMJ.out.putP HF.out hu3 hx3 hf
                have HF6 := Lib.hid (hf.kept hs6)
                have HM6 := Lib.hid hm6
                have HS6 := Lib.hid (HS8.out.trans ((Sm.of_below hb).trans hs6))
                clear hf hb hm6 hs6 hie hlt
                go_wp2
                go_ret
                exact ⟨_, rfl, HF6.out, HM6.out, HS6.out⟩
  · have hbf : belG W X u x = false := by simpa using hbel
    rw [hbf] at BW hre
    rw [if_pos rfl] at hre
    have HRE := Lib.hid hre
    clear hre hM hbel hbf ih hp
    go_enter Try.func72, Try.ntmps72
    go_wp2_with (go_at_call 68; refine (BW.out _ HM.out).mono ?_; rintro e w1 ⟨rfl, hb1⟩)
    go_ret
    exact ⟨_, rfl, by rw [HRE.out]; exact fz_nilP _ _, HM.out.below hb1, Sm.of_below hb1⟩
end Go.Proofs.Ytmlhecfhhhebnaa

/- Polynomials: the walks of measure, R, P. -/
namespace Go.Proofs.Ytmlhecfhhhebnaa
open Go.RowKit
attribute [local go_sem] Oper.semAt_some

theorem below_twoP (w : World) (o p : Obj) : Below w.heap.size w ((w.alloc o).alloc p) := ((Below.refl _ _).alloc (Nat.le_refl _) _).alloc (by simp) _
theorem tab_words {K n m N : Nat} {W X : List (List Nat)} {bT : Nat} {w : World} (ht : TabIs K n W X w bT) (hk : Tk m N W X) : ∃ a c, w.cell? ⟨bT, 2, none⟩ = some (.slice a N c) := by
  obtain ⟨vW, vX, vM, hh, hW, hX⟩ := ht
  obtain ⟨a, c, e⟩ := hW.form
  have ctW := hh.at (i := 2) rfl
  subst e
  rw [hk.lw] at ctW
  exact ⟨a, c, ctW⟩
theorem pOf_any {K n m N : Nat} {W X : List (List Nat)} {r p : Nat → Nat → List Int} {bT bm bR bP : Nat} {w0 : World} (hk : Tk m N W X) (hl : lstB W X = true) (ht : TabIs K n W X w0 bT) (F : MF bm bR bP w0)
    (hlen : ∀ u x, (r u x).length ≤ 100) (hplen : ∀ u x, (p u x).length ≤ 100) (hp : ∀ u x, u < N → x < N → p u x = stepP W (belG W X) r p u x)
    (hord : ∀ a b, a < N → b < N → belG W X a b = true → a ≠ b → lenX W a < lenX W b)
    (ROF : ∀ u' x' w', u' < N → x' < N → MS r p bT bm bR bP w0 w' → Calls Try.prog 71 #[.pointer (some ⟨bm, 0, none⟩), .int .i64 (u' : Nat), .int .i64 (x' : Nat)] w' (ROut r p bT bm bR bP w0 (r u' x') w')) :
    ∀ (f u x : Nat) (w : World), 13 ≤ lenX W u + f → u < N → x < N → MS r p bT bm bR bP w0 w → Calls Try.prog 72 #[.pointer (some ⟨bm, 0, none⟩), .int .i64 (u : Nat), .int .i64 (x : Nat)] w (ROut r p bT bm bR bP w0 (p u x) w)
  | 0, u, _, _, h, hu, _, _ => by
    have huW : u < W.length := by rw [hk.lw]; exact hu
    have : lenX W u ≤ 12 := by unfold lenX; rw [getDL huW]; exact hk.short _ (List.getElem_mem huW)
    omega
  | f + 1, u, x, w, h, hu, hx, hM => pOf_step hk hl ht F hlen hplen hp hord ROF u x w hu hx hM fun u' w' hlt hu' hM' => pOf_any hk hl ht F hlen hplen hp hord ROF f u' x w' (by omega) hu' hx hM'
/-- What a function that gives a polynomial returns. -/
def PolyOut (l : List Int) (w : World) (e : Ending) (w' : World) : Prop := ∃ v', e = .returned (.tuple #[v', .int .i64 0]) ∧ OwnI 3 w.heap.size w' v' l ∧ Below w.heap.size w w'
def PolyErr (z : Int) (w : World) (e : Ending) (w' : World) : Prop := e = .returned (.tuple #[.slice none 0 0, .int .i64 z]) ∧ Below w.heap.size w w'
theorem mapP_new {S : Nat → Prop} {T : Nat → Nat → List Int} {w : World} {b : Nat} {clock : Nat} (h : w.heap[b]? = some (.map #[] clock)) : MapP S T w b := ⟨_, _, h, fun e hm => by simp at hm⟩
theorem map_two (w1 : World) (o : Obj) : ((((w1.alloc (.map #[] 0)).alloc (.map #[] 0)).alloc o).drew).heap[w1.heap.size]? = some (.map #[] 0) ∧ ((((w1.alloc (.map #[] 0)).alloc (.map #[] 0)).alloc o).drew).heap[w1.heap.size + 1]? = some (.map #[] 0) := by
  have h1 : (w1.alloc (.map #[] 0)).heap[w1.heap.size]? = some (.map #[] 0) := heap_alloc_new w1 _
  have h2 : ((w1.alloc (.map #[] 0)).alloc (.map #[] 0)).heap[w1.heap.size]? = some (.map #[] 0) := (Below.heap_alloc (w1.alloc (.map #[] 0)) (.map #[] 0) w1.heap.size (by simp)).trans h1
  have h3 : ((w1.alloc (.map #[] 0)).alloc (.map #[] 0)).heap[w1.heap.size + 1]? = some (.map #[] 0) := by
    have := heap_alloc_new (w1.alloc (.map #[] 0)) (.map #[] 0)
    rwa [show (w1.alloc (.map #[] 0)).heap.size = w1.heap.size + 1 by simp] at this
  exact ⟨(Below.heap_alloc ((w1.alloc (.map #[] 0)).alloc (.map #[] 0)) o w1.heap.size (by simp; omega)).trans h2, (Below.heap_alloc ((w1.alloc (.map #[] 0)).alloc (.map #[] 0)) o (w1.heap.size + 1) (by simp)).trans h3⟩
theorem measure_end {w w1 w5 w6 : World} {v : Value} {l : List Int} (h1 : Below w.heap.size w w1) (h5 : Below w1.heap.size w1 w5) (ho : OwnI 3 w5.heap.size w6 v l) (h6 : Below w5.heap.size w5 w6) : OwnI 3 w.heap.size w6 v l ∧ Below w.heap.size w w6 := by
  have h := h1.trans (h5.mono h1.size)
  exact ⟨ho.mono h.size, h.trans (h6.mono h.size)⟩
theorem mf_new1 (w1 : World) : MF (w1.heap.size + 1 + 1) w1.heap.size (w1.heap.size + 1) w1 := ⟨Nat.le_refl _, by omega, by omega, by omega, by omega⟩
theorem mf_new2 (w1 : World) : MF (w1.heap.size + 1 + 1) (w1.heap.size + 1) w1.heap.size w1 := ⟨by omega, Nat.le_refl _, by omega, by omega, by omega⟩
theorem ms_new1 {r p : Nat → Nat → List Int} (bT : Nat) (w1 : World) : MF (w1.heap.size + 1 + 1) w1.heap.size (w1.heap.size + 1) w1 ∧
    MS r p bT (w1.heap.size + 1 + 1) w1.heap.size (w1.heap.size + 1) w1 (((w1.alloc (.map #[] 0)).alloc (.map #[] 0)).alloc (.cells #[.pointer (some ⟨bT, 0, none⟩), .map (some w1.heap.size), .map (some (w1.heap.size + 1))] 103)).drew := by
  have hb := ((below_twoP w1 (.map #[] 0) (.map #[] 0)).alloc (o := .cells #[.pointer (some ⟨bT, 0, none⟩), .map (some w1.heap.size), .map (some (w1.heap.size + 1))] 103) (by simp; omega)).drew
  refine ⟨⟨Nat.le_refl _, by omega, by omega, by omega, by omega⟩, hb, ?_, mapP_new (clock := 0) (map_two w1 _).1, mapP_new (clock := 0) (map_two w1 _).2⟩
  · exact (Held.made (w := (w1.alloc (.map #[] 0)).alloc (.map #[] 0)) (l := [.pointer (some ⟨bT, 0, none⟩), .map (some w1.heap.size), .map (some (w1.heap.size + 1))]) (by simp)).drew
theorem ms_new2 {r p : Nat → Nat → List Int} (bT : Nat) (w1 : World) : MF (w1.heap.size + 1 + 1) (w1.heap.size + 1) w1.heap.size w1 ∧
    MS r p bT (w1.heap.size + 1 + 1) (w1.heap.size + 1) w1.heap.size w1 (((w1.alloc (.map #[] 0)).alloc (.map #[] 0)).alloc (.cells #[.pointer (some ⟨bT, 0, none⟩), .map (some (w1.heap.size + 1)), .map (some w1.heap.size)] 103)).drew := by
  have hb := ((below_twoP w1 (.map #[] 0) (.map #[] 0)).alloc (o := .cells #[.pointer (some ⟨bT, 0, none⟩), .map (some (w1.heap.size + 1)), .map (some w1.heap.size)] 103) (by simp; omega)).drew
  refine ⟨⟨by omega, Nat.le_refl _, by omega, by omega, by omega⟩, hb, ?_, mapP_new (clock := 0) (map_two w1 _).2, mapP_new (clock := 0) (map_two w1 _).1⟩
  · exact (Held.made (w := (w1.alloc (.map #[] 0)).alloc (.map #[] 0)) (l := [.pointer (some ⟨bT, 0, none⟩), .map (some (w1.heap.size + 1)), .map (some w1.heap.size)]) (by simp)).drew
theorem measure_R {K n : Nat} (hv : validB K n = true) (hs : ¬ (K = 65 ∧ n = 4)) {i1 i2 : Nat} (hi1 : i1 < (wordsG K n).length) (hi2 : i2 < (wordsG K n).length) (bT bm bR bP : Nat) (w0 : World) (ht : TabIs K n (wordsG K n) (nextG K n) w0 bT) (F : MF bm bR bP w0) (w' : World) (hM : MS (rT K n) (pT K n) bT bm bR bP w0 w') :
    Calls Try.prog 71 #[.pointer (some ⟨bm, 0, none⟩), .int .i64 (i1 : Nat), .int .i64 (i2 : Nat)] w' (ROut (rT K n) (pT K n) bT bm bR bP w0 (rT K n i1 i2) w') :=
  rOf_any (tkG hv) (lstG hv) ht F (kr_at hv hs) (rT_len hv hs) _ i1 i2 w' (Nat.lt_succ_self _) hi1 hi2 hM
theorem measure_P {K n : Nat} (hv : validB K n = true) (hs : ¬ (K = 65 ∧ n = 4)) {i1 i2 : Nat} (hi1 : i1 < (wordsG K n).length) (hi2 : i2 < (wordsG K n).length) (bT bm bR bP : Nat) (w0 : World) (ht : TabIs K n (wordsG K n) (nextG K n) w0 bT) (F : MF bm bR bP w0) (w' : World) (hM : MS (rT K n) (pT K n) bT bm bR bP w0 w') :
    Calls Try.prog 72 #[.pointer (some ⟨bm, 0, none⟩), .int .i64 (i1 : Nat), .int .i64 (i2 : Nat)] w' (ROut (rT K n) (pT K n) bT bm bR bP w0 (pT K n i1 i2) w') :=
  pOf_any (tkG hv) (lstG hv) ht F (rT_len hv hs) (pT_len hv hs) (kp_at hv hs) (bel_len hv) (fun u' x' w'' hu hx hM' => rOf_any (tkG hv) (lstG hv) ht F (kr_at hv hs) (rT_len hv hs) _ u' x' w'' (Nat.lt_succ_self _) hu hx hM') 13 i1 i2 w' (by omega) hi1 hi2 hM
end Go.Proofs.Ytmlhecfhhhebnaa
