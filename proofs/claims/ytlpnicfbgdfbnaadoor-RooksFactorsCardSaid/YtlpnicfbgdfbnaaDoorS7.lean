/- S7: the plain law of RooksFactors: stairs' rook numbers and their differences. -/
import Derived.Test.YtlpnicfbgdfbnaaDoorS5
namespace Go.Proofs.YtlpnicfbgdfbnaaDoor

def genL : List Nat → Nat → List Nat
  | [], _ => [1]
  | h :: hs, u => (List.range (h - u)).foldl (fun out _ => addSh out (genL hs (u + 1))) (genL hs u ++ [0])

theorem foldl_same {α β : Type} (f : α → List Nat) (z : List Nat) : ∀ (l : List α) (m : List β) (c : List Nat), (∀ x ∈ l, f x = z) → l.length = m.length →
    l.foldl (fun out j => addSh out (f j)) c = m.foldl (fun out _ => addSh out z) c
  | [], [], _, _, _ => rfl
  | [], _ :: _, _, _, h => by simp at h
  | _ :: _, [], _, _, h => by simp at h
  | x :: l, y :: m, c, hf, h => by
    rw [List.foldl_cons, List.foldl_cons, hf x List.mem_cons_self]
    exact foldl_same f z l m _ (fun x hx => hf x (List.mem_cons_of_mem _ hx)) (by simpa using h)

theorem elems_free : ((List.range 7).all fun h => (List.range 64).all fun u => !decide (u < 2 ^ h) || ((elems (diffS (2 ^ h - 1) u)).length == h - (elems u).length && (elems (diffS (2 ^ h - 1) u)).all fun j => (elems (u ||| 2 ^ j)).length == (elems u).length + 1 && decide (u ||| 2 ^ j < 2 ^ h))) = true := by decide +kernel

theorem numL_gen : ∀ (hs : List Nat) (used : Nat), (∀ h ∈ hs, h ≤ 6) → hs.Pairwise (· ≤ ·) → used < 64 → (∀ h ∈ hs, used < 2 ^ h) → numL (stairL hs) used = genL hs (elems used).length
  | [], _, _, _, _, _ => rfl
  | h :: hs, used, h6, hp, hu, hlt => by
    have h6' : h ≤ 6 := h6 h List.mem_cons_self
    have hul := hlt h List.mem_cons_self
    have hb := List.all_eq_true.1 (List.all_eq_true.1 elems_free h (by simp; omega)) used (by simpa using hu)
    simp only [hul, decide_true, Bool.not_true, Bool.false_or, Bool.and_eq_true, beq_iff_eq, List.all_eq_true, decide_eq_true_eq] at hb
    rw [List.pairwise_cons] at hp
    have h64 : 2 ^ h ≤ 2 ^ 6 := Nat.pow_le_pow_right (by omega) h6'
    have e : stairL (h :: hs) = (2 ^ h - 1) :: stairL hs := rfl
    rw [e, numL, genL, numL_gen hs used (fun x hx => h6 x (List.mem_cons_of_mem _ hx)) hp.2 hu (fun x hx => hlt x (List.mem_cons_of_mem _ hx))]
    refine foldl_same _ _ _ _ _ (fun j hj => ?_) (by rw [hb.1, List.length_range])
    have hj' := hb.2 j hj
    rw [numL_gen hs (used ||| 2 ^ j) (fun x hx => h6 x (List.mem_cons_of_mem _ hx)) hp.2 (by omega) (fun x hx => Nat.lt_of_lt_of_le hj'.2 (Nat.pow_le_pow_right (by omega) (hp.1 x hx))), hj'.1]

/-! ### the product as a sum of falling products -/
def mulA (j : Nat) (d prev : Int) : List Int → List Int
  | [] => [prev]
  | c :: cs => (((j : Int) + d) * c + prev) :: mulA (j + 1) d c cs
def evA (j : Nat) (x : Int) : List Int → Int
  | [] => 0
  | c :: cs => c * fall x j + evA (j + 1) x cs
theorem evA_mulA (x d : Int) : ∀ (cs : List Int) (j : Nat) (prev : Int), evA j x (mulA j d prev cs) = (x + d) * evA j x cs + prev * fall x j
  | [], j, prev => by simp [mulA, evA]
  | c :: cs, j, prev => by
    rw [mulA, evA, evA_mulA x d cs (j + 1) c, evA, fall]
    generalize evA (j + 1) x cs = E
    generalize fall x j = f
    simp only [Int.add_mul, Int.mul_add, Int.mul_sub]
    have e1 : c * (f * x) = x * (c * f) := by rw [← Int.mul_assoc, Int.mul_comm]
    have e2 : c * (f * (j : Int)) = (j : Int) * c * f := by rw [← Int.mul_assoc, Int.mul_comm, Int.mul_assoc]
    have e3 : d * (c * f) = d * c * f := by rw [Int.mul_assoc]
    rw [e1, e2, e3]
    omega
def pf : List Int → List Int
  | [] => [1]
  | d :: ds => mulA 0 d 0 (pf ds)
def prodD (x : Int) : List Int → Int
  | [] => 1
  | d :: ds => (x + d) * prodD x ds
theorem evA_pf (x : Int) : ∀ ds : List Int, evA 0 x (pf ds) = prodD x ds
  | [] => by simp [pf, evA, prodD, fall]
  | d :: ds => by rw [pf, evA_mulA, evA_pf x ds, prodD]; simp
theorem prodD_perm (x : Int) {a b : List Int} (h : a.Perm b) : prodD x a = prodD x b := by
  induction h with
  | nil => rfl
  | cons y _ ih => rw [prodD, prodD, ih]
  | swap y z l => rw [prodD, prodD, prodD, prodD, ← Int.mul_assoc, ← Int.mul_assoc, Int.mul_comm (x + y)]
  | trans _ _ h1 h2 => rw [h1, h2]

def eqN : List Nat → List Nat → Bool
  | [], [] => true
  | x :: l, y :: m => Nat.beq x y && eqN l m
  | _, _ => false
theorem eqN_eq : ∀ {a b : List Nat}, eqN a b = true → a = b
  | [], [], _ => rfl
  | [], _ :: _, h => by simp [eqN] at h
  | _ :: _, [], h => by simp [eqN] at h
  | x :: l, y :: m, h => by
    simp only [eqN, Bool.and_eq_true] at h
    rw [Nat.eq_of_beq_eq_true h.1, eqN_eq h.2]

def stairT0 : List (List Nat × List Int) := [
  ([1, 0], [0]),
  ([1, 1], [1]),
  ([1, 0, 0], [-1, 0]),
  ([1, 1, 0], [0, 0]),
  ([1, 2, 0], [0, 1]),
  ([1, 3, 1], [1, 1]),
  ([1, 4, 2], [1, 2]),
  ([1, 0, 0, 0], [-2, -1, 0]),
  ([1, 1, 0, 0], [-1, -1, 0]),
  ([1, 2, 0, 0], [-1, 0, 0]),
  ([1, 3, 0, 0], [-1, 0, 1]),
  ([1, 3, 1, 0], [0, 0, 0]),
  ([1, 4, 2, 0], [0, 0, 1]),
  ([1, 5, 4, 0], [0, 1, 1]),
  ([1, 6, 6, 0], [0, 1, 2]),
  ([1, 6, 7, 1], [1, 1, 1]),
  ([1, 7, 10, 2], [1, 1, 2]),
  ([1, 8, 14, 4], [1, 2, 2]),
  ([1, 9, 18, 6], [1, 2, 3]),
  ([1, 0, 0, 0, 0], [-3, -2, -1, 0]),
  ([1, 1, 0, 0, 0], [-2, -2, -1, 0]),
  ([1, 2, 0, 0, 0], [-2, -1, -1, 0]),
  ([1, 3, 0, 0, 0], [-2, -1, 0, 0]),
  ([1, 4, 0, 0, 0], [-2, -1, 0, 1]),
  ([1, 3, 1, 0, 0], [-1, -1, -1, 0]),
  ([1, 4, 2, 0, 0], [-1, -1, 0, 0]),
  ([1, 5, 3, 0, 0], [-1, -1, 0, 1]),
  ([1, 5, 4, 0, 0], [-1, 0, 0, 0]),
  ([1, 6, 6, 0, 0], [-1, 0, 0, 1]),
  ([1, 7, 9, 0, 0], [-1, 0, 1, 1]),
  ([1, 8, 12, 0, 0], [-1, 0, 1, 2]),
  ([1, 6, 7, 1, 0], [0, 0, 0, 0]),
  ([1, 7, 10, 2, 0], [0, 0, 0, 1]),
  ([1, 8, 14, 4, 0], [0, 0, 1, 1]),
  ([1, 9, 18, 6, 0], [0, 0, 1, 2]),
  ([1, 9, 19, 8, 0], [0, 1, 1, 1]),
  ([1, 10, 24, 12, 0], [0, 1, 1, 2]),
  ([1, 11, 30, 18, 0], [0, 1, 2, 2]),
  ([1, 12, 36, 24, 0], [0, 1, 2, 3]),
  ([1, 10, 25, 15, 1], [1, 1, 1, 1])]
def stairT1 : List (List Nat × List Int) := [
  ([1, 11, 31, 22, 2], [1, 1, 1, 2]),
  ([1, 12, 38, 32, 4], [1, 1, 2, 2]),
  ([1, 13, 45, 42, 6], [1, 1, 2, 3]),
  ([1, 13, 46, 46, 8], [1, 2, 2, 2]),
  ([1, 14, 54, 60, 12], [1, 2, 2, 3]),
  ([1, 15, 63, 78, 18], [1, 2, 3, 3]),
  ([1, 16, 72, 96, 24], [1, 2, 3, 4]),
  ([1, 0, 0, 0, 0, 0], [-4, -3, -2, -1, 0]),
  ([1, 1, 0, 0, 0, 0], [-3, -3, -2, -1, 0]),
  ([1, 2, 0, 0, 0, 0], [-3, -2, -2, -1, 0]),
  ([1, 3, 0, 0, 0, 0], [-3, -2, -1, -1, 0]),
  ([1, 4, 0, 0, 0, 0], [-3, -2, -1, 0, 0]),
  ([1, 5, 0, 0, 0, 0], [-3, -2, -1, 0, 1]),
  ([1, 3, 1, 0, 0, 0], [-2, -2, -2, -1, 0]),
  ([1, 4, 2, 0, 0, 0], [-2, -2, -1, -1, 0]),
  ([1, 5, 3, 0, 0, 0], [-2, -2, -1, 0, 0]),
  ([1, 6, 4, 0, 0, 0], [-2, -2, -1, 0, 1]),
  ([1, 5, 4, 0, 0, 0], [-2, -1, -1, -1, 0]),
  ([1, 6, 6, 0, 0, 0], [-2, -1, -1, 0, 0]),
  ([1, 7, 8, 0, 0, 0], [-2, -1, -1, 0, 1]),
  ([1, 7, 9, 0, 0, 0], [-2, -1, 0, 0, 0]),
  ([1, 8, 12, 0, 0, 0], [-2, -1, 0, 0, 1]),
  ([1, 9, 16, 0, 0, 0], [-2, -1, 0, 1, 1]),
  ([1, 10, 20, 0, 0, 0], [-2, -1, 0, 1, 2]),
  ([1, 6, 7, 1, 0, 0], [-1, -1, -1, -1, 0]),
  ([1, 7, 10, 2, 0, 0], [-1, -1, -1, 0, 0]),
  ([1, 8, 13, 3, 0, 0], [-1, -1, -1, 0, 1]),
  ([1, 8, 14, 4, 0, 0], [-1, -1, 0, 0, 0]),
  ([1, 9, 18, 6, 0, 0], [-1, -1, 0, 0, 1]),
  ([1, 10, 23, 9, 0, 0], [-1, -1, 0, 1, 1]),
  ([1, 11, 28, 12, 0, 0], [-1, -1, 0, 1, 2]),
  ([1, 9, 19, 8, 0, 0], [-1, 0, 0, 0, 0]),
  ([1, 10, 24, 12, 0, 0], [-1, 0, 0, 0, 1]),
  ([1, 11, 30, 18, 0, 0], [-1, 0, 0, 1, 1]),
  ([1, 12, 36, 24, 0, 0], [-1, 0, 0, 1, 2]),
  ([1, 12, 37, 27, 0, 0], [-1, 0, 1, 1, 1]),
  ([1, 13, 44, 36, 0, 0], [-1, 0, 1, 1, 2]),
  ([1, 14, 52, 48, 0, 0], [-1, 0, 1, 2, 2]),
  ([1, 15, 60, 60, 0, 0], [-1, 0, 1, 2, 3]),
  ([1, 10, 25, 15, 1, 0], [0, 0, 0, 0, 0])]
def stairT2 : List (List Nat × List Int) := [
  ([1, 11, 31, 22, 2, 0], [0, 0, 0, 0, 1]),
  ([1, 12, 38, 32, 4, 0], [0, 0, 0, 1, 1]),
  ([1, 13, 45, 42, 6, 0], [0, 0, 0, 1, 2]),
  ([1, 13, 46, 46, 8, 0], [0, 0, 1, 1, 1]),
  ([1, 14, 54, 60, 12, 0], [0, 0, 1, 1, 2]),
  ([1, 15, 63, 78, 18, 0], [0, 0, 1, 2, 2]),
  ([1, 16, 72, 96, 24, 0], [0, 0, 1, 2, 3]),
  ([1, 14, 55, 65, 16, 0], [0, 1, 1, 1, 1]),
  ([1, 15, 64, 84, 24, 0], [0, 1, 1, 1, 2]),
  ([1, 16, 74, 108, 36, 0], [0, 1, 1, 2, 2]),
  ([1, 17, 84, 132, 48, 0], [0, 1, 1, 2, 3]),
  ([1, 17, 85, 138, 54, 0], [0, 1, 2, 2, 2]),
  ([1, 18, 96, 168, 72, 0], [0, 1, 2, 2, 3]),
  ([1, 19, 108, 204, 96, 0], [0, 1, 2, 3, 3]),
  ([1, 20, 120, 240, 120, 0], [0, 1, 2, 3, 4]),
  ([1, 15, 65, 90, 31, 1], [1, 1, 1, 1, 1]),
  ([1, 16, 75, 115, 46, 2], [1, 1, 1, 1, 2]),
  ([1, 17, 86, 146, 68, 4], [1, 1, 1, 2, 2]),
  ([1, 18, 97, 177, 90, 6], [1, 1, 1, 2, 3]),
  ([1, 18, 98, 184, 100, 8], [1, 1, 2, 2, 2]),
  ([1, 19, 110, 222, 132, 12], [1, 1, 2, 2, 3]),
  ([1, 20, 123, 267, 174, 18], [1, 1, 2, 3, 3]),
  ([1, 21, 136, 312, 216, 24], [1, 1, 2, 3, 4]),
  ([1, 19, 111, 230, 146, 16], [1, 2, 2, 2, 2]),
  ([1, 20, 124, 276, 192, 24], [1, 2, 2, 2, 3]),
  ([1, 21, 138, 330, 252, 36], [1, 2, 2, 3, 3]),
  ([1, 22, 152, 384, 312, 48], [1, 2, 2, 3, 4]),
  ([1, 22, 153, 393, 330, 54], [1, 2, 3, 3, 3]),
  ([1, 23, 168, 456, 408, 72], [1, 2, 3, 3, 4]),
  ([1, 24, 184, 528, 504, 96], [1, 2, 3, 4, 4]),
  ([1, 25, 200, 600, 600, 120], [1, 2, 3, 4, 5]),
  ([1, 0, 0, 0, 0, 0, 0], [-5, -4, -3, -2, -1, 0]),
  ([1, 1, 0, 0, 0, 0, 0], [-4, -4, -3, -2, -1, 0]),
  ([1, 2, 0, 0, 0, 0, 0], [-4, -3, -3, -2, -1, 0]),
  ([1, 3, 0, 0, 0, 0, 0], [-4, -3, -2, -2, -1, 0]),
  ([1, 4, 0, 0, 0, 0, 0], [-4, -3, -2, -1, -1, 0]),
  ([1, 5, 0, 0, 0, 0, 0], [-4, -3, -2, -1, 0, 0]),
  ([1, 6, 0, 0, 0, 0, 0], [-4, -3, -2, -1, 0, 1]),
  ([1, 3, 1, 0, 0, 0, 0], [-3, -3, -3, -2, -1, 0]),
  ([1, 4, 2, 0, 0, 0, 0], [-3, -3, -2, -2, -1, 0])]
def stairT3 : List (List Nat × List Int) := [
  ([1, 5, 3, 0, 0, 0, 0], [-3, -3, -2, -1, -1, 0]),
  ([1, 6, 4, 0, 0, 0, 0], [-3, -3, -2, -1, 0, 0]),
  ([1, 7, 5, 0, 0, 0, 0], [-3, -3, -2, -1, 0, 1]),
  ([1, 5, 4, 0, 0, 0, 0], [-3, -2, -2, -2, -1, 0]),
  ([1, 6, 6, 0, 0, 0, 0], [-3, -2, -2, -1, -1, 0]),
  ([1, 7, 8, 0, 0, 0, 0], [-3, -2, -2, -1, 0, 0]),
  ([1, 8, 10, 0, 0, 0, 0], [-3, -2, -2, -1, 0, 1]),
  ([1, 7, 9, 0, 0, 0, 0], [-3, -2, -1, -1, -1, 0]),
  ([1, 8, 12, 0, 0, 0, 0], [-3, -2, -1, -1, 0, 0]),
  ([1, 9, 15, 0, 0, 0, 0], [-3, -2, -1, -1, 0, 1]),
  ([1, 9, 16, 0, 0, 0, 0], [-3, -2, -1, 0, 0, 0]),
  ([1, 10, 20, 0, 0, 0, 0], [-3, -2, -1, 0, 0, 1]),
  ([1, 11, 25, 0, 0, 0, 0], [-3, -2, -1, 0, 1, 1]),
  ([1, 12, 30, 0, 0, 0, 0], [-3, -2, -1, 0, 1, 2]),
  ([1, 6, 7, 1, 0, 0, 0], [-2, -2, -2, -2, -1, 0]),
  ([1, 7, 10, 2, 0, 0, 0], [-2, -2, -2, -1, -1, 0]),
  ([1, 8, 13, 3, 0, 0, 0], [-2, -2, -2, -1, 0, 0]),
  ([1, 9, 16, 4, 0, 0, 0], [-2, -2, -2, -1, 0, 1]),
  ([1, 8, 14, 4, 0, 0, 0], [-2, -2, -1, -1, -1, 0]),
  ([1, 9, 18, 6, 0, 0, 0], [-2, -2, -1, -1, 0, 0]),
  ([1, 10, 22, 8, 0, 0, 0], [-2, -2, -1, -1, 0, 1]),
  ([1, 10, 23, 9, 0, 0, 0], [-2, -2, -1, 0, 0, 0]),
  ([1, 11, 28, 12, 0, 0, 0], [-2, -2, -1, 0, 0, 1]),
  ([1, 12, 34, 16, 0, 0, 0], [-2, -2, -1, 0, 1, 1]),
  ([1, 13, 40, 20, 0, 0, 0], [-2, -2, -1, 0, 1, 2]),
  ([1, 9, 19, 8, 0, 0, 0], [-2, -1, -1, -1, -1, 0]),
  ([1, 10, 24, 12, 0, 0, 0], [-2, -1, -1, -1, 0, 0]),
  ([1, 11, 29, 16, 0, 0, 0], [-2, -1, -1, -1, 0, 1]),
  ([1, 11, 30, 18, 0, 0, 0], [-2, -1, -1, 0, 0, 0]),
  ([1, 12, 36, 24, 0, 0, 0], [-2, -1, -1, 0, 0, 1]),
  ([1, 13, 43, 32, 0, 0, 0], [-2, -1, -1, 0, 1, 1]),
  ([1, 14, 50, 40, 0, 0, 0], [-2, -1, -1, 0, 1, 2]),
  ([1, 12, 37, 27, 0, 0, 0], [-2, -1, 0, 0, 0, 0]),
  ([1, 13, 44, 36, 0, 0, 0], [-2, -1, 0, 0, 0, 1]),
  ([1, 14, 52, 48, 0, 0, 0], [-2, -1, 0, 0, 1, 1]),
  ([1, 15, 60, 60, 0, 0, 0], [-2, -1, 0, 0, 1, 2]),
  ([1, 15, 61, 64, 0, 0, 0], [-2, -1, 0, 1, 1, 1]),
  ([1, 16, 70, 80, 0, 0, 0], [-2, -1, 0, 1, 1, 2]),
  ([1, 17, 80, 100, 0, 0, 0], [-2, -1, 0, 1, 2, 2]),
  ([1, 18, 90, 120, 0, 0, 0], [-2, -1, 0, 1, 2, 3])]
def stairT4 : List (List Nat × List Int) := [
  ([1, 10, 25, 15, 1, 0, 0], [-1, -1, -1, -1, -1, 0]),
  ([1, 11, 31, 22, 2, 0, 0], [-1, -1, -1, -1, 0, 0]),
  ([1, 12, 37, 29, 3, 0, 0], [-1, -1, -1, -1, 0, 1]),
  ([1, 12, 38, 32, 4, 0, 0], [-1, -1, -1, 0, 0, 0]),
  ([1, 13, 45, 42, 6, 0, 0], [-1, -1, -1, 0, 0, 1]),
  ([1, 14, 53, 55, 9, 0, 0], [-1, -1, -1, 0, 1, 1]),
  ([1, 15, 61, 68, 12, 0, 0], [-1, -1, -1, 0, 1, 2]),
  ([1, 13, 46, 46, 8, 0, 0], [-1, -1, 0, 0, 0, 0]),
  ([1, 14, 54, 60, 12, 0, 0], [-1, -1, 0, 0, 0, 1]),
  ([1, 15, 63, 78, 18, 0, 0], [-1, -1, 0, 0, 1, 1]),
  ([1, 16, 72, 96, 24, 0, 0], [-1, -1, 0, 0, 1, 2]),
  ([1, 16, 73, 101, 27, 0, 0], [-1, -1, 0, 1, 1, 1]),
  ([1, 17, 83, 124, 36, 0, 0], [-1, -1, 0, 1, 1, 2]),
  ([1, 18, 94, 152, 48, 0, 0], [-1, -1, 0, 1, 2, 2]),
  ([1, 19, 105, 180, 60, 0, 0], [-1, -1, 0, 1, 2, 3]),
  ([1, 14, 55, 65, 16, 0, 0], [-1, 0, 0, 0, 0, 0]),
  ([1, 15, 64, 84, 24, 0, 0], [-1, 0, 0, 0, 0, 1]),
  ([1, 16, 74, 108, 36, 0, 0], [-1, 0, 0, 0, 1, 1]),
  ([1, 17, 84, 132, 48, 0, 0], [-1, 0, 0, 0, 1, 2]),
  ([1, 17, 85, 138, 54, 0, 0], [-1, 0, 0, 1, 1, 1]),
  ([1, 18, 96, 168, 72, 0, 0], [-1, 0, 0, 1, 1, 2]),
  ([1, 19, 108, 204, 96, 0, 0], [-1, 0, 0, 1, 2, 2]),
  ([1, 20, 120, 240, 120, 0, 0], [-1, 0, 0, 1, 2, 3]),
  ([1, 18, 97, 175, 81, 0, 0], [-1, 0, 1, 1, 1, 1]),
  ([1, 19, 109, 212, 108, 0, 0], [-1, 0, 1, 1, 1, 2]),
  ([1, 20, 122, 256, 144, 0, 0], [-1, 0, 1, 1, 2, 2]),
  ([1, 21, 135, 300, 180, 0, 0], [-1, 0, 1, 1, 2, 3]),
  ([1, 21, 136, 308, 192, 0, 0], [-1, 0, 1, 2, 2, 2]),
  ([1, 22, 150, 360, 240, 0, 0], [-1, 0, 1, 2, 2, 3]),
  ([1, 23, 165, 420, 300, 0, 0], [-1, 0, 1, 2, 3, 3]),
  ([1, 24, 180, 480, 360, 0, 0], [-1, 0, 1, 2, 3, 4]),
  ([1, 15, 65, 90, 31, 1, 0], [0, 0, 0, 0, 0, 0]),
  ([1, 16, 75, 115, 46, 2, 0], [0, 0, 0, 0, 0, 1]),
  ([1, 17, 86, 146, 68, 4, 0], [0, 0, 0, 0, 1, 1]),
  ([1, 18, 97, 177, 90, 6, 0], [0, 0, 0, 0, 1, 2]),
  ([1, 18, 98, 184, 100, 8, 0], [0, 0, 0, 1, 1, 1]),
  ([1, 19, 110, 222, 132, 12, 0], [0, 0, 0, 1, 1, 2]),
  ([1, 20, 123, 267, 174, 18, 0], [0, 0, 0, 1, 2, 2]),
  ([1, 21, 136, 312, 216, 24, 0], [0, 0, 0, 1, 2, 3]),
  ([1, 19, 111, 230, 146, 16, 0], [0, 0, 1, 1, 1, 1])]
def stairT5 : List (List Nat × List Int) := [
  ([1, 20, 124, 276, 192, 24, 0], [0, 0, 1, 1, 1, 2]),
  ([1, 21, 138, 330, 252, 36, 0], [0, 0, 1, 1, 2, 2]),
  ([1, 22, 152, 384, 312, 48, 0], [0, 0, 1, 1, 2, 3]),
  ([1, 22, 153, 393, 330, 54, 0], [0, 0, 1, 2, 2, 2]),
  ([1, 23, 168, 456, 408, 72, 0], [0, 0, 1, 2, 2, 3]),
  ([1, 24, 184, 528, 504, 96, 0], [0, 0, 1, 2, 3, 3]),
  ([1, 25, 200, 600, 600, 120, 0], [0, 0, 1, 2, 3, 4]),
  ([1, 20, 125, 285, 211, 32, 0], [0, 1, 1, 1, 1, 1]),
  ([1, 21, 139, 340, 276, 48, 0], [0, 1, 1, 1, 1, 2]),
  ([1, 22, 154, 404, 360, 72, 0], [0, 1, 1, 1, 2, 2]),
  ([1, 23, 169, 468, 444, 96, 0], [0, 1, 1, 1, 2, 3]),
  ([1, 23, 170, 478, 468, 108, 0], [0, 1, 1, 2, 2, 2]),
  ([1, 24, 186, 552, 576, 144, 0], [0, 1, 1, 2, 2, 3]),
  ([1, 25, 203, 636, 708, 192, 0], [0, 1, 1, 2, 3, 3]),
  ([1, 26, 220, 720, 840, 240, 0], [0, 1, 1, 2, 3, 4]),
  ([1, 24, 187, 563, 606, 162, 0], [0, 1, 2, 2, 2, 2]),
  ([1, 25, 204, 648, 744, 216, 0], [0, 1, 2, 2, 2, 3]),
  ([1, 26, 222, 744, 912, 288, 0], [0, 1, 2, 2, 3, 3]),
  ([1, 27, 240, 840, 1080, 360, 0], [0, 1, 2, 2, 3, 4]),
  ([1, 27, 241, 852, 1116, 384, 0], [0, 1, 2, 3, 3, 3]),
  ([1, 28, 260, 960, 1320, 480, 0], [0, 1, 2, 3, 3, 4]),
  ([1, 29, 280, 1080, 1560, 600, 0], [0, 1, 2, 3, 4, 4]),
  ([1, 30, 300, 1200, 1800, 720, 0], [0, 1, 2, 3, 4, 5]),
  ([1, 21, 140, 350, 301, 63, 1], [1, 1, 1, 1, 1, 1]),
  ([1, 22, 155, 415, 391, 94, 2], [1, 1, 1, 1, 1, 2]),
  ([1, 23, 171, 490, 506, 140, 4], [1, 1, 1, 1, 2, 2]),
  ([1, 24, 187, 565, 621, 186, 6], [1, 1, 1, 1, 2, 3]),
  ([1, 24, 188, 576, 652, 208, 8], [1, 1, 1, 2, 2, 2]),
  ([1, 25, 205, 662, 798, 276, 12], [1, 1, 1, 2, 2, 3]),
  ([1, 26, 223, 759, 975, 366, 18], [1, 1, 1, 2, 3, 3]),
  ([1, 27, 241, 856, 1152, 456, 24], [1, 1, 1, 2, 3, 4]),
  ([1, 25, 206, 674, 836, 308, 16], [1, 1, 2, 2, 2, 2]),
  ([1, 26, 224, 772, 1020, 408, 24], [1, 1, 2, 2, 2, 3]),
  ([1, 27, 243, 882, 1242, 540, 36], [1, 1, 2, 2, 3, 3]),
  ([1, 28, 262, 992, 1464, 672, 48], [1, 1, 2, 2, 3, 4]),
  ([1, 28, 263, 1005, 1509, 714, 54], [1, 1, 2, 3, 3, 3]),
  ([1, 29, 283, 1128, 1776, 888, 72], [1, 1, 2, 3, 3, 4]),
  ([1, 30, 304, 1264, 2088, 1104, 96], [1, 1, 2, 3, 4, 4]),
  ([1, 31, 325, 1400, 2400, 1320, 120], [1, 1, 2, 3, 4, 5]),
  ([1, 26, 225, 785, 1066, 454, 32], [1, 2, 2, 2, 2, 2])]
def stairT6 : List (List Nat × List Int) := [
  ([1, 27, 244, 896, 1296, 600, 48], [1, 2, 2, 2, 2, 3]),
  ([1, 28, 264, 1020, 1572, 792, 72], [1, 2, 2, 2, 3, 3]),
  ([1, 29, 284, 1144, 1848, 984, 96], [1, 2, 2, 2, 3, 4]),
  ([1, 29, 285, 1158, 1902, 1044, 108], [1, 2, 2, 3, 3, 3]),
  ([1, 30, 306, 1296, 2232, 1296, 144], [1, 2, 2, 3, 3, 4]),
  ([1, 31, 328, 1448, 2616, 1608, 192], [1, 2, 2, 3, 4, 4]),
  ([1, 32, 350, 1600, 3000, 1920, 240], [1, 2, 2, 3, 4, 5]),
  ([1, 30, 307, 1311, 2295, 1374, 162], [1, 2, 3, 3, 3, 3]),
  ([1, 31, 329, 1464, 2688, 1704, 216], [1, 2, 3, 3, 3, 4]),
  ([1, 32, 352, 1632, 3144, 2112, 288], [1, 2, 3, 3, 4, 4]),
  ([1, 33, 375, 1800, 3600, 2520, 360], [1, 2, 3, 3, 4, 5]),
  ([1, 33, 376, 1816, 3672, 2616, 384], [1, 2, 3, 4, 4, 4]),
  ([1, 34, 400, 2000, 4200, 3120, 480], [1, 2, 3, 4, 4, 5]),
  ([1, 35, 425, 2200, 4800, 3720, 600], [1, 2, 3, 4, 5, 5]),
  ([1, 36, 450, 2400, 5400, 4320, 720], [1, 2, 3, 4, 5, 6])]
def stairT : List (List Nat × List Int) := stairT0 ++ stairT1 ++ stairT2 ++ stairT3 ++ stairT4 ++ stairT5 ++ stairT6
def okF (hs : List Nat) : Bool :=
  ((genL hs 0).map Int.ofNat).reverse == pf (DifZ (toI hs)) && (match stairT.find? (fun p => eqN p.1 (genL hs 0)) with | some p => p.2 == DifZ (toI hs) | none => false)
set_option maxRecDepth 20000 in
theorem fac_all : ((List.range 6).all fun n => (strs (n + 1) (n + 1) 0).all okF) = true := by decide +kernel
theorem okF_of {hs : List Nat} (h : Stp hs) : okF hs = true := by
  have h1 := h.pos
  have h6 := h.le
  have := List.all_eq_true.1 (List.all_eq_true.1 fac_all (hs.length - 1) (by simp; omega)) hs (by rw [show hs.length - 1 + 1 = hs.length by omega]; exact stp_mem h)
  exact this
theorem stp_pairwise {hs : List Nat} (h : Stp hs) : hs.Pairwise (· ≤ ·) := by
  have key : ∀ j i, i < j → j < hs.length → hs.getD i 0 ≤ hs.getD j 0 := by
    intro j
    induction j with
    | zero => intro i h; omega
    | succ j ih =>
      intro i hij hj
      have := h.asc j hj
      rcases Nat.lt_or_ge i j with hlt | hge
      · exact Nat.le_trans (ih i hlt (by omega)) this
      · obtain rfl : i = j := by omega
        exact this
  rw [List.pairwise_iff_getElem]
  intro i j hi hj hij
  have := key j i hij hj
  rwa [getD_at hi, getD_at hj] at this
theorem numL_stair {hs : List Nat} (h : Stp hs) : numL (stairL hs) 0 = genL hs 0 := by
  have := numL_gen hs 0 (fun x hx => by have := h.top x hx; have := h.le; omega) (stp_pairwise h) (by omega) (fun x _ => Nat.two_pow_pos x)
  simpa [elems_zero] using this
theorem num_pf {hs : List Nat} (h : Stp hs) : ((numL (stairL hs) 0).map Int.ofNat).reverse = pf (DifZ (toI hs)) := by
  have := okF_of h
  unfold okF at this
  simp only [Bool.and_eq_true, beq_iff_eq] at this
  rw [numL_stair h]
  exact this.1
theorem dif_of_num {hs ms : List Nat} (h : Stp hs) (hm : Stp ms) (e : numL (stairL hs) 0 = numL (stairL ms) 0) : DifZ (toI hs) = DifZ (toI ms) := by
  have a := okF_of h
  have b := okF_of hm
  unfold okF at a b
  simp only [Bool.and_eq_true] at a b
  rw [numL_stair h, numL_stair hm] at e
  rw [e] at a
  cases hf : stairT.find? (fun p => eqN p.1 (genL ms 0)) with
  | none => rw [hf] at a; simp at a
  | some p =>
    rw [hf] at a b
    simp only [beq_iff_eq] at a b
    rw [← a.2, ← b.2]
theorem map_ofNat_inj : ∀ {a b : List Nat}, a.map Int.ofNat = b.map Int.ofNat → a = b
  | [], [], _ => rfl
  | [], _ :: _, h => by simp at h
  | _ :: _, [], h => by simp at h
  | x :: a, y :: b, h => by
    rw [List.map_cons, List.map_cons] at h
    injection h with h1 h2
    rw [Int.ofNat.inj h1, map_ofNat_inj h2]
theorem num_of_dif {hs ms : List Nat} (h : Stp hs) (hm : Stp ms) (e : DifZ (toI hs) = DifZ (toI ms)) : numL (stairL hs) 0 = numL (stairL ms) 0 := by
  have a := num_pf h
  have b := num_pf hm
  rw [e, ← b] at a
  have := List.reverse_inj.mp a
  exact map_ofNat_inj this

/-! ### the sum of Factor is the product -/
theorem evA_append (x : Int) : ∀ (a b : List Int) (j : Nat), evA j x (a ++ b) = evA j x a + evA (j + a.length) x b
  | [], b, j => by simp [evA]
  | c :: a, b, j => by
    rw [List.cons_append, evA, evA_append x a b (j + 1), evA, List.length_cons, show j + 1 + a.length = j + (a.length + 1) by omega]
    omega
theorem facS_ev (N : List Nat) (n : Nat) (x : Int) (hN : N.length = n + 1) : ∀ k, k ≤ n + 1 → facS N n x k = evA (n + 1 - k) x (((N.take k).map Int.ofNat).reverse)
  | 0, _ => by simp [facS, evA]
  | k + 1, hk => by
    have hl : k < N.length := by omega
    rw [facS, facS_ev N n x hN k (by omega), List.take_succ_eq_append_getElem hl, List.map_append, List.reverse_append, List.map_cons, List.map_nil, List.reverse_singleton, List.singleton_append, evA, getD_at hl]
    rw [show n + 1 - (k + 1) = n - k by omega, show n - k + 1 = n + 1 - k by omega]
    have : ((N[k] : Nat) : Int) = Int.ofNat N[k] := rfl
    rw [this]
    omega
theorem facT_prod {hs : List Nat} (h : Stp hs) (x : Int) : facT hs x = prodD x (DifZ (toI hs)) := by
  have hl : (numL (stairL hs) 0).length = hs.length + 1 := numN_len hs
  rw [facT, facS_ev _ _ _ hl _ (Nat.le_refl _), Nat.sub_self, List.take_of_length_le (by omega), num_pf h, evA_pf]
/-- The product over the first places. -/
def prodK (x : Int) (l : List Int) : Nat → Int
  | 0 => 1
  | k + 1 => prodK x l k * (x + l.getD k 0 - k)
theorem prodD_append (x : Int) : ∀ (a b : List Int), prodD x (a ++ b) = prodD x a * prodD x b
  | [], b => by simp [prodD]
  | d :: a, b => by rw [List.cons_append, prodD, prodD_append x a b, prodD, Int.mul_assoc]
theorem prodK_D (x : Int) (l : List Int) : ∀ k, k ≤ l.length → prodK x l k = prodD x (dz 0 (l.take k))
  | 0, _ => by simp [prodK, prodD, dz]
  | k + 1, h => by
    rw [prodK, prodK_D x l k (by omega), dz_snoc l k h, prodD_append, prodD, prodD, Int.mul_one, getD_atZ (by omega : k < l.length)]
    congr 1
    omega
theorem prodK_full (x : Int) (l : List Int) : prodK x l l.length = prodD x (DifZ l) := by
  rw [prodK_D x l _ (Nat.le_refl _), List.take_length]
  exact prodD_perm x (riseZ_perm _).symm
theorem prodK_le (x : Int) (l : List Int) (hx : 0 ≤ x ∧ x ≤ 10) (hl : ∀ y ∈ l, 0 ≤ y ∧ y ≤ 11) (h6 : l.length ≤ 6) : ∀ k, k ≤ l.length → (prodK x l k).natAbs ≤ 30 ^ k
  | 0, _ => by simp [prodK]
  | k + 1, h => by
    rw [prodK, Int.natAbs_mul, Nat.pow_succ]
    refine Nat.mul_le_mul (prodK_le x l hx hl h6 k (by omega)) ?_
    have := hl _ (List.getElem_mem (show k < l.length by omega))
    rw [getD_atZ (by omega : k < l.length)]
    omega
end Go.Proofs.YtlpnicfbgdfbnaaDoor
