/- Guests: the plain numbers. -/
import Derived.Test.YtlpnicfbgdfbnaaDoorRh
namespace Go.Proofs.YtlpnicfbgdfbnaaDoor

/-- The places of guest i that are free. -/
def freeG (n i used : Nat) : Nat := diffS (diffS (diffS (2 ^ n - 1) used) (2 ^ i)) (2 ^ ((i + 1) % n))
def gst (n : Nat) : Nat → Nat → Nat → Nat
  | 0, _, _ => 1
  | d + 1, i, used => ((elems (freeG n i used)).map fun j => gst n d (i + 1) (used ||| 2 ^ j)).sum
def gsum (n d i used S : Nat) : Nat := ((elems S).map fun j => gst n d (i + 1) (used ||| 2 ^ j)).sum
theorem gsum_zero (n d i used : Nat) : gsum n d i used 0 = 0 := by unfold gsum; rw [elems_zero]; rfl
theorem gsum_step (n d i used S : Nat) (h : S < 256) (h0 : 0 < S) : gsum n d i used S = gst n d (i + 1) (used ||| 2 ^ tz S) + gsum n d i used (nextS S) := by
  unfold gsum; rw [elems_step S h h0, List.map_cons, List.sum_cons]
theorem sum_le_of {α : Type} (f : α → Nat) (M : Nat) : ∀ l : List α, (∀ x ∈ l, f x ≤ M) → (l.map f).sum ≤ l.length * M
  | [], _ => by simp
  | x :: l, h => by
    have h1 := sum_le_of f M l (fun y hy => h y (List.mem_cons_of_mem _ hy))
    have h2 := h x List.mem_cons_self
    rw [List.map_cons, List.sum_cons, List.length_cons, Nat.succ_mul]
    omega
theorem gst_le (n : Nat) : ∀ d i used, gst n d i used ≤ 8 ^ d
  | 0, _, _ => by simp [gst]
  | d + 1, i, used => by
    rw [gst]
    refine Nat.le_trans (sum_le_of _ (8 ^ d) _ fun j _ => gst_le n d _ _) ?_
    rw [Nat.pow_succ, Nat.mul_comm]
    exact Nat.mul_le_mul_left _ (elems_len _)
theorem gsum_le (n d i used S : Nat) (hd : d ≤ 7) : gsum n d i used S ≤ 16777216 := by
  have h := sum_le_of (fun j => gst n d (i + 1) (used ||| 2 ^ j)) (8 ^ d) (elems S) fun j _ => gst_le n d _ _
  have h3 : 8 ^ d ≤ 8 ^ 7 := Nat.pow_le_pow_right (by decide) hd
  have h4 : (elems S).length * 8 ^ d ≤ 8 * 8 ^ 7 := Nat.mul_le_mul (elems_len S) h3
  unfold gsum; omega

def gpre (n d i used F k : Nat) : Nat := (((List.range k).filter (F.testBit ·)).map fun j => gst n d (i + 1) (used ||| 2 ^ j)).sum
theorem gpre_skip (n d i used F k : Nat) (h : F.testBit k = false) : gpre n d i used F (k + 1) = gpre n d i used F k := by
  unfold gpre; rw [List.range_succ, List.filter_append]; simp [h]
theorem gpre_snoc (n d i used F k : Nat) (h : F.testBit k = true) : gpre n d i used F (k + 1) = gpre n d i used F k + gst n d (i + 1) (used ||| 2 ^ k) := by
  unfold gpre; rw [List.range_succ, List.filter_append]; simp [h]
theorem elems_range8 : ∀ n : Nat, n < 9 → ∀ S : Nat, S < 256 → (!decide (S < 2 ^ n) || decide (elems S = (List.range n).filter (S.testBit ·))) = true := by decide +kernel
theorem gpre_all (n d i used F : Nat) (hn : n ≤ 8) (hF : F < 2 ^ n) : gpre n d i used F n = gsum n d i used F := by
  have h256 : 2 ^ n ≤ 2 ^ 8 := Nat.pow_le_pow_right (by decide) hn
  have h := elems_range8 n (by omega) F (by omega)
  simp only [hF, decide_true, Bool.not_true, Bool.false_or, decide_eq_true_eq] at h
  unfold gpre gsum
  rw [h]
theorem gpre_le (n d i used F k : Nat) (hk : k ≤ 8) (hd : d ≤ 7) : gpre n d i used F k ≤ 16777216 := by
  have h := sum_le_of (fun j => gst n d (i + 1) (used ||| 2 ^ j)) (8 ^ d) ((List.range k).filter (F.testBit ·)) fun j _ => gst_le n d _ _
  have h3 : 8 ^ d ≤ 8 ^ 7 := Nat.pow_le_pow_right (by decide) hd
  have h5 : ((List.range k).filter (F.testBit ·)).length ≤ 8 := Nat.le_trans (List.length_filter_le _ _) (by simp; omega)
  have h4 := Nat.mul_le_mul h5 h3
  unfold gpre; omega

theorem all_bit8 : ∀ n : Nat, n < 9 → ∀ c : Nat, c < 9 → (2 ^ n - 1).testBit c = decide (c < n) := by decide +kernel
theorem freeG_bit (n i used j : Nat) (hn : n ≤ 8) (hj : j < n) : (freeG n i used).testBit j = (!used.testBit j && (!decide (j = i) && !decide (j = (i + 1) % n))) := by
  unfold freeG
  rw [diffS_pow, diffS_pow, diffS_bit]
  unfold free
  rw [all_bit8 n (by omega) j (by omega)]
  simp [hj, Bool.and_assoc]
theorem diffS_lt_pow {a b n : Nat} (h : a < 2 ^ n) : diffS a b < 2 ^ n := Nat.xor_lt_two_pow h (Nat.lt_of_le_of_lt Nat.and_le_left h)
theorem all_lt_pow (n : Nat) : 2 ^ n - 1 < 2 ^ n := by have := Nat.one_le_two_pow (n := n); omega
theorem freeG_lt (n i used : Nat) : freeG n i used < 2 ^ n := diffS_lt_pow (diffS_lt_pow (diffS_lt_pow (all_lt_pow n)))
theorem pow_le8 {n : Nat} (hn : n ≤ 8) : 2 ^ n ≤ 256 := Nat.pow_le_pow_right (by decide) hn
theorem or_lt8 {u j : Nat} (hu : u < 256) (hj : j < 8) : u ||| 2 ^ j < 256 := by
  have h2 : 2 ^ j < 2 ^ 8 := Nat.pow_lt_pow_right (by decide) hj
  have : u ||| 2 ^ j < 2 ^ 8 := Nat.or_lt_two_pow (by omega) h2
  omega
theorem or_w8 {u j : Nat} (hu : u < 256) (hj : j < 8) : bits BinOp.or IntKind.i64 (u : Int) ((2 : Int) ^ j) = ((u ||| 2 ^ j : Nat) : Int) := by
  have h2 : 2 ^ j ≤ 2 ^ 7 := Nat.pow_le_pow_right (by decide) (by omega)
  have : ((2 : Int) ^ j) = ((2 ^ j : Nat) : Int) := by simp
  rw [this, i64_or u (2 ^ j) (by omega) (by omega)]
theorem andNot_w8 {u j : Nat} (hu : u < 256) (hj : j < 9) : bits BinOp.andNot IntKind.i64 (u : Int) ((2 : Int) ^ j) = ((diffS u (2 ^ j) : Nat) : Int) := by
  have h2 : 2 ^ j ≤ 2 ^ 8 := Nat.pow_le_pow_right (by decide) (by omega)
  have : ((2 : Int) ^ j) = ((2 ^ j : Nat) : Int) := by simp
  rw [this, i64_andNot u (2 ^ j) (by omega) (by omega)]; rfl
theorem pow_in9 : ∀ j : Nat, j < 9 → IntKind.i64.wrap ((2 : Int) ^ j) = (2 : Int) ^ j := by decide +kernel
theorem pow_in91 (j : Nat) (h : j < 9) : IntKind.i64.wrap ((2 : Int) ^ j - 1) = ((2 ^ j - 1 : Nat) : Int) := by
  have h1 : ∀ j : Nat, j < 9 → IntKind.i64.wrap ((2 : Int) ^ j - 1) = (2 : Int) ^ j - 1 := by decide +kernel
  rw [h1 j h]
  have h2 : 1 ≤ 2 ^ j := Nat.one_le_two_pow
  rw [Int.ofNat_sub h2]; simp
theorem bit8_walk : ∀ j : Nat, j < 8 → ∀ r : Nat, r < 256 → bits BinOp.and IntKind.i64 ((r : Int) / (2 : Int) ^ j) 1 = if r.testBit j then 1 else 0 := by decide +kernel

/-- The seats of the documented board. -/
def seats (n : Nat) : List Nat := (List.range n).map fun i => 2 ^ i ||| 2 ^ ((i + 1) % n)
theorem seats_hits : ∀ n : Nat, n < 7 → (decide (n < 2) || decide ((hitsL (seats n)).getD 0 0 = gst n n 0 0)) = true := by decide +kernel
theorem seats_board : ∀ n : Nat, n < 7 → ((decide (n < 2) || ((seats n).all fun r => decide (r < 2 ^ n)))) = true := by decide +kernel
end Go.Proofs.YtlpnicfbgdfbnaaDoor
