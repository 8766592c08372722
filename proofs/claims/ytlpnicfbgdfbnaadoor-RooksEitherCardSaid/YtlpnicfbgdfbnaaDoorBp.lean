/- Which slices are boards: plain facts. -/
import Derived.Test.YtlpnicfbgdfbnaaDoorLib
import Derived.Test.YtlpnicfbgdfbnaaDoorPl
namespace Go.Proofs.YtlpnicfbgdfbnaaDoor

/-- A row of a board of n rows. -/
def rowB (n : Nat) (r : Int) : Bool := decide (0 ≤ r) && decide (r < (2 : Int) ^ n)
/-- A board. -/
def boardB (xs : List Int) : Bool := decide (1 ≤ xs.length) && decide (xs.length ≤ 6) && xs.all (rowB xs.length)

theorem rowB_no {n : Nat} {r : Int} (h : r < 0 ∨ (2 : Int) ^ n ≤ r) : rowB n r = false := by
  unfold rowB
  rcases h with h | h
  · simp; omega
  · simp; intro _; exact h
theorem rowB_yes {n : Nat} {r : Int} (h0 : 0 ≤ r) (h : r < (2 : Int) ^ n) : rowB n r = true := by
  unfold rowB; simp [h0, h]
theorem boardB_no_row {xs : List Int} {k : Nat} (hk : k < xs.length) (h : rowB xs.length xs[k] = false) : boardB xs = false := by
  unfold boardB
  have : xs.all (rowB xs.length) = false := by
    rw [List.all_eq_false]
    exact ⟨xs[k], List.getElem_mem _, by simp [h]⟩
  simp [this]
theorem boardB_no_len {xs : List Int} (h : xs.length = 0 ∨ 6 < xs.length) : boardB xs = false := by
  unfold boardB
  rcases h with h | h <;> simp [h] <;> omega
theorem boardB_yes {xs : List Int} (h1 : 1 ≤ xs.length) (h6 : xs.length ≤ 6) (h : xs.all (rowB xs.length) = true) : boardB xs = true := by
  unfold boardB; simp only [h1, h6, h]; simp
theorem all_take_succ {xs : List Int} {p : Int → Bool} {k : Nat} (hk : k < xs.length) (h : (xs.take k).all p = true) (hp : p xs[k] = true) : (xs.take (k + 1)).all p = true := by
  rw [take_succ' xs k hk, List.all_append, h]; simp [hp]

/-- A board's rows, as numbers. -/
structure IsBoard (bs : List Nat) : Prop where
  pos : 1 ≤ bs.length
  le : bs.length ≤ 6
  row : ∀ r ∈ bs, r < 2 ^ bs.length

theorem two_pow_le {n : Nat} (h : n ≤ 6) : 2 ^ n ≤ 64 := Nat.pow_le_pow_right (by decide) h
theorem IsBoard.lt {bs : List Nat} (h : IsBoard bs) (r : Nat) (hr : r ∈ bs) : r < 64 := Nat.lt_of_lt_of_le (h.row r hr) (two_pow_le h.le)

theorem boardB_board {bs : List Nat} (h : IsBoard bs) : boardB (toI bs) = true := by
  refine boardB_yes (by rw [toI_length]; exact h.pos) (by rw [toI_length]; exact h.le) ?_
  rw [List.all_eq_true, toI_length]
  intro x hx
  obtain ⟨r, hr, rfl⟩ := List.mem_map.1 hx
  exact rowB_yes (by omega) (by have := h.row r hr; exact_mod_cast this)

theorem board_of {xs : List Int} (h : boardB xs = true) : ∃ bs, xs = toI bs ∧ IsBoard bs := by
  unfold boardB at h
  simp only [Bool.and_eq_true, decide_eq_true_eq, List.all_eq_true] at h
  obtain ⟨⟨h1, h6⟩, hr⟩ := h
  have hx : xs = toI (xs.map Int.toNat) := by
    unfold toI
    rw [List.map_map]
    conv => lhs; rw [← List.map_id xs]
    refine List.map_congr_left fun x hx => ?_
    have := hr x hx
    unfold rowB at this
    simp at this
    simp; omega
  refine ⟨xs.map Int.toNat, hx, by simpa using h1, by simpa using h6, fun r hrm => ?_⟩
  obtain ⟨x, hx', rfl⟩ := List.mem_map.1 hrm
  have := hr x hx'
  unfold rowB at this
  simp only [Bool.and_eq_true, decide_eq_true_eq] at this
  rw [List.length_map]
  have h2 : ((x.toNat : Nat) : Int) < ((2 ^ xs.length : Nat) : Int) := by rw [Int.toNat_of_nonneg this.1]; exact_mod_cast this.2
  exact Int.ofNat_lt.1 h2


end Go.Proofs.YtlpnicfbgdfbnaaDoor
