/- Permutations as lists, in the program's order; a yield as a state machine. -/
import Derived.Test.YtlpnicfbgdfbnaaDoorHt
namespace Go.Proofs.YtlpnicfbgdfbnaaDoor

/-- The orders of the elements of a set that has d elements. -/
def perms : Nat → Nat → List (List Nat)
  | 0, _ => [[]]
  | d + 1, rest => (elems rest).flatMap fun j => (perms d (diffS rest (2 ^ j))).map (j :: ·)

/-- Feed the lists to a yield until it answers false. -/
def runP {σ : Type} (step : σ → List Nat → σ × Bool) : σ → List (List Nat) → σ × Bool
  | s, [] => (s, true)
  | s, l :: ls => if (step s l).2 then runP step (step s l).1 ls else ((step s l).1, false)

theorem runP_append {σ : Type} (step : σ → List Nat → σ × Bool) : ∀ (a b : List (List Nat)) (s : σ), runP step s (a ++ b) = if (runP step s a).2 then runP step (runP step s a).1 b else ((runP step s a).1, false)
  | [], b, s => by simp [runP]
  | l :: a, b, s => by
    simp only [List.cons_append, runP]
    by_cases h : (step s l).2 = true
    · simp only [h, if_true]; exact runP_append step a b _
    · simp [h]

theorem runP_true {σ : Type} (step : σ → List Nat → σ × Bool) (h : ∀ s l, (step s l).2 = true) : ∀ (ls : List (List Nat)) (s : σ), runP step s ls = (ls.foldl (fun s l => (step s l).1) s, true)
  | [], s => rfl
  | l :: ls, s => by simp only [runP, h, if_true, List.foldl_cons]; exact runP_true step h ls _

theorem pop_step : ∀ s : Nat, s < 64 → ∀ j : Nat, j < 6 → (!s.testBit j || decide (pop (diffS s (2 ^ j)) + 1 = pop s)) = true := by decide +kernel
theorem pop_zero_iff : ∀ s : Nat, s < 64 → (decide (pop s = 0) == decide (s = 0)) = true := by decide +kernel
theorem andNot_walk {s j : Nat} (hj : j < 6) (hs : s < 64) : bits BinOp.andNot IntKind.i64 (s : Int) ((2 : Int) ^ j) = ((diffS s (2 ^ j) : Nat) : Int) := cut_walk j hj s hs
theorem elems_bit {s j : Nat} (h : j ∈ elems s) : s.testBit j = true := (List.mem_filter.1 h).2

theorem perms_len : ∀ (d rest : Nat) (l : List Nat), l ∈ perms d rest → l.length = d
  | 0, _, l, h => by simp [perms] at h; simp [h]
  | d + 1, rest, l, h => by
    simp only [perms, List.mem_flatMap, List.mem_map] at h
    obtain ⟨j, _, l', h', rfl⟩ := h
    simp [perms_len d _ l' h']
theorem perms_lt : ∀ (d rest : Nat) (l : List Nat), rest < 64 → l ∈ perms d rest → ∀ c ∈ l, c < 6
  | 0, _, l, _, h => by simp [perms] at h; simp [h]
  | d + 1, rest, l, hr, h => by
    simp only [perms, List.mem_flatMap, List.mem_map] at h
    obtain ⟨j, hj, l', h', rfl⟩ := h
    intro c hc
    rcases List.mem_cons.1 hc with rfl | hc
    · exact Nat.lt_of_not_le fun h6 => by have := elems_bit hj; rw [bit_high hr h6] at this; cases this
    · exact perms_lt d _ l' (diffS_lt6 hr) h' c hc
end Go.Proofs.YtlpnicfbgdfbnaaDoor
