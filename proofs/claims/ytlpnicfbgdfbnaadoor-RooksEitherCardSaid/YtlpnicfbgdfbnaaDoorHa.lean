/- Hall's theorem for at most six rows of six columns, by Rado's proof. -/
import Derived.Test.YtlpnicfbgdfbnaaDoorAv
namespace Go.Proofs.YtlpnicfbgdfbnaaDoor

theorem pop_or : ∀ a : Nat, a < 64 → ∀ b : Nat, b < 64 → pop (a ||| b) + pop (a &&& b) = pop a + pop b := by decide +kernel
theorem pop_and_le : ∀ a : Nat, a < 64 → ∀ b : Nat, b < 64 → pop (a &&& b) ≤ pop b := by decide +kernel
def Sub (a b : Nat) : Prop := ∀ c, a.testBit c = true → b.testBit c = true
theorem pop_mono {a b : Nat} (ha : a < 64) (hb : b < 64) (h : Sub a b) : pop a ≤ pop b := by
  have e : a &&& b = a := Nat.eq_of_testBit_eq fun c => by
    rw [Nat.testBit_and]
    cases hc : a.testBit c with
    | false => rfl
    | true => rw [h c hc]; rfl
  have := pop_and_le a ha b hb
  rwa [e] at this
theorem or64 {a b : Nat} (ha : a < 64) (hb : b < 64) : a ||| b < 64 := Nat.or_lt_two_pow (n := 6) ha hb
theorem and64 {a b : Nat} (ha : a < 64) : a &&& b < 64 := Nat.lt_of_le_of_lt Nat.and_le_left ha

/-- All columns of the rows of a set. -/
def uni (A : Nat → Nat) (S : Nat) : Nat → Nat
  | 0 => 0
  | k + 1 => if S.testBit k then uni A S k ||| A k else uni A S k
theorem uni_bit (A : Nat → Nat) (S c : Nat) : ∀ k, (uni A S k).testBit c = true ↔ ∃ i, i < k ∧ S.testBit i = true ∧ (A i).testBit c = true
  | 0 => by simp [uni]
  | k + 1 => by
    have ih := uni_bit A S c k
    unfold uni
    by_cases h : S.testBit k = true
    · rw [if_pos h, Nat.testBit_or, Bool.or_eq_true, ih]
      constructor
      · rintro (⟨i, h1, h2, h3⟩ | h3)
        · exact ⟨i, by omega, h2, h3⟩
        · exact ⟨k, by omega, h, h3⟩
      · rintro ⟨i, h1, h2, h3⟩
        by_cases e : i = k
        · subst e; exact .inr h3
        · exact .inl ⟨i, by omega, h2, h3⟩
    · rw [if_neg h, ih]
      constructor
      · rintro ⟨i, h1, h2, h3⟩; exact ⟨i, by omega, h2, h3⟩
      · rintro ⟨i, h1, h2, h3⟩
        by_cases e : i = k
        · subst e; exact absurd h2 h
        · exact ⟨i, by omega, h2, h3⟩
theorem uni_lt (A : Nat → Nat) (hA : ∀ i, A i < 64) (S : Nat) : ∀ k, uni A S k < 64
  | 0 => by simp [uni]
  | k + 1 => by
    unfold uni
    split
    · exact or64 (uni_lt A hA S k) (hA k)
    · exact uni_lt A hA S k

def Hall (n : Nat) (A : Nat → Nat) : Prop := ∀ S, S < 2 ^ n → pop S ≤ pop (uni A S n)
def put (A : Nat → Nat) (k v : Nat) : Nat → Nat := fun i => if i = k then v else A i

theorem pop_add : ∀ S : Nat, S < 64 → ∀ k : Nat, k < 6 → (S.testBit k || decide (pop (S ||| 2 ^ k) = pop S + 1)) = true := by decide +kernel
theorem pop_del : ∀ S : Nat, S < 64 → ∀ k : Nat, k < 6 → (!S.testBit k || decide (pop (diffS S (2 ^ k)) + 1 = pop S)) = true := by decide +kernel

theorem diffS_ltp {a b n : Nat} (h : a < 2 ^ n) : diffS a b < 2 ^ n := Nat.xor_lt_two_pow h (Nat.lt_of_le_of_lt Nat.and_le_left h)
theorem lt_of_bits {S n : Nat} (h : ∀ i, S.testBit i = true → i < n) : S < 2 ^ n := by
  apply Nat.lt_pow_two_of_testBit
  intro i hi
  cases hb : S.testBit i with
  | false => rfl
  | true => have := h i hb; omega
theorem bits_lt {S n i : Nat} (h : S < 2 ^ n) (hb : S.testBit i = true) : i < n := row_bit h hb

/-- Without one of two columns of a row the condition still holds. -/
theorem rado {n : Nat} (hn : n ≤ 6) (A : Nat → Nat) (hA : ∀ i, A i < 64) (H : Hall n A) (k x y : Nat) (hk : k < n) (hx : (A k).testBit x = true) (hy : (A k).testBit y = true) (hxy : x ≠ y) :
    Hall n (put A k (diffS (A k) (2 ^ x))) ∨ Hall n (put A k (diffS (A k) (2 ^ y))) := by
  have h64 := two_pow_le hn
  have key : ∀ z, ¬ Hall n (put A k (diffS (A k) (2 ^ z))) → ∃ S, S < 2 ^ n ∧ S.testBit k = false ∧ ∃ X, X < 64 ∧ pop X ≤ pop S ∧ (∀ c, X.testBit c = true ↔ ((A k).testBit c = true ∧ c ≠ z) ∨ (uni A S n).testBit c = true) := by
    intro z hz
    unfold Hall at hz
    have hz : ∃ S, S < 2 ^ n ∧ ¬ pop S ≤ pop (uni (put A k (diffS (A k) (2 ^ z))) S n) := Classical.byContradiction fun hc => hz fun S hS => Classical.byContradiction fun hp => hc ⟨S, hS, hp⟩
    obtain ⟨S1, hS1, hp⟩ := hz
    have hA' : ∀ i, put A k (diffS (A k) (2 ^ z)) i < 64 := fun i => by
      unfold put
      split
      · exact diffS_lt6 (hA k)
      · exact hA i
    cases hb : S1.testBit k with
    | false =>
      exfalso
      have e : uni (put A k (diffS (A k) (2 ^ z))) S1 n = uni A S1 n := Nat.eq_of_testBit_eq fun c => by
        rw [Bool.eq_iff_iff, uni_bit, uni_bit]
        constructor
        · rintro ⟨i, h1, h2, h3⟩
          have : i ≠ k := fun e => by subst e; rw [hb] at h2; cases h2
          exact ⟨i, h1, h2, by simpa [put, this] using h3⟩
        · rintro ⟨i, h1, h2, h3⟩
          have : i ≠ k := fun e => by subst e; rw [hb] at h2; cases h2
          exact ⟨i, h1, h2, by simpa [put, this] using h3⟩
      rw [e] at hp
      exact hp (H S1 hS1)
    | true =>
      have hd := pop_del S1 (by omega) k (by omega)
      rw [hb] at hd
      simp only [Bool.not_true, Bool.false_or, decide_eq_true_eq] at hd
      refine ⟨diffS S1 (2 ^ k), diffS_ltp hS1, by rw [diffS_pow]; simp, uni (put A k (diffS (A k) (2 ^ z))) S1 n, uni_lt _ hA' _ _, by omega, fun c => ?_⟩
      rw [uni_bit, uni_bit]
      constructor
      · rintro ⟨i, h1, h2, h3⟩
        by_cases e : i = k
        · subst e
          simp only [put, if_true, diffS_pow, Bool.and_eq_true, Bool.not_eq_true', decide_eq_false_iff_not] at h3
          exact .inl h3
        · refine .inr ⟨i, h1, ?_, by simpa [put, e] using h3⟩
          rw [diffS_pow]; simp [h2, e]
      · rintro (⟨h1, h2⟩ | ⟨i, h1, h2, h3⟩)
        · refine ⟨k, hk, hb, ?_⟩
          simp only [put, if_true, diffS_pow, Bool.and_eq_true, Bool.not_eq_true', decide_eq_false_iff_not]
          exact ⟨h1, h2⟩
        · rw [diffS_pow] at h2
          simp only [Bool.and_eq_true, Bool.not_eq_true', decide_eq_false_iff_not] at h2
          exact ⟨i, h1, h2.1, by simpa [put, h2.2] using h3⟩
  refine Classical.byContradiction fun hc => ?_
  obtain ⟨S, hS, hSk, X, hX, hXp, hXb⟩ := key x fun h => hc (.inl h)
  obtain ⟨T, hT, hTk, Y, hY, hYp, hYb⟩ := key y fun h => hc (.inr h)
  have e1 := pop_or X hX Y hY
  have e2 := pop_or S (by omega) T (by omega)
  have hST : S ||| T < 2 ^ n := Nat.or_lt_two_pow hS hT
  have hk2 : 2 ^ k < 2 ^ n := Nat.pow_lt_pow_right (by decide) hk
  have hSTk : (S ||| T) ||| 2 ^ k < 2 ^ n := Nat.or_lt_two_pow hST hk2
  have h1 : pop ((S ||| T) ||| 2 ^ k) = pop (S ||| T) + 1 := by
    have := pop_add (S ||| T) (by omega) k (by omega)
    rw [Nat.testBit_or, hSk, hTk] at this
    simpa using this
  have h2 : pop (uni A ((S ||| T) ||| 2 ^ k) n) ≤ pop (X ||| Y) := pop_mono (uni_lt A hA _ _) (or64 hX hY) fun c hcb => by
    obtain ⟨i, g1, g2, g3⟩ := (uni_bit _ _ _ _).1 hcb
    rw [Nat.testBit_or, Bool.or_eq_true]
    rw [Nat.testBit_or, Nat.testBit_or, Bool.or_eq_true, Bool.or_eq_true, Nat.testBit_two_pow, decide_eq_true_eq] at g2
    rcases g2 with (g2 | g2) | g2
    · exact .inl ((hXb c).2 (.inr ((uni_bit _ _ _ _).2 ⟨i, g1, g2, g3⟩)))
    · exact .inr ((hYb c).2 (.inr ((uni_bit _ _ _ _).2 ⟨i, g1, g2, g3⟩)))
    · subst g2
      by_cases hcx : c = x
      · exact .inr ((hYb c).2 (.inl ⟨g3, by omega⟩))
      · exact .inl ((hXb c).2 (.inl ⟨g3, hcx⟩))
  have h3 : pop (uni A (S &&& T) n) ≤ pop (X &&& Y) := pop_mono (uni_lt A hA _ _) (and64 hX) fun c hcb => by
    obtain ⟨i, g1, g2, g3⟩ := (uni_bit _ _ _ _).1 hcb
    rw [Nat.testBit_and, Bool.and_eq_true] at g2 ⊢
    exact ⟨(hXb c).2 (.inr ((uni_bit _ _ _ _).2 ⟨i, g1, g2.1, g3⟩)), (hYb c).2 (.inr ((uni_bit _ _ _ _).2 ⟨i, g1, g2.2, g3⟩))⟩
  have h4 := H _ hSTk
  have h5 := H (S &&& T) (Nat.lt_of_le_of_lt Nat.and_le_left hS)
  omega

def total (A : Nat → Nat) : Nat → Nat
  | 0 => 0
  | k + 1 => total A k + pop (A k)
theorem total_put (A : Nat → Nat) (k v : Nat) : ∀ n, total (put A k v) n + (if k < n then pop (A k) else 0) = total A n + if k < n then pop v else 0
  | 0 => by simp [total]
  | n + 1 => by
    have ih := total_put A k v n
    simp only [total]
    by_cases h : n = k
    · subst h
      simp only [put, if_true, Nat.lt_irrefl, if_false, Nat.lt_succ_self] at ih ⊢
      omega
    · have e : put A k v n = A n := by simp [put, h]
      rw [e]
      by_cases h2 : k < n
      · rw [if_pos h2, if_pos h2] at ih; rw [if_pos (by omega), if_pos (by omega)]; omega
      · rw [if_neg h2, if_neg h2] at ih; rw [if_neg (by omega), if_neg (by omega)]; omega

theorem pop_two : ∀ a : Nat, a < 64 → (decide (pop a ≤ 1) || (List.range 6).any fun x => (List.range 6).any fun y => a.testBit x && a.testBit y && decide (x ≠ y)) = true := by decide +kernel
theorem pop_one : ∀ a : Nat, a < 64 → (!decide (pop a = 1) || (List.range 6).any fun x => decide (a = 2 ^ x)) = true := by decide +kernel

/-- **Hall**: distinct columns, one of each row. -/
theorem hall {n : Nat} (hn : n ≤ 6) : ∀ (m : Nat) (A : Nat → Nat), (∀ i, A i < 64) → Hall n A → total A n ≤ m → ∃ f : Nat → Nat, (∀ i, i < n → (A i).testBit (f i) = true) ∧ ∀ i j, i < n → j < n → f i = f j → i = j
  | m, A, hA, H, hm => by
    have h64 := two_pow_le hn
    by_cases hone : ∀ i, i < n → pop (A i) ≤ 1
    · have hsing : ∀ i, i < n → ∃ x, A i = 2 ^ x := by
        intro i hi
        have h2 : 2 ^ i < 2 ^ n := Nat.pow_lt_pow_right (by decide) hi
        have h1 := H (2 ^ i) h2
        have e : uni A (2 ^ i) n = A i := Nat.eq_of_testBit_eq fun c => by
          rw [Bool.eq_iff_iff, uni_bit]
          constructor
          · rintro ⟨j, g1, g2, g3⟩
            rw [Nat.testBit_two_pow, decide_eq_true_eq] at g2
            subst g2; exact g3
          · intro g; exact ⟨i, hi, by simp, g⟩
        rw [e] at h1
        have hp2 : pop (2 ^ i) = 1 := by
          have : ∀ i : Nat, i < 6 → pop (2 ^ i) = 1 := by decide
          exact this i (by omega)
        have := pop_one (A i) (hA i)
        rw [show pop (A i) = 1 by have := hone i hi; omega] at this
        simp only [decide_true, Bool.not_true, Bool.false_or, List.any_eq_true, decide_eq_true_eq] at this
        obtain ⟨x, _, hx⟩ := this
        exact ⟨x, hx⟩
      let f : Nat → Nat := fun i => if h : i < n then Classical.choose (hsing i h) else 0
      have hf : ∀ i, i < n → A i = 2 ^ f i := fun i hi => by
        show A i = 2 ^ (if h : i < n then Classical.choose (hsing i h) else 0)
        rw [dif_pos hi]
        exact Classical.choose_spec (hsing i hi)
      refine ⟨f, fun i hi => by rw [hf i hi]; simp, fun i j hi hj hij => Classical.byContradiction fun hne => ?_⟩
      have h2 : 2 ^ i ||| 2 ^ j < 2 ^ n := Nat.or_lt_two_pow (Nat.pow_lt_pow_right (by decide) hi) (Nat.pow_lt_pow_right (by decide) hj)
      have h1 := H _ h2
      have e : uni A (2 ^ i ||| 2 ^ j) n = A i := Nat.eq_of_testBit_eq fun c => by
        rw [Bool.eq_iff_iff, uni_bit]
        constructor
        · rintro ⟨q, g1, g2, g3⟩
          rw [Nat.testBit_or, Nat.testBit_two_pow, Nat.testBit_two_pow, Bool.or_eq_true, decide_eq_true_eq, decide_eq_true_eq] at g2
          rcases g2 with g2 | g2
          · subst g2; exact g3
          · subst g2; rw [hf _ hj, ← hij, ← hf _ hi] at g3; exact g3
        · intro g; exact ⟨i, hi, by simp [Nat.testBit_or], g⟩
      rw [e] at h1
      have hp2 : pop (2 ^ i ||| 2 ^ j) = 2 := by
        have : ∀ i : Nat, i < 6 → ∀ j : Nat, j < 6 → (decide (i = j) || decide (pop (2 ^ i ||| 2 ^ j) = 2)) = true := by decide
        have := this i (by omega) j (by omega)
        simpa [hne] using this
      have := hone i hi
      omega
    · have hone : ∃ k, k < n ∧ ¬ pop (A k) ≤ 1 := Classical.byContradiction fun hc => hone fun i hi => Classical.byContradiction fun hp => hc ⟨i, hi, hp⟩
      obtain ⟨k, hk, hk2⟩ := hone
      have h2 := pop_two (A k) (hA k)
      rw [decide_eq_false hk2] at h2
      simp only [Bool.false_or, List.any_eq_true, List.mem_range, Bool.and_eq_true, decide_eq_true_eq] at h2
      obtain ⟨x, hx6, y, hy6, ⟨hx, hy⟩, hxy⟩ := h2
      have step : ∀ z, z < 6 → (A k).testBit z = true → Hall n (put A k (diffS (A k) (2 ^ z))) → ∃ f : Nat → Nat, (∀ i, i < n → (A i).testBit (f i) = true) ∧ ∀ i j, i < n → j < n → f i = f j → i = j := by
        intro z hz6 hz hH
        have hd := pop_del (A k) (hA k) z hz6
        rw [hz] at hd
        simp only [Bool.not_true, Bool.false_or, decide_eq_true_eq] at hd
        have ht := total_put A k (diffS (A k) (2 ^ z)) n
        rw [if_pos hk, if_pos hk] at ht
        have hA' : ∀ i, put A k (diffS (A k) (2 ^ z)) i < 64 := fun i => by
          unfold put
          split
          · exact diffS_lt6 (hA k)
          · exact hA i
        match m, hm with
        | 0, hm => omega
        | m + 1, hm =>
          obtain ⟨f, h1, h2⟩ := hall hn m (put A k (diffS (A k) (2 ^ z))) hA' hH (by omega)
          refine ⟨f, fun i hi => ?_, h2⟩
          have := h1 i hi
          unfold put at this
          by_cases e : i = k
          · subst e
            rw [if_pos rfl, diffS_pow, Bool.and_eq_true] at this
            exact this.1
          · rw [if_neg e] at this; exact this
      rcases rado hn A hA H k x y hk hx hy hxy with h | h
      · exact step x hx6 hx h
      · exact step y hy6 hy h
termination_by m => m
end Go.Proofs.YtlpnicfbgdfbnaaDoor
