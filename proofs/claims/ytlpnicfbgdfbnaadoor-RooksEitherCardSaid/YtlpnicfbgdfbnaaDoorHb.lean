/- Avoiding permutations and barriers. -/
import Derived.Test.YtlpnicfbgdfbnaaDoorHa
namespace Go.Proofs.YtlpnicfbgdfbnaaDoor

theorem perms_mem : ∀ (d s : Nat) (l : List Nat), l.length = d → l.Nodup → (∀ c ∈ l, c < 8 ∧ s.testBit c = true) → l ∈ perms d s
  | 0, s, l, hl, _, _ => by
    have : l = [] := List.eq_nil_of_length_eq_zero hl
    subst this; simp [perms]
  | d + 1, s, [], hl, _, _ => by simp at hl
  | d + 1, s, c :: l, hl, hn, hb => by
    rw [perms, List.mem_flatMap]
    have hc := hb c List.mem_cons_self
    obtain ⟨h1, h2⟩ := List.nodup_cons.1 hn
    refine ⟨c, List.mem_filter.2 ⟨List.mem_range.2 hc.1, hc.2⟩, List.mem_map.2 ⟨l, perms_mem d _ l (by simpa using hl) h2 fun x hx => ?_, rfl⟩⟩
    have hx' := hb x (List.mem_cons_of_mem _ hx)
    refine ⟨hx'.1, ?_⟩
    rw [diffS_pow, hx'.2]
    have : x ≠ c := fun e => h1 (e ▸ hx)
    simp [this]
theorem perms_nodup : ∀ (d s : Nat) (l : List Nat), s < 64 → l ∈ perms d s → l.Nodup
  | 0, _, l, _, h => by simp [perms] at h; simp [h]
  | d + 1, s, l, hs, h => by
    simp only [perms, List.mem_flatMap, List.mem_map] at h
    obtain ⟨j, hj, l', h', rfl⟩ := h
    refine List.nodup_cons.2 ⟨fun hm => ?_, perms_nodup d _ l' (diffS_lt6 hs) h'⟩
    have := perms_sub d _ l' (diffS_lt6 hs) h' j hm
    rw [diffS_pow] at this
    simp at this
theorem hitN_zero : ∀ (bs l : List Nat), l.length = bs.length → (hitN bs l = 0 ↔ ∀ i, i < bs.length → (bs.getD i 0).testBit (l.getD i 0) = false)
  | [], [], _ => by simp [hitN]
  | [], _ :: _, h => by simp at h
  | _ :: _, [], h => by simp at h
  | r :: bs, c :: l, h => by
    have ih := hitN_zero bs l (by simpa using h)
    rw [hitN]
    constructor
    · intro h0 i hi
      cases i with
      | zero =>
        cases hb : r.testBit c with
        | false => simpa using hb
        | true => rw [hb] at h0; simp at h0
      | succ i =>
        have := (ih.1 (by omega)) i (by simpa using hi)
        simpa using this
    · intro h0
      have h1 := h0 0 (by simp)
      simp only [List.getD_cons_zero] at h1
      have h2 := ih.2 fun i hi => by have := h0 (i + 1) (by simpa using hi); simpa using this
      rw [h1, h2]; rfl

theorem comm_bit (bs : List Nat) (S c : Nat) (h6 : bs.length ≤ 6) (hc : c < 8) : ∀ k, (comm bs S k).testBit c = true ↔ c < bs.length ∧ ∀ i, i < k → S.testBit i = true → (bs.getD i 0).testBit c = true
  | 0 => by rw [comm_zero, all_bit bs.length (by omega) c hc]; simp
  | k + 1 => by
    have ih := comm_bit bs S c h6 hc k
    rw [comm_succ]
    by_cases h : S.testBit k = true
    · rw [if_pos h, Nat.testBit_and, Bool.and_eq_true, ih]
      constructor
      · rintro ⟨⟨h1, h2⟩, h3⟩
        refine ⟨h1, fun i hi hS => ?_⟩
        by_cases e : i = k
        · subst e; exact h3
        · exact h2 i (by omega) hS
      · rintro ⟨h1, h2⟩
        exact ⟨⟨h1, fun i hi hS => h2 i (by omega) hS⟩, h2 k (by omega) h⟩
    · rw [if_neg h, ih]
      constructor
      · rintro ⟨h1, h2⟩
        refine ⟨h1, fun i hi hS => ?_⟩
        by_cases e : i = k
        · subst e; exact absurd hS h
        · exact h2 i (by omega) hS
      · rintro ⟨h1, h2⟩; exact ⟨h1, fun i hi hS => h2 i (by omega) hS⟩

/-- The columns that a row leaves. -/
def freeA (bs : List Nat) (i : Nat) : Nat := otherRow bs.length (bs.getD i 0)
theorem getD_lt {bs : List Nat} (h : IsBoard bs) (i : Nat) : bs.getD i 0 < 2 ^ bs.length := by
  by_cases hi : i < bs.length
  · rw [getD_at hi]; exact h.row _ (List.getElem_mem hi)
  · rw [getD_out (by omega)]; exact Nat.two_pow_pos _
theorem freeA_lt {bs : List Nat} (h : IsBoard bs) (i : Nat) : freeA bs i < 64 := by
  unfold freeA otherRow
  have := two_pow_le h.le
  have := Nat.one_le_two_pow (n := bs.length)
  omega
theorem freeA_bit {bs : List Nat} (h : IsBoard bs) (i c : Nat) : (freeA bs i).testBit c = true ↔ c < bs.length ∧ (bs.getD i 0).testBit c = false := by
  have h6 := h.le
  have hr := getD_lt h i
  have hr64 : bs.getD i 0 < 64 := Nat.lt_of_lt_of_le hr (two_pow_le h6)
  by_cases hc : c < bs.length
  · have := other_bit bs.length (by omega) (bs.getD i 0) hr64 c (by omega)
    simp only [hr, hc, decide_true, Bool.and_self, Bool.not_true, Bool.false_or, beq_iff_eq] at this
    unfold freeA
    rw [this]
    simp [hc]
  · constructor
    · intro hb
      have hl : freeA bs i < 2 ^ bs.length := other_lt bs.length (by omega) _ hr64
      exact absurd (bits_lt hl hb) hc
    · rintro ⟨h1, _⟩; exact absurd h1 hc

theorem pop_comp : ∀ n : Nat, n < 7 → ∀ a : Nat, a < 64 → (!decide (a < 2 ^ n) || decide (pop a + pop (diffS (2 ^ n - 1) a) = n)) = true := by decide +kernel
theorem comm_pop {bs : List Nat} (h : IsBoard bs) (S : Nat) : pop (uni (freeA bs) S bs.length) + pop (comm bs S bs.length) = bs.length := by
  have h6 := h.le
  have h64 := uni_lt (freeA bs) (freeA_lt h) S bs.length
  have hlt : uni (freeA bs) S bs.length < 2 ^ bs.length := lt_of_bits fun c hc => by
    obtain ⟨i, _, _, g3⟩ := (uni_bit _ _ _ _).1 hc
    exact ((freeA_bit h i c).1 g3).1
  have e : comm bs S bs.length = diffS (2 ^ bs.length - 1) (uni (freeA bs) S bs.length) := Nat.eq_of_testBit_eq fun c => by
    by_cases hc : c < 8
    · rw [Bool.eq_iff_iff, comm_bit bs S c h6 hc, diffS_bit]
      unfold free
      rw [all_bit bs.length (by omega) c hc, Bool.and_eq_true, decide_eq_true_eq, Bool.not_eq_true']
      constructor
      · rintro ⟨h1, h2⟩
        refine ⟨h1, Bool.eq_false_iff.2 fun hu => ?_⟩
        obtain ⟨i, g1, g2, g3⟩ := (uni_bit _ _ _ _).1 hu
        have := h2 i g1 g2
        rw [((freeA_bit h i c).1 g3).2] at this
        cases this
      · rintro ⟨h1, h2⟩
        refine ⟨h1, fun i hi hS => Classical.byContradiction fun hb => ?_⟩
        rw [(uni_bit _ _ _ _).2 ⟨i, hi, hS, (freeA_bit h i c).2 ⟨h1, by simpa using hb⟩⟩] at h2
        cases h2
    · have l1 := comm_lt bs S h6 bs.length
      have l2 : diffS (2 ^ bs.length - 1) (uni (freeA bs) S bs.length) < 64 := diffS_lt6 (by have := two_pow_le h6; have := Nat.one_le_two_pow (n := bs.length); omega)
      have h64c : 64 ≤ 2 ^ c := by
        have : 2 ^ 6 ≤ 2 ^ c := Nat.pow_le_pow_right (by decide) (by omega)
        omega
      rw [Nat.testBit_lt_two_pow (Nat.lt_of_lt_of_le l1 h64c), Nat.testBit_lt_two_pow (Nat.lt_of_lt_of_le l2 h64c)]
  have := pop_comp bs.length (by omega) _ h64
  simp only [hlt, decide_true, Bool.not_true, Bool.false_or, decide_eq_true_eq] at this
  rw [e]; exact this

/-- No barrier: there is a permutation that hits nothing. -/
theorem avoid_of {bs : List Nat} (h : IsBoard bs) (hB : ∀ S, S < 2 ^ bs.length → isBar bs S = false) : ∃ l, l ∈ allP bs.length ∧ hitN bs l = 0 := by
  have h6 := h.le
  have H : Hall bs.length (freeA bs) := fun S hS => by
    have h1 := hB S hS
    unfold isBar at h1
    rw [decide_eq_false_iff_not] at h1
    have h2 := comm_pop h S
    omega
  obtain ⟨f, f1, f2⟩ := hall h6 _ (freeA bs) (freeA_lt h) H (Nat.le_refl _)
  have hf : ∀ i, i < bs.length → f i < bs.length ∧ (bs.getD i 0).testBit (f i) = false := fun i hi => (freeA_bit h i (f i)).1 (f1 i hi)
  refine ⟨(List.range bs.length).map f, perms_mem _ _ _ (by simp) ?_ ?_, ?_⟩
  · rw [List.nodup_iff_pairwise_ne]
    refine List.pairwise_map.2 ?_
    refine (List.pairwise_lt_range (n := bs.length)).imp_of_mem fun {a b} ha hb hab e => ?_
    have := f2 a b (List.mem_range.1 ha) (List.mem_range.1 hb) e
    omega
  · intro c hc
    obtain ⟨i, hi, rfl⟩ := List.mem_map.1 hc
    have := (hf i (List.mem_range.1 hi)).1
    exact ⟨by omega, by rw [all_bit bs.length (by omega) _ (by omega)]; simpa using this⟩
  · rw [hitN_zero bs _ (by simp)]
    intro i hi
    have e : ((List.range bs.length).map f).getD i 0 = f i := by simp [List.getD, hi]
    rw [e]
    exact (hf i hi).2

theorem pop_new : ∀ a : Nat, a < 64 → ∀ c : Nat, c < 6 → (a.testBit c || decide (pop (a ||| 2 ^ c) = pop a + 1)) = true := pop_add
def popTo (S : Nat) : Nat → Nat
  | 0 => 0
  | k + 1 => popTo S k + if S.testBit k then 1 else 0
theorem pop_popTo : ∀ n : Nat, n < 7 → ∀ S : Nat, S < 64 → (!decide (S < 2 ^ n) || decide (popTo S n = pop S)) = true := by decide +kernel

/-- A permutation that hits nothing: no barrier. -/
theorem bar_none {bs l : List Nat} (h : IsBoard bs) (hl : l ∈ allP bs.length) (h0 : hitN bs l = 0) (S : Nat) (hS : S < 2 ^ bs.length) : isBar bs S = false := by
  have h6 := h.le
  have h64 := two_pow_le h6
  obtain ⟨p1, p2, p3⟩ := all_pop bs.length (by omega)
  have hlen : l.length = bs.length := perms_len _ _ l hl
  have hnd := perms_nodup _ _ l p2 hl
  have hbits := perms_sub _ _ l p2 hl
  have hlt6 := perms_lt _ _ l p2 hl
  have hz := (hitN_zero bs l hlen).1 h0
  have hmem : ∀ i, i < bs.length → l.getD i 0 ∈ l := fun i hi => by rw [getD_at (by omega)]; exact List.getElem_mem _
  have hn : ∀ i, i < bs.length → l.getD i 0 < bs.length := fun i hi => by
    have h1 := hbits _ (hmem i hi)
    rw [all_bit bs.length (by omega) _ (by have := hlt6 _ (hmem i hi); omega)] at h1
    simpa using h1
  have hinj : ∀ i j, i < bs.length → j < bs.length → l.getD i 0 = l.getD j 0 → i = j := fun i j hi hj e => by
    rw [getD_at (by omega), getD_at (by omega)] at e
    have hp := List.pairwise_iff_getElem.1 hnd
    rcases Nat.lt_trichotomy i j with h | h | h
    · exact absurd e (hp i j (by omega) (by omega) h)
    · exact h
    · exact absurd e.symm (hp j i (by omega) (by omega) h)
  have hu : ∀ k, k ≤ bs.length → pop (uni (fun i => if i < bs.length then 2 ^ l.getD i 0 else 0) S k) = popTo S k := by
    intro k
    induction k with
    | zero => intro _; simp only [uni, popTo]; decide
    | succ k ih =>
      intro hk
      have ih := ih (by omega)
      simp only [uni, popTo]
      by_cases hb : S.testBit k = true
      · rw [if_pos hb, if_pos hb, if_pos (by omega)]
        have hA64 : ∀ i, (fun i => if i < bs.length then 2 ^ l.getD i 0 else 0) i < 64 := fun i => by
          simp only
          split
          · rename_i hi
            exact Nat.pow_lt_pow_right (n := 6) (by decide) (by have := hn i hi; omega)
          · decide
        have := pop_new _ (uni_lt _ hA64 S k) (l.getD k 0) (by have := hn k (by omega); omega)
        have hno : (uni (fun i => if i < bs.length then 2 ^ l.getD i 0 else 0) S k).testBit (l.getD k 0) = false := Bool.eq_false_iff.2 fun hc => by
          obtain ⟨i, g1, g2, g3⟩ := (uni_bit _ _ _ _).1 hc
          simp only [show i < bs.length by omega, if_true] at g3
          rw [Nat.testBit_two_pow, decide_eq_true_eq] at g3
          have := hinj i k (by omega) (by omega) g3
          omega
        rw [hno] at this
        simp only [Bool.false_or, decide_eq_true_eq] at this
        rw [this, ih]
      · rw [if_neg hb, if_neg hb, ih]; rfl
  have h1 := hu bs.length (Nat.le_refl _)
  have h2 := pop_popTo bs.length (by omega) S (by omega)
  simp only [hS, decide_true, Bool.not_true, Bool.false_or, decide_eq_true_eq] at h2
  have hsub : pop (uni (fun i => if i < bs.length then 2 ^ l.getD i 0 else 0) S bs.length) ≤ pop (uni (freeA bs) S bs.length) := by
    refine pop_mono (lt_of_bits (n := 6) fun c hc => ?_) (uni_lt _ (freeA_lt h) _ _) fun c hc => ?_
    · obtain ⟨i, g1, g2, g3⟩ := (uni_bit _ _ _ _).1 hc
      simp only [g1, if_true] at g3
      rw [Nat.testBit_two_pow, decide_eq_true_eq] at g3
      have := hn i g1
      omega
    · obtain ⟨i, g1, g2, g3⟩ := (uni_bit _ _ _ _).1 hc
      simp only [g1, if_true] at g3
      rw [Nat.testBit_two_pow, decide_eq_true_eq] at g3
      subst g3
      exact (uni_bit _ _ _ _).2 ⟨i, g1, g2, (freeA_bit h i _).2 ⟨hn i g1, hz i g1⟩⟩
  have h3 := comm_pop h S
  unfold isBar
  rw [decide_eq_false_iff_not]
  omega

/-- **Exactly one of both.** -/
theorem either {bs : List Nat} (h : IsBoard bs) : (firstA bs).isSome = !(firstB bs).isSome := by
  cases hA : firstA bs with
  | some l =>
    have hl : l ∈ allP bs.length := List.mem_of_find?_eq_some hA
    have h0 : hitN bs l = 0 := by have := List.find?_some hA; simpa using this
    rw [firstB_none fun S hS => bar_none h hl h0 S hS]
    rfl
  | none =>
    cases hB : firstB bs with
    | some S => rfl
    | none =>
      exfalso
      have hB' : ∀ S, S < 2 ^ bs.length → isBar bs S = false := fun S hS => by
        have := List.find?_eq_none.1 hB S (List.mem_range.2 hS)
        simpa using this
      obtain ⟨l, hl, h0⟩ := avoid_of h hB'
      have := List.find?_eq_none.1 hA l hl
      simp [h0] at this
theorem hits0 {bs : List Nat} : 0 < (hitsL bs).getD 0 0 ↔ (firstA bs).isSome = true := by
  rw [hitsL_getD]
  unfold hcount firstA
  constructor
  · intro h
    refine Classical.byContradiction fun hn => ?_
    rw [Bool.not_eq_true, Option.isSome_eq_false_iff, Option.isNone_iff_eq_none] at hn
    have hn := List.find?_eq_none.1 hn
    have : ((allP bs.length).map fun l => if hitN bs l = 0 then 1 else 0).sum = 0 := by
      have h0 : ∀ ls : List (List Nat), (∀ l ∈ ls, ¬ decide (hitN bs l = 0) = true) → (ls.map fun l => if hitN bs l = 0 then 1 else 0).sum = 0 := by
        intro ls
        induction ls with
        | nil => intro _; rfl
        | cons l ls ih =>
          intro hh
          rw [List.map_cons, List.sum_cons, ih fun x hx => hh x (List.mem_cons_of_mem _ hx)]
          have := hh l List.mem_cons_self
          simp only [decide_eq_true_eq] at this
          rw [if_neg this]
      exact h0 _ hn
    omega
  · intro h
    obtain ⟨l, hl⟩ := Option.isSome_iff_exists.1 h
    have hm : l ∈ allP bs.length := List.mem_of_find?_eq_some hl
    have h0 : hitN bs l = 0 := by have := List.find?_some hl; simpa using this
    have : ∀ ls : List (List Nat), l ∈ ls → 0 < (ls.map fun l => if hitN bs l = 0 then 1 else 0).sum := by
      intro ls
      induction ls with
      | nil => intro h; cases h
      | cons x ls ih =>
        intro hx
        rw [List.map_cons, List.sum_cons]
        rcases List.mem_cons.1 hx with rfl | hx
        · rw [if_pos h0]; omega
        · have := ih hx; omega
    exact this _ hm
end Go.Proofs.YtlpnicfbgdfbnaaDoor
