/- Boards turned: rows exchanged, columns exchanged, rows with columns; the plain laws. No Go in sight. -/
import Derived.Test.YtlpnicfbgdfbnaaDoorA6
namespace Go.Proofs.YtlpnicfbgdfbnaaDoor

/-! ### rooks on a table of Bools -/
def cwo (av : Nat → Bool) (j : Nat) : Nat → Bool := fun c => av c && !decide (c = j)
def rwo (M : Nat → Nat → Bool) (i : Nat) : Nat → Nat → Bool := fun a b => M a b && !decide (a = i)
def tops : Nat → Bool := fun _ => true
def cM (M : Nat → Nat → Bool) : Nat → (Nat → Bool) → Nat → Nat
  | _, _, 0 => 1
  | 0, _, _ + 1 => 0
  | n + 1, av, k + 1 => cM M n av (k + 1) + csum fun c => if M n c then (if av c then cM M n (cwo av c) k else 0) else 0
theorem cM_zero (M : Nat → Nat → Bool) (n : Nat) (av : Nat → Bool) : cM M n av 0 = 1 := by cases n <;> rfl

theorem cM_congr {M M' : Nat → Nat → Bool} : ∀ (n : Nat) (av av' : Nat → Bool) (k : Nat), (∀ a, a < n → ∀ c, c < 6 → (M a c && av c) = (M' a c && av' c)) → cM M n av k = cM M' n av' k
  | _, _, _, 0, _ => by rw [cM_zero, cM_zero]
  | 0, _, _, _ + 1, _ => rfl
  | n + 1, av, av', k + 1, h => by
    rw [cM, cM, cM_congr n av av' (k + 1) (fun a ha => h a (by omega))]
    congr 1
    refine csum_congr fun c hc => ?_
    have e := h n (by omega) c hc
    have ih := cM_congr n (cwo av c) (cwo av' c) k (fun a ha d hd => by
      have := h a (by omega) d hd
      unfold cwo
      rw [← Bool.and_assoc, ← Bool.and_assoc, this])
    rw [ih]
    cases h1 : M n c <;> cases h2 : M' n c <;> cases h3 : av c <;> cases h4 : av' c <;> rw [h1, h2, h3, h4] at e <;> first | rfl | cases e

theorem cM_none : ∀ (M : Nat → Nat → Bool) (n : Nat) (av : Nat → Bool) (k : Nat), (∀ a, a < n → ∀ c, c < 6 → M a c = false) → cM M n av (k + 1) = 0
  | _, 0, _, _, _ => rfl
  | M, n + 1, av, k, h => by
    rw [cM, cM_none M n av k (fun a ha => h a (by omega))]
    have : (csum fun c => if M n c then (if av c then cM M n (cwo av c) k else 0) else 0) = csum fun _ => 0 := csum_congr fun c hc => by rw [h n (by omega) c hc]; rfl
    rw [this]; rfl

theorem nsum_csum (f : Nat → Nat → Nat) : ∀ n, nsum (fun i => csum (f i)) n = csum fun c => nsum (fun i => f i c) n
  | 0 => rfl
  | n + 1 => by simp only [nsum]; rw [nsum_csum f n, ← csum_add]

theorem cwo_swap (av : Nat → Bool) (i j : Nat) : cwo (cwo av i) j = cwo (cwo av j) i := by
  funext c; unfold cwo; cases av c <;> cases decide (c = i) <;> cases decide (c = j) <;> rfl
theorem rwo_last (M : Nat → Nat → Bool) (n : Nat) (av : Nat → Bool) (k : Nat) : cM (rwo M n) (n + 1) av k = cM M n av k := by
  cases k with
  | zero => rw [cM_zero, cM_zero]
  | succ k =>
    rw [cM]
    have : (csum fun c => if rwo M n n c then (if av c then cM (rwo M n) n (cwo av c) k else 0) else 0) = csum fun _ => 0 := csum_congr fun c _ => by unfold rwo; simp
    rw [this]
    show cM (rwo M n) n av (k + 1) + 0 = _
    rw [Nat.add_zero]
    exact cM_congr n av av (k + 1) fun a ha c _ => by unfold rwo; simp [show ¬ a = n by omega]
theorem csum_split (g : Nat → Nat) (p av : Nat → Bool) (j : Nat) (hj : j < 6) (hav : av j = true) :
    (csum fun c => if p c then (if av c then g c else 0) else 0) = (csum fun c => if p c then (if cwo av j c then g c else 0) else 0) + if p j then g j else 0 := by
  have := csum_one j hj (if p j then g j else 0)
  rw [← this, ← csum_add]
  refine csum_congr fun c _ => ?_
  by_cases h : c = j
  · subst h; unfold cwo; simp [hav]
  · unfold cwo; simp [h]

/-- A column is taken away: no rook stands in it, or one does. -/
theorem cM_col (M : Nat → Nat → Bool) (j : Nat) (hj : j < 6) : ∀ (n : Nat) (av : Nat → Bool) (k : Nat), av j = true →
    cM M n av (k + 1) = cM M n (cwo av j) (k + 1) + nsum (fun i => if M i j then cM (rwo M i) n (cwo av j) k else 0) n
  | 0, _, _, _ => rfl
  | n + 1, av, 0, hav => by
    have ih := cM_col M j hj n av 0 hav
    rw [cM, cM, ih]
    simp only [cM_zero, nsum]
    rw [csum_split (fun _ => 1) (M n) av j hj hav]
    omega
  | n + 1, av, k + 1, hav => by
    have ih := cM_col M j hj n av (k + 1) hav
    rw [cM, cM, ih]
    simp only [nsum]
    rw [rwo_last, csum_split (fun c => cM M n (cwo av c) (k + 1)) (M n) av j hj hav]
    have e1 : (csum fun c => if M n c then (if cwo av j c then cM M n (cwo av c) (k + 1) else 0) else 0) =
        (csum fun c => if M n c then (if cwo av j c then cM M n (cwo (cwo av j) c) (k + 1) else 0) else 0) +
        csum fun c => nsum (fun i => if M i j then (if M n c then (if cwo av j c then cM (rwo M i) n (cwo (cwo av j) c) k else 0) else 0) else 0) n := by
      rw [← csum_add]
      refine csum_congr fun c _ => ?_
      cases h1 : M n c with
      | false => simp [nsum_zero]
      | true =>
        cases h2 : cwo av j c with
        | false => simp [nsum_zero]
        | true =>
          have hcj : cwo av c j = true := by
            unfold cwo at h2 ⊢
            by_cases e : c = j
            · simp [e] at h2
            · simp [hav]; exact fun e' => e e'.symm
          have ih2 := cM_col M j hj n (cwo av c) k hcj
          simp only [if_true]
          rw [ih2, cwo_swap av c j]
    have e2 : nsum (fun i => if M i j then cM (rwo M i) (n + 1) (cwo av j) (k + 1) else 0) n =
        nsum (fun i => if M i j then cM (rwo M i) n (cwo av j) (k + 1) else 0) n +
        nsum (fun i => csum fun c => if M i j then (if M n c then (if cwo av j c then cM (rwo M i) n (cwo (cwo av j) c) k else 0) else 0) else 0) n := by
      rw [← nsum_add]
      refine nsum_congr n fun i hi => ?_
      cases h1 : M i j with
      | false => simp [csum_zero]
      | true =>
        simp only [if_true]
        rw [cM]
        congr 1
        refine csum_congr fun c _ => ?_
        have : rwo M i n c = M n c := by unfold rwo; simp [show ¬ n = i by omega]
        rw [this]
    rw [e1, e2, nsum_csum]
    omega

theorem nsum_csum6 (f : Nat → Nat) (n : Nat) (hn : n ≤ 6) (h : ∀ i, n ≤ i → f i = 0) : nsum f n = csum f := by
  unfold csum
  obtain rfl | rfl | rfl | rfl | rfl | rfl | rfl : n = 0 ∨ n = 1 ∨ n = 2 ∨ n = 3 ∨ n = 4 ∨ n = 5 ∨ n = 6 := by omega
  all_goals
    have h0 := h 0; have h1 := h 1; have h2 := h 2; have h3 := h 3; have h4 := h 4; have h5 := h 5
    simp only [nsum]
    simp at h0 h1 h2 h3 h4 h5
    omega

/-- Rows with columns. -/
theorem cM_over (n : Nat) (hn : n ≤ 6) : ∀ (m : Nat) (M : Nat → Nat → Bool) (k : Nat), m ≤ 6 → (∀ a c, n ≤ a ∨ m ≤ c → M a c = false) → cM M n tops k = cM (fun a b => M b a) m tops k
  | m, M, 0, _, _ => by rw [cM_zero, cM_zero]
  | 0, M, k + 1, _, h => by rw [cM_none M n tops k (fun a _ c _ => h a c (.inr (Nat.zero_le _)))]; rfl
  | m + 1, M, k + 1, hm, h => by
    have e0 := cM_col M m (by omega) n tops k rfl
    rw [e0, cM]
    have ih := fun (M' : Nat → Nat → Bool) k h' => cM_over n hn m M' k (by omega) h'
    have M0h : ∀ a c, n ≤ a ∨ m ≤ c → (M a c && !decide (c = m)) = false := fun a c hac => by
      by_cases e : c = m
      · simp [e]
      · rw [h a c (by omega)]; rfl
    have e1 : cM M n (cwo tops m) (k + 1) = cM (fun a b => M b a) m tops (k + 1) := by
      rw [cM_congr (M' := fun a c => M a c && !decide (c = m)) n (cwo tops m) tops (k + 1) (fun a _ c _ => by simp [cwo, tops]), ih _ _ M0h]
      exact cM_congr m tops tops (k + 1) fun a ha c _ => by simp [tops, show ¬ a = m by omega]
    have e2 : ∀ i, i < n → cM (rwo M i) n (cwo tops m) k = cM (fun a b => M b a) m (cwo tops i) k := fun i hi => by
      rw [cM_congr (M' := fun a c => (M a c && !decide (c = m)) && !decide (a = i)) n (cwo tops m) tops k (fun a _ c _ => by
        simp only [cwo, tops, rwo]; cases M a c <;> cases decide (c = m) <;> cases decide (a = i) <;> rfl), ih _ _ (fun a c hac => by rw [M0h a c hac]; rfl)]
      exact cM_congr m tops (cwo tops i) k fun a ha c _ => by simp [tops, cwo, show ¬ a = m by omega]
    rw [e1]
    congr 1
    rw [← nsum_csum6 _ n hn (fun i hi => by rw [h i m (.inl hi)]; rfl)]
    exact nsum_congr n fun i hi => by rw [e2 i hi]; simp [tops]

/-- Columns exchanged. -/
def sw (i j c : Nat) : Nat := if c = i then j else if c = j then i else c
theorem csum_sw (i j : Nat) (hi : i < 6) (hj : j < 6) (f : Nat → Nat) : (csum fun c => f (sw i j c)) = csum f := by
  obtain rfl | rfl | rfl | rfl | rfl | rfl : i = 0 ∨ i = 1 ∨ i = 2 ∨ i = 3 ∨ i = 4 ∨ i = 5 := by omega
  all_goals
    obtain rfl | rfl | rfl | rfl | rfl | rfl : j = 0 ∨ j = 1 ∨ j = 2 ∨ j = 3 ∨ j = 4 ∨ j = 5 := by omega
    all_goals
      simp [csum, sw]
      try omega
theorem sw_sw (i j c : Nat) : sw i j (sw i j c) = c := by unfold sw; split <;> split <;> (try split) <;> omega
theorem sw_eq (i j c d : Nat) : sw i j c = sw i j d ↔ c = d := ⟨fun h => by rw [← sw_sw i j c, h, sw_sw], fun h => by rw [h]⟩
theorem cM_sw (i j : Nat) (hi : i < 6) (hj : j < 6) (M : Nat → Nat → Bool) : ∀ (n : Nat) (av : Nat → Bool) (k : Nat),
    cM (fun a c => M a (sw i j c)) n (fun c => av (sw i j c)) k = cM M n av k
  | _, _, 0 => by rw [cM_zero, cM_zero]
  | 0, _, _ + 1 => rfl
  | n + 1, av, k + 1 => by
    rw [cM, cM, cM_sw i j hi hj M n av (k + 1)]
    congr 1
    rw [← csum_sw i j hi hj (fun c => if M n c then (if av c then cM M n (cwo av c) k else 0) else 0)]
    refine csum_congr fun c _ => ?_
    have : cwo (fun d => av (sw i j d)) c = fun d => cwo av (sw i j c) (sw i j d) := by
      funext d; unfold cwo; simp [sw_eq]
    rw [this, cM_sw i j hi hj M n (cwo av (sw i j c)) k]

/-! ### the rook numbers -/
def mat (bs : List Nat) : Nat → Nat → Bool := fun i c => (bs.getD i 0).testBit c
theorem cM_cnt (bs : List Nat) : ∀ (n u k : Nat), n ≤ bs.length → cM (mat bs) n (fun c => !u.testBit c) k = cnt (bs.take n).reverse u k
  | _, _, 0, _ => by rw [cM_zero, cnt_zero]
  | 0, _, _ + 1, _ => rfl
  | n + 1, u, k + 1, h => by
    rw [take_succ' bs n (by omega), List.reverse_append, List.reverse_cons, List.reverse_nil, List.nil_append, List.cons_append, List.nil_append, cnt, cM, cM_cnt bs n u (k + 1) (by omega)]
    congr 1
    refine csum_congr fun c _ => ?_
    have e : cwo (fun c => !u.testBit c) c = fun d => !(u ||| 2 ^ c).testBit d := by
      funext d
      unfold cwo
      rw [Nat.testBit_or, Nat.testBit_two_pow]
      by_cases h : c = d
      · subst h; simp
      · have h' : ¬ d = c := fun x => h x.symm
        simp [h, h']
    have e2 : mat bs n c = (bs[n]'(by omega)).testBit c := by unfold mat; rw [getD_at (by omega)]
    rw [e, cM_cnt bs n _ k (by omega), e2]
    unfold free
    cases (bs[n]'(by omega)).testBit c <;> cases u.testBit c <;> rfl

theorem free_swap (a b u c d : Nat) : (free a u c && free b (u ||| 2 ^ c) d) = (free b u d && free a (u ||| 2 ^ d) c) := by
  unfold free
  rw [Nat.testBit_or, Nat.testBit_or, Nat.testBit_two_pow, Nat.testBit_two_pow]
  by_cases h : c = d
  · subst h; simp
  · have h' : ¬ d = c := fun x => h x.symm
    simp [h, h']
    cases a.testBit c <;> cases b.testBit d <;> cases u.testBit c <;> cases u.testBit d <;> rfl
theorem cnt_swap (a b : Nat) (rs : List Nat) (u k : Nat) : cnt (a :: b :: rs) u k = cnt (b :: a :: rs) u k := by
  match k with
  | 0 => rw [cnt_zero, cnt_zero]
  | 1 =>
    simp only [cnt, cnt_zero]
    omega
  | k + 2 =>
    have key : ∀ a b : Nat, cnt (a :: b :: rs) u (k + 2) = cnt rs u (k + 2) + (csum fun c => if free b u c then cnt rs (u ||| 2 ^ c) (k + 1) else 0) + (csum fun c => if free a u c then cnt rs (u ||| 2 ^ c) (k + 1) else 0) +
        csum fun c => csum fun d => if free a u c && free b (u ||| 2 ^ c) d then cnt rs (u ||| 2 ^ c ||| 2 ^ d) k else 0 := fun a b => by
      rw [cnt, cnt]
      have e : (csum fun c => if free a u c then cnt (b :: rs) (u ||| 2 ^ c) (k + 1) else 0) = (csum fun c => if free a u c then cnt rs (u ||| 2 ^ c) (k + 1) else 0) +
          csum fun c => csum fun d => if free a u c && free b (u ||| 2 ^ c) d then cnt rs (u ||| 2 ^ c ||| 2 ^ d) k else 0 := by
        rw [← csum_add]
        refine csum_congr fun c _ => ?_
        cases h : free a u c with
        | false => simp [csum_zero]
        | true => simp only [if_true, Bool.true_and]; rw [cnt]
      rw [e]
      show _ = cnt rs u (k + 1 + 1) + _ + _ + _
      omega
    rw [key a b, key b a]
    have e : (csum fun c => csum fun d => if free a u c && free b (u ||| 2 ^ c) d then cnt rs (u ||| 2 ^ c ||| 2 ^ d) k else 0) =
        csum fun c => csum fun d => if free b u c && free a (u ||| 2 ^ c) d then cnt rs (u ||| 2 ^ c ||| 2 ^ d) k else 0 := by
      rw [csum_swap]
      refine csum_congr fun c _ => csum_congr fun d _ => ?_
      rw [free_swap, Nat.or_assoc, Nat.or_comm (2 ^ d), ← Nat.or_assoc]
    rw [e]; omega
theorem cnt_perm {rs rs' : List Nat} (h : rs.Perm rs') : ∀ u k, cnt rs u k = cnt rs' u k := by
  induction h with
  | nil => intro u k; rfl
  | cons x _ ih =>
    intro u k
    cases k with
    | zero => rw [cnt_zero, cnt_zero]
    | succ k => rw [cnt, cnt, ih u (k + 1)]; congr 1; exact csum_congr fun c _ => by rw [ih]
  | swap x y l => intro u k; exact cnt_swap y x l u k
  | trans _ _ ih1 ih2 => intro u k; rw [ih1, ih2]
theorem cnt_mat (bs : List Nat) (k : Nat) : cnt bs 0 k = cM (mat bs) bs.length tops k := by
  have := cM_cnt bs bs.length 0 k (Nat.le_refl _)
  rw [List.take_length, cnt_perm (List.reverse_perm bs)] at this
  rw [← this]
  congr 1
  funext c; simp [tops]

/-- The same rook numbers: the same hit numbers. -/
theorem hits_of_rooks {a b : List Nat} (ha : IsBoard a) (hb : IsBoard b) (hl : a.length = b.length) (h : numL a 0 = numL b 0) : hitsL a = hitsL b := by
  have h1 := ha.pos
  have h6 := ha.le
  have A := fun k hk => hits_rooks a ha.le ha.row k hk
  have B := fun k hk => hits_rooks b hb.le hb.row k hk
  have E : ∀ k, k ≤ a.length → nsum (fun m => (hitsL a).getD m 0 * choose m k) (a.length + 1) = nsum (fun m => (hitsL b).getD m 0 * choose m k) (a.length + 1) := fun k hk => by
    rw [A k hk]
    have := B k (by omega)
    rw [← hl] at this
    rw [this, h]
  refine getD_ext (by rw [hitsL_length, hitsL_length, hl]) fun m hm => ?_
  rw [hitsL_length] at hm
  clear A B
  have key : ∀ d m, m + d = a.length → (hitsL a).getD m 0 = (hitsL b).getD m 0 := by
    intro d
    induction d using Nat.strongRecOn with
    | _ d ih =>
      intro m hm
      have := E m (by omega)
      have hup : ∀ j, j ≤ d → ∀ f g : Nat → Nat, (∀ i, m < i → i ≤ m + j → f i = g i) → (∀ i, i < m → f i = 0) → (∀ i, i < m → g i = 0) → nsum f (m + j + 1) = nsum g (m + j + 1) → f m = g m := by
        intro j
        induction j with
        | zero =>
          intro _ f g _ hf hg he
          have e1 : nsum f m = 0 := (nsum_congr (f := f) (g := fun _ => 0) m hf).trans (nsum_zero m)
          have e2 : nsum g m = 0 := (nsum_congr (f := g) (g := fun _ => 0) m hg).trans (nsum_zero m)
          have he' : nsum f m + f m = nsum g m + g m := he
          omega
        | succ j ihj =>
          intro hj f g hfg hf hg he
          refine ihj (by omega) f g (fun i h1 h2 => hfg i h1 (by omega)) hf hg ?_
          have e2 := hfg (m + (j + 1)) (by omega) (by omega)
          have he' : nsum f (m + j + 1) + f (m + j + 1) = nsum g (m + j + 1) + g (m + j + 1) := he
          have e3 : f (m + j + 1) = g (m + j + 1) := e2
          omega
      have r := hup d (Nat.le_refl _) (fun i => (hitsL a).getD i 0 * choose i m) (fun i => (hitsL b).getD i 0 * choose i m) (fun i h1 h2 => by
        show _ * _ = _ * _
        rw [ih (a.length - i) (by omega) i (by omega)]) (fun i hi => by show _ * _ = 0; rw [choose_gt i m hi, Nat.mul_zero]) (fun i hi => by show _ * _ = 0; rw [choose_gt i m hi, Nat.mul_zero]) (by rw [hm]; exact this)
      have hc : ∀ n, choose n n = 1 := by
        intro n
        induction n with
        | zero => rfl
        | succ n ih => rw [choose, ih, choose_gt n (n + 1) (by omega)]
      have r' : (hitsL a).getD m 0 * choose m m = (hitsL b).getD m 0 * choose m m := r
      rw [hc, Nat.mul_one, Nat.mul_one] at r'
      exact r'
  exact key (a.length - m) m (by omega)
end Go.Proofs.YtlpnicfbgdfbnaaDoor
