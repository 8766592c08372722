/- The hit numbers as plain lists, and the law that ties them to the rook numbers. -/
import Derived.Test.YtlpnicfbgdfbnaaDoorCp
import Derived.Test.YtlpnicfbgdfbnaaDoorPm
namespace Go.Proofs.YtlpnicfbgdfbnaaDoor

/-- One more at a place. -/
def inc (s : List Nat) (i : Nat) : List Nat := s.set i (s.getD i 0 + 1)
theorem inc_length (s : List Nat) (i : Nat) : (inc s i).length = s.length := by simp [inc]
theorem inc_getD (s : List Nat) (i m : Nat) (hi : i < s.length) : (inc s i).getD m 0 = s.getD m 0 + if i = m then 1 else 0 := by
  unfold inc
  by_cases h : i = m
  · subst h; simp [List.getD, hi]
  · simp [List.getD, h]

/-- The hit numbers. -/
def hitsFrom (bs : List Nat) (s : List Nat) (ls : List (List Nat)) : List Nat := ls.foldl (fun s l => inc s (hitN bs l)) s
def allP (n : Nat) : List (List Nat) := perms n (2 ^ n - 1)
def hitsL (bs : List Nat) : List Nat := hitsFrom bs (List.replicate (bs.length + 1) 0) (allP bs.length)

theorem hitsFrom_length (bs : List Nat) : ∀ (ls : List (List Nat)) (s : List Nat), (hitsFrom bs s ls).length = s.length
  | [], s => rfl
  | l :: ls, s => by
    have := hitsFrom_length bs ls (inc s (hitN bs l))
    rw [inc_length] at this
    exact this
theorem hitsL_length (bs : List Nat) : (hitsL bs).length = bs.length + 1 := by unfold hitsL; rw [hitsFrom_length]; simp

/-- How many lists hit m times. -/
def hcount (bs : List Nat) (m : Nat) (ls : List (List Nat)) : Nat := (ls.map fun l => if hitN bs l = m then 1 else 0).sum

theorem hitsFrom_getD (bs : List Nat) (m : Nat) : ∀ (ls : List (List Nat)) (s : List Nat), (∀ l ∈ ls, hitN bs l < s.length) → (hitsFrom bs s ls).getD m 0 = s.getD m 0 + hcount bs m ls
  | [], s, _ => by simp [hitsFrom, hcount]
  | l :: ls, s, h => by
    have ih := hitsFrom_getD bs m ls (inc s (hitN bs l)) (fun x hx => by rw [inc_length]; exact h x (List.mem_cons_of_mem _ hx))
    have e : hitsFrom bs s (l :: ls) = hitsFrom bs (inc s (hitN bs l)) ls := rfl
    rw [e, ih, inc_getD _ _ _ (h l List.mem_cons_self)]
    simp [hcount]; omega

theorem hitsL_getD (bs : List Nat) (m : Nat) : (hitsL bs).getD m 0 = hcount bs m (allP bs.length) := by
  unfold hitsL
  rw [hitsFrom_getD]
  · have : (List.replicate (bs.length + 1) 0).getD m 0 = 0 := by simp [List.getD, List.getElem?_replicate]; split <;> rfl
    omega
  · intro l hl
    have h1 := hitN_le bs l
    have h2 := perms_len _ _ _ hl
    simp; omega

theorem hcount_le (bs : List Nat) (m : Nat) : ∀ ls : List (List Nat), hcount bs m ls ≤ ls.length
  | [] => by simp [hcount]
  | l :: ls => by
    have := hcount_le bs m ls
    simp only [hcount, List.map_cons, List.sum_cons, List.length_cons] at this ⊢
    split <;> omega
theorem allP_length : ∀ n : Nat, n < 7 → (allP n).length ≤ 720 := by decide +kernel
theorem hitsL_le (bs : List Nat) (h : bs.length ≤ 6) (m : Nat) : (hitsL bs).getD m 0 ≤ 720 := by
  rw [hitsL_getD]; exact Nat.le_trans (hcount_le _ _ _) (allP_length _ (by omega))
theorem hitsFrom_le (bs : List Nat) (m : Nat) : ∀ (ls : List (List Nat)) (s : List Nat), (∀ l ∈ ls, hitN bs l < s.length) → (hitsFrom bs s ls).getD m 0 ≤ s.getD m 0 + ls.length := fun ls s h => by
  rw [hitsFrom_getD bs m ls s h]; have := hcount_le bs m ls; omega

/-! ### choosing of the hits -/
def choose : Nat → Nat → Nat
  | _, 0 => 1
  | 0, _ + 1 => 0
  | n + 1, k + 1 => choose n k + choose n (k + 1)
def fac : Nat → Nat
  | 0 => 1
  | n + 1 => (n + 1) * fac n
theorem choose_zero (n : Nat) : choose n 0 = 1 := by cases n <;> rfl
theorem choose_gt : ∀ n k, n < k → choose n k = 0
  | 0, k + 1, _ => rfl
  | n + 1, k + 1, h => by rw [choose, choose_gt n k (by omega), choose_gt n (k + 1) (by omega)]

theorem csum_mul (a : Nat) (f : Nat → Nat) : csum (fun c => a * f c) = a * csum f := by simp only [csum, Nat.mul_add]
theorem csum_swap (f : Nat → Nat → Nat) : csum (fun i => csum (fun j => f i j)) = csum (fun j => csum (fun i => f i j)) := by simp only [csum]; omega
theorem csum_zero : csum (fun _ => 0) = 0 := rfl

/-- The ways to place k rooks on some rows where some columns are left. -/
def cntR : List Nat → Nat → Nat → Nat
  | _, _, 0 => 1
  | [], _, _ + 1 => 0
  | r :: rs, s, k + 1 => cntR rs s (k + 1) + csum fun c => if s.testBit c then (if r.testBit c then cntR rs (diffS s (2 ^ c)) k else 0) else 0
theorem cntR_zero (rs : List Nat) (u : Nat) : cntR rs u 0 = 1 := by cases rs <;> rfl
theorem cntR_gt : ∀ (rs : List Nat) (s k : Nat), rs.length < k → cntR rs s k = 0
  | [], s, k + 1, _ => rfl
  | r :: rs, s, k + 1, h => by
    rw [cntR, cntR_gt rs s (k + 1) (by simp at h; omega)]
    have : (csum fun c => if s.testBit c then (if r.testBit c then cntR rs (diffS s (2 ^ c)) k else 0) else 0) = csum fun _ => 0 := csum_congr fun c _ => by
      rw [cntR_gt rs _ k (by simp at h; omega)]; simp
    rw [this]; rfl
def popS (s : Nat) : Nat := csum fun c => if s.testBit c then 1 else 0

theorem diffS_pow (s j c : Nat) : (diffS s (2 ^ j)).testBit c = (s.testBit c && !decide (c = j)) := by
  rw [diffS_bit]; unfold free
  rw [Nat.testBit_two_pow]
  by_cases h : j = c
  · subst h; simp
  · have h' : ¬ c = j := fun e => h e.symm
    simp [h, h']
theorem diffS_swap (s i j : Nat) : diffS (diffS s (2 ^ i)) (2 ^ j) = diffS (diffS s (2 ^ j)) (2 ^ i) := by
  refine Nat.eq_of_testBit_eq fun c => ?_
  rw [diffS_pow, diffS_pow, diffS_pow, diffS_pow]
  cases s.testBit c <;> cases decide (c = i) <;> cases decide (c = j) <;> rfl
theorem popS_del (s j : Nat) (hj : j < 6) (hb : s.testBit j = true) : popS (diffS s (2 ^ j)) + 1 = popS s := by
  unfold popS
  have e := csum_one j hj 1
  have : csum (fun c => if s.testBit c then 1 else 0) = csum (fun c => if (diffS s (2 ^ j)).testBit c then 1 else 0) + csum fun c => if c = j then 1 else 0 := ?_
  · rw [this, e]
  rw [← csum_add]
  refine csum_congr fun c _ => ?_
  rw [diffS_pow]
  by_cases h : c = j
  · subst h; simp [hb]
  · simp [h]

theorem cnt_cntR : ∀ (rs : List Nat) (u s k : Nat), (∀ r ∈ rs, ∀ c, c < 6 → r.testBit c = true → (!u.testBit c) = s.testBit c) → cnt rs u k = cntR rs s k
  | _, _, _, 0, _ => by rw [cnt_zero, cntR_zero]
  | [], _, _, _ + 1, _ => rfl
  | r :: rs, u, s, k + 1, h => by
    rw [cnt, cntR, cnt_cntR rs u s (k + 1) (fun x hx => h x (List.mem_cons_of_mem _ hx))]
    congr 1
    refine csum_congr fun c hc => ?_
    have hr := h r List.mem_cons_self c hc
    unfold free
    cases hb : r.testBit c with
    | false => simp
    | true =>
      have hr := hr hb
      cases hs : s.testBit c with
      | false => rw [hs] at hr; simp [hr]
      | true =>
        rw [hs] at hr
        simp only [hr, Bool.and_true, if_true]
        refine cnt_cntR rs _ _ k (fun x hx d hd hxd => ?_)
        have := h x (List.mem_cons_of_mem _ hx) d hd hxd
        rw [diffS_pow, Nat.testBit_or, Nat.testBit_two_pow, ← this]
        by_cases e : c = d
        · subst e; simp
        · have e' : ¬ d = c := fun x => e x.symm
          simp [e, e']

/-- Without any one column of those that are left: all but as many as there are rooks. -/
theorem cntR_del : ∀ (rs : List Nat) (s k : Nat), csum (fun j => if s.testBit j then cntR rs (diffS s (2 ^ j)) k else 0) + k * cntR rs s k = popS s * cntR rs s k
  | rs, s, 0 => by
    have : csum (fun j => if s.testBit j then cntR rs (diffS s (2 ^ j)) 0 else 0) = popS s := csum_congr fun j _ => by rw [cntR_zero]
    rw [this, cntR_zero]; omega
  | [], s, k + 1 => by
    have : csum (fun j => if s.testBit j then cntR [] (diffS s (2 ^ j)) (k + 1) else 0) = csum fun _ => 0 := csum_congr fun j _ => by simp [cntR]
    rw [this]; rfl
  | r :: rs, s, k + 1 => by
    have ih1 := cntR_del rs s (k + 1)
    have e1 : csum (fun j => if s.testBit j then cntR (r :: rs) (diffS s (2 ^ j)) (k + 1) else 0) =
        csum (fun j => if s.testBit j then cntR rs (diffS s (2 ^ j)) (k + 1) else 0) + csum (fun c => if s.testBit c then (if r.testBit c then csum (fun j => if (diffS s (2 ^ c)).testBit j then cntR rs (diffS (diffS s (2 ^ c)) (2 ^ j)) k else 0) else 0) else 0) := by
      have e2 : csum (fun c => if s.testBit c then (if r.testBit c then csum (fun j => if (diffS s (2 ^ c)).testBit j then cntR rs (diffS (diffS s (2 ^ c)) (2 ^ j)) k else 0) else 0) else 0) =
          csum (fun j => csum (fun c => if s.testBit c then (if r.testBit c then (if (diffS s (2 ^ c)).testBit j then cntR rs (diffS (diffS s (2 ^ c)) (2 ^ j)) k else 0) else 0) else 0)) := by
        rw [← csum_swap]
        refine csum_congr fun c _ => ?_
        by_cases h1 : s.testBit c = true <;> by_cases h2 : r.testBit c = true <;> simp [h1, h2, csum_zero]
      rw [e2, ← csum_add]
      refine csum_congr fun j _ => ?_
      by_cases h : s.testBit j = true
      · rw [if_pos h, if_pos h, cntR]
        congr 1
        refine csum_congr fun c _ => ?_
        rw [diffS_pow, diffS_pow, diffS_swap s c j]
        by_cases e : c = j
        · subst e; simp
        · have e' : ¬ j = c := fun x => e x.symm
          by_cases h1 : s.testBit c = true <;> by_cases h2 : r.testBit c = true <;> simp [h, h1, h2, e, e']
      · rw [if_neg h, if_neg h]
        have : csum (fun c => if s.testBit c then (if r.testBit c then (if (diffS s (2 ^ c)).testBit j then cntR rs (diffS (diffS s (2 ^ c)) (2 ^ j)) k else 0) else 0) else 0) = csum fun _ => 0 :=
          csum_congr fun c _ => by rw [diffS_pow]; simp [h]
        rw [this]; rfl
    obtain ⟨T, hT⟩ : ∃ T, (csum fun c => if s.testBit c then (if r.testBit c then cntR rs (diffS s (2 ^ c)) k else 0) else 0) = T := ⟨_, rfl⟩
    have e3 : csum (fun c => if s.testBit c then (if r.testBit c then csum (fun j => if (diffS s (2 ^ c)).testBit j then cntR rs (diffS (diffS s (2 ^ c)) (2 ^ j)) k else 0) else 0) else 0) + (k + 1) * T = popS s * T := by
      rw [← hT, ← csum_mul, ← csum_mul, ← csum_add]
      refine csum_congr fun c hc => ?_
      by_cases h1 : s.testBit c = true <;> by_cases h2 : r.testBit c = true <;> simp only [h1, h2, if_true, if_false, Nat.mul_zero, Nat.add_zero, Bool.false_eq_true]
      have ih2 := cntR_del rs (diffS s (2 ^ c)) k
      have hp := popS_del s c hc h1
      rw [← hp, Nat.add_mul, Nat.add_mul, Nat.one_mul]
      omega
    rw [e1, cntR, hT, Nat.mul_add, Nat.mul_add]
    omega

/-- With how many ways to choose of the hits. -/
def hsum (bs : List Nat) (d s k : Nat) : Nat := ((perms d s).map fun p => choose (hitN bs p) k).sum

theorem elems_csum (s : Nat) (hs : s < 64) (g : Nat → Nat) : ((elems s).map g).sum = csum fun c => if s.testBit c then g c else 0 := by
  have := elems_sum s 0 hs g
  have e : diffS s 0 = s := by simp [diffS]
  rw [e] at this
  rw [this]
  exact csum_congr fun c _ => by simp [free]

theorem sum_flatMap (f : List Nat → Nat) (g : Nat → List (List Nat)) : ∀ l : List Nat, ((l.flatMap g).map f).sum = (l.map fun j => ((g j).map f).sum).sum
  | [] => rfl
  | x :: l => by simp [List.flatMap_cons, sum_flatMap f g l]
theorem sum_add (f g : List Nat → Nat) : ∀ l : List (List Nat), (l.map fun p => f p + g p).sum = (l.map f).sum + (l.map g).sum
  | [] => rfl
  | x :: l => by simp [sum_add f g l]; omega

theorem hsum_step (r : Nat) (rs : List Nat) (d s k : Nat) (hs : s < 64) :
    hsum (r :: rs) (d + 1) s (k + 1) = csum fun j => if s.testBit j then hsum rs d (diffS s (2 ^ j)) (k + 1) + (if r.testBit j then hsum rs d (diffS s (2 ^ j)) k else 0) else 0 := by
  unfold hsum
  rw [perms, sum_flatMap, elems_csum s hs]
  refine csum_congr fun j _ => ?_
  by_cases h : s.testBit j = true
  · rw [if_pos h, if_pos h, List.map_map]
    by_cases hr : r.testBit j = true
    · rw [if_pos hr, ← sum_add]
      congr 1
      refine List.map_congr_left fun p _ => ?_
      simp only [Function.comp, hitN, hr, if_true]
      rw [Nat.add_comm 1, choose]; omega
    · rw [if_neg hr]
      simp only [Nat.add_zero]
      congr 1
      refine List.map_congr_left fun p _ => ?_
      simp [Function.comp, hitN, hr]
  · rw [if_neg h, if_neg h]
theorem hsum_step0 (r : Nat) (rs : List Nat) (d s : Nat) (hs : s < 64) :
    hsum (r :: rs) (d + 1) s 0 = csum fun j => if s.testBit j then hsum rs d (diffS s (2 ^ j)) 0 else 0 := by
  unfold hsum
  rw [perms, sum_flatMap, elems_csum s hs]
  refine csum_congr fun j _ => ?_
  by_cases h : s.testBit j = true
  · rw [if_pos h, if_pos h, List.map_map]
    congr 1
    exact List.map_congr_left fun p _ => by simp [choose_zero]
  · rw [if_neg h, if_neg h]

theorem hsum_gt (bs : List Nat) (d s k : Nat) (h : d < k) : hsum bs d s k = 0 := by
  unfold hsum
  have : ∀ ls : List (List Nat), (∀ l ∈ ls, l.length = d) → (ls.map fun p => choose (hitN bs p) k).sum = 0 := by
    intro ls
    induction ls with
    | nil => intro _; rfl
    | cons l ls ih =>
      intro hl
      rw [List.map_cons, List.sum_cons, ih (fun x hx => hl x (List.mem_cons_of_mem _ hx)), choose_gt]
      have := hitN_le bs l
      have := hl l List.mem_cons_self
      omega
  exact this _ (fun l hl => perms_len d s l hl)

/-- **THE LAW OF THE HITS**. -/
theorem hsum_cnt : ∀ (rs : List Nat) (d s k : Nat), rs.length = d → s < 64 → popS s = d → k ≤ d → hsum rs d s k = cntR rs s k * fac (d - k)
  | [], 0, s, k, _, _, _, hk => by
    obtain rfl : k = 0 := by omega
    simp [hsum, perms, choose_zero, cntR_zero, fac]
  | r :: rs, d + 1, s, 0, hl, hs, hp, _ => by
    rw [hsum_step0 _ _ _ _ hs, cntR_zero]
    have : (csum fun j => if s.testBit j then hsum rs d (diffS s (2 ^ j)) 0 else 0) = csum fun j => fac d * (if s.testBit j then 1 else 0) := csum_congr fun j hj => by
      by_cases h : s.testBit j = true
      · rw [if_pos h, if_pos h, hsum_cnt rs d _ 0 (by simpa using hl) (diffS_lt6 hs) (by have := popS_del s j hj h; omega) (by omega), cntR_zero]; simp
      · rw [if_neg h, if_neg h]; rfl
    rw [this, csum_mul]
    have h2 : (csum fun j => if s.testBit j then 1 else 0) = d + 1 := hp
    rw [h2]
    simp only [Nat.sub_zero, fac, Nat.one_mul]
    exact Nat.mul_comm _ _
  | r :: rs, d + 1, s, k + 1, hl, hs, hp, hk => by
    have hl' : rs.length = d := by simpa using hl
    rw [hsum_step _ _ _ _ _ hs, cntR, show d + 1 - (k + 1) = d - k by omega]
    have e0 : (csum fun j => if s.testBit j then hsum rs d (diffS s (2 ^ j)) (k + 1) + (if r.testBit j then hsum rs d (diffS s (2 ^ j)) k else 0) else 0) =
        csum (fun j => if s.testBit j then hsum rs d (diffS s (2 ^ j)) (k + 1) else 0) + fac (d - k) * csum (fun j => if s.testBit j then (if r.testBit j then cntR rs (diffS s (2 ^ j)) k else 0) else 0) := by
      rw [← csum_mul, ← csum_add]
      refine csum_congr fun j hj => ?_
      by_cases h : s.testBit j = true
      · simp only [h, if_true]
        congr 1
        by_cases hr : r.testBit j = true
        · simp only [hr, if_true]
          rw [hsum_cnt rs d _ k hl' (diffS_lt6 hs) (by have := popS_del s j hj h; omega) (by omega), Nat.mul_comm]
        · simp [hr]
      · simp [h]
    rw [e0, Nat.add_mul, Nat.mul_comm (fac (d - k))]
    congr 1
    by_cases h : k + 1 ≤ d
    · have e1 : csum (fun j => if s.testBit j then hsum rs d (diffS s (2 ^ j)) (k + 1) else 0) = fac (d - (k + 1)) * csum (fun j => if s.testBit j then cntR rs (diffS s (2 ^ j)) (k + 1) else 0) := by
        rw [← csum_mul]
        refine csum_congr fun j hj => ?_
        by_cases hb : s.testBit j = true
        · simp only [hb, if_true]
          rw [hsum_cnt rs d _ (k + 1) hl' (diffS_lt6 hs) (by have := popS_del s j hj hb; omega) h, Nat.mul_comm]
        · simp [hb]
      have h2 := cntR_del rs s (k + 1)
      rw [hp] at h2
      obtain ⟨q, hq⟩ : ∃ q, d - k = q + 1 := ⟨d - k - 1, by omega⟩
      have h3 : csum (fun j => if s.testBit j then cntR rs (diffS s (2 ^ j)) (k + 1) else 0) = (q + 1) * cntR rs s (k + 1) := by
        have : d + 1 = (q + 1) + (k + 1) := by omega
        rw [this, Nat.add_mul (q + 1)] at h2
        exact Nat.add_right_cancel h2
      rw [e1, h3, hq, show d - (k + 1) = q by omega, fac]
      rw [Nat.mul_comm (fac q), Nat.mul_assoc, Nat.mul_left_comm]
    · have e1 : csum (fun j => if s.testBit j then hsum rs d (diffS s (2 ^ j)) (k + 1) else 0) = csum fun _ => 0 := csum_congr fun j _ => by
        rw [hsum_gt rs d _ (k + 1) (by omega)]; simp
      rw [e1, csum_zero, cntR_gt rs s (k + 1) (by omega)]; simp

/-- A sum over the first numbers. -/
def nsum (f : Nat → Nat) : Nat → Nat
  | 0 => 0
  | n + 1 => nsum f n + f n
theorem nsum_add (f g : Nat → Nat) : ∀ n, nsum (fun m => f m + g m) n = nsum f n + nsum g n
  | 0 => rfl
  | n + 1 => by simp only [nsum]; rw [nsum_add f g n]; omega
theorem nsum_congr {f g : Nat → Nat} : ∀ n, (∀ m, m < n → f m = g m) → nsum f n = nsum g n
  | 0, _ => rfl
  | n + 1, h => by simp only [nsum]; rw [nsum_congr n (fun m hm => h m (by omega)), h n (by omega)]
theorem nsum_one (x : Nat) (f : Nat → Nat) : ∀ n, nsum (fun m => if x = m then f m else 0) n = if x < n then f x else 0
  | 0 => rfl
  | n + 1 => by
    simp only [nsum]
    rw [nsum_one x f n]
    by_cases h : x = n
    · subst h; simp
    · by_cases h2 : x < n
      · simp [h, h2, show x < n + 1 by omega]
      · simp [h, h2, show ¬ x < n + 1 by omega]
theorem nsum_zero : ∀ n, nsum (fun _ => 0) n = 0
  | 0 => rfl
  | n + 1 => by simp only [nsum]; rw [nsum_zero n]
theorem nsum_le {f : Nat → Nat} {M : Nat} : ∀ n, (∀ m, m < n → f m ≤ M) → nsum f n ≤ n * M
  | 0, _ => by simp [nsum]
  | n + 1, h => by
    have := nsum_le n (fun m hm => h m (by omega))
    have := h n (by omega)
    simp only [nsum]; rw [Nat.succ_mul]; omega

theorem hcount_choose (bs : List Nat) (n k : Nat) : ∀ ls : List (List Nat), (∀ l ∈ ls, hitN bs l < n) → nsum (fun m => hcount bs m ls * choose m k) n = (ls.map fun p => choose (hitN bs p) k).sum
  | [], _ => by
    have : nsum (fun m => hcount bs m [] * choose m k) n = nsum (fun _ => 0) n := nsum_congr n fun m _ => by simp [hcount]
    rw [this, nsum_zero]; rfl
  | l :: ls, h => by
    have ih := hcount_choose bs n k ls (fun x hx => h x (List.mem_cons_of_mem _ hx))
    have h1 : nsum (fun m => hcount bs m (l :: ls) * choose m k) n = nsum (fun m => (if hitN bs l = m then choose m k else 0) + hcount bs m ls * choose m k) n := nsum_congr n fun m _ => by
      simp only [hcount, List.map_cons, List.sum_cons, Nat.add_mul]
      congr 1
      split <;> simp
    rw [h1, nsum_add, ih, nsum_one, if_pos (h l List.mem_cons_self)]
    simp

theorem all_bit : ∀ n : Nat, n < 7 → ∀ c : Nat, c < 8 → (2 ^ n - 1).testBit c = decide (c < n) := by decide +kernel
theorem all_pop : ∀ n : Nat, n < 7 → popS (2 ^ n - 1) = n ∧ 2 ^ n - 1 < 64 ∧ pop (2 ^ n - 1) = n := by decide +kernel

theorem row_bit {n r c : Nat} (h : r < 2 ^ n) (hb : r.testBit c = true) : c < n := Nat.lt_of_not_le fun hc => by
  rw [Nat.testBit_lt_two_pow (Nat.lt_of_lt_of_le h (Nat.pow_le_pow_right (by decide) hc))] at hb; cases hb

/-- The hit numbers with how many ways there are to choose sum to the rook numbers times a factorial. -/
theorem hits_rooks (bs : List Nat) (h6 : bs.length ≤ 6) (hr : ∀ r ∈ bs, r < 2 ^ bs.length) (k : Nat) (hk : k ≤ bs.length) :
    nsum (fun m => (hitsL bs).getD m 0 * choose m k) (bs.length + 1) = (numL bs 0).getD k 0 * fac (bs.length - k) := by
  have e1 : nsum (fun m => (hitsL bs).getD m 0 * choose m k) (bs.length + 1) = nsum (fun m => hcount bs m (allP bs.length) * choose m k) (bs.length + 1) := nsum_congr _ fun m _ => by rw [hitsL_getD]
  rw [e1, hcount_choose bs _ k (allP bs.length) (fun l hl => by
    have h1 := hitN_le bs l
    have h2 := perms_len _ _ _ hl
    omega)]
  obtain ⟨p1, p2, p3⟩ := all_pop bs.length (by omega)
  have e2 := hsum_cnt bs bs.length (2 ^ bs.length - 1) k rfl p2 p1 hk
  unfold hsum at e2
  unfold allP
  rw [e2]
  congr 1
  have h64 : ∀ r ∈ bs, r < 64 := fun r h => Nat.lt_of_lt_of_le (hr r h) (Nat.pow_le_pow_right (by decide) h6)
  rw [numL_cnt _ _ _ h64]
  symm
  refine cnt_cntR bs 0 _ k (fun r hrm c hc hb => ?_)
  rw [all_bit _ (by omega) c (by omega)]
  have := row_bit (hr r hrm) hb
  simp [this]

/-- What is hit of the other squares. -/
theorem perms_sub : ∀ (d s : Nat) (l : List Nat), s < 64 → l ∈ perms d s → ∀ c ∈ l, s.testBit c = true
  | 0, _, l, _, h => by simp [perms] at h; simp [h]
  | d + 1, s, l, hr, h => by
    simp only [perms, List.mem_flatMap, List.mem_map] at h
    obtain ⟨j, hj, l', h', rfl⟩ := h
    intro c hc
    rcases List.mem_cons.1 hc with rfl | hc
    · exact elems_bit hj
    · have := perms_sub d _ l' (diffS_lt6 hr) h' c hc
      rw [diffS_pow] at this
      simp at this
      exact this.1
theorem hitN_other (n : Nat) (f : Nat → Nat) : ∀ (bs l : List Nat), l.length = bs.length → (∀ r ∈ bs, ∀ c ∈ l, (f r).testBit c = !r.testBit c) → hitN bs l + hitN (bs.map f) l = bs.length
  | [], [], _, _ => rfl
  | [], _ :: _, h, _ => by simp at h
  | _ :: _, [], h, _ => by simp at h
  | r :: bs, c :: l, h, hf => by
    have ih := hitN_other n f bs l (by simpa using h) (fun r hr c hc => hf r (List.mem_cons_of_mem _ hr) c (List.mem_cons_of_mem _ hc))
    have := hf r List.mem_cons_self c List.mem_cons_self
    simp only [hitN, List.map_cons, this, List.length_cons]
    cases r.testBit c <;> simp <;> omega
theorem hcount_map (bs bs' : List Nat) (m m' : Nat) : ∀ ls : List (List Nat), (∀ l ∈ ls, (hitN bs l = m ↔ hitN bs' l = m')) → hcount bs m ls = hcount bs' m' ls
  | [], _ => rfl
  | l :: ls, h => by
    have ih := hcount_map bs bs' m m' ls (fun x hx => h x (List.mem_cons_of_mem _ hx))
    have := h l List.mem_cons_self
    simp only [hcount, List.map_cons, List.sum_cons] at ih ⊢
    rw [ih]
    congr 1
    simp only [this]
theorem other_bit : ∀ n : Nat, n < 7 → ∀ r : Nat, r < 64 → ∀ c : Nat, c < 6 → (!(decide (r < 2 ^ n) && decide (c < n)) || (otherRow n r).testBit c == !r.testBit c) = true := by decide +kernel
end Go.Proofs.YtlpnicfbgdfbnaaDoor
