/- The rook numbers counted one by one (cnt), and the cut: a square is taken away, or its row and its column are. -/
import Derived.Test.YtlpnicfbgdfbnaaDoorNm
import Derived.Test.YtlpnicfbgdfbnaaDoorBits
import Derived.Test.YtlpnicfbgdfbnaaDoorWo
namespace Go.Proofs.YtlpnicfbgdfbnaaDoor

/-- A sum over six columns. -/
def csum (f : Nat → Nat) : Nat := f 0 + f 1 + f 2 + f 3 + f 4 + f 5
theorem csum_add (f g : Nat → Nat) : csum (fun c => f c + g c) = csum f + csum g := by simp only [csum]; omega
theorem csum_congr {f g : Nat → Nat} (h : ∀ c, c < 6 → f c = g c) : csum f = csum g := by
  unfold csum; rw [h 0 (by omega), h 1 (by omega), h 2 (by omega), h 3 (by omega), h 4 (by omega), h 5 (by omega)]
theorem csum_one (j : Nat) (hj : j < 6) (x : Nat) : csum (fun c => if c = j then x else 0) = x := by
  unfold csum
  obtain rfl | rfl | rfl | rfl | rfl | rfl : j = 0 ∨ j = 1 ∨ j = 2 ∨ j = 3 ∨ j = 4 ∨ j = 5 := by omega
  all_goals simp

def free (r u c : Nat) : Bool := r.testBit c && !u.testBit c

/-- The ways to place k rooks on some rows where some columns are used. -/
def cnt : List Nat → Nat → Nat → Nat
  | _, _, 0 => 1
  | [], _, _ + 1 => 0
  | r :: rs, u, k + 1 => cnt rs u (k + 1) + csum fun c => if free r u c then cnt rs (u ||| 2 ^ c) k else 0

theorem cnt_zero (rs : List Nat) (u : Nat) : cnt rs u 0 = 1 := by cases rs <;> rfl

theorem sum_filter {α : Type} (p : α → Bool) (g : α → Nat) : ∀ l : List α, ((l.filter p).map g).sum = (l.map fun c => if p c then g c else 0).sum
  | [] => rfl
  | x :: l => by
    rw [List.filter_cons]
    by_cases h : p x <;> simp [h, sum_filter p g l]

theorem foldl_addSh_getD {α : Type} (f : α → List Nat) (k : Nat) : ∀ (l : List α) (cur : List Nat), k + 1 < cur.length →
    (l.foldl (fun out j => addSh out (f j)) cur).getD (k + 1) 0 = cur.getD (k + 1) 0 + (l.map fun j => (f j).getD k 0).sum
  | [], cur, _ => by simp
  | x :: l, cur, h => by
    rw [List.foldl_cons, foldl_addSh_getD f k l _ (by rw [addSh_length]; exact h), addSh_getD_succ _ _ _ h]
    simp; omega
theorem foldl_addSh_getD0 {α : Type} (f : α → List Nat) : ∀ (l : List α) (cur : List Nat), (l.foldl (fun out j => addSh out (f j)) cur).getD 0 0 = cur.getD 0 0
  | [], cur => by simp
  | x :: l, cur => by rw [List.foldl_cons, foldl_addSh_getD0 f l, addSh_getD_zero]

theorem diffS_bit (r u c : Nat) : (diffS r u).testBit c = free r u c := by
  unfold diffS free
  rw [Nat.testBit_xor, Nat.testBit_and]
  cases r.testBit c <;> cases u.testBit c <;> rfl

theorem bit_high {r c : Nat} (h : r < 64) (hc : 6 ≤ c) : r.testBit c = false :=
  Nat.testBit_lt_two_pow (Nat.lt_of_lt_of_le h (Nat.pow_le_pow_right (by decide) hc : 2 ^ 6 ≤ 2 ^ c))

theorem elems_sum (r u : Nat) (hr : r < 64) (g : Nat → Nat) : ((elems (diffS r u)).map g).sum = csum fun c => if free r u c then g c else 0 := by
  unfold elems
  rw [sum_filter]
  have e : List.range 8 = [0, 1, 2, 3, 4, 5, 6, 7] := by decide
  rw [e]
  simp only [List.map_cons, List.map_nil, List.sum_cons, List.sum_nil, diffS_bit]
  have h6 : free r u 6 = false := by unfold free; rw [bit_high hr (by omega)]; rfl
  have h7 : free r u 7 = false := by unfold free; rw [bit_high hr (by omega)]; rfl
  rw [h6, h7]
  unfold csum
  simp; omega

theorem getD_left {a b : List Nat} {i : Nat} (h : i < a.length) : (a ++ b).getD i 0 = a.getD i 0 := by simp [List.getD, List.getElem?_append_left h]
theorem getD_right {a b : List Nat} {i : Nat} (h : a.length ≤ i) : (a ++ b).getD i 0 = b.getD (i - a.length) 0 := by simp [List.getD, List.getElem?_append_right h]

theorem numL_cnt : ∀ (rs : List Nat) (u k : Nat), (∀ r ∈ rs, r < 64) → (numL rs u).getD k 0 = cnt rs u k
  | [], u, 0, _ => rfl
  | [], u, k + 1, _ => by simp [numL, cnt]
  | r :: rs, u, 0, h => by
    rw [numL, foldl_addSh_getD0, cnt_zero]
    have := numL_cnt rs u 0 (fun x hx => h x (List.mem_cons_of_mem _ hx))
    rw [cnt_zero] at this
    have hl := numL_length rs u
    rw [getD_left (by omega)]
    exact this
  | r :: rs, u, k + 1, h => by
    have ih := fun u k => numL_cnt rs u k (fun x hx => h x (List.mem_cons_of_mem _ hx))
    by_cases hk : k + 1 < rs.length + 2
    · rw [numL, foldl_addSh_getD _ _ _ _ (by simp [numL_length]; omega), elems_sum _ _ (h r List.mem_cons_self), cnt]
      have e1 : (numL rs u ++ [0]).getD (k + 1) 0 = cnt rs u (k + 1) := by
        rw [← ih]
        by_cases h2 : k + 1 < (numL rs u).length
        · rw [getD_left h2]
        · rw [getD_out (by omega : (numL rs u).length ≤ k + 1)]
          have := numL_length rs u
          rw [getD_right (by omega)]
          cases hh : k + 1 - (numL rs u).length <;> simp
      rw [e1]
      congr 1
      exact csum_congr fun c _ => by rw [ih]
    · rw [getD_out (by rw [numL_length]; simp; omega), cnt]
      have e1 : ∀ u k, rs.length < k → cnt rs u k = 0 := fun u k hk => by rw [← ih, getD_out (by rw [numL_length]; omega)]
      rw [e1 u (k + 1) (by omega)]
      have : csum (fun c => if free r u c = true then cnt rs (u ||| 2 ^ c) k else 0) = csum fun _ => 0 := csum_congr fun c _ => by rw [e1 _ k (by omega)]; simp
      rw [this]; rfl

/-- **THE CUT.** -/
def cutAt (rs : List Nat) (i j : Nat) : List Nat := rs.modify i (fun r => diffS r (2 ^ j))

theorem free_cut (r u j c : Nat) : free (diffS r (2 ^ j)) u c = (free r u c && !decide (c = j)) := by
  unfold free
  rw [diffS_bit]; unfold free
  rw [Nat.testBit_two_pow]
  by_cases h : j = c
  · subst h; simp
  · have h' : ¬ c = j := fun e => h e.symm
    simp [h, h']
theorem free_or (r u j c : Nat) : free r (u ||| 2 ^ j) c = (free r u c && !decide (c = j)) := by
  unfold free
  rw [Nat.testBit_or, Nat.testBit_two_pow]
  by_cases h : j = c
  · subst h; simp
  · have h' : ¬ c = j := fun e => h e.symm
    simp [h, h']
theorem or_swap (u a b : Nat) : u ||| a ||| b = u ||| b ||| a := by rw [Nat.or_assoc, Nat.or_comm a b, ← Nat.or_assoc]

theorem cnt_cut : ∀ (rs : List Nat) (i j u k : Nat), j < 6 → (h : i < rs.length) → rs[i].testBit j = true →
    cnt rs u (k + 1) = cnt (cutAt rs i j) u (k + 1) + if u.testBit j then 0 else cnt (rs.eraseIdx i) (u ||| 2 ^ j) k
  | [], i, j, u, k, _, h, _ => by simp at h
  | r :: rs, 0, j, u, k, hj, _, hb => by
    have hb : r.testBit j = true := hb
    simp only [cutAt, List.modify_zero_cons, List.eraseIdx_cons_zero]
    rw [cnt, cnt, Nat.add_assoc]
    congr 1
    rw [← csum_one j hj (if u.testBit j = true then 0 else cnt rs (u ||| 2 ^ j) k), ← csum_add]
    refine csum_congr fun c _ => ?_
    rw [free_cut]
    by_cases h : c = j
    · subst h
      by_cases hu : u.testBit c <;> simp [free, hb, hu]
    · simp [h]
  | r :: rs, i + 1, j, u, k, hj, h, hb => by
    have h' : i < rs.length := by simpa using h
    have hb' : rs[i].testBit j = true := hb
    have ih := fun u k => cnt_cut rs i j u k hj h' hb'
    have e1 : cutAt (r :: rs) (i + 1) j = r :: cutAt rs i j := rfl
    have e2 : (r :: rs).eraseIdx (i + 1) = r :: rs.eraseIdx i := rfl
    rw [e1, e2, cnt, cnt, ih u k]
    cases k with
    | zero =>
      have : (csum fun c => if free r u c = true then cnt rs (u ||| 2 ^ c) 0 else 0) = csum fun c => if free r u c = true then cnt (cutAt rs i j) (u ||| 2 ^ c) 0 else 0 := csum_congr fun c _ => by rw [cnt_zero, cnt_zero]
      rw [this, cnt_zero, cnt_zero]
      omega
    | succ k =>
      by_cases hu : u.testBit j = true
      · have : (csum fun c => if free r u c = true then cnt rs (u ||| 2 ^ c) (k + 1) else 0) = csum fun c => if free r u c = true then cnt (cutAt rs i j) (u ||| 2 ^ c) (k + 1) else 0 :=
          csum_congr fun c _ => by rw [ih]; simp [Nat.testBit_or, hu]
        rw [this]
        simp [hu]
      · rw [if_neg hu, if_neg hu, cnt]
        have : (csum fun c => if free r u c = true then cnt rs (u ||| 2 ^ c) (k + 1) else 0) = csum (fun c => (if free r u c = true then cnt (cutAt rs i j) (u ||| 2 ^ c) (k + 1) else 0) + if free r (u ||| 2 ^ j) c then cnt (rs.eraseIdx i) (u ||| 2 ^ j ||| 2 ^ c) k else 0) :=
          csum_congr fun c _ => by
            rw [ih, free_or, or_swap u (2 ^ j) (2 ^ c)]
            by_cases hf : free r u c = true
            · by_cases hc : c = j
              · subst hc; simp [hf, Nat.testBit_or]
              · simp [hf, hc, Nat.testBit_or, hu]
            · simp [hf]
        rw [this, csum_add]
        omega

/-! ### A column that is used may as well be deleted -/
theorem delcol_bit : ∀ r : Nat, r < 64 → ∀ j : Nat, j < 6 → ∀ c : Nat, c < 6 → (delcol j r).testBit c = if c < j then r.testBit c else r.testBit (c + 1) := by decide +kernel
theorem delcol_or1 : ∀ u : Nat, u < 64 → ∀ j : Nat, j < 6 → ∀ c : Nat, c < 6 → (!decide (c < j) || decide (delcol j u ||| 2 ^ c = delcol j (u ||| 2 ^ c))) = true := by decide +kernel
theorem delcol_or2 : ∀ u : Nat, u < 64 → ∀ j : Nat, j < 6 → ∀ c : Nat, c < 5 → (decide (c < j) || decide (delcol j u ||| 2 ^ c = delcol j (u ||| 2 ^ (c + 1)))) = true := by decide +kernel
theorem or_pow_lt {u c : Nat} (hu : u < 64) (hc : c < 6) : u ||| 2 ^ c < 64 := by
  have h2 : 2 ^ c < 2 ^ 6 := Nat.pow_lt_pow_right (by decide) hc
  have : u ||| 2 ^ c < 2 ^ 6 := Nat.or_lt_two_pow (by omega) h2
  omega

theorem cnt_del (j : Nat) (hj : j < 6) : ∀ (rs : List Nat) (u k : Nat), (∀ r ∈ rs, r < 64) → u < 64 → u.testBit j = true → cnt (rs.map (delcol j)) (delcol j u) k = cnt rs u k
  | _, _, 0, _, _, _ => by rw [cnt_zero, cnt_zero]
  | [], _, _ + 1, _, _, _ => rfl
  | r :: rs, u, k + 1, hr, hu, hb => by
    have hr0 := hr r List.mem_cons_self
    have ih := fun u k (hu : u < 64) (hb : u.testBit j = true) => cnt_del j hj rs u k (fun x hx => hr x (List.mem_cons_of_mem _ hx)) hu hb
    rw [List.map_cons, cnt, cnt, ih u _ hu hb]
    congr 1
    have key : ∀ c, c < 6 → (if free (delcol j r) (delcol j u) c = true then cnt (rs.map (delcol j)) (delcol j u ||| 2 ^ c) k else 0) =
        if c < j then (if free r u c = true then cnt rs (u ||| 2 ^ c) k else 0) else if c < 5 then (if free r u (c + 1) = true then cnt rs (u ||| 2 ^ (c + 1)) k else 0) else 0 := by
      intro c hc
      have o1 : c < j → delcol j u ||| 2 ^ c = delcol j (u ||| 2 ^ c) := fun h => by have := delcol_or1 u hu j hj c hc; simpa [h] using this
      have o2 : j ≤ c → c < 5 → delcol j u ||| 2 ^ c = delcol j (u ||| 2 ^ (c + 1)) := fun h h5 => by have := delcol_or2 u hu j hj c h5; simpa [show ¬ c < j by omega] using this
      have d1 := delcol_bit r hr0 j hj c hc
      have d2 := delcol_bit u hu j hj c hc
      by_cases h : c < j
      · rw [if_pos h] at d1 d2 ⊢
        unfold free
        rw [d1, d2, o1 h, ih _ k (or_pow_lt hu hc) (by rw [Nat.testBit_or, hb]; rfl)]
      · rw [if_neg h] at d1 d2 ⊢
        unfold free
        rw [d1, d2]
        by_cases h5 : c < 5
        · rw [if_pos h5, o2 (by omega) h5, ih _ k (or_pow_lt hu (by omega)) (by rw [Nat.testBit_or, hb]; rfl)]
        · rw [if_neg h5, bit_high hr0 (by omega)]; simp
    rw [csum_congr key]
    have hz : (if free r u j = true then cnt rs (u ||| 2 ^ j) k else 0) = 0 := by simp [free, hb]
    obtain ⟨g, hg⟩ : ∃ g : Nat → Nat, (fun c => if free r u c = true then cnt rs (u ||| 2 ^ c) k else 0) = g := ⟨_, rfl⟩
    have hg' : ∀ c, (if free r u c = true then cnt rs (u ||| 2 ^ c) k else 0) = g c := fun c => congrFun hg c
    simp only [hg'] at hz ⊢
    unfold csum
    obtain rfl | rfl | rfl | rfl | rfl | rfl : j = 0 ∨ j = 1 ∨ j = 2 ∨ j = 3 ∨ j = 4 ∨ j = 5 := by omega
    all_goals simp [hz] <;> omega

theorem without_go {α β : Type} (g : α → β) (i : Nat) : ∀ (l : List α) (o : Nat), (l.zipIdx o).filterMap (fun p => if p.2 = i then none else some (g p.1)) = if o ≤ i then (l.eraseIdx (i - o)).map g else l.map g
  | [], o => by simp
  | x :: l, o => by
    rw [List.zipIdx_cons, List.filterMap_cons]
    by_cases h : o = i
    · subst h
      have := without_go g o l (o + 1)
      rw [if_neg (by omega)] at this
      simp [this]
    · have := without_go g i l (o + 1)
      rw [if_neg h]
      simp only [this]
      by_cases h2 : o ≤ i
      · rw [if_pos h2, if_pos (by omega)]
        obtain ⟨d, hd⟩ : ∃ d, i - o = d + 1 := ⟨i - o - 1, by omega⟩
        rw [hd, show i - (o + 1) = d by omega]
        simp
      · rw [if_neg h2, if_neg (by omega)]; simp
theorem without_eq (bs : List Nat) (i j : Nat) : without bs i j = (bs.eraseIdx i).map (delcol j) := by
  unfold without sel
  have := without_go (delcol j) i bs 0
  simpa using this

theorem delcol_self : ∀ j : Nat, j < 6 → delcol j (2 ^ j) = 0 := by decide +kernel

theorem diffS_lt6 {r u : Nat} (hr : r < 64) : diffS r u < 64 := by
  have h : r &&& u < 2 ^ 6 := Nat.lt_of_le_of_lt Nat.and_le_left hr
  have : diffS r u < 2 ^ 6 := Nat.xor_lt_two_pow (by omega) h
  omega
theorem mem_cut {rs : List Nat} {i j x : Nat} (hr : ∀ r ∈ rs, r < 64) (h : x ∈ cutAt rs i j) : x < 64 := by
  obtain ⟨k, hk, rfl⟩ := List.mem_iff_getElem.1 h
  unfold cutAt at hk ⊢
  rw [List.getElem_modify]
  have hk' : k < rs.length := by simpa using hk
  split
  · exact diffS_lt6 (hr _ (List.getElem_mem hk'))
  · exact hr _ (List.getElem_mem hk')

/-- **THE LAW OF THE CUT**, at one place. -/
theorem numL_cut (bs : List Nat) (i j k : Nat) (hr : ∀ r ∈ bs, r < 64) (hj : j < 6) (hi : i < bs.length) (hb : bs[i].testBit j = true) :
    (numL bs 0).getD k 0 = (numL (cutAt bs i j) 0).getD k 0 + if k = 0 then 0 else (numL (without bs i j) 0).getD (k - 1) 0 := by
  have hw : ∀ r ∈ without bs i j, r < 64 := by
    intro r h
    rw [without_eq] at h
    obtain ⟨x, hx, rfl⟩ := List.mem_map.1 h
    exact delcol_lt j hj x (hr x (List.mem_of_mem_eraseIdx hx))
  rw [numL_cnt _ _ _ hr, numL_cnt _ _ _ (fun x hx => mem_cut hr hx), numL_cnt _ _ _ hw]
  cases k with
  | zero => rw [cnt_zero, cnt_zero]; simp
  | succ k =>
    rw [cnt_cut bs i j 0 k hj hi hb, without_eq]
    have e := cnt_del j hj (bs.eraseIdx i) (2 ^ j) k (fun x hx => hr x (List.mem_of_mem_eraseIdx hx)) (by have := or_pow_lt (u := 0) (by decide) hj; simpa using this) (by simp)
    rw [delcol_self j hj] at e
    simp [e]
end Go.Proofs.YtlpnicfbgdfbnaaDoor
