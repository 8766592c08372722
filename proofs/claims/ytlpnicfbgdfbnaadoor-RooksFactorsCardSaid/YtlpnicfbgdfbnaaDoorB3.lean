/- Steep heights, as lists. No Go in sight. -/
import Derived.Test.YtlpnicfbgdfbnaaDoorB2
namespace Go.Proofs.YtlpnicfbgdfbnaaDoor

/-! ### numbers in order -/
def insZ (x : Int) : List Int → List Int
  | [] => [x]
  | y :: ys => if y ≤ x then y :: insZ x ys else x :: y :: ys
def riseZ (l : List Int) : List Int := l.foldl (fun o x => insZ x o) []
theorem insZ_perm (x : Int) : ∀ l : List Int, (insZ x l).Perm (x :: l)
  | [] => List.Perm.refl _
  | y :: ys => by
    rw [insZ]
    split
    · exact ((insZ_perm x ys).cons y).trans (List.Perm.swap x y ys)
    · exact List.Perm.refl _
theorem riseZ_perm (l : List Int) : (riseZ l).Perm l := by
  have : ∀ (l o : List Int), (l.foldl (fun o x => insZ x o) o).Perm (o ++ l) := by
    intro l
    induction l with
    | nil => intro o; simp
    | cons x l ih =>
      intro o
      rw [List.foldl_cons]
      refine (ih _).trans ?_
      refine ((insZ_perm x o).append_right l).trans ?_
      exact List.perm_middle.symm
  have := this l []
  rw [List.nil_append] at this
  exact this
theorem insZ_sorted (x : Int) : ∀ l : List Int, l.Pairwise (· ≤ ·) → (insZ x l).Pairwise (· ≤ ·)
  | [], _ => by simp [insZ]
  | y :: ys, h => by
    rw [insZ]
    obtain ⟨h1, h2⟩ := List.pairwise_cons.1 h
    split
    · rename_i hyx
      refine List.pairwise_cons.2 ⟨fun z hz => ?_, insZ_sorted x ys h2⟩
      rcases List.mem_cons.1 ((insZ_perm x ys).mem_iff.1 hz) with rfl | hz
      · exact hyx
      · exact h1 z hz
    · refine List.pairwise_cons.2 ⟨fun z hz => ?_, h⟩
      rcases List.mem_cons.1 hz with rfl | hz
      · omega
      · have := h1 z hz; omega
theorem riseZ_sorted (l : List Int) : (riseZ l).Pairwise (· ≤ ·) := by
  have : ∀ (l o : List Int), o.Pairwise (· ≤ ·) → (l.foldl (fun o x => insZ x o) o).Pairwise (· ≤ ·) := by
    intro l
    induction l with
    | nil => intro o h; exact h
    | cons x l ih => intro o h; exact ih _ (insZ_sorted x o h)
  exact this l [] List.Pairwise.nil
theorem sortedZ_unique {a b : List Int} (h : a.Perm b) (ha : a.Pairwise (· ≤ ·)) (hb : b.Pairwise (· ≤ ·)) : a = b :=
  List.Perm.eq_of_pairwise (fun _ _ _ _ h1 h2 => Int.le_antisymm h1 h2) ha hb h
theorem insZ_split (x : Int) : ∀ (l : List Int) (p : Nat), p ≤ l.length → (∀ k, k < p → l.getD k 0 ≤ x) → (p < l.length → x < l.getD p 0) → insZ x l = l.take p ++ x :: l.drop p
  | [], p, hp, _, _ => by simp [insZ]
  | y :: ys, 0, _, _, h => by
    have := h (by simp)
    simp at this
    rw [insZ, if_neg (by omega)]; rfl
  | y :: ys, p + 1, hp, h1, h2 => by
    have h0 := h1 0 (by omega)
    simp at h0
    rw [insZ, if_pos h0, insZ_split x ys p (by simpa using hp) (fun k hk => by have := h1 (k + 1) (by omega); simpa using this) (fun hl => by have := h2 (by simpa using hl); simpa using this)]
    rfl
theorem insZ_length (x : Int) (l : List Int) : (insZ x l).length = l.length + 1 := by simpa using (insZ_perm x l).length_eq
theorem riseZ_snoc (l : List Int) (k : Nat) (hk : k < l.length) : riseZ (l.take (k + 1)) = insZ l[k] (riseZ (l.take k)) := by
  unfold riseZ; rw [take_succ' l k hk, List.foldl_append]; rfl
theorem riseZ_len (l : List Int) : (riseZ l).length = l.length := (riseZ_perm l).length_eq

/-! ### the differences -/
def dz : Nat → List Int → List Int
  | _, [] => []
  | k, x :: l => (x - (k : Int)) :: dz (k + 1) l
def DifZ (l : List Int) : List Int := riseZ (dz 0 l)
theorem dz_length : ∀ (l : List Int) (k : Nat), (dz k l).length = l.length
  | [], _ => rfl
  | _ :: l, k => by simp [dz, dz_length l]
theorem DifZ_length (l : List Int) : (DifZ l).length = l.length := by rw [DifZ, riseZ_len, dz_length]
theorem dz_append : ∀ (a b : List Int) (k : Nat), dz k (a ++ b) = dz k a ++ dz (k + a.length) b
  | [], b, k => by simp [dz]
  | x :: a, b, k => by
    simp only [List.cons_append, dz, dz_append a b (k + 1), List.length_cons]
    rw [show k + 1 + a.length = k + (a.length + 1) by omega]

/-- Steep: each number is greater than the one before, or both are 0; p: the one before. -/
def chB (p : Int) : List Int → Bool
  | [] => true
  | x :: l => (decide (p < x) || (p == 0 && x == 0)) && chB x l
theorem chB_cons {p x : Int} {l : List Int} : chB p (x :: l) = true ↔ (p < x ∨ (p = 0 ∧ x = 0)) ∧ chB x l = true := by simp [chB]
theorem ch_low : ∀ (l : List Int) (p : Int) (k : Nat), 0 < p → chB p l = true → ∀ y ∈ dz k l, p + 1 - k ≤ y
  | [], _, _, _, _, y, hy => by simp [dz] at hy
  | x :: l, p, k, hp, h, y, hy => by
    obtain ⟨h1, h2⟩ := chB_cons.1 h
    have hx : p < x := by omega
    simp only [dz] at hy
    rcases List.mem_cons.1 hy with rfl | hy
    · omega
    · have := ch_low l x (k + 1) (by omega) h2 y hy; omega
theorem ch_step {x y p : Int} {k : Nat} {s t : List Int} (hp : -1 ≤ p) (hs : chB p (x :: s) = true) (ht : chB p (y :: t) = true) (hxy : x < y) (h : (dz k (x :: s)).Perm (dz k (y :: t))) : False := by
  obtain ⟨hs1, _⟩ := chB_cons.1 hs
  obtain ⟨_, ht2⟩ := chB_cons.1 ht
  have hm : x - (k : Int) ∈ dz k (y :: t) := h.mem_iff.1 (by simp [dz])
  simp only [dz] at hm
  rcases List.mem_cons.1 hm with e | hm
  · omega
  · have := ch_low t y (k + 1) (by omega) ht2 _ hm; omega
theorem ch_unique : ∀ (s t : List Int) (p : Int) (k : Nat), -1 ≤ p → chB p s = true → chB p t = true → s.length = t.length → (dz k s).Perm (dz k t) → s = t
  | [], [], _, _, _, _, _, _, _ => rfl
  | [], _ :: _, _, _, _, _, _, h, _ => by simp at h
  | _ :: _, [], _, _, _, _, _, h, _ => by simp at h
  | x :: s, y :: t, p, k, hp, hs, ht, hl, h => by
    rcases Int.lt_trichotomy x y with hlt | rfl | hlt
    · exact (ch_step hp hs ht hlt h).elim
    · have hs' := chB_cons.1 hs
      have ht' := chB_cons.1 ht
      rw [ch_unique s t x (k + 1) (by omega) hs'.2 ht'.2 (by simpa using hl) (by simpa [dz] using h)]
    · exact (ch_step hp ht hs hlt h.symm).elim
theorem dif_perm {a b : List Int} (h : DifZ a = DifZ b) : (dz 0 a).Perm (dz 0 b) := (riseZ_perm _).symm.trans ((by rw [show riseZ (dz 0 a) = riseZ (dz 0 b) from h] : (riseZ (dz 0 a)).Perm (riseZ (dz 0 b))).trans (riseZ_perm _))
theorem steep_unique {a b : List Int} (ha : chB (-1) a = true) (hb : chB (-1) b = true) (hl : a.length = b.length) (h : DifZ a = DifZ b) : a = b :=
  ch_unique a b (-1) 0 (by omega) ha hb hl (dif_perm h)

/-! ### the program's search -/
def steepP (zeros : Nat) : Nat → Nat → List Int → List Int → Option (List Int)
  | 0, _, _, out => some out
  | m + 1, i, left, out =>
    if i < zeros then
      if (-(i : Int)) ∈ left then steepP zeros m (i + 1) (left.eraseIdx (left.idxOf (-(i : Int)))) (out ++ [0]) else none
    else
      if left.getD 0 0 + (i : Int) < 1 ∨ (0 < i ∧ left.getD 0 0 + (i : Int) ≤ out.getD (i - 1) 0) then none else steepP zeros m (i + 1) (left.eraseIdx 0) (out ++ [left.getD 0 0 + (i : Int)])
def SteepZ (l : List Int) (z : Nat) : Option (List Int) := steepP z l.length 0 (DifZ l) []
def SteepP (l : List Int) : Option (List Int) := (List.range (l.length + 1)).findSome? (SteepZ l)

/-! ### the reference's search -/
def nextR (b : List Int) (x : Int) : Bool := !(decide (0 < b.length) && (decide (x < b.getD (b.length - 1) 0) || (x == b.getD (b.length - 1) 0 && decide (0 < x))))
def tryR (f : List Int → List Int) (b : List Int) (x : Nat) : Option (List Int) := if nextR b (x : Int) = true then (if f (b ++ [(x : Int)]) = [] then none else some (f (b ++ [(x : Int)]))) else none
def steepR (d : List Int) : Nat → List Int → List Int
  | 0, b => if DifZ b = d then b else []
  | m + 1, b => ((List.range 13).findSome? (tryR (steepR d m) b)).getD []
def lastZ (p : Int) (b : List Int) : Int := b.getLast?.getD p
theorem lastZ_snoc (p : Int) (b : List Int) (x : Int) : lastZ p (b ++ [x]) = x := by simp [lastZ]
theorem chB_append : ∀ (a b : List Int) (p : Int), chB p (a ++ b) = (chB p a && chB (lastZ p a) b)
  | [], b, p => by simp [chB, lastZ]
  | x :: a, b, p => by
    simp only [List.cons_append, chB, chB_append a b x, Bool.and_assoc]
    congr 3
    unfold lastZ
    cases a with
    | nil => rfl
    | cons y a => simp [List.getLast?_cons]
theorem chB_nonneg : ∀ (l : List Int) (p : Int), -1 ≤ p → chB p l = true → ∀ x ∈ l, 0 ≤ x
  | [], _, _, _, x, hx => by simp at hx
  | y :: l, p, hp, h, x, hx => by
    obtain ⟨h1, h2⟩ := chB_cons.1 h
    rcases List.mem_cons.1 hx with rfl | hx
    · omega
    · exact chB_nonneg l y (by omega) h2 x hx
theorem last_getD (b : List Int) (h : 0 < b.length) (p : Int) : lastZ p b = b.getD (b.length - 1) 0 := by
  unfold lastZ
  rw [List.getLast?_eq_getElem?, List.getD, List.getElem?_eq_getElem (by omega)]; rfl
theorem nextR_iff {b : List Int} (hb : chB (-1) b = true) {x : Int} (hx : 0 ≤ x) : nextR b x = true ↔ (lastZ (-1) b < x ∨ (lastZ (-1) b = 0 ∧ x = 0)) := by
  by_cases h0 : 0 < b.length
  · have hm : b.getD (b.length - 1) 0 ∈ b := by
      rw [List.getD, List.getElem?_eq_getElem (by omega)]
      exact List.getElem_mem _
    have hn := chB_nonneg b (-1) (by omega) hb _ hm
    rw [last_getD b h0]
    unfold nextR
    simp only [h0, decide_true, Bool.true_and, Bool.not_eq_true', Bool.or_eq_false_iff, decide_eq_false_iff_not, Bool.and_eq_false_iff, beq_eq_false_iff_ne]
    omega
  · obtain rfl : b = [] := List.eq_nil_of_length_eq_zero (by omega)
    unfold nextR lastZ
    simp
    omega
theorem chB_snoc {b : List Int} (hb : chB (-1) b = true) {x : Int} (hx : 0 ≤ x) (h : nextR b x = true) : chB (-1) (b ++ [x]) = true := by
  rw [chB_append, hb, Bool.true_and]
  simpa [chB] using (nextR_iff hb hx).1 h
theorem steepR_sound (d : List Int) : ∀ (m : Nat) (b : List Int), chB (-1) b = true → steepR d m b ≠ [] → chB (-1) (steepR d m b) = true ∧ (steepR d m b).length = b.length + m ∧ DifZ (steepR d m b) = d
  | 0, b, hb, h => by
    rw [steepR] at h ⊢
    split
    · rename_i hd; exact ⟨hb, rfl, hd⟩
    · rename_i hd; rw [if_neg hd] at h; exact absurd rfl h
  | m + 1, b, hb, h => by
    rw [steepR] at h ⊢
    cases hc : (List.range 13).findSome? (tryR (steepR d m) b) with
    | none => rw [hc] at h; exact absurd rfl h
    | some s =>
      obtain ⟨x, hx, hs⟩ := List.exists_of_findSome?_eq_some hc
      show chB (-1) s = true ∧ s.length = b.length + (m + 1) ∧ DifZ s = d
      unfold tryR at hs
      split at hs
      · rename_i hn
        split at hs
        · cases hs
        · rename_i hne
          obtain rfl := Option.some.inj hs
          have hcb := chB_snoc hb (Int.natCast_nonneg x) hn
          obtain ⟨h1, h2, h3⟩ := steepR_sound d m _ hcb hne
          exact ⟨h1, by rw [h2]; simp; omega, h3⟩
      · cases hs
theorem steepR_complete (d : List Int) : ∀ (m : Nat) (b t : List Int), t.length = m → chB (-1) b = true → chB (-1) (b ++ t) = true → (∀ x ∈ t, x ≤ 12) → DifZ (b ++ t) = d → b ++ t ≠ [] → steepR d m b ≠ []
  | 0, b, t, ht, _, _, _, hd, hne => by
    obtain rfl : t = [] := List.eq_nil_of_length_eq_zero ht
    rw [List.append_nil] at hd hne
    rw [steepR, if_pos hd]; exact hne
  | m + 1, b, [], ht, _, _, _, _, _ => by simp at ht
  | m + 1, b, x :: t, ht, hb, hc, h12, hd, hne => by
    have e : b ++ x :: t = (b ++ [x]) ++ t := by simp
    rw [e] at hc hd
    have hc1 : chB (-1) (b ++ [x]) = true := by rw [chB_append] at hc; simp only [Bool.and_eq_true] at hc; exact hc.1
    have hx0 : 0 ≤ x := chB_nonneg _ (-1) (by omega) hc1 x (by simp)
    have hn : nextR b x = true := by
      rw [nextR_iff hb hx0]
      rw [chB_append, hb, Bool.true_and] at hc1
      simpa [chB] using hc1
    have hr := steepR_complete d m (b ++ [x]) t (by simpa using ht) hc1 hc (fun y hy => h12 y (List.mem_cons_of_mem _ hy)) hd (by simp)
    have hx12 := h12 x List.mem_cons_self
    obtain ⟨n, rfl⟩ := Int.eq_ofNat_of_zero_le hx0
    rw [steepR]
    cases hcx : (List.range 13).findSome? (tryR (steepR d m) b) with
    | none =>
      have := List.findSome?_eq_none_iff.1 hcx n (by simp; omega)
      unfold tryR at this
      rw [if_pos hn, if_neg hr] at this
      cases this
    | some s =>
      obtain ⟨y, _, hs⟩ := List.exists_of_findSome?_eq_some hcx
      show s ≠ []
      unfold tryR at hs
      split at hs
      · split at hs
        · cases hs
        · rename_i hne'
          obtain rfl := Option.some.inj hs
          exact hne'
      · cases hs

/-! ### all stairs of at most six rows -/
def strs (n : Nat) : Nat → Nat → List (List Nat)
  | 0, _ => [[]]
  | m + 1, a => ((List.range (n + 1)).filter fun x => decide (a ≤ x)).flatMap fun x => (strs n m x).map (x :: ·)
theorem mem_strs (n : Nat) : ∀ (l : List Nat) (a : Nat), (∀ x ∈ l, x ≤ n) → (∀ i, i + 1 < l.length → l.getD i 0 ≤ l.getD (i + 1) 0) → (0 < l.length → a ≤ l.getD 0 0) → l ∈ strs n l.length a
  | [], _, _, _, _ => by simp [strs]
  | x :: l, a, ht, ha, h0 => by
    rw [List.length_cons, strs, List.mem_flatMap]
    refine ⟨x, List.mem_filter.2 ⟨by have := ht x List.mem_cons_self; simp; omega, by have := h0 (by simp); simpa using this⟩, List.mem_map.2 ⟨l, ?_, rfl⟩⟩
    refine mem_strs n l x (fun y hy => ht y (List.mem_cons_of_mem _ hy)) (fun i hi => by have := ha (i + 1) (by simp; omega); simpa using this) (fun hl => ?_)
    have := ha 0 (by simp; omega)
    simpa using this
def okS (n : Nat) (hs : List Nat) : Bool := match SteepP (toI hs) with | some s => chB (-1) s && s.all (fun x => decide (x ≤ 11)) && (s.length == n) && (DifZ s == DifZ (toI hs)) | none => false
theorem steep_all : ((List.range 6).all fun n => (strs (n + 1) (n + 1) 0).all (okS (n + 1))) = true := by decide +kernel
structure Steep (hs : List Nat) (s : List Int) : Prop where
  prog : SteepP (toI hs) = some s
  ch : chB (-1) s = true
  top : ∀ x ∈ s, x ≤ 11
  len : s.length = hs.length
  dif : DifZ s = DifZ (toI hs)
theorem stp_mem {hs : List Nat} (h : Stp hs) : hs ∈ strs hs.length hs.length 0 := mem_strs _ hs 0 h.top h.asc (fun _ => Nat.zero_le _)
theorem steep_of {hs : List Nat} (h : Stp hs) : ∃ s, Steep hs s := by
  have h1 := h.pos
  have h6 := h.le
  have := List.all_eq_true.1 (List.all_eq_true.1 steep_all (hs.length - 1) (by simp; omega)) hs (by rw [show hs.length - 1 + 1 = hs.length by omega]; exact stp_mem h)
  rw [show hs.length - 1 + 1 = hs.length by omega] at this
  unfold okS at this
  cases hc : SteepP (toI hs) with
  | none => rw [hc] at this; cases this
  | some s =>
    rw [hc] at this
    simp only [Bool.and_eq_true, beq_iff_eq, List.all_eq_true, decide_eq_true_eq] at this
    exact ⟨s, hc, this.1.1.1, this.1.1.2, this.1.2, this.2⟩
theorem Steep.ref {hs : List Nat} {s : List Int} (h : Stp hs) (hs' : Steep hs s) : steepR (DifZ (toI hs)) hs.length [] = s := by
  have hp := h.pos
  have hne := steepR_complete (DifZ (toI hs)) hs.length [] s hs'.len rfl (by simpa using hs'.ch) (fun x hx => by have := hs'.top x hx; omega) (by simpa using hs'.dif) (by
    intro e; have := hs'.len; rw [List.nil_append] at e; rw [e] at this; simp at this; omega)
  obtain ⟨h1, h2, h3⟩ := steepR_sound _ _ _ rfl hne
  exact steep_unique h1 hs'.ch (by rw [h2, hs'.len]; simp) (by rw [h3, hs'.dif])
end Go.Proofs.YtlpnicfbgdfbnaaDoor
