/- Wa, Wg, Wh, Wi, Wl, Wq of the seat's texts, in this order. -/
import Derived.Test.YtmlhecfhhhebnaaTq
import Derived.Test.YtmlhecfhhhebnaaN1
import Derived.Test.YtmlhecfhhhebnaaPt
import Derived.Test.YtmlhecfhhhebnaaPp

/- MirrorWords, plain: all short words, the program's and the reference's. No Go in sight. -/
namespace Go.Proofs.Ytmlhecfhhhebnaa

/-- What lies below u by one mirror: (number, mirror). -/
def lowS (W X : List (List Nat)) (u : Nat) : List (Nat × Nat) := (X.getD u []).zipIdx.filter fun p => decide (lenX W p.1 < lenX W u)
/-- All short words of u, e behind them, the letters from the last one on. -/
def shL (W X : List (List Nat)) : Nat → Nat → List Nat → List (List Nat)
  | 0, _, e => [e]
  | f + 1, u, e => (lowS W X u).flatMap fun p => shL W X f p.1 (p.2 :: e)
/-- A word put into a list of words, in order. -/
def insW (l : List (List Nat)) (w : List Nat) : List (List Nat) := l.takeWhile (fun x => ltL x w) ++ w :: l.dropWhile (fun x => ltL x w)
/-- The reference's short words. -/
def shR (W X : List (List Nat)) : Nat → Nat → List (List Nat)
  | 0, _ => [[]]
  | f + 1, u => (lowS W X u).foldl (fun out p => (shR W X f p.1).foldl (fun o w => insW o (w ++ [p.2])) out) []

theorem shL_map (W X : List (List Nat)) : ∀ (f u : Nat) (e : List Nat), shL W X f u e = (shL W X f u []).map (· ++ e)
  | 0, _, e => by simp [shL]
  | f + 1, u, e => by
    simp only [shL]
    rw [List.map_flatMap]
    congr 1
    funext p
    rw [shL_map W X f p.1 (p.2 :: e), shL_map W X f p.1 [p.2], List.map_map]
    congr 1
    funext x
    simp
theorem insW_perm (l : List (List Nat)) (w : List Nat) : (insW l w).Perm (w :: l) := by
  unfold insW
  have h : l.takeWhile (fun x => ltL x w) ++ l.dropWhile (fun x => ltL x w) = l := List.takeWhile_append_dropWhile
  refine List.perm_middle.trans ?_
  rw [h]
theorem foldl_ins_perm (g : List Nat → List Nat) : ∀ (L : List (List Nat)) (out : List (List Nat)), (L.foldl (fun o w => insW o (g w)) out).Perm (out ++ L.map g)
  | [], out => by simp
  | w :: L, out => by
    rw [List.foldl_cons, List.map_cons]
    refine (foldl_ins_perm g L _).trans ?_
    refine ((insW_perm out (g w)).append_right _).trans ?_
    rw [List.cons_append]
    exact List.perm_middle.symm
theorem shR_perm (W X : List (List Nat)) : ∀ (f u : Nat), (shR W X f u).Perm (shL W X f u [])
  | 0, _ => by simp [shR, shL]
  | f + 1, u => by
    have aux : ∀ (ps : List (Nat × Nat)) (out : List (List Nat)), (ps.foldl (fun out p => (shR W X f p.1).foldl (fun o w => insW o (w ++ [p.2])) out) out).Perm (out ++ ps.flatMap fun p => shL W X f p.1 [p.2]) := by
      intro ps
      induction ps with
      | nil => intro out; simp
      | cons p ps ih =>
        intro out
        rw [List.foldl_cons, List.flatMap_cons]
        refine (ih _).trans ?_
        rw [← List.append_assoc]
        refine List.Perm.append_right _ ?_
        refine (foldl_ins_perm (fun w => w ++ [p.2]) _ out).trans ?_
        rw [shL_map W X f p.1 [p.2]]
        exact ((shR_perm W X f p.1).map _).append_left _
    simpa [shR, shL] using aux (lowS W X u) []
theorem shL_len (W X : List (List Nat)) : ∀ (f u : Nat) (e : List Nat), ∀ x ∈ shL W X f u e, x.length = f + e.length
  | 0, _, e => by simp [shL]
  | f + 1, u, e => by
    intro x hx
    simp only [shL, List.mem_flatMap] at hx
    obtain ⟨p, _, hx⟩ := hx
    have := shL_len W X f p.1 (p.2 :: e) x hx
    simp at this
    omega
theorem ltL_irrefl : ∀ a : List Nat, ltL a a = false
  | [] => rfl
  | x :: xs => by simp [ltL, ltL_irrefl xs]
theorem ltL_asymm : ∀ {a b : List Nat}, ltL a b = true → ltL b a = false
  | [], [], h => by simp [ltL] at h
  | [], _ :: _, _ => rfl
  | _ :: _, [], h => by simp [ltL] at h
  | x :: xs, y :: ys, h => by
    simp only [ltL, Bool.or_eq_true, decide_eq_true_eq, Bool.and_eq_true, beq_iff_eq] at h
    simp only [ltL, Bool.or_eq_false_iff, decide_eq_false_iff_not, Bool.and_eq_false_iff, beq_eq_false_iff_ne]
    rcases h with h | ⟨rfl, h⟩
    · exact ⟨by omega, .inl (by omega)⟩
    · exact ⟨by omega, .inr (ltL_asymm h)⟩
theorem ltL_trans : ∀ {a b c : List Nat}, ltL a b = true → ltL b c = true → ltL a c = true
  | [], [], _, h, _ => by simp [ltL] at h
  | [], _ :: _, [], _, h => by simp [ltL] at h
  | [], _ :: _, _ :: _, _, _ => rfl
  | _ :: _, [], _, h, _ => by simp [ltL] at h
  | _ :: _, _ :: _, [], _, h => by simp [ltL] at h
  | x :: xs, y :: ys, z :: zs, h1, h2 => by
    simp only [ltL, Bool.or_eq_true, decide_eq_true_eq, Bool.and_eq_true, beq_iff_eq] at h1 h2 ⊢
    rcases h1 with h1 | ⟨rfl, h1⟩
    · rcases h2 with h2 | ⟨rfl, h2⟩
      · exact .inl (by omega)
      · exact .inl h1
    · rcases h2 with h2 | ⟨rfl, h2⟩
      · exact .inl h2
      · exact .inr ⟨rfl, ltL_trans h1 h2⟩
theorem ltL_total : ∀ {a b : List Nat}, ltL a b = false → ltL b a = false → a = b
  | [], [], _, _ => rfl
  | [], _ :: _, h, _ => by simp [ltL] at h
  | _ :: _, [], _, h => by simp [ltL] at h
  | x :: xs, y :: ys, h1, h2 => by
    simp only [ltL, Bool.or_eq_false_iff, decide_eq_false_iff_not, Bool.and_eq_false_iff, beq_eq_false_iff_ne] at h1 h2
    have e : x = y := by omega
    subst e
    have a1 : ltL xs ys = false := by rcases h1.2 with h | h; exact absurd rfl h; exact h
    have a2 : ltL ys xs = false := by rcases h2.2 with h | h; exact absurd rfl h; exact h
    rw [ltL_total a1 a2]
/-- Not before: a rising order. -/
def geL (a b : List Nat) : Bool := !(ltL b a)
theorem geL_trans {a b c : List Nat} (h1 : geL a b = true) (h2 : geL b c = true) : geL a c = true := by
  unfold geL at *
  simp only [Bool.not_eq_true'] at *
  cases hc : ltL c a with
  | false => rfl
  | true =>
    exfalso
    cases hab : ltL a b with
    | true => have := ltL_trans hc hab; rw [h2] at this; cases this
    | false =>
      have e := ltL_total hab h1
      subst e
      rw [h2] at hc; cases hc
theorem geL_total (a b : List Nat) : (geL a b || geL b a) = true := by
  unfold geL
  cases h : ltL a b with
  | true => rw [ltL_asymm h]; rfl
  | false => simp
theorem geL_anti {a b : List Nat} (h1 : geL a b = true) (h2 : geL b a = true) : a = b := by
  unfold geL at *
  simp only [Bool.not_eq_true'] at *
  exact ltL_total h2 h1
def risL (l : List (List Nat)) : Prop := l.Pairwise fun a b => geL a b = true
theorem insW_ris : ∀ {l : List (List Nat)} (w : List Nat), risL l → risL (insW l w)
  | [], w, _ => by simp [insW, risL]
  | x :: l, w, h => by
    obtain ⟨h1, h2⟩ := List.pairwise_cons.1 h
    cases hx : ltL x w with
    | true =>
      have e : insW (x :: l) w = x :: insW l w := by simp [insW, hx]
      rw [e]
      refine List.pairwise_cons.2 ⟨fun y hy => ?_, insW_ris w h2⟩
      rcases List.mem_cons.1 ((insW_perm l w).mem_iff.1 hy) with rfl | hy
      · unfold geL; rw [ltL_asymm hx]; rfl
      · exact h1 y hy
    | false =>
      have e : insW (x :: l) w = w :: x :: l := by simp [insW, hx]
      rw [e]
      have hwx : geL w x = true := by unfold geL; rw [hx]; rfl
      refine List.pairwise_cons.2 ⟨fun y hy => ?_, h⟩
      rcases List.mem_cons.1 hy with rfl | hy
      · exact hwx
      · exact geL_trans hwx (h1 y hy)
theorem foldl_ins_ris (g : List Nat → List Nat) : ∀ (L : List (List Nat)) (out : List (List Nat)), risL out → risL (L.foldl (fun o w => insW o (g w)) out)
  | [], _, h => h
  | w :: L, _, h => foldl_ins_ris g L _ (insW_ris (g w) h)
theorem shR_ris (W X : List (List Nat)) : ∀ (f u : Nat), risL (shR W X f u)
  | 0, _ => by simp [shR, risL]
  | f + 1, u => by
    have aux : ∀ (ps : List (Nat × Nat)) (out : List (List Nat)), risL out → risL (ps.foldl (fun out p => (shR W X f p.1).foldl (fun o w => insW o (w ++ [p.2])) out) out) := by
      intro ps
      induction ps with
      | nil => intro out h; exact h
      | cons p ps ih => intro out h; exact ih _ (foldl_ins_ris (fun w => w ++ [p.2]) _ out h)
    exact aux (lowS W X u) [] List.Pairwise.nil
theorem sort_shL (W X : List (List Nat)) (f u : Nat) : (shL W X f u []).mergeSort geL = shR W X f u := by
  refine List.Perm.eq_of_pairwise (le := fun a b => geL a b = true) (fun a b _ _ h1 h2 => geL_anti h1 h2) (List.pairwise_mergeSort (le := geL) (fun _ _ _ h1 h2 => geL_trans h1 h2) geL_total _) (shR_ris W X f u) ((List.mergeSort_perm _ _).trans (shR_perm W X f u).symm)
/-- No word comes twice. -/
theorem shL_nodup (W X : List (List Nat)) : ∀ (f u : Nat) (e : List Nat), (shL W X f u e).Nodup
  | 0, _, e => by simp [shL]
  | f + 1, u, e => by
    have hz : (lowS W X u).Pairwise fun p q => p.2 ≠ q.2 := by
      unfold lowS
      refine List.Pairwise.filter _ ?_
      refine List.pairwise_iff_getElem.2 fun i j hi hj hij => ?_
      simp
      omega
    simp only [shL]
    refine List.pairwise_flatMap.2 ⟨fun p _ => shL_nodup W X f p.1 _, ?_⟩
    refine hz.imp fun {p q} hpq => ?_
    intro x hx' y hy' exy
    subst exy
    rw [shL_map] at hx' hy'
    obtain ⟨a, ha, rfl⟩ := List.mem_map.1 hx'
    obtain ⟨b, hb, hab⟩ := List.mem_map.1 hy'
    have la := shL_len W X f p.1 [] a ha
    have lb := shL_len W X f q.1 [] b hb
    have := List.append_inj hab (by simp at la lb; omega)
    have h2 := this.2
    simp at h2
    exact hpq h2.symm
/-- The first k of them. -/
def lowK (W X : List (List Nat)) (u k : Nat) : List (Nat × Nat) := ((X.getD u []).take k).zipIdx.filter fun p => decide (lenX W p.1 < lenX W u)
theorem lowK_zero (W X : List (List Nat)) (u : Nat) : lowK W X u 0 = [] := by simp [lowK]
theorem lowK_all (W X : List (List Nat)) (u : Nat) : lowK W X u (X.getD u []).length = lowS W X u := by unfold lowK lowS; rw [List.take_length]
theorem lowK_succ (W X : List (List Nat)) (u k : Nat) (hk : k < (X.getD u []).length) :
    lowK W X u (k + 1) = lowK W X u k ++ (if lenX W (X.getD u [])[k] < lenX W u then [((X.getD u [])[k], k)] else []) := by
  unfold lowK
  obtain ⟨r, hr⟩ : ∃ r, X.getD u [] = r := ⟨_, rfl⟩
  simp only [hr] at hk ⊢
  rw [List.take_succ_eq_append_getElem hk, List.zipIdx_append, List.filter_append, List.length_take, Nat.min_eq_left (by omega)]
  congr 1
  by_cases h : lenX W r[k] < lenX W u
  · rw [if_pos h]; simp [h]
  · rw [if_neg h]; simp [h]
def shK (W X : List (List Nat)) (f u : Nat) (e : List Nat) (k : Nat) : List (List Nat) := (lowK W X u k).flatMap fun p => shL W X f p.1 (p.2 :: e)
theorem shK_zero (W X : List (List Nat)) (f u : Nat) (e : List Nat) : shK W X f u e 0 = [] := by unfold shK; rw [lowK_zero]; rfl
theorem shK_all (W X : List (List Nat)) (f u : Nat) (e : List Nat) : shK W X f u e (X.getD u []).length = shL W X (f + 1) u e := by unfold shK; rw [lowK_all]; rfl
theorem shK_low {W X : List (List Nat)} {u k : Nat} (f : Nat) (e : List Nat) (hk : k < (X.getD u []).length) (h : lenX W (X.getD u [])[k] < lenX W u) :
    shK W X f u e (k + 1) = shK W X f u e k ++ shL W X f (X.getD u [])[k] (k :: e) := by
  unfold shK; rw [lowK_succ W X u k hk, if_pos h, List.flatMap_append]; simp
theorem shK_high {W X : List (List Nat)} {u k : Nat} (f : Nat) (e : List Nat) (hk : k < (X.getD u []).length) (h : ¬ lenX W (X.getD u [])[k] < lenX W u) :
    shK W X f u e (k + 1) = shK W X f u e k := by
  unfold shK; rw [lowK_succ W X u k hk, if_neg h, List.append_nil]
def rhK (W X : List (List Nat)) (f u k : Nat) : List (List Nat) := (lowK W X u k).foldl (fun out p => (shR W X f p.1).foldl (fun o w => insW o (w ++ [p.2])) out) []
theorem rhK_zero (W X : List (List Nat)) (f u : Nat) : rhK W X f u 0 = [] := by unfold rhK; rw [lowK_zero]; rfl
theorem rhK_all (W X : List (List Nat)) (f u : Nat) : rhK W X f u (X.getD u []).length = shR W X (f + 1) u := by unfold rhK; rw [lowK_all]; rfl
theorem rhK_low {W X : List (List Nat)} {u k : Nat} (f : Nat) (hk : k < (X.getD u []).length) (h : lenX W (X.getD u [])[k] < lenX W u) :
    rhK W X f u (k + 1) = (shR W X f (X.getD u [])[k]).foldl (fun o w => insW o (w ++ [k])) (rhK W X f u k) := by
  unfold rhK; rw [lowK_succ W X u k hk, if_pos h, List.foldl_append]; rfl
theorem rhK_high {W X : List (List Nat)} {u k : Nat} (f : Nat) (hk : k < (X.getD u []).length) (h : ¬ lenX W (X.getD u [])[k] < lenX W u) :
    rhK W X f u (k + 1) = rhK W X f u k := by
  unfold rhK; rw [lowK_succ W X u k hk, if_neg h, List.append_nil]
/-- Lengths differ by one; 0 alone has none. -/
def ckS (W X : List (List Nat)) : Bool := (List.range W.length).all fun u => (lenX W u == 0) == (u == 0) && (X.getD u []).all fun v => (lenX W v + 1 == lenX W u) || (lenX W v == lenX W u + 1)
def cntC (W X : List (List Nat)) : List Nat := (List.range W.length).foldl (fun C u => C ++ [if lenX W u = 0 then 1 else ((lowS W X u).map fun p => C.getD p.1 0).sum]) []
def ckCnt (W X : List (List Nat)) : Bool := (List.range W.length).all fun u => ((cntC W X).getD u 0 == if lenX W u = 0 then 1 else ((lowS W X u).map fun p => (cntC W X).getD p.1 0).sum) && decide ((cntC W X).getD u 0 ≤ 1000) && decide (0 < (cntC W X).getD u 0)
theorem len_flat {α : Type} (g : α → List (List Nat)) (c : α → Nat) : ∀ (L : List α), (∀ p ∈ L, (g p).length = c p) → (L.flatMap g).length = (L.map c).sum
  | [], _ => rfl
  | p :: L, h => by
    rw [List.flatMap_cons, List.length_append, List.map_cons, List.sum_cons, h p List.mem_cons_self, len_flat g c L fun q hq => h q (List.mem_cons_of_mem _ hq)]
theorem low_mem {W X : List (List Nat)} {u : Nat} {p : Nat × Nat} (h : p ∈ lowS W X u) : p.1 ∈ X.getD u [] ∧ p.2 < (X.getD u []).length ∧ lenX W p.1 < lenX W u := by
  unfold lowS at h
  obtain ⟨h1, h2⟩ := List.mem_filter.1 h
  obtain ⟨v, s⟩ := p
  have := List.mem_zipIdx_iff_getElem?.1 h1
  obtain ⟨h3, h4⟩ := List.getElem?_eq_some_iff.1 this
  exact ⟨by rw [← h4]; exact List.getElem_mem h3, h3, by simpa using h2⟩
structure ShAt (W X : List (List Nat)) (u : Nat) : Prop where
  zero : lenX W u = 0 ↔ u = 0
  one : ∀ v ∈ X.getD u [], lenX W v + 1 = lenX W u ∨ lenX W v = lenX W u + 1
theorem ckS_at {W X : List (List Nat)} (h : ckS W X = true) {u : Nat} (hu : u < W.length) : ShAt W X u := by
  have h := List.all_eq_true.1 h u (List.mem_range.2 hu)
  simp only [Bool.and_eq_true, List.all_eq_true, Bool.or_eq_true, beq_iff_eq] at h
  refine ⟨?_, h.2⟩
  have h1 := h.1
  constructor
  · intro e; rw [e] at h1; simpa using h1
  · intro e; subst e; simpa using h1
theorem shL_cnt {W X : List (List Nat)} (hS : ckS W X = true) (hC : ckCnt W X = true) (hX : ∀ u < W.length, ∀ v ∈ X.getD u [], v < W.length) : ∀ (f u : Nat) (e : List Nat), u < W.length → lenX W u = f → (shL W X f u e).length = (cntC W X).getD u 0
  | 0, u, e, hu, hf => by
    have h := List.all_eq_true.1 hC u (List.mem_range.2 hu)
    simp only [Bool.and_eq_true, beq_iff_eq, hf, if_true] at h
    rw [h.1.1]; rfl
  | f + 1, u, e, hu, hf => by
    have h := List.all_eq_true.1 hC u (List.mem_range.2 hu)
    simp only [Bool.and_eq_true, beq_iff_eq, hf] at h
    rw [h.1.1, if_neg (by omega)]
    simp only [shL]
    refine len_flat _ _ _ fun p hp => ?_
    obtain ⟨h1, h2, h3⟩ := low_mem hp
    rcases (ckS_at hS hu).one _ h1 with h4 | h4
    · exact shL_cnt hS hC hX f p.1 _ (hX u hu _ h1) (by omega)
    · omega
theorem shL_few {W X : List (List Nat)} (hS : ckS W X = true) (hC : ckCnt W X = true) (hX : ∀ u < W.length, ∀ v ∈ X.getD u [], v < W.length) {f u : Nat} (e : List Nat) (hu : u < W.length) (hf : lenX W u = f) : (shL W X f u e).length ≤ 1000 ∧ 0 < (shL W X f u e).length := by
  rw [shL_cnt hS hC hX f u e hu hf]
  have h := List.all_eq_true.1 hC u (List.mem_range.2 hu)
  simp only [Bool.and_eq_true, decide_eq_true_eq] at h
  exact ⟨h.1.2, h.2⟩
theorem shL_letter {W X : List (List Nat)} {m : Nat} (hr : ∀ u < W.length, (X.getD u []).length = m) (hX : ∀ u < W.length, ∀ v ∈ X.getD u [], v < W.length) : ∀ (f u : Nat) (e : List Nat), u < W.length → (∀ s ∈ e, s < m) → ∀ x ∈ shL W X f u e, ∀ s ∈ x, s < m
  | 0, u, e, _, he => by simp only [shL, List.mem_singleton]; rintro x rfl; exact he
  | f + 1, u, e, hu, he => by
    intro x hx
    simp only [shL, List.mem_flatMap] at hx
    obtain ⟨p, hp, hx⟩ := hx
    obtain ⟨h1, h2, _⟩ := low_mem hp
    refine shL_letter hr hX f p.1 (p.2 :: e) (hX u hu _ h1) (fun s hs => ?_) x hx
    rcases List.mem_cons.1 hs with rfl | hs
    · rw [hr u hu] at h2; exact h2
    · exact he s hs
theorem ckS_all : (allGroups.all fun g => ckS (litW g.1 g.2) (litX g.1 g.2) && ckCnt (litW g.1 g.2) (litX g.1 g.2)) = true := by decide +kernel
theorem ckSG {K n : Nat} (hv : validB K n = true) : ckS (wordsG K n) (nextG K n) = true ∧ ckCnt (wordsG K n) (nextG K n) = true := by
  rw [(lit_of hv).1, (lit_of hv).2]
  have := List.all_eq_true.1 ckS_all _ (valid_in hv)
  simpa using this
end Go.Proofs.Ytmlhecfhhhebnaa

/- Short words, plain: of a short word and a mirror that makes it shorter just one letter goes. No Go in sight. -/
namespace Go.Proofs.Ytmlhecfhhhebnaa

/-- What the laws of short words lean on: a table of m mirrors and N elements. -/
structure Gm (m N : Nat) (W X : List (List Nat)) : Prop where
  pos : 0 < N
  step : ∀ u, u < N → ∀ s, s < m → stepX X u s < N
  inv : ∀ u, u < N → ∀ s, s < m → stepX X (stepX X u s) s = u
  zero : ∀ u, u < N → (lenX W u = 0 ↔ u = 0)
  one : ∀ u, u < N → ∀ s, s < m → lenX W (stepX X u s) + 1 = lenX W u ∨ lenX W (stepX X u s) = lenX W u + 1
def ckGm (m : Nat) (W X : List (List Nat)) : Bool := decide (0 < W.length) && (List.range W.length).all fun u => ((lenX W u == 0) == (u == 0)) && (List.range m).all fun s =>
  decide (stepX X u s < W.length) && (stepX X (stepX X u s) s == u) && ((lenX W (stepX X u s) + 1 == lenX W u) || (lenX W (stepX X u s) == lenX W u + 1))
theorem gm_of {m : Nat} {W X : List (List Nat)} (h : ckGm m W X = true) : Gm m W.length W X := by
  unfold ckGm at h
  simp only [Bool.and_eq_true, List.all_eq_true, List.mem_range, decide_eq_true_eq, beq_iff_eq, Bool.or_eq_true] at h
  refine ⟨h.1, fun u hu s hs => ((h.2 u hu).2 s hs).1.1, fun u hu s hs => ((h.2 u hu).2 s hs).1.2, fun u hu => ?_, fun u hu s hs => ((h.2 u hu).2 s hs).2⟩
  have h1 := (h.2 u hu).1
  constructor
  · intro e; rw [e] at h1; simpa using h1.symm
  · intro e; subst e; simpa using h1
section
variable {m N : Nat} {W X : List (List Nat)}
theorem Gm.walk (h : Gm m N W X) : ∀ (ws : List Nat) (u : Nat), u < N → (∀ s ∈ ws, s < m) → walkX X u ws < N
  | [], _, hu, _ => hu
  | s :: ws, u, hu, hw => h.walk ws _ (h.step u hu s (hw s List.mem_cons_self)) fun x hx => hw x (List.mem_cons_of_mem _ hx)
theorem Gm.len_walk (h : Gm m N W X) : ∀ (ws : List Nat) (u : Nat), u < N → (∀ s ∈ ws, s < m) → lenX W (walkX X u ws) ≤ lenX W u + ws.length
  | [], _, _, _ => Nat.le_refl _
  | s :: ws, u, hu, hw => by
    rw [walk_cons, List.length_cons]
    have h1 := h.len_walk ws _ (h.step u hu s (hw s List.mem_cons_self)) fun x hx => hw x (List.mem_cons_of_mem _ hx)
    have h2 := h.one u hu s (hw s List.mem_cons_self)
    omega
theorem Gm.len0 (h : Gm m N W X) : lenX W 0 = 0 := (h.zero 0 h.pos).2 rfl
/-- A short word. -/
def shortW (W X : List (List Nat)) (ws : List Nat) : Prop := lenX W (walkX X 0 ws) = ws.length
theorem Gm.short_init (h : Gm m N W X) {ws : List Nat} {r : Nat} (hw : ∀ s ∈ ws ++ [r], s < m) (hs : shortW W X (ws ++ [r])) : shortW W X ws := by
  unfold shortW at *
  rw [walk_snoc, List.length_append] at hs
  have hw' : ∀ s ∈ ws, s < m := fun s hs => hw s (List.mem_append_left _ hs)
  have h1 := h.len_walk ws 0 h.pos hw'
  have h2 := h.one _ (h.walk ws 0 h.pos hw') r (hw r (by simp))
  have h3 := h.len0
  simp at hs
  omega
/-- The word without its letter i. -/
def dropI (ws : List Nat) (i : Nat) : List Nat := ws.take i ++ ws.drop (i + 1)
theorem dropI_len {ws : List Nat} {i : Nat} (hi : i < ws.length) : (dropI ws i).length + 1 = ws.length := by
  unfold dropI
  rw [List.length_append, List.length_take, List.length_drop]
  omega
theorem dropI_mem {ws : List Nat} {i s : Nat} (h : s ∈ dropI ws i) : s ∈ ws := by
  unfold dropI at h
  rcases List.mem_append.1 h with h | h
  · exact List.mem_of_mem_take h
  · exact List.mem_of_mem_drop h
theorem dropI_last (ws : List Nat) (r : Nat) : dropI (ws ++ [r]) ws.length = ws := by
  unfold dropI; simp
theorem dropI_snoc {ws : List Nat} {r i : Nat} (hi : i < ws.length) : dropI (ws ++ [r]) i = dropI ws i ++ [r] := by
  unfold dropI
  rw [List.take_append_of_le_length (by omega), List.drop_append_of_le_length (by omega), List.append_assoc]
theorem snoc_ind {P : List Nat → Prop} (h0 : P []) (h1 : ∀ ws r, P ws → P (ws ++ [r])) (ws : List Nat) : P ws := by
  have : ∀ l : List Nat, P l.reverse := by
    intro l
    induction l with
    | nil => exact h0
    | cons r l ih => rw [List.reverse_cons]; exact h1 _ r ih
  have h := this ws.reverse
  rwa [List.reverse_reverse] at h
/-- Words of one letter less are different elements. -/
theorem Gm.drop_uniq (h : Gm m N W X) (ws : List Nat) : (∀ s ∈ ws, s < m) → shortW W X ws → ∀ i j, i < ws.length → j < ws.length → walkX X 0 (dropI ws i) = walkX X 0 (dropI ws j) → i = j := by
  refine snoc_ind (P := fun ws => (∀ s ∈ ws, s < m) → shortW W X ws → ∀ i j, i < ws.length → j < ws.length → walkX X 0 (dropI ws i) = walkX X 0 (dropI ws j) → i = j) (fun _ _ i j hi => by simp at hi) ?_ ws
  intro ws r ih hw hs i j hi hj he
  have hw' : ∀ s ∈ ws, s < m := fun s hs => hw s (List.mem_append_left _ hs)
  have hr : r < m := hw r (by simp)
  have hs' := h.short_init hw hs
  have key : ∀ i, i < ws.length → walkX X 0 (dropI (ws ++ [r]) i) ≠ walkX X 0 ws := by
    intro i hi he
    have hd : ∀ s ∈ dropI ws i, s < m := fun s hs => hw' s (dropI_mem hs)
    rw [dropI_snoc hi, walk_snoc] at he
    have e2 := h.inv _ (h.walk _ 0 h.pos hd) r hr
    rw [he] at e2
    have h1 := h.len_walk _ 0 h.pos hd
    rw [← e2] at h1
    have h2 := dropI_len hi
    have h3 := h.len0
    unfold shortW at hs
    rw [walk_snoc, List.length_append] at hs
    simp at hs
    omega
  simp only [List.length_append, List.length_singleton] at hi hj
  by_cases hi2 : i < ws.length <;> by_cases hj2 : j < ws.length
  · rw [dropI_snoc hi2, dropI_snoc hj2, walk_snoc, walk_snoc] at he
    have a1 := h.inv _ (h.walk _ 0 h.pos fun s hs => hw' s (dropI_mem (i := i) hs)) r hr
    have a2 := h.inv _ (h.walk _ 0 h.pos fun s hs => hw' s (dropI_mem (i := j) hs)) r hr
    rw [he] at a1
    exact ih hw' hs' i j hi2 hj2 (a1.symm.trans a2)
  · obtain rfl : j = ws.length := by omega
    rw [dropI_last] at he
    exact absurd he (key i hi2)
  · obtain rfl : i = ws.length := by omega
    rw [dropI_last] at he
    exact absurd he.symm (key j hj2)
  · omega
/-- Pairs of elements that a reflection exchanges: q's rows. -/
structure Rq (m N : Nat) (W X q : List (List Nat)) : Prop where
  base : ∀ u, u < N → ∀ s, s < m → stepX X u s ∈ q.getD u []
  next : ∀ u, u < N → ∀ b ∈ q.getD u [], ∀ s, s < m → stepX X b s ∈ q.getD (stepX X u s) []
  flip : ∀ u, u < N → ∀ b ∈ q.getD u [], ∀ s, s < m → lenX W u < lenX W b → lenX W u < lenX W (stepX X u s) → lenX W (stepX X b s) < lenX W (stepX X u s) → stepX X b s = u
  lt : ∀ u, u < N → ∀ b ∈ q.getD u [], b < N ∧ lenX W b ≠ lenX W u
def ckRq (m : Nat) (W X q : List (List Nat)) : Bool := (List.range W.length).all fun u => ((List.range m).all fun s => (q.getD u []).contains (stepX X u s)) && (q.getD u []).all fun b => decide (b < W.length) && !(lenX W b == lenX W u) && (List.range m).all fun s =>
  (q.getD (stepX X u s) []).contains (stepX X b s) && (!(decide (lenX W u < lenX W b) && decide (lenX W u < lenX W (stepX X u s)) && decide (lenX W (stepX X b s) < lenX W (stepX X u s))) || stepX X b s == u)
theorem rq_of {m : Nat} {W X q : List (List Nat)} (h : ckRq m W X q = true) : Rq m W.length W X q := by
  unfold ckRq at h
  simp only [Bool.and_eq_true, List.all_eq_true, List.mem_range, decide_eq_true_eq, beq_iff_eq, Bool.or_eq_true, Bool.not_eq_true', List.contains_iff_mem, beq_eq_false_iff_ne, Bool.and_eq_false_iff, decide_eq_false_iff_not] at h
  refine ⟨fun u hu s hs => (h u hu).1 s hs, fun u hu b hb s hs => (((h u hu).2 b hb).2 s hs).1, fun u hu b hb s hs h1 h2 h3 => ?_, fun u hu b hb => ((h u hu).2 b hb).1⟩
  rcases (((h u hu).2 b hb).2 s hs).2 with h4 | h4
  · rcases h4 with (h4 | h4) | h4
    · exact absurd h1 h4
    · exact absurd h2 h4
    · exact absurd h3 h4
  · exact h4
/-- A reflection that makes a short word's element shorter leaves out a letter. -/
theorem Rq.exch (h : Gm m N W X) {q : List (List Nat)} (hq : Rq m N W X q) (ws : List Nat) : (∀ s ∈ ws, s < m) → shortW W X ws → ∀ b ∈ q.getD (walkX X 0 ws) [], lenX W b < lenX W (walkX X 0 ws) → ∃ i, i < ws.length ∧ walkX X 0 (dropI ws i) = b := by
  refine snoc_ind (P := fun ws => (∀ s ∈ ws, s < m) → shortW W X ws → ∀ b ∈ q.getD (walkX X 0 ws) [], lenX W b < lenX W (walkX X 0 ws) → ∃ i, i < ws.length ∧ walkX X 0 (dropI ws i) = b) ?_ ?_ ws
  · intro _ _ b _ hlt
    have := h.len0
    have e : walkX X 0 [] = 0 := rfl
    rw [e] at hlt
    omega
  · intro ws r ih hw hs b hb hlt
    have hw' : ∀ s ∈ ws, s < m := fun s hs => hw s (List.mem_append_left _ hs)
    have hr : r < m := hw r (by simp)
    have hs' := h.short_init hw hs
    have ha := h.walk ws 0 h.pos hw'
    rw [walk_snoc] at hb hlt
    have hu := h.step _ ha r hr
    obtain ⟨hbN, _⟩ := hq.lt _ hu b hb
    have hb' := hq.next _ hu b hb r hr
    rw [h.inv _ ha r hr] at hb'
    have eb := h.inv b hbN r hr
    have hlen : lenX W (stepX X (walkX X 0 ws) r) = lenX W (walkX X 0 ws) + 1 := by
      unfold shortW at hs hs'
      rw [walk_snoc, List.length_append] at hs
      simp at hs
      omega
    by_cases hc : lenX W (stepX X b r) < lenX W (walkX X 0 ws)
    · obtain ⟨i, hi, e⟩ := ih hw' hs' _ hb' hc
      refine ⟨i, by simp; omega, ?_⟩
      rw [dropI_snoc hi, walk_snoc, e, eb]
    · have hne := (hq.lt _ ha _ hb').2
      have := hq.flip _ ha _ hb' r hr (by omega) (by omega) (by rw [eb]; omega)
      rw [eb] at this
      exact ⟨ws.length, by simp, by rw [dropI_last, this]⟩
/-- Of a short word and a mirror that makes it shorter there is just one letter without which it is the shorter one. -/
theorem leave_one (h : Gm m N W X) {q : List (List Nat)} (hq : Rq m N W X q) {ws : List Nat} (hw : ∀ s ∈ ws, s < m) (hs : shortW W X ws) {s : Nat} (hsm : s < m) (hlt : lenX W (stepX X (walkX X 0 ws) s) < lenX W (walkX X 0 ws)) :
    ∃ k, k < ws.length ∧ ∀ i, i < ws.length → (walkX X 0 (dropI ws i) = stepX X (walkX X 0 ws) s ↔ i = k) := by
  obtain ⟨k, hk, e⟩ := hq.exch h ws hw hs _ (hq.base _ (h.walk ws 0 h.pos hw) s hsm) hlt
  refine ⟨k, hk, fun i hi => ⟨fun ei => h.drop_uniq ws hw hs i k hi hk (ei.trans e.symm), fun ei => by rw [ei]; exact e⟩⟩
end
end Go.Proofs.Ytmlhecfhhhebnaa

/- Short words, plain: all of an element come from each other by turns. No Go in sight. -/
namespace Go.Proofs.Ytmlhecfhhhebnaa

section
variable {m N : Nat} {W X : List (List Nat)}
theorem low_iff (hr : ∀ u, u < N → (X.getD u []).length = m) {u v s : Nat} (hu : u < N) : (v, s) ∈ lowS W X u ↔ s < m ∧ v = stepX X u s ∧ lenX W v < lenX W u := by
  unfold lowS
  rw [List.mem_filter, List.mem_zipIdx_iff_getElem?]
  have hl := hr u hu
  constructor
  · rintro ⟨h1, h2⟩
    have h1' : (X.getD u [])[s]? = some v := h1
    obtain ⟨h3, h4⟩ := List.getElem?_eq_some_iff.1 h1'
    refine ⟨by omega, ?_, by simpa using h2⟩
    unfold stepX
    rw [List.getD_eq_getElem?_getD (l := X.getD u []), h1']
    rfl
  · rintro ⟨h1, rfl, h2⟩
    refine ⟨?_, by simpa using h2⟩
    show (X.getD u [])[s]? = some (stepX X u s)
    unfold stepX
    rw [List.getD_eq_getElem?_getD (l := X.getD u []), List.getElem?_eq_getElem (by omega)]
    rfl
theorem shL_iff (h : Gm m N W X) (hr : ∀ u, u < N → (X.getD u []).length = m) : ∀ (f u : Nat) (x : List Nat), u < N → lenX W u = f → (x ∈ shL W X f u [] ↔ x.length = f ∧ (∀ s ∈ x, s < m) ∧ walkX X 0 x = u)
  | 0, u, x, hu, hf => by
    have h0 : u = 0 := (h.zero u hu).1 hf
    subst h0
    simp only [shL, List.mem_singleton]
    constructor
    · rintro rfl; exact ⟨rfl, by simp, rfl⟩
    · rintro ⟨h1, _, _⟩; exact List.length_eq_zero_iff.1 h1
  | f + 1, u, x, hu, hf => by
    simp only [shL, List.mem_flatMap]
    constructor
    · rintro ⟨⟨v, s⟩, hp, hx⟩
      obtain ⟨h1, rfl, h2⟩ := (low_iff hr hu).1 hp
      rw [shL_map] at hx
      obtain ⟨y, hy, rfl⟩ := List.mem_map.1 hx
      have hv := h.step u hu s h1
      have h3 := h.one u hu s h1
      obtain ⟨e1, e2, e3⟩ := (shL_iff h hr f _ y hv (by omega)).1 hy
      refine ⟨by simp [e1], fun t ht => ?_, by rw [walk_snoc, e3]; exact h.inv u hu s h1⟩
      rcases List.mem_append.1 ht with ht | ht
      · exact e2 t ht
      · have : t = s := by simpa using ht
        omega
    · rintro ⟨h1, h2, h3⟩
      have hne : x ≠ [] := by intro e; subst e; simp at h1
      obtain ⟨y, s, rfl⟩ : ∃ y s, x = y ++ [s] := ⟨x.dropLast, x.getLast hne, (List.dropLast_concat_getLast hne).symm⟩
      have hs : s < m := h2 s (by simp)
      have hy : ∀ t ∈ y, t < m := fun t ht => h2 t (List.mem_append_left _ ht)
      rw [walk_snoc] at h3
      have hw := h.walk y 0 h.pos hy
      have e1 := h.inv _ hw s hs
      rw [h3] at e1
      have e2 := h.len_walk y 0 h.pos hy
      have e3 := h.len0
      have e4 := h.one u hu s hs
      simp at h1
      rw [← e1] at e2
      refine ⟨(stepX X u s, s), (low_iff hr hu).2 ⟨hs, rfl, by omega⟩, ?_⟩
      rw [shL_map]
      refine List.mem_map.2 ⟨y, ?_, rfl⟩
      exact (shL_iff h hr f _ y (h.step u hu s hs) (by omega)).2 ⟨h1, hy, e1.symm⟩
/-- A side of the rule of two mirrors. -/
def altW (a b : Nat) : Nat → List Nat
  | 0 => []
  | k + 1 => a :: altW b a k
theorem altW_len (a b : Nat) : ∀ k, (altW a b k).length = k
  | 0 => rfl
  | k + 1 => by rw [altW, List.length_cons, altW_len b a k]
theorem altW_mem {a b s : Nat} : ∀ {k : Nat}, s ∈ altW a b k → s = a ∨ s = b
  | 0, h => by simp [altW] at h
  | k + 1, h => by
    rw [altW] at h
    rcases List.mem_cons.1 h with h | h
    · exact .inl h
    · exact (altW_mem h).symm
/-- The last letter first. -/
theorem altW_snoc (a b : Nat) : ∀ k, altW a b (k + 1) = altW a b k ++ [if k % 2 = 0 then a else b]
  | 0 => rfl
  | k + 1 => by
    rw [altW, altW_snoc b a k, altW, List.cons_append]
    congr 3
    by_cases h : k % 2 = 0
    · rw [if_pos h, if_neg (by omega)]
    · rw [if_neg h, if_pos (by omega)]
theorem altW_rev (a b : Nat) : ∀ k, (altW a b k).reverse = if k % 2 = 0 then altW b a k else altW a b k
  | 0 => rfl
  | k + 1 => by
    rw [show (altW a b (k + 1)).reverse = (altW b a k).reverse ++ [a] from by rw [altW, List.reverse_cons], altW_rev b a k]
    by_cases h : k % 2 = 0
    · rw [if_pos h, if_neg (by omega), altW_snoc a b k, if_pos h]
    · rw [if_neg h, if_pos (by omega), altW_snoc b a k, if_neg h]
/-- The facts of two mirrors. -/
structure Gd (m N : Nat) (W X : List (List Nat)) (ord : Nat → Nat → Nat) : Prop where
  brd : ∀ u, u < N → ∀ a, a < m → ∀ b, b < m → walkX X u (altW a b (ord a b)) = walkX X u (altW b a (ord a b))
  low : ∀ u, u < N → ∀ a, a < m → ∀ b, b < m → a ≠ b → lenX W (stepX X u a) < lenX W u → lenX W (stepX X u b) < lenX W u → lenX W (walkX X u (altW a b (ord a b))) + ord a b = lenX W u
  sym : ∀ a, a < m → ∀ b, b < m → ord a b = ord b a
  two : ∀ a, a < m → ∀ b, b < m → 2 ≤ ord a b
def ckGd (m : Nat) (W X : List (List Nat)) (ord : Nat → Nat → Nat) : Bool := (List.range m).all fun a => (List.range m).all fun b => ord a b == ord b a && decide (2 ≤ ord a b) && (List.range W.length).all fun u =>
  (walkX X u (altW a b (ord a b)) == walkX X u (altW b a (ord a b))) && (a == b || !(decide (lenX W (stepX X u a) < lenX W u) && decide (lenX W (stepX X u b) < lenX W u)) || lenX W (walkX X u (altW a b (ord a b))) + ord a b == lenX W u)
theorem gd_of {m : Nat} {W X : List (List Nat)} {ord : Nat → Nat → Nat} (h : ckGd m W X ord = true) : Gd m W.length W X ord := by
  unfold ckGd at h
  simp only [Bool.and_eq_true, List.all_eq_true, List.mem_range, decide_eq_true_eq, beq_iff_eq, Bool.or_eq_true, Bool.not_eq_true', Bool.and_eq_false_iff, decide_eq_false_iff_not] at h
  refine ⟨fun u hu a ha b hb => ((h a ha b hb).2 u hu).1, fun u hu a ha b hb hne h1 h2 => ?_, fun a ha b hb => (h a ha b hb).1.1, fun a ha b hb => (h a ha b hb).1.2⟩
  rcases ((h a ha b hb).2 u hu).2 with (h3 | h3) | h3
  · exact absurd h3 hne
  · rcases h3 with h3 | h3
    · exact absurd h1 h3
    · exact absurd h2 h3
  · exact h3
/-- One turn of i j i .. to j i j .. -/
def TurnW (m : Nat) (ord : Nat → Nat → Nat) (x y : List Nat) : Prop := ∃ l r a b, a < m ∧ b < m ∧ a ≠ b ∧ x = l ++ altW a b (ord a b) ++ r ∧ y = l ++ altW b a (ord a b) ++ r
def ConnW (m : Nat) (ord : Nat → Nat → Nat) (x y : List Nat) : Prop := ∀ P : List Nat → Prop, (∀ a b, TurnW m ord a b → P a → P b) → P x → P y
theorem TurnW.snoc {ord : Nat → Nat → Nat} {x y : List Nat} (h : TurnW m ord x y) (s : Nat) : TurnW m ord (x ++ [s]) (y ++ [s]) := by
  obtain ⟨l, r, a, b, ha, hb, hn, rfl, rfl⟩ := h
  exact ⟨l, r ++ [s], a, b, ha, hb, hn, by simp, by simp⟩
theorem ConnW.snoc {ord : Nat → Nat → Nat} {x y : List Nat} (h : ConnW m ord x y) (s : Nat) : ConnW m ord (x ++ [s]) (y ++ [s]) :=
  fun P hP hx => h (fun z => P (z ++ [s])) (fun _ _ hab ha => hP _ _ (hab.snoc s) ha) hx
theorem ConnW.trans {ord : Nat → Nat → Nat} {x y z : List Nat} (h : ConnW m ord x y) (h' : ConnW m ord y z) : ConnW m ord x z := fun P hP hx => h' P hP (h P hP hx)
theorem ConnW.refl {ord : Nat → Nat → Nat} (x : List Nat) : ConnW m ord x x := fun _ _ hx => hx
theorem walk_append (X : List (List Nat)) (u : Nat) (a b : List Nat) : walkX X u (a ++ b) = walkX X (walkX X u a) b := by simp [walkX]
/-- Down and up again. -/
theorem Gm.back (h : Gm m N W X) : ∀ (ws : List Nat) (u : Nat), u < N → (∀ s ∈ ws, s < m) → walkX X (walkX X u ws) ws.reverse = u
  | [], _, _, _ => rfl
  | s :: ws, u, hu, hw => by
    have hs := hw s List.mem_cons_self
    rw [walk_cons, List.reverse_cons, walk_append, h.back ws _ (h.step u hu s hs) fun x hx => hw x (List.mem_cons_of_mem _ hx)]
    exact h.inv u hu s hs
/-- Short words of an element are connected. -/
theorem conn_all (h : Gm m N W X) (hr : ∀ u, u < N → (X.getD u []).length = m) {ord : Nat → Nat → Nat} (hd : Gd m N W X ord) (hW : ∀ u, u < N → (W.getD u []) ∈ shL W X (lenX W u) u []) : ∀ (f u : Nat) (x y : List Nat), u < N → lenX W u = f → x ∈ shL W X f u [] → y ∈ shL W X f u [] → ConnW m ord x y
  | 0, u, x, y, _, _, hx, hy => by
    simp only [shL, List.mem_singleton] at hx hy
    rw [hx, hy]; exact ConnW.refl _
  | f + 1, u, x, y, hu, hf, hx, hy => by
    obtain ⟨x1, x2, x3⟩ := (shL_iff h hr _ u x hu hf).1 hx
    obtain ⟨y1, y2, y3⟩ := (shL_iff h hr _ u y hu hf).1 hy
    have split : ∀ z : List Nat, z.length = f + 1 → (∀ s ∈ z, s < m) → walkX X 0 z = u → ∃ z' s, z = z' ++ [s] ∧ s < m ∧ z' ∈ shL W X f (stepX X u s) [] ∧ lenX W (stepX X u s) = f := by
      intro z z1 z2 z3
      have hne : z ≠ [] := by intro e; subst e; simp at z1
      obtain ⟨z', s, rfl⟩ : ∃ z' s, z = z' ++ [s] := ⟨z.dropLast, z.getLast hne, (List.dropLast_concat_getLast hne).symm⟩
      have hs : s < m := z2 s (by simp)
      have hz : ∀ t ∈ z', t < m := fun t ht => z2 t (List.mem_append_left _ ht)
      rw [walk_snoc] at z3
      have e1 := h.inv _ (h.walk z' 0 h.pos hz) s hs
      rw [z3] at e1
      have e2 := h.len_walk z' 0 h.pos hz
      have e3 := h.len0
      have e4 := h.one u hu s hs
      simp at z1
      rw [← e1] at e2
      have e5 : lenX W (stepX X u s) = f := by omega
      exact ⟨z', s, rfl, hs, (shL_iff h hr f _ z' (h.step u hu s hs) e5).2 ⟨z1, hz, e1.symm⟩, e5⟩
    obtain ⟨x', s, rfl, hs, hx', ls⟩ := split x x1 x2 x3
    obtain ⟨y', t, rfl, ht, hy', lt'⟩ := split y y1 y2 y3
    by_cases hst : s = t
    · subst hst
      exact (conn_all h hr hd hW f _ x' y' (h.step u hu s hs) ls hx' hy').snoc s
    · -- the lowest element of u's coset of the two mirrors
      have hlow := hd.low u hu s hs t ht hst (by omega) (by omega)
      have hbr := hd.brd u hu s hs t ht
      have hsy := hd.sym s hs t ht
      have h2 := hd.two s hs t ht
      obtain ⟨k, hk⟩ : ∃ k, ord s t = k := ⟨_, rfl⟩
      rw [hk] at hlow hbr h2
      rw [hk] at hsy
      obtain ⟨v, hv⟩ : ∃ v, walkX X u (altW s t k) = v := ⟨_, rfl⟩
      have ha1 : ∀ x ∈ altW s t k, x < m := fun x hx => by rcases altW_mem hx with rfl | rfl <;> assumption
      have ha2 : ∀ x ∈ altW t s k, x < m := fun x hx => by rcases altW_mem hx with rfl | rfl <;> assumption
      have hvN : v < N := by rw [← hv]; exact h.walk _ u hu ha1
      rw [hv] at hlow
      obtain ⟨w1, w2, w3⟩ := (shL_iff h hr _ v _ hvN rfl).1 (hW v hvN)
      obtain ⟨B, hB⟩ : ∃ B, W.getD v [] = B := ⟨_, rfl⟩
      rw [hB] at w1 w2 w3
      have up1 : walkX X v (altW s t k).reverse = u := by rw [← hv]; exact h.back _ u hu ha1
      have up2 : walkX X v (altW t s k).reverse = u := by rw [← hv, hbr]; exact h.back _ u hu ha2
      -- the two words of u over v
      have mem : ∀ c d : Nat, (∀ x ∈ altW c d k, x < m) → c < m → walkX X v (altW c d k).reverse = u → lenX W (stepX X u c) = f → ∃ z', B ++ (altW c d k).reverse = z' ++ [c] ∧ z' ∈ shL W X f (stepX X u c) [] := by
        intro c d hcd hc hup lc
        obtain ⟨k', rfl⟩ : ∃ k', k = k' + 1 := ⟨k - 1, by omega⟩
        refine ⟨B ++ (altW d c k').reverse, by rw [altW, List.reverse_cons, List.append_assoc], ?_⟩
        have hdc : ∀ x ∈ altW d c k', x < m := fun x hx => hcd x (by rw [altW]; exact List.mem_cons_of_mem _ hx)
        refine (shL_iff h hr f _ _ (h.step u hu c hc) lc).2 ⟨by rw [List.length_append, List.length_reverse, altW_len]; omega, fun x hx => ?_, ?_⟩
        · rcases List.mem_append.1 hx with hx | hx
          · exact w2 x hx
          · exact hdc x (List.mem_reverse.1 hx)
        · rw [walk_append, w3]
          rw [altW, List.reverse_cons, walk_snoc] at hup
          have := h.inv _ (h.walk (altW d c k').reverse v hvN fun x hx => hdc x (List.mem_reverse.1 hx)) c hc
          rw [hup] at this
          exact this.symm
      obtain ⟨z1, e1, hz1⟩ := mem s t ha1 hs up1 ls
      obtain ⟨z2, e2, hz2⟩ := mem t s ha2 ht up2 lt'
      have c1 := (conn_all h hr hd hW f _ x' z1 (h.step u hu s hs) ls hx' hz1).snoc s
      have c2 := (conn_all h hr hd hW f _ z2 y' (h.step u hu t ht) lt' hz2 hy').snoc t
      rw [← e1] at c1
      rw [← e2] at c2
      refine c1.trans (ConnW.trans ?_ c2)
      intro P hP hp
      refine hP _ _ ?_ hp
      rw [altW_rev, altW_rev]
      by_cases hpar : k % 2 = 0
      · rw [if_pos hpar, if_pos hpar]
        exact ⟨B, [], t, s, ht, hs, fun e => hst e.symm, by rw [← hsy]; simp, by rw [← hsy]; simp⟩
      · rw [if_neg hpar, if_neg hpar]
        exact ⟨B, [], s, t, hs, ht, hst, by rw [hk]; simp, by rw [hk]; simp⟩
/-- A turn keeps the element, the letters and the length. -/
theorem TurnW.keeps (h : Gm m N W X) {ord : Nat → Nat → Nat} (hd : Gd m N W X ord) {x y : List Nat} (ht : TurnW m ord x y) (hx : ∀ s ∈ x, s < m) : y.length = x.length ∧ (∀ s ∈ y, s < m) ∧ walkX X 0 y = walkX X 0 x := by
  obtain ⟨l, r, a, b, ha, hb, hn, rfl, rfl⟩ := ht
  refine ⟨by simp [altW_len], fun s hs => ?_, ?_⟩
  · rcases List.mem_append.1 hs with hs | hs
    · rcases List.mem_append.1 hs with hs | hs
      · exact hx s (by simp [hs])
      · rcases altW_mem hs with rfl | rfl <;> assumption
    · exact hx s (by simp [hs])
  · rw [walk_append, walk_append, walk_append, walk_append, hd.brd _ (h.walk l 0 h.pos fun s hs => hx s (by simp [hs])) a ha b hb]
theorem TurnW.mem {ord : Nat → Nat → Nat} (h2 : ∀ a, a < m → ∀ b, b < m → 2 ≤ ord a b) {x y : List Nat} (ht : TurnW m ord x y) (s : Nat) : s ∈ x ↔ s ∈ y := by
  obtain ⟨l, r, a, b, ha, hb, hn, rfl, rfl⟩ := ht
  obtain ⟨k, hk⟩ : ∃ k, ord a b = k + 2 := ⟨ord a b - 2, by have := h2 a ha b hb; omega⟩
  have e : ∀ c d : Nat, s ∈ altW c d (k + 2) ↔ s = c ∨ s = d := fun c d => ⟨altW_mem, fun h => by rw [altW, altW]; rcases h with rfl | rfl <;> simp⟩
  rw [hk]
  simp only [List.mem_append, e]
  constructor <;> (intro h; rcases h with (h | h | h) | h <;> simp [h])
end
end Go.Proofs.Ytmlhecfhhhebnaa

/- Short words, plain: the search of the words that come from each other by turns. No Go in sight. -/
namespace Go.Proofs.Ytmlhecfhhhebnaa

section
variable {m N : Nat} {W X : List (List Nat)}
/-- A word turned at a place, if a side of the rule stands there. -/
def turnAt (ord : Nat → Nat → Nat) (x : List Nat) (p : Nat) : Option (List Nat) :=
  if p + 1 < x.length ∧ x.getD p 0 ≠ x.getD (p + 1) 0 ∧ p + ord (x.getD p 0) (x.getD (p + 1) 0) ≤ x.length ∧ (x.drop p).take (ord (x.getD p 0) (x.getD (p + 1) 0)) = altW (x.getD p 0) (x.getD (p + 1) 0) (ord (x.getD p 0) (x.getD (p + 1) 0)) then
    some (x.take p ++ altW (x.getD (p + 1) 0) (x.getD p 0) (ord (x.getD p 0) (x.getD (p + 1) 0)) ++ x.drop (p + ord (x.getD p 0) (x.getD (p + 1) 0)))
  else none
theorem turnAt_of {ord : Nat → Nat → Nat} (h2 : ∀ a, a < m → ∀ b, b < m → 2 ≤ ord a b) {x y : List Nat} (h : TurnW m ord x y) : ∃ p, turnAt ord x p = some y := by
  obtain ⟨l, r, a, b, ha, hb, hn, rfl, rfl⟩ := h
  obtain ⟨k, hk⟩ : ∃ k, ord a b = k + 2 := ⟨ord a b - 2, by have := h2 a ha b hb; omega⟩
  have e0 : (l ++ altW a b (ord a b) ++ r).getD l.length 0 = a := by
    rw [hk, altW]
    simp
  have e1 : (l ++ altW a b (ord a b) ++ r).getD (l.length + 1) 0 = b := by
    rw [hk, altW, altW]
    simp
  refine ⟨l.length, ?_⟩
  unfold turnAt
  rw [e0, e1]
  have hl : (altW a b (ord a b)).length = ord a b := altW_len a b _
  rw [if_pos]
  · congr 1
    rw [List.append_assoc l, List.take_left, List.drop_append, List.append_assoc]
    simp [hl]
  · refine ⟨?_, hn, ?_, ?_⟩
    · simp only [List.length_append, hl]; omega
    · simp only [List.length_append, hl]; omega
    · rw [List.append_assoc, List.drop_left, List.take_append_of_le_length (by omega), List.take_of_length_le (by omega)]
theorem turnAt_turn {ord : Nat → Nat → Nat} {x y : List Nat} {p : Nat} (hx : ∀ s ∈ x, s < m) (h : turnAt ord x p = some y) : TurnW m ord x y := by
  unfold turnAt at h
  split at h
  · rename_i hc
    obtain ⟨h1, h2, h3, h4⟩ := hc
    have ga : ∀ i, i < x.length → x.getD i 0 < m := fun i hi => by
      rw [List.getD_eq_getElem?_getD, List.getElem?_eq_getElem hi]
      exact hx _ (List.getElem_mem hi)
    refine ⟨x.take p, x.drop (p + ord (x.getD p 0) (x.getD (p + 1) 0)), _, _, ga p (by omega), ga (p + 1) h1, h2, ?_, (Option.some.inj h).symm⟩
    rw [← h4, List.append_assoc, ← List.drop_drop, List.take_append_drop, List.take_append_drop]
  · cases h
/-- The words met so far, and those still to be turned. -/
structure Bfs (ls : List (List Nat)) (met : List Bool) (todo : List Nat) : Prop where
  len : met.length = ls.length
  cnt : met.count true = todo.length
  iff : ∀ i, met[i]? = some true ↔ i ∈ todo
  zero : 0 ∈ todo
theorem Bfs.le {ls : List (List Nat)} {met : List Bool} {todo : List Nat} (h : Bfs ls met todo) : todo.length ≤ ls.length := by
  rw [← h.cnt, ← h.len]; exact List.count_le_length
theorem Bfs.lt {ls : List (List Nat)} {met : List Bool} {todo : List Nat} (h : Bfs ls met todo) {i : Nat} (hi : i ∈ todo) : i < ls.length := by
  rw [← h.len]; exact (List.getElem?_eq_some_iff.1 ((h.iff i).2 hi)).1
theorem Bfs.start {ls : List (List Nat)} (h0 : 0 < ls.length) : Bfs ls ((List.replicate ls.length false).set 0 true) [0] := by
  obtain ⟨n, hn⟩ : ∃ n, ls.length = n + 1 := ⟨ls.length - 1, by omega⟩
  refine ⟨by simp, ?_, fun i => ?_, by simp⟩
  · rw [hn, List.replicate_succ, List.set_cons_zero, List.count_cons, List.count_replicate]; rfl
  · rw [hn, List.replicate_succ, List.set_cons_zero]
    cases i with
    | zero => simp
    | succ i => simp [List.getElem?_replicate]
theorem Bfs.more {ls : List (List Nat)} {met : List Bool} {todo : List Nat} (h : Bfs ls met todo) {i : Nat} (hi : i < ls.length) (hm : met[i]? = some false) : Bfs ls (met.set i true) (todo ++ [i]) := by
  have hl : i < met.length := by rw [h.len]; exact hi
  have hg : met[i] = false := by rw [List.getElem?_eq_getElem hl] at hm; exact Option.some.inj hm
  refine ⟨by simp [h.len], ?_, fun j => ?_, List.mem_append_left _ h.zero⟩
  · rw [List.count_set hl, hg]
    simp [h.cnt]
  · rw [List.getElem?_set]
    by_cases e : i = j
    · subst e; simp [hl]
    · rw [if_neg e, h.iff, List.mem_append, List.mem_singleton]
      constructor
      · exact .inl
      · rintro (h1 | h1)
        · exact h1
        · exact absurd h1.symm e
/-- All turns of the first n words at hand, and of the next one up to a place, have been met. -/
def Shut (ord : Nat → Nat → Nat) (ls : List (List Nat)) (todo : List Nat) (n at' : Nat) : Prop :=
  ∀ j i p y, todo[j]? = some i → (j < n ∨ j = n ∧ p < at') → turnAt ord (ls.getD i []) p = some y → ∃ k ∈ todo, ls[k]? = some y
theorem Shut.more {ord : Nat → Nat → Nat} {ls : List (List Nat)} {todo : List Nat} {n at' : Nat} (h : Shut ord ls todo n at') (hn : n < todo.length) (i : Nat) : Shut ord ls (todo ++ [i]) n at' := by
  intro j i' p y hj hc ht
  rw [List.getElem?_append_left (by rcases hc with hc | ⟨hc, _⟩ <;> omega)] at hj
  obtain ⟨k, hk, e⟩ := h j i' p y hj hc ht
  exact ⟨k, List.mem_append_left _ hk, e⟩
theorem Shut.zero (ord : Nat → Nat → Nat) (ls : List (List Nat)) (todo : List Nat) : Shut ord ls todo 0 0 := by
  intro j i p y _ hc
  omega
theorem Shut.next {ord : Nat → Nat → Nat} {ls : List (List Nat)} {todo : List Nat} {n at' i : Nat} (h : Shut ord ls todo n at') (hi : todo[n]? = some i) (hs : ∀ y, turnAt ord (ls.getD i []) at' = some y → ∃ k ∈ todo, ls[k]? = some y) : Shut ord ls todo n (at' + 1) := by
  intro j i' p y hj hc ht
  by_cases e : j = n ∧ p = at'
  · obtain ⟨rfl, rfl⟩ := e
    rw [hi] at hj
    obtain rfl := Option.some.inj hj
    exact hs y ht
  · exact h j i' p y hj (by omega) ht
theorem Shut.row {ord : Nat → Nat → Nat} {ls : List (List Nat)} {todo : List Nat} {n i : Nat} (h : Shut ord ls todo n (ls.getD i []).length) (hi : todo[n]? = some i) : Shut ord ls todo (n + 1) 0 := by
  intro j i' p y hj hc ht
  by_cases e : j = n
  · subst e
    rw [hi] at hj
    obtain rfl := Option.some.inj hj
    refine h j i p y hi (.inr ⟨rfl, ?_⟩) ht
    unfold turnAt at ht
    split at ht
    · rename_i h2; omega
    · cases ht
  · exact h j i' p y hj (.inl (by omega)) ht
/-- At the end all have been met. -/
theorem bfs_all (h : Gm m N W X) (hr : ∀ u, u < N → (X.getD u []).length = m) {ord : Nat → Nat → Nat} (hd : Gd m N W X ord) (hW : ∀ u, u < N → (W.getD u []) ∈ shL W X (lenX W u) u []) {u : Nat} (hu : u < N) {ls : List (List Nat)} (hls : ∀ x, x ∈ ls ↔ x ∈ shL W X (lenX W u) u []) (hnd : ls.Nodup) {met : List Bool} {todo : List Nat} (hB : Bfs ls met todo) (hS : Shut ord ls todo todo.length 0) :
    ∀ i, i < ls.length → met[i]? = some true := by
  intro i hi
  have h0 : 0 < ls.length := by omega
  have hc := conn_all h hr hd hW _ u ls[0] ls[i] hu rfl ((hls _).1 (List.getElem_mem h0)) ((hls _).1 (List.getElem_mem hi))
  have hP := hc (fun x => ∃ k ∈ todo, ls[k]? = some x) ?_ ⟨0, hB.zero, List.getElem?_eq_getElem h0⟩
  · obtain ⟨k, hk, e⟩ := hP
    obtain ⟨hkl, e2⟩ := List.getElem?_eq_some_iff.1 e
    have : k = i := (List.getElem_inj hnd).1 e2
    subst this
    exact (hB.iff k).2 hk
  · rintro a b hab ⟨k, hk, e⟩
    obtain ⟨hkl, e2⟩ := List.getElem?_eq_some_iff.1 e
    obtain ⟨p, hp⟩ := turnAt_of hd.two hab
    obtain ⟨j, hj, ej⟩ := List.getElem_of_mem hk
    refine hS j k p b (by rw [List.getElem?_eq_getElem hj, ej]) (.inl hj) ?_
    have : ls.getD k [] = a := by rw [List.getD_eq_getElem?_getD, e]; rfl
    rw [this]; exact hp
/-- A turned word is a short word of the same element. -/
theorem turn_in (h : Gm m N W X) (hr : ∀ u, u < N → (X.getD u []).length = m) {ord : Nat → Nat → Nat} (hd : Gd m N W X ord) {u : Nat} (hu : u < N) {x y : List Nat} (hx : x ∈ shL W X (lenX W u) u []) {p : Nat} (ht : turnAt ord x p = some y) : y ∈ shL W X (lenX W u) u [] := by
  obtain ⟨h1, h2, h3⟩ := (shL_iff h hr _ u x hu rfl).1 hx
  obtain ⟨k1, k2, k3⟩ := (turnAt_turn h2 ht).keeps h hd h2
  exact (shL_iff h hr _ u y hu rfl).2 ⟨by omega, k2, by rw [k3, h3]⟩
/-- All have the same letters. -/
theorem letters_same (h : Gm m N W X) (hr : ∀ u, u < N → (X.getD u []).length = m) {ord : Nat → Nat → Nat} (hd : Gd m N W X ord) (hW : ∀ u, u < N → (W.getD u []) ∈ shL W X (lenX W u) u []) {u : Nat} (hu : u < N) {x y : List Nat} (hx : x ∈ shL W X (lenX W u) u []) (hy : y ∈ shL W X (lenX W u) u []) (s : Nat) : s ∈ x ↔ s ∈ y :=
  conn_all h hr hd hW _ u x y hu rfl hx hy (fun z => (s ∈ x ↔ s ∈ z)) (fun _ _ hab ha => ha.trans (hab.mem hd.two s)) Iff.rfl
end
end Go.Proofs.Ytmlhecfhhhebnaa

/- Short words, plain: their last letters. No Go in sight. -/
namespace Go.Proofs.Ytmlhecfhhhebnaa

section
variable {m N : Nat} {W X : List (List Nat)}
/-- The last letters of words, as bits. -/
def lastO (a : Nat) (x : List Nat) : Nat := if x.length = 0 then a else a ||| 2 ^ x.getD (x.length - 1) 0
def lastF (l : List (List Nat)) : Nat := l.foldl lastO 0
theorem lastF_test (s : Nat) : ∀ (l : List (List Nat)) (a : Nat), (l.foldl lastO a).testBit s = true ↔ a.testBit s = true ∨ ∃ x ∈ l, x ≠ [] ∧ x.getD (x.length - 1) 0 = s
  | [], a => by simp
  | x :: l, a => by
    rw [List.foldl_cons, lastF_test s l]
    unfold lastO
    by_cases h : x.length = 0
    · have hx : x = [] := List.length_eq_zero_iff.1 h
      rw [if_pos h]
      constructor
      · rintro (h1 | ⟨y, hy, h1⟩)
        · exact .inl h1
        · exact .inr ⟨y, List.mem_cons_of_mem _ hy, h1⟩
      · rintro (h1 | ⟨y, hy, h1, h2⟩)
        · exact .inl h1
        · rcases List.mem_cons.1 hy with rfl | hy
          · exact absurd hx h1
          · exact .inr ⟨y, hy, h1, h2⟩
    · have hx : x ≠ [] := fun e => h (by rw [e]; rfl)
      rw [if_neg h, Nat.testBit_or, Nat.testBit_two_pow, Bool.or_eq_true, decide_eq_true_eq]
      constructor
      · rintro ((h1 | h1) | ⟨y, hy, h1⟩)
        · exact .inl h1
        · exact .inr ⟨x, List.mem_cons_self, hx, h1⟩
        · exact .inr ⟨y, List.mem_cons_of_mem _ hy, h1⟩
      · rintro (h1 | ⟨y, hy, h1, h2⟩)
        · exact .inl (.inl h1)
        · rcases List.mem_cons.1 hy with rfl | hy
          · exact .inl (.inr h2)
          · exact .inr ⟨y, hy, h1, h2⟩
theorem fallsTo_test (W X : List (List Nat)) (u s : Nat) : ∀ k, (fallsTo W X u k).testBit s = true ↔ s < k ∧ fallB W X u s = true
  | 0 => by simp [fallsTo]
  | k + 1 => by
    rw [fallsTo]
    have ih := fallsTo_test W X u s k
    by_cases h : fallB W X u k = true
    · rw [if_pos h, Nat.testBit_or, Nat.testBit_two_pow, Bool.or_eq_true, decide_eq_true_eq, ih]
      constructor
      · rintro (⟨h1, h2⟩ | rfl)
        · exact ⟨by omega, h2⟩
        · exact ⟨by omega, h⟩
      · rintro ⟨h1, h2⟩
        by_cases e : k = s
        · exact .inr e
        · exact .inl ⟨by omega, h2⟩
    · rw [if_neg h, ih]
      constructor
      · rintro ⟨h1, h2⟩; exact ⟨by omega, h2⟩
      · rintro ⟨h1, h2⟩
        by_cases e : k = s
        · subst e; exact absurd h2 h
        · exact ⟨by omega, h2⟩
/-- The last letters of an element's short words are the mirrors that make it shorter. -/
theorem last_falls (h : Gm m N W X) (hr : ∀ u, u < N → (X.getD u []).length = m) (hW : ∀ u, u < N → (W.getD u []) ∈ shL W X (lenX W u) u []) {u : Nat} (hu : u < N) {ls : List (List Nat)} (hls : ∀ x, x ∈ ls ↔ x ∈ shL W X (lenX W u) u []) : lastF ls = fallsTo W X u m := by
  refine Nat.eq_of_testBit_eq fun s => ?_
  refine Bool.eq_iff_iff.2 ?_
  rw [fallsTo_test]
  unfold lastF
  rw [lastF_test]
  constructor
  · rintro (h1 | ⟨x, hx, h1, h2⟩)
    · simp at h1
    · obtain ⟨x1, x2, x3⟩ := (shL_iff h hr _ u x hu rfl).1 ((hls x).1 hx)
      obtain ⟨y, t, rfl⟩ : ∃ y t, x = y ++ [t] := ⟨x.dropLast, x.getLast h1, (List.dropLast_concat_getLast h1).symm⟩
      have e : t = s := by simpa using h2
      subst e
      have ht : t < m := x2 t (by simp)
      have hy : ∀ t ∈ y, t < m := fun t ht => x2 t (List.mem_append_left _ ht)
      rw [walk_snoc] at x3
      have e1 := h.inv _ (h.walk y 0 h.pos hy) t ht
      rw [x3] at e1
      have e2 := h.len_walk y 0 h.pos hy
      have e3 := h.len0
      simp at x1
      rw [← e1] at e2
      exact ⟨ht, by unfold fallB; simp; omega⟩
  · rintro ⟨h1, h2⟩
    unfold fallB at h2
    have h3 : lenX W (stepX X u s) < lenX W u := by simpa using h2
    have hv := h.step u hu s h1
    obtain ⟨y1, y2, y3⟩ := (shL_iff h hr _ _ _ hv rfl).1 (hW _ hv)
    have h4 := h.one u hu s h1
    refine .inr ⟨W.getD (stepX X u s) [] ++ [s], (hls _).2 ((shL_iff h hr _ u _ hu rfl).2 ⟨by rw [List.length_append, y1]; simp; omega, fun t ht => ?_, ?_⟩), by simp, by simp⟩
    · rcases List.mem_append.1 ht with ht | ht
      · exact y2 t ht
      · have : t = s := by simpa using ht
        omega
    · rw [walk_snoc, y3]; exact h.inv u hu s h1
end
end Go.Proofs.Ytmlhecfhhhebnaa

/- Short words, plain: what the laws lean on, checked for the 17 groups by the kernel. No Go in sight. -/
namespace Go.Proofs.Ytmlhecfhhhebnaa

def oQ65x1 : List (List Nat) := [[1], [0]]
def oQ65x2 : List (List Nat) := [[1, 2, 5], [0, 3, 4], [4, 0, 3], [5, 1, 2], [2, 5, 1], [3, 4, 0]]
def oQ65x3 : List (List Nat) := [[1, 2, 3, 9, 13, 21], [0, 4, 5, 6, 16, 19], [6, 0, 7, 4, 8, 23], [5, 8, 0, 17, 7, 15], [9, 1, 10, 2, 11, 22], [3, 11, 1, 14, 10, 12], [2, 9, 12, 1, 20, 14], [12, 13, 2, 22, 3, 10], [14, 3, 13, 11, 2, 20], [4, 6, 15, 0, 18, 17], [15, 16, 4, 23, 5, 7], [17, 5, 16, 8, 4, 18], [7, 18, 6, 19, 15, 5], [19, 7, 8, 18, 0, 16], [8, 17, 19, 5, 23, 6], [10, 20, 9, 21, 12, 3], [21, 10, 11, 20, 1, 13], [11, 14, 21, 3, 22, 9], [22, 12, 20, 13, 9, 11], [13, 22, 14, 12, 21, 1], [23, 15, 18, 16, 6, 8], [16, 23, 17, 15, 19, 0], [18, 19, 23, 7, 17, 4], [20, 21, 22, 10, 14, 2]]
def oQ65x4 : List (List Nat) := [[1, 2, 3, 4, 14, 22, 27, 52, 66, 97], [0, 5, 6, 7, 8, 31, 36, 41, 77, 88], [8, 0, 9, 10, 5, 11, 43, 71, 47, 108], [6, 11, 0, 12, 34, 9, 13, 29, 87, 110], [7, 10, 13, 0, 30, 44, 12, 78, 42, 75], [14, 1, 15, 16, 2, 17, 54, 60, 58, 102], [3, 17, 1, 18, 25, 15, 19, 20, 96, 104], [4, 16, 19, 1, 21, 55, 18, 67, 53, 64], [2, 14, 20, 21, 1, 49, 62, 25, 93, 70], [20, 22, 2, 23, 60, 3, 24, 15, 69, 116], [21, 4, 24, 2, 16, 28, 23, 94, 26, 91], [25, 3, 22, 26, 17, 2, 65, 49, 28, 117], [18, 26, 27, 3, 56, 69, 4, 99, 23, 50], [19, 28, 4, 27, 59, 24, 3, 51, 65, 95], [5, 8, 29, 30, 0, 38, 73, 34, 84, 81], [29, 31, 5, 32, 71, 6, 33, 9, 80, 113], [30, 7, 33, 5, 10, 37, 32, 85, 35, 82], [34, 6, 31, 35, 11, 5, 76, 38, 37, 114], [12, 35, 36, 6, 45, 80, 7, 90, 32, 39], [13, 37, 7, 36, 48, 33, 6, 40, 76, 86], [9, 38, 8, 39, 41, 29, 40, 6, 107, 90], [10, 30, 40, 8, 7, 74, 39, 48, 72, 45], [41, 9, 11, 42, 38, 0, 46, 31, 44, 119], [39, 42, 43, 9, 82, 87, 10, 113, 12, 32], [40, 44, 10, 43, 85, 13, 9, 33, 46, 106], [11, 34, 41, 45, 6, 71, 86, 8, 109, 48], [45, 12, 46, 11, 35, 47, 42, 111, 10, 72], [36, 47, 12, 13, 81, 46, 0, 79, 43, 73], [48, 13, 44, 47, 37, 10, 87, 74, 11, 109], [15, 49, 14, 50, 52, 20, 51, 3, 101, 99], [16, 21, 51, 14, 4, 63, 50, 59, 61, 56], [52, 15, 17, 53, 49, 1, 57, 22, 55, 118], [50, 53, 54, 15, 91, 96, 16, 116, 18, 23], [51, 55, 16, 54, 94, 19, 15, 24, 57, 100], [17, 25, 52, 56, 3, 60, 95, 14, 103, 59], [56, 18, 57, 17, 26, 58, 53, 105, 16, 61], [27, 58, 18, 19, 70, 57, 1, 68, 54, 62], [59, 19, 55, 58, 28, 16, 96, 63, 17, 103], [60, 20, 49, 61, 22, 14, 92, 17, 63, 105], [23, 61, 62, 20, 64, 101, 21, 104, 50, 18], [24, 63, 21, 62, 67, 51, 20, 19, 92, 68], [22, 60, 25, 64, 20, 52, 68, 1, 115, 67], [64, 23, 65, 22, 61, 66, 26, 118, 4, 53], [62, 66, 23, 24, 102, 65, 2, 100, 27, 54], [67, 24, 28, 66, 63, 4, 69, 55, 22, 115], [26, 56, 68, 25, 18, 98, 64, 70, 91, 21], [68, 69, 26, 65, 105, 27, 22, 57, 24, 92], [70, 27, 69, 28, 58, 26, 66, 98, 2, 93], [28, 59, 67, 70, 19, 94, 104, 21, 117, 25], [71, 29, 38, 72, 31, 8, 83, 11, 74, 111], [32, 72, 73, 29, 75, 107, 30, 110, 39, 12], [33, 74, 30, 73, 78, 40, 29, 13, 83, 79], [31, 71, 34, 75, 29, 41, 79, 0, 112, 78], [75, 32, 76, 31, 72, 77, 35, 119, 7, 42], [73, 77, 32, 33, 108, 76, 5, 106, 36, 43], [78, 33, 37, 77, 74, 7, 80, 44, 31, 112], [35, 45, 79, 34, 12, 89, 75, 81, 82, 30], [79, 80, 35, 76, 111, 36, 31, 46, 33, 83], [81, 36, 80, 37, 47, 35, 77, 89, 5, 84], [37, 48, 78, 81, 13, 85, 110, 30, 114, 34], [38, 41, 71, 82, 9, 34, 106, 5, 89, 85], [82, 39, 83, 38, 42, 84, 72, 114, 30, 35], [43, 84, 39, 40, 88, 83, 8, 86, 73, 36], [85, 40, 74, 84, 44, 30, 107, 37, 38, 89], [42, 82, 86, 41, 39, 112, 45, 88, 75, 7], [86, 87, 42, 46, 114, 43, 11, 83, 13, 76], [88, 43, 87, 44, 84, 42, 47, 112, 0, 77], [44, 85, 48, 88, 40, 78, 90, 7, 119, 41], [46, 89, 45, 86, 90, 79, 41, 36, 106, 40], [90, 46, 47, 87, 89, 12, 44, 80, 9, 107], [47, 81, 90, 48, 36, 111, 88, 45, 108, 8], [49, 52, 60, 91, 15, 25, 100, 2, 98, 94], [91, 50, 92, 49, 53, 93, 61, 117, 21, 26], [54, 93, 50, 51, 97, 92, 14, 95, 62, 27], [94, 51, 63, 93, 55, 21, 101, 28, 49, 98], [53, 91, 95, 52, 50, 115, 56, 97, 64, 4], [95, 96, 53, 57, 117, 54, 17, 92, 19, 65], [97, 54, 96, 55, 93, 53, 58, 115, 1, 66], [55, 94, 59, 97, 51, 67, 99, 4, 118, 52], [57, 98, 56, 95, 99, 68, 52, 27, 100, 51], [99, 57, 58, 96, 98, 18, 55, 69, 15, 101], [58, 70, 99, 59, 27, 105, 97, 56, 102, 14], [61, 64, 100, 60, 23, 103, 91, 102, 56, 16], [100, 101, 61, 92, 118, 62, 49, 65, 51, 57], [102, 62, 101, 63, 66, 61, 93, 103, 14, 58], [63, 67, 94, 102, 24, 59, 116, 16, 105, 60], [65, 103, 64, 68, 104, 100, 25, 62, 95, 19], [104, 65, 66, 69, 103, 23, 28, 101, 3, 96], [66, 102, 104, 67, 62, 118, 70, 64, 97, 1], [105, 68, 98, 103, 69, 56, 115, 58, 60, 63], [69, 105, 70, 104, 68, 99, 67, 18, 116, 20], [72, 75, 106, 71, 32, 109, 82, 108, 45, 10], [106, 107, 72, 83, 119, 73, 38, 76, 40, 46], [108, 73, 107, 74, 77, 72, 84, 109, 8, 47], [74, 78, 85, 108, 33, 48, 113, 10, 111, 71], [76, 109, 75, 79, 110, 106, 34, 73, 86, 13], [110, 76, 77, 80, 109, 32, 37, 107, 6, 87], [77, 108, 110, 78, 73, 119, 81, 75, 88, 0], [111, 79, 89, 109, 80, 45, 112, 47, 71, 74], [80, 111, 81, 110, 79, 90, 78, 12, 113, 29], [83, 112, 82, 106, 113, 86, 71, 43, 79, 33], [113, 83, 84, 107, 112, 39, 74, 87, 29, 80], [84, 88, 113, 85, 43, 114, 108, 82, 81, 5], [114, 86, 112, 89, 87, 82, 109, 84, 34, 37], [87, 114, 88, 90, 86, 113, 48, 39, 110, 6], [89, 90, 111, 114, 46, 81, 119, 35, 85, 38], [92, 115, 91, 100, 116, 95, 60, 54, 68, 24], [116, 92, 93, 101, 115, 50, 63, 96, 20, 69], [93, 97, 116, 94, 54, 117, 102, 91, 70, 2], [117, 95, 115, 98, 96, 91, 103, 93, 25, 28], [96, 117, 97, 99, 95, 116, 59, 50, 104, 3], [98, 99, 105, 117, 57, 70, 118, 26, 94, 49], [118, 100, 103, 115, 101, 64, 98, 66, 52, 55], [101, 118, 102, 116, 100, 104, 94, 23, 99, 15], [103, 104, 118, 105, 65, 102, 117, 61, 59, 17], [119, 106, 109, 112, 107, 75, 89, 77, 41, 44], [107, 119, 108, 113, 106, 110, 85, 32, 90, 9], [109, 110, 119, 111, 76, 108, 114, 72, 48, 11], [112, 113, 114, 119, 83, 88, 111, 42, 78, 31], [115, 116, 117, 118, 92, 97, 105, 53, 67, 22]]
def oQ66x2 : List (List Nat) := [[1, 2, 5, 6], [0, 3, 4, 7], [4, 0, 7, 3], [5, 1, 6, 2], [2, 6, 1, 5], [3, 7, 0, 4], [7, 4, 3, 0], [6, 5, 2, 1]]
def oQ66x3 : List (List Nat) := [[1, 2, 3, 9, 13, 15, 25, 27, 42], [0, 4, 5, 6, 17, 19, 21, 23, 44], [6, 0, 7, 4, 8, 22, 32, 36, 35], [5, 8, 0, 18, 22, 7, 34, 16, 46], [9, 1, 10, 2, 11, 26, 28, 39, 31], [3, 11, 1, 14, 26, 10, 30, 12, 47], [2, 9, 12, 1, 24, 29, 14, 30, 40], [12, 13, 2, 28, 15, 3, 39, 10, 41], [14, 3, 15, 11, 2, 13, 40, 43, 24], [4, 6, 16, 0, 20, 33, 18, 34, 37], [16, 17, 4, 32, 19, 5, 36, 7, 38], [18, 5, 19, 8, 4, 17, 37, 45, 20], [7, 20, 6, 21, 33, 16, 23, 5, 45], [21, 7, 22, 20, 0, 8, 44, 38, 17], [8, 18, 23, 5, 35, 38, 6, 21, 32], [23, 22, 8, 37, 7, 0, 45, 19, 33], [10, 24, 9, 25, 29, 12, 27, 3, 43], [25, 10, 26, 24, 1, 11, 42, 41, 13], [11, 14, 27, 3, 31, 41, 9, 25, 28], [27, 26, 11, 40, 10, 1, 43, 15, 29], [28, 12, 29, 13, 9, 24, 31, 47, 11], [13, 28, 30, 12, 42, 43, 1, 14, 25], [30, 15, 13, 31, 3, 2, 47, 29, 26], [15, 31, 14, 30, 41, 27, 12, 1, 39], [32, 16, 33, 17, 6, 20, 35, 46, 8], [17, 32, 34, 16, 44, 45, 0, 18, 21], [34, 19, 17, 35, 5, 4, 46, 33, 22], [19, 35, 18, 34, 38, 23, 16, 0, 36], [20, 21, 36, 7, 37, 46, 4, 32, 18], [36, 33, 20, 44, 16, 6, 38, 22, 19], [22, 37, 21, 23, 46, 36, 5, 6, 34], [37, 23, 38, 22, 18, 35, 20, 44, 4], [24, 25, 39, 10, 40, 47, 2, 28, 14], [39, 29, 24, 42, 12, 9, 41, 26, 15], [26, 40, 25, 27, 47, 39, 3, 9, 30], [40, 27, 41, 26, 14, 31, 24, 42, 2], [29, 42, 28, 39, 43, 30, 10, 2, 27], [31, 30, 43, 15, 28, 42, 11, 40, 9], [43, 41, 31, 47, 27, 14, 29, 13, 10], [33, 44, 32, 36, 45, 34, 7, 4, 23], [35, 34, 45, 19, 32, 44, 8, 37, 6], [45, 38, 35, 46, 23, 18, 33, 17, 7], [44, 36, 46, 33, 21, 37, 17, 35, 0], [38, 46, 37, 45, 36, 21, 19, 8, 16], [42, 39, 47, 29, 25, 40, 13, 31, 1], [41, 47, 40, 43, 39, 25, 15, 11, 12], [47, 43, 42, 41, 30, 28, 26, 24, 3], [46, 45, 44, 38, 34, 32, 22, 20, 5]]
def oQ73x2 : List (List Nat) := [[1, 2], [0, 3], [3, 0], [2, 1]]
def oQ73x3 : List (List Nat) := [[1, 2, 5], [0, 3, 4], [4, 0, 3], [5, 1, 2], [2, 5, 1], [3, 4, 0]]
def oQ73x4 : List (List Nat) := [[1, 2, 5, 6], [0, 3, 4, 7], [4, 0, 7, 3], [5, 1, 6, 2], [2, 6, 1, 5], [3, 7, 0, 4], [7, 4, 3, 0], [6, 5, 2, 1]]
def oQ73x5 : List (List Nat) := [[1, 2, 5, 6, 9], [0, 3, 4, 7, 8], [4, 0, 8, 3, 7], [5, 1, 9, 2, 6], [2, 6, 1, 9, 5], [3, 7, 0, 8, 4], [8, 4, 7, 0, 3], [9, 5, 6, 1, 2], [6, 9, 2, 5, 1], [7, 8, 3, 4, 0]]
def oQ73x6 : List (List Nat) := [[1, 2, 5, 6, 9, 10], [0, 3, 4, 7, 8, 11], [4, 0, 8, 3, 11, 7], [5, 1, 9, 2, 10, 6], [2, 6, 1, 10, 5, 9], [3, 7, 0, 11, 4, 8], [8, 4, 11, 0, 7, 3], [9, 5, 10, 1, 6, 2], [6, 10, 2, 9, 1, 5], [7, 11, 3, 8, 0, 4], [11, 8, 7, 4, 3, 0], [10, 9, 6, 5, 2, 1]]
def oQ73x7 : List (List Nat) := [[1, 2, 5, 6, 9, 10, 13], [0, 3, 4, 7, 8, 11, 12], [4, 0, 8, 3, 12, 7, 11], [5, 1, 9, 2, 13, 6, 10], [2, 6, 1, 10, 5, 13, 9], [3, 7, 0, 11, 4, 12, 8], [8, 4, 12, 0, 11, 3, 7], [9, 5, 13, 1, 10, 2, 6], [6, 10, 2, 13, 1, 9, 5], [7, 11, 3, 12, 0, 8, 4], [12, 8, 11, 4, 7, 0, 3], [13, 9, 10, 5, 6, 1, 2], [10, 13, 6, 9, 2, 5, 1], [11, 12, 7, 8, 3, 4, 0]]
def oQ73x8 : List (List Nat) := [[1, 2, 5, 6, 9, 10, 13, 14], [0, 3, 4, 7, 8, 11, 12, 15], [4, 0, 8, 3, 12, 7, 15, 11], [5, 1, 9, 2, 13, 6, 14, 10], [2, 6, 1, 10, 5, 14, 9, 13], [3, 7, 0, 11, 4, 15, 8, 12], [8, 4, 12, 0, 15, 3, 11, 7], [9, 5, 13, 1, 14, 2, 10, 6], [6, 10, 2, 14, 1, 13, 5, 9], [7, 11, 3, 15, 0, 12, 4, 8], [12, 8, 15, 4, 11, 0, 7, 3], [13, 9, 14, 5, 10, 1, 6, 2], [10, 14, 6, 13, 2, 9, 1, 5], [11, 15, 7, 12, 3, 8, 0, 4], [15, 12, 11, 8, 7, 4, 3, 0], [14, 13, 10, 9, 6, 5, 2, 1]]
def oQ73x9 : List (List Nat) := [[1, 2, 5, 6, 9, 10, 13, 14, 17], [0, 3, 4, 7, 8, 11, 12, 15, 16], [4, 0, 8, 3, 12, 7, 16, 11, 15], [5, 1, 9, 2, 13, 6, 17, 10, 14], [2, 6, 1, 10, 5, 14, 9, 17, 13], [3, 7, 0, 11, 4, 15, 8, 16, 12], [8, 4, 12, 0, 16, 3, 15, 7, 11], [9, 5, 13, 1, 17, 2, 14, 6, 10], [6, 10, 2, 14, 1, 17, 5, 13, 9], [7, 11, 3, 15, 0, 16, 4, 12, 8], [12, 8, 16, 4, 15, 0, 11, 3, 7], [13, 9, 17, 5, 14, 1, 10, 2, 6], [10, 14, 6, 17, 2, 13, 1, 9, 5], [11, 15, 7, 16, 3, 12, 0, 8, 4], [16, 12, 15, 8, 11, 4, 7, 0, 3], [17, 13, 14, 9, 10, 5, 6, 1, 2], [14, 17, 10, 13, 6, 9, 2, 5, 1], [15, 16, 11, 12, 7, 8, 3, 4, 0]]
def oQ73x10 : List (List Nat) := [[1, 2, 5, 6, 9, 10, 13, 14, 17, 18], [0, 3, 4, 7, 8, 11, 12, 15, 16, 19], [4, 0, 8, 3, 12, 7, 16, 11, 19, 15], [5, 1, 9, 2, 13, 6, 17, 10, 18, 14], [2, 6, 1, 10, 5, 14, 9, 18, 13, 17], [3, 7, 0, 11, 4, 15, 8, 19, 12, 16], [8, 4, 12, 0, 16, 3, 19, 7, 15, 11], [9, 5, 13, 1, 17, 2, 18, 6, 14, 10], [6, 10, 2, 14, 1, 18, 5, 17, 9, 13], [7, 11, 3, 15, 0, 19, 4, 16, 8, 12], [12, 8, 16, 4, 19, 0, 15, 3, 11, 7], [13, 9, 17, 5, 18, 1, 14, 2, 10, 6], [10, 14, 6, 18, 2, 17, 1, 13, 5, 9], [11, 15, 7, 19, 3, 16, 0, 12, 4, 8], [16, 12, 19, 8, 15, 4, 11, 0, 7, 3], [17, 13, 18, 9, 14, 5, 10, 1, 6, 2], [14, 18, 10, 17, 6, 13, 2, 9, 1, 5], [15, 19, 11, 16, 7, 12, 3, 8, 0, 4], [19, 16, 15, 12, 11, 8, 7, 4, 3, 0], [18, 17, 14, 13, 10, 9, 6, 5, 2, 1]]
def oQ73x11 : List (List Nat) := [[1, 2, 5, 6, 9, 10, 13, 14, 17, 18, 21], [0, 3, 4, 7, 8, 11, 12, 15, 16, 19, 20], [4, 0, 8, 3, 12, 7, 16, 11, 20, 15, 19], [5, 1, 9, 2, 13, 6, 17, 10, 21, 14, 18], [2, 6, 1, 10, 5, 14, 9, 18, 13, 21, 17], [3, 7, 0, 11, 4, 15, 8, 19, 12, 20, 16], [8, 4, 12, 0, 16, 3, 20, 7, 19, 11, 15], [9, 5, 13, 1, 17, 2, 21, 6, 18, 10, 14], [6, 10, 2, 14, 1, 18, 5, 21, 9, 17, 13], [7, 11, 3, 15, 0, 19, 4, 20, 8, 16, 12], [12, 8, 16, 4, 20, 0, 19, 3, 15, 7, 11], [13, 9, 17, 5, 21, 1, 18, 2, 14, 6, 10], [10, 14, 6, 18, 2, 21, 1, 17, 5, 13, 9], [11, 15, 7, 19, 3, 20, 0, 16, 4, 12, 8], [16, 12, 20, 8, 19, 4, 15, 0, 11, 3, 7], [17, 13, 21, 9, 18, 5, 14, 1, 10, 2, 6], [14, 18, 10, 21, 6, 17, 2, 13, 1, 9, 5], [15, 19, 11, 20, 7, 16, 3, 12, 0, 8, 4], [20, 16, 19, 12, 15, 8, 11, 4, 7, 0, 3], [21, 17, 18, 13, 14, 9, 10, 5, 6, 1, 2], [18, 21, 14, 17, 10, 13, 6, 9, 2, 5, 1], [19, 20, 15, 16, 11, 12, 7, 8, 3, 4, 0]]
def oQ73x12 : List (List Nat) := [[1, 2, 5, 6, 9, 10, 13, 14, 17, 18, 21, 22], [0, 3, 4, 7, 8, 11, 12, 15, 16, 19, 20, 23], [4, 0, 8, 3, 12, 7, 16, 11, 20, 15, 23, 19], [5, 1, 9, 2, 13, 6, 17, 10, 21, 14, 22, 18], [2, 6, 1, 10, 5, 14, 9, 18, 13, 22, 17, 21], [3, 7, 0, 11, 4, 15, 8, 19, 12, 23, 16, 20], [8, 4, 12, 0, 16, 3, 20, 7, 23, 11, 19, 15], [9, 5, 13, 1, 17, 2, 21, 6, 22, 10, 18, 14], [6, 10, 2, 14, 1, 18, 5, 22, 9, 21, 13, 17], [7, 11, 3, 15, 0, 19, 4, 23, 8, 20, 12, 16], [12, 8, 16, 4, 20, 0, 23, 3, 19, 7, 15, 11], [13, 9, 17, 5, 21, 1, 22, 2, 18, 6, 14, 10], [10, 14, 6, 18, 2, 22, 1, 21, 5, 17, 9, 13], [11, 15, 7, 19, 3, 23, 0, 20, 4, 16, 8, 12], [16, 12, 20, 8, 23, 4, 19, 0, 15, 3, 11, 7], [17, 13, 21, 9, 22, 5, 18, 1, 14, 2, 10, 6], [14, 18, 10, 22, 6, 21, 2, 17, 1, 13, 5, 9], [15, 19, 11, 23, 7, 20, 3, 16, 0, 12, 4, 8], [20, 16, 23, 12, 19, 8, 15, 4, 11, 0, 7, 3], [21, 17, 22, 13, 18, 9, 14, 5, 10, 1, 6, 2], [18, 22, 14, 21, 10, 17, 6, 13, 2, 9, 1, 5], [19, 23, 15, 20, 11, 16, 7, 12, 3, 8, 0, 4], [23, 20, 19, 16, 15, 12, 11, 8, 7, 4, 3, 0], [22, 21, 18, 17, 14, 13, 10, 9, 6, 5, 2, 1]]
def oQT (K n : Nat) : List (List Nat) :=
  if K = 65 ∧ n = 1 then oQ65x1 else if K = 65 ∧ n = 2 then oQ65x2 else if K = 65 ∧ n = 3 then oQ65x3 else if K = 65 ∧ n = 4 then oQ65x4 else if K = 66 ∧ n = 2 then oQ66x2 else if K = 66 ∧ n = 3 then oQ66x3 else if K = 73 ∧ n = 2 then oQ73x2 else if K = 73 ∧ n = 3 then oQ73x3 else if K = 73 ∧ n = 4 then oQ73x4 else if K = 73 ∧ n = 5 then oQ73x5 else if K = 73 ∧ n = 6 then oQ73x6 else if K = 73 ∧ n = 7 then oQ73x7 else if K = 73 ∧ n = 8 then oQ73x8 else if K = 73 ∧ n = 9 then oQ73x9 else if K = 73 ∧ n = 10 then oQ73x10 else if K = 73 ∧ n = 11 then oQ73x11 else if K = 73 ∧ n = 12 then oQ73x12 else []
/-- How many letters a side of the rule has. -/
def ordG (K n a b : Nat) : Nat := if K = 73 then n else if 1 < max (a - b) (b - a) then 2 else if K = 66 ∧ max a b = n - 1 then 4 else 3
theorem gm_all : (allGroups.all fun g => ckGm (mirs g.1 g.2) (litW g.1 g.2) (litX g.1 g.2)) = true := by decide +kernel
theorem gd_all : (allGroups.all fun g => ckGd (mirs g.1 g.2) (litW g.1 g.2) (litX g.1 g.2) (ordG g.1 g.2)) = true := by decide +kernel
theorem rq_all : (allGroups.all fun g => ckRq (mirs g.1 g.2) (litW g.1 g.2) (litX g.1 g.2) (oQT g.1 g.2)) = true := by decide +kernel
section
variable {K n : Nat}
theorem gmG (hv : validB K n = true) : Gm (mirs K n) (wordsG K n).length (wordsG K n) (nextG K n) := by
  rw [(lit_of hv).1, (lit_of hv).2]
  exact gm_of (List.all_eq_true.1 gm_all _ (valid_in hv))
theorem gdG (hv : validB K n = true) : Gd (mirs K n) (wordsG K n).length (wordsG K n) (nextG K n) (ordG K n) := by
  rw [(lit_of hv).1, (lit_of hv).2]
  exact gd_of (List.all_eq_true.1 gd_all _ (valid_in hv))
theorem rqG (hv : validB K n = true) : Rq (mirs K n) (wordsG K n).length (wordsG K n) (nextG K n) (oQT K n) := by
  rw [(lit_of hv).1, (lit_of hv).2]
  exact rq_of (List.all_eq_true.1 rq_all _ (valid_in hv))
theorem rowG (hv : validB K n = true) : ∀ u, u < (wordsG K n).length → ((nextG K n).getD u []).length = mirs K n := fun u hu => by
  obtain ⟨r, _, h2, h3, _⟩ := (tkG hv).rowAt hu
  rw [h2]; exact h3
theorem inX (hv : validB K n = true) : ∀ u, u < (wordsG K n).length → ∀ v ∈ (nextG K n).getD u [], v < (wordsG K n).length := fun u hu v h => by
  obtain ⟨r, _, h2, _, h4⟩ := (tkG hv).rowAt hu
  rw [h2] at h; exact h4 v h
theorem wordIn (hv : validB K n = true) : ∀ u, u < (wordsG K n).length → (wordsG K n).getD u [] ∈ shL (wordsG K n) (nextG K n) (lenX (wordsG K n) u) u [] := fun u hu => by
  refine (shL_iff (gmG hv) (rowG hv) _ u _ hu rfl).2 ⟨rfl, fun s hs => ?_, walk_at hv hu⟩
  rw [getDL hu] at hs
  exact (tkG hv).letter _ (List.getElem_mem hu) s hs
end
end Go.Proofs.Ytmlhecfhhhebnaa
