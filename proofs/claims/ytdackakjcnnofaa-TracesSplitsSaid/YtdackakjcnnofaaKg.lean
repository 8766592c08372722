/- A group of permutations with at most 24 elements is one of the list. -/
import Derived.Test.YtdackakjcnnofaaKf
namespace Go.Proofs.Ytdackakjcnnofaa

theorem ltB_sorted : ∀ {l : List (List Nat)}, ltB l = true → l.Pairwise (· < ·)
  | [], _ => List.Pairwise.nil
  | [a], _ => List.pairwise_singleton _ _
  | a :: b :: l, h => by
    unfold ltB at h
    simp only [Bool.and_eq_true, decide_eq_true_eq] at h
    have h2 := ltB_sorted h.2
    refine List.pairwise_cons.2 ⟨fun x hx => ?_, h2⟩
    rcases List.mem_cons.1 hx with rfl | hx
    · exact h.1
    · exact List.lt_trans h.1 ((List.pairwise_cons.1 h2).1 x hx)
theorem elX_get {i : Nat} (hi : i < 120) : p5L[i]? = some (elX i) := by
  have hl : i < p5L.length := by rw [p5L_length]; exact hi
  rw [elX, List.getD_eq_getElem?_getD, List.getElem?_eq_getElem hl]; rfl
theorem elX_lt {i j : Nat} (hij : i < j) (hj : j < 120) : elX i < elX j := by
  have h := List.pairwise_iff_getElem.1 (ltB_sorted p5L_sorted) i j (by rw [p5L_length]; omega) (by rw [p5L_length]; exact hj) hij
  rw [(List.getElem?_eq_some_iff.1 (elX_get (i := i) (by omega))).2, (List.getElem?_eq_some_iff.1 (elX_get hj)).2] at h
  exact h
theorem elX_inj {i j : Nat} (hi : i < 120) (hj : j < 120) (h : elX i = elX j) : i = j := by
  rcases Nat.lt_trichotomy i j with hlt | he | hlt
  · have := elX_lt hlt hj
    rw [h] at this
    exact absurd this (List.lt_irrefl _)
  · exact he
  · have := elX_lt hlt hi
    rw [h] at this
    exact absurd this (List.lt_irrefl _)
theorem nodB_nodup : ∀ {x : List Nat}, nodB x = true → x.Nodup
  | [], _ => List.Pairwise.nil
  | a :: x, h => by
    unfold nodB at h
    simp only [Bool.and_eq_true, Bool.not_eq_true'] at h
    rw [List.nodup_cons]
    exact ⟨fun hm => by have := h.1; simp [hm] at this, nodB_nodup h.2⟩
theorem elX_perm {i : Nat} (hi : i < 120) : Perm1 5 (elX i) := by
  have h := List.all_eq_true.1 p5L_perm _ (List.mem_of_getElem? (elX_get hi))
  simp only [Bool.and_eq_true, List.all_eq_true] at h
  exact ⟨Nat.eq_of_beq_eq_true h.1.1, fun k hk => Nat.le_of_ble_eq_true (h.1.2 k hk), nodB_nodup h.2⟩
theorem perm_elX {x : List Nat} (h : Perm1 5 x) : ∃ i, i < 120 ∧ elX i = x := by
  have hm := @listsP_mem 5 x h.lt
  rw [h.len] at hm
  have h1 := List.all_eq_true.1 p5L_all x hm
  rw [nodB_of h.nodup, Bool.not_true, Bool.false_or] at h1
  obtain ⟨i, hi, e⟩ := List.getElem_of_mem (List.elem_iff.1 h1)
  have hi' : i < 120 := by rw [p5L_length] at hi; exact hi
  exact ⟨i, hi', by rw [← e]; exact ((List.getElem?_eq_some_iff.1 (elX_get hi')).2).symm⟩
theorem mulT_ok {i j : Nat} (hi : i < 120) (hj : j < 120) : mulT i j < 120 ∧ elX (mulT i j) = mulP (elX i) (elX j) := by
  have hl : i < p5L.length := by rw [p5L_length]; exact hi
  have hr : i < rowM.length := by rw [rowM_length]; exact hi
  have hz : (p5L.zip rowM)[i]? = some (elX i, rowM[i]) := by
    rw [List.getElem?_zip_eq_some]
    exact ⟨elX_get hi, List.getElem?_eq_getElem hr⟩
  have h1 := List.all_eq_true.1 rows_checked _ (List.mem_of_getElem? hz)
  unfold rowOk at h1
  have hq : p5L.zipIdx[j]? = some (elX j, j) := by
    rw [List.getElem?_zipIdx, elX_get hj]
    simp
  have h2 := List.all_eq_true.1 h1 _ (List.mem_of_getElem? hq)
  simp only [Bool.and_eq_true] at h2
  have hq2 : rowM.zipIdx[i]? = some (rowM[i], i) := by
    rw [List.getElem?_zipIdx, List.getElem?_eq_getElem hr]
    simp
  have h3 := List.all_eq_true.1 tab_checked _ (List.mem_of_getElem? hq2)
  have h4 := Nat.eq_of_beq_eq_true (List.all_eq_true.1 h3 j (List.mem_range.2 hj))
  rw [h4]
  exact ⟨Nat.le_of_ble_eq_true h2.1, beq_iff_eq.1 h2.2⟩
theorem padP_perm {d : Nat} {x : List Nat} (hd : d ≤ 5) (hx : Perm1 d x) : Perm1 5 (padP d x) := by
  refine ⟨padP_length hd hx, fun i hi => ?_, ?_⟩
  · rcases List.mem_append.1 hi with hi | hi
    · have := hx.lt i hi; omega
    · have := List.mem_range'_1.1 hi; omega
  · refine List.nodup_append.2 ⟨hx.nodup, List.nodup_range', fun a ha b hb e => ?_⟩
    have h1 := hx.lt a ha
    have h2 := List.mem_range'_1.1 hb
    omega
theorem nodup_map_in {α β : Type} {f : α → β} : ∀ {l : List α}, l.Nodup → (∀ a ∈ l, ∀ b ∈ l, f a = f b → a = b) → (l.map f).Nodup
  | [], _, _ => List.Pairwise.nil
  | a :: l, h, hf => by
    rw [List.nodup_cons] at h
    rw [List.map_cons, List.nodup_cons]
    refine ⟨fun hm => ?_, nodup_map_in h.2 fun x hx y hy => hf x (List.mem_cons_of_mem _ hx) y (List.mem_cons_of_mem _ hy)⟩
    obtain ⟨b, hb, e⟩ := List.mem_map.1 hm
    rw [hf b (List.mem_cons_of_mem _ hb) a List.mem_cons_self e] at hb
    exact h.1 hb
variable {d : Nat} {E : List (List Nat)}
theorem Grp.ng (h : Grp d E) (hd : d ≤ 5) (h24 : E.length ≤ 24) : NG fun a => a < 120 ∧ ∃ x ∈ E, elX a = padP d x where
  one := ⟨by omega, oneP d, h.one, by rw [padP_one hd]; kernel_rfl⟩
  mul := fun a b ⟨ha, x, hx, ea⟩ ⟨hb, y, hy, eb⟩ => by
    obtain ⟨h1, h2⟩ := mulT_ok ha hb
    exact ⟨h1, mulP x y, h.mul x hx y hy, by rw [h2, ea, eb, padP_mul hd (h.perm x hx) (h.perm y hy)]⟩
  lt := fun a h => h.1
  few := fun l hn hl => by
    have h1 : (l.map elX).Nodup := nodup_map_in hn fun a ha b hb e => elX_inj (hl a ha).1 (hl b hb).1 e
    have h2 := List.Nodup.length_le_of_subset h1 (l₂ := E.map (padP d)) fun y hy => by
      obtain ⟨a, ha, rfl⟩ := List.mem_map.1 hy
      obtain ⟨_, x, hx, e⟩ := hl a ha
      exact List.mem_map.2 ⟨x, hx, e.symm⟩
    rw [List.length_map, List.length_map] at h2
    omega
theorem Grp.listed (h : Grp d E) (hd : d ≤ 5) (h24 : E.length ≤ 24) : ∃ e ∈ subL, E.map (padP d) = e.2.2.map elX := by
  obtain ⟨e, he, hG⟩ := (h.ng hd h24).listed
  have hs := sub_in he
  refine ⟨e, he, ?_⟩
  have s1 : (E.map (padP d)).Pairwise (· < ·) := by
    rw [List.pairwise_map]
    exact h.sorted.imp_of_mem fun {a b} ha hb hab => (padP_lt (h.perm a ha) (h.perm b hb)).2 hab
  have s2 : (e.2.2.map elX).Pairwise (· < ·) := by
    rw [List.pairwise_map]
    exact hs.inc.imp_of_mem fun {a b} _ hb hab => elX_lt hab (hs.lt b hb)
  have hn : ∀ {l : List (List Nat)}, l.Pairwise (· < ·) → l.Nodup := fun h => h.imp fun {a b} hab e => by rw [e] at hab; exact List.lt_irrefl _ hab
  refine List.Perm.eq_of_pairwise (le := (· < ·)) (fun a b _ _ h1 h2 => absurd (List.lt_trans h1 h2) (List.lt_irrefl _)) s1 s2 ((List.perm_ext_iff_of_nodup (hn s1) (hn s2)).2 fun y => ?_)
  constructor
  · intro hy
    obtain ⟨x, hx, rfl⟩ := List.mem_map.1 hy
    obtain ⟨i, hi, e2⟩ := perm_elX (padP_perm hd (h.perm x hx))
    exact List.mem_map.2 ⟨i, (hG i).1 ⟨hi, x, hx, e2⟩, e2⟩
  · intro hy
    obtain ⟨i, hi, rfl⟩ := List.mem_map.1 hy
    obtain ⟨_, x, hx, e2⟩ := (hG i).2 hi
    exact List.mem_map.2 ⟨x, hx, e2.symm⟩
/-- The elements, cut to their length. -/
def subE (d : Nat) (e : Nat × List Nat × List Nat) : List (List Nat) := e.2.2.map fun i => (elX i).take d
/-- A listed subgroup keeps the numbers from d on. -/
def fitsD (d : Nat) (e : Nat × List Nat × List Nat) : Bool := e.2.2.all fun i => (elX i).drop d == List.range' d (5 - d)
theorem Grp.cases (h : Grp d E) (hd : d ≤ 5) (h24 : E.length ≤ 24) : ∃ e ∈ subL, fitsD d e = true ∧ E = subE d e := by
  obtain ⟨e, he, hm⟩ := h.listed hd h24
  refine ⟨e, he, List.all_eq_true.2 fun i hi => ?_, ?_⟩
  · have : elX i ∈ E.map (padP d) := by rw [hm]; exact List.mem_map.2 ⟨i, hi, rfl⟩
    obtain ⟨x, hx, e2⟩ := List.mem_map.1 this
    rw [← e2, beq_iff_eq, padP, List.drop_append_of_le_length (by rw [(h.perm x hx).len]; exact Nat.le_refl _), List.drop_of_length_le (by rw [(h.perm x hx).len]; exact Nat.le_refl _), List.nil_append]
  · have h2 : (E.map (padP d)).map (List.take d) = (e.2.2.map elX).map (List.take d) := by rw [hm]
    rw [List.map_map, List.map_map] at h2
    have h3 : E.map (List.take d ∘ padP d) = E := by
      rw [List.map_congr_left (g := id) fun x hx => ?_, List.map_id]
      show (padP d x).take d = x
      rw [padP, List.take_append_of_le_length (by rw [(h.perm x hx).len]; exact Nat.le_refl _), List.take_of_length_le (by rw [(h.perm x hx).len]; exact Nat.le_refl _)]
    rw [h3] at h2
    exact h2
end Go.Proofs.Ytdackakjcnnofaa
