/- The reference's Elements: what the walk rests on. -/
import Derived.Test.YtmlhecfhhhebnaaElp
import Derived.Test.YtmlhecfhhhebnaaRm
import Derived.Test.YtmlhecfhhhebnaaLw
import Derived.BigRegion
import Derived.StillTailTactics
namespace Go.Proofs.Ytmlhecfhhhebnaa
open Go.RowKit

theorem moves_ok {K n s : Nat} (hv : validB K n = true) (hs : s < mirs K n) : (K = 65 ∧ s < n ∧ n ≤ 4) ∨ (K = 66 ∧ s < n ∧ n ≤ 4) ∨ (K = 73 ∧ s < 2 ∧ n ≤ 12 ∧ 2 ≤ n) := by
  unfold validB at hv
  unfold mirs at hs
  simp only [Bool.or_eq_true, Bool.and_eq_true, beq_iff_eq, decide_eq_true_eq] at hv
  split at hs <;> omega
theorem mirs_pos {K n : Nat} (hv : validB K n = true) : 0 < mirs K n := by
  unfold validB at hv
  unfold mirs
  simp only [Bool.or_eq_true, Bool.and_eq_true, beq_iff_eq, decide_eq_true_eq] at hv
  split <;> omega
def ptB (K n : Nat) : Bool := (List.range (mirs K n)).all fun s => decide ((movesN K n s).length ≤ 100) && ((movesN K n s).length == ((rfN K n 130).P.getD 0 []).length) && (movesN K n s).all fun x => decide (x < (movesN K n s).length)
theorem pt_all : (allGroups.all fun g => ptB g.1 g.2) = true := by decide +kernel
theorem pt_of {K n s : Nat} (hv : validB K n = true) (hs : s < mirs K n) : (movesN K n s).length ≤ 100 ∧ (movesN K n s).length = ((rfN K n 130).P.getD 0 []).length ∧ ∀ x ∈ movesN K n s, x < (movesN K n s).length := by
  have := List.all_eq_true.1 (List.all_eq_true.1 pt_all _ (valid_in hv)) s (List.mem_range.mpr hs)
  simpa [and_assoc] using this

/-- The worlds' head: the group's box, the result's cell, the table under way. -/
structure HdI (K n H : Nat) (w wr : World) : Prop where
  hg : Held wr H 23 [.int .u8 (K : Nat), .int .i64 (n : Nat)]
  hr : Held wr (H + 1) 36 [.slice none 0 0, .slice none 0 0, .slice none 0 0]
  ht : Held wr (H + 1 + 1) 36 [.slice none 0 0, .slice none 0 0, .slice none 0 0]
  hb : Below H w wr
  hs : H + 1 + 1 + 1 ≤ wr.heap.size
theorem HdI.below {K n H : Nat} {w a b : World} (h : HdI K n H w a) (hb : Below a.heap.size a b) : HdI K n H w b :=
  ⟨h.hg.below hb h.hg.lt, h.hr.below hb h.hr.lt, h.ht.below hb h.ht.lt, h.hb.trans (hb.mono (by have := h.hs; omega)), Nat.le_trans h.hs hb.size⟩
theorem HdI.drew {K n H : Nat} {w a : World} (h : HdI K n H w a) : HdI K n H w a.drew := h.below ((Below.refl _ _).drew)

theorem setCell_alloc' (w : World) (o : Obj) (b j : Nat) (u : Value) (hb : b < w.heap.size) : (w.alloc o).setCell ⟨b, j, none⟩ u = (w.setCell ⟨b, j, none⟩ u).alloc o := by
  unfold World.setCell World.alloc
  congr 1
  apply Array.ext_getElem?
  intro k
  simp only [Array.getElem?_modify, Array.getElem?_push, Array.size_modify]
  by_cases hk : k = w.heap.size
  · subst hk
    rw [if_neg (by omega), if_pos rfl, if_pos rfl]
  · rw [if_neg hk, if_neg hk]
theorem HdI.start {K n H : Nat} {w wc : World} (h : HdI K n H w wc) : ElI K n H (H + 1) (H + 1 + 1) (fun k => typeAt wc k = some 3) wc (.slice none 0 0) (.slice none 0 0) (.slice none 0 0) [] [] [] :=
  ⟨h.hg, ⟨_, h.hr, rfl⟩, h.ht, RowsF.nil _ _ _, RowsF.nil _ _ _, RowsF.nil _ _ _, fun _ h => h, (fun _ h => nomatch h), (fun _ h => nomatch h), (fun _ h => nomatch h), by omega, by omega, by omega⟩
theorem rows_one {S : Nat → Prop} {B : Nat} {w : World} {v : Value} {l : List Nat} (hB : B ≤ w.heap.size) (h : Fz S (w.alloc (.cells #[v] 24)) v (toI l)) {g : Nat} (hg : w.heap.size = g) : RowsF S B (w.alloc (.cells #[v] 24)) (.slice (some ⟨g, 0, none⟩) 1 1) [l] := by
  subst hg
  refine ⟨[v], World.ownsRow_lit w #[v] 1 hB (by decide) (by simp), fun i u m hu hm => ?_⟩
  have hi : i = 0 := by
    have := (List.getElem?_eq_some_iff.mp hu).1
    simpa using this
  subst hi
  simp at hu hm
  subst hu
  subst hm
  exact h
theorem own_fz {S : Nat → Prop} {e : TypeId} {B : Nat} {w : World} {v : Value} {l : List Nat} (h : OwnI e B w v (toI l)) (hS : ∀ k, v.ownBlock = some k → S k) (hl : l.length ≤ 1000000) : Fz S w v (toI l) := by
  have hi := h.ints (by rw [toI_length]; omega)
  obtain ⟨a, c, rfl, _, h2, h3⟩ := hi
  refine ⟨a, c, rfl, by rw [toI_length]; exact hl, h2, fun hne => ?_⟩
  obtain ⟨b, off, rfl, r2, r3⟩ := h3 hne
  exact ⟨b, off, rfl, hS b rfl, r2, r3⟩

theorem ElI.first {K n H : Nat} {w wc : World} {v4 : Value} {p0 : List Nat} (h : HdI K n H w wc) (ho : OwnI 3 (H + 1 + 1 + 1) wc v4 (toI p0)) (hl : p0.length ≤ 1000) :
    ∃ S, ElI K n H (H + 1) (H + 1 + 1) S (((((wc.alloc (.cells #[] 3)).alloc (.cells #[.slice (some ⟨wc.heap.size, 0, none⟩) 0 0] 24)).alloc (.cells #[v4] 24)).setCell ⟨H + 1 + 1, 0, none⟩ (.slice (some ⟨wc.heap.size + 1, 0, none⟩) 1 1)).setCell ⟨H + 1 + 1, 1, none⟩ (.slice (some ⟨wc.heap.size + 1 + 1, 0, none⟩) 1 1))
      (.slice (some ⟨wc.heap.size + 1, 0, none⟩) 1 1) (.slice (some ⟨wc.heap.size + 1 + 1, 0, none⟩) 1 1) (.slice none 0 0) [[]] [p0] [] := by
  have hs := h.hs
  have e0 := h.start.alloc (.cells #[] 3)
  rw [setCell_alloc' _ _ _ _ _ (by simp; omega)]
  have hfz0 : Fz (fun k => typeAt wc k = some 3) ((wc.alloc (.cells #[] 3)).alloc (.cells #[.slice (some ⟨wc.heap.size, 0, none⟩) 0 0] 24)) (.slice (some ⟨wc.heap.size, 0, none⟩) 0 0) ([] : List Int) := ⟨_, 0, rfl, by simp, by simp, fun h => absurd rfl h⟩
  have r1 := rows_one (B := H) (l := []) (by simp; omega) hfz0 (g := wc.heap.size + 1) (by simp)
  have e1 := e0.worded (S' := fun k => typeAt wc k = some 3) (fun _ h => h) r1 (World.grownBy_alloc _ _ none) (fun k hk => by
    have hlt := ty_lt hk
    rw [← hk]
    exact ty_block (((Below.refl _ _).alloc (Nat.le_refl _) _ |>.trans (((Below.refl _ _).alloc (Nat.le_refl _) _).mono (by simp))).block k hlt)) (.inr ⟨wc.heap.size + 1, rfl, by simp⟩)
  have hg4 : ∀ k, v4.ownBlock = some k → typeAt wc k = some 3 := fun k hk => own_ty ho hk
  obtain ⟨wd, hwd⟩ : ∃ wd, ((wc.alloc (.cells #[] 3)).alloc (.cells #[.slice (some ⟨wc.heap.size, 0, none⟩) 0 0] 24)).setCell ⟨H + 1 + 1, 0, none⟩ (.slice (some ⟨wc.heap.size + 1, 0, none⟩) 1 1) = wd := ⟨_, rfl⟩
  have hsz : wd.heap.size = wc.heap.size + 1 + 1 := by rw [← hwd]; simp [World.setCell]
  have hsm : Sm (fun k => k ≠ H + 1 + 1) wc wd := by
    rw [← hwd]
    refine Sm.trans (b := (wc.alloc (.cells #[] 3)).alloc (.cells #[.slice (some ⟨wc.heap.size, 0, none⟩) 0 0] 24)) (Sm.of_below (((Below.refl _ _).alloc (Nat.le_refl _) _).trans (((Below.refl _ _).alloc (Nat.le_refl _) _).mono (by simp)))) ?_
    exact ⟨rfl, rfl, rfl, by simp [World.setCell], fun k hk _ => Below.heap_setCell _ _ _ _ hk⟩
  rw [hwd] at e1 ⊢
  have ho2 : OwnI 3 (H + 1 + 1 + 1) wd v4 (toI p0) := own_sm ho hsm (fun k hk => by have := (ho.lt k hk).1; omega)
  have r2 := rows_one (B := H) (w := wd) (S := fun k => typeAt wc k = some 3) (by omega) (own_fz (ho2.alloc _) hg4 (by omega)) (g := wc.heap.size + 1 + 1) (by omega)
  have e2 := e1.pointed (S' := fun k => typeAt wc k = some 3) (fun _ h => h) r2 (World.grownBy_alloc _ _ none) (fun k hk => by
    rw [ty_block (Below.heap_alloc _ _ k (by have := ty_lt hk; omega))]
    exact e1.hS k hk) (.inr ⟨wc.heap.size + 1 + 1, rfl, by omega⟩)
  exact ⟨_, e2⟩


theorem rfS_len (K n i s : Nat) (t : Rf) (h : t.W.length = t.P.length) : (rfS K n i s t).W.length = (rfS K n i s t).P.length := by
  unfold rfS
  dsimp only
  split
  · exact h
  · simp [h]
theorem rfR_len (K n i : Nat) (t : Rf) (h : t.W.length = t.P.length) : ∀ s, (rfR K n i t s).W.length = (rfR K n i t s).P.length
  | 0 => h
  | s + 1 => rfS_len K n i s _ (rfR_len K n i t h s)
theorem rfN_len (K n : Nat) : ∀ i, (rfN K n i).W.length = (rfN K n i).P.length
  | 0 => rfl
  | i + 1 => by
    show (rfK K n i (rfN K n i)).W.length = (rfK K n i (rfN K n i)).P.length
    unfold rfK
    split
    · exact rfR_len K n i _ (rfN_len K n i) _
    · exact rfN_len K n i
theorem getD_pre {a b : List (List Nat)} (h : a <+: b) {i : Nat} (hi : i < a.length) : a.getD i [] = b.getD i [] := by
  obtain ⟨c, rfl⟩ := h
  simp [List.getD, List.getElem?_append_left hi]
/-- Each point list of the finished listing. -/
theorem pt_len {K n : Nat} (hv : validB K n = true) {p : List Nat} (hp : p ∈ (rfN K n 130).P) : p.length = ((rfN K n 130).P.getD 0 []).length ∧ ∀ x ∈ p, x < p.length := by
  have := rf_of hv
  unfold rfOk at this
  simp only [Bool.and_eq_true, List.all_eq_true, beq_iff_eq, decide_eq_true_eq] at this
  exact this.2 p hp
end Go.Proofs.Ytmlhecfhhhebnaa
