/- Rows of rows; an append to a slice without spare room. -/
import Derived.Test.YtlpnicfbgdfbnaaDoorHi
import Derived.Maps.AppendAt
import Derived.Laws.OwnMore
namespace Go.Proofs.YtlpnicfbgdfbnaaDoor
open Go.RowKit

theorem info22 : (Tryd.prog.info? 22).map (fun i => (i.zero, i.size, i.bytes)) = some (some (.slice none 0 0), 1, 24) := by kernel_rfl

/-- A slice whose spare room is taken away. -/
def cutV : Value → Value
  | .slice a n _ => .slice a n n
  | v => v

theorem run_app1_cut {ty : TypeId} {C : Nat} {w : World} {v : Value} {xs : List Int} {y : Int} (hown : OwnI 3 C w v xs) {ad : Addr} {c : Nat} (hc : w.cell? ad = some (.int .i64 y)) (hlen : xs.length < 17592186044416) :
    ∃ v' w', (Builtin.append_ #[22, 22] ty #[cutV v, .slice (some ad) 1 c]).run Tryd.prog w = .ok v' w' ∧ OwnI 3 w.heap.size w' v' (xs ++ [y]) ∧ Below w.heap.size w w' := by
  rcases hown.2 with ⟨rfl, hn⟩ | ⟨g, cap, cur, rfl, hbg, hg, hnc, hcm, hcs, htake⟩
  · have : xs = [] := List.eq_nil_of_length_eq_zero hn
    subst this
    obtain ⟨v', w', h1, h2, h3, h4⟩ := run_app1 (P := Tryd.prog) (t := 22) (ty := ty) Tryd.underlying22 info3 (OwnI.nil 3 w.heap.size w) hc (by simp) (Nat.le_refl _)
    exact ⟨v', w', h1, h2, h4⟩
  · obtain ⟨i, hi1, hz0, hz1, hz2⟩ := info_parts info3
    have hnews : ∀ j u, [Value.int .i64 y][j]? = some u → w.cell? (ad.add j) = some u := by
      intro j u hj
      match j, hj with
      | 0, hj => simp at hj; subst hj; simpa [Addr.add] using hc
    have hr := run_append_grow (P := Tryd.prog) w 22 ty 3 i (.int .i64 0) Tryd.underlying22 hi1 hz0 ⟨g, 0, none⟩ xs.length xs.length (xs.map (Value.int .i64)) (by rw [hz1]; simp) (World.ownsRow.cells hown (g := g) rfl) ad 1 c [.int .i64 y] (by rw [hz1]; rfl) hnews (by omega) (by omega) (growslice_fits (by omega) (by rw [hz2]; omega))
    refine ⟨_, _, hr, ⟨by simp, .inr ⟨w.heap.size, grownCap w (xs.length + 1) xs.length 3, _, by simp, Nat.le_refl _, heap_alloc_new w.drew _, by have := grownCap_ge w (xs.length + 1) xs.length 3; simpa using this, grownCap_le_maxLen w _ _ 3 (by unfold maxLen; omega), ?_, ?_⟩⟩, ((Below.refl _ _).drew).alloc (Nat.le_refl _) _⟩
    · have hge := grownCap_ge w (xs.length + 1) xs.length 3
      simp only [Array.size_append, List.size_toArray, size_zeroCells, List.length_map, List.length_cons, List.length_nil]
      simp only [Value.cells, List.size_toArray, List.length_cons, List.length_nil]
      omega
    · simp only [Array.toList_append, List.append_assoc]
      rw [List.map_append, ← List.append_assoc]
      have : (xs ++ [y]).length * 1 = (xs.map (Value.int .i64) ++ [Value.int .i64 y]).length := by simp
      rw [this]
      exact List.take_left

/-- A slice of rows: its own cells from block B on, the rows' from block C on. -/
def RowsI (B C : Nat) (w : World) (v : Value) (ls : List (List Nat)) : Prop :=
  ∃ vs : List Value, w.ownsRow B 22 1 v ls.length vs ∧ ∀ p ∈ vs.zip ls, OwnI 3 C w p.1 (toI p.2)

theorem own_rows_ne {B C : Nat} {w : World} {u v : Value} {n : Nat} {xs : List Int} {vs : List Value} (h : OwnI 3 C w u xs) (hv : w.ownsRow B 22 1 v n vs) : u.ownBlock = none ∨ u.ownBlock ≠ v.ownBlock := by
  rcases h.2 with ⟨rfl, _⟩ | ⟨g, cap, cur, rfl, _, hh, _⟩
  · exact .inl rfl
  · refine .inr ?_
    rcases hv.2 with ⟨rfl, _⟩ | ⟨g', cap', cur', rfl, _, hh', _⟩
    · simp [Value.ownBlock]
    · intro e
      have e' : g = g' := by simpa [Value.ownBlock] using e
      subst e'
      rw [hh] at hh'
      simp at hh'
theorem RowsI.nil (B C : Nat) (w : World) : RowsI B C w (.slice none 0 0) [] := ⟨[], World.ownsRow_nil w B 22 1, by simp⟩
theorem RowsI.vsLen {B : Nat} {w : World} {v : Value} {ls : List (List Nat)} {vs : List Value} (h : w.ownsRow B 22 1 v ls.length vs) : vs.length = ls.length := by rw [h.1]; omega
theorem RowsI.kept {B C : Nat} {w w' : World} {v : Value} {ls : List (List Nat)} {row : Option Nat} (h : RowsI B C w v ls) (hg : w.grownBy w' row) (h1 : v.ownBlock = none ∨ v.ownBlock ≠ row) (h2 : ∀ k, row = some k → k < C) : RowsI B C w' v ls := by
  obtain ⟨vs, ho, hr⟩ := h
  refine ⟨vs, World.ownsRow.kept ho hg h1, fun p hp => World.ownsRow.kept (hr p hp) hg ?_⟩
  cases hb : p.1.ownBlock with
  | none => exact .inl rfl
  | some k =>
    refine .inr fun e => ?_
    have := ((hr p hp).lt k hb).1
    have := h2 k e.symm
    omega
theorem RowsI.below {B C : Nat} {w w' : World} {v : Value} {ls : List (List Nat)} (h : RowsI B C w v ls) (hb : Below w.heap.size w w') : RowsI B C w' v ls :=
  h.kept (row := none) ⟨hb.os, hb.tape, hb.output, hb.size, fun k hk _ => hb.block k hk⟩ (by cases hv : v.ownBlock <;> simp) (fun k hk => by cases hk)
theorem RowsI.monoB {B B' C : Nat} {w : World} {v : Value} {ls : List (List Nat)} (h : RowsI B C w v ls) (hB : B' ≤ B) : RowsI B' C w v ls := by
  obtain ⟨vs, ⟨h1, h2⟩, hr⟩ := h
  refine ⟨vs, ⟨h1, ?_⟩, hr⟩
  rcases h2 with h2 | ⟨g, cap, cur, hv, hg, r⟩
  · exact .inl h2
  · exact .inr ⟨g, cap, cur, hv, Nat.le_trans hB hg, r⟩
theorem RowsI.drew {B C : Nat} {w : World} {v : Value} {ls : List (List Nat)} (h : RowsI B C w v ls) : RowsI B C w.drew v ls := h

theorem RowsI.form {B C : Nat} {w : World} {v : Value} {ls : List (List Nat)} (h : RowsI B C w v ls) : ∃ a c, v = .slice a ls.length c := by
  obtain ⟨vs, ⟨h1, h2⟩, hr⟩ := h
  rcases h2 with ⟨rfl, hn⟩ | ⟨g, cap, cur, rfl, _⟩
  · exact ⟨none, 0, by rw [hn]⟩
  · exact ⟨_, _, rfl⟩
/-- The row of index i. -/
theorem RowsI.at {B C : Nat} {w : World} {v : Value} {ls : List (List Nat)} (h : RowsI B C w v ls) (i : Nat) (hi : i < ls.length) : ∃ g cap u, v = .slice (some ⟨g, 0, none⟩) ls.length cap ∧ B ≤ g ∧ w.cell? ⟨g, i, none⟩ = some u ∧ OwnI 3 C w u (toI ls[i]) := by
  obtain ⟨vs, ho, hr⟩ := h
  have hl := RowsI.vsLen ho
  rcases ho.2 with ⟨rfl, hn⟩ | ⟨g, cap, cur, rfl, hg, _⟩
  · omega
  · have hcell := World.ownsRow.cellAt ho i (by omega)
    have hvi : vs[i]? = some (vs[i]'(by omega)) := List.getElem?_eq_getElem (by omega)
    refine ⟨g, cap, vs[i]'(by omega), rfl, hg, by rw [hcell, hvi], hr (vs[i]'(by omega), ls[i]) ?_⟩
    rw [List.mem_iff_getElem]
    exact ⟨i, by simp; omega, by simp⟩

theorem run_appRows {ty : TypeId} {B B' C : Nat} {w : World} {v v' : Value} {ls ms : List (List Nat)} (h : RowsI B C w v ls) (h' : RowsI B' C w v' ms) (hB : B ≤ w.heap.size) (hlen : ls.length + ms.length ≤ 5000000) :
    ∃ u w', (Builtin.append_ #[42, 42] ty #[v, v']).run Tryd.prog w = .ok u w' ∧ RowsI B C w' u (ls ++ ms) ∧ w.grownBy w' v.ownBlock ∧ Below B w w' := by
  obtain ⟨i, hi1, hz0, hz1, hz2⟩ := info_parts info22
  obtain ⟨vs, ho, hr⟩ := h
  obtain ⟨vs', ho', hr'⟩ := h'
  have hl := RowsI.vsLen ho
  have hl' := RowsI.vsLen ho'
  rcases ho'.2 with ⟨rfl, hn⟩ | ⟨g, cap, cur, rfl, hg, hgg, hnc, hcm, hcs, htake⟩
  · have : ms = [] := List.eq_nil_of_length_eq_zero hn
    subst this
    refine ⟨v, w, run_append_owned_none (P := Tryd.prog) w B 42 ty 22 i 1 Tryd.underlying42 hi1 v ls.length vs ho, by rw [List.append_nil]; exact ⟨vs, ho, hr⟩, World.grownBy.refl _ _, Below.refl _ _⟩
  · have hone : ∀ u ∈ vs', u.oneCell' = true := by
      intro u hu
      obtain ⟨j, hj, rfl⟩ := List.mem_iff_getElem.1 hu
      have := hr' (vs'[j], ms[j]'(by omega)) (by rw [List.mem_iff_getElem]; exact ⟨j, by simp; omega, by simp⟩)
      obtain ⟨a, c, e⟩ := this.form
      simp only at e
      rw [e]; rfl
    obtain ⟨u, w', hrun, h1, h2, h3, h4⟩ := run_append_own_at (P := Tryd.prog) w B 42 ty 22 i (.slice none 0 0) 1 24 Tryd.underlying42 hi1 hz0 hz1 hz2 rfl (by decide) v ls.length vs ho ⟨g, 0, none⟩ ms.length cap vs' (by omega) (World.ownsRow.cells ho' (g := g) rfl) hone (by unfold maxLen; omega) (by omega) hB
    refine ⟨u, w', hrun, ⟨vs ++ vs', by rw [List.length_append]; exact h1, ?_⟩, h2, ?_⟩
    · intro p hp
      rw [List.zip_append hl] at hp
      rcases List.mem_append.1 hp with hp | hp
      · exact World.ownsRow.kept (hr p hp) h2 (own_rows_ne (hr p hp) ho)
      · exact World.ownsRow.kept (hr' p hp) h2 (own_rows_ne (hr' p hp) ho)
    · refine ⟨h2.os, h2.tape, h2.output, h2.size, fun k hk => h2.block k (by omega) fun e => ?_⟩
      rcases ho.2 with ⟨rfl, _⟩ | ⟨g', cap', cur', rfl, hg', _⟩
      · simp [Value.ownBlock] at e
      · simp [Value.ownBlock] at e; omega
end Go.Proofs.YtlpnicfbgdfbnaaDoor
