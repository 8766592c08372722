/- A slice of elements that the call builds (OwnE); rows that are only read (Fz), a slice of such rows (RowsF). -/
import Derived.Test.YtmlhecfhhhebnaaMap
import Derived.Maps.AppendAt
namespace Go.Proofs.Ytmlhecfhhhebnaa
open Go.RowKit

theorem own_sm {S : Nat → Prop} {w w' : World} {B : Nat} {e : TypeId} {size n : Nat} {v : Value} {xs : List Value} (h : w.ownsRow B e size v n xs) (hs : Sm S w w') (hS : ∀ k, v.ownBlock = some k → S k) : w'.ownsRow B e size v n xs := by
  refine ⟨h.1, ?_⟩
  rcases h.2 with h2 | ⟨g, cap, cur, rfl, hg, hh, r⟩
  · exact .inl h2
  · exact .inr ⟨g, cap, cur, rfl, hg, (hs.block g (hS g rfl) (Array.getElem?_eq_some_iff.1 hh).1).trans hh, r⟩
theorem Sm.of_grown {S : Nat → Prop} {w w' : World} {row : Option Nat} (h : w.grownBy w' row) (hs : ∀ k, S k → some k ≠ row) : Sm S w w' := ⟨h.os, h.tape, h.output, h.size, fun k hk hlt => h.block k hlt (hs k hk)⟩
theorem Sm.of_below {S : Nat → Prop} {w w' : World} (h : Below w.heap.size w w') : Sm S w w' := ⟨h.os, h.tape, h.output, h.size, fun k _ hlt => h.block k hlt⟩
theorem Sm.weak {S S' : Nat → Prop} {w w' : World} (h : Sm S w w') (hs : ∀ k, k < w.heap.size → S' k → S k) : Sm S' w w' := ⟨h.os, h.tape, h.output, h.size, fun k hk hlt => h.block k (hs k hlt hk) hlt⟩

/-! ### elements -/
def OwnE (B : Nat) (w : World) (v : Value) (L : List (List Int)) : Prop := w.ownsRow B 113 24 v L.length (L.flatMap cs8)
theorem flat_length : ∀ L : List (List Int), (∀ l ∈ L, l.length = 24) → (L.flatMap cs8).length = L.length * 24
  | [], _ => rfl
  | l :: L, h => by
    rw [List.flatMap_cons, List.length_append, cs8_length, h l List.mem_cons_self, flat_length L fun x hx => h x (List.mem_cons_of_mem _ hx), List.length_cons]
    omega
theorem flat_get : ∀ (L : List (List Int)) (i j : Nat) (hi : i < L.length), (∀ l ∈ L, l.length = 24) → j < 24 → (L.flatMap cs8)[i * 24 + j]? = (cs8 L[i])[j]?
  | [], i, _, hi, _, _ => by simp at hi
  | l :: L, 0, j, _, h, hj => by
    rw [List.flatMap_cons, Nat.zero_mul, Nat.zero_add, List.getElem?_append_left (by rw [cs8_length, h l List.mem_cons_self]; exact hj)]
    rfl
  | l :: L, i + 1, j, hi, h, hj => by
    have hl : (cs8 l).length = 24 := by rw [cs8_length, h l List.mem_cons_self]
    rw [List.flatMap_cons, List.getElem?_append_right (by rw [hl]; omega), hl, show (i + 1) * 24 + j - 24 = i * 24 + j by omega, flat_get L i j (by simpa using hi) (fun x hx => h x (List.mem_cons_of_mem _ hx)) hj]
    rfl
theorem OwnE.at {B : Nat} {w : World} {v : Value} {L : List (List Int)} (h : OwnE B w v L) (hL : ∀ l ∈ L, l.length = 24) (i : Nat) (hi : i < L.length) :
    ∃ g cap, v = .slice (some ⟨g, 0, none⟩) L.length cap ∧ B ≤ g ∧ g < w.heap.size ∧ w.rangeAt g (i * 24) (cs8 L[i]) := by
  rcases h.2 with ⟨rfl, hn⟩ | ⟨g, cap, cur, rfl, hg, hh, hn, hcap, hsz, hx⟩
  · omega
  · refine ⟨g, cap, rfl, hg, (Array.getElem?_eq_some_iff.1 hh).1, fun j u hu => ?_⟩
    have hj : j < 24 := by have := (List.getElem?_eq_some_iff.1 hu).1; rw [cs8_length, hL _ (List.getElem_mem hi)] at this; exact this
    have h' : w.ownsRow B 113 24 (.slice (some ⟨g, 0, none⟩) L.length cap) L.length (L.flatMap cs8) := h
    rw [World.ownsRow.cellAt h' (i * 24 + j) (by omega), flat_get L i j hi hL hj]
    exact hu
theorem infoEl : (Try.prog.info? 113).map (fun i => (i.zero, i.size, i.bytes)) = some (some (.agg (cs8 zeroE).toArray), 24, 24) := by kernel_rfl
theorem run_appE {ty : TypeId} {B b : Nat} {w : World} {v : Value} {L : List (List Int)} {x : List Int} (h : OwnE B w v L) (hx : x.length = 24) (hb : Held w b 113 (cs8 x)) (hl : L.length < 1000000) (hB : B ≤ w.heap.size) :
    ∃ v' w', (Builtin.append_ #[115, 115] ty #[v, .slice (some ⟨b, 0, none⟩) 1 1]).run Try.prog w = .ok v' w' ∧ OwnE B w' v' (L ++ [x]) ∧ w.grownBy w' v.ownBlock ∧ (v'.ownBlock = v.ownBlock ∨ v'.ownBlock = some w.heap.size) := by
  obtain ⟨i, hi1, hz0, hz1, hz2⟩ := info_parts infoEl
  obtain ⟨v', w', hrun, r1, r2, _, r4⟩ := run_append_own_at (P := Try.prog) w B 115 ty 113 i (.agg (cs8 zeroE).toArray) 24 24 Try.underlying115 hi1 hz0 hz1 hz2 (by simp [Value.cells, cs8_length, zeroE]) (by decide) v L.length _ h ⟨b, 0, none⟩ 1 1 (cs8 x) (by rw [cs8_length, hx])
    (fun j u hj => by
      have e : (⟨b, 0, none⟩ : Addr).add j = ⟨b, j, none⟩ := by unfold Addr.add; split <;> simp_all
      rw [e]; exact hb.at hj)
    (cs8_one x) (by unfold maxLen; omega) (by omega) hB
  refine ⟨v', w', hrun, ?_, r2, r4⟩
  unfold OwnE
  rw [List.length_append, List.flatMap_append]
  simpa using r1
theorem wpList_appE {ops : Array Oper} {o : Oper} {a : Act} {w : World} {Q : Exit → Act → World → Prop} {rest : List Oper} (hg : o.guard = none) (s y : Operand)
    (hop : o.op = Op.call { callee := Callee.builtin Builtin.append, args := #[s, y], argTypes := #[115, 115] }) (B b : Nat) (v : Value) (L : List (List Int)) (x : List Int) (hs : a.eval s = v) (h : OwnE B w v L) (hx : x.length = 24)
    (hy : a.eval y = .slice (some ⟨b, 0, none⟩) 1 1) (hb : Held w b 113 (cs8 x)) (hl : L.length < 1000000) (hB : B ≤ w.heap.size)
    (hK : ∀ v' w', OwnE B w' v' (L ++ [x]) → w.grownBy w' v.ownBlock → (v'.ownBlock = v.ownBlock ∨ v'.ownBlock = some w.heap.size) → wpList Try.prog ops Q rest (a.put o.dst v') w') : wpList Try.prog ops Q (o :: rest) a w := by
  refine wpList_plain hg fun K' hK' => ?_
  obtain ⟨v', w', hrun, r1, r2, r3⟩ := run_appE (ty := o.type) h hx hb hl hB
  unfold Oper.wp
  simp [execOp, hop, resolve, invoke, builtin, hs, hy, Result.andThen]
  rw [hrun]
  exact hK' _ _ (hK v' w' r1 r2 r3)

/-! ### rows that are only read -/
/-- The slice reads as xs, and lies in a block of S. -/
def Fz (S : Nat → Prop) (w : World) (v : Value) (xs : List Int) : Prop :=
  ∃ (a : Option Addr) (c : Nat), v = .slice a xs.length c ∧ xs.length ≤ 1000000 ∧ xs.length ≤ c ∧
    (xs ≠ [] → ∃ b off, a = some ⟨b, off, none⟩ ∧ S b ∧ b < w.heap.size ∧ ∀ i (h : i < xs.length), w.cell? ⟨b, off + i, none⟩ = some (.int .i64 xs[i]))
theorem Fz.ints {S : Nat → Prop} {w : World} {v : Value} {xs : List Int} (h : Fz S w v xs) : Ints w v xs := by
  obtain ⟨a, c, rfl, h1, h2, h3⟩ := h
  refine ⟨a, c, rfl, by omega, h2, fun hne => ?_⟩
  obtain ⟨b, off, rfl, _, hb, hc⟩ := h3 hne
  exact ⟨b, off, rfl, hb, hc⟩
theorem Fz.kept {S : Nat → Prop} {w w' : World} {v : Value} {xs : List Int} (h : Fz S w v xs) (hs : Sm S w w') : Fz S w' v xs := by
  obtain ⟨a, c, rfl, h1, h2, h3⟩ := h
  refine ⟨a, c, rfl, h1, h2, fun hne => ?_⟩
  obtain ⟨b, off, rfl, hS, hb, hc⟩ := h3 hne
  exact ⟨b, off, rfl, hS, Nat.lt_of_lt_of_le hb hs.size, fun i hi => (World.cell?_of_block (hs.block b hS hb)).trans (hc i hi)⟩
theorem Fz.mono {S S' : Nat → Prop} {w : World} {v : Value} {xs : List Int} (h : Fz S w v xs) (hs : ∀ k, S k → S' k) : Fz S' w v xs := by
  obtain ⟨a, c, rfl, h1, h2, h3⟩ := h
  refine ⟨a, c, rfl, h1, h2, fun hne => ?_⟩
  obtain ⟨b, off, rfl, hS, r⟩ := h3 hne
  exact ⟨b, off, rfl, hs b hS, r⟩
theorem OwnI.fz {B : Nat} {w : World} {v : Value} {xs : List Int} {S : Nat → Prop} (h : OwnI 3 B w v xs) (hl : xs.length ≤ 1000000) (hS : ∀ k, v.ownBlock = some k → S k) : Fz S w v xs := by
  obtain ⟨a, c, rfl, h1, h2, h3⟩ := h.ints (by omega)
  refine ⟨a, c, rfl, hl, h2, fun hne => ?_⟩
  obtain ⟨b, off, rfl, hb, hc⟩ := h3 hne
  exact ⟨b, off, rfl, hS b rfl, hb, hc⟩

theorem infoR : (Try.prog.info? 24).map (fun i => (i.zero, i.size, i.bytes)) = some (some (.slice none 0 0), 1, 24) := by kernel_rfl
theorem info3 : (Try.prog.info? 3).map (fun i => (i.zero, i.size, i.bytes)) = some (some (.int .i64 0), 1, 8) := by kernel_rfl

/-- 'append(v[:len(v):len(v)], y)': always a new row. -/
theorem run_app_cut {ty : TypeId} {w : World} {a : Option Addr} {c' : Nat} {xs : List Int} {y : Int} (h : Ints w (.slice a xs.length c') xs) {ad : Addr} {c : Nat} (hc : w.cell? ad = some (.int .i64 y)) (hlen : xs.length < 1000000) :
    ∃ v' w', (Builtin.append_ #[24, 24] ty #[.slice a xs.length xs.length, .slice (some ad) 1 c]).run Try.prog w = .ok v' w' ∧ OwnI 3 w.heap.size w' v' (xs ++ [y]) ∧ Below w.heap.size w w' := by
  obtain ⟨i, hi1, hz0, hz1, hz2⟩ := info_parts info3
  obtain ⟨a', c2, he, h1, h2, h3⟩ := h
  obtain ⟨rfl, _, rfl⟩ := Value.slice.inj he
  have hnews : ∀ j u, [Value.int .i64 y][j]? = some u → w.cell? (ad.add j) = some u := by
    intro j u hj
    match j, hj with
    | 0, hj => simp at hj; subst hj; simpa [Addr.add] using hc
  cases a with
  | none =>
    have : xs = [] := by
      by_cases hx : xs = []
      · exact hx
      · obtain ⟨b, off, h, _⟩ := h3 hx; cases h
    subst this
    obtain ⟨v', w', h1, h2, h3, h4⟩ := run_app1 (P := Try.prog) (t := 24) (ty := ty) Try.underlying24 info3 (OwnI.nil 3 w.heap.size w) hc (by simp) (Nat.le_refl _)
    exact ⟨v', w', h1, h2, h4⟩
  | some A =>
    have hcells : ∀ j v, (xs.map (Value.int .i64))[j]? = some v → w.cell? (A.add j) = some v := by
      intro j v hj
      have hjl : j < xs.length := by have := (List.getElem?_eq_some_iff.1 hj).1; simpa using this
      obtain ⟨b, off, e, _, hcell⟩ := h3 (by intro e; rw [e] at hjl; simp at hjl)
      cases e
      have e2 : (⟨b, off, none⟩ : Addr).add j = ⟨b, off + j, none⟩ := by unfold Addr.add; split <;> simp_all
      rw [e2, hcell j hjl]
      simpa [List.getElem?_eq_getElem hjl] using hj
    have hr := run_append_grow (P := Try.prog) w 24 ty 3 i (.int .i64 0) Try.underlying24 hi1 hz0 A xs.length xs.length (xs.map (Value.int .i64)) (by rw [hz1]; simp) hcells ad 1 c [.int .i64 y] (by rw [hz1]; rfl) hnews (by omega) (by omega) (growslice_fits (by omega) (by rw [hz2]; omega))
    refine ⟨_, _, hr, ⟨by simp, .inr ⟨w.heap.size, grownCap w (xs.length + 1) xs.length 3, _, by simp, Nat.le_refl _, heap_alloc_new w.drew _, by have := grownCap_ge w (xs.length + 1) xs.length 3; simpa using this, grownCap_le_maxLen w _ _ _ (by unfold maxLen; omega), ?_, ?_⟩⟩, (Below.refl _ w).drew.alloc (Nat.le_refl _) _⟩
    · have hge := grownCap_ge w (xs.length + 1) xs.length 3
      simp only [Array.size_append, List.size_toArray, size_zeroCells, List.length_map, List.length_cons, List.length_nil]
      simp only [Value.cells, List.size_toArray, List.length_cons, List.length_nil]
      omega
    · simp only [Array.toList_append, List.append_assoc]
      rw [List.map_append, ← List.append_assoc]
      have : (xs ++ [y]).length * 1 = (xs.map (Value.int .i64) ++ [Value.int .i64 y]).length := by simp
      rw [this]
      exact List.take_left

/-- A slice of rows that are only read; its own cells from block B on. -/
def RowsF (S : Nat → Prop) (B : Nat) (w : World) (v : Value) (ls : List (List Nat)) : Prop :=
  ∃ vs : List Value, w.ownsRow B 24 1 v ls.length vs ∧ ∀ (i : Nat) (u : Value) (l : List Nat), vs[i]? = some u → ls[i]? = some l → Fz S w u (toI l)
theorem RowsF.nil (S : Nat → Prop) (B : Nat) (w : World) : RowsF S B w (.slice none 0 0) [] := ⟨[], World.ownsRow_nil w B 24 1, by simp⟩
theorem RowsF.kept {S S' : Nat → Prop} {B : Nat} {w w' : World} {v : Value} {ls : List (List Nat)} (h : RowsF S B w v ls) (hs : Sm S' w w') (hSS : ∀ k, S k → S' k) (hv : ∀ k, v.ownBlock = some k → S' k) : RowsF S B w' v ls := by
  obtain ⟨vs, ho, hr⟩ := h
  exact ⟨vs, own_sm ho hs hv, fun i u l h1 h2 => (hr i u l h1 h2).kept (hs.weak fun k _ hk => hSS k hk)⟩
theorem RowsF.mono {S S' : Nat → Prop} {B : Nat} {w : World} {v : Value} {ls : List (List Nat)} (h : RowsF S B w v ls) (hs : ∀ k, S k → S' k) : RowsF S' B w v ls := by
  obtain ⟨vs, ho, hr⟩ := h
  exact ⟨vs, ho, fun i u l h1 h2 => (hr i u l h1 h2).mono hs⟩
theorem RowsF.alloc {S : Nat → Prop} {B : Nat} {w : World} {v : Value} {ls : List (List Nat)} (h : RowsF S B w v ls) (o : Obj) : RowsF S B (w.alloc o) v ls :=
  h.kept (S' := fun _ => True) (Sm.of_below ((Below.refl _ _).alloc (Nat.le_refl _) _)) (fun _ _ => trivial) (fun _ _ => trivial)
theorem RowsF.drew {S : Nat → Prop} {B : Nat} {w : World} {v : Value} {ls : List (List Nat)} (h : RowsF S B w v ls) : RowsF S B w.drew v ls := h
theorem RowsF.form {S : Nat → Prop} {B : Nat} {w : World} {v : Value} {ls : List (List Nat)} (h : RowsF S B w v ls) : ∃ a c, v = .slice a ls.length c := by
  obtain ⟨vs, ⟨_, h2⟩, _⟩ := h
  rcases h2 with ⟨rfl, hn⟩ | ⟨g, cap, cur, rfl, _⟩
  · exact ⟨none, 0, by rw [hn]⟩
  · exact ⟨_, _, rfl⟩
theorem RowsF.at {S : Nat → Prop} {B : Nat} {w : World} {v : Value} {ls : List (List Nat)} (h : RowsF S B w v ls) (i : Nat) (hi : i < ls.length) :
    ∃ g cap u, v = .slice (some ⟨g, 0, none⟩) ls.length cap ∧ B ≤ g ∧ g < w.heap.size ∧ w.cell? ⟨g, i, none⟩ = some u ∧ Fz S w u (toI ls[i]) := by
  obtain ⟨vs, ho, hr⟩ := h
  have hl : vs.length = ls.length := by have := ho.1; omega
  rcases ho.2 with ⟨rfl, hn⟩ | ⟨g, cap, cur, rfl, hg, hh, _⟩
  · omega
  · have hcell := World.ownsRow.cellAt ho i (by omega)
    have hvi : vs[i]? = some (vs[i]'(by omega)) := List.getElem?_eq_getElem (by omega)
    exact ⟨g, cap, vs[i]'(by omega), rfl, hg, (Array.getElem?_eq_some_iff.1 hh).1, by rw [hcell, hvi], hr i _ _ hvi (List.getElem?_eq_getElem hi)⟩
theorem Fz.one {S : Nat → Prop} {w : World} {v : Value} {xs : List Int} (h : Fz S w v xs) : v.oneCell' = true := by
  obtain ⟨a, c, rfl, _⟩ := h; rfl
theorem run_appF {ty : TypeId} {S : Nat → Prop} {B b : Nat} {w : World} {v u : Value} {ls : List (List Nat)} {l : List Nat} (h : RowsF S B w v ls) (hu : Fz S w u (toI l)) (hb : Held w b 24 [u]) (hS : ∀ k, S k → v.ownBlock ≠ some k) (hl : ls.length < 1000000) (hB : B ≤ w.heap.size) :
    ∃ v' w', (Builtin.append_ #[34, 34] ty #[v, .slice (some ⟨b, 0, none⟩) 1 1]).run Try.prog w = .ok v' w' ∧ RowsF S B w' v' (ls ++ [l]) ∧ w.grownBy w' v.ownBlock ∧ (v'.ownBlock = v.ownBlock ∨ v'.ownBlock = some w.heap.size) := by
  obtain ⟨i, hi1, hz0, hz1, hz2⟩ := info_parts infoR
  obtain ⟨vs, ho, hr⟩ := h
  have hvl : vs.length = ls.length := by have := ho.1; omega
  obtain ⟨v', w', hrun, r1, r2, _, r4⟩ := run_append_own_at (P := Try.prog) w B 34 ty 24 i (.slice none 0 0) 1 24 Try.underlying34 hi1 hz0 hz1 hz2 rfl (by decide) v ls.length vs ho ⟨b, 0, none⟩ 1 1 [u] rfl
    (fun j x hj => by
      match j, hj with
      | 0, hj => simp at hj; subst hj; simpa [Addr.add] using hb.at (i := 0) rfl)
    (fun x hx => by simp at hx; subst hx; exact hu.one) (by unfold maxLen; omega) (by omega) hB
  have hsm : Sm S w w' := Sm.of_grown r2 fun k hk e => hS k hk e.symm
  refine ⟨v', w', hrun, ⟨vs ++ [u], by rw [List.length_append]; exact r1, fun i x y h1 h2 => ?_⟩, r2, r4⟩
  by_cases hi : i < vs.length
  · rw [List.getElem?_append_left hi] at h1
    rw [List.getElem?_append_left (by omega)] at h2
    exact (hr i x y h1 h2).kept hsm
  · rw [List.getElem?_append_right (by omega)] at h1
    rw [List.getElem?_append_right (by omega), ← hvl] at h2
    obtain e : i - vs.length = 0 := by
      cases hk : i - vs.length with
      | zero => rfl
      | succ n => rw [hk] at h1; simp at h1
    rw [e] at h1 h2
    simp at h1 h2
    subst h1; subst h2
    exact hu.kept hsm

/-- How a row of cells is laid by 'buildSlice'. -/
theorem foldl_zip_get : ∀ (l : List Value) (k : Nat) (z : Array Value) (i : Nat), k + l.length ≤ z.size →
    ((l.zipIdx k).foldl (fun cs x => cs.setIfInBounds x.2 x.1) z)[i]? = if k ≤ i ∧ i < k + l.length then l[i - k]? else z[i]?
  | [], k, z, i, _ => by simp; omega
  | v :: l, k, z, i, h => by
    rw [List.zipIdx_cons, List.foldl_cons, foldl_zip_get l (k + 1) _ i (by simp at h ⊢; omega)]
    simp only [List.length_cons] at h ⊢
    by_cases h1 : k + 1 ≤ i ∧ i < k + 1 + l.length
    · rw [if_pos h1, if_pos (by omega), show i - k = (i - (k + 1)) + 1 by omega]; rfl
    · rw [if_neg h1]
      by_cases e : i = k
      · subst e
        rw [if_pos ⟨Nat.le_refl _, by omega⟩, Nat.sub_self]
        simp [show i < z.size by omega]
      · rw [if_neg (by omega)]
        simp [Ne.symm e]
theorem foldl_zip (l : List Value) (z : Array Value) (hz : z.size = l.length) : l.zipIdx.foldl (fun cs x => cs.setIfInBounds x.2 x.1) z = l.toArray := by
  refine Array.ext_getElem? fun i => ?_
  rw [foldl_zip_get l 0 z i (by omega)]
  by_cases h : i < l.length
  · rw [if_pos (by omega)]; simp
  · rw [if_neg (by omega), Array.getElem?_eq_none (by omega), Array.getElem?_eq_none (by simp; omega)]
theorem run_app1_at {ty : TypeId} {B : Nat} {w : World} {v : Value} {xs : List Int} {y : Int} (hown : OwnI 3 B w v xs)
    {ad : Addr} {c : Nat} (hc : w.cell? ad = some (.int .i64 y)) (hlen : xs.length < 1000000) (hB : B ≤ w.heap.size) :
    ∃ v' w', (Builtin.append_ #[24, 24] ty #[v, .slice (some ad) 1 c]).run Try.prog w = .ok v' w' ∧ OwnI 3 B w' v' (xs ++ [y]) ∧ w.grownBy w' v.ownBlock ∧ (v'.ownBlock = v.ownBlock ∨ v'.ownBlock = some w.heap.size) := by
  obtain ⟨i, hi1, hz0, hz1, hz2⟩ := info_parts info3
  obtain ⟨v', w', hrun, r1, r2, _, r4⟩ := run_append_own_at (P := Try.prog) w B 24 ty 3 i (.int .i64 0) 1 8 Try.underlying24 hi1 hz0 hz1 hz2 rfl (by decide) v xs.length _ hown ad 1 c [.int .i64 y] rfl
    (fun j u hj => by
      match j, hj with
      | 0, hj => simp at hj; subst hj; simpa [Addr.add] using hc)
    (by intro u hu; simp at hu; subst hu; rfl) (by unfold maxLen; omega) (by omega) hB
  exact ⟨v', w', hrun, by unfold OwnI; simpa using r1, r2, r4⟩
theorem wpList_app1_at {ops : Array Oper} {o : Oper} {a : Act} {w : World} {Q : Exit → Act → World → Prop} {rest : List Oper} (hg : o.guard = none) (s x : Operand)
    (hop : o.op = Op.call { callee := Callee.builtin Builtin.append, args := #[s, x], argTypes := #[24, 24] }) (B : Nat) (v : Value) (xs : List Int) (y : Int) (hs : a.eval s = v) (hown : OwnI 3 B w v xs)
    (ad : Addr) (c : Nat) (hx : a.eval x = .slice (some ad) 1 c) (hc : w.cell? ad = some (.int .i64 y)) (hlen : xs.length < 1000000) (hB : B ≤ w.heap.size)
    (hK : ∀ v' w', OwnI 3 B w' v' (xs ++ [y]) → w.grownBy w' v.ownBlock → (v'.ownBlock = v.ownBlock ∨ v'.ownBlock = some w.heap.size) → wpList Try.prog ops Q rest (a.put o.dst v') w') : wpList Try.prog ops Q (o :: rest) a w := by
  refine wpList_plain hg fun K' hK' => ?_
  obtain ⟨v', w', hrun, r1, r2, r3⟩ := run_app1_at (ty := o.type) hown hc hlen hB
  unfold Oper.wp
  simp [execOp, hop, resolve, invoke, builtin, hs, hx, Result.andThen]
  rw [hrun]
  exact hK' _ _ (hK v' w' r1 r2 r3)

theorem wpList_appF {ops : Array Oper} {o : Oper} {a : Act} {w : World} {Q : Exit → Act → World → Prop} {rest : List Oper} (hg : o.guard = none) (s y : Operand)
    (hop : o.op = Op.call { callee := Callee.builtin Builtin.append, args := #[s, y], argTypes := #[34, 34] }) (S : Nat → Prop) (B b : Nat) (v u : Value) (ls : List (List Nat)) (l : List Nat) (hs : a.eval s = v) (h : RowsF S B w v ls) (hu : Fz S w u (toI l))
    (hy : a.eval y = .slice (some ⟨b, 0, none⟩) 1 1) (hb : Held w b 24 [u]) (hS : ∀ k, S k → v.ownBlock ≠ some k) (hl : ls.length < 1000000) (hB : B ≤ w.heap.size)
    (hK : ∀ v' w', RowsF S B w' v' (ls ++ [l]) → w.grownBy w' v.ownBlock → (v'.ownBlock = v.ownBlock ∨ v'.ownBlock = some w.heap.size) → wpList Try.prog ops Q rest (a.put o.dst v') w') : wpList Try.prog ops Q (o :: rest) a w := by
  refine wpList_plain hg fun K' hK' => ?_
  obtain ⟨v', w', hrun, r1, r2, r3⟩ := run_appF (ty := o.type) h hu hb hS hl hB
  unfold Oper.wp
  simp [execOp, hop, resolve, invoke, builtin, hs, hy, Result.andThen]
  rw [hrun]
  exact hK' _ _ (hK v' w' r1 r2 r3)
end Go.Proofs.Ytmlhecfhhhebnaa
