/- A6: Rw, Pr, Rh, Ay, Av, Rg, Hl, Hw, St, St2, St3, Cnt of the seat's texts, in this order. -/
import Derived.Test.YtlpnicfbgdfbnaaDoorA5
import Derived.Maps.AppendAt
import Derived.Laws.OwnMore
import Derived.Test.YtlpnicfbgdfbnaaDoorA3
import Derived.Test.YtlpnicfbgdfbnaaDoorA4
import Derived.Deep.QuietTactic
import Derived.BigQuiet

/- Rows of rows; an append to a slice without spare room. -/
namespace Go.Proofs.YtlpnicfbgdfbnaaDoor
open Go.RowKit

theorem info22 : (Tryd.prog.info? 22).map (fun i => (i.zero, i.size, i.bytes)) = some (some (.slice none 0 0), 1, 24) := by kernel_rfl

/-- A slice whose spare room is taken away. -/
def cutV : Value → Value
  | .slice a n _ => .slice a n n
  | v => v

theorem run_app1_cut {ty : TypeId} {C : Nat} {w : World} {v : Value} {xs : List Int} {y : Int} (hown : OwnI 3 C w v xs) {ad : Addr} {c : Nat} (hc : w.cell? ad = some (.int .i64 y)) (hlen : xs.length < 17592186044416) :
    ∃ v' w', (Builtin.append_ #[22, 22] ty #[cutV v, .slice (some ad) 1 c]).run Tryd.prog w = .ok v' w' ∧ OwnI 3 w.heap.size w' v' (xs ++ [y]) ∧ Below w.heap.size w w' := by
  rcases hown.2 with ⟨rfl, hn⟩ | ⟨g, cap, cur, rfl, hbg, hg, hnc, hcm, hcs, htake⟩
  · have : xs = [] := List.eq_nil_of_length_eq_zero hn
    subst this
    obtain ⟨v', w', h1, h2, h3, h4⟩ := run_app1 (P := Tryd.prog) (t := 22) (ty := ty) Tryd.underlying22 info3 (OwnI.nil 3 w.heap.size w) hc (by simp) (Nat.le_refl _)
    exact ⟨v', w', h1, h2, h4⟩
  · obtain ⟨i, hi1, hz0, hz1, hz2⟩ := info_parts info3
    have hnews : ∀ j u, [Value.int .i64 y][j]? = some u → w.cell? (ad.add j) = some u := by
      intro j u hj
      match j, hj with
      | 0, hj => simp at hj; subst hj; simpa [Addr.add] using hc
    have hr := run_append_grow (P := Tryd.prog) w 22 ty 3 i (.int .i64 0) Tryd.underlying22 hi1 hz0 ⟨g, 0, none⟩ xs.length xs.length (xs.map (Value.int .i64)) (by rw [hz1]; simp) (World.ownsRow.cells hown (g := g) rfl) ad 1 c [.int .i64 y] (by rw [hz1]; rfl) hnews (by omega) (by omega) (growslice_fits (by omega) (by rw [hz2]; omega))
    refine ⟨_, _, hr, ⟨by simp, .inr ⟨w.heap.size, grownCap w (xs.length + 1) xs.length 3, _, by simp, Nat.le_refl _, heap_alloc_new w.drew _, by have := grownCap_ge w (xs.length + 1) xs.length 3; simpa using this, grownCap_le_maxLen w _ _ 3 (by unfold maxLen; omega), ?_, ?_⟩⟩, ((Below.refl _ _).drew).alloc (Nat.le_refl _) _⟩
    · have hge := grownCap_ge w (xs.length + 1) xs.length 3
      simp only [Array.size_append, List.size_toArray, size_zeroCells, List.length_map, List.length_cons, List.length_nil]
      simp only [Value.cells, List.size_toArray, List.length_cons, List.length_nil]
      omega
    · simp only [Array.toList_append, List.append_assoc]
      rw [List.map_append, ← List.append_assoc]
      have : (xs ++ [y]).length * 1 = (xs.map (Value.int .i64) ++ [Value.int .i64 y]).length := by simp
      rw [this]
      exact List.take_left

/-- A slice of rows: its own cells from block B on, the rows' from block C on. -/
def RowsI (B C : Nat) (w : World) (v : Value) (ls : List (List Nat)) : Prop :=
  ∃ vs : List Value, w.ownsRow B 22 1 v ls.length vs ∧ ∀ p ∈ vs.zip ls, OwnI 3 C w p.1 (toI p.2)

theorem own_rows_ne {B C : Nat} {w : World} {u v : Value} {n : Nat} {xs : List Int} {vs : List Value} (h : OwnI 3 C w u xs) (hv : w.ownsRow B 22 1 v n vs) : u.ownBlock = none ∨ u.ownBlock ≠ v.ownBlock := by
  rcases h.2 with ⟨rfl, _⟩ | ⟨g, cap, cur, rfl, _, hh, _⟩
  · exact .inl rfl
  · refine .inr ?_
    rcases hv.2 with ⟨rfl, _⟩ | ⟨g', cap', cur', rfl, _, hh', _⟩
    · simp [Value.ownBlock]
    · intro e
      have e' : g = g' := by simpa [Value.ownBlock] using e
      subst e'
      rw [hh] at hh'
      simp at hh'
theorem RowsI.nil (B C : Nat) (w : World) : RowsI B C w (.slice none 0 0) [] := ⟨[], World.ownsRow_nil w B 22 1, by simp⟩
theorem RowsI.vsLen {B : Nat} {w : World} {v : Value} {ls : List (List Nat)} {vs : List Value} (h : w.ownsRow B 22 1 v ls.length vs) : vs.length = ls.length := by rw [h.1]; omega
theorem RowsI.kept {B C : Nat} {w w' : World} {v : Value} {ls : List (List Nat)} {row : Option Nat} (h : RowsI B C w v ls) (hg : w.grownBy w' row) (h1 : v.ownBlock = none ∨ v.ownBlock ≠ row) (h2 : ∀ k, row = some k → k < C) : RowsI B C w' v ls := by
  obtain ⟨vs, ho, hr⟩ := h
  refine ⟨vs, World.ownsRow.kept ho hg h1, fun p hp => World.ownsRow.kept (hr p hp) hg ?_⟩
  cases hb : p.1.ownBlock with
  | none => exact .inl rfl
  | some k =>
    refine .inr fun e => ?_
    have := ((hr p hp).lt k hb).1
    have := h2 k e.symm
    omega
theorem RowsI.below {B C : Nat} {w w' : World} {v : Value} {ls : List (List Nat)} (h : RowsI B C w v ls) (hb : Below w.heap.size w w') : RowsI B C w' v ls :=
  h.kept (row := none) ⟨hb.os, hb.tape, hb.output, hb.size, fun k hk _ => hb.block k hk⟩ (by cases hv : v.ownBlock <;> simp) (fun k hk => by cases hk)
theorem RowsI.monoB {B B' C : Nat} {w : World} {v : Value} {ls : List (List Nat)} (h : RowsI B C w v ls) (hB : B' ≤ B) : RowsI B' C w v ls := by
  obtain ⟨vs, ⟨h1, h2⟩, hr⟩ := h
  refine ⟨vs, ⟨h1, ?_⟩, hr⟩
  rcases h2 with h2 | ⟨g, cap, cur, hv, hg, r⟩
  · exact .inl h2
  · exact .inr ⟨g, cap, cur, hv, Nat.le_trans hB hg, r⟩
theorem RowsI.drew {B C : Nat} {w : World} {v : Value} {ls : List (List Nat)} (h : RowsI B C w v ls) : RowsI B C w.drew v ls := h

theorem RowsI.form {B C : Nat} {w : World} {v : Value} {ls : List (List Nat)} (h : RowsI B C w v ls) : ∃ a c, v = .slice a ls.length c := by
  obtain ⟨vs, ⟨h1, h2⟩, hr⟩ := h
  rcases h2 with ⟨rfl, hn⟩ | ⟨g, cap, cur, rfl, _⟩
  · exact ⟨none, 0, by rw [hn]⟩
  · exact ⟨_, _, rfl⟩
/-- The row of index i. -/
theorem RowsI.at {B C : Nat} {w : World} {v : Value} {ls : List (List Nat)} (h : RowsI B C w v ls) (i : Nat) (hi : i < ls.length) : ∃ g cap u, v = .slice (some ⟨g, 0, none⟩) ls.length cap ∧ B ≤ g ∧ w.cell? ⟨g, i, none⟩ = some u ∧ OwnI 3 C w u (toI ls[i]) := by
  obtain ⟨vs, ho, hr⟩ := h
  have hl := RowsI.vsLen ho
  rcases ho.2 with ⟨rfl, hn⟩ | ⟨g, cap, cur, rfl, hg, _⟩
  · omega
  · have hcell := World.ownsRow.cellAt ho i (by omega)
    have hvi : vs[i]? = some (vs[i]'(by omega)) := List.getElem?_eq_getElem (by omega)
    refine ⟨g, cap, vs[i]'(by omega), rfl, hg, by rw [hcell, hvi], hr (vs[i]'(by omega), ls[i]) ?_⟩
    rw [List.mem_iff_getElem]
    exact ⟨i, by simp; omega, by simp⟩

theorem run_appRows {ty : TypeId} {B B' C : Nat} {w : World} {v v' : Value} {ls ms : List (List Nat)} (h : RowsI B C w v ls) (h' : RowsI B' C w v' ms) (hB : B ≤ w.heap.size) (hlen : ls.length + ms.length ≤ 5000000) :
    ∃ u w', (Builtin.append_ #[42, 42] ty #[v, v']).run Tryd.prog w = .ok u w' ∧ RowsI B C w' u (ls ++ ms) ∧ w.grownBy w' v.ownBlock ∧ Below B w w' := by
  obtain ⟨i, hi1, hz0, hz1, hz2⟩ := info_parts info22
  obtain ⟨vs, ho, hr⟩ := h
  obtain ⟨vs', ho', hr'⟩ := h'
  have hl := RowsI.vsLen ho
  have hl' := RowsI.vsLen ho'
  rcases ho'.2 with ⟨rfl, hn⟩ | ⟨g, cap, cur, rfl, hg, hgg, hnc, hcm, hcs, htake⟩
  · have : ms = [] := List.eq_nil_of_length_eq_zero hn
    subst this
    refine ⟨v, w, run_append_owned_none (P := Tryd.prog) w B 42 ty 22 i 1 Tryd.underlying42 hi1 v ls.length vs ho, by rw [List.append_nil]; exact ⟨vs, ho, hr⟩, World.grownBy.refl _ _, Below.refl _ _⟩
  · have hone : ∀ u ∈ vs', u.oneCell' = true := by
      intro u hu
      obtain ⟨j, hj, rfl⟩ := List.mem_iff_getElem.1 hu
      have := hr' (vs'[j], ms[j]'(by omega)) (by rw [List.mem_iff_getElem]; exact ⟨j, by simp; omega, by simp⟩)
      obtain ⟨a, c, e⟩ := this.form
      simp only at e
      rw [e]; rfl
    obtain ⟨u, w', hrun, h1, h2, h3, h4⟩ := run_append_own_at (P := Tryd.prog) w B 42 ty 22 i (.slice none 0 0) 1 24 Tryd.underlying42 hi1 hz0 hz1 hz2 rfl (by decide) v ls.length vs ho ⟨g, 0, none⟩ ms.length cap vs' (by omega) (World.ownsRow.cells ho' (g := g) rfl) hone (by unfold maxLen; omega) (by omega) hB
    refine ⟨u, w', hrun, ⟨vs ++ vs', by rw [List.length_append]; exact h1, ?_⟩, h2, ?_⟩
    · intro p hp
      rw [List.zip_append hl] at hp
      rcases List.mem_append.1 hp with hp | hp
      · exact World.ownsRow.kept (hr p hp) h2 (own_rows_ne (hr p hp) ho)
      · exact World.ownsRow.kept (hr' p hp) h2 (own_rows_ne (hr' p hp) ho)
    · refine ⟨h2.os, h2.tape, h2.output, h2.size, fun k hk => h2.block k (by omega) fun e => ?_⟩
      rcases ho.2 with ⟨rfl, _⟩ | ⟨g', cap', cur', rfl, hg', _⟩
      · simp [Value.ownBlock] at e
      · simp [Value.ownBlock] at e; omega
end Go.Proofs.YtlpnicfbgdfbnaaDoor

/- ref.permuted, ref.permutations: all permutations as a slice of rows. -/
namespace Go.Proofs.YtlpnicfbgdfbnaaDoor
open Go.RowKit Go.Shelf
attribute [local go_sem] Oper.semAt_some

theorem elems_range : ∀ n : Nat, n < 7 → ∀ S : Nat, S < 64 → (!decide (S < 2 ^ n) || decide (elems S = (List.range n).filter (S.testBit ·))) = true := by decide +kernel
def preP (d S : Nat) (begun : List Nat) (k : Nat) : List (List Nat) := ((List.range k).filter (S.testBit ·)).flatMap fun j => (perms d (diffS S (2 ^ j))).map ((begun ++ [j]) ++ ·)
theorem preP_zero (d S : Nat) (begun : List Nat) : preP d S begun 0 = [] := rfl
theorem preP_skip (d S : Nat) (begun : List Nat) (k : Nat) (h : S.testBit k = false) : preP d S begun (k + 1) = preP d S begun k := by
  unfold preP; rw [List.range_succ, List.filter_append]; simp [h]
theorem preP_snoc (d S : Nat) (begun : List Nat) (k : Nat) (h : S.testBit k = true) : preP d S begun (k + 1) = preP d S begun k ++ (perms d (diffS S (2 ^ k))).map ((begun ++ [k]) ++ ·) := by
  unfold preP; rw [List.range_succ, List.filter_append]; simp [h]
theorem preP_all (d S n : Nat) (begun : List Nat) (hn : n ≤ 6) (hS : S < 2 ^ n) : preP d S begun n = (perms (d + 1) S).map (begun ++ ·) := by
  have h := elems_range n (by omega) S (Nat.lt_of_lt_of_le hS (two_pow_le hn))
  simp only [hS, decide_true, Bool.not_true, Bool.false_or, decide_eq_true_eq] at h
  unfold preP
  rw [perms, h, List.map_flatMap]
  congr 1
  funext j
  rw [List.map_map]
  refine List.map_congr_left fun l _ => ?_
  simp
theorem flatMap_le {α β : Type} (f : α → List β) (M : Nat) : ∀ l : List α, (∀ x ∈ l, (f x).length ≤ M) → (l.flatMap f).length ≤ l.length * M
  | [], _ => by simp
  | x :: l, h => by
    have h1 := flatMap_le f M l (fun y hy => h y (List.mem_cons_of_mem _ hy))
    have h2 := h x List.mem_cons_self
    rw [List.flatMap_cons, List.length_append, List.length_cons, Nat.succ_mul]
    omega
theorem elems_len (S : Nat) : (elems S).length ≤ 8 := by
  unfold elems
  exact Nat.le_trans (List.length_filter_le _ _) (by simp)
theorem perms_length_le : ∀ (d S : Nat), (perms d S).length ≤ 8 ^ d
  | 0, _ => by simp [perms]
  | d + 1, S => by
    rw [perms]
    refine Nat.le_trans (flatMap_le _ (8 ^ d) _ fun j _ => by rw [List.length_map]; exact perms_length_le d _) ?_
    rw [Nat.pow_succ, Nat.mul_comm]
    exact Nat.mul_le_mul_left _ (elems_len S)
theorem preP_le (d S : Nat) (begun : List Nat) (k : Nat) : (preP d S begun k).length ≤ k * 8 ^ d := by
  unfold preP
  refine Nat.le_trans (flatMap_le _ (8 ^ d) _ fun j _ => by rw [List.length_map]; exact perms_length_le d _) ?_
  exact Nat.mul_le_mul_right _ (Nat.le_trans (List.length_filter_le _ _) (by simp))
theorem diffS_or (x a b : Nat) : diffS x (a ||| b) = diffS (diffS x a) b := by
  refine Nat.eq_of_testBit_eq fun c => ?_
  rw [diffS_bit, diffS_bit]
  unfold free
  rw [diffS_bit, Nat.testBit_or]
  unfold free
  cases x.testBit c <;> cases a.testBit c <;> cases b.testBit c <;> rfl

structure N71 (B C : Nat) (W0 : World) (n taken j L c : Nat) (a : Option Addr) (begun : List Nat) (vo : Value) (cur rows : List (List Nat)) (d : Nat → Bool) (y : Nat → Value) (wx : World) : Prop where
  w0 : d 13 = false → wx = W0
  w13 : d 13 = true → d 14 = false → wx = W0.alloc (.cells #[.int .i64 (j : Nat)] 3)
  w14 : d 14 = true → d 15 = false → OwnI 3 C wx (y 38) (toI (begun ++ [j])) ∧ Below W0.heap.size W0 wx
  w15 : d 15 = true → d 16 = false → RowsI W0.heap.size C wx (y 39) rows ∧ Below W0.heap.size W0 wx
  w16 : d 16 = true → RowsI B C wx (y 40) (cur ++ rows) ∧ Below B W0 wx
  h7 : d 17 = true → y 7 = y 40
  h7a : d 17 = false → y 7 = vo
  h24 : d 0 = true → y 24 = vo
  h25 : d 1 = true → y 25 = .int .i64 (n : Nat)
  h26 : d 2 = true → y 26 = .int .i64 (taken : Nat)
  h27 : d 3 = true → y 27 = .int .i64 (j : Nat)
  h28 : d 4 = true → y 28 = .int .i64 ((2 : Int) ^ j)
  c4_3 : d 4 = true → d 3 = true
  h29 : d 5 = true → y 29 = .int .i64 ((taken ||| 2 ^ j : Nat) : Int)
  c5_2 : d 5 = true → d 2 = true
  c5_4 : d 5 = true → d 4 = true
  h30 : d 6 = true → y 30 = .slice a L c
  h31 : d 7 = true → y 31 = .slice a L c
  h32 : d 8 = true → y 32 = .int .i64 (L : Nat)
  c8_7 : d 8 = true → d 7 = true
  h33 : d 9 = true → y 33 = .slice a L c
  h34 : d 10 = true → y 34 = .int .i64 (L : Nat)
  c10_9 : d 10 = true → d 9 = true
  h35 : d 11 = true → y 35 = .slice a L L
  c11_6 : d 11 = true → d 6 = true
  c11_8 : d 11 = true → d 8 = true
  c11_10 : d 11 = true → d 10 = true
  h36 : d 12 = true → y 36 = .int .i64 (j : Nat)
  h37 : d 13 = true → y 37 = .slice (some ⟨W0.heap.size, 0, none⟩) 1 1
  c13_12 : d 13 = true → d 12 = true
  c14_11 : d 14 = true → d 11 = true
  c14_13 : d 14 = true → d 13 = true
  c15_1 : d 15 = true → d 1 = true
  c15_5 : d 15 = true → d 5 = true
  c15_14 : d 15 = true → d 14 = true
  c16_0 : d 16 = true → d 0 = true
  c16_15 : d 16 = true → d 15 = true
  c17_16 : d 17 = true → d 16 = true

def PdPost (C : Nat) (rows : List (List Nat)) (w : World) (e : Ending) (w' : World) : Prop := ∃ v', e = .returned v' ∧ RowsI w.heap.size C w' v' rows ∧ Below w.heap.size w w'

set_option maxRecDepth 20000 in
set_option maxHeartbeats 2000000 in
theorem permuted_leaf (C : Nat) (n taken : Nat) (begun : List Nat) (vb : Value) (w : World) (hl : begun.length = n) (hown : OwnI 3 C w vb (toI begun)) :
    Calls Tryd.prog 71 #[.int .i64 (n : Nat), .int .i64 (taken : Nat), vb] w (PdPost C [begun] w) := by
  obtain ⟨a, c, hv⟩ := hown.form
  rw [toI_length, hl] at hv
  subst hv
  have H := Lib.hid hown
  clear hown
  go_enter Tryd.func71, Tryd.ntmps71
  go_wp2
  go_ret
  refine ⟨_, rfl, ⟨[.slice a n c], ⟨by simp, .inr ⟨w.heap.size, 1, _, rfl, Nat.le_refl _, heap_alloc_new w _, Nat.le_refl _, by decide, by simp, by simp⟩⟩, ?_⟩, (Below.refl _ _).alloc (Nat.le_refl _) _⟩
  intro p hp
  simp at hp
  subst hp
  exact H.out.alloc _

set_option maxRecDepth 20000 in
set_option maxHeartbeats 4000000 in
theorem permuted_node (C : Nat) (n taken d : Nat) (begun : List Nat) (vb : Value) (w : World) (hn : n ≤ 6) (ht : taken < 64) (hl : begun.length < n) (hd : d ≤ 5) (hown : OwnI 3 C w vb (toI begun)) (hC : C ≤ w.heap.size)
    (ih : ∀ (taken : Nat) (begun' : List Nat) (vb : Value) (w : World), taken < 64 → begun'.length = begun.length + 1 → pop (diffS (2 ^ n - 1) taken) = d → OwnI 3 C w vb (toI begun') → C ≤ w.heap.size →
      Calls Tryd.prog 71 #[.int .i64 (n : Nat), .int .i64 (taken : Nat), vb] w (PdPost C ((perms d (diffS (2 ^ n - 1) taken)).map (begun' ++ ·)) w))
    (hp : pop (diffS (2 ^ n - 1) taken) = d + 1) :
    Calls Tryd.prog 71 #[.int .i64 (n : Nat), .int .i64 (taken : Nat), vb] w (PdPost C ((perms (d + 1) (diffS (2 ^ n - 1) taken)).map (begun ++ ·)) w) := by
  obtain ⟨p1, p2, p3⟩ := all_pop n (by omega)
  have hS : diffS (2 ^ n - 1) taken < 2 ^ n := by
    have : 2 ^ n - 1 < 2 ^ n := by have := Nat.one_le_two_pow (n := n); omega
    exact Nat.xor_lt_two_pow this (Nat.lt_of_le_of_lt Nat.and_le_left this)
  have hS64 : diffS (2 ^ n - 1) taken < 64 := Nat.lt_of_lt_of_le hS (two_pow_le hn)
  have hbit := Lib.hid (show ∀ j, j < n → (diffS (2 ^ n - 1) taken).testBit j = !taken.testBit j from fun j hj => by
    rw [diffS_bit]; unfold free; rw [all_bit n (by omega) j (by omega)]; simp [hj])
  have hpre := Lib.hid (preP_all d _ n begun hn hS)
  have IH0 := Lib.hid ih
  obtain ⟨S, hSe⟩ : ∃ S, diffS (2 ^ n - 1) taken = S := ⟨_, rfl⟩
  have hor' := Lib.hid (show ∀ j, diffS (2 ^ n - 1) (taken ||| 2 ^ j) = diffS S (2 ^ j) from fun j => by rw [diffS_or, hSe])
  rw [hSe] at hS64 hbit hpre hp
  rw [hSe]
  obtain ⟨a, c, hv⟩ := hown.form
  rw [toI_length] at hv
  subst hv
  have ha : (a = none ∧ begun.length = 0 ∧ c = 0) ∨ ∃ g, a = some ⟨g, 0, none⟩ := by
    rcases hown.2 with ⟨h1, h2⟩ | ⟨g, cap, cur, h1, _⟩
    · obtain ⟨e1, e2, e3⟩ := Value.slice.inj h1
      exact .inl ⟨e1, by omega, by omega⟩
    · obtain ⟨e1, _⟩ := Value.slice.inj h1
      exact .inr ⟨g, e1⟩
  have hLc : begun.length ≤ c := by
    obtain ⟨a', c', e1, h1, h2, _⟩ := (hown.ints (by rw [toI_length]; omega)).openN
    obtain ⟨_, _, rfl⟩ := Value.slice.inj e1
    exact h2
  obtain ⟨L, hL⟩ : ∃ L, begun.length = L := ⟨_, rfl⟩
  have HB0 := Lib.hid hown
  have hne : ¬ L = n := by omega
  rw [hL] at HB0 hLc ha ⊢
  have HS := Lib.hid hSe
  clear hown ih hSe hS
  go_enter Tryd.func71, Tryd.ntmps71
  go_wp2
  go_loopw [7, 16] (fun vo ix wr => ∃ k : Nat, k ≤ n ∧ ix = .int .i64 k ∧ RowsI w.heap.size C wr vo (preP d S begun k) ∧ Below w.heap.size w wr) (fun _ i _ => n - (intOf i).toNat)
  case atStart => exact ⟨0, Nat.zero_le _, rfl, RowsI.nil _ _ _, Below.refl _ _⟩
  case round =>
    obtain ⟨j, hj, rfl, hr, hb⟩ := hrel
    by_cases hlt : j < n
    · have hbj := hbit.out j hlt
      cases htj : taken.testBit j with
      | true =>
        have e1 := bit_walk1 (by omega) ht htj
        have HP := Lib.hid (preP_skip d S begun j (by rw [hbj, htj]; rfl))
        clear hbj htj
        go_wp2
        go_roundw
        case rel => exact ⟨j + 1, by omega, by go_num, by rw [HP.out]; exact hr, hb⟩
        case measure => simp [intOf]; omega
      | false =>
        have e1 := bit_walk0 (by omega) ht htj
        have hSj : S.testBit j = true := by rw [hbj, htj]; rfl
        have HP := Lib.hid (preP_snoc d S begun j hSj)
        have hpj := pow_in j (by omega)
        have hor := or_w ht (show j < 6 by omega)
        have hou := or_lt ht (show j < 6 by omega)
        have hsz := hb.size
        have hpop : pop (diffS S (2 ^ j)) = d := by
          have := pop_step S hS64 j (by omega)
          simp [hSj] at this
          omega
        have hlen : (preP d S begun j).length + ((perms d (diffS S (2 ^ j))).map ((begun ++ [j]) ++ ·)).length ≤ 5000000 := by
          have h1 := preP_le d S begun j
          have h2 := perms_length_le d (diffS S (2 ^ j))
          rw [List.length_map]
          have h3 : 8 ^ d ≤ 8 ^ 5 := Nat.pow_le_pow_right (by decide) hd
          have h4 : j * 8 ^ d ≤ 6 * 8 ^ 5 := Nat.mul_le_mul (by omega) h3
          omega
        have IH := Lib.hid (fun (wx : World) (vx : Value) (ho : OwnI 3 C wx vx (toI (begun ++ [j]))) (hc : C ≤ wx.heap.size) => by
          have := IH0.out (taken ||| 2 ^ j) (begun ++ [j]) vx wx hou (by simp) (by rw [hor'.out]; exact hpop) ho hc
          rw [hor'.out] at this
          exact this)
        have HB := Lib.hid (HB0.out.below hb)
        have HO := Lib.hid hr
        clear hbj htj hSj hpop IH0 hor' HB0
        go_upto_region 8 with (fail)
        obtain ⟨W0, hW0⟩ : ∃ W0, wr.drew = W0 := ⟨_, rfl⟩
        have hs0 : W0.heap.size = wr.heap.size := by rw [← hW0]; rfl
        have HB := Lib.hid (show OwnI 3 C W0 _ _ by rw [← hW0]; exact HB.out.drew)
        have HO := Lib.hid (show RowsI _ C W0 _ _ by rw [← hW0]; exact HO.out.drew)
        have HBW := Lib.hid (show Below w.heap.size w W0 by rw [← hW0]; exact hb.drew)
        have H0 := Lib.hid hW0
        clear hW0 hr hb
        refine wp_region_sched (by kernel_rfl) [7, 24, 25, 26, 27, 28, 29, 30, 31, 32, 33, 34, 35, 36, 37, 38, 39, 40] (by kernel_rfl) (N71 w.heap.size C W0 n taken j L c a begun u7 (preP d S begun j) ((perms d (diffS S (2 ^ j))).map ((begun ++ [j]) ++ ·))) ?_ ?_ ?_
        · rw [H0.out]
          refine ⟨fun _ => rfl, ?_, ?_, ?_, ?_, ?_, fun _ => rfl, ?_, ?_, ?_, ?_, ?_, ?_, ?_, ?_, ?_, ?_, ?_, ?_, ?_, ?_, ?_, ?_, ?_, ?_, ?_, ?_, ?_, ?_, ?_, ?_, ?_, ?_, ?_, ?_, ?_, ?_, ?_⟩ <;> exact fun h => by cases h
        · intro i o ho d y wx hdi hdep hN
          match i, ho with
          | 0, ho =>
            obtain rfl := Option.some.inj ho
            have d17 : d 17 = false := Bool.eq_false_iff.2 fun h => by have h2 := hN.c16_0 (hN.c17_16 h); rw [hdi] at h2; cases h2
            have e7 := hN.h7a d17
            refine rstep_value rfl (v := u7) (w' := wx) ?_ ?_
            · simp only [hole, List.foldl_cons, List.foldl_nil, List.setIfInBounds_toArray, List.set_cons_zero, List.set_cons_succ]
              go_simp
            · exact ⟨hN.w0, hN.w13, hN.w14, hN.w15, hN.w16, hN.h7, hN.h7a, (fun _ => rfl), hN.h25, hN.h26, hN.h27, hN.h28, hN.c4_3, hN.h29, hN.c5_2, hN.c5_4, hN.h30, hN.h31, hN.h32, hN.c8_7, hN.h33, hN.h34, hN.c10_9, hN.h35, hN.c11_6, hN.c11_8, hN.c11_10, hN.h36, hN.h37, hN.c13_12, hN.c14_11, hN.c14_13, hN.c15_1, hN.c15_5, hN.c15_14, (fun _ => rfl), hN.c16_15, hN.c17_16⟩
          | 1, ho =>
            obtain rfl := Option.some.inj ho
            refine rstep_value rfl (v := .int .i64 (n : Nat)) (w' := wx) ?_ ?_
            · simp only [hole, List.foldl_cons, List.foldl_nil, List.setIfInBounds_toArray, List.set_cons_zero, List.set_cons_succ]
              go_simp
            · exact ⟨hN.w0, hN.w13, hN.w14, hN.w15, hN.w16, hN.h7, hN.h7a, hN.h24, (fun _ => rfl), hN.h26, hN.h27, hN.h28, hN.c4_3, hN.h29, hN.c5_2, hN.c5_4, hN.h30, hN.h31, hN.h32, hN.c8_7, hN.h33, hN.h34, hN.c10_9, hN.h35, hN.c11_6, hN.c11_8, hN.c11_10, hN.h36, hN.h37, hN.c13_12, hN.c14_11, hN.c14_13, (fun _ => rfl), hN.c15_5, hN.c15_14, hN.c16_0, hN.c16_15, hN.c17_16⟩
          | 2, ho =>
            obtain rfl := Option.some.inj ho
            refine rstep_value rfl (v := .int .i64 (taken : Nat)) (w' := wx) ?_ ?_
            · simp only [hole, List.foldl_cons, List.foldl_nil, List.setIfInBounds_toArray, List.set_cons_zero, List.set_cons_succ]
              go_simp
            · exact ⟨hN.w0, hN.w13, hN.w14, hN.w15, hN.w16, hN.h7, hN.h7a, hN.h24, hN.h25, (fun _ => rfl), hN.h27, hN.h28, hN.c4_3, hN.h29, (fun _ => rfl), hN.c5_4, hN.h30, hN.h31, hN.h32, hN.c8_7, hN.h33, hN.h34, hN.c10_9, hN.h35, hN.c11_6, hN.c11_8, hN.c11_10, hN.h36, hN.h37, hN.c13_12, hN.c14_11, hN.c14_13, hN.c15_1, hN.c15_5, hN.c15_14, hN.c16_0, hN.c16_15, hN.c17_16⟩
          | 3, ho =>
            obtain rfl := Option.some.inj ho
            refine rstep_value rfl (v := .int .i64 (j : Nat)) (w' := wx) ?_ ?_
            · simp only [hole, List.foldl_cons, List.foldl_nil, List.setIfInBounds_toArray, List.set_cons_zero, List.set_cons_succ]
              go_simp
            · exact ⟨hN.w0, hN.w13, hN.w14, hN.w15, hN.w16, hN.h7, hN.h7a, hN.h24, hN.h25, hN.h26, (fun _ => rfl), hN.h28, (fun _ => rfl), hN.h29, hN.c5_2, hN.c5_4, hN.h30, hN.h31, hN.h32, hN.c8_7, hN.h33, hN.h34, hN.c10_9, hN.h35, hN.c11_6, hN.c11_8, hN.c11_10, hN.h36, hN.h37, hN.c13_12, hN.c14_11, hN.c14_13, hN.c15_1, hN.c15_5, hN.c15_14, hN.c16_0, hN.c16_15, hN.c17_16⟩
          | 4, ho =>
            obtain rfl := Option.some.inj ho
            have e27 := hN.h27 (hdep ⟨3, .data⟩ (by simp) rfl)
            refine rstep_value rfl (v := .int .i64 ((2 : Int) ^ j)) (w' := wx) ?_ ?_
            · simp only [hole, List.foldl_cons, List.foldl_nil, List.setIfInBounds_toArray, List.set_cons_zero, List.set_cons_succ]
              go_simp
            · exact ⟨hN.w0, hN.w13, hN.w14, hN.w15, hN.w16, hN.h7, hN.h7a, hN.h24, hN.h25, hN.h26, hN.h27, (fun _ => rfl), (fun _ => hdep ⟨3, .data⟩ (by simp) rfl), hN.h29, hN.c5_2, (fun _ => rfl), hN.h30, hN.h31, hN.h32, hN.c8_7, hN.h33, hN.h34, hN.c10_9, hN.h35, hN.c11_6, hN.c11_8, hN.c11_10, hN.h36, hN.h37, hN.c13_12, hN.c14_11, hN.c14_13, hN.c15_1, hN.c15_5, hN.c15_14, hN.c16_0, hN.c16_15, hN.c17_16⟩
          | 5, ho =>
            obtain rfl := Option.some.inj ho
            have e26 := hN.h26 (hdep ⟨2, .data⟩ (by simp) rfl)
            have e28 := hN.h28 (hdep ⟨4, .data⟩ (by simp) rfl)
            refine rstep_value rfl (v := .int .i64 ((taken ||| 2 ^ j : Nat) : Int)) (w' := wx) ?_ ?_
            · simp only [hole, List.foldl_cons, List.foldl_nil, List.setIfInBounds_toArray, List.set_cons_zero, List.set_cons_succ]
              go_simp
            · exact ⟨hN.w0, hN.w13, hN.w14, hN.w15, hN.w16, hN.h7, hN.h7a, hN.h24, hN.h25, hN.h26, hN.h27, hN.h28, hN.c4_3, (fun _ => rfl), (fun _ => hdep ⟨2, .data⟩ (by simp) rfl), (fun _ => hdep ⟨4, .data⟩ (by simp) rfl), hN.h30, hN.h31, hN.h32, hN.c8_7, hN.h33, hN.h34, hN.c10_9, hN.h35, hN.c11_6, hN.c11_8, hN.c11_10, hN.h36, hN.h37, hN.c13_12, hN.c14_11, hN.c14_13, hN.c15_1, (fun _ => rfl), hN.c15_14, hN.c16_0, hN.c16_15, hN.c17_16⟩
          | 6, ho =>
            obtain rfl := Option.some.inj ho
            refine rstep_value rfl (v := .slice a L c) (w' := wx) ?_ ?_
            · simp only [hole, List.foldl_cons, List.foldl_nil, List.setIfInBounds_toArray, List.set_cons_zero, List.set_cons_succ]
              go_simp
            · exact ⟨hN.w0, hN.w13, hN.w14, hN.w15, hN.w16, hN.h7, hN.h7a, hN.h24, hN.h25, hN.h26, hN.h27, hN.h28, hN.c4_3, hN.h29, hN.c5_2, hN.c5_4, (fun _ => rfl), hN.h31, hN.h32, hN.c8_7, hN.h33, hN.h34, hN.c10_9, hN.h35, (fun _ => rfl), hN.c11_8, hN.c11_10, hN.h36, hN.h37, hN.c13_12, hN.c14_11, hN.c14_13, hN.c15_1, hN.c15_5, hN.c15_14, hN.c16_0, hN.c16_15, hN.c17_16⟩
          | 7, ho =>
            obtain rfl := Option.some.inj ho
            refine rstep_value rfl (v := .slice a L c) (w' := wx) ?_ ?_
            · simp only [hole, List.foldl_cons, List.foldl_nil, List.setIfInBounds_toArray, List.set_cons_zero, List.set_cons_succ]
              go_simp
            · exact ⟨hN.w0, hN.w13, hN.w14, hN.w15, hN.w16, hN.h7, hN.h7a, hN.h24, hN.h25, hN.h26, hN.h27, hN.h28, hN.c4_3, hN.h29, hN.c5_2, hN.c5_4, hN.h30, (fun _ => rfl), hN.h32, (fun _ => rfl), hN.h33, hN.h34, hN.c10_9, hN.h35, hN.c11_6, hN.c11_8, hN.c11_10, hN.h36, hN.h37, hN.c13_12, hN.c14_11, hN.c14_13, hN.c15_1, hN.c15_5, hN.c15_14, hN.c16_0, hN.c16_15, hN.c17_16⟩
          | 8, ho =>
            obtain rfl := Option.some.inj ho
            have e31 := hN.h31 (hdep ⟨7, .data⟩ (by simp) rfl)
            refine rstep_value rfl (v := .int .i64 (L : Nat)) (w' := wx) ?_ ?_
            · simp only [hole, List.foldl_cons, List.foldl_nil, List.setIfInBounds_toArray, List.set_cons_zero, List.set_cons_succ]
              go_simp
            · exact ⟨hN.w0, hN.w13, hN.w14, hN.w15, hN.w16, hN.h7, hN.h7a, hN.h24, hN.h25, hN.h26, hN.h27, hN.h28, hN.c4_3, hN.h29, hN.c5_2, hN.c5_4, hN.h30, hN.h31, (fun _ => rfl), (fun _ => hdep ⟨7, .data⟩ (by simp) rfl), hN.h33, hN.h34, hN.c10_9, hN.h35, hN.c11_6, (fun _ => rfl), hN.c11_10, hN.h36, hN.h37, hN.c13_12, hN.c14_11, hN.c14_13, hN.c15_1, hN.c15_5, hN.c15_14, hN.c16_0, hN.c16_15, hN.c17_16⟩
          | 9, ho =>
            obtain rfl := Option.some.inj ho
            refine rstep_value rfl (v := .slice a L c) (w' := wx) ?_ ?_
            · simp only [hole, List.foldl_cons, List.foldl_nil, List.setIfInBounds_toArray, List.set_cons_zero, List.set_cons_succ]
              go_simp
            · exact ⟨hN.w0, hN.w13, hN.w14, hN.w15, hN.w16, hN.h7, hN.h7a, hN.h24, hN.h25, hN.h26, hN.h27, hN.h28, hN.c4_3, hN.h29, hN.c5_2, hN.c5_4, hN.h30, hN.h31, hN.h32, hN.c8_7, (fun _ => rfl), hN.h34, (fun _ => rfl), hN.h35, hN.c11_6, hN.c11_8, hN.c11_10, hN.h36, hN.h37, hN.c13_12, hN.c14_11, hN.c14_13, hN.c15_1, hN.c15_5, hN.c15_14, hN.c16_0, hN.c16_15, hN.c17_16⟩
          | 10, ho =>
            obtain rfl := Option.some.inj ho
            have e33 := hN.h33 (hdep ⟨9, .data⟩ (by simp) rfl)
            refine rstep_value rfl (v := .int .i64 (L : Nat)) (w' := wx) ?_ ?_
            · simp only [hole, List.foldl_cons, List.foldl_nil, List.setIfInBounds_toArray, List.set_cons_zero, List.set_cons_succ]
              go_simp
            · exact ⟨hN.w0, hN.w13, hN.w14, hN.w15, hN.w16, hN.h7, hN.h7a, hN.h24, hN.h25, hN.h26, hN.h27, hN.h28, hN.c4_3, hN.h29, hN.c5_2, hN.c5_4, hN.h30, hN.h31, hN.h32, hN.c8_7, hN.h33, (fun _ => rfl), (fun _ => hdep ⟨9, .data⟩ (by simp) rfl), hN.h35, hN.c11_6, hN.c11_8, (fun _ => rfl), hN.h36, hN.h37, hN.c13_12, hN.c14_11, hN.c14_13, hN.c15_1, hN.c15_5, hN.c15_14, hN.c16_0, hN.c16_15, hN.c17_16⟩
          | 11, ho =>
            obtain rfl := Option.some.inj ho
            have e30 := hN.h30 (hdep ⟨6, .data⟩ (by simp) rfl)
            have e32 := hN.h32 (hdep ⟨8, .data⟩ (by simp) rfl)
            have e34 := hN.h34 (hdep ⟨10, .data⟩ (by simp) rfl)
            refine rstep_value rfl (v := .slice a L L) (w' := wx) ?_ ?_
            · simp only [hole, List.foldl_cons, List.foldl_nil, List.setIfInBounds_toArray, List.set_cons_zero, List.set_cons_succ]
              rcases ha with ⟨rfl, rfl, rfl⟩ | ⟨g, rfl⟩
              · go_simp
              · go_simp
            · exact ⟨hN.w0, hN.w13, hN.w14, hN.w15, hN.w16, hN.h7, hN.h7a, hN.h24, hN.h25, hN.h26, hN.h27, hN.h28, hN.c4_3, hN.h29, hN.c5_2, hN.c5_4, hN.h30, hN.h31, hN.h32, hN.c8_7, hN.h33, hN.h34, hN.c10_9, (fun _ => rfl), (fun _ => hdep ⟨6, .data⟩ (by simp) rfl), (fun _ => hdep ⟨8, .data⟩ (by simp) rfl), (fun _ => hdep ⟨10, .data⟩ (by simp) rfl), hN.h36, hN.h37, hN.c13_12, (fun _ => rfl), hN.c14_13, hN.c15_1, hN.c15_5, hN.c15_14, hN.c16_0, hN.c16_15, hN.c17_16⟩
          | 12, ho =>
            obtain rfl := Option.some.inj ho
            refine rstep_value rfl (v := .int .i64 (j : Nat)) (w' := wx) ?_ ?_
            · simp only [hole, List.foldl_cons, List.foldl_nil, List.setIfInBounds_toArray, List.set_cons_zero, List.set_cons_succ]
              go_simp
            · exact ⟨hN.w0, hN.w13, hN.w14, hN.w15, hN.w16, hN.h7, hN.h7a, hN.h24, hN.h25, hN.h26, hN.h27, hN.h28, hN.c4_3, hN.h29, hN.c5_2, hN.c5_4, hN.h30, hN.h31, hN.h32, hN.c8_7, hN.h33, hN.h34, hN.c10_9, hN.h35, hN.c11_6, hN.c11_8, hN.c11_10, (fun _ => rfl), hN.h37, (fun _ => rfl), hN.c14_11, hN.c14_13, hN.c15_1, hN.c15_5, hN.c15_14, hN.c16_0, hN.c16_15, hN.c17_16⟩
          | 13, ho =>
            obtain rfl := Option.some.inj ho
            have e36 := hN.h36 (hdep ⟨12, .data⟩ (by simp) rfl)
            obtain rfl := hN.w0 hdi
            refine rstep_value rfl (v := .slice (some ⟨wx.heap.size, 0, none⟩) 1 1) (w' := wx.alloc (.cells #[.int .i64 (j : Nat)] 3)) ?_ ?_
            · simp only [hole, List.foldl_cons, List.foldl_nil, List.setIfInBounds_toArray, List.set_cons_zero, List.set_cons_succ]
              go_simp
            · exact ⟨(fun h => by simp at h), (fun _ _ => rfl), (fun h => by have h2 := hN.c14_13 h; rw [hdi] at h2; cases h2), (fun h => by have h2 := hN.c14_13 (hN.c15_14 h); rw [hdi] at h2; cases h2), (fun h => by have h2 := hN.c14_13 (hN.c15_14 (hN.c16_15 h)); rw [hdi] at h2; cases h2), hN.h7, hN.h7a, hN.h24, hN.h25, hN.h26, hN.h27, hN.h28, hN.c4_3, hN.h29, hN.c5_2, hN.c5_4, hN.h30, hN.h31, hN.h32, hN.c8_7, hN.h33, hN.h34, hN.c10_9, hN.h35, hN.c11_6, hN.c11_8, hN.c11_10, hN.h36, (fun _ => rfl), (fun _ => hdep ⟨12, .data⟩ (by simp) rfl), hN.c14_11, (fun _ => rfl), hN.c15_1, hN.c15_5, hN.c15_14, hN.c16_0, hN.c16_15, hN.c17_16⟩
          | 14, ho =>
            obtain rfl := Option.some.inj ho
            have e35 := hN.h35 (hdep ⟨11, .data⟩ (by simp) rfl)
            have e37 := hN.h37 (hdep ⟨13, .data⟩ (by simp) rfl)
            have d13 : d 13 = true := hdep ⟨13, .data⟩ (by simp) rfl
            obtain rfl := hN.w13 d13 hdi
            obtain ⟨v', w', hrun, r1, r2⟩ := run_app1_cut (ty := 22) (HB.out.alloc (.cells #[.int .i64 (j : Nat)] 3)) (ad := ⟨W0.heap.size, 0, none⟩) (c := 1) (cell_new1 _ _ _) (by rw [toI_length]; omega)
            have hrun' : (Builtin.append_ #[22, 22] 22 #[.slice a L L, .slice (some ⟨W0.heap.size, 0, none⟩) 1 1]).run Tryd.prog (W0.alloc (.cells #[.int .i64 (j : Nat)] 3)) = .ok v' w' := hrun
            refine rstep_value rfl (v := v') (w' := w') ?_ ?_
            · simp only [hole, List.foldl_cons, List.foldl_nil, List.setIfInBounds_toArray, List.set_cons_zero, List.set_cons_succ]
              simp [execOp, resolve, invoke, builtin, Act.eval, e35, e37, Result.andThen]
              rw [hrun']
            · exact ⟨(fun h => by rw [show d 13 = false from h] at d13; cases d13), (fun _ h => by simp at h), (fun _ _ => ⟨by rw [toI_append]; exact r1.mono (by simp; omega), (below_alloc (Below.refl _ _) _).trans (r2.mono (by simp))⟩), (fun h => by have h2 := hN.c15_14 h; rw [hdi] at h2; cases h2), (fun h => by have h2 := hN.c15_14 (hN.c16_15 h); rw [hdi] at h2; cases h2), hN.h7, hN.h7a, hN.h24, hN.h25, hN.h26, hN.h27, hN.h28, hN.c4_3, hN.h29, hN.c5_2, hN.c5_4, hN.h30, hN.h31, hN.h32, hN.c8_7, hN.h33, hN.h34, hN.c10_9, hN.h35, hN.c11_6, hN.c11_8, hN.c11_10, hN.h36, hN.h37, hN.c13_12, (fun _ => hdep ⟨11, .data⟩ (by simp) rfl), (fun _ => hdep ⟨13, .data⟩ (by simp) rfl), hN.c15_1, hN.c15_5, (fun _ => rfl), hN.c16_0, hN.c16_15, hN.c17_16⟩
          | 15, ho =>
            obtain rfl := Option.some.inj ho
            have e25 := hN.h25 (hdep ⟨1, .data⟩ (by simp) rfl)
            have e29 := hN.h29 (hdep ⟨5, .data⟩ (by simp) rfl)
            have d14 : d 14 = true := hdep ⟨14, .data⟩ (by simp) rfl
            obtain ⟨o38, b38⟩ := hN.w14 d14 hdi
            have hsz := b38.size
            refine rstep_call rfl (f := 71) (args := #[.int .i64 (n : Nat), .int .i64 ((taken ||| 2 ^ j : Nat) : Int), y 38]) (w' := wx) ?_ (IH.out wx (y 38) o38 (by omega)) ?_
            · simp only [hole, List.foldl_cons, List.foldl_nil, List.setIfInBounds_toArray, List.set_cons_zero, List.set_cons_succ]
              go_simp
            · rintro e w'' ⟨v', rfl, hr, hb⟩
              exact ⟨_, rfl, (fun h => by have d13 := hN.c14_13 d14; rw [show d 13 = false from h] at d13; cases d13), (fun _ h => by rw [show d 14 = false from h] at d14; cases d14), (fun _ h => by simp at h), (fun _ _ => ⟨hr.monoB hsz, b38.trans (hb.mono hsz)⟩), (fun h => by have h2 := hN.c16_15 h; rw [hdi] at h2; cases h2), hN.h7, hN.h7a, hN.h24, hN.h25, hN.h26, hN.h27, hN.h28, hN.c4_3, hN.h29, hN.c5_2, hN.c5_4, hN.h30, hN.h31, hN.h32, hN.c8_7, hN.h33, hN.h34, hN.c10_9, hN.h35, hN.c11_6, hN.c11_8, hN.c11_10, hN.h36, hN.h37, hN.c13_12, hN.c14_11, hN.c14_13, (fun _ => hdep ⟨1, .data⟩ (by simp) rfl), (fun _ => hdep ⟨5, .data⟩ (by simp) rfl), (fun _ => hdep ⟨14, .data⟩ (by simp) rfl), hN.c16_0, (fun _ => rfl), hN.c17_16⟩
          | 16, ho =>
            obtain rfl := Option.some.inj ho
            have e24 := hN.h24 (hdep ⟨0, .data⟩ (by simp) rfl)
            have d15 : d 15 = true := hdep ⟨15, .data⟩ (by simp) rfl
            obtain ⟨r39, b39⟩ := hN.w15 d15 hdi
            have hsz := b39.size
            obtain ⟨u, w', hrun, r1, r2, r3⟩ := run_appRows (ty := 42) (HO.out.below b39) r39 (by omega) hlen
            refine rstep_value rfl (v := u) (w' := w') ?_ ?_
            · simp only [hole, List.foldl_cons, List.foldl_nil, List.setIfInBounds_toArray, List.set_cons_zero, List.set_cons_succ]
              simp [execOp, resolve, invoke, builtin, Act.eval, e24, Result.andThen]
              rw [hrun]
            · exact ⟨(fun h => by have d13 := hN.c14_13 (hN.c15_14 d15); rw [show d 13 = false from h] at d13; cases d13), (fun _ h => by have d14 := hN.c15_14 d15; rw [show d 14 = false from h] at d14; cases d14), (fun _ h => by rw [show d 15 = false from h] at d15; cases d15), (fun _ h => by simp at h), (fun _ => ⟨r1, (b39.mono (by omega)).trans r3⟩), (fun h => by have h2 := hN.c17_16 h; rw [hdi] at h2; cases h2), hN.h7a, hN.h24, hN.h25, hN.h26, hN.h27, hN.h28, hN.c4_3, hN.h29, hN.c5_2, hN.c5_4, hN.h30, hN.h31, hN.h32, hN.c8_7, hN.h33, hN.h34, hN.c10_9, hN.h35, hN.c11_6, hN.c11_8, hN.c11_10, hN.h36, hN.h37, hN.c13_12, hN.c14_11, hN.c14_13, hN.c15_1, hN.c15_5, hN.c15_14, (fun _ => hdep ⟨0, .data⟩ (by simp) rfl), (fun _ => hdep ⟨15, .data⟩ (by simp) rfl), (fun _ => rfl)⟩
          | 17, ho =>
            obtain rfl := Option.some.inj ho
            refine rstep_value rfl (v := y 40) (w' := wx) ?_ ?_
            · simp only [hole, List.foldl_cons, List.foldl_nil, List.setIfInBounds_toArray, List.set_cons_zero, List.set_cons_succ]
              go_simp
            · exact ⟨hN.w0, hN.w13, hN.w14, hN.w15, hN.w16, (fun _ => rfl), (fun h => by simp at h), hN.h24, hN.h25, hN.h26, hN.h27, hN.h28, hN.c4_3, hN.h29, hN.c5_2, hN.c5_4, hN.h30, hN.h31, hN.h32, hN.c8_7, hN.h33, hN.h34, hN.c10_9, hN.h35, hN.c11_6, hN.c11_8, hN.c11_10, hN.h36, hN.h37, hN.c13_12, hN.c14_11, hN.c14_13, hN.c15_1, hN.c15_5, hN.c15_14, hN.c16_0, hN.c16_15, (fun _ => hdep ⟨16, .data⟩ (by simp) rfl)⟩
        · intro d y wx hd hN
          have e24 := hN.h24 (hd 0 (by simp))
          have e25 := hN.h25 (hd 1 (by simp))
          have e26 := hN.h26 (hd 2 (by simp))
          have e27 := hN.h27 (hd 3 (by simp))
          have e28 := hN.h28 (hd 4 (by simp))
          have e29 := hN.h29 (hd 5 (by simp))
          have e30 := hN.h30 (hd 6 (by simp))
          have e31 := hN.h31 (hd 7 (by simp))
          have e32 := hN.h32 (hd 8 (by simp))
          have e33 := hN.h33 (hd 9 (by simp))
          have e34 := hN.h34 (hd 10 (by simp))
          have e35 := hN.h35 (hd 11 (by simp))
          have e36 := hN.h36 (hd 12 (by simp))
          have e37 := hN.h37 (hd 13 (by simp))
          have e7 := hN.h7 (hd 17 (by simp))
          obtain ⟨hr, hb⟩ := hN.w16 (hd 16 (by simp))
          clear hN
          simp only [hole, List.foldl_cons, List.foldl_nil, List.setIfInBounds_toArray, List.set_cons_zero, List.set_cons_succ, e7, e24, e25, e26, e27, e28, e29, e30, e31, e32, e33, e34, e35, e36, e37]
          clear e7 e24 e25 e26 e27 e28 e29 e30 e31 e32 e33 e34 e35 e36 e37
          go_wp2
          go_roundw
          case rel => exact ⟨j + 1, by omega, by go_num, by rw [HP.out]; exact hr, HBW.out.trans hb⟩
          case measure => simp [intOf]; omega
    · obtain rfl : j = n := by omega
      go_wp2
      go_ret
      exact ⟨_, rfl, by rw [← hpre.out]; exact hr, hb⟩
end Go.Proofs.YtlpnicfbgdfbnaaDoor

/- ref.permutations, ref.Hits. -/
namespace Go.Proofs.YtlpnicfbgdfbnaaDoor
open Go.RowKit Go.Shelf
attribute [local go_sem] Oper.semAt_some

theorem permuted_any (C n : Nat) (hn : n ≤ 6) : ∀ (d taken : Nat) (begun : List Nat) (vb : Value) (w : World), taken < 64 → begun.length + d = n → pop (diffS (2 ^ n - 1) taken) = d → OwnI 3 C w vb (toI begun) → C ≤ w.heap.size →
    Calls Tryd.prog 71 #[.int .i64 (n : Nat), .int .i64 (taken : Nat), vb] w (PdPost C ((perms d (diffS (2 ^ n - 1) taken)).map (begun ++ ·)) w)
  | 0, taken, begun, vb, w, _, hl, _, ho, _ => by
    have := permuted_leaf C n taken begun vb w (by omega) ho
    have e : (perms 0 (diffS (2 ^ n - 1) taken)).map (begun ++ ·) = [begun] := by simp [perms]
    rw [e]; exact this
  | d + 1, taken, begun, vb, w, ht, hl, hp, ho, hC =>
    permuted_node C n taken d begun vb w hn ht (by omega) (by omega) ho hC (fun taken' begun' vb' w' h1 h2 h3 h4 h5 => permuted_any C n hn d taken' begun' vb' w' h1 (by omega) h3 h4 h5) hp

set_option maxHeartbeats 400000 in
theorem permutations_any (n : Nat) (hn : n ≤ 6) (w : World) :
    Calls Tryd.prog 53 #[.int .i64 (n : Nat)] w fun e w' => ∃ v', e = .returned v' ∧ RowsI w.heap.size w.heap.size w' v' (allP n) ∧ Below w.heap.size w w' := by
  obtain ⟨p1, p2, p3⟩ := all_pop n (by omega)
  have e0 : diffS (2 ^ n - 1) 0 = 2 ^ n - 1 := by simp [diffS]
  have C := permuted_any w.heap.size n hn n 0 [] (.slice none 0 0) w (by decide) (by simp) (by rw [e0]; exact p3) (OwnI.nil _ _ _) (Nat.le_refl _)
  rw [e0] at C
  have e1 : (perms n (2 ^ n - 1)).map ([] ++ ·) = allP n := by simp [allP]
  rw [e1] at C
  have C := Lib.hid C
  clear p1 p2 p3 e0 e1
  go_enter Tryd.func53, Tryd.ntmps53
  go_wp2_with (go_at_call 71; refine C.out.mono ?_; rintro e w1 ⟨v', rfl, hr, hb⟩)
  go_ret
  exact ⟨_, rfl, hr, hb⟩

theorem hitsFrom_snoc (bs s : List Nat) (ls : List (List Nat)) (k : Nat) (hk : k < ls.length) : hitsFrom bs s (ls.take (k + 1)) = inc (hitsFrom bs s (ls.take k)) (hitN bs ls[k]) := by
  unfold hitsFrom
  rw [take_succ' ls k hk, List.foldl_append]; rfl
theorem hitsFrom_zero_le (bs : List Nat) (m : Nat) (ls : List (List Nat)) (hl : ∀ l ∈ ls, l.length ≤ bs.length) (hn : ls.length ≤ 720) : (hitsFrom bs (List.replicate (bs.length + 1) 0) ls).getD m 0 ≤ 720 := by
  have := hitsFrom_le bs m ls (List.replicate (bs.length + 1) 0) (fun l h => by have := hitN_le bs l; have := hl l h; simp; omega)
  have e : (List.replicate (bs.length + 1) 0).getD m 0 = 0 := by simp [List.getD, List.getElem?_replicate]; split <;> rfl
  omega

set_option maxRecDepth 20000 in
set_option maxHeartbeats 2000000 in
theorem refHits_any (v : Value) (bs : List Nat) (w : World) (hv : Ints w v (toI bs)) (h : IsBoard bs) :
    Calls Tryd.prog 25 #[v] w fun e w' => ∃ v', e = .returned v' ∧ OwnI 3 w.heap.size w' v' (toI (hitsL bs)) ∧ Below w.heap.size w w' := by
  have h6 := h.le
  have w1 : IntKind.i64.wrap ((bs.length : Int) + 1) = (bs.length : Int) + 1 := IntWalk.i64_in _ (by omega)
  have hmk := make_ints1 bs.length (by omega)
  have H := Lib.hid h
  have HV := Lib.hid hv
  have HL := Lib.hid (show ∀ l ∈ allP bs.length, l.length = bs.length from perms_len _ _)
  have H6 := Lib.hid (show ∀ l ∈ allP bs.length, ∀ c ∈ l, c < 6 from fun l hl => perms_lt _ _ l (all_pop bs.length (by omega)).2.1 hl)
  have HN := Lib.hid (allP_length bs.length (by omega))
  obtain ⟨a, c, rfl, hlen, hcl2, hc⟩ := hv.openN
  clear hv h hc
  obtain ⟨W1, hW1⟩ : ∃ W1, w.alloc (.cells ((toI (List.replicate (bs.length + 1) 0)).map (Value.int .i64)).toArray 3) = W1 := ⟨_, rfl⟩
  have hb1 : Below w.heap.size w W1 := by rw [← hW1]; exact (Below.refl _ _).alloc (Nat.le_refl _) _
  have ho1 : OwnI 3 w.heap.size W1 (.slice (some ⟨w.heap.size, 0, none⟩) (bs.length + 1) (bs.length + 1)) (toI (List.replicate (bs.length + 1) 0)) := by rw [← hW1]; exact own_zeros w _ (Nat.le_refl _) (by unfold maxLen; omega)
  have hs1 : W1.heap.size = w.heap.size + 1 := by rw [← hW1]; simp
  have C := Lib.hid (permutations_any bs.length h6 W1)
  go_enter Tryd.func25, Tryd.ntmps25
  go_wp2_with (go_at_call 53; refine C.out.mono ?_; rintro e w2 ⟨v2, rfl, hr2, hb2⟩; obtain ⟨a2, c2, rfl⟩ := hr2.form)
  have ho2 := ho1.below hb2
  have hb3 : Below w.heap.size w w2 := hb1.trans (hb2.mono (by omega))
  have hs2 := hb2.size
  obtain ⟨P, hP⟩ : ∃ P, allP bs.length = P := ⟨_, rfl⟩
  have hfin := Lib.hid (show hitsL bs = hitsFrom bs (List.replicate (bs.length + 1) 0) P from by rw [← hP]; rfl)
  rw [hP] at HL H6 HN hr2 ⊢
  have hPl := HN.out
  clear hP C hW1
  go_loopw [14] (fun ix wr => ∃ k : Nat, k ≤ P.length ∧ ix = .int .i64 k ∧ RowsI W1.heap.size W1.heap.size wr (.slice a2 P.length c2) P ∧ Below w.heap.size w wr ∧ OwnI 3 w.heap.size wr (.slice (some ⟨w.heap.size, 0, none⟩) (bs.length + 1) (bs.length + 1)) (toI (hitsFrom bs (List.replicate (bs.length + 1) 0) (P.take k)))) (fun i _ => P.length - (intOf i).toNat)
  case atStart => exact ⟨0, Nat.zero_le _, rfl, hr2, hb3, ho2⟩
  case round =>
    obtain ⟨k, hk, rfl, hr, hb, ho⟩ := hrel
    clear hr2 ho2 hb3 hb2 ho1 hb1
    by_cases hlt : k < P.length
    · obtain ⟨g2, cap2, u, e2, hg2, hcu, hu⟩ := hr.at k hlt
      obtain ⟨rfl, _, rfl⟩ := Value.slice.inj e2
      have hlk := HL.out _ (List.getElem_mem hlt)
      have h6k := H6.out _ (List.getElem_mem hlt)
      have CH := Lib.hid (refhits_any (.slice a bs.length c) u bs P[k] wr (HV.out.below hb) (hu.ints (by rw [toI_length]; omega)) H.out.lt h6k (by omega) h6)
      have hle : hitN bs P[k] ≤ bs.length := by rw [← hlk]; exact hitN_le _ _
      have hsn := Lib.hid (hitsFrom_snoc bs (List.replicate (bs.length + 1) 0) P k hlt)
      have hcl := hitsFrom_length bs (P.take k) (List.replicate (bs.length + 1) 0)
      rw [List.length_replicate] at hcl
      have hbd := hitsFrom_zero_le bs (hitN bs P[k]) (P.take k) (fun l hl => Nat.le_of_eq (HL.out l (List.mem_of_mem_take hl))) (by rw [List.length_take]; omega)
      obtain ⟨hit, hhit⟩ : ∃ x, hitN bs P[k] = x := ⟨_, rfl⟩
      obtain ⟨cu, hcu0⟩ : ∃ x, hitsFrom bs (List.replicate (bs.length + 1) 0) (P.take k) = x := ⟨_, rfl⟩
      rw [hhit] at hle CH hsn hbd
      rw [hcu0] at hsn hcl hbd ho
      have cG := ho.cellN hit (by omega)
      have fG := ho.frozenN hit
      obtain ⟨x, hx⟩ : ∃ x, cu[hit]'(by omega) = x := ⟨_, rfl⟩
      rw [getD_at (by omega), hx] at hbd
      rw [hx] at cG
      have wx : IntKind.i64.wrap ((x : Int) + 1) = (x : Int) + 1 := IntWalk.i64_in _ (by omega)
      have hhl : (hit : Int) < (bs.length : Int) + 1 := by omega
      have HR := Lib.hid hr
      have HO := Lib.hid ho
      have HX := Lib.hid (show cu.getD hit 0 = x by rw [getD_at (by omega)]; exact hx)
      have HB := Lib.hid hb
      clear hr ho hx hb hcu0 hhit hlk h6k
      obtain ⟨au, lu, hfu⟩ := hu.form
      rw [hfu] at hcu CH
      clear hu hfu
      go_wp2_with (go_at_call 54; refine CH.out.mono ?_; rintro e w3 ⟨rfl, rfl⟩)
      go_roundw
      case rel =>
        refine ⟨k + 1, by omega, by go_num, HR.out.kept (IsBufferSet _ _ _ _) (.inr ?_) (fun j hj => by cases hj; omega), HB.out.setCell (by exact Nat.le_refl _) _, ?_⟩
        · simp [Value.ownBlock]; omega
        · rw [hsn.out]
          unfold inc
          rw [HX.out]
          have := HO.out.storedN hit (x + 1)
          push_cast at this
          exact this
      case measure => simp [intOf]; omega
    · obtain rfl : k = P.length := by omega
      rw [List.take_length] at ho
      go_wp2
      go_ret
      exact ⟨_, rfl, by rw [hfin.out]; exact ho, hb⟩
end Go.Proofs.YtlpnicfbgdfbnaaDoor

/- avoid$1 as a yield; avoid, Avoid. -/
namespace Go.Proofs.YtlpnicfbgdfbnaaDoor
open Go.RowKit Go.Shelf
attribute [local go_sem] Oper.semAt_some run_store_closure

set_option maxRecDepth 20000 in
set_option maxHeartbeats 800000 in
theorem avoid1_hit (W : World) (bs l : List Nat) (v vp : Value) (bo bb : Nat) (vo : Value) (hbs : ∀ r ∈ bs, r < 64) (hl : l.length = bs.length) (h1 : 1 ≤ bs.length) (h6 : bs.length ≤ 6) (hc6 : ∀ c ∈ l, c < 6) (hv : Ints W v (toI bs)) (hp : Ints W vp (toI l))
    (xb : Boxed W bb 47 v) (xo : Boxed W bo 22 vo) (hh : hitN bs l = 0) :
    Calls Tryd.prog 74 #[vp, .pointer (some ⟨bb, 0, none⟩), .pointer (some ⟨bo, 0, none⟩)] W fun e W' =>
      e = .returned (.bool false) ∧ ∃ g cap W1, OwnI 3 W.heap.size W1 (.slice (some ⟨g, 0, none⟩) l.length cap) (toI l) ∧ Below W.heap.size W W1 ∧ W' = W1.setCell ⟨bo, 0, none⟩ (.slice (some ⟨g, 0, none⟩) l.length cap) := by
  have C := hit_any v vp bs l W hv hp hbs hc6 (by omega) h6
  rw [hh] at C
  have C := Lib.hid C
  have CC := Lib.hid (Clone_any vp _ W hp)
  have c1 := xb.cell
  have hl1 : l.length = (l.length - 1) + 1 := by omega
  have HL := Lib.hid hl1
  have XO := Lib.hid xo
  obtain ⟨a, c, rfl, hlen, hcl, hc⟩ := hv.openN
  obtain ⟨a', c', rfl, hlen', hcl', hc'⟩ := hp.openN
  clear hc hc' hv hp hl1 xo xb hh hbs hl h6 hc6 h1
  have q22 : ∀ (w : World) (a : Option Addr) (n c n' c' : Nat), (binOp .eql 22 (.slice a n c) (.slice none n' c')).run Tryd.prog w = .ok (.bool a.isNone) w := fun w a n c n' c' => Lib.run_eql_slice_nil w _ _ a n c n' c' Tryd.underlying22
  go_enter Tryd.func74, Tryd.ntmps74
  go_wp2_with (first
    | (go_at_call 51; refine C.out.mono ?_; rintro e w2 ⟨rfl, rfl⟩)
    | (
      go_at_call 40
      refine CC.out.mono ?_
      rintro e w3 ⟨v3, rfl, ho3, hb3⟩
      obtain ⟨g, cap, e3⟩ := ho3.row HL.out
      rw [← HL.out] at e3
      subst e3
      have xo3 := boxed_below XO.out hb3
      have co3 := xo3.cell
      have fo3 := xo3.frozen
      have cs3 := (Boxed.set (.slice (some ⟨g, 0, none⟩) l.length cap) xo3).cell
      have HO3 := Lib.hid ho3
      have HB3 := Lib.hid hb3
      clear ho3 hb3 xo3))
  go_ret
  exact ⟨rfl, g, cap, w3, HO3.out, HB3.out, rfl⟩

set_option maxRecDepth 20000 in
set_option maxHeartbeats 800000 in
theorem avoid1_miss0 (W : World) (bs l : List Nat) (v vp : Value) (bo bb : Nat) (hbs : ∀ r ∈ bs, r < 64) (hl : l.length = bs.length) (h6 : bs.length ≤ 6) (hc6 : ∀ c ∈ l, c < 6) (hv : Ints W v (toI bs)) (hp : Ints W vp (toI l))
    (xb : Boxed W bb 47 v) (xo : Boxed W bo 22 (.slice none 0 0)) (hh : hitN bs l ≠ 0) :
    Calls Tryd.prog 74 #[vp, .pointer (some ⟨bb, 0, none⟩), .pointer (some ⟨bo, 0, none⟩)] W fun e W' => e = .returned (.bool true) ∧ W = W' := by
  have C := hit_any v vp bs l W hv hp hbs hc6 (by omega) h6
  have hle := hitN_le bs l
  obtain ⟨z, hz⟩ : ∃ z, hitN bs l = z := ⟨_, rfl⟩
  rw [hz] at C hh hle
  have C := Lib.hid C
  have c1 := xb.cell
  have c2 := xo.cell
  have hzb : ((z : Int) == 0) = false := by simp; omega
  obtain ⟨a, c, rfl, hlen, hcl, hc⟩ := hv.openN
  obtain ⟨a', c', rfl, hlen', hcl', hc'⟩ := hp.openN
  clear hc hc' hv hp xo xb hz hbs hl h6 hle hc6
  have q22 : ∀ (w : World) (a : Option Addr) (n c n' c' : Nat), (binOp .eql 22 (.slice a n c) (.slice none n' c')).run Tryd.prog w = .ok (.bool a.isNone) w := fun w a n c n' c' => Lib.run_eql_slice_nil w _ _ a n c n' c' Tryd.underlying22
  go_enter Tryd.func74, Tryd.ntmps74
  go_wp2_with (go_at_call 51; refine C.out.mono ?_; rintro e w2 ⟨rfl, rfl⟩)
  go_ret
  exact ⟨rfl, rfl⟩

set_option maxRecDepth 20000 in
set_option maxHeartbeats 800000 in
theorem avoid1_miss1 (W : World) (bs l : List Nat) (v vp : Value) (bo bb g n cap : Nat) (hbs : ∀ r ∈ bs, r < 64) (hl : l.length = bs.length) (h6 : bs.length ≤ 6) (hc6 : ∀ c ∈ l, c < 6) (hv : Ints W v (toI bs)) (hp : Ints W vp (toI l))
    (xb : Boxed W bb 47 v) (xo : Boxed W bo 22 (.slice (some ⟨g, 0, none⟩) n cap)) (hh : hitN bs l ≠ 0) :
    Calls Tryd.prog 74 #[vp, .pointer (some ⟨bb, 0, none⟩), .pointer (some ⟨bo, 0, none⟩)] W fun e W' => e = .returned (.bool false) ∧ W = W' := by
  have C := hit_any v vp bs l W hv hp hbs hc6 (by omega) h6
  have hle := hitN_le bs l
  obtain ⟨z, hz⟩ : ∃ z, hitN bs l = z := ⟨_, rfl⟩
  rw [hz] at C hh hle
  have C := Lib.hid C
  have c1 := xb.cell
  have c2 := xo.cell
  have hzb : ((z : Int) == 0) = false := by simp; omega
  obtain ⟨a, c, rfl, hlen, hcl, hc⟩ := hv.openN
  obtain ⟨a', c', rfl, hlen', hcl', hc'⟩ := hp.openN
  clear hc hc' hv hp xo xb hz hbs hl h6 hle hc6
  have q22 : ∀ (w : World) (a : Option Addr) (n c n' c' : Nat), (binOp .eql 22 (.slice a n c) (.slice none n' c')).run Tryd.prog w = .ok (.bool a.isNone) w := fun w a n c n' c' => Lib.run_eql_slice_nil w _ _ a n c n' c' Tryd.underlying22
  go_enter Tryd.func74, Tryd.ntmps74
  go_wp2_with (go_at_call 51; refine C.out.mono ?_; rintro e w2 ⟨rfl, rfl⟩)
  go_ret
  exact ⟨rfl, rfl⟩

/-- What lies in 'out'. -/
def OutIs (N : Nat) (W : World) (vo : Value) : Option (List Nat) → Prop
  | none => vo = .slice none 0 0
  | some l => 1 ≤ l.length ∧ OwnI 3 N W vo (toI l)
structure AInv (w0 : World) (N : Nat) (bs : List Nat) (v : Value) (bb bo : Nat) (s : Option (List Nat)) (W : World) : Prop where
  hb : Below w0.heap.size w0 W
  low : N ≤ W.heap.size
  xb : Boxed W bb 47 v
  out : ∃ vo, Boxed W bo 22 vo ∧ OutIs N W vo s
def APro (bo : Nat) (W : World) (k : Nat) : Prop := ∃ vo, Boxed W bo 22 vo ∧ vo.ownBlock = some k
theorem Boxed.uniq {W : World} {b : Nat} {t : TypeId} {u u' : Value} (h : Boxed W b t u) (h' : Boxed W b t u') : u = u' := by
  have := h.symm.trans h'
  simp only [Option.some.injEq, Obj.cells.injEq, Array.mk.injEq, List.cons.injEq] at this
  exact this.1.1

def stepA (bs : List Nat) (s : Option (List Nat)) (l : List Nat) : Option (List Nat) × Bool :=
  if hitN bs l = 0 then (some l, false) else (s, s.isNone)
def yA (w0 : World) (N : Nat) (bs : List Nat) (v : Value) (bb bo : Nat) : Yld (Option (List Nat)) where
  N := N
  n := bs.length
  fy := 74
  caps := #[.pointer (some ⟨bb, 0, none⟩), .pointer (some ⟨bo, 0, none⟩)]
  step := stepA bs
  Inv := AInv w0 N bs v bb bo
  Prot := fun _ => APro bo

theorem OutIs.sm {N : Nat} {W W' : World} {vo : Value} {s : Option (List Nat)} {S : Nat → Prop} (h : OutIs N W vo s) (hs : Sm S W W') (hS : ∀ k, vo.ownBlock = some k → S k) : OutIs N W' vo s := by
  cases s with
  | none => exact h
  | some l => exact ⟨h.1, hs.own h.2 hS⟩

theorem yA_ok (w0 : World) (N : Nat) (bs : List Nat) (v : Value) (bb bo : Nat) (h : IsBoard bs) (hv : Ints w0 v (toI bs)) (ht : Tab w0) (h0 : w0.heap.size ≤ N) (hbo0 : w0.heap.size ≤ bo) (hbo : bo < N) (hbb : bb < N) : (yA w0 N bs v bb bo).Ok where
  enter := fun args W => enter_go Tryd.func74 (by kernel_rfl) rfl args W
  tab := fun s W hi => ht.below hi.hb
  low := fun s W hi => hi.low
  cells := fun s W k hi hp => by
    have hi : AInv w0 N bs v bb bo s W := hi
    obtain ⟨vo, hx, ho⟩ := hi.out
    obtain ⟨vo', hx', hk⟩ := hp
    obtain rfl := Boxed.uniq hx hx'
    cases s with
    | none =>
      have : vo = .slice none 0 0 := ho
      subst this
      simp [Value.ownBlock] at hk
    | some l => exact ho.2.isCells k hk
  stable := fun s W W' hi hs => by
    have hi : AInv w0 N bs v bb bo s W := hi
    obtain ⟨vo, hx, ho⟩ := hi.out
    have hx' := hs.boxed hx (.inl hbo)
    refine ⟨⟨⟨hs.os.trans hi.hb.os, hs.tape.trans hi.hb.tape, hs.output.trans hi.hb.output, Nat.le_trans hi.hb.size hs.size, fun k hk => (hs.block k (.inl (Nat.lt_of_lt_of_le hk h0)) (Nat.lt_of_lt_of_le hk hi.hb.size)).trans (hi.hb.block k hk)⟩,
      Nat.le_trans hi.low hs.size, hs.boxed hi.xb (.inl hbb), vo, hx', ho.sm hs fun k hk => .inr ⟨vo, hx, hk⟩⟩, fun k hk => ?_⟩
    obtain ⟨vo', hy, hk⟩ := hk
    obtain rfl := Boxed.uniq hx' hy
    exact ⟨vo, hx, hk⟩
  call := fun s l v' W hi hl hc hp => by
    have hi : AInv w0 N bs v bb bo s W := hi
    have hl : l.length = bs.length := hl
    have hne : bb ≠ bo := by
      obtain ⟨vo, hx, _⟩ := hi.out
      exact Boxed.ne hi.xb hx (by decide)
    have hlow : N ≤ W.heap.size := hi.low
    obtain ⟨vo, hx, ho⟩ := hi.out
    by_cases hh : hitN bs l = 0
    · refine (avoid1_hit W bs l v v' bo bb vo h.lt hl h.pos h.le hc (hv.below hi.hb) hp hi.xb hx hh).mono ?_
      rintro e W' ⟨rfl, g, cap, W1, h1, h2, rfl⟩
      have e1 : (yA w0 N bs v bb bo).step s l = (some l, false) := if_pos hh
      rw [e1]
      have hx1 := boxed_below hx h2
      refine ⟨rfl, ⟨(hi.hb.trans (h2.mono hi.hb.size)).setCell (by exact hbo0) _, ?_, boxed_other (boxed_below hi.xb h2) hne _, _, Boxed.set _ hx1, ?_, own_setBox (h1.mono hi.low) hx1 (by decide) _⟩, (Sm.of_below h2).trans (Sm.setCell _ _ _ _ fun k hk e => ?_), fun k hk => ?_⟩
      · have := h2.size; simp; omega
      · have := h.pos; omega
      · have : N ≤ k := hk
        omega
      · obtain ⟨vo', hy, hk⟩ := hk
        obtain rfl := Boxed.uniq (Boxed.set (.slice (some ⟨g, 0, none⟩) l.length cap) hx1) hy
        exact .inr (h1.lt k hk).1
    · have e1 : (yA w0 N bs v bb bo).step s l = (s, s.isNone) := if_neg hh
      rw [e1]
      cases s with
      | none =>
        have : vo = .slice none 0 0 := ho
        subst this
        refine (avoid1_miss0 W bs l v v' bo bb h.lt hl h.le hc (hv.below hi.hb) hp hi.xb hx hh).mono ?_
        rintro e W' ⟨rfl, rfl⟩
        exact ⟨rfl, hi, Sm.refl _ _, fun k hk => .inl hk⟩
      | some l0 =>
        obtain ⟨g, cap, e2⟩ := ho.2.row (k := l0.length - 1) (by have := ho.1; omega)
        subst e2
        refine (avoid1_miss1 W bs l v v' bo bb g _ cap h.lt hl h.le hc (hv.below hi.hb) hp hi.xb hx hh).mono ?_
        rintro e W' ⟨rfl, rfl⟩
        exact ⟨rfl, hi, Sm.refl _ _, fun k hk => .inl hk⟩

/-- The first permutation that hits nothing. -/
def firstA (bs : List Nat) : Option (List Nat) := (allP bs.length).find? fun l => decide (hitN bs l = 0)
theorem runP_stepA (bs : List Nat) : ∀ ls : List (List Nat), (runP (stepA bs) none ls).1 = ls.find? fun l => decide (hitN bs l = 0)
  | [] => rfl
  | l :: ls => by
    rw [runP, List.find?_cons]
    by_cases h : hitN bs l = 0
    · have e : stepA bs none l = (some l, false) := if_pos h
      rw [e]; simp [h]
    · have e : stepA bs none l = (none, true) := if_neg h
      rw [e]; simp [h]; exact runP_stepA bs ls
theorem firstA_len {bs l : List Nat} (h : firstA bs = some l) : l.length = bs.length := perms_len _ _ l (List.mem_of_find?_eq_some h)

def AvoidIs (bs : List Nat) (w : World) (v' : Value) (w' : World) : Prop := match firstA bs with
  | none => v' = .slice none 0 0
  | some l => OwnI 3 w.heap.size w' v' (toI l)

set_option maxRecDepth 20000 in
set_option maxHeartbeats 800000 in
theorem avoid_any (v : Value) (bs : List Nat) (w : World) (hv : Ints w v (toI bs)) (h : IsBoard bs) (ht : Tab w) :
    Calls Tryd.prog 58 #[v] w fun e w' => ∃ v', e = .returned v' ∧ AvoidIs bs w v' w' ∧ Below w.heap.size w w' := by
  obtain ⟨W0, hW0⟩ : ∃ W0, w.alloc (.cells #[v] 47) = W0 := ⟨_, rfl⟩
  have hs0 : W0.heap.size = w.heap.size + 1 := by rw [← hW0]; simp
  obtain ⟨W1, hW1⟩ : ∃ W1, W0.alloc (.cells #[.slice none 0 0] 22) = W1 := ⟨_, rfl⟩
  have hs1 : W1.heap.size = w.heap.size + 2 := by rw [← hW1]; simp [hs0]
  have xb0 : Boxed W0 w.heap.size 47 v := by rw [← hW0]; exact Boxed.new _ _ _
  have xb : Boxed W1 w.heap.size 47 v := by rw [← hW1]; exact xb0.alloc _
  have xo : Boxed W1 (w.heap.size + 1) 22 (.slice none 0 0) := by rw [← hW1]; have := Boxed.new W0 22 (.slice none 0 0); rwa [hs0] at this
  have hb1 : Below w.heap.size w W1 := by rw [← hW1, ← hW0]; exact ((Below.refl _ _).alloc (Nat.le_refl _) _).alloc (by simp) _
  have I : AInv w W1.heap.size bs v w.heap.size (w.heap.size + 1) none W1 := ⟨hb1, Nat.le_refl _, xb, _, xo, rfl⟩
  have K := Lib.hid (perm_any (yA w W1.heap.size bs v w.heap.size (w.heap.size + 1)) (yA_ok _ _ _ _ _ _ h hv ht (by omega) (by omega) (by omega) (by omega)) h.le none W1 I)
  have c1 := xb.cell
  have HP := Lib.hid h.pos
  obtain ⟨a, c, rfl, hlen, hcl, hc⟩ := hv.openN
  clear hc hv I xb0 h ht
  go_enter Tryd.func58, Tryd.ntmps58
  go_wp2_with (
    go_at_call 49
    refine K.out.mono ?_
    rintro e w4 ⟨rfl, hi4, hs4, -⟩
    have hi5 : AInv w W1.heap.size bs (.slice a bs.length c) w.heap.size (w.heap.size + 1) (runP (stepA bs) none (allP bs.length)).1 w4 := hi4
    rw [runP_stepA] at hi5
    obtain ⟨hb5, -, -, vo, hx5, ho5⟩ := hi5
    have co5 := hx5.cell
    have HO5 := Lib.hid ho5
    have HB5 := Lib.hid hb5
    clear hi4 hs4 hx5 ho5 hb5)
  have HO := HO5.out
  have hfin : AvoidIs bs w vo w4 := by
    unfold AvoidIs
    have e0 : firstA bs = (allP bs.length).find? fun l => decide (hitN bs l = 0) := rfl
    rw [← e0] at HO
    cases hf : firstA bs with
    | none => rw [hf] at HO; exact HO
    | some l => rw [hf] at HO; exact HO.2.mono (by omega)
  go_ret
  exact ⟨_, rfl, hfin, HB5.out⟩
end Go.Proofs.YtlpnicfbgdfbnaaDoor

/- Avoid, ref.Avoid; Barrier, ref.Barrier. -/
namespace Go.Proofs.YtlpnicfbgdfbnaaDoor
open Go.RowKit Go.Shelf
attribute [local go_sem] Oper.semAt_some

set_option maxRecDepth 20000 in
set_option maxHeartbeats 800000 in
theorem Avoid_no (v : Value) (xs : List Int) (w : World) (hv : Ints w v xs) (h : boardB xs = false) :
    Calls Tryd.prog 31 #[v] w fun e w' => e = .returned (.tuple #[.slice none 0 0, .int .i64 2]) ∧ Below w.heap.size w w' := by
  have C := valid_any v xs w hv
  rw [h] at C
  go_enter Tryd.func31, Tryd.ntmps31
  go_wp2_with (go_at_call 46; refine C.mono ?_; rintro e w1 ⟨rfl, hb⟩)
  go_ret2
  exact ⟨rfl, hb⟩

set_option maxRecDepth 20000 in
set_option maxHeartbeats 800000 in
theorem Avoid_none (v : Value) (bs : List Nat) (w : World) (hv : Ints w v (toI bs)) (h : IsBoard bs) (ht : Tab w) (hf : firstA bs = none) :
    Calls Tryd.prog 31 #[v] w fun e w' => e = .returned (.tuple #[.slice none 0 0, .int .i64 4]) ∧ Below w.heap.size w w' := by
  have C := valid_any v _ w hv
  rw [boardB_board h] at C
  have CA := Lib.hid (fun w' (hb : Below w.heap.size w w') => by have := avoid_any v bs w' (hv.below hb) h (ht.below hb); unfold AvoidIs at this; rw [hf] at this; exact this)
  have q22 : ∀ (w : World) (a : Option Addr) (n c n' c' : Nat), (binOp .eql 22 (.slice a n c) (.slice none n' c')).run Tryd.prog w = .ok (.bool a.isNone) w := fun w a n c n' c' => Lib.run_eql_slice_nil w _ _ a n c n' c' Tryd.underlying22
  clear hv h ht hf
  go_enter Tryd.func31, Tryd.ntmps31
  go_wp2_with (first
    | (go_at_call 46; refine C.mono ?_; rintro e w1 ⟨rfl, hb⟩)
    | (go_at_call 58; refine (CA.out w1 hb).mono ?_; rintro e w2 ⟨v2, rfl, rfl, hb2⟩; replace hb2 := hb.trans (hb2.mono hb.size)))
  go_ret2
  exact ⟨rfl, hb2⟩

set_option maxRecDepth 20000 in
set_option maxHeartbeats 800000 in
theorem Avoid_some (v : Value) (bs l : List Nat) (w : World) (hv : Ints w v (toI bs)) (h : IsBoard bs) (ht : Tab w) (hf : firstA bs = some l) :
    Calls Tryd.prog 31 #[v] w fun e w' => ∃ v', e = .returned (.tuple #[v', .int .i64 0]) ∧ OwnI 3 w.heap.size w' v' (toI l) ∧ Below w.heap.size w w' := by
  have C := valid_any v _ w hv
  rw [boardB_board h] at C
  have CA := Lib.hid (fun w' (hb : Below w.heap.size w w') => by have := avoid_any v bs w' (hv.below hb) h (ht.below hb); unfold AvoidIs at this; rw [hf] at this; exact this)
  have q22 : ∀ (w : World) (a : Option Addr) (n c n' c' : Nat), (binOp .eql 22 (.slice a n c) (.slice none n' c')).run Tryd.prog w = .ok (.bool a.isNone) w := fun w a n c n' c' => Lib.run_eql_slice_nil w _ _ a n c n' c' Tryd.underlying22
  have HL := Lib.hid (show l.length = (l.length - 1) + 1 by have := firstA_len hf; have := h.pos; omega)
  clear hv h ht hf
  go_enter Tryd.func31, Tryd.ntmps31
  go_wp2_with (first
    | (go_at_call 46; refine C.mono ?_; rintro e w1 ⟨rfl, hb⟩)
    | (go_at_call 58; refine (CA.out w1 hb).mono ?_; rintro e w2 ⟨v2, rfl, ho2, hb2⟩; replace ho2 := ho2.mono hb.size; replace hb2 := hb.trans (hb2.mono hb.size); obtain ⟨g2, k2, rfl⟩ := ho2.row HL.out))
  go_ret2
  exact ⟨_, rfl, ho2, hb2⟩

theorem find_take {α : Type} (p : α → Bool) (l : List α) (k : Nat) (h : ∀ i, (hi : i < l.length) → i < k → p l[i] = false) (hk : k < l.length) (hp : p l[k] = true) : l.find? p = some l[k] := by
  induction l generalizing k with
  | nil => simp at hk
  | cons x l ih =>
    rw [List.find?_cons]
    cases k with
    | zero => simp at hp; simp [hp]
    | succ k =>
      have h0 := h 0 (by simp) (by omega)
      simp at h0
      rw [h0]
      simp only [List.getElem_cons_succ] at hp ⊢
      exact ih k (fun i hi hik => by have := h (i + 1) (by simpa using hi) (by omega); simpa using this) (by simpa using hk) hp
theorem find_none {α : Type} (p : α → Bool) (l : List α) (h : ∀ i, (hi : i < l.length) → p l[i] = false) : l.find? p = none := by
  rw [List.find?_eq_none]
  intro x hx
  obtain ⟨i, hi, rfl⟩ := List.mem_iff_getElem.1 hx
  rw [h i hi]; simp

def RefAvoid (bs : List Nat) (w : World) (e : Ending) (w' : World) : Prop := Below w.heap.size w w' ∧ match firstA bs with
  | none => e = .returned (.tuple #[.slice none 0 0, .int .i64 4])
  | some l => ∃ v', e = .returned (.tuple #[v', .int .i64 0]) ∧ OwnI 3 w.heap.size w' v' (toI l)

set_option maxRecDepth 20000 in
set_option maxHeartbeats 2000000 in
theorem refAvoid_any (v : Value) (bs : List Nat) (w : World) (hv : Ints w v (toI bs)) (h : IsBoard bs) :
    Calls Tryd.prog 33 #[v] w (RefAvoid bs w) := by
  have h6 := h.le
  have H := Lib.hid h
  have HV := Lib.hid hv
  have HL := Lib.hid (show ∀ l ∈ allP bs.length, l.length = bs.length from perms_len _ _)
  have H6 := Lib.hid (show ∀ l ∈ allP bs.length, ∀ c ∈ l, c < 6 from fun l hl => perms_lt _ _ l (all_pop bs.length (by omega)).2.1 hl)
  have HN := Lib.hid (allP_length bs.length (by omega))
  obtain ⟨a, c, rfl, hlen, hcl2, hc⟩ := hv.openN
  clear hv h hc
  have C := Lib.hid (permutations_any bs.length h6 w)
  go_enter Tryd.func33, Tryd.ntmps33
  go_wp2_with (go_at_call 53; refine C.out.mono ?_; rintro e w2 ⟨v2, rfl, hr2, hb2⟩; obtain ⟨a2, c2, rfl⟩ := hr2.form)
  obtain ⟨P, hP⟩ : ∃ P, allP bs.length = P := ⟨_, rfl⟩
  have hfin := Lib.hid (show firstA bs = P.find? (fun l => decide (hitN bs l = 0)) from by rw [← hP]; rfl)
  rw [hP] at HL H6 HN hr2 ⊢
  have hPl := HN.out
  clear hP C
  go_loopw [10] (fun ix wr => ∃ k : Nat, k ≤ P.length ∧ ix = .int .i64 k ∧ wr = w2 ∧ ∀ i, (hi : i < P.length) → i < k → hitN bs P[i] ≠ 0) (fun i _ => P.length - (intOf i).toNat)
  case atStart => exact ⟨0, Nat.zero_le _, rfl, rfl, fun i _ h => by omega⟩
  case round =>
    obtain ⟨k, hk, rfl, rfl, hbefore⟩ := hrel
    have HBF := Lib.hid hbefore
    clear hbefore
    by_cases hlt : k < P.length
    · obtain ⟨g2, cap2, u, e2, hg2, hcu, hu⟩ := hr2.at k hlt
      obtain ⟨rfl, _, rfl⟩ := Value.slice.inj e2
      have hlk := HL.out _ (List.getElem_mem hlt)
      have h6k := H6.out _ (List.getElem_mem hlt)
      have CH := Lib.hid (refhits_any (.slice a bs.length c) u bs P[k] wr (HV.out.below hb2) (hu.ints (by rw [toI_length]; omega)) H.out.lt h6k (by omega) h6)
      obtain ⟨hit, hhit⟩ : ∃ x, hitN bs P[k] = x := ⟨_, rfl⟩
      have hhle : hit ≤ 6 := by rw [← hhit]; exact Nat.le_trans (hitN_le _ _) (by omega)
      rw [hhit] at CH
      have HH := Lib.hid hhit
      have HU := Lib.hid hu
      have HB2 := Lib.hid hb2
      have HR2 := Lib.hid hr2
      obtain ⟨au, lu, hfu⟩ := hu.form
      rw [toI_length] at hfu
      rw [hfu] at hcu CH HU
      clear hu hfu hhit hlk h6k hb2 hr2
      by_cases hz : hit = 0
      · subst hz
        have HF := Lib.hid (find_take (fun l => decide (hitN bs l = 0)) P k (fun i hi hik => by simpa using HBF.out i hi hik) hlt (by simpa using HH.out))
        go_wp2_with (go_at_call 54; refine CH.out.mono ?_; rintro e w3 ⟨rfl, rfl⟩)
        go_ret2
        refine ⟨HB2.out, ?_⟩
        rw [hfin.out, HF.out]
        exact ⟨_, rfl, HU.out⟩
      · have hzb : ((hit : Int) == 0) = false := by simp; omega
        go_wp2_with (go_at_call 54; refine CH.out.mono ?_; rintro e w3 ⟨rfl, rfl⟩)
        go_roundw
        case rel =>
          refine ⟨k + 1, by omega, by go_num, trivial, fun i hi hik => ?_⟩
          by_cases hie : i = k
          · subst hie; rw [HH.out]; exact hz
          · exact HBF.out i hi (by omega)
        case measure => simp [intOf]; omega
    · obtain rfl : k = P.length := by omega
      have HF := Lib.hid (find_none (fun l => decide (hitN bs l = 0)) P (fun i hi => by simpa using HBF.out i hi hi))
      have HB2 := Lib.hid hb2
      go_wp2
      go_ret2
      refine ⟨HB2.out, ?_⟩
      rw [hfin.out, HF.out]
      rfl

/-! ### barriers -/
/-- The columns that the rows of a set have in common. -/
def comm (bs : List Nat) (S k : Nat) : Nat := (List.range k).foldl (fun c i => if S.testBit i then c &&& bs.getD i 0 else c) (2 ^ bs.length - 1)
theorem comm_zero (bs : List Nat) (S : Nat) : comm bs S 0 = 2 ^ bs.length - 1 := rfl
theorem comm_succ (bs : List Nat) (S k : Nat) : comm bs S (k + 1) = if S.testBit k then comm bs S k &&& bs.getD k 0 else comm bs S k := by
  unfold comm; rw [List.range_succ, List.foldl_append]; rfl
theorem comm_lt (bs : List Nat) (S : Nat) (h6 : bs.length ≤ 6) : ∀ k, comm bs S k < 64
  | 0 => by rw [comm_zero]; have := two_pow_le h6; have := Nat.one_le_two_pow (n := bs.length); omega
  | k + 1 => by
    rw [comm_succ]
    split
    · exact Nat.lt_of_le_of_lt Nat.and_le_left (comm_lt bs S h6 k)
    · exact comm_lt bs S h6 k
def isBar (bs : List Nat) (S : Nat) : Bool := decide (bs.length < pop S + pop (comm bs S bs.length))
def firstB (bs : List Nat) : Option Nat := (List.range (2 ^ bs.length)).find? (isBar bs)
theorem firstB_some {bs : List Nat} {k : Nat} (h : ∀ i, i < k → isBar bs i = false) (hk : k < 2 ^ bs.length) (hp : isBar bs k = true) : firstB bs = some k := by
  have := find_take (isBar bs) (List.range (2 ^ bs.length)) k (fun i _ hik => by simpa using h i hik) (by simpa using hk) (by simpa using hp)
  unfold firstB
  rw [this, List.getElem_range]
theorem firstB_none {bs : List Nat} (h : ∀ i, i < 2 ^ bs.length → isBar bs i = false) : firstB bs = none :=
  find_none _ _ fun i hi => by simpa using h i (by simpa using hi)

def BarIs (bs : List Nat) (w : World) (e : Ending) (w' : World) : Prop := Below w.heap.size w w' ∧ e = .returned (.tuple (match firstB bs with
  | none => #[.int .i64 0, .int .i64 0, .int .i64 4]
  | some S => #[.int .i64 (S : Nat), .int .i64 (comm bs S bs.length : Nat), .int .i64 0]))

theorem pop_next : ∀ x : Nat, x < 256 → 0 < x → pop x = pop (nextS x) + 1 := by decide +kernel
theorem nextS_lt' : ∀ x : Nat, x < 256 → nextS x < 256 := by decide +kernel

set_option maxRecDepth 20000 in
set_option maxHeartbeats 800000 in
theorem size_any (x : Nat) (w : World) (hx : x < 256) : Calls Tryd.prog 60 #[.int .i64 (x : Nat)] w fun e w' => e = .returned (.int .i64 (pop x : Nat)) ∧ w = w' := by
  have hp8 := pop_le x hx
  go_enter Tryd.func60, Tryd.ntmps60
  go_wp2
  go_loopw [0, 3] (fun s k wr => ∃ y j : Nat, s = .int .i64 y ∧ k = .int .i64 j ∧ y < 256 ∧ j + pop y = pop x ∧ wr = w) (fun s _ _ => (intOf s).toNat)
  case atStart => exact ⟨x, 0, rfl, rfl, hx, by omega, rfl⟩
  case round =>
    obtain ⟨y, j, rfl, rfl, hy, hj, rfl⟩ := hrel
    by_cases hpos : 0 < y
    · have hn := nextS_w y hy hpos
      have hnl := nextS_lt y hy hpos
      have hpn := pop_next y hy hpos
      have hn8 := nextS_lt' y hy
      have hyi : (0 : Int) < (y : Int) := by omega
      have hw1 : IntKind.i64.wrap ((y : Int) - 1) = (y : Int) - 1 := IntWalk.i64_in _ (by omega)
      have hw2 : IntKind.i64.wrap ((j : Int) + 1) = (j : Int) + 1 := IntWalk.i64_in _ (by omega)
      obtain ⟨z, hz⟩ : ∃ z, nextS y = z := ⟨_, rfl⟩
      rw [hz] at hn hnl hpn hn8
      have HJ := Lib.hid hj
      have HP := Lib.hid hpn
      clear hj hpn hz
      go_wp2
      go_roundw
      case rel => exact ⟨z, j + 1, rfl, by go_num, hn8, by have := HJ.out; have := HP.out; omega, trivial⟩
      case measure => simp [intOf]; omega
    · obtain rfl : y = 0 := by omega
      have e0 : pop 0 = 0 := by decide
      rw [e0] at hj
      have HJ := Lib.hid hj
      clear hj e0
      go_wp2
      go_ret
      exact ⟨by rw [← HJ.out]; rfl, rfl⟩

set_option maxRecDepth 20000 in
set_option maxHeartbeats 2000000 in
theorem refBarrier_any (v : Value) (bs : List Nat) (w : World) (hv : Ints w v (toI bs)) (h : IsBoard bs) :
    Calls Tryd.prog 34 #[v] w (BarIs bs w) := by
  have h6 := h.le
  have hlt64 := Lib.hid h.lt
  have h2le := two_pow_le h6
  have hpw := pow_in bs.length (by omega)
  have hpw1 := pow_in1 bs.length (by omega)
  have hcast : (2 : Int) ^ bs.length - 1 = ((2 ^ bs.length - 1 : Nat) : Int) := by
    have : 1 ≤ 2 ^ bs.length := Nat.one_le_two_pow
    rw [Int.ofNat_sub this]; simp
  have HC := Lib.hid hcast
  have HCL := Lib.hid (fun S k => comm_lt bs S h6 k)
  have H2 := Lib.hid (show ((2 ^ bs.length : Nat) : Int) = (2 : Int) ^ bs.length by simp)
  obtain ⟨a, c, rfl, hlen, hcl, hc⟩ := hv.openN
  have HCC := Lib.hid hc
  clear hv h hcast hc
  go_enter Tryd.func34, Tryd.ntmps34
  go_wp2
  have HB := Lib.hid (Below.refl w.heap.size w)
  go_loopw [12] (fun ix wr => ∃ S : Nat, S ≤ 2 ^ bs.length ∧ ix = .int .i64 S ∧ wr = w ∧ ∀ i, i < S → isBar bs i = false) (fun i _ => 2 ^ bs.length - (intOf i).toNat)
  case atStart => exact ⟨0, Nat.zero_le _, rfl, rfl, fun i h => by omega⟩
  case round =>
    obtain ⟨S, hS, rfl, rfl, hbefore⟩ := hrel
    have HBF := Lib.hid hbefore
    clear hbefore
    by_cases hlt : S < 2 ^ bs.length
    · have hSi : (S : Int) < (2 : Int) ^ bs.length := by rw [← H2.out]; omega
      have hS64 : S < 64 := by omega
      have HS := Lib.hid hS
      have HLT := Lib.hid hlt
      clear hS hlt
      go_upto_region 6 with (fail)
      go_loopw [6, 21] (fun cc ix wq => ∃ k : Nat, k ≤ bs.length ∧ ix = .int .i64 k ∧ cc = .int .i64 (comm bs S k : Nat) ∧ wq = wr) (fun _ i _ => bs.length - (intOf i).toNat)
      case atStart => exact ⟨0, Nat.zero_le _, rfl, by rw [comm_zero, ← HC.out], rfl⟩
      case round =>
        obtain ⟨k, hk, rfl, rfl, rfl⟩ := hrel
        have hcm := HCL.out S k
        have hcs := comm_succ bs S k
        obtain ⟨C, hC⟩ : ∃ C, comm bs S k = C := ⟨_, rfl⟩
        by_cases hkl : k < bs.length
        · obtain ⟨b, off, rfl, hbl, hcell⟩ := HCC.out (ne_nil_of_lt hkl)
          have hci := (HB.out.cell (p := ⟨b, off + k, none⟩) hbl).trans (hcell k hkl)
          rw [getD_at hkl] at hcs
          have hr64 := hlt64.out _ (List.getElem_mem hkl)
          obtain ⟨r, hr⟩ : ∃ r, bs[k] = r := ⟨_, rfl⟩
          rw [hr] at hci hcs hr64
          rw [hC] at hcs hcm ⊢
          have hand := i64_and C r (by omega) (by omega)
          have hki : (k : Int) < (bs.length : Int) := by omega
          cases hb : S.testBit k with
          | true =>
            have e1 := bit_walk1 (show k < 6 by omega) hS64 hb
            rw [hb, if_pos rfl] at hcs
            have HCS := Lib.hid hcs
            clear hcs hb hC hr hcell
            go_wp2
            go_roundw
            case rel => exact ⟨k + 1, by omega, by go_num, by rw [HCS.out], trivial⟩
            case measure => simp [intOf]; omega
          | false =>
            have e1 := bit_walk0 (show k < 6 by omega) hS64 hb
            rw [hb, if_neg (by simp)] at hcs
            have HCS := Lib.hid hcs
            clear hcs hb hC hr hcell
            go_wp2
            go_roundw
            case rel => exact ⟨k + 1, by omega, by go_num, by rw [HCS.out], trivial⟩
            case measure => simp [intOf]; omega
        · obtain rfl : k = bs.length := by omega
          have hC256 : C < 256 := by rw [← hC]; omega
          have p1 := pop_le S (by omega)
          have p2 := pop_le C hC256
          have hib : isBar bs S = decide (bs.length < pop S + pop C) := by unfold isBar; rw [hC]
          have HCE := Lib.hid hC
          rw [hC]
          have hwa : IntKind.i64.wrap ((pop S : Int) + (pop C : Int)) = (pop S : Int) + (pop C : Int) := IntWalk.i64_in _ (by omega)
          clear hcm hcs hC
          by_cases hbar : bs.length < pop S + pop C
          · have hbi : (bs.length : Int) < (pop S : Int) + (pop C : Int) := by omega
            rw [decide_eq_true hbar] at hib
            have HF := Lib.hid (firstB_some (HBF.out) HLT.out hib)
            clear hib hbar
            go_wp2_with (go_at_call 60; refine (size_any _ _ (by omega)).mono ?_; rintro e w3 ⟨rfl, rfl⟩)
            go_ret3
            refine ⟨HB.out, ?_⟩
            rw [HF.out]
            show _ = Ending.returned (.tuple #[.int .i64 (S : Nat), .int .i64 (comm bs S bs.length : Nat), .int .i64 0])
            rw [HCE.out]
            rfl
          · have hbi : ¬ (bs.length : Int) < (pop S : Int) + (pop C : Int) := by omega
            rw [decide_eq_false hbar] at hib
            have HI := Lib.hid hib
            clear hib
            go_wp2_with (go_at_call 60; refine (size_any _ _ (by omega)).mono ?_; rintro e w3 ⟨rfl, rfl⟩)
            go_roundw
            case rel =>
              refine ⟨S + 1, by have := HLT.out; omega, by go_num, trivial, fun i hi => ?_⟩
              by_cases hie : i = S
              · subst hie; exact HI.out
              · exact HBF.out i (by omega)
            case measure => have := HLT.out; simp [intOf]; omega
    · obtain rfl : S = 2 ^ bs.length := by omega
      have HF := Lib.hid (firstB_none HBF.out)
      have hSi : ¬ ((2 ^ bs.length : Nat) : Int) < (2 : Int) ^ bs.length := by rw [H2.out]; omega
      go_wp2
      go_ret3
      refine ⟨HB.out, ?_⟩
      rw [HF.out]
      rfl
end Go.Proofs.YtlpnicfbgdfbnaaDoor

/- ref.Heights. -/
namespace Go.Proofs.YtlpnicfbgdfbnaaDoor
open Go.RowKit Go.Shelf
attribute [local go_sem] Oper.semAt_some

def okP (r s : Nat) : Prop := r &&& s = r ∨ r &&& s = s
/-- Of any two rows one is within the other one. -/
def Chain (bs : List Nat) : Prop := ∀ r ∈ bs, ∀ s ∈ bs, okP r s
instance (bs : List Nat) : Decidable (Chain bs) := by unfold Chain okP; infer_instance
def resHt (bs : List Nat) : List Nat × Nat := if Chain bs then (riseN (bs.map pop), 0) else ([], 4)
def HtIs (bs : List Nat) (w : World) (e : Ending) (w' : World) : Prop := ∃ v', e = .returned (.tuple #[v', .int .i64 ((resHt bs).2 : Nat)]) ∧ OwnI 3 w.heap.size w' v' (toI (resHt bs).1) ∧ Below w.heap.size w w'

set_option maxRecDepth 20000 in
set_option maxHeartbeats 4000000 in
theorem refHeights_any (v : Value) (bs : List Nat) (w : World) (hv : Ints w v (toI bs)) (h : IsBoard bs) :
    Calls Tryd.prog 39 #[v] w (HtIs bs w) := by
  have h6 := h.le
  have H64 := Lib.hid h.lt
  obtain ⟨a, c, rfl, hlen, hcl, hc⟩ := hv.openN
  have HCC := Lib.hid hc
  clear hv hc h
  go_enter Tryd.func39, Tryd.ntmps39
  go_wp2
  go_loopw [4, 11] (fun o ix wr => ∃ k : Nat, k ≤ bs.length ∧ ix = .int .i64 k ∧ OwnI 3 w.heap.size wr o (toI ((bs.take k).map pop)) ∧ Below w.heap.size w wr ∧ ∀ i, (hi : i < bs.length) → i < k → ∀ s ∈ bs, okP bs[i] s) (fun _ i _ => bs.length - (intOf i).toNat)
  case atStart => exact ⟨0, Nat.zero_le _, rfl, OwnI.nil _ _ _, Below.refl _ _, fun i _ h => by omega⟩
  case round =>
    obtain ⟨k, hk, rfl, ho, hb, hbefore⟩ := hrel
    have HBF := Lib.hid hbefore
    clear hbefore
    by_cases hlt : k < bs.length
    · obtain ⟨b, off, rfl, hbl, hcell⟩ := HCC.out (ne_nil_of_lt hlt)
      have hcx := (hb.cell (p := ⟨b, off + k, none⟩) hbl).trans (hcell k hlt)
      have hr64 := H64.out _ (List.getElem_mem hlt)
      have HM := Lib.hid (map_take_succ pop bs k hlt)
      have hki : (k : Int) < (bs.length : Int) := by omega
      obtain ⟨r, hr⟩ : ∃ r, bs[k] = r := ⟨_, rfl⟩
      rw [hr] at hcx hr64 HM
      have HR := Lib.hid hr
      have HCELL := Lib.hid hcell
      have hlk : ((bs.take k).map pop).length ≤ 6 := by rw [List.length_map, List.length_take]; omega
      have HO := Lib.hid ho
      have HB := Lib.hid hb
      clear hcell hr ho hb
      go_upto_region 6 with (fail)
      go_loopw [17] (fun ix wq => ∃ j : Nat, j ≤ bs.length ∧ ix = .int .i64 j ∧ wq = wr ∧ ∀ i, (hi : i < bs.length) → i < j → okP r bs[i]) (fun ix _ => bs.length - (intOf ix).toNat)
      case atStart => exact ⟨0, Nat.zero_le _, rfl, rfl, fun i _ h => by omega⟩
      case round =>
        obtain ⟨j, hj, rfl, hw, hin⟩ := hrel
        have hw' := hw.symm
        subst hw'
        clear hw
        have HIN := Lib.hid hin
        clear hin
        by_cases hjl : j < bs.length
        · have hcy := (HB.out.cell (p := ⟨b, off + j, none⟩) hbl).trans (HCELL.out j hjl)
          have hs64 := H64.out _ (List.getElem_mem hjl)
          obtain ⟨s, hs⟩ : ∃ s, bs[j] = s := ⟨_, rfl⟩
          rw [hs] at hcy hs64
          have HS := Lib.hid hs
          have hand := i64_and r s (by omega) (by omega)
          obtain ⟨m, hm⟩ : ∃ m, r &&& s = m := ⟨_, rfl⟩
          rw [hm] at hand
          have HMM := Lib.hid hm
          have hji : (j : Int) < (bs.length : Int) := by omega
          clear hs hm
          by_cases h1 : m = r
          · have hb1 : ((m : Int) != (r : Int)) = false := by simp; omega
            have HK := Lib.hid (show okP r s from .inl (by rw [HMM.out]; exact h1))
            clear h1
            go_wp2
            go_roundw
            case rel =>
              refine ⟨j + 1, by omega, by go_num, trivial, fun i hi hij => ?_⟩
              by_cases e : i = j
              · subst e; rw [HS.out]; exact HK.out
              · exact HIN.out i hi (by omega)
            case measure => simp [intOf]; omega
          · have hb1 : ((m : Int) != (r : Int)) = true := by simp; omega
            by_cases h2 : m = s
            · have hb2 : ((m : Int) != (s : Int)) = false := by simp; omega
              have HK := Lib.hid (show okP r s from .inr (by rw [HMM.out]; exact h2))
              clear h1 h2
              go_wp2
              go_roundw
              case rel =>
                refine ⟨j + 1, by omega, by go_num, trivial, fun i hi hij => ?_⟩
                by_cases e : i = j
                · subst e; rw [HS.out]; exact HK.out
                · exact HIN.out i hi (by omega)
              case measure => simp [intOf]; omega
            · have hb2 : ((m : Int) != (s : Int)) = true := by simp; omega
              have HF := Lib.hid (show resHt bs = ([], 4) from by
                unfold resHt
                rw [if_neg]
                intro hc
                have := hc _ (List.getElem_mem hlt) _ (List.getElem_mem hjl)
                rw [HR.out, HS.out] at this
                unfold okP at this
                rw [HMM.out] at this
                rcases this with h | h
                · exact h1 h
                · exact h2 h)
              clear h1 h2
              go_wp2
              go_ret2
              exact ⟨_, by rw [HF.out]; rfl, by rw [HF.out]; exact OwnI.nil _ _ _, HB.out⟩
        · obtain rfl : j = bs.length := by omega
          have HALL := Lib.hid (show ∀ s ∈ bs, okP r s from fun s hs => by
            obtain ⟨i, hi, rfl⟩ := List.mem_iff_getElem.1 hs
            exact HIN.out i hi hi)
          have ho := HO.out
          have hle := HB.out.size
          go_wp2_with (first
            | (go_at_call 60; refine (size_any _ _ (by omega)).mono ?_; rintro e w2 ⟨rfl, rfl⟩)
            | (at_builtin; refine wpList_app1 rfl _ _ 22 rfl 3 Tryd.underlying22 info3 w.heap.size _ (toI ((bs.take k).map pop)) _ rfl (ho.alloc _) ⟨_, 0, none⟩ 1 rfl (cell_new1 _ _ _) (by rw [toI_length]; omega) (by simp; omega) ?_; intro v' w1 ho1 hg1 hb1; clear hg1))
          refine ⟨⟨k + 1, by omega, by push_cast; rfl, by rw [HM.out]; exact own_snoc ho1 rfl, (HB.out.alloc hle _).trans hb1, fun i hi hik => ?_⟩, by simp [intOf]; omega⟩
          by_cases e : i = k
          · subst e; rw [HR.out]; exact HALL.out
          · exact HBF.out i hi (by omega)
    · obtain rfl : k = bs.length := by omega
      rw [List.take_length] at ho
      have HF := Lib.hid (show resHt bs = (riseN (bs.map pop), 0) from by
        unfold resHt
        rw [if_pos]
        intro r hr
        obtain ⟨i, hi, rfl⟩ := List.mem_iff_getElem.1 hr
        exact HBF.out i hi hi)
      have C := Lib.hid (fun vv (hvv : Ints wr vv (toI (bs.map pop))) => rising_any vv (bs.map pop) wr hvv (by rw [List.length_map]; omega))
      have hoi := Lib.hid (ho.ints (by rw [toI_length, List.length_map]; omega))
      have HB := Lib.hid hb
      clear ho hb
      go_wp2_with (go_at_call 65; refine (C.out _ hoi.out).mono ?_; rintro e w2 ⟨v2, rfl, ho2, hb2⟩; have HO2 := Lib.hid ho2; have HB2 := Lib.hid hb2; clear ho2 hb2)
      go_ret2
      have hle := HB.out.size
      exact ⟨_, by rw [HF.out]; rfl, by rw [HF.out]; exact HO2.out.mono hle, HB.out.trans (HB2.out.mono hle)⟩
end Go.Proofs.YtlpnicfbgdfbnaaDoor

/- Heights: the plain law of sorted rows. -/
namespace Go.Proofs.YtlpnicfbgdfbnaaDoor

theorem pop_sub : ∀ r : Nat, r < 64 → ∀ s : Nat, s < 64 → r &&& s = s → pop r ≤ pop s → diffS r s = 0 := by decide +kernel
theorem sub_diff : ∀ r : Nat, r < 64 → ∀ s : Nat, s < 64 → diffS r s = 0 → r &&& s = r := by decide +kernel
theorem diff_sub : ∀ r : Nat, r < 64 → ∀ s : Nat, s < 64 → r &&& s = r → diffS r s = 0 := by decide +kernel
theorem and_chain {r s t : Nat} (h1 : r &&& s = r) (h2 : s &&& t = s) : r &&& t = r := by
  rw [← h1, Nat.and_assoc, h2]

theorem insN_perm (x : Nat) : ∀ l : List Nat, (insN x l).Perm (x :: l)
  | [] => List.Perm.refl _
  | y :: ys => by
    rw [insN]
    split
    · exact ((insN_perm x ys).cons y).trans (List.Perm.swap x y ys)
    · exact List.Perm.refl _
theorem riseN_perm (l : List Nat) : (riseN l).Perm l := by
  have : ∀ (l o : List Nat), (l.foldl (fun o x => insN x o) o).Perm (o ++ l) := by
    intro l
    induction l with
    | nil => intro o; simp
    | cons x l ih =>
      intro o
      rw [List.foldl_cons]
      refine (ih _).trans ?_
      refine ((insN_perm x o).append_right l).trans ?_
      exact List.perm_middle.symm
  have := this l []
  rw [List.nil_append] at this
  exact this
theorem insN_sorted (x : Nat) : ∀ l : List Nat, l.Pairwise (· ≤ ·) → (insN x l).Pairwise (· ≤ ·)
  | [], _ => by simp [insN]
  | y :: ys, h => by
    rw [insN]
    obtain ⟨h1, h2⟩ := List.pairwise_cons.1 h
    split
    · rename_i hyx
      refine List.pairwise_cons.2 ⟨fun z hz => ?_, insN_sorted x ys h2⟩
      rcases List.mem_cons.1 ((insN_perm x ys).mem_iff.1 hz) with rfl | hz
      · exact hyx
      · exact h1 z hz
    · refine List.pairwise_cons.2 ⟨fun z hz => ?_, h⟩
      rcases List.mem_cons.1 hz with rfl | hz
      · omega
      · have := h1 z hz; omega
theorem riseN_sorted (l : List Nat) : (riseN l).Pairwise (· ≤ ·) := by
  have : ∀ (l o : List Nat), o.Pairwise (· ≤ ·) → (l.foldl (fun o x => insN x o) o).Pairwise (· ≤ ·) := by
    intro l
    induction l with
    | nil => intro o h; exact h
    | cons x l ih => intro o h; exact ih _ (insN_sorted x o h)
  exact this l [] List.Pairwise.nil
theorem sorted_unique {a b : List Nat} (h : a.Perm b) (ha : a.Pairwise (· ≤ ·)) (hb : b.Pairwise (· ≤ ·)) : a = b :=
  List.Perm.eq_of_pairwise (fun _ _ _ _ h1 h2 => Nat.le_antisymm h1 h2) ha hb h
theorem pairwise_of_steps {l : List Nat} (h : ∀ k, k + 1 < l.length → l.getD k 0 ≤ l.getD (k + 1) 0) : l.Pairwise (· ≤ ·) := by
  have key : ∀ d i, i + d < l.length → l.getD i 0 ≤ l.getD (i + d) 0 := by
    intro d
    induction d with
    | zero => intro i _; simp
    | succ d ih =>
      intro i hi
      have h1 := ih i (by omega)
      have h2 := h (i + d) (by omega)
      rw [show i + (d + 1) = i + d + 1 by omega]
      omega
  rw [List.pairwise_iff_getElem]
  intro i j hi hj hij
  have := key (j - i) i (by omega)
  rw [show i + (j - i) = j by omega, getD_at hi, getD_at hj] at this
  exact this

theorem heights_yes {bs L : List Nat} (hp : L.Perm bs) (h64 : ∀ x ∈ bs, x < 64) (hs : ∀ k, k + 1 < bs.length → popK L k ≤ popK L (k + 1))
    (h : ∀ k, k + 1 < L.length → diffS (L.getD k 0) (L.getD (k + 1) 0) = 0) : resHt bs = (L.map pop, 0) := by
  have hl : ∀ i, i < L.length → L.getD i 0 < 64 := fun i hi => by
    rw [getD_at hi]; exact h64 _ (hp.mem_iff.1 (List.getElem_mem hi))
  have key : ∀ d i, i + d < L.length → L.getD i 0 &&& L.getD (i + d) 0 = L.getD i 0 := by
    intro d
    induction d with
    | zero => intro i _; simp
    | succ d ih =>
      intro i hi
      have h1 := ih i (by omega)
      have h2 := sub_diff _ (hl (i + d) (by omega)) _ (hl (i + d + 1) (by omega)) (h (i + d) (by omega))
      rw [show i + (d + 1) = i + d + 1 by omega]
      exact and_chain h1 h2
  have hc : Chain bs := by
    intro r hr s hs
    obtain ⟨i, hi, rfl⟩ := List.mem_iff_getElem.1 (hp.mem_iff.2 hr)
    obtain ⟨j, hj, rfl⟩ := List.mem_iff_getElem.1 (hp.mem_iff.2 hs)
    by_cases hij : i ≤ j
    · have := key (j - i) i (by omega)
      rw [show i + (j - i) = j by omega, getD_at hi, getD_at hj] at this
      exact .inl this
    · have := key (i - j) j (by omega)
      rw [show j + (i - j) = i by omega, getD_at hi, getD_at hj, Nat.and_comm] at this
      exact .inr this
  unfold resHt
  rw [if_pos hc]
  congr 1
  refine sorted_unique ((riseN_perm _).trans (hp.symm.map pop)) (riseN_sorted _) (pairwise_of_steps fun k hk => ?_)
  rw [List.length_map] at hk
  have := hs k (by rw [← hp.length_eq]; exact hk)
  unfold popK at this
  rw [getD_at (by omega), getD_at (by omega)] at this
  rw [getD_at (by rw [List.length_map]; omega), getD_at (by rw [List.length_map]; omega), List.getElem_map, List.getElem_map]
  omega

theorem heights_no {bs L : List Nat} (hp : L.Perm bs) (h64 : ∀ x ∈ bs, x < 64) (hs : ∀ k, k + 1 < bs.length → popK L k ≤ popK L (k + 1))
    (k : Nat) (hk : k + 1 < L.length) (h : diffS (L.getD k 0) (L.getD (k + 1) 0) ≠ 0) : resHt bs = ([], 4) := by
  unfold resHt
  rw [if_neg]
  intro hc
  have e1 := getD_at (show k < L.length by omega)
  have e2 := getD_at hk
  have m1 := hp.mem_iff.1 (List.getElem_mem (show k < L.length by omega))
  have m2 := hp.mem_iff.1 (List.getElem_mem hk)
  have hs' := hs k (by rw [← hp.length_eq]; exact hk)
  unfold popK at hs'
  rw [e1, e2] at h hs'
  rcases hc _ m1 _ m2 with h' | h'
  · exact h (diff_sub _ (h64 _ m1) _ (h64 _ m2) h')
  · exact h (pop_sub _ (h64 _ m1) _ (h64 _ m2) h' (by omega))
end Go.Proofs.YtlpnicfbgdfbnaaDoor

/- rooks.Heights: the walk. -/
namespace Go.Proofs.YtlpnicfbgdfbnaaDoor
open Go.RowKit Go.Shelf
attribute [local go_sem] Oper.semAt_some

theorem OwnI.row1 {e : TypeId} {B : Nat} {w : World} {v : Value} {L : List Nat} (h : OwnI e B w v (toI L)) (hl : 1 ≤ L.length) : ∃ g cap, v = .slice (some ⟨g, 0, none⟩) L.length cap := by
  obtain ⟨g, cap, h'⟩ := h.row (show L.length = (L.length - 1) + 1 by omega)
  exact ⟨g, cap, by rw [h']; congr 1; omega⟩
theorem Sm.toBelow {n g : Nat} {a b c : World} (h : Below n a b) (hs : Sm (fun k => k ≠ g) b c) (hg : n ≤ g) (hn : n ≤ b.heap.size) : Below n a c :=
  h.trans ⟨hs.os, hs.tape, hs.output, hs.size, fun k hk => hs.block k (by show k ≠ g; omega) (by omega)⟩

set_option maxRecDepth 20000 in
set_option maxHeartbeats 400000 in
theorem Heights_no (v : Value) (xs : List Int) (w : World) (hv : Ints w v xs) (h : boardB xs = false) :
    Calls Tryd.prog 36 #[v] w fun e w' => e = .returned (.tuple #[.slice none 0 0, .int .i64 2]) ∧ Below w.heap.size w w' := by
  have C := valid_any v xs w hv
  rw [h] at C
  go_enter Tryd.func36, Tryd.ntmps36
  go_wp2_with (go_at_call 46; refine C.mono ?_; rintro e w1 ⟨rfl, hb⟩)
  go_ret2
  exact ⟨rfl, hb⟩

set_option maxRecDepth 20000 in
set_option maxHeartbeats 4000000 in
theorem Heights_yes (v : Value) (bs : List Nat) (w : World) (hv : Ints w v (toI bs)) (h : IsBoard bs) :
    Calls Tryd.prog 36 #[v] w (HtIs bs w) := by
  have C := valid_any v _ w hv
  rw [boardB_board h] at C
  have CC := Lib.hid (fun w' (hb : Below w.heap.size w w') => Clone_any v _ w' (hv.below hb))
  have H64 := Lib.hid h.lt
  have h6 := h.le
  have h1 := h.pos
  have hi6 : (bs.length : Int) ≤ 6 := by omega
  clear hv h
  go_enter Tryd.func36, Tryd.ntmps36
  go_wp2_with (first
    | (go_at_call 46; refine C.mono ?_; rintro e w1 ⟨rfl, hb⟩)
    | (go_at_call 40; refine (CC.out w1 hb).mono ?_; rintro e w2 ⟨v2, rfl, ho2, hb2'⟩; obtain ⟨g, cap, rfl⟩ := ho2.row1 h1; have hg := ho2.blockEq; have hb2 := hb.trans (hb2'.mono hb.size); have HB2 := Lib.hid hb2; have HO2 := Lib.hid ho2; have hsz := hb.size; clear hb2 ho2 hb2')
    | (go_at_call 63; refine (sortFunc_any bs _ g cap w2 HO2.out H64.out h1 (by omega)).mono ?_; rintro e w3 ⟨rfl, L, hp, hs, ho3, hsm⟩; have hb3 := Sm.toBelow HB2.out hsm (by omega) (by omega); have HB3 := Lib.hid hb3; have HO3 := Lib.hid ho3; have HP := Lib.hid hp; have HS := Lib.hid hs; clear hp hs ho3 hsm hb3))
  have hlen := HP.out.length_eq
  have hg3 := HO3.out.blockEq.2
  have hsz3 := HB3.out.size
  go_loopw [5, 17] (fun o ix wr => ∃ k : Nat, k ≤ bs.length ∧ ix = .int .i64 k ∧ OwnI 3 w3.heap.size wr o (toI ((L.take k).map pop)) ∧ Below w3.heap.size w3 wr ∧ ∀ i, i + 1 < k → diffS (L.getD i 0) (L.getD (i + 1) 0) = 0) (fun _ i _ => bs.length - (intOf i).toNat)
  case atStart => exact ⟨0, Nat.zero_le _, rfl, OwnI.nil _ _ _, Below.refl _ _, fun i h => by omega⟩
  case round =>
    obtain ⟨k, hk, rfl, ho, hb, hbefore⟩ := hrel
    have HBF := Lib.hid hbefore
    have HO := Lib.hid ho
    have HB := Lib.hid hb
    have HLEN := Lib.hid hlen
    clear hbefore ho hb hlen
    by_cases hlt : k < bs.length
    · have hki : (k : Int) < (bs.length : Int) := by omega
      have hkL : k < L.length := by rw [HLEN.out]; exact hlt
      have hcx := (HB.out.cell (p := ⟨g, k, none⟩) hg3).trans (HO3.out.cellN k hkL)
      have hr64 := H64.out _ (HP.out.mem_iff.1 (List.getElem_mem hkL))
      have HM := Lib.hid (map_take_succ pop L k hkL)
      have HG := Lib.hid (getD_at hkL)
      obtain ⟨r, hr⟩ : ∃ r, L[k] = r := ⟨_, rfl⟩
      rw [hr] at hcx hr64 HM HG
      clear hr
      have hlk : ((L.take k).map pop).length ≤ 6 := by rw [List.length_map, List.length_take]; omega
      have hle := HB.out.size
      have ho := HO.out
      by_cases hk0 : k = 0
      · subst hk0
        have hd0 : decide ((0 : Int) < ((0 : Nat) : Int)) = false := by simp
        go_wp2_with (first
          | (go_at_call 59; refine (count_any r _ (by omega)).mono ?_; rintro e w5 ⟨rfl, rfl⟩)
          | (at_builtin; refine wpList_app1 rfl _ _ 22 rfl 3 Tryd.underlying22 info3 w3.heap.size _ (toI ((L.take 0).map pop)) _ rfl (ho.alloc _) ⟨_, 0, none⟩ 1 rfl (cell_new1 _ _ _) (by rw [toI_length]; omega) (by simp; omega) ?_; intro v' w6 ho1 hg1 hb1; clear hg1))
        refine ⟨⟨1, by omega, by push_cast; rfl, by rw [HM.out]; exact own_snoc ho1 rfl, (HB.out.alloc hle _).trans hb1, fun i hi => by omega⟩, by simp [intOf]; omega⟩
      · have hd0 : decide ((0 : Int) < (k : Int)) = true := by simp; omega
        have hk0i : (0 : Int) < (k : Int) := by omega
        have hwk : IntKind.i64.wrap ((k : Int) - 1) = ((k - 1 : Nat) : Int) := by rw [IntWalk.i64_in _ (by omega)]; omega
        have hjl2 : ((k - 1 : Nat) : Int) < (bs.length : Int) := by omega
        have hcy := (HB.out.cell (p := ⟨g, k - 1, none⟩) hg3).trans (HO3.out.cellN (k - 1) (by omega))
        have hs64 := H64.out _ (HP.out.mem_iff.1 (List.getElem_mem (show k - 1 < L.length by omega)))
        have HG2 := Lib.hid (getD_at (show k - 1 < L.length by omega))
        obtain ⟨s, hs⟩ : ∃ s, L[k - 1]'(by omega) = s := ⟨_, rfl⟩
        rw [hs] at hcy hs64 HG2
        clear hs
        have hand := i64_andNot s r (by omega) (by omega)
        obtain ⟨m, hm⟩ : ∃ m, diffS s r = m := ⟨_, rfl⟩
        have hand' : bits .andNot .i64 (s : Int) (r : Int) = (m : Int) := by rw [hand]; unfold diffS at hm; rw [hm]
        have HMM := Lib.hid hm
        clear hm hand
        by_cases hm0 : m = 0
        · subst hm0
          go_wp2_with (first
            | (go_at_call 59; refine (count_any r _ (by omega)).mono ?_; rintro e w5 ⟨rfl, rfl⟩)
            | (at_builtin; refine wpList_app1 rfl _ _ 22 rfl 3 Tryd.underlying22 info3 w3.heap.size _ (toI ((L.take k).map pop)) _ rfl (ho.alloc _) ⟨_, 0, none⟩ 1 rfl (cell_new1 _ _ _) (by rw [toI_length]; omega) (by simp; omega) ?_; intro v' w6 ho1 hg1 hb1; clear hg1))
          refine ⟨⟨k + 1, by omega, by push_cast; rfl, by rw [HM.out]; exact own_snoc ho1 rfl, (HB.out.alloc hle _).trans hb1, fun i hi => ?_⟩, by simp [intOf]; omega⟩
          by_cases e : i + 1 = k
          · obtain rfl : i = k - 1 := by omega
            rw [e, HG.out, HG2.out]; exact HMM.out
          · exact HBF.out i (by omega)
        · have hb1 : ((m : Int) != 0) = true := by simp; omega
          have hm0i : ¬ (m : Int) = 0 := by omega
          have HF := Lib.hid (heights_no HP.out H64.out HS.out (k - 1) (by rw [HLEN.out]; omega) (by rw [show k - 1 + 1 = k by omega, HG.out, HG2.out, HMM.out]; exact hm0))
          go_wp2
          go_ret2
          exact ⟨_, by rw [HF.out]; rfl, by rw [HF.out]; exact OwnI.nil _ _ _, HB3.out.trans (HB.out.mono hsz3)⟩
    · obtain rfl : k = bs.length := by omega
      have HF := Lib.hid (heights_yes HP.out H64.out HS.out (fun i hi => HBF.out i (by rw [← HLEN.out]; exact hi)))
      have hall : L.take bs.length = L := by rw [← HLEN.out, List.take_length]
      have HA := Lib.hid hall
      clear hall
      go_wp2
      go_ret2
      exact ⟨_, by rw [HF.out]; rfl, by rw [HF.out]; have := HO.out; rw [HA.out] at this; exact this.mono hsz3, HB3.out.trans (HB.out.mono hsz3)⟩
end Go.Proofs.YtlpnicfbgdfbnaaDoor

/- Heights: IsSorted, valid. -/
namespace Go.Proofs.YtlpnicfbgdfbnaaDoor
open Go.RowKit Go.Shelf
attribute [local go_sem] Oper.semAt_some

/-! ### the plain condition -/
def ascB (xs : List Int) : Bool := (List.range (xs.length - 1)).all fun i => decide (xs.getD i 0 ≤ xs.getD (i + 1) 0)
theorem ascB_iff (xs : List Int) : ascB xs = true ↔ ∀ i, i + 1 < xs.length → xs.getD i 0 ≤ xs.getD (i + 1) 0 := by
  unfold ascB
  rw [List.all_eq_true]
  constructor
  · intro h i hi
    have := h i (List.mem_range.2 (by omega))
    simpa using this
  · intro h i hi
    have := h i (by have := List.mem_range.1 hi; omega)
    simpa using this
theorem asc_le {xs : List Int} (h : ∀ i, i + 1 < xs.length → xs.getD i 0 ≤ xs.getD (i + 1) 0) (i : Nat) : ∀ d, i + d < xs.length → xs.getD i 0 ≤ xs.getD (i + d) 0
  | 0, _ => by simp
  | d + 1, hd => by
    have h1 := asc_le h i d (by omega)
    have h2 := h (i + d) (by omega)
    rw [show i + (d + 1) = i + d + 1 by omega]
    omega
/-- Heights of a stair. -/
structure Stp (hs : List Nat) : Prop where
  pos : 1 ≤ hs.length
  le : hs.length ≤ 6
  top : ∀ x ∈ hs, x ≤ hs.length
  asc : ∀ i, i + 1 < hs.length → hs.getD i 0 ≤ hs.getD (i + 1) 0
def stairB (xs : List Int) : Bool := decide (1 ≤ xs.length) && decide (xs.length ≤ 6) && ascB xs && decide (0 ≤ xs.getD 0 0) && decide (xs.getD (xs.length - 1) 0 ≤ (xs.length : Int))
theorem toI_getD (l : List Nat) (i : Nat) : (toI l).getD i 0 = ((l.getD i 0 : Nat) : Int) := by
  by_cases h : i < l.length
  · rw [getD_at h]
    simp [List.getD, List.getElem?_eq_getElem h, toI]
  · rw [getD_out (by omega)]
    simp [List.getD, List.getElem?_eq_none (show (toI l).length ≤ i by rw [toI_length]; omega)]
theorem getDI {xs : List Int} {i : Nat} (h : i < xs.length) : xs.getD i 0 = xs[i] := by simp [List.getD, List.getElem?_eq_getElem h]
theorem stair_of {xs : List Int} (h : stairB xs = true) : ∃ hs, xs = toI hs ∧ Stp hs := by
  unfold stairB at h
  simp only [Bool.and_eq_true, decide_eq_true_eq, ascB_iff] at h
  obtain ⟨⟨⟨⟨h1, h6⟩, ha⟩, h0⟩, ht⟩ := h
  have hlow : ∀ i, i < xs.length → 0 ≤ xs.getD i 0 := fun i hi => by
    have := asc_le ha 0 i (by omega)
    simp only [Nat.zero_add] at this
    omega
  have hup : ∀ i, i < xs.length → xs.getD i 0 ≤ xs.length := fun i hi => by
    have := asc_le ha i (xs.length - 1 - i) (by omega)
    rw [show i + (xs.length - 1 - i) = xs.length - 1 by omega] at this
    omega
  have e : xs = toI (xs.map Int.toNat) := by
    refine List.ext_getElem (by simp [toI]) fun i g1 g2 => ?_
    rw [toI_getElem]
    have := hlow i g1
    rw [getDI g1] at this
    simp
    omega
  have hl : (xs.map Int.toNat).length = xs.length := by simp
  have hg : ∀ i, ((xs.map Int.toNat).getD i 0 : Nat) = (xs.getD i 0).toNat := fun i => by
    have := toI_getD (xs.map Int.toNat) i
    rw [← e] at this
    rw [this]; simp
  refine ⟨xs.map Int.toNat, e, by rw [hl]; exact h1, by rw [hl]; exact h6, fun x hx => ?_, fun i hi => ?_⟩
  · obtain ⟨y, hy, rfl⟩ := List.mem_map.1 hx
    obtain ⟨i, hi, rfl⟩ := List.mem_iff_getElem.1 hy
    have := hup i hi
    rw [getDI hi] at this
    rw [hl]; omega
  · rw [hl] at hi
    have := ha i hi
    rw [hg, hg]
    omega
theorem stairB_of {hs : List Nat} (h : Stp hs) : stairB (toI hs) = true := by
  unfold stairB
  simp only [Bool.and_eq_true, decide_eq_true_eq, ascB_iff, toI_length]
  refine ⟨⟨⟨⟨h.pos, h.le⟩, fun i hi => ?_⟩, ?_⟩, ?_⟩
  · rw [toI_getD, toI_getD]; have := h.asc i hi; omega
  · rw [toI_getD]; omega
  · rw [toI_getD]
    have := h.pos
    rw [getD_at (by omega)]
    have := h.top _ (List.getElem_mem (show hs.length - 1 < hs.length by omega))
    omega

/-! ### walks -/
set_option maxHeartbeats 400000 in
theorem isNaN_any (a : Int) (w : World) : Calls Tryd.prog 101 #[.int .i64 a] w fun e w' => e = .returned (.bool false) ∧ w = w' := by
  go_enter Tryd.func101, Tryd.ntmps101
  go_wp2
  go_ret
  exact ⟨by simp, rfl⟩
set_option maxHeartbeats 400000 in
theorem cmpLess_any (a b : Int) (w : World) : Calls Tryd.prog 88 #[.int .i64 a, .int .i64 b] w fun e w' => e = .returned (.bool (decide (a < b))) ∧ w' = w := by
  go_enter Tryd.func88, Tryd.ntmps88
  go_wp2_with (go_at_call 101; refine (isNaN_any _ _).mono ?_; rintro e w1 ⟨rfl, rfl⟩)
  go_ret
  exact ⟨by simp, rfl⟩

set_option maxRecDepth 20000 in
set_option maxHeartbeats 1000000 in
theorem IsSorted_any (v : Value) (xs : List Int) (w : World) (hv : Ints w v xs) (h1 : 1 ≤ xs.length) (h6 : xs.length ≤ 6) :
    Calls Tryd.prog 76 #[v] w fun e w' => e = .returned (.bool (ascB xs)) ∧ Below w.heap.size w w' := by
  obtain ⟨a, c, rfl, hlen, hcl, hc⟩ := hv
  have HCC := Lib.hid hc
  have hw0 : IntKind.i64.wrap ((xs.length : Int) - 1) = ((xs.length - 1 : Nat) : Int) := by rw [IntWalk.i64_in _ (by omega)]; omega
  clear hc
  go_enter Tryd.func76, Tryd.ntmps76
  go_wp2
  go_loopw [3] (fun ix wr => ∃ k : Nat, k < xs.length ∧ ix = .int .i64 k ∧ Below w.heap.size w wr ∧ ∀ i, k ≤ i → i + 1 < xs.length → xs.getD i 0 ≤ xs.getD (i + 1) 0) (fun ix _ => (intOf ix).toNat)
  case atStart => exact ⟨xs.length - 1, by omega, rfl, Below.refl _ _, fun i h1 h2 => by omega⟩
  case round =>
    obtain ⟨k, hk, rfl, hb, hbefore⟩ := hrel
    have HBF := Lib.hid hbefore
    clear hbefore
    by_cases hpos : 0 < k
    · obtain ⟨b, off, rfl, hbl, hcell⟩ := HCC.out (by intro e; rw [e] at hk; simp at hk)
      have c1 := (hb.cell (p := ⟨b, off + k, none⟩) hbl).trans (hcell k hk)
      have c2 := (hb.cell (p := ⟨b, off + (k - 1), none⟩) hbl).trans (hcell (k - 1) (by omega))
      have hki : (0 : Int) < (k : Int) := by omega
      have hkl : (k : Int) < (xs.length : Int) := by omega
      have hwk : IntKind.i64.wrap ((k : Int) - 1) = ((k - 1 : Nat) : Int) := by rw [IntWalk.i64_in _ (by omega)]; omega
      have hkl2 : ((k - 1 : Nat) : Int) < (xs.length : Int) := by omega
      have HG1 := Lib.hid (getDI hk)
      have HG2 := Lib.hid (getDI (show k - 1 < xs.length by omega))
      obtain ⟨x, hx⟩ : ∃ x, xs[k] = x := ⟨_, rfl⟩
      obtain ⟨y, hy⟩ : ∃ y, xs[k - 1]'(by omega) = y := ⟨_, rfl⟩
      rw [hx] at c1 HG1
      rw [hy] at c2 HG2
      have HB := Lib.hid hb
      clear hx hy hb hcell
      by_cases hxy : x < y
      · have hd : decide (x < y) = true := by simp [hxy]
        have HF := Lib.hid (show ascB xs = false from Bool.eq_false_iff.2 fun h => by
          have := (ascB_iff xs).1 h (k - 1) (by omega)
          rw [show k - 1 + 1 = k by omega, HG1.out, HG2.out] at this
          omega)
        go_upto_region 4 with (fail)
        go_quiet (first | (go_at_call 88; exact Calls.quiet_of_same (cmpLess_any _ _ _)))
        go_wp2
        go_ret
        exact ⟨by rw [HF.out]; rfl, HB.out.trans ⟨rfl, rfl, rfl, Nat.le_refl _, fun _ _ => rfl⟩⟩
      · have hd : decide (x < y) = false := by simp [hxy]
        go_upto_region 4 with (fail)
        go_quiet (first | (go_at_call 88; exact Calls.quiet_of_same (cmpLess_any _ _ _)))
        go_wp2
        go_roundw
        case rel =>
          refine ⟨k - 1, by omega, by go_num, HB.out.trans ⟨rfl, rfl, rfl, Nat.le_refl _, fun _ _ => rfl⟩, fun i hi1 hi2 => ?_⟩
          by_cases hie : i = k - 1
          · subst hie
            rw [show k - 1 + 1 = k by omega, HG1.out, HG2.out]
            omega
          · exact HBF.out i (by omega) hi2
        case measure => simp [intOf]; omega
    · obtain rfl : k = 0 := by omega
      have HF := Lib.hid (show ascB xs = true from (ascB_iff xs).2 fun i hi => HBF.out i (by omega) hi)
      go_wp2
      go_ret
      exact ⟨by rw [HF.out]; rfl, hb⟩
end Go.Proofs.YtlpnicfbgdfbnaaDoor

/- Heights: valid, ref.Steps; Stair, ref.Stair. -/
namespace Go.Proofs.YtlpnicfbgdfbnaaDoor
open Go.RowKit Go.Shelf
attribute [local go_sem] Oper.semAt_some

set_option maxRecDepth 20000 in
set_option maxHeartbeats 1000000 in
theorem hvalid_any (v : Value) (xs : List Int) (w : World) (hv : Ints w v xs) :
    Calls Tryd.prog 61 #[v] w fun e w' => e = .returned (.bool (stairB xs)) ∧ Below w.heap.size w w' := by
  have CS := Lib.hid (fun h1 h6 => IsSorted_any v xs w hv h1 h6)
  have HS := Lib.hid (show stairB xs = (decide (1 ≤ xs.length) && decide (xs.length ≤ 6) && ascB xs && decide (0 ≤ xs.getD 0 0) && decide (xs.getD (xs.length - 1) 0 ≤ (xs.length : Int))) from rfl)
  have hb0 := Below.refl w.heap.size w
  obtain ⟨a, c, rfl, hlen, hcl, hc⟩ := hv
  have HCC := Lib.hid hc
  clear hc
  by_cases h1 : 1 ≤ xs.length
  · have h1i : (1 : Int) ≤ (xs.length : Int) := by omega
    by_cases h6 : xs.length ≤ 6
    · have h6i : (xs.length : Int) ≤ 6 := by omega
      have C := Lib.hid (CS.out h1 h6)
      obtain ⟨b, off, rfl, hbl, hcell⟩ := HCC.out (by intro e; rw [e] at h1; simp at h1)
      have k0 := hcell 0 (by omega)
      have k1 := hcell (xs.length - 1) (by omega)
      have HG0 := Lib.hid (getDI (show 0 < xs.length by omega))
      have HG1 := Lib.hid (getDI (show xs.length - 1 < xs.length by omega))
      obtain ⟨x, hx⟩ : ∃ x, xs[0]'(by omega) = x := ⟨_, rfl⟩
      obtain ⟨y, hy⟩ : ∃ y, xs[xs.length - 1]'(by omega) = y := ⟨_, rfl⟩
      rw [hx] at k0 HG0
      rw [hy] at k1 HG1
      have K0 := Lib.hid k0
      have K1 := Lib.hid k1
      have h0i : (0 : Int) < (xs.length : Int) := by omega
      have hwk : IntKind.i64.wrap ((xs.length : Int) - 1) = ((xs.length - 1 : Nat) : Int) := by rw [IntWalk.i64_in _ (by omega)]; omega
      have hkl2 : ((xs.length - 1 : Nat) : Int) < (xs.length : Int) := by omega
      clear hx hy hcell k0 k1 CS HCC
      cases ha : ascB xs with
      | false =>
        rw [ha] at C
        have HF := Lib.hid (show stairB xs = false by rw [HS.out, ha]; simp)
        clear ha HS
        go_enter Tryd.func61, Tryd.ntmps61
        go_wp2_with (go_at_call 76; refine C.out.mono ?_; rintro e w1 ⟨rfl, hb1⟩)
        go_ret
        exact ⟨by rw [HF.out]; rfl, hb1⟩
      | true =>
        rw [ha] at C
        by_cases hx0 : 0 ≤ x
        · have hx0' : ¬ x < 0 := by omega
          by_cases hyn : y ≤ (xs.length : Int)
          · have HF := Lib.hid (show stairB xs = true by rw [HS.out, ha, HG0.out, HG1.out]; simp [hx0, hyn]; omega)
            clear ha HS
            go_enter Tryd.func61, Tryd.ntmps61
            go_wp2_with (go_at_call 76; refine C.out.mono ?_; rintro e w1 ⟨rfl, hb1⟩; have c0 : w1.cell? ⟨b, off, none⟩ = some (.int .i64 x) := (hb1.cell (p := ⟨b, off, none⟩) hbl).trans K0.out; have c1 := (hb1.cell (p := ⟨b, off + (xs.length - 1), none⟩) hbl).trans K1.out)
            go_ret
            exact ⟨by rw [HF.out]; rfl, hb1⟩
          · have HF := Lib.hid (show stairB xs = false by rw [HS.out, HG1.out]; simp [hyn])
            have hd : decide (y ≤ (xs.length : Int)) = false := by simp; omega
            clear ha HS
            go_enter Tryd.func61, Tryd.ntmps61
            go_wp2_with (go_at_call 76; refine C.out.mono ?_; rintro e w1 ⟨rfl, hb1⟩; have c0 : w1.cell? ⟨b, off, none⟩ = some (.int .i64 x) := (hb1.cell (p := ⟨b, off, none⟩) hbl).trans K0.out; have c1 := (hb1.cell (p := ⟨b, off + (xs.length - 1), none⟩) hbl).trans K1.out)
            go_ret
            exact ⟨by rw [HF.out]; rfl, hb1⟩
        · have HF := Lib.hid (show stairB xs = false by rw [HS.out, HG0.out]; simp [hx0])
          clear ha HS
          go_enter Tryd.func61, Tryd.ntmps61
          go_wp2_with (go_at_call 76; refine C.out.mono ?_; rintro e w1 ⟨rfl, hb1⟩; have c0 : w1.cell? ⟨b, off, none⟩ = some (.int .i64 x) := (hb1.cell (p := ⟨b, off, none⟩) hbl).trans K0.out)
          go_ret
          exact ⟨by rw [HF.out]; rfl, hb1⟩
    · have h6i : ¬ (xs.length : Int) ≤ 6 := by omega
      have HF := Lib.hid (show stairB xs = false by rw [HS.out]; simp [h6])
      clear CS HS HCC
      go_enter Tryd.func61, Tryd.ntmps61
      go_wp2
      go_ret
      exact ⟨by rw [HF.out]; rfl, hb0⟩
  · have h1i : ¬ (1 : Int) ≤ (xs.length : Int) := by omega
    have HF := Lib.hid (show stairB xs = false by rw [HS.out]; simp [h1])
    clear CS HS HCC
    go_enter Tryd.func61, Tryd.ntmps61
    go_wp2
    go_ret
    exact ⟨by rw [HF.out]; rfl, hb0⟩

/-- What ref.Steps looks at, at one place. -/
def OkAt (xs : List Int) (i : Nat) : Prop := 0 ≤ xs.getD i 0 ∧ xs.getD i 0 ≤ (xs.length : Int) ∧ (0 < i → xs.getD (i - 1) 0 ≤ xs.getD i 0)
theorem ok_of_stair {xs : List Int} (h : stairB xs = true) (i : Nat) (hi : i < xs.length) : OkAt xs i := by
  obtain ⟨hs, rfl, st⟩ := stair_of h
  rw [toI_length] at hi
  unfold OkAt
  rw [toI_getD, toI_getD, toI_length]
  refine ⟨by omega, ?_, fun h0 => ?_⟩
  · have := st.top _ (List.getElem_mem hi)
    rw [getD_at hi]; omega
  · have := st.asc (i - 1) (by omega)
    rw [show i - 1 + 1 = i by omega] at this
    omega
theorem stair_of_ok {xs : List Int} (h : ∀ i, i < xs.length → OkAt xs i) (h1 : 1 ≤ xs.length) (h6 : xs.length ≤ 6) : stairB xs = true := by
  unfold stairB
  simp only [Bool.and_eq_true, decide_eq_true_eq, ascB_iff]
  refine ⟨⟨⟨⟨h1, h6⟩, fun i hi => ?_⟩, (h 0 (by omega)).1⟩, (h _ (by omega)).2.1⟩
  have := (h (i + 1) hi).2.2 (by omega)
  simpa using this

set_option maxRecDepth 20000 in
set_option maxHeartbeats 2000000 in
theorem Steps_any (v : Value) (xs : List Int) (w : World) (hv : Ints w v xs) :
    Calls Tryd.prog 37 #[v] w fun e w' => e = .returned (.bool (stairB xs)) ∧ w = w' := by
  obtain ⟨a, c, rfl, hlen, hcl, hc⟩ := hv
  have HCC := Lib.hid hc
  clear hc
  go_enter Tryd.func37, Tryd.ntmps37
  go_wp2
  go_loopw [7] (fun ix wr => ∃ k : Nat, k ≤ xs.length ∧ ix = .int .i64 k ∧ wr = w ∧ ∀ i, i < k → OkAt xs i) (fun ix _ => xs.length - (intOf ix).toNat)
  case atStart => exact ⟨0, Nat.zero_le _, rfl, rfl, fun i h => by omega⟩
  case round =>
    obtain ⟨k, hk, rfl, rfl, hbefore⟩ := hrel
    have HBF := Lib.hid hbefore
    clear hbefore
    by_cases hlt : k < xs.length
    · obtain ⟨b, off, rfl, hbl, hcell⟩ := HCC.out (by intro e; rw [e] at hlt; simp at hlt)
      have c1 := hcell k hlt
      have HG1 := Lib.hid (getDI hlt)
      obtain ⟨x, hx⟩ : ∃ x, xs[k] = x := ⟨_, rfl⟩
      rw [hx] at c1 HG1
      have hki : (k : Int) < (xs.length : Int) := by omega
      have HCELL := Lib.hid hcell
      clear hx hcell
      by_cases hx0 : x < 0
      · have HF := Lib.hid (show stairB xs = false from Bool.eq_false_iff.2 fun h => by have := (ok_of_stair h k hlt).1; rw [HG1.out] at this; omega)
        go_wp2
        go_ret
        exact ⟨by rw [HF.out]; rfl, rfl⟩
      · by_cases hxn : (xs.length : Int) < x
        · have HF := Lib.hid (show stairB xs = false from Bool.eq_false_iff.2 fun h => by have := (ok_of_stair h k hlt).2.1; rw [HG1.out] at this; omega)
          go_wp2
          go_ret
          exact ⟨by rw [HF.out]; rfl, rfl⟩
        · by_cases hk0 : 0 < k
          · have c2 := HCELL.out (k - 1) (by omega)
            have HG2 := Lib.hid (getDI (show k - 1 < xs.length by omega))
            obtain ⟨y, hy⟩ : ∃ y, xs[k - 1]'(by omega) = y := ⟨_, rfl⟩
            rw [hy] at c2 HG2
            have hk0i : (0 : Int) < (k : Int) := by omega
            have hwk : IntKind.i64.wrap ((k : Int) - 1) = ((k - 1 : Nat) : Int) := by rw [IntWalk.i64_in _ (by omega)]; omega
            have hkl2 : ((k - 1 : Nat) : Int) < (xs.length : Int) := by omega
            clear hy
            by_cases hyx : x < y
            · have HF := Lib.hid (show stairB xs = false from Bool.eq_false_iff.2 fun h => by have := (ok_of_stair h k hlt).2.2 hk0; rw [HG1.out, HG2.out] at this; omega)
              go_wp2
              go_ret
              exact ⟨by rw [HF.out]; rfl, rfl⟩
            · go_wp2
              go_roundw
              case rel =>
                refine ⟨k + 1, by omega, by go_num, trivial, fun i hi => ?_⟩
                by_cases hie : i = k
                · subst hie
                  exact ⟨by rw [HG1.out]; omega, by rw [HG1.out]; omega, fun _ => by rw [HG1.out, HG2.out]; omega⟩
                · exact HBF.out i (by omega)
              case measure => simp [intOf]; omega
          · obtain rfl : k = 0 := by omega
            have c10 : wr.cell? ⟨b, off, none⟩ = some (.int .i64 x) := c1
            go_wp2
            go_roundw
            case rel =>
              refine ⟨1, by omega, by go_num, trivial, fun i hi => ?_⟩
              obtain rfl : i = 0 := by omega
              exact ⟨by rw [HG1.out]; omega, by rw [HG1.out]; omega, fun h => by omega⟩
            case measure => simp [intOf]; omega
    · obtain rfl : k = xs.length := by omega
      by_cases h1 : 1 ≤ xs.length
      · have h1i : (1 : Int) ≤ (xs.length : Int) := by omega
        by_cases h6 : xs.length ≤ 6
        · have h6i : (xs.length : Int) ≤ 6 := by omega
          have HF := Lib.hid (stair_of_ok HBF.out h1 h6)
          go_wp2
          go_ret
          exact ⟨by rw [HF.out]; rfl, rfl⟩
        · have h6i : ¬ (xs.length : Int) ≤ 6 := by omega
          have HF := Lib.hid (show stairB xs = false by unfold stairB; simp [h6])
          go_wp2
          go_ret
          exact ⟨by rw [HF.out]; rfl, rfl⟩
      · have h1i : ¬ (1 : Int) ≤ (xs.length : Int) := by omega
        have HF := Lib.hid (show stairB xs = false by unfold stairB; simp [h1])
        go_wp2
        go_ret
        exact ⟨by rw [HF.out]; rfl, rfl⟩
end Go.Proofs.YtlpnicfbgdfbnaaDoor

/- Stair, ref.Stair. -/
namespace Go.Proofs.YtlpnicfbgdfbnaaDoor
open Go.RowKit Go.Shelf
attribute [local go_sem] Oper.semAt_some

def stairL (hs : List Nat) : List Nat := hs.map fun x => 2 ^ x - 1
theorem stairL_length (hs : List Nat) : (stairL hs).length = hs.length := by simp [stairL]
theorem stairL_board {hs : List Nat} (h : Stp hs) : IsBoard (stairL hs) := by
  refine ⟨by rw [stairL_length]; exact h.pos, by rw [stairL_length]; exact h.le, fun r hr => ?_⟩
  rw [stairL_length]
  obtain ⟨x, hx, rfl⟩ := List.mem_map.1 hr
  have := h.top x hx
  have h1 : 2 ^ x ≤ 2 ^ hs.length := Nat.pow_le_pow_right (by decide) this
  have h2 := Nat.one_le_two_pow (n := x)
  omega

set_option maxRecDepth 20000 in
set_option maxHeartbeats 1000000 in
theorem hboard_any (v : Value) (hs : List Nat) (w : World) (hv : Ints w v (toI hs)) (h : Stp hs) :
    Calls Tryd.prog 62 #[v] w fun e w' => ∃ v', e = .returned v' ∧ OwnI 3 w.heap.size w' v' (toI (stairL hs)) ∧ Below w.heap.size w w' := by
  have h6 := h.le
  have HT := Lib.hid h.top
  obtain ⟨a, c, rfl, hlen, hcl, hc⟩ := hv.openN
  have HCC := Lib.hid hc
  clear hv h hc
  go_enter Tryd.func62, Tryd.ntmps62
  go_wp2
  go_loopw [3, 8] (fun o ix wr => ∃ k : Nat, k ≤ hs.length ∧ ix = .int .i64 k ∧ OwnI 3 w.heap.size wr o (toI (stairL (hs.take k))) ∧ Below w.heap.size w wr) (fun _ i _ => hs.length - (intOf i).toNat)
  case atStart => exact ⟨0, Nat.zero_le _, rfl, OwnI.nil _ _ _, Below.refl _ _⟩
  case round =>
    obtain ⟨k, hk, rfl, ho, hb⟩ := hrel
    by_cases hlt : k < hs.length
    · obtain ⟨b, off, rfl, hbl, hcell⟩ := HCC.out (ne_nil_of_lt hlt)
      have hcx := (hb.cell (p := ⟨b, off + k, none⟩) hbl).trans (hcell k hlt)
      have hx6 := HT.out _ (List.getElem_mem hlt)
      have H := Lib.hid (map_take_succ (fun x => 2 ^ x - 1) hs k hlt)
      obtain ⟨x, hx⟩ : ∃ x, hs[k] = x := ⟨_, rfl⟩
      rw [hx] at hcx hx6 H
      have hle := hb.size
      have hp := pow_in x (by omega)
      have hp1 := pow_in1 x (by omega)
      have hcast : (2 : Int) ^ x - 1 = ((2 ^ x - 1 : Nat) : Int) := by
        have : 1 ≤ 2 ^ x := Nat.one_le_two_pow
        rw [Int.ofNat_sub this]; simp
      have HC := Lib.hid hcast
      have hlk : (stairL (hs.take k)).length ≤ 6 := by rw [stairL_length, List.length_take]; omega
      clear hx hcell hcast
      go_wp2_with (at_builtin; refine wpList_app1 rfl _ _ 47 rfl 3 Tryd.underlying47 info3 w.heap.size _ (toI (stairL (hs.take k))) _ rfl (ho.alloc _) ⟨wr.heap.size, 0, none⟩ 1 rfl (cell_new1 _ _ _) (by rw [toI_length]; omega) (by simp; omega) ?_; intro v' w1 ho1 hg1 hb1; clear hg1)
      go_roundw
      case rel => exact ⟨k + 1, by omega, by go_num, by unfold stairL; rw [H.out]; exact own_snoc ho1 HC.out, (hb.alloc hle _).trans hb1⟩
      case measure => simp [intOf]; omega
    · obtain rfl : k = hs.length := by omega
      rw [List.take_length] at ho
      go_wp2
      go_ret
      exact ⟨_, rfl, ho, hb⟩

set_option maxRecDepth 20000 in
set_option maxHeartbeats 1000000 in
theorem refStair_any (v : Value) (hs : List Nat) (w : World) (hv : Ints w v (toI hs)) (h : Stp hs) :
    Calls Tryd.prog 38 #[v] w fun e w' => ∃ v', e = .returned v' ∧ OwnI 3 w.heap.size w' v' (toI (stairL hs)) ∧ Below w.heap.size w w' := by
  have h6 := h.le
  have HT := Lib.hid h.top
  obtain ⟨a, c, rfl, hlen, hcl, hc⟩ := hv.openN
  have HCC := Lib.hid hc
  clear hv h hc
  go_enter Tryd.func38, Tryd.ntmps38
  go_wp2
  go_loopw [3, 8] (fun o ix wr => ∃ k : Nat, k ≤ hs.length ∧ ix = .int .i64 k ∧ OwnI 3 w.heap.size wr o (toI (stairL (hs.take k))) ∧ Below w.heap.size w wr) (fun _ i _ => hs.length - (intOf i).toNat)
  case atStart => exact ⟨0, Nat.zero_le _, rfl, OwnI.nil _ _ _, Below.refl _ _⟩
  case round =>
    obtain ⟨k, hk, rfl, ho, hb⟩ := hrel
    by_cases hlt : k < hs.length
    · obtain ⟨b, off, rfl, hbl, hcell⟩ := HCC.out (ne_nil_of_lt hlt)
      have hcx := (hb.cell (p := ⟨b, off + k, none⟩) hbl).trans (hcell k hlt)
      have hx6 := HT.out _ (List.getElem_mem hlt)
      have H := Lib.hid (map_take_succ (fun x => 2 ^ x - 1) hs k hlt)
      obtain ⟨x, hx⟩ : ∃ x, hs[k] = x := ⟨_, rfl⟩
      rw [hx] at hcx hx6 H
      have hle := hb.size
      have hp := pow_in x (by omega)
      have hp1 := pow_in1 x (by omega)
      have hcast : (2 : Int) ^ x - 1 = ((2 ^ x - 1 : Nat) : Int) := by
        have : 1 ≤ 2 ^ x := Nat.one_le_two_pow
        rw [Int.ofNat_sub this]; simp
      have HC := Lib.hid hcast
      have hlk : (stairL (hs.take k)).length ≤ 6 := by rw [stairL_length, List.length_take]; omega
      clear hx hcell hcast
      go_wp2_with (at_builtin; refine wpList_app1 rfl _ _ 22 rfl 3 Tryd.underlying22 info3 w.heap.size _ (toI (stairL (hs.take k))) _ rfl (ho.alloc _) ⟨wr.heap.size, 0, none⟩ 1 rfl (cell_new1 _ _ _) (by rw [toI_length]; omega) (by simp; omega) ?_; intro v' w1 ho1 hg1 hb1; clear hg1)
      go_roundw
      case rel => exact ⟨k + 1, by omega, by go_num, by unfold stairL; rw [H.out]; exact own_snoc ho1 HC.out, (hb.alloc hle _).trans hb1⟩
      case measure => simp [intOf]; omega
    · obtain rfl : k = hs.length := by omega
      rw [List.take_length] at ho
      go_wp2
      go_ret
      exact ⟨_, rfl, ho, hb⟩

set_option maxRecDepth 20000 in
set_option maxHeartbeats 400000 in
theorem Stair_no (v : Value) (xs : List Int) (w : World) (hv : Ints w v xs) (h : stairB xs = false) :
    Calls Tryd.prog 35 #[v] w fun e w' => e = .returned (.tuple #[.slice none 0 0, .int .i64 2]) ∧ Below w.heap.size w w' := by
  have C := hvalid_any v xs w hv
  rw [h] at C
  go_enter Tryd.func35, Tryd.ntmps35
  go_wp2_with (go_at_call 61; refine C.mono ?_; rintro e w1 ⟨rfl, hb⟩)
  go_ret2
  exact ⟨rfl, hb⟩

set_option maxRecDepth 20000 in
set_option maxHeartbeats 400000 in
theorem Stair_yes (v : Value) (hs : List Nat) (w : World) (hv : Ints w v (toI hs)) (h : Stp hs) :
    Calls Tryd.prog 35 #[v] w fun e w' => ∃ v', e = .returned (.tuple #[v', .int .i64 0]) ∧ OwnI 3 w.heap.size w' v' (toI (stairL hs)) ∧ Below w.heap.size w w' := by
  have C := hvalid_any v _ w hv
  rw [stairB_of h] at C
  have CB := Lib.hid (fun w' (hb : Below w.heap.size w w') => hboard_any v hs w' (hv.below hb) h)
  clear hv h
  go_enter Tryd.func35, Tryd.ntmps35
  go_wp2_with (first
    | (go_at_call 61; refine C.mono ?_; rintro e w1 ⟨rfl, hb⟩)
    | (go_at_call 62; refine (CB.out w1 hb).mono ?_; rintro e w2 ⟨v2, rfl, ho2, hb2⟩; replace ho2 := ho2.mono hb.size; replace hb2 := hb.trans (hb2.mono hb.size)))
  go_ret2
  exact ⟨_, rfl, ho2, hb2⟩
end Go.Proofs.YtlpnicfbgdfbnaaDoor

/- RooksCounts. -/
namespace Go.Proofs.YtlpnicfbgdfbnaaDoor
open Go.RowKit

set_option maxRecDepth 20000 in
set_option maxHeartbeats 2000000 in
theorem Counts_no (v : Value) (xs : List Int) (w : World) (hv : Ints w v xs) (ht : Tab w) (h : boardB xs = false) :
    Calls Tryd.prog 5 #[v] w (True1 w) := by
  have C15 := Lib.hid (fun w' (hb : Below w.heap.size w w') => list_any v xs w' (hv.below hb))
  have C14 := Lib.hid (fun v' w' (hb : Ints w' v' (xs.take 9)) => Rooks_no v' (xs.take 9) w' hb (by rw [boardB_take]; exact h))
  have C23 := Lib.hid (fun v' w' (hb : Ints w' v' (xs.take 9)) => Hits_no v' (xs.take 9) w' hb (by rw [boardB_take]; exact h))
  have C17 := Lib.hid (fun w' (hb : Below w.heap.size w w') => by have := Board_any v xs w' (hv.below hb); rw [h] at this; exact this)
  have C18 := Lib.hid (fun w' (hb : Below w.heap.size w w') => awake_any w' (ht.below hb))
  have hl9 : (xs.take 9).length ≤ 17592186044416 := by simp; omega
  have hb0 := Below.refl w.heap.size w
  clear hv ht h
  go_enter Tryd.func5, Tryd.ntmps5
  go_wp2_with (first
      | (go_at_call 18; refine (C18.out w4 hb4).mono ?_; rintro e w6 ⟨rfl, hb6⟩; replace hb6 := hb4.trans (hb6.mono hb4.size))
      | (go_at_call 17; refine (C17.out w4 hb4).mono ?_; rintro e w5 ⟨rfl, rfl⟩)
      | (go_at_call 23; refine (C23.out v3 w3 (ho3.ints hl9)).mono ?_; rintro e w4 ⟨rfl, hb4⟩; replace hb4 := hb3.trans (hb4.mono hb3.size))
      | (go_at_call 15; refine (C15.out w2 hb2).mono ?_; rintro e w3 ⟨v3, rfl, ho3, hb3⟩; replace hb3 := hb2.trans (hb3.mono hb2.size))
      | (go_at_call 14; refine (C14.out v1 w1 (ho1.ints hl9)).mono ?_; rintro e w2 ⟨rfl, hb2⟩; replace hb2 := hb1.trans (hb2.mono hb1.size))
      | (go_at_call 15; refine (C15.out w hb0).mono ?_; rintro e w1 ⟨v1, rfl, ho1, hb1⟩))
  go_ret
  exact ⟨rfl, hb6⟩

set_option maxRecDepth 20000 in
set_option maxHeartbeats 2000000 in
theorem Counts_yes (v : Value) (bs : List Nat) (w : World) (hv : Ints w v (toI bs)) (ht : Tab w) (h : IsBoard bs) :
    Calls Tryd.prog 5 #[v] w (True1 w) := by
  have C15 := Lib.hid (fun w' (hb : Below w.heap.size w w') => by have := list_any v _ w' (hv.below hb); rw [take_board h] at this; exact this)
  have C14 := Lib.hid (fun v' w' (hb : Ints w' v' (toI bs)) (hw : Below w.heap.size w w') => Rooks_yes v' bs w' hb h (ht.below hw))
  have C23 := Lib.hid (fun v' w' (hb : Ints w' v' (toI bs)) (hw : Below w.heap.size w w') => Hits_yes v' bs w' hb h (ht.below hw))
  have C17 := Lib.hid (fun w' (hb : Below w.heap.size w w') => by have := Board_any v _ w' (hv.below hb); rw [boardB_board h] at this; exact this)
  have C18 := Lib.hid (fun w' (hb : Below w.heap.size w w') => awake_any w' (ht.below hb))
  have C24 := Lib.hid (fun w' (hb : Below w.heap.size w w') => refRooks_any v bs w' (hv.below hb) h)
  have C25 := Lib.hid (fun w' (hb : Below w.heap.size w w') => refHits_any v bs w' (hv.below hb) h)
  have C20 := Lib.hid (fun v1 v2 (xs : List Int) w' (h1 : Ints w' v1 xs) (h2 : Ints w' v2 xs) => by have := Equal_any v1 v2 _ _ w' h1 h2; rw [show decide (xs = xs) = true by simp] at this; exact this)
  have hl9 : (toI bs).length ≤ 17592186044416 := hv.len
  have hln : (toI (numL bs 0)).length ≤ 17592186044416 := by rw [toI_length, numL_length]; have := h.le; omega
  have hlh : (toI (hitsL bs)).length ≤ 17592186044416 := by rw [toI_length, hitsL_length]; have := h.le; omega
  obtain ⟨a, c, rfl, hlen, hcl, hc⟩ := hv.openN
  have hb0 := Below.refl w.heap.size w
  clear hv ht h hc
  go_enter Tryd.func5, Tryd.ntmps5
  go_wp2_with (first
      | (go_at_call 18; refine (C18.out w8 hb8).mono ?_; rintro e w9 ⟨rfl, hb9'⟩; have hb9 := hb8.trans (hb9'.mono hb8.size))
      | (go_at_call 20; refine (C20.out v4 v7 _ w7 ((ho4.below (hb45.trans ((hb6'.mono hb5'.size).trans (hb7'.mono (Nat.le_trans hb5'.size hb6'.size))))).ints hlh) (ho7.ints hlh)).mono ?_; rintro e w8 ⟨rfl, hb8'⟩; have hb8 := hb7.trans (hb8'.mono hb7.size))
      | (go_at_call 25; refine (C25.out w6 hb6).mono ?_; rintro e w7 ⟨v7, rfl, ho7, hb7'⟩; have hb7 := hb6.trans (hb7'.mono hb6.size))
      | (go_at_call 20; refine (C20.out v2 v5 _ w5 ((ho2.below ((hb3'.trans (hb4'.mono hb3'.size)).trans (hb5'.mono (Nat.le_trans hb3'.size hb4'.size)))).ints hln) (ho5.ints hln)).mono ?_; rintro e w6 ⟨rfl, hb6'⟩; have hb6 := hb5.trans (hb6'.mono hb5.size))
      | (go_at_call 24; refine (C24.out w4 hb4).mono ?_; rintro e w5 ⟨v5, rfl, ho5, hb5'⟩; have hb5 := hb4.trans (hb5'.mono hb4.size); have hb45 := hb5')
      | (go_at_call 17; refine (C17.out w4 hb4).mono ?_; rintro e w5 ⟨rfl, rfl⟩)
      | (go_at_call 23; refine (C23.out v3 w3 (ho3.ints hl9) hb3).mono ?_; rintro e w4 ⟨v4, rfl, ho4, hb4'⟩; have hb4 := hb3.trans (hb4'.mono hb3.size))
      | (go_at_call 15; refine (C15.out w2 hb2).mono ?_; rintro e w3 ⟨v3, rfl, ho3, hb3'⟩; have hb3 := hb2.trans (hb3'.mono hb2.size))
      | (go_at_call 14; refine (C14.out v1 w1 (ho1.ints hl9) hb1).mono ?_; rintro e w2 ⟨v2, rfl, ho2, hb2'⟩; have hb2 := hb1.trans (hb2'.mono hb1.size))
      | (go_at_call 15; refine (C15.out w hb0).mono ?_; rintro e w1 ⟨v1, rfl, ho1, hb1⟩))
  go_ret
  exact ⟨rfl, hb9⟩

theorem rooksCounts_true (v : Value) (xs : List Int) (w : World) (hv : Ints w v xs) (ht : Tab w) :
    Calls Tryd.prog 5 #[v] w (True1 w) := by
  cases hb : boardB xs with
  | false => exact Counts_no v xs w hv ht hb
  | true =>
    obtain ⟨bs, rfl, h⟩ := board_of hb
    exact Counts_yes v bs w hv ht h
end Go.Proofs.YtlpnicfbgdfbnaaDoor
