/- A4: Pm, Ap, Yd, So, Sf, Ri, Ri2 of the seat's texts, in this order. -/
import Derived.Test.YtlpnicfbgdfbnaaDoorA3
import Derived.OwnWalkIn
import Derived.Deep.QuietTactic
import Derived.BigQuiet
import Derived.Test.YtlpnicfbgdfbnaaDoorA2
import Derived.Maps.AppendAt
import Derived.Laws.OwnMore

/- Permutations as lists, in the program's order; a yield as a state machine. -/
namespace Go.Proofs.YtlpnicfbgdfbnaaDoor

/-- The orders of the elements of a set that has d elements. -/
def perms : Nat → Nat → List (List Nat)
  | 0, _ => [[]]
  | d + 1, rest => (elems rest).flatMap fun j => (perms d (diffS rest (2 ^ j))).map (j :: ·)

/-- Feed the lists to a yield until it answers false. -/
def runP {σ : Type} (step : σ → List Nat → σ × Bool) : σ → List (List Nat) → σ × Bool
  | s, [] => (s, true)
  | s, l :: ls => if (step s l).2 then runP step (step s l).1 ls else ((step s l).1, false)

theorem runP_append {σ : Type} (step : σ → List Nat → σ × Bool) : ∀ (a b : List (List Nat)) (s : σ), runP step s (a ++ b) = if (runP step s a).2 then runP step (runP step s a).1 b else ((runP step s a).1, false)
  | [], b, s => by simp [runP]
  | l :: a, b, s => by
    simp only [List.cons_append, runP]
    by_cases h : (step s l).2 = true
    · simp only [h, if_true]; exact runP_append step a b _
    · simp [h]

theorem runP_true {σ : Type} (step : σ → List Nat → σ × Bool) (h : ∀ s l, (step s l).2 = true) : ∀ (ls : List (List Nat)) (s : σ), runP step s ls = (ls.foldl (fun s l => (step s l).1) s, true)
  | [], s => rfl
  | l :: ls, s => by simp only [runP, h, if_true, List.foldl_cons]; exact runP_true step h ls _

theorem pop_step : ∀ s : Nat, s < 64 → ∀ j : Nat, j < 6 → (!s.testBit j || decide (pop (diffS s (2 ^ j)) + 1 = pop s)) = true := by decide +kernel
theorem pop_zero_iff : ∀ s : Nat, s < 64 → (decide (pop s = 0) == decide (s = 0)) = true := by decide +kernel
theorem andNot_walk {s j : Nat} (hj : j < 6) (hs : s < 64) : bits BinOp.andNot IntKind.i64 (s : Int) ((2 : Int) ^ j) = ((diffS s (2 ^ j) : Nat) : Int) := cut_walk j hj s hs
theorem elems_bit {s j : Nat} (h : j ∈ elems s) : s.testBit j = true := (List.mem_filter.1 h).2

theorem perms_len : ∀ (d rest : Nat) (l : List Nat), l ∈ perms d rest → l.length = d
  | 0, _, l, h => by simp [perms] at h; simp [h]
  | d + 1, rest, l, h => by
    simp only [perms, List.mem_flatMap, List.mem_map] at h
    obtain ⟨j, _, l', h', rfl⟩ := h
    simp [perms_len d _ l' h']
theorem perms_lt : ∀ (d rest : Nat) (l : List Nat), rest < 64 → l ∈ perms d rest → ∀ c ∈ l, c < 6
  | 0, _, l, _, h => by simp [perms] at h; simp [h]
  | d + 1, rest, l, hr, h => by
    simp only [perms, List.mem_flatMap, List.mem_map] at h
    obtain ⟨j, hj, l', h', rfl⟩ := h
    intro c hc
    rcases List.mem_cons.1 hc with rfl | hc
    · exact Nat.lt_of_not_le fun h6 => by have := elems_bit hj; rw [bit_high hr h6] at this; cases this
    · exact perms_lt d _ l' (diffS_lt6 hr) h' c hc
end Go.Proofs.YtlpnicfbgdfbnaaDoor

/- Append of one int: where the row lies behind it; the same in a fence. -/
namespace Go.Proofs.YtlpnicfbgdfbnaaDoor
open Go.RowKit

theorem run_app1_at {P : Program} {t ty e : TypeId} (h1 : P.underlying t = some (.slice e)) (hi : IsInt P e) {B : Nat} {w : World} {v : Value} {xs : List Int} {y : Int} (hown : OwnI e B w v xs)
    {ad : Addr} {c : Nat} (hc : w.cell? ad = some (.int .i64 y)) (hlen : xs.length < 17592186044416) (hB : B ≤ w.heap.size) :
    ∃ v' w', (Builtin.append_ #[t, t] ty #[v, .slice (some ad) 1 c]).run P w = .ok v' w' ∧ OwnI e B w' v' (xs ++ [y]) ∧ w.grownBy w' v.ownBlock ∧ Below B w w' ∧
      (v'.ownBlock = v.ownBlock ∨ v'.ownBlock = some w.heap.size) := by
  obtain ⟨v', w', hrun, r1, r2, r3⟩ := run_app1 (ty := ty) h1 hi hown hc hlen hB
  refine ⟨v', w', hrun, r1, r2, r3, ?_⟩
  obtain ⟨i, hi1, hz0, hz1, hz2⟩ := info_parts hi
  have hnews : ∀ j u, [Value.int .i64 y][j]? = some u → w.cell? (ad.add j) = some u := by
    intro j u hj
    match j, hj with
    | 0, hj => simp at hj; subst hj; simpa [Addr.add] using hc
  rcases hown.2 with ⟨rfl, hn⟩ | ⟨g, cap, cur, rfl, hbg, hg, hnc, hcm, hcs, htake⟩
  · have hr := run_append_nil (P := P) w t ty e i (.int .i64 0) h1 hi1 hz0 ad 1 c [.int .i64 y] (by rw [hz1]; rfl) hnews (by omega) (by omega) (by rw [hz2]; omega)
    rw [hrun] at hr
    cases hr
    exact .inr rfl
  · by_cases hroom : xs.length + 1 ≤ cap
    · have hr := run_append_room (P := P) w t ty e i h1 hi1 g xs.length cap cur hg ad 1 c [.int .i64 y] (by rw [hz1]; rfl) hnews (by intro u hu; simp at hu; subst hu; rfl) hroom (by rw [hcs, hz1]; simp; omega)
      rw [hrun] at hr
      cases hr
      exact .inl rfl
    · have hr := run_append_grow (P := P) w t ty e i (.int .i64 0) h1 hi1 hz0 ⟨g, 0, none⟩ xs.length cap (xs.map (Value.int .i64)) (by rw [hz1]; simp) (World.ownsRow.cells hown (g := g) rfl) ad 1 c [.int .i64 y] (by rw [hz1]; rfl) hnews (by omega) (by omega) (growslice_fits (by omega) (by rw [hz2]; omega))
      rw [hrun] at hr
      cases hr
      exact .inr rfl

/-- In a fence, in a region of one order. -/
theorem wpListIn_app1 {F : Fence} {n : Nat} {P : Program} {ops : Array Oper} {rest : List Oper} {o : Oper} {a : Act} {w : World} {Q : Exit → Act → World → Prop}
    (hg : o.guard = none) (s x : Operand) (t : TypeId) (hop : o.op = Op.call { callee := Callee.builtin Builtin.append, args := #[s, x], argTypes := #[t, t] })
    (e : TypeId) (h1 : P.underlying t = some (.slice e)) (hi : IsInt P e) (B : Nat) (v : Value) (xs : List Int) (y : Int) (hs : a.eval s = v) (hown : OwnI e B w v xs)
    (ad : Addr) (c : Nat) (hx : a.eval x = .slice (some ad) 1 c) (hc : w.cell? ad = some (.int .i64 y)) (hlen : xs.length < 17592186044416) (hB : B ≤ w.heap.size)
    (hK : ∀ v' w', OwnI e B w' v' (xs ++ [y]) → w.grownBy w' v.ownBlock → Below B w w' → (v'.ownBlock = v.ownBlock ∨ v'.ownBlock = some w.heap.size) → wpListIn F n P ops Q rest (a.put o.dst v') w') :
    wpListIn F n P ops Q (o :: rest) a w := by
  refine wpListIn_plain hg fun K hK' => ?_
  obtain ⟨v', w', hrun, r1, r2, r3, r4⟩ := run_app1_at (ty := o.type) h1 hi hown hc hlen hB
  unfold Oper.wpIn
  refine ⟨?_, ?_⟩
  · simp [Oper.about, hop, resolve, Target.leads, Sem.run_pure]
  · rw [Oper.semAt_plain F _ _ (by rw [hop]; intro c hc'; cases hc')]
    simp [execOp, hop, resolve, invoke, builtin, hs, hx, Result.andThen]
    rw [hrun]
    exact hK' _ _ (hK v' w' r1 r2 r3 r4)

/-- A row of the call's own without its last cells. -/
theorem own_cut {e : TypeId} {B : Nat} {w : World} {g n cap : Nat} {xs : List Int} (h : OwnI e B w (.slice (some ⟨g, 0, none⟩) n cap) xs) (k : Nat) (hk : k ≤ xs.length) : OwnI e B w (.slice (some ⟨g, 0, none⟩) k cap) (xs.take k) := by
  obtain ⟨h1, h2⟩ := h
  rcases h2 with ⟨h2, _⟩ | ⟨g', cap', cur, h2, hg, hh, hn, hcap, hsz, hx⟩
  · cases h2
  · obtain ⟨e1, rfl, rfl⟩ := Value.slice.inj h2
    obtain rfl : g = g' := by simpa using e1
    have hl : (xs.take k).length = k := by simp; omega
    refine ⟨by simp, .inr ⟨g, cap, cur, by rw [hl], hg, hh, by rw [hl]; omega, hcap, hsz, ?_⟩⟩
    rw [hl, Nat.mul_one, List.map_take, ← hx, List.take_take]
    congr 1
    omega
end Go.Proofs.YtlpnicfbgdfbnaaDoor

/- A yield as a state machine over worlds; what a run of rooks.permutations keeps. -/
namespace Go.Proofs.YtlpnicfbgdfbnaaDoor
open Go.RowKit

/-- All blocks of S are as they were. -/
structure Sm (S : Nat → Prop) (W W' : World) : Prop where
  os : W'.os = W.os
  tape : W'.tape = W.tape
  output : W'.output = W.output
  size : W.heap.size ≤ W'.heap.size
  block : ∀ k, S k → k < W.heap.size → W'.heap[k]? = W.heap[k]?

section
variable {S S' : Nat → Prop} {a b c W W' : World}
theorem Sm.refl (S : Nat → Prop) (W : World) : Sm S W W := ⟨rfl, rfl, rfl, Nat.le_refl _, fun _ _ _ => rfl⟩
theorem Sm.trans (h : Sm S a b) (k : Sm S b c) : Sm S a c :=
  ⟨k.os.trans h.os, k.tape.trans h.tape, k.output.trans h.output, Nat.le_trans h.size k.size, fun i hs hi => (k.block i hs (Nat.lt_of_lt_of_le hi h.size)).trans (h.block i hs hi)⟩
theorem Sm.mono (h : Sm S W W') (hs : ∀ k, k < W.heap.size → S' k → S k) : Sm S' W W' := ⟨h.os, h.tape, h.output, h.size, fun k hk hlt => h.block k (hs k hlt hk) hlt⟩
theorem Sm.of_below (h : Below W.heap.size W W') : Sm S W W' := ⟨h.os, h.tape, h.output, h.size, fun k _ hlt => h.block k hlt⟩
theorem Sm.alloc (S : Nat → Prop) (W : World) (o : Obj) : Sm S W (W.alloc o) := Sm.of_below ((Below.refl _ _).alloc (Nat.le_refl _) _)
theorem Sm.drew (S : Nat → Prop) (W : World) : Sm S W W.drew := Sm.of_below (Below.refl _ _).drew
theorem Sm.grown {row : Option Nat} (h : W.grownBy W' row) (hs : ∀ k, S k → some k ≠ row) : Sm S W W' := ⟨h.os, h.tape, h.output, h.size, fun k hk hlt => h.block k hlt (hs k hk)⟩
theorem Sm.setCell (W : World) (b i : Nat) (u : Value) (hs : ∀ k, S k → k ≠ b) : Sm S W (W.setCell ⟨b, i, none⟩ u) := Sm.grown (IsBufferSet W b i u) (fun k hk e => hs k hk (by cases e; rfl))
theorem Sm.boxed {b : Nat} {t : TypeId} {v : Value} (h : Sm S W W') (hx : Boxed W b t v) (hs : S b) : Boxed W' b t v := (h.block b hs hx.lt).trans hx
theorem Sm.own {e : TypeId} {B : Nat} {v : Value} {xs : List Int} (h : Sm S W W') (ho : OwnI e B W v xs) (hs : ∀ k, v.ownBlock = some k → S k) : OwnI e B W' v xs := by
  refine ⟨ho.1, ?_⟩
  rcases ho.2 with h2 | ⟨g, cap, cur, rfl, hg, hh, r⟩
  · exact .inl h2
  · exact .inr ⟨g, cap, cur, rfl, hg, (h.block g (hs g rfl) (Array.getElem?_eq_some_iff.1 hh).1).trans hh, r⟩
theorem Sm.keepsFrom {n0 : Nat} (h : Sm S W W') (hs : ∀ k o, n0 ≤ k → W.heap[k]? = some o → o.isCells = false → S k) : KeepsFrom n0 W W' :=
  ⟨h.size, fun k o hk ho hc => (h.block k (hs k o hk ho hc) (Array.getElem?_eq_some_iff.1 ho).1).trans ho⟩
theorem Sm.ext {n0 B : Nat} (h : LoopExt n0 B W W') (hs : ∀ k, S k → k ≠ B ∧ (k < n0 ∨ ∃ o, W.heap[k]? = some o ∧ o.isCells = true)) : Sm S W W' :=
  ⟨h.os, h.tape, h.output, h.size, fun k hk hlt => by
    obtain ⟨h1, h2⟩ := hs k hk
    have hget : W.heap[k]? = some W.heap[k] := Array.getElem?_eq_getElem hlt
    rw [hget]
    refine h.block k _ hget h1 ?_
    rcases h2 with h2 | ⟨o, ho, hc⟩
    · exact .inl h2
    · rw [hget] at ho; cases ho; exact .inr hc⟩
end

structure Yld (σ : Type) where
  N : Nat
  n : Nat
  fy : FuncId
  caps : Array Value
  step : σ → List Nat → σ × Bool
  Inv : σ → World → Prop
  Prot : σ → World → Nat → Prop

structure Yld.Ok {σ : Type} (Y : Yld σ) : Prop where
  enter : ∀ args W, (callFunc Y.fy args).run Tryd.prog W = .ok (.enter Y.fy args) W
  tab : ∀ s W, Y.Inv s W → Tab W
  low : ∀ s W, Y.Inv s W → Y.N ≤ W.heap.size
  cells : ∀ s W k, Y.Inv s W → Y.Prot s W k → ∃ o, W.heap[k]? = some o ∧ o.isCells = true
  stable : ∀ s W W', Y.Inv s W → Sm (fun k => k < Y.N ∨ Y.Prot s W k) W W' → Y.Inv s W' ∧ ∀ k, Y.Prot s W' k → Y.Prot s W k
  call : ∀ s l v W, Y.Inv s W → l.length = Y.n → (∀ c ∈ l, c < 6) → Ints W v (toI l) → Calls Tryd.prog Y.fy (#[v] ++ Y.caps) W fun e W' =>
    e = .returned (.bool (Y.step s l).2) ∧ Y.Inv (Y.step s l).1 W' ∧ Sm (fun k => Y.N ≤ k) W W' ∧ (∀ k, Y.Prot (Y.step s l).1 W' k → Y.Prot s W k ∨ W.heap.size ≤ k)

section
variable {σ : Type} (Y : Yld σ) (b1 bp b3 : Nat)
/-- Where a run of permutations stands: the state, what has been placed. -/
structure PS (s : σ) (pre : List Nat) (pv : Value) (W : World) : Prop where
  inv : Y.Inv s W
  x1 : Boxed W b1 28 (.func (.func Y.fy) #[] Y.caps)
  x2 : Boxed W bp 22 pv
  x3 : Boxed W b3 36 (.func (.func 70) #[] #[.pointer (some ⟨b1, 0, none⟩), .pointer (some ⟨bp, 0, none⟩), .pointer (some ⟨b3, 0, none⟩)])
  own : OwnI 3 Y.N W pv (toI pre)
  n1 : Y.N ≤ b1
  n2 : Y.N ≤ bp
  n3 : Y.N ≤ b3
  q1 : ¬ Y.Prot s W b1
  q2 : ¬ Y.Prot s W bp
  q3 : ¬ Y.Prot s W b3
  qp : ∀ k, pv.ownBlock = some k → ¬ Y.Prot s W k

/-- What a call keeps beside the yield's own. -/
def KeptS (pv : Value) : Nat → Prop := fun k => Y.N ≤ k ∧ k ≠ bp ∧ some k ≠ pv.ownBlock

def WPost (r : σ × Bool) (s : σ) (pre : List Nat) (pv : Value) (W : World) (e : Ending) (W' : World) : Prop :=
  e = .returned (.bool r.2) ∧ Y.Inv r.1 W' ∧ Sm (KeptS Y bp pv) W W' ∧ (∀ k, Y.Prot r.1 W' k → Y.Prot s W k ∨ W.heap.size ≤ k) ∧
    (r.2 = true → ∃ pv', PS Y b1 bp b3 r.1 pre pv' W' ∧ (pv'.ownBlock = pv.ownBlock ∨ ∀ k, pv'.ownBlock = some k → W.heap.size ≤ k))
end

theorem PS.ne1 {σ : Type} {Y : Yld σ} {b1 bp b3 : Nat} {s : σ} {pre : List Nat} {pv : Value} {W : World} (h : PS Y b1 bp b3 s pre pv W) : some b1 ≠ pv.ownBlock := h.x1.not_row (by decide) h.own
theorem PS.ne2 {σ : Type} {Y : Yld σ} {b1 bp b3 : Nat} {s : σ} {pre : List Nat} {pv : Value} {W : World} (h : PS Y b1 bp b3 s pre pv W) : some bp ≠ pv.ownBlock := h.x2.not_row (by decide) h.own
theorem PS.ne3 {σ : Type} {Y : Yld σ} {b1 bp b3 : Nat} {s : σ} {pre : List Nat} {pv : Value} {W : World} (h : PS Y b1 bp b3 s pre pv W) : some b3 ≠ pv.ownBlock := h.x3.not_row (by decide) h.own
theorem Boxed.ne {W : World} {b b' : Nat} {t t' : TypeId} {u u' : Value} (h : Boxed W b t u) (h' : Boxed W b' t' u') (hne : t ≠ t') : b ≠ b' := by
  intro e; subst e
  have := h.symm.trans h'
  simp only [Option.some.injEq, Obj.cells.injEq] at this
  exact hne this.2.1

/-- A world that keeps every block that lay: the state stands. -/
theorem PS.below {σ : Type} {Y : Yld σ} (hY : Y.Ok) {b1 bp b3 : Nat} {s : σ} {pre : List Nat} {pv : Value} {W W' : World} (h : PS Y b1 bp b3 s pre pv W) (hb : Below W.heap.size W W') : PS Y b1 bp b3 s pre pv W' :=
  have st := hY.stable _ _ _ h.inv (Sm.of_below hb)
  ⟨st.1, boxed_below h.x1 hb, boxed_below h.x2 hb, boxed_below h.x3 hb, h.own.below hb, h.n1, h.n2, h.n3, fun e => h.q1 (st.2 _ e), fun e => h.q2 (st.2 _ e), fun e => h.q3 (st.2 _ e), fun k hk e => h.qp k hk (st.2 _ e)⟩
theorem Yld.Ok.prot_lt {σ : Type} {Y : Yld σ} (hY : Y.Ok) {s : σ} {W : World} {k : Nat} (h : Y.Inv s W) (hp : Y.Prot s W k) : k < W.heap.size := by
  obtain ⟨o, ho, _⟩ := hY.cells s W k h hp
  exact (Array.getElem?_eq_some_iff.1 ho).1
end Go.Proofs.YtlpnicfbgdfbnaaDoor

/- slices.SortFunc of at most twelve rows by how many columns they have: insertion. -/
namespace Go.Proofs.YtlpnicfbgdfbnaaDoor
open Go.RowKit Go.Shelf
attribute [local go_sem] Oper.semAt_some

/-! ### the plain law of insertion, over the keys alone -/
structure Up (K : Nat → Int) (i j : Nat) : Prop where
  pair : ∀ k, k + 1 ≤ i → k + 1 ≠ j → K k ≤ K (k + 1)
  over : 0 < j → j < i → K (j - 1) ≤ K (j + 1)
theorem Up.enter {K : Nat → Int} {i : Nat} (h : ∀ k, k + 1 < i → K k ≤ K (k + 1)) : Up K i i := ⟨fun k h1 h2 => h k (by omega), fun _ h => by omega⟩
theorem Up.leave {K : Nat → Int} {i j : Nat} (h : Up K i j) (hj : j = 0 ∨ K (j - 1) ≤ K j) : ∀ k, k + 1 < i + 1 → K k ≤ K (k + 1) := fun k hk => by
  by_cases e : k + 1 = j
  · subst e
    rcases hj with hj | hj
    · omega
    · simpa using hj
  · exact h.pair k (by omega) e
theorem Up.swap {K K' : Nat → Int} {i j : Nat} (h : Up K i j) (h0 : 0 < j) (hji : j ≤ i) (hlt : K j < K (j - 1)) (hK : ∀ k, K' k = if k = j then K (j - 1) else if k = j - 1 then K j else K k) : Up K' i (j - 1) := by
  refine ⟨fun k h1 h2 => ?_, fun g1 g2 => ?_⟩
  · rw [hK, hK]
    by_cases e1 : k = j
    · subst e1
      rw [if_pos rfl, if_neg (by omega), if_neg (by omega)]
      exact h.over h0 (by omega)
    · rw [if_neg e1]
      by_cases e2 : k = j - 1
      · rw [if_pos e2, if_pos (by omega)]
        omega
      · rw [if_neg e2, if_neg (by omega), if_neg (by omega)]
        exact h.pair k h1 (by omega)
  · rw [hK, hK]
    rw [if_neg (by omega), if_neg (by omega), if_pos (by omega)]
    have := h.pair (j - 1 - 1) (by omega) (by omega)
    rw [show j - 1 - 1 + 1 = j - 1 by omega] at this
    exact this

theorem sm_two (g i j q : Nat) (u v : Value) (W : World) : Sm (fun k => k ≠ g) W (((W.drewN q).setCell ⟨g, i, none⟩ u).setCell ⟨g, j, none⟩ v) :=
  have h0 : Sm (fun k => k ≠ g) W (W.drewN q) := ⟨rfl, rfl, rfl, Nat.le_refl _, fun _ _ _ => rfl⟩
  (h0.trans (Sm.setCell _ g i u (fun _ hk => hk))).trans (Sm.setCell _ g j v (fun _ hk => hk))

def popK (L : List Nat) (k : Nat) : Int := (pop (L.getD k 0) : Nat)

/-! ### walks -/
set_option maxRecDepth 20000 in
set_option maxHeartbeats 400000 in
theorem cmp64_any (x y : Nat) (hx : x < 256) (hy : y < 256) (w : World) :
    Calls Tryd.prog 64 #[.int .i64 (x : Nat), .int .i64 (y : Nat)] w fun e w' => e = .returned (.int .i64 ((pop x : Int) - (pop y : Int))) ∧ w' = w := by
  have p1 := pop_le x hx
  have p2 := pop_le y hy
  have hw : IntKind.i64.wrap ((pop x : Int) - (pop y : Int)) = (pop x : Int) - (pop y : Int) := IntWalk.i64_in _ (by omega)
  go_enter Tryd.func64, Tryd.ntmps64
  go_wp2_with (go_at_call 59; refine (count_any _ _ (by omega)).mono ?_; rintro e w1 ⟨rfl, rfl⟩)
  go_ret
  exact ⟨rfl, rfl⟩

set_option maxRecDepth 20000 in
set_option maxHeartbeats 4000000 in
theorem isort_any (L : List Nat) (B g cap : Nat) (w : World) (ho : OwnI 3 B w (.slice (some ⟨g, 0, none⟩) L.length cap) (toI L)) (h64 : ∀ x ∈ L, x < 64) (h1 : 1 ≤ L.length) (h12 : L.length ≤ 12) :
    Calls Tryd.prog 89 #[.slice (some ⟨g, 0, none⟩) L.length cap, .int .i64 0, .int .i64 (L.length : Nat), .func (.func 64) #[] #[]] w fun e w' =>
      e = .returned (.tuple #[]) ∧ ∃ L' : List Nat, L'.Perm L ∧ (∀ k, k + 1 < L.length → popK L' k ≤ popK L' (k + 1)) ∧ OwnI 3 B w' (.slice (some ⟨g, 0, none⟩) L.length cap) (toI L') ∧ Sm (fun k => k ≠ g) w w' := by
  have HO := Lib.hid ho
  have H64 := Lib.hid h64
  clear ho h64
  go_enter Tryd.func89, Tryd.ntmps89
  go_wp2
  go_loopw [8] (fun ix wr => ∃ (i : Nat) (cur : List Nat), ix = .int .i64 i ∧ 1 ≤ i ∧ i ≤ L.length ∧ cur.Perm L ∧ (∀ k, k + 1 < i → popK cur k ≤ popK cur (k + 1)) ∧ OwnI 3 B wr (.slice (some ⟨g, 0, none⟩) L.length cap) (toI cur) ∧ Sm (fun k => k ≠ g) w wr) (fun ix _ => L.length - (intOf ix).toNat)
  case atStart => exact ⟨1, L, rfl, by omega, h1, List.Perm.refl _, fun k hk => by omega, HO.out, Sm.refl _ _⟩
  case round =>
    obtain ⟨i, cur0, rfl, hi1, hi, hperm0, hsort0, ho0, hs0⟩ := hrel
    by_cases hlt : i < L.length
    · have hii : (i : Int) < (L.length : Int) := by omega
      have HP0 := Lib.hid hperm0
      have HS0 := Lib.hid hsort0
      have HO0 := Lib.hid ho0
      have HW0 := Lib.hid hs0
      clear hperm0 hsort0 ho0 hs0
      go_upto_region 4 with (fail)
      go_loopw [9] (fun jx wq => ∃ (j : Nat) (cur : List Nat), jx = .int .i64 j ∧ j ≤ i ∧ cur.Perm L ∧ Up (popK cur) i j ∧ OwnI 3 B wq (.slice (some ⟨g, 0, none⟩) L.length cap) (toI cur) ∧ Sm (fun k => k ≠ g) w wq) (fun jx _ => (intOf jx).toNat)
      case atStart => exact ⟨i, cur0, rfl, Nat.le_refl _, HP0.out, Up.enter HS0.out, HO0.out, HW0.out⟩
      case round =>
        obtain ⟨j, cur, rfl, hji, hperm, hup, ho, hs⟩ := hrel
        have hcl := hperm.length_eq
        by_cases hj0 : 0 < j
        · have hj0i : (0 : Int) < (j : Int) := by omega
          have hdj : decide ((0 : Int) < (j : Int)) = true := by simp; omega
          have cj := ho.cellN j (by omega)
          have ck := ho.cellN (j - 1) (by omega)
          have fj := ho.frozenN j
          have fk := ho.frozenN (j - 1)
          have hx64 := H64.out _ (hperm.mem_iff.1 (List.getElem_mem (show j < cur.length by omega)))
          have hy64 := H64.out _ (hperm.mem_iff.1 (List.getElem_mem (show j - 1 < cur.length by omega)))
          have hpm := @List.set_set_perm _ cur j (j - 1) (by omega) (by omega)
          have hkj : popK cur j = (pop (cur[j]'(by omega)) : Nat) := by unfold popK; rw [getD_at (by omega)]
          have hkk : popK cur (j - 1) = (pop (cur[j - 1]'(by omega)) : Nat) := by unfold popK; rw [getD_at (by omega)]
          obtain ⟨x, hx⟩ : ∃ x, cur[j]'(by omega) = x := ⟨_, rfl⟩
          obtain ⟨y, hy⟩ : ∃ y, cur[j - 1]'(by omega) = y := ⟨_, rfl⟩
          rw [hx] at cj hx64 hpm hkj
          rw [hy] at ck hy64 hpm hkk
          have hjl : (j : Int) < (L.length : Int) := by omega
          have hwk : IntKind.i64.wrap ((j : Int) - 1) = ((j - 1 : Nat) : Int) := by rw [IntWalk.i64_in _ (by omega)]; omega
          have hjl2 : ((j - 1 : Nat) : Int) < (L.length : Int) := by omega
          have HPM := Lib.hid (hpm.trans hperm)
          have HO := Lib.hid ho
          have HW := Lib.hid hs
          have HUP := Lib.hid hup
          have HKJ := Lib.hid hkj
          have HKK := Lib.hid hkk
          have HCL := Lib.hid hcl
          have HPERM := Lib.hid hperm
          clear hx hy hpm ho hs hup hkj hkk hcl hperm
          by_cases hc : pop x < pop y
          · have hcd : decide ((pop x : Int) - (pop y : Int) < 0) = true := by simp; omega
            have hci : (pop x : Int) - (pop y : Int) < 0 := by omega
            go_upto_region 4 with (fail)
            go_quiet (first | (go_at_call 64; exact Calls.quiet_of_same (cmp64_any _ _ (by omega) (by omega) _)))
            go_upto_region 6 with (fail)
            go_region
            go_wp2
            refine ⟨⟨j - 1, (cur.set j y).set (j - 1) x, rfl, by omega, HPM.out, HUP.out.swap hj0 hji (by rw [HKJ.out, HKK.out]; omega) (fun k => ?_), ?_, ?_⟩, by simp [intOf]; omega⟩
            · have hl := HCL.out
              rw [HKJ.out, HKK.out]
              unfold popK
              rw [getD_set (by simp; omega), getD_set (by omega)]
              by_cases e1 : k = j
              · rw [if_pos e1, if_pos e1, if_neg (by omega)]
              · rw [if_neg e1, if_neg e1]
                by_cases e2 : k = j - 1
                · rw [if_pos e2, if_pos e2]
                · rw [if_neg e2, if_neg e2]
            · exact OwnI.storedN (OwnI.storedN (w := World.drewN _ _) HO.out j y) (j - 1) x
            · exact HW.out.trans (sm_two _ _ _ _ _ _ _)
          · have hcd : decide ((pop x : Int) - (pop y : Int) < 0) = false := by simp; omega
            have hci : ¬ (pop x : Int) - (pop y : Int) < 0 := by omega
            go_upto_region 4 with (fail)
            go_quiet (first | (go_at_call 64; exact Calls.quiet_of_same (cmp64_any _ _ (by omega) (by omega) _)))
            go_wp2
            refine ⟨⟨i + 1, cur, by push_cast; rfl, by omega, by omega, HPERM.out, HUP.out.leave (.inr (by rw [HKJ.out, HKK.out]; omega)), HO.out, HW.out.trans ⟨rfl, rfl, rfl, Nat.le_refl _, fun _ _ _ => rfl⟩⟩, by simp [intOf]; omega⟩
        · obtain rfl : j = 0 := by omega
          have hdj : decide ((0 : Int) < ((0 : Nat) : Int)) = false := by simp
          have HO := Lib.hid ho
          have HW := Lib.hid hs
          have HUP := Lib.hid hup
          have HPERM := Lib.hid hperm
          clear ho hs hup hperm hcl
          go_upto_region 4 with (fail)
          go_quiet (fail)
          go_wp2
          refine ⟨⟨i + 1, cur, by push_cast; rfl, by omega, by omega, HPERM.out, HUP.out.leave (.inl rfl), HO.out, HW.out.trans ⟨rfl, rfl, rfl, Nat.le_refl _, fun _ _ _ => rfl⟩⟩, by simp [intOf]; omega⟩
    · obtain rfl : i = L.length := by omega
      have HP0 := Lib.hid hperm0
      have HS0 := Lib.hid hsort0
      clear hperm0 hsort0
      go_wp2
      go_end0
      exact ⟨rfl, cur0, HP0.out, HS0.out, ho0, hs0⟩
end Go.Proofs.YtlpnicfbgdfbnaaDoor

/- slices.SortFunc of at most twelve rows. -/
namespace Go.Proofs.YtlpnicfbgdfbnaaDoor
open Go.RowKit Go.Shelf
attribute [local go_sem] Oper.semAt_some

set_option maxRecDepth 20000 in
set_option maxHeartbeats 400000 in
theorem len64_any (n : Nat) (hn : n < 13) (w : World) : Calls Tryd.prog 98 #[.int .u64 (n : Nat)] w fun e w' => (∃ m : Int, e = .returned (.int .i64 m)) ∧ w = w' := by
  match n, hn with
  | 0, _ | 1, _ | 2, _ | 3, _ | 4, _ | 5, _ | 6, _ | 7, _ | 8, _ | 9, _ | 10, _ | 11, _ | 12, _ =>
    go_enter Tryd.func98, Tryd.ntmps98
    go_wp2
    go_ret
    exact ⟨⟨_, rfl⟩, rfl⟩

set_option maxRecDepth 20000 in
set_option maxHeartbeats 400000 in
theorem blen_any (n : Nat) (hn : n < 13) (w : World) : Calls Tryd.prog 78 #[.int .u64 (n : Nat)] w fun e w' => (∃ m : Int, e = .returned (.int .i64 m)) ∧ w = w' := by
  go_enter Tryd.func78, Tryd.ntmps78
  go_wp2_with (go_at_call 98; refine (len64_any _ (by omega) _).mono ?_; rintro e w1 ⟨⟨m, rfl⟩, rfl⟩)
  go_ret
  exact ⟨⟨_, rfl⟩, rfl⟩

def Sorted (L : List Nat) (B g cap : Nat) (w : World) (e : Ending) (w' : World) : Prop :=
  e = .returned (.tuple #[]) ∧ ∃ L' : List Nat, L'.Perm L ∧ (∀ k, k + 1 < L.length → popK L' k ≤ popK L' (k + 1)) ∧ OwnI 3 B w' (.slice (some ⟨g, 0, none⟩) L.length cap) (toI L') ∧ Sm (fun k => k ≠ g) w w'

set_option maxRecDepth 20000 in
set_option maxHeartbeats 1000000 in
theorem pdq_any (L : List Nat) (B g cap : Nat) (m : Int) (w : World) (ho : OwnI 3 B w (.slice (some ⟨g, 0, none⟩) L.length cap) (toI L)) (h64 : ∀ x ∈ L, x < 64) (h1 : 1 ≤ L.length) (h12 : L.length ≤ 12) :
    Calls Tryd.prog 77 #[.slice (some ⟨g, 0, none⟩) L.length cap, .int .i64 0, .int .i64 (L.length : Nat), .int .i64 m, .func (.func 64) #[] #[]] w (Sorted L B g cap w) := by
  have C := Lib.hid (isort_any L B g cap w ho h64 h1 h12)
  have hw : IntKind.i64.wrap (L.length : Int) = (L.length : Int) := IntWalk.i64_in _ (by omega)
  have hle : (L.length : Int) ≤ 12 := by omega
  clear ho h64
  go_enter Tryd.func77, Tryd.ntmps77
  go_wp2
  go_loopw [1, 2] (fun a b wr => a = .int .i64 0 ∧ b = .int .i64 (L.length : Nat) ∧ wr = w) (fun _ _ _ => 0)
  case atStart => exact ⟨rfl, rfl, rfl⟩
  case round =>
    obtain ⟨rfl, rfl, rfl⟩ := hrel
    go_wp2_with (go_at_call 89; refine C.out.mono ?_; rintro e w1 ⟨rfl, hs⟩; have HS := Lib.hid hs; clear hs)
    go_end0
    exact ⟨rfl, HS.out⟩

set_option maxRecDepth 20000 in
set_option maxHeartbeats 1000000 in
theorem sortFunc_any (L : List Nat) (B g cap : Nat) (w : World) (ho : OwnI 3 B w (.slice (some ⟨g, 0, none⟩) L.length cap) (toI L)) (h64 : ∀ x ∈ L, x < 64) (h1 : 1 ≤ L.length) (h12 : L.length ≤ 12) :
    Calls Tryd.prog 63 #[.slice (some ⟨g, 0, none⟩) L.length cap, .func (.func 64) #[] #[]] w (Sorted L B g cap w) := by
  have C := Lib.hid (fun m => pdq_any L B g cap m w ho h64 h1 h12)
  have hu : IntKind.u64.wrap (L.length : Int) = (L.length : Int) := by simp [IntKind.wrap, IntKind.bits, IntKind.signed]; omega
  clear ho h64
  go_enter Tryd.func63, Tryd.ntmps63
  go_wp2_with (first
    | (go_at_call 77; refine (C.out _).mono ?_; rintro e w2 ⟨rfl, hs⟩; have HS := Lib.hid hs; clear hs)
    | (go_at_call 78; refine (blen_any _ (by omega) _).mono ?_; rintro e w1 ⟨⟨m, rfl⟩, rfl⟩))
  go_end0
  exact ⟨rfl, HS.out⟩
end Go.Proofs.YtlpnicfbgdfbnaaDoor

/- ref.rising. -/
namespace Go.Proofs.YtlpnicfbgdfbnaaDoor
open Go.RowKit Go.Shelf
attribute [local go_sem] Oper.semAt_some

theorem run_appI {ty : TypeId} {B : Nat} {w : World} {v u : Value} {xs ys : List Int} (ho : OwnI 3 B w v xs) (hu : Ints w u ys) (hz : ∀ n c, u = .slice none n c → c = 0) (hB : B ≤ w.heap.size) (hx : xs.length ≤ 1000000) (hy : ys.length ≤ 1000000) :
    ∃ v' w', (Builtin.append_ #[22, 22] ty #[v, u]).run Tryd.prog w = .ok v' w' ∧ OwnI 3 B w' v' (xs ++ ys) ∧ w.grownBy w' v.ownBlock ∧ Below B w w' := by
  obtain ⟨i, hi1, hz0, hz1, hz2⟩ := info_parts info3
  obtain ⟨a, c, rfl, hl, hlc, hc⟩ := hu
  have hbel : ∀ w', w.grownBy w' v.ownBlock → Below B w w' := fun w' hg => ⟨hg.os, hg.tape, hg.output, hg.size, fun k hk => hg.block k (by omega) fun e => by have := (ho.lt k e.symm).1; omega⟩
  by_cases hn : ys = []
  · subst hn
    cases a with
    | none =>
      obtain rfl := hz _ _ rfl
      exact ⟨v, w, run_append_owned_none (P := Tryd.prog) w B 22 ty 3 i 1 Tryd.underlying22 hi1 v xs.length _ ho, by rw [List.append_nil]; exact ho, World.grownBy.refl _ _, Below.refl _ _⟩
    | some ad =>
      obtain ⟨u, w', hrun, h1, h2, _, _⟩ := run_append_own_at (P := Tryd.prog) w B 22 ty 3 i (.int .i64 0) 1 8 Tryd.underlying22 hi1 hz0 hz1 hz2 rfl (by decide) v xs.length _ ho ad 0 c [] rfl (fun j u h => by simp at h) (fun u h => by cases h) (by unfold maxLen; omega) (by omega) hB
      exact ⟨u, w', hrun, by rw [List.append_nil]; simpa [OwnI] using h1, h2, hbel _ h2⟩
  · obtain ⟨b, off, rfl, hbl, hcell⟩ := hc hn
    obtain ⟨u, w', hrun, h1, h2, _, _⟩ := run_append_own_at (P := Tryd.prog) w B 22 ty 3 i (.int .i64 0) 1 8 Tryd.underlying22 hi1 hz0 hz1 hz2 rfl (by decide) v xs.length _ ho ⟨b, off, none⟩ ys.length c (ys.map (Value.int .i64)) (by simp) (fun j u h => by
      rw [List.getElem?_map] at h
      cases hj : ys[j]? with
      | none => rw [hj] at h; cases h
      | some z =>
        rw [hj] at h
        simp at h
        obtain ⟨hjl, rfl⟩ := List.getElem?_eq_some_iff.1 hj
        rw [← h]
        have hadd : (⟨b, off, none⟩ : Addr).add j = ⟨b, off + j, none⟩ := by unfold Addr.add; split <;> simp_all
        rw [hadd]
        exact hcell j hjl) (fun u h => by obtain ⟨z, _, rfl⟩ := List.mem_map.1 h; rfl) (by unfold maxLen; omega) (by omega) hB
    refine ⟨u, w', hrun, ?_, h2, hbel _ h2⟩
    unfold OwnI
    rw [List.length_append, List.map_append]
    exact h1
theorem own_empty {B : Nat} (w : World) (hB : B ≤ w.heap.size) : OwnI 3 B (w.alloc (.cells #[] 3)) (.slice (some ⟨w.heap.size, 0, none⟩) 0 0) [] :=
  ⟨rfl, .inr ⟨w.heap.size, 0, #[], rfl, hB, heap_alloc_new w _, Nat.le_refl _, by decide, rfl, rfl⟩⟩

structure N65 (W0 : World) (vo v30 v37 : Value) (cur : List Nat) (p x : Nat) (d : Nat → Bool) (y : Nat → Value) (wx : World) : Prop where
  hb : Below W0.heap.size W0 wx
  h27 : d 0 = true → d 4 = false → OwnI 3 W0.heap.size wx (y 27) []
  h31 : d 4 = true → d 7 = false → OwnI 3 W0.heap.size wx (y 31) (toI (cur.take p))
  h33 : d 6 = true → d 7 = false → ∃ g, y 33 = .slice (some ⟨g, 0, none⟩) 1 1 ∧ Boxed wx g 3 (.int .i64 (x : Nat)) ∧ (d 0 = true → d 4 = false → (y 27).ownBlock ≠ some g)
  h34 : d 7 = true → d 11 = false → OwnI 3 W0.heap.size wx (y 34) (toI (cur.take p) ++ [(x : Int)])
  h38 : d 11 = true → OwnI 3 W0.heap.size wx (y 38) (toI (cur.take p ++ x :: cur.drop p))
  h3 : d 12 = true → y 3 = y 38
  h3a : d 12 = false → y 3 = vo
  h28 : d 1 = true → y 28 = vo
  h29 : d 2 = true → y 29 = .int .i64 (p : Nat)
  h30 : d 3 = true → y 30 = v30
  c3_1 : d 3 = true → d 1 = true
  c3_2 : d 3 = true → d 2 = true
  c4_0 : d 4 = true → d 0 = true
  c4_3 : d 4 = true → d 3 = true
  h32 : d 5 = true → y 32 = .int .i64 (x : Nat)
  c6_5 : d 6 = true → d 5 = true
  c7_4 : d 7 = true → d 4 = true
  c7_6 : d 7 = true → d 6 = true
  h35 : d 8 = true → y 35 = vo
  h36 : d 9 = true → y 36 = .int .i64 (p : Nat)
  h37 : d 10 = true → y 37 = v37
  c10_8 : d 10 = true → d 8 = true
  c10_9 : d 10 = true → d 9 = true
  c11_7 : d 11 = true → d 7 = true
  c11_10 : d 11 = true → d 10 = true
  c12_11 : d 12 = true → d 11 = true
theorem N65.all {W0 : World} {vo v30 v37 : Value} {cur : List Nat} {p x : Nat} {d : Nat → Bool} {y : Nat → Value} {wx : World} (h : N65 W0 vo v30 v37 cur p x d y wx) (h12 : d 12 = true) : d 1 = true :=
  h.c3_1 (h.c4_3 (h.c7_4 (h.c11_7 (h.c12_11 h12))))
theorem N65.all2 {W0 : World} {vo v30 v37 : Value} {cur : List Nat} {p x : Nat} {d : Nat → Bool} {y : Nat → Value} {wx : World} (h : N65 W0 vo v30 v37 cur p x d y wx) (h12 : d 12 = true) : d 8 = true :=
  h.c10_8 (h.c11_10 (h.c12_11 h12))

/-! ### the plain law -/
def insN (x : Nat) : List Nat → List Nat
  | [] => [x]
  | y :: ys => if y ≤ x then y :: insN x ys else x :: y :: ys
theorem insN_split (x : Nat) : ∀ (l : List Nat) (p : Nat), p ≤ l.length → (∀ k, k < p → l.getD k 0 ≤ x) → (p < l.length → x < l.getD p 0) → insN x l = l.take p ++ x :: l.drop p
  | [], p, hp, _, _ => by simp [insN]
  | y :: ys, 0, _, _, h => by
    have := h (by simp)
    simp at this
    rw [insN, if_neg (by omega)]; rfl
  | y :: ys, p + 1, hp, h1, h2 => by
    have h0 := h1 0 (by omega)
    simp at h0
    rw [insN, if_pos h0, insN_split x ys p (by simpa using hp) (fun k hk => by have := h1 (k + 1) (by omega); simpa using this) (fun hl => by have := h2 (by simpa using hl); simpa using this)]
    rfl
theorem insN_length (x : Nat) : ∀ l : List Nat, (insN x l).length = l.length + 1
  | [] => rfl
  | y :: ys => by rw [insN]; split <;> simp [insN_length x ys]
def riseN (l : List Nat) : List Nat := l.foldl (fun o x => insN x o) []
theorem riseN_snoc (l : List Nat) (k : Nat) (hk : k < l.length) : riseN (l.take (k + 1)) = insN l[k] (riseN (l.take k)) := by
  unfold riseN; rw [take_succ' l k hk, List.foldl_append]; rfl
theorem riseN_len : ∀ l : List Nat, (riseN l).length = l.length := by
  have : ∀ (l o : List Nat), (l.foldl (fun o x => insN x o) o).length = o.length + l.length := by
    intro l
    induction l with
    | nil => intro o; simp
    | cons x l ih => intro o; rw [List.foldl_cons, ih, insN_length, List.length_cons]; omega
  intro l
  unfold riseN
  rw [this]; simp
end Go.Proofs.YtlpnicfbgdfbnaaDoor

/- ref.rising: the walk. -/
namespace Go.Proofs.YtlpnicfbgdfbnaaDoor
open Go.RowKit Go.Shelf
attribute [local go_sem] Oper.semAt_some

def v37of (a : Option Addr) (L c p : Nat) : Value := .slice (if c = p then a else a.map fun ad => ⟨ad.block, p, none⟩) (L - p) (c - p)
theorem ints_drop {B : Nat} {w : World} {a : Option Addr} {c : Nat} {cur : List Nat} (ho : OwnI 3 B w (.slice a cur.length c) (toI cur)) (ha : (a = none ∧ cur.length = 0 ∧ c = 0) ∨ ∃ g, a = some ⟨g, 0, none⟩) (hLc : cur.length ≤ c) (hl : cur.length ≤ 12) (p : Nat) (hp : p ≤ cur.length) :
    Ints w (v37of a cur.length c p) (toI (cur.drop p)) := by
  have hlen : (toI (cur.drop p)).length = cur.length - p := by rw [toI_length, List.length_drop]
  refine ⟨if c = p then a else a.map fun ad => ⟨ad.block, p, none⟩, c - p, by rw [hlen]; rfl, by omega, by omega, fun hne => ?_⟩
  have hlt : p < cur.length := Nat.lt_of_not_le fun h => hne (List.eq_nil_of_length_eq_zero (by omega))
  rcases ha with ⟨_, h, _⟩ | ⟨g, rfl⟩
  · omega
  · rw [if_neg (by omega)]
    refine ⟨g, p, rfl, ho.blockEq.2, fun i hi => ?_⟩
    have := ho.cellN (p + i) (by omega)
    rw [this, toI_getElem]
    simp

set_option maxRecDepth 20000 in
set_option maxHeartbeats 8000000 in
theorem rising_any (v : Value) (xs : List Nat) (w : World) (hv : Ints w v (toI xs)) (h12 : xs.length ≤ 12) :
    Calls Tryd.prog 65 #[v] w fun e w' => ∃ v', e = .returned v' ∧ OwnI 3 w.heap.size w' v' (toI (riseN xs)) ∧ Below w.heap.size w w' := by
  obtain ⟨a0, c0, rfl, hlen, hcl, hc⟩ := hv.openN
  have HCC := Lib.hid hc
  clear hv hc
  go_enter Tryd.func65, Tryd.ntmps65
  go_wp2
  go_loopw [3, 9] (fun o ix wr => ∃ k : Nat, k ≤ xs.length ∧ ix = .int .i64 k ∧ OwnI 3 w.heap.size wr o (toI (riseN (xs.take k))) ∧ Below w.heap.size w wr) (fun _ i _ => xs.length - (intOf i).toNat)
  case atStart => exact ⟨0, Nat.zero_le _, rfl, OwnI.nil _ _ _, Below.refl _ _⟩
  case round =>
    obtain ⟨k, hk, rfl, ho, hb⟩ := hrel
    by_cases hlt : k < xs.length
    · obtain ⟨b, off, rfl, hbl, hcell⟩ := HCC.out (ne_nil_of_lt hlt)
      have hcx := (hb.cell (p := ⟨b, off + k, none⟩) hbl).trans (hcell k hlt)
      have HR := Lib.hid (riseN_snoc xs k hlt)
      have hcl2 := riseN_len (xs.take k)
      rw [List.length_take, Nat.min_eq_left (Nat.le_of_lt hlt)] at hcl2
      obtain ⟨x, hx⟩ : ∃ x, xs[k] = x := ⟨_, rfl⟩
      obtain ⟨cur, hcur⟩ : ∃ cur, riseN (xs.take k) = cur := ⟨_, rfl⟩
      rw [hx] at hcx HR
      rw [hcur] at HR ho hcl2
      obtain ⟨a, c, e3⟩ := ho.form
      rw [toI_length] at e3
      have ha : (a = none ∧ cur.length = 0 ∧ c = 0) ∨ ∃ g, a = some ⟨g, 0, none⟩ := by
        rcases ho.2 with ⟨h1, h2⟩ | ⟨g, cap, cu, h1, _⟩
        · rw [e3] at h1
          obtain ⟨q1, q2, q3⟩ := Value.slice.inj h1
          exact .inl ⟨q1, by omega, by omega⟩
        · rw [e3] at h1
          obtain ⟨q1, _⟩ := Value.slice.inj h1
          exact .inr ⟨g, q1⟩
      have hLc : cur.length ≤ c := by
        obtain ⟨a', c', q1, g1, g2, _⟩ := (ho.ints (by rw [toI_length]; omega)).openN
        rw [e3] at q1
        obtain ⟨_, _, rfl⟩ := Value.slice.inj q1
        exact g2
      subst e3
      have hL12 : cur.length ≤ 12 := by omega
      have HT := Lib.hid (fun p (hp : p ≤ cur.length) => (show Ints wr (.slice a p c) (toI (cur.take p)) by
        have := ints_take (w := wr) (a := a) (xs := toI cur) (c := c) (n := p) (by rw [toI_length]; exact ho.ints (by rw [toI_length]; omega)) (by rw [toI_length]; exact hp)
        rwa [toI_take] at this))
      have HD := Lib.hid (fun p (hp : p ≤ cur.length) => ints_drop ho ha hLc hL12 p hp)
      have hZ : ∀ n c', Value.slice a n c' = .slice none n c' → c = 0 := fun n c' h => by
        obtain ⟨q1, _⟩ := Value.slice.inj h
        rcases ha with ⟨_, _, h⟩ | ⟨g, h⟩
        · exact h
        · rw [h] at q1; cases q1
      have HZ := Lib.hid hZ
      have HO := Lib.hid ho
      have HB := Lib.hid hb
      obtain ⟨L, hL⟩ : ∃ L, cur.length = L := ⟨_, rfl⟩
      have HL := Lib.hid hL
      rw [hL] at HO hLc ha hL12 HT HD ⊢
      clear hx hcur ho hb hcell hcl2 hL hZ
      go_upto_region 6 with (fail)
      go_loopw [6] (fun ix wq => ∃ p : Nat, p ≤ L ∧ ix = .int .i64 p ∧ wq = wr ∧ ∀ i, i < p → cur.getD i 0 ≤ x) (fun ix _ => L - (intOf ix).toNat)
      case atStart => exact ⟨0, Nat.zero_le _, rfl, rfl, fun i h => by omega⟩
      case round =>
        obtain ⟨p, hp, rfl, hw, hbefore⟩ := hrel
        have hw' := hw.symm
        subst hw'
        clear hw
        have HBF := Lib.hid hbefore
        clear hbefore
        have HI30 := Lib.hid (HT.out p hp)
        have HI37 := Lib.hid (HD.out p hp)
        have hz30 : ∀ n c', Value.slice a p c = .slice none n c' → c' = 0 := fun n c' h => by
          obtain ⟨q1, q2, q3⟩ := Value.slice.inj h
          rw [← q3]; exact HZ.out n c' (by rw [q1])
        have hz37 : ∀ n c', v37of a L c p = .slice none n c' → c' = 0 := fun n c' h => by
          obtain ⟨q1, q2, q3⟩ := Value.slice.inj h
          have : a = none := by
            by_cases e : c = p
            · rw [if_pos e] at q1; exact q1
            · rw [if_neg e] at q1
              cases a with
              | none => rfl
              | some ad => cases q1
          have := HZ.out n c' (by rw [this])
          omega
        have HZ30 := Lib.hid hz30
        have HZ37 := Lib.hid hz37
        have hpL : (p : Int) ≤ (L : Int) := by omega
        have hpc : (p : Int) ≤ (c : Int) := by omega
        have hLci : (L : Int) ≤ (c : Int) := by omega
        clear hz30 hz37
        by_cases hpl : p < L
        · have hpi : (p : Int) < (L : Int) := by omega
          have hLe := HL.out
          have hsome : ∃ g, a = some ⟨g, 0, none⟩ := by
            rcases ha with ⟨_, h, _⟩ | h
            · omega
            · exact h
          obtain ⟨g, hg⟩ := hsome
          subst hg
          have cp := HO.out.cellN p (by omega)
          have HGP := Lib.hid (getD_at (show p < cur.length by omega))
          obtain ⟨z, hz⟩ : ∃ z, cur[p]'(by omega) = z := ⟨_, rfl⟩
          rw [hz] at cp HGP
          clear hz hLe
          by_cases hzx : z ≤ x
          · have hzi : (z : Int) ≤ (x : Int) := by omega
            have hw1 : IntKind.i64.wrap ((p : Int) + 1) = (p : Int) + 1 := IntWalk.i64_in _ (by omega)
            clear ha
            go_wp2
            go_roundw
            case rel =>
              refine ⟨p + 1, by omega, by go_num, trivial, fun i hi => ?_⟩
              by_cases e : i = p
              · subst e; rw [HGP.out]; exact hzx
              · exact HBF.out i (by omega)
            case measure => simp [intOf]; omega
          · have hzi : decide ((z : Int) ≤ (x : Int)) = false := by simp; omega
            have hzi2 : ¬ (z : Int) ≤ (x : Int) := by omega
            have HA := Lib.hid ha
            clear ha
            go_upto_region 8 with (fail)
            have ha := HA.out
            have hz30 := HZ30.out
            have hz37 := HZ37.out
            generalize (some (⟨g, 0, none⟩ : Addr)) = a at *
            have hstop : p < L → x < cur.getD p 0 := fun _ => by rw [HGP.out]; omega
            obtain ⟨W0, hW0⟩ : ∃ W0, wr.drew = W0 := ⟨_, rfl⟩
            have hs0 : W0.heap.size = wr.heap.size := by rw [← hW0]; rfl
            have H30 := Lib.hid (show Ints W0 (.slice a p c) (toI (cur.take p)) by rw [← hW0]; exact HI30.out)
            have H37 := Lib.hid (show Ints W0 (v37of a L c p) (toI (cur.drop p)) by rw [← hW0]; exact HI37.out)
            have HBW := Lib.hid (show Below w.heap.size w W0 by rw [← hW0]; exact HB.out.drew)
            have H0 := Lib.hid hW0
            clear hW0
            refine wp_region_sched (by kernel_rfl) [3, 27, 28, 29, 30, 31, 32, 33, 34, 35, 36, 37, 38] (by kernel_rfl) (N65 W0 (.slice a L c) (.slice a p c) (v37of a L c p) cur p x) ?_ ?_ ?_
            · rw [H0.out]
              refine ⟨Below.refl _ _, ?_, ?_, ?_, ?_, ?_, ?_, fun _ => rfl, ?_, ?_, ?_, ?_, ?_, ?_, ?_, ?_, ?_, ?_, ?_, ?_, ?_, ?_, ?_, ?_, ?_, ?_, ?_⟩ <;> exact fun h => by cases h
            · intro i' o ho d y wx hdi hdep hN
              match i', ho with
              | 0, ho =>
                obtain rfl := Option.some.inj ho
                refine rstep_value rfl (v := .slice (some ⟨wx.heap.size, 0, none⟩) 0 0) (w' := wx.alloc (.cells #[] 3)) ?_ ?_
                · simp only [hole, List.foldl_cons, List.foldl_nil, List.setIfInBounds_toArray, List.set_cons_zero, List.set_cons_succ]
                  go_simp
                · exact ⟨below_alloc hN.hb _, (fun _ _ => own_empty wx hN.hb.size), (fun h => by have h2 := hN.c4_0 h; rw [hdi] at h2; cases h2), (fun h h' => by obtain ⟨g, h1, h2, -⟩ := hN.h33 h h'; exact ⟨g, h1, h2.alloc _, fun _ _ e => by have hl := h2.lt; have e2 : some wx.heap.size = some g := e; cases e2; omega⟩), (fun h => by have h2 := hN.c4_0 (hN.c7_4 h); rw [hdi] at h2; cases h2), (fun h => by have h2 := hN.c4_0 (hN.c7_4 (hN.c11_7 h)); rw [hdi] at h2; cases h2), hN.h3, hN.h3a, hN.h28, hN.h29, hN.h30, hN.c3_1, hN.c3_2, (fun _ => rfl), hN.c4_3, hN.h32, hN.c6_5, hN.c7_4, hN.c7_6, hN.h35, hN.h36, hN.h37, hN.c10_8, hN.c10_9, hN.c11_7, hN.c11_10, hN.c12_11⟩
              | 1, ho =>
                obtain rfl := Option.some.inj ho
                have d12 : d 12 = false := Bool.eq_false_iff.2 fun h => by have h2 := hN.all h; rw [hdi] at h2; simp at h2
                have e3 := hN.h3a d12
                refine rstep_value rfl (v := .slice a L c) (w' := wx) ?_ ?_
                · simp only [hole, List.foldl_cons, List.foldl_nil, List.setIfInBounds_toArray, List.set_cons_zero, List.set_cons_succ]
                  go_simp
                · exact ⟨hN.hb, hN.h27, hN.h31, hN.h33, hN.h34, hN.h38, hN.h3, hN.h3a, (fun _ => rfl), hN.h29, hN.h30, (fun _ => rfl), hN.c3_2, hN.c4_0, hN.c4_3, hN.h32, hN.c6_5, hN.c7_4, hN.c7_6, hN.h35, hN.h36, hN.h37, hN.c10_8, hN.c10_9, hN.c11_7, hN.c11_10, hN.c12_11⟩
              | 2, ho =>
                obtain rfl := Option.some.inj ho
                refine rstep_value rfl (v := .int .i64 (p : Nat)) (w' := wx) ?_ ?_
                · simp only [hole, List.foldl_cons, List.foldl_nil, List.setIfInBounds_toArray, List.set_cons_zero, List.set_cons_succ]
                  go_simp
                · exact ⟨hN.hb, hN.h27, hN.h31, hN.h33, hN.h34, hN.h38, hN.h3, hN.h3a, hN.h28, (fun _ => rfl), hN.h30, hN.c3_1, (fun _ => rfl), hN.c4_0, hN.c4_3, hN.h32, hN.c6_5, hN.c7_4, hN.c7_6, hN.h35, hN.h36, hN.h37, hN.c10_8, hN.c10_9, hN.c11_7, hN.c11_10, hN.c12_11⟩
              | 3, ho =>
                obtain rfl := Option.some.inj ho
                have e28 := hN.h28 (hdep ⟨1, .data⟩ (by simp) rfl)
                have e29 := hN.h29 (hdep ⟨2, .data⟩ (by simp) rfl)
                refine rstep_value rfl (v := .slice a p c) (w' := wx) ?_ ?_
                · simp only [hole, List.foldl_cons, List.foldl_nil, List.setIfInBounds_toArray, List.set_cons_zero, List.set_cons_succ]
                  rcases ha with ⟨rfl, hL0, rfl⟩ | ⟨g, rfl⟩
                  · obtain rfl : p = 0 := by omega
                    subst hL0
                    go_simp
                  · go_simp
                · exact ⟨hN.hb, hN.h27, hN.h31, hN.h33, hN.h34, hN.h38, hN.h3, hN.h3a, hN.h28, hN.h29, (fun _ => rfl), (fun _ => hdep ⟨1, .data⟩ (by simp) rfl), (fun _ => hdep ⟨2, .data⟩ (by simp) rfl), hN.c4_0, (fun _ => rfl), hN.h32, hN.c6_5, hN.c7_4, hN.c7_6, hN.h35, hN.h36, hN.h37, hN.c10_8, hN.c10_9, hN.c11_7, hN.c11_10, hN.c12_11⟩
              | 4, ho =>
                obtain rfl := Option.some.inj ho
                have e30 := hN.h30 (hdep ⟨3, .data⟩ (by simp) rfl)
                have o27 := hN.h27 (hdep ⟨0, .data⟩ (by simp) rfl) hdi
                have hsz := hN.hb.size
                obtain ⟨v', w', hrun, r1, r2, r3⟩ := run_appI (ty := 22) o27 (H30.out.below hN.hb) hz30 (by omega) (by simp) (by rw [toI_length, List.length_take]; omega)
                refine rstep_value rfl (v := v') (w' := w') ?_ ?_
                · simp only [hole, List.foldl_cons, List.foldl_nil, List.setIfInBounds_toArray, List.set_cons_zero, List.set_cons_succ]
                  simp [execOp, resolve, invoke, builtin, Act.eval, e30, Result.andThen]
                  rw [hrun]
                · exact ⟨hN.hb.trans r3, (fun _ h => by simp at h), (fun _ _ => r1), (fun h h' => by obtain ⟨g, h1, h2, h3⟩ := hN.h33 h h'; exact ⟨g, h1, h2.kept r2 (Ne.symm (h3 (hdep ⟨0, .data⟩ (by simp) rfl) hdi)), fun _ h => by simp at h⟩), (fun h => by have h2 := hN.c7_4 h; rw [hdi] at h2; cases h2), (fun h => by have h2 := hN.c7_4 (hN.c11_7 h); rw [hdi] at h2; cases h2), hN.h3, hN.h3a, hN.h28, hN.h29, hN.h30, hN.c3_1, hN.c3_2, (fun _ => hdep ⟨0, .data⟩ (by simp) rfl), (fun _ => hdep ⟨3, .data⟩ (by simp) rfl), hN.h32, hN.c6_5, (fun _ => rfl), hN.c7_6, hN.h35, hN.h36, hN.h37, hN.c10_8, hN.c10_9, hN.c11_7, hN.c11_10, hN.c12_11⟩
              | 5, ho =>
                obtain rfl := Option.some.inj ho
                refine rstep_value rfl (v := .int .i64 (x : Nat)) (w' := wx) ?_ ?_
                · simp only [hole, List.foldl_cons, List.foldl_nil, List.setIfInBounds_toArray, List.set_cons_zero, List.set_cons_succ]
                  go_simp
                · exact ⟨hN.hb, hN.h27, hN.h31, hN.h33, hN.h34, hN.h38, hN.h3, hN.h3a, hN.h28, hN.h29, hN.h30, hN.c3_1, hN.c3_2, hN.c4_0, hN.c4_3, (fun _ => rfl), (fun _ => rfl), hN.c7_4, hN.c7_6, hN.h35, hN.h36, hN.h37, hN.c10_8, hN.c10_9, hN.c11_7, hN.c11_10, hN.c12_11⟩
              | 6, ho =>
                obtain rfl := Option.some.inj ho
                have e32 := hN.h32 (hdep ⟨5, .data⟩ (by simp) rfl)
                refine rstep_value rfl (v := .slice (some ⟨wx.heap.size, 0, none⟩) 1 1) (w' := wx.alloc (.cells #[.int .i64 (x : Nat)] 3)) ?_ ?_
                · simp only [hole, List.foldl_cons, List.foldl_nil, List.setIfInBounds_toArray, List.set_cons_zero, List.set_cons_succ]
                  go_simp
                · exact ⟨below_alloc hN.hb _, (fun h h' => (hN.h27 h h').alloc _), (fun h h' => (hN.h31 h h').alloc _), (fun _ _ => ⟨_, rfl, Boxed.new _ _ _, fun h h' e => by have := ((hN.h27 h h').lt _ e).2; omega⟩), (fun h => by have h2 := hN.c7_6 h; rw [hdi] at h2; cases h2), (fun h => by have h2 := hN.c7_6 (hN.c11_7 h); rw [hdi] at h2; cases h2), hN.h3, hN.h3a, hN.h28, hN.h29, hN.h30, hN.c3_1, hN.c3_2, hN.c4_0, hN.c4_3, hN.h32, (fun _ => hdep ⟨5, .data⟩ (by simp) rfl), hN.c7_4, (fun _ => rfl), hN.h35, hN.h36, hN.h37, hN.c10_8, hN.c10_9, hN.c11_7, hN.c11_10, hN.c12_11⟩
              | 7, ho =>
                obtain rfl := Option.some.inj ho
                have o31 := hN.h31 (hdep ⟨4, .data⟩ (by simp) rfl) hdi
                obtain ⟨g, e33, xg, -⟩ := hN.h33 (hdep ⟨6, .data⟩ (by simp) rfl) hdi
                have hsz := hN.hb.size
                obtain ⟨v', w', hrun, r1, r2, r3⟩ := run_app1 (P := Tryd.prog) (t := 22) (ty := 22) Tryd.underlying22 info3 o31 (ad := ⟨g, 0, none⟩) (c := 1) xg.cell (by rw [toI_length, List.length_take]; omega) hsz
                refine rstep_value rfl (v := v') (w' := w') ?_ ?_
                · simp only [hole, List.foldl_cons, List.foldl_nil, List.setIfInBounds_toArray, List.set_cons_zero, List.set_cons_succ]
                  simp [execOp, resolve, invoke, builtin, Act.eval, e33, Result.andThen]
                  rw [hrun]
                · exact ⟨hN.hb.trans r3, (fun _ h => by have h2 := hdep ⟨4, .data⟩ (by simp) rfl; rw [show d 4 = false from h] at h2; cases h2), (fun _ h => by simp at h), (fun _ h => by simp at h), (fun _ _ => r1), (fun h => by have h2 := hN.c11_7 h; rw [hdi] at h2; cases h2), hN.h3, hN.h3a, hN.h28, hN.h29, hN.h30, hN.c3_1, hN.c3_2, hN.c4_0, hN.c4_3, hN.h32, hN.c6_5, (fun _ => hdep ⟨4, .data⟩ (by simp) rfl), (fun _ => hdep ⟨6, .data⟩ (by simp) rfl), hN.h35, hN.h36, hN.h37, hN.c10_8, hN.c10_9, (fun _ => rfl), hN.c11_10, hN.c12_11⟩
              | 8, ho =>
                obtain rfl := Option.some.inj ho
                have d12 : d 12 = false := Bool.eq_false_iff.2 fun h => by have h2 := hN.all2 h; rw [hdi] at h2; simp at h2
                have e3 := hN.h3a d12
                refine rstep_value rfl (v := .slice a L c) (w' := wx) ?_ ?_
                · simp only [hole, List.foldl_cons, List.foldl_nil, List.setIfInBounds_toArray, List.set_cons_zero, List.set_cons_succ]
                  go_simp
                · exact ⟨hN.hb, hN.h27, hN.h31, hN.h33, hN.h34, hN.h38, hN.h3, hN.h3a, hN.h28, hN.h29, hN.h30, hN.c3_1, hN.c3_2, hN.c4_0, hN.c4_3, hN.h32, hN.c6_5, hN.c7_4, hN.c7_6, (fun _ => rfl), hN.h36, hN.h37, (fun _ => rfl), hN.c10_9, hN.c11_7, hN.c11_10, hN.c12_11⟩
              | 9, ho =>
                obtain rfl := Option.some.inj ho
                refine rstep_value rfl (v := .int .i64 (p : Nat)) (w' := wx) ?_ ?_
                · simp only [hole, List.foldl_cons, List.foldl_nil, List.setIfInBounds_toArray, List.set_cons_zero, List.set_cons_succ]
                  go_simp
                · exact ⟨hN.hb, hN.h27, hN.h31, hN.h33, hN.h34, hN.h38, hN.h3, hN.h3a, hN.h28, hN.h29, hN.h30, hN.c3_1, hN.c3_2, hN.c4_0, hN.c4_3, hN.h32, hN.c6_5, hN.c7_4, hN.c7_6, hN.h35, (fun _ => rfl), hN.h37, hN.c10_8, (fun _ => rfl), hN.c11_7, hN.c11_10, hN.c12_11⟩
              | 10, ho =>
                obtain rfl := Option.some.inj ho
                have e35 := hN.h35 (hdep ⟨8, .data⟩ (by simp) rfl)
                have e36 := hN.h36 (hdep ⟨9, .data⟩ (by simp) rfl)
                refine rstep_value rfl (v := v37of a L c p) (w' := wx) ?_ ?_
                · simp only [hole, List.foldl_cons, List.foldl_nil, List.setIfInBounds_toArray, List.set_cons_zero, List.set_cons_succ]
                  unfold v37of
                  rcases ha with ⟨rfl, hL0, rfl⟩ | ⟨g, rfl⟩
                  · obtain rfl : p = 0 := by omega
                    subst hL0
                    go_simp
                  · by_cases hcp : c = p
                    · subst hcp
                      go_simp
                    · have hcp2 : ¬ c - p = 0 := by omega
                      go_simp
                · exact ⟨hN.hb, hN.h27, hN.h31, hN.h33, hN.h34, hN.h38, hN.h3, hN.h3a, hN.h28, hN.h29, hN.h30, hN.c3_1, hN.c3_2, hN.c4_0, hN.c4_3, hN.h32, hN.c6_5, hN.c7_4, hN.c7_6, hN.h35, hN.h36, (fun _ => rfl), (fun _ => hdep ⟨8, .data⟩ (by simp) rfl), (fun _ => hdep ⟨9, .data⟩ (by simp) rfl), hN.c11_7, (fun _ => rfl), hN.c12_11⟩
              | 11, ho =>
                obtain rfl := Option.some.inj ho
                have e37 := hN.h37 (hdep ⟨10, .data⟩ (by simp) rfl)
                have o34 := hN.h34 (hdep ⟨7, .data⟩ (by simp) rfl) hdi
                have hsz := hN.hb.size
                obtain ⟨v', w', hrun, r1, r2, r3⟩ := run_appI (ty := 22) o34 (H37.out.below hN.hb) hz37 hsz (by have h9 := List.length_take_le p cur; rw [List.length_append, toI_length]; simp only [List.length_cons, List.length_nil]; omega) (by have h8 := HL.out; rw [toI_length, List.length_drop]; omega)
                refine rstep_value rfl (v := v') (w' := w') ?_ ?_
                · simp only [hole, List.foldl_cons, List.foldl_nil, List.setIfInBounds_toArray, List.set_cons_zero, List.set_cons_succ]
                  simp [execOp, resolve, invoke, builtin, Act.eval, e37, Result.andThen]
                  rw [hrun]
                · exact ⟨hN.hb.trans r3, (fun _ h => by have h2 := hN.c7_4 (hdep ⟨7, .data⟩ (by simp) rfl); rw [show d 4 = false from h] at h2; cases h2), (fun _ h => by have h2 := hdep ⟨7, .data⟩ (by simp) rfl; rw [show d 7 = false from h] at h2; cases h2), (fun _ h => by have h2 := hdep ⟨7, .data⟩ (by simp) rfl; rw [show d 7 = false from h] at h2; cases h2), (fun _ h => by simp at h), (fun _ => by rw [toI_append]; have := r1; rw [List.append_assoc] at this; exact this), (fun h => by have h2 := hN.c12_11 h; rw [hdi] at h2; cases h2), hN.h3a, hN.h28, hN.h29, hN.h30, hN.c3_1, hN.c3_2, hN.c4_0, hN.c4_3, hN.h32, hN.c6_5, hN.c7_4, hN.c7_6, hN.h35, hN.h36, hN.h37, hN.c10_8, hN.c10_9, (fun _ => hdep ⟨7, .data⟩ (by simp) rfl), (fun _ => hdep ⟨10, .data⟩ (by simp) rfl), (fun _ => rfl)⟩
              | 12, ho =>
                obtain rfl := Option.some.inj ho
                refine rstep_value rfl (v := y 38) (w' := wx) ?_ ?_
                · simp only [hole, List.foldl_cons, List.foldl_nil, List.setIfInBounds_toArray, List.set_cons_zero, List.set_cons_succ]
                  go_simp
                · exact ⟨hN.hb, hN.h27, hN.h31, hN.h33, hN.h34, hN.h38, (fun _ => rfl), (fun h => by simp at h), hN.h28, hN.h29, hN.h30, hN.c3_1, hN.c3_2, hN.c4_0, hN.c4_3, hN.h32, hN.c6_5, hN.c7_4, hN.c7_6, hN.h35, hN.h36, hN.h37, hN.c10_8, hN.c10_9, hN.c11_7, hN.c11_10, (fun _ => hdep ⟨11, .data⟩ (by simp) rfl)⟩
            · intro d y wx hd hN
              have e28 := hN.h28 (hd 1 (by simp))
              have e29 := hN.h29 (hd 2 (by simp))
              have e30 := hN.h30 (hd 3 (by simp))
              have e32 := hN.h32 (hd 5 (by simp))
              have e35 := hN.h35 (hd 8 (by simp))
              have e36 := hN.h36 (hd 9 (by simp))
              have e37 := hN.h37 (hd 10 (by simp))
              have e3 := hN.h3 (hd 12 (by simp))
              have o38 := hN.h38 (hd 11 (by simp))
              have hb38 := hN.hb
              clear hN
              simp only [hole, List.foldl_cons, List.foldl_nil, List.setIfInBounds_toArray, List.set_cons_zero, List.set_cons_succ, e3, e28, e29, e30, e32, e35, e36, e37]
              clear e3 e28 e29 e30 e32 e35 e36 e37
              have HO38 := Lib.hid o38
              have HB38 := Lib.hid hb38
              clear o38 hb38
              go_wp2
              have h1 := HBW.out.size
              refine ⟨⟨k + 1, by omega, by push_cast; rfl, ?_, HBW.out.trans (HB38.out.mono h1)⟩, by simp [intOf]; omega⟩
              rw [HR.out, insN_split x cur p (by have := HL.out; omega) HBF.out (fun h => hstop (by have := HL.out; omega))]
              exact HO38.out.mono h1
        · have hpi : ¬ (p : Int) < (L : Int) := by omega
          have HA := Lib.hid ha
          clear ha
          go_upto_region 8 with (fail)
          have ha := HA.out
          have hz30 := HZ30.out
          have hz37 := HZ37.out
          have hstop : p < L → x < cur.getD p 0 := fun h => absurd h hpl
          obtain ⟨W0, hW0⟩ : ∃ W0, wr.drew = W0 := ⟨_, rfl⟩
          have hs0 : W0.heap.size = wr.heap.size := by rw [← hW0]; rfl
          have H30 := Lib.hid (show Ints W0 (.slice a p c) (toI (cur.take p)) by rw [← hW0]; exact HI30.out)
          have H37 := Lib.hid (show Ints W0 (v37of a L c p) (toI (cur.drop p)) by rw [← hW0]; exact HI37.out)
          have HBW := Lib.hid (show Below w.heap.size w W0 by rw [← hW0]; exact HB.out.drew)
          have H0 := Lib.hid hW0
          clear hW0
          refine wp_region_sched (by kernel_rfl) [3, 27, 28, 29, 30, 31, 32, 33, 34, 35, 36, 37, 38] (by kernel_rfl) (N65 W0 (.slice a L c) (.slice a p c) (v37of a L c p) cur p x) ?_ ?_ ?_
          · rw [H0.out]
            refine ⟨Below.refl _ _, ?_, ?_, ?_, ?_, ?_, ?_, fun _ => rfl, ?_, ?_, ?_, ?_, ?_, ?_, ?_, ?_, ?_, ?_, ?_, ?_, ?_, ?_, ?_, ?_, ?_, ?_, ?_⟩ <;> exact fun h => by cases h
          · intro i' o ho d y wx hdi hdep hN
            match i', ho with
            | 0, ho =>
              obtain rfl := Option.some.inj ho
              refine rstep_value rfl (v := .slice (some ⟨wx.heap.size, 0, none⟩) 0 0) (w' := wx.alloc (.cells #[] 3)) ?_ ?_
              · simp only [hole, List.foldl_cons, List.foldl_nil, List.setIfInBounds_toArray, List.set_cons_zero, List.set_cons_succ]
                go_simp
              · exact ⟨below_alloc hN.hb _, (fun _ _ => own_empty wx hN.hb.size), (fun h => by have h2 := hN.c4_0 h; rw [hdi] at h2; cases h2), (fun h h' => by obtain ⟨g, h1, h2, -⟩ := hN.h33 h h'; exact ⟨g, h1, h2.alloc _, fun _ _ e => by have hl := h2.lt; have e2 : some wx.heap.size = some g := e; cases e2; omega⟩), (fun h => by have h2 := hN.c4_0 (hN.c7_4 h); rw [hdi] at h2; cases h2), (fun h => by have h2 := hN.c4_0 (hN.c7_4 (hN.c11_7 h)); rw [hdi] at h2; cases h2), hN.h3, hN.h3a, hN.h28, hN.h29, hN.h30, hN.c3_1, hN.c3_2, (fun _ => rfl), hN.c4_3, hN.h32, hN.c6_5, hN.c7_4, hN.c7_6, hN.h35, hN.h36, hN.h37, hN.c10_8, hN.c10_9, hN.c11_7, hN.c11_10, hN.c12_11⟩
            | 1, ho =>
              obtain rfl := Option.some.inj ho
              have d12 : d 12 = false := Bool.eq_false_iff.2 fun h => by have h2 := hN.all h; rw [hdi] at h2; simp at h2
              have e3 := hN.h3a d12
              refine rstep_value rfl (v := .slice a L c) (w' := wx) ?_ ?_
              · simp only [hole, List.foldl_cons, List.foldl_nil, List.setIfInBounds_toArray, List.set_cons_zero, List.set_cons_succ]
                go_simp
              · exact ⟨hN.hb, hN.h27, hN.h31, hN.h33, hN.h34, hN.h38, hN.h3, hN.h3a, (fun _ => rfl), hN.h29, hN.h30, (fun _ => rfl), hN.c3_2, hN.c4_0, hN.c4_3, hN.h32, hN.c6_5, hN.c7_4, hN.c7_6, hN.h35, hN.h36, hN.h37, hN.c10_8, hN.c10_9, hN.c11_7, hN.c11_10, hN.c12_11⟩
            | 2, ho =>
              obtain rfl := Option.some.inj ho
              refine rstep_value rfl (v := .int .i64 (p : Nat)) (w' := wx) ?_ ?_
              · simp only [hole, List.foldl_cons, List.foldl_nil, List.setIfInBounds_toArray, List.set_cons_zero, List.set_cons_succ]
                go_simp
              · exact ⟨hN.hb, hN.h27, hN.h31, hN.h33, hN.h34, hN.h38, hN.h3, hN.h3a, hN.h28, (fun _ => rfl), hN.h30, hN.c3_1, (fun _ => rfl), hN.c4_0, hN.c4_3, hN.h32, hN.c6_5, hN.c7_4, hN.c7_6, hN.h35, hN.h36, hN.h37, hN.c10_8, hN.c10_9, hN.c11_7, hN.c11_10, hN.c12_11⟩
            | 3, ho =>
              obtain rfl := Option.some.inj ho
              have e28 := hN.h28 (hdep ⟨1, .data⟩ (by simp) rfl)
              have e29 := hN.h29 (hdep ⟨2, .data⟩ (by simp) rfl)
              refine rstep_value rfl (v := .slice a p c) (w' := wx) ?_ ?_
              · simp only [hole, List.foldl_cons, List.foldl_nil, List.setIfInBounds_toArray, List.set_cons_zero, List.set_cons_succ]
                rcases ha with ⟨rfl, hL0, rfl⟩ | ⟨g, rfl⟩
                · obtain rfl : p = 0 := by omega
                  subst hL0
                  go_simp
                · go_simp
              · exact ⟨hN.hb, hN.h27, hN.h31, hN.h33, hN.h34, hN.h38, hN.h3, hN.h3a, hN.h28, hN.h29, (fun _ => rfl), (fun _ => hdep ⟨1, .data⟩ (by simp) rfl), (fun _ => hdep ⟨2, .data⟩ (by simp) rfl), hN.c4_0, (fun _ => rfl), hN.h32, hN.c6_5, hN.c7_4, hN.c7_6, hN.h35, hN.h36, hN.h37, hN.c10_8, hN.c10_9, hN.c11_7, hN.c11_10, hN.c12_11⟩
            | 4, ho =>
              obtain rfl := Option.some.inj ho
              have e30 := hN.h30 (hdep ⟨3, .data⟩ (by simp) rfl)
              have o27 := hN.h27 (hdep ⟨0, .data⟩ (by simp) rfl) hdi
              have hsz := hN.hb.size
              obtain ⟨v', w', hrun, r1, r2, r3⟩ := run_appI (ty := 22) o27 (H30.out.below hN.hb) hz30 (by omega) (by simp) (by rw [toI_length, List.length_take]; omega)
              refine rstep_value rfl (v := v') (w' := w') ?_ ?_
              · simp only [hole, List.foldl_cons, List.foldl_nil, List.setIfInBounds_toArray, List.set_cons_zero, List.set_cons_succ]
                simp [execOp, resolve, invoke, builtin, Act.eval, e30, Result.andThen]
                rw [hrun]
              · exact ⟨hN.hb.trans r3, (fun _ h => by simp at h), (fun _ _ => r1), (fun h h' => by obtain ⟨g, h1, h2, h3⟩ := hN.h33 h h'; exact ⟨g, h1, h2.kept r2 (Ne.symm (h3 (hdep ⟨0, .data⟩ (by simp) rfl) hdi)), fun _ h => by simp at h⟩), (fun h => by have h2 := hN.c7_4 h; rw [hdi] at h2; cases h2), (fun h => by have h2 := hN.c7_4 (hN.c11_7 h); rw [hdi] at h2; cases h2), hN.h3, hN.h3a, hN.h28, hN.h29, hN.h30, hN.c3_1, hN.c3_2, (fun _ => hdep ⟨0, .data⟩ (by simp) rfl), (fun _ => hdep ⟨3, .data⟩ (by simp) rfl), hN.h32, hN.c6_5, (fun _ => rfl), hN.c7_6, hN.h35, hN.h36, hN.h37, hN.c10_8, hN.c10_9, hN.c11_7, hN.c11_10, hN.c12_11⟩
            | 5, ho =>
              obtain rfl := Option.some.inj ho
              refine rstep_value rfl (v := .int .i64 (x : Nat)) (w' := wx) ?_ ?_
              · simp only [hole, List.foldl_cons, List.foldl_nil, List.setIfInBounds_toArray, List.set_cons_zero, List.set_cons_succ]
                go_simp
              · exact ⟨hN.hb, hN.h27, hN.h31, hN.h33, hN.h34, hN.h38, hN.h3, hN.h3a, hN.h28, hN.h29, hN.h30, hN.c3_1, hN.c3_2, hN.c4_0, hN.c4_3, (fun _ => rfl), (fun _ => rfl), hN.c7_4, hN.c7_6, hN.h35, hN.h36, hN.h37, hN.c10_8, hN.c10_9, hN.c11_7, hN.c11_10, hN.c12_11⟩
            | 6, ho =>
              obtain rfl := Option.some.inj ho
              have e32 := hN.h32 (hdep ⟨5, .data⟩ (by simp) rfl)
              refine rstep_value rfl (v := .slice (some ⟨wx.heap.size, 0, none⟩) 1 1) (w' := wx.alloc (.cells #[.int .i64 (x : Nat)] 3)) ?_ ?_
              · simp only [hole, List.foldl_cons, List.foldl_nil, List.setIfInBounds_toArray, List.set_cons_zero, List.set_cons_succ]
                go_simp
              · exact ⟨below_alloc hN.hb _, (fun h h' => (hN.h27 h h').alloc _), (fun h h' => (hN.h31 h h').alloc _), (fun _ _ => ⟨_, rfl, Boxed.new _ _ _, fun h h' e => by have := ((hN.h27 h h').lt _ e).2; omega⟩), (fun h => by have h2 := hN.c7_6 h; rw [hdi] at h2; cases h2), (fun h => by have h2 := hN.c7_6 (hN.c11_7 h); rw [hdi] at h2; cases h2), hN.h3, hN.h3a, hN.h28, hN.h29, hN.h30, hN.c3_1, hN.c3_2, hN.c4_0, hN.c4_3, hN.h32, (fun _ => hdep ⟨5, .data⟩ (by simp) rfl), hN.c7_4, (fun _ => rfl), hN.h35, hN.h36, hN.h37, hN.c10_8, hN.c10_9, hN.c11_7, hN.c11_10, hN.c12_11⟩
            | 7, ho =>
              obtain rfl := Option.some.inj ho
              have o31 := hN.h31 (hdep ⟨4, .data⟩ (by simp) rfl) hdi
              obtain ⟨g, e33, xg, -⟩ := hN.h33 (hdep ⟨6, .data⟩ (by simp) rfl) hdi
              have hsz := hN.hb.size
              obtain ⟨v', w', hrun, r1, r2, r3⟩ := run_app1 (P := Tryd.prog) (t := 22) (ty := 22) Tryd.underlying22 info3 o31 (ad := ⟨g, 0, none⟩) (c := 1) xg.cell (by rw [toI_length, List.length_take]; omega) hsz
              refine rstep_value rfl (v := v') (w' := w') ?_ ?_
              · simp only [hole, List.foldl_cons, List.foldl_nil, List.setIfInBounds_toArray, List.set_cons_zero, List.set_cons_succ]
                simp [execOp, resolve, invoke, builtin, Act.eval, e33, Result.andThen]
                rw [hrun]
              · exact ⟨hN.hb.trans r3, (fun _ h => by have h2 := hdep ⟨4, .data⟩ (by simp) rfl; rw [show d 4 = false from h] at h2; cases h2), (fun _ h => by simp at h), (fun _ h => by simp at h), (fun _ _ => r1), (fun h => by have h2 := hN.c11_7 h; rw [hdi] at h2; cases h2), hN.h3, hN.h3a, hN.h28, hN.h29, hN.h30, hN.c3_1, hN.c3_2, hN.c4_0, hN.c4_3, hN.h32, hN.c6_5, (fun _ => hdep ⟨4, .data⟩ (by simp) rfl), (fun _ => hdep ⟨6, .data⟩ (by simp) rfl), hN.h35, hN.h36, hN.h37, hN.c10_8, hN.c10_9, (fun _ => rfl), hN.c11_10, hN.c12_11⟩
            | 8, ho =>
              obtain rfl := Option.some.inj ho
              have d12 : d 12 = false := Bool.eq_false_iff.2 fun h => by have h2 := hN.all2 h; rw [hdi] at h2; simp at h2
              have e3 := hN.h3a d12
              refine rstep_value rfl (v := .slice a L c) (w' := wx) ?_ ?_
              · simp only [hole, List.foldl_cons, List.foldl_nil, List.setIfInBounds_toArray, List.set_cons_zero, List.set_cons_succ]
                go_simp
              · exact ⟨hN.hb, hN.h27, hN.h31, hN.h33, hN.h34, hN.h38, hN.h3, hN.h3a, hN.h28, hN.h29, hN.h30, hN.c3_1, hN.c3_2, hN.c4_0, hN.c4_3, hN.h32, hN.c6_5, hN.c7_4, hN.c7_6, (fun _ => rfl), hN.h36, hN.h37, (fun _ => rfl), hN.c10_9, hN.c11_7, hN.c11_10, hN.c12_11⟩
            | 9, ho =>
              obtain rfl := Option.some.inj ho
              refine rstep_value rfl (v := .int .i64 (p : Nat)) (w' := wx) ?_ ?_
              · simp only [hole, List.foldl_cons, List.foldl_nil, List.setIfInBounds_toArray, List.set_cons_zero, List.set_cons_succ]
                go_simp
              · exact ⟨hN.hb, hN.h27, hN.h31, hN.h33, hN.h34, hN.h38, hN.h3, hN.h3a, hN.h28, hN.h29, hN.h30, hN.c3_1, hN.c3_2, hN.c4_0, hN.c4_3, hN.h32, hN.c6_5, hN.c7_4, hN.c7_6, hN.h35, (fun _ => rfl), hN.h37, hN.c10_8, (fun _ => rfl), hN.c11_7, hN.c11_10, hN.c12_11⟩
            | 10, ho =>
              obtain rfl := Option.some.inj ho
              have e35 := hN.h35 (hdep ⟨8, .data⟩ (by simp) rfl)
              have e36 := hN.h36 (hdep ⟨9, .data⟩ (by simp) rfl)
              refine rstep_value rfl (v := v37of a L c p) (w' := wx) ?_ ?_
              · simp only [hole, List.foldl_cons, List.foldl_nil, List.setIfInBounds_toArray, List.set_cons_zero, List.set_cons_succ]
                unfold v37of
                rcases ha with ⟨rfl, hL0, rfl⟩ | ⟨g, rfl⟩
                · obtain rfl : p = 0 := by omega
                  subst hL0
                  go_simp
                · by_cases hcp : c = p
                  · subst hcp
                    go_simp
                  · have hcp2 : ¬ c - p = 0 := by omega
                    go_simp
              · exact ⟨hN.hb, hN.h27, hN.h31, hN.h33, hN.h34, hN.h38, hN.h3, hN.h3a, hN.h28, hN.h29, hN.h30, hN.c3_1, hN.c3_2, hN.c4_0, hN.c4_3, hN.h32, hN.c6_5, hN.c7_4, hN.c7_6, hN.h35, hN.h36, (fun _ => rfl), (fun _ => hdep ⟨8, .data⟩ (by simp) rfl), (fun _ => hdep ⟨9, .data⟩ (by simp) rfl), hN.c11_7, (fun _ => rfl), hN.c12_11⟩
            | 11, ho =>
              obtain rfl := Option.some.inj ho
              have e37 := hN.h37 (hdep ⟨10, .data⟩ (by simp) rfl)
              have o34 := hN.h34 (hdep ⟨7, .data⟩ (by simp) rfl) hdi
              have hsz := hN.hb.size
              obtain ⟨v', w', hrun, r1, r2, r3⟩ := run_appI (ty := 22) o34 (H37.out.below hN.hb) hz37 hsz (by have h9 := List.length_take_le p cur; rw [List.length_append, toI_length]; simp only [List.length_cons, List.length_nil]; omega) (by have h8 := HL.out; rw [toI_length, List.length_drop]; omega)
              refine rstep_value rfl (v := v') (w' := w') ?_ ?_
              · simp only [hole, List.foldl_cons, List.foldl_nil, List.setIfInBounds_toArray, List.set_cons_zero, List.set_cons_succ]
                simp [execOp, resolve, invoke, builtin, Act.eval, e37, Result.andThen]
                rw [hrun]
              · exact ⟨hN.hb.trans r3, (fun _ h => by have h2 := hN.c7_4 (hdep ⟨7, .data⟩ (by simp) rfl); rw [show d 4 = false from h] at h2; cases h2), (fun _ h => by have h2 := hdep ⟨7, .data⟩ (by simp) rfl; rw [show d 7 = false from h] at h2; cases h2), (fun _ h => by have h2 := hdep ⟨7, .data⟩ (by simp) rfl; rw [show d 7 = false from h] at h2; cases h2), (fun _ h => by simp at h), (fun _ => by rw [toI_append]; have := r1; rw [List.append_assoc] at this; exact this), (fun h => by have h2 := hN.c12_11 h; rw [hdi] at h2; cases h2), hN.h3a, hN.h28, hN.h29, hN.h30, hN.c3_1, hN.c3_2, hN.c4_0, hN.c4_3, hN.h32, hN.c6_5, hN.c7_4, hN.c7_6, hN.h35, hN.h36, hN.h37, hN.c10_8, hN.c10_9, (fun _ => hdep ⟨7, .data⟩ (by simp) rfl), (fun _ => hdep ⟨10, .data⟩ (by simp) rfl), (fun _ => rfl)⟩
            | 12, ho =>
              obtain rfl := Option.some.inj ho
              refine rstep_value rfl (v := y 38) (w' := wx) ?_ ?_
              · simp only [hole, List.foldl_cons, List.foldl_nil, List.setIfInBounds_toArray, List.set_cons_zero, List.set_cons_succ]
                go_simp
              · exact ⟨hN.hb, hN.h27, hN.h31, hN.h33, hN.h34, hN.h38, (fun _ => rfl), (fun h => by simp at h), hN.h28, hN.h29, hN.h30, hN.c3_1, hN.c3_2, hN.c4_0, hN.c4_3, hN.h32, hN.c6_5, hN.c7_4, hN.c7_6, hN.h35, hN.h36, hN.h37, hN.c10_8, hN.c10_9, hN.c11_7, hN.c11_10, (fun _ => hdep ⟨11, .data⟩ (by simp) rfl)⟩
          · intro d y wx hd hN
            have e28 := hN.h28 (hd 1 (by simp))
            have e29 := hN.h29 (hd 2 (by simp))
            have e30 := hN.h30 (hd 3 (by simp))
            have e32 := hN.h32 (hd 5 (by simp))
            have e35 := hN.h35 (hd 8 (by simp))
            have e36 := hN.h36 (hd 9 (by simp))
            have e37 := hN.h37 (hd 10 (by simp))
            have e3 := hN.h3 (hd 12 (by simp))
            have o38 := hN.h38 (hd 11 (by simp))
            have hb38 := hN.hb
            clear hN
            simp only [hole, List.foldl_cons, List.foldl_nil, List.setIfInBounds_toArray, List.set_cons_zero, List.set_cons_succ, e3, e28, e29, e30, e32, e35, e36, e37]
            clear e3 e28 e29 e30 e32 e35 e36 e37
            have HO38 := Lib.hid o38
            have HB38 := Lib.hid hb38
            clear o38 hb38
            go_wp2
            have h1 := HBW.out.size
            refine ⟨⟨k + 1, by omega, by push_cast; rfl, ?_, HBW.out.trans (HB38.out.mono h1)⟩, by simp [intOf]; omega⟩
            rw [HR.out, insN_split x cur p (by have := HL.out; omega) HBF.out (fun h => hstop (by have := HL.out; omega))]
            exact HO38.out.mono h1
    · obtain rfl : k = xs.length := by omega
      rw [List.take_length] at ho
      go_wp2
      go_ret
      exact ⟨_, rfl, ho, hb⟩
end Go.Proofs.YtlpnicfbgdfbnaaDoor
