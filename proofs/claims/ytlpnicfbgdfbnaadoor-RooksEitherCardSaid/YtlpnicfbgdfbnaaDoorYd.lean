/- A yield as a state machine over worlds; what a run of rooks.permutations keeps. -/
import Derived.Test.YtlpnicfbgdfbnaaDoorAp
namespace Go.Proofs.YtlpnicfbgdfbnaaDoor
open Go.RowKit

/-- All blocks of S are as they were. -/
structure Sm (S : Nat → Prop) (W W' : World) : Prop where
  os : W'.os = W.os
  tape : W'.tape = W.tape
  output : W'.output = W.output
  size : W.heap.size ≤ W'.heap.size
  block : ∀ k, S k → k < W.heap.size → W'.heap[k]? = W.heap[k]?

section
variable {S S' : Nat → Prop} {a b c W W' : World}
theorem Sm.refl (S : Nat → Prop) (W : World) : Sm S W W := ⟨rfl, rfl, rfl, Nat.le_refl _, fun _ _ _ => rfl⟩
theorem Sm.trans (h : Sm S a b) (k : Sm S b c) : Sm S a c :=
  ⟨k.os.trans h.os, k.tape.trans h.tape, k.output.trans h.output, Nat.le_trans h.size k.size, fun i hs hi => (k.block i hs (Nat.lt_of_lt_of_le hi h.size)).trans (h.block i hs hi)⟩
theorem Sm.mono (h : Sm S W W') (hs : ∀ k, k < W.heap.size → S' k → S k) : Sm S' W W' := ⟨h.os, h.tape, h.output, h.size, fun k hk hlt => h.block k (hs k hlt hk) hlt⟩
theorem Sm.of_below (h : Below W.heap.size W W') : Sm S W W' := ⟨h.os, h.tape, h.output, h.size, fun k _ hlt => h.block k hlt⟩
theorem Sm.alloc (S : Nat → Prop) (W : World) (o : Obj) : Sm S W (W.alloc o) := Sm.of_below ((Below.refl _ _).alloc (Nat.le_refl _) _)
theorem Sm.drew (S : Nat → Prop) (W : World) : Sm S W W.drew := Sm.of_below (Below.refl _ _).drew
theorem Sm.grown {row : Option Nat} (h : W.grownBy W' row) (hs : ∀ k, S k → some k ≠ row) : Sm S W W' := ⟨h.os, h.tape, h.output, h.size, fun k hk hlt => h.block k hlt (hs k hk)⟩
theorem Sm.setCell (W : World) (b i : Nat) (u : Value) (hs : ∀ k, S k → k ≠ b) : Sm S W (W.setCell ⟨b, i, none⟩ u) := Sm.grown (IsBufferSet W b i u) (fun k hk e => hs k hk (by cases e; rfl))
theorem Sm.boxed {b : Nat} {t : TypeId} {v : Value} (h : Sm S W W') (hx : Boxed W b t v) (hs : S b) : Boxed W' b t v := (h.block b hs hx.lt).trans hx
theorem Sm.own {e : TypeId} {B : Nat} {v : Value} {xs : List Int} (h : Sm S W W') (ho : OwnI e B W v xs) (hs : ∀ k, v.ownBlock = some k → S k) : OwnI e B W' v xs := by
  refine ⟨ho.1, ?_⟩
  rcases ho.2 with h2 | ⟨g, cap, cur, rfl, hg, hh, r⟩
  · exact .inl h2
  · exact .inr ⟨g, cap, cur, rfl, hg, (h.block g (hs g rfl) (Array.getElem?_eq_some_iff.1 hh).1).trans hh, r⟩
theorem Sm.keepsFrom {n0 : Nat} (h : Sm S W W') (hs : ∀ k o, n0 ≤ k → W.heap[k]? = some o → o.isCells = false → S k) : KeepsFrom n0 W W' :=
  ⟨h.size, fun k o hk ho hc => (h.block k (hs k o hk ho hc) (Array.getElem?_eq_some_iff.1 ho).1).trans ho⟩
theorem Sm.ext {n0 B : Nat} (h : LoopExt n0 B W W') (hs : ∀ k, S k → k ≠ B ∧ (k < n0 ∨ ∃ o, W.heap[k]? = some o ∧ o.isCells = true)) : Sm S W W' :=
  ⟨h.os, h.tape, h.output, h.size, fun k hk hlt => by
    obtain ⟨h1, h2⟩ := hs k hk
    have hget : W.heap[k]? = some W.heap[k] := Array.getElem?_eq_getElem hlt
    rw [hget]
    refine h.block k _ hget h1 ?_
    rcases h2 with h2 | ⟨o, ho, hc⟩
    · exact .inl h2
    · rw [hget] at ho; cases ho; exact .inr hc⟩
end

structure Yld (σ : Type) where
  N : Nat
  n : Nat
  fy : FuncId
  caps : Array Value
  step : σ → List Nat → σ × Bool
  Inv : σ → World → Prop
  Prot : σ → World → Nat → Prop

structure Yld.Ok {σ : Type} (Y : Yld σ) : Prop where
  enter : ∀ args W, (callFunc Y.fy args).run Tryd.prog W = .ok (.enter Y.fy args) W
  tab : ∀ s W, Y.Inv s W → Tab W
  low : ∀ s W, Y.Inv s W → Y.N ≤ W.heap.size
  cells : ∀ s W k, Y.Inv s W → Y.Prot s W k → ∃ o, W.heap[k]? = some o ∧ o.isCells = true
  stable : ∀ s W W', Y.Inv s W → Sm (fun k => k < Y.N ∨ Y.Prot s W k) W W' → Y.Inv s W' ∧ ∀ k, Y.Prot s W' k → Y.Prot s W k
  call : ∀ s l v W, Y.Inv s W → l.length = Y.n → (∀ c ∈ l, c < 6) → Ints W v (toI l) → Calls Tryd.prog Y.fy (#[v] ++ Y.caps) W fun e W' =>
    e = .returned (.bool (Y.step s l).2) ∧ Y.Inv (Y.step s l).1 W' ∧ Sm (fun k => Y.N ≤ k) W W' ∧ (∀ k, Y.Prot (Y.step s l).1 W' k → Y.Prot s W k ∨ W.heap.size ≤ k)

section
variable {σ : Type} (Y : Yld σ) (b1 bp b3 : Nat)
/-- Where a run of permutations stands: the state, what has been placed. -/
structure PS (s : σ) (pre : List Nat) (pv : Value) (W : World) : Prop where
  inv : Y.Inv s W
  x1 : Boxed W b1 28 (.func (.func Y.fy) #[] Y.caps)
  x2 : Boxed W bp 22 pv
  x3 : Boxed W b3 36 (.func (.func 70) #[] #[.pointer (some ⟨b1, 0, none⟩), .pointer (some ⟨bp, 0, none⟩), .pointer (some ⟨b3, 0, none⟩)])
  own : OwnI 3 Y.N W pv (toI pre)
  n1 : Y.N ≤ b1
  n2 : Y.N ≤ bp
  n3 : Y.N ≤ b3
  q1 : ¬ Y.Prot s W b1
  q2 : ¬ Y.Prot s W bp
  q3 : ¬ Y.Prot s W b3
  qp : ∀ k, pv.ownBlock = some k → ¬ Y.Prot s W k

/-- What a call keeps beside the yield's own. -/
def KeptS (pv : Value) : Nat → Prop := fun k => Y.N ≤ k ∧ k ≠ bp ∧ some k ≠ pv.ownBlock

def WPost (r : σ × Bool) (s : σ) (pre : List Nat) (pv : Value) (W : World) (e : Ending) (W' : World) : Prop :=
  e = .returned (.bool r.2) ∧ Y.Inv r.1 W' ∧ Sm (KeptS Y bp pv) W W' ∧ (∀ k, Y.Prot r.1 W' k → Y.Prot s W k ∨ W.heap.size ≤ k) ∧
    (r.2 = true → ∃ pv', PS Y b1 bp b3 r.1 pre pv' W' ∧ (pv'.ownBlock = pv.ownBlock ∨ ∀ k, pv'.ownBlock = some k → W.heap.size ≤ k))
end

theorem PS.ne1 {σ : Type} {Y : Yld σ} {b1 bp b3 : Nat} {s : σ} {pre : List Nat} {pv : Value} {W : World} (h : PS Y b1 bp b3 s pre pv W) : some b1 ≠ pv.ownBlock := h.x1.not_row (by decide) h.own
theorem PS.ne2 {σ : Type} {Y : Yld σ} {b1 bp b3 : Nat} {s : σ} {pre : List Nat} {pv : Value} {W : World} (h : PS Y b1 bp b3 s pre pv W) : some bp ≠ pv.ownBlock := h.x2.not_row (by decide) h.own
theorem PS.ne3 {σ : Type} {Y : Yld σ} {b1 bp b3 : Nat} {s : σ} {pre : List Nat} {pv : Value} {W : World} (h : PS Y b1 bp b3 s pre pv W) : some b3 ≠ pv.ownBlock := h.x3.not_row (by decide) h.own
theorem Boxed.ne {W : World} {b b' : Nat} {t t' : TypeId} {u u' : Value} (h : Boxed W b t u) (h' : Boxed W b' t' u') (hne : t ≠ t') : b ≠ b' := by
  intro e; subst e
  have := h.symm.trans h'
  simp only [Option.some.injEq, Obj.cells.injEq] at this
  exact hne this.2.1

/-- A world that keeps every block that lay: the state stands. -/
theorem PS.below {σ : Type} {Y : Yld σ} (hY : Y.Ok) {b1 bp b3 : Nat} {s : σ} {pre : List Nat} {pv : Value} {W W' : World} (h : PS Y b1 bp b3 s pre pv W) (hb : Below W.heap.size W W') : PS Y b1 bp b3 s pre pv W' :=
  have st := hY.stable _ _ _ h.inv (Sm.of_below hb)
  ⟨st.1, boxed_below h.x1 hb, boxed_below h.x2 hb, boxed_below h.x3 hb, h.own.below hb, h.n1, h.n2, h.n3, fun e => h.q1 (st.2 _ e), fun e => h.q2 (st.2 _ e), fun e => h.q3 (st.2 _ e), fun k hk e => h.qp k hk (st.2 _ e)⟩
theorem Yld.Ok.prot_lt {σ : Type} {Y : Yld σ} (hY : Y.Ok) {s : σ} {W : World} {k : Nat} (h : Y.Inv s W) (hp : Y.Prot s W k) : k < W.heap.size := by
  obtain ⟨o, ho, _⟩ := hY.cells s W k h hp
  exact (Array.getElem?_eq_some_iff.1 ho).1
end Go.Proofs.YtlpnicfbgdfbnaaDoor
