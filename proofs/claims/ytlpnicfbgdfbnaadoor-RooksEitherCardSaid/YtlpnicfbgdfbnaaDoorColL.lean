/- THE LAW OF A RANGE OVER rooks.columns. -/
import Derived.Test.YtlpnicfbgdfbnaaDoorCol
import Derived.Shelf.Abstract
namespace Go.Proofs.YtlpnicfbgdfbnaaDoor
open Go.RowKit Go.Shelf
attribute [local go_sem] Oper.semAt_some

/-- What a loop over columns may turn between two rounds: the set's box B, and what is no cells from n0 on. -/
structure LoopExt (n0 B : Nat) (W W' : World) : Prop where
  os : W'.os = W.os
  tape : W'.tape = W.tape
  output : W'.output = W.output
  size : W.heap.size ≤ W'.heap.size
  block : ∀ (k : Nat) (o : Obj), W.heap[k]? = some o → k ≠ B → (k < n0 ∨ o.isCells = true) → W'.heap[k]? = some o

theorem LoopExt.alloc (n0 B : Nat) (W : World) (o : Obj) : LoopExt n0 B W (W.alloc o) :=
  ⟨rfl, rfl, rfl, by simp, fun k o' hk _ _ => (Below.heap_alloc W o k (Array.getElem?_eq_some_iff.1 hk).1).trans hk⟩
theorem LoopExt.trans {n0 B : Nat} {a b c : World} (h : LoopExt n0 B a b) (k : LoopExt n0 B b c) : LoopExt n0 B a c :=
  ⟨k.os.trans h.os, k.tape.trans h.tape, k.output.trans h.output, Nat.le_trans h.size k.size, fun i o hi hB hc => k.block i o (h.block i o hi hB hc) hB hc⟩
theorem LoopExt.putObj {n0 B : Nat} {W : World} {l : Nat} {o : Obj} (o' : Obj) (hl : W.heap[l]? = some o) (hn : n0 ≤ l) (ho : o.isCells = false) : LoopExt n0 B W (W.putObj l o') :=
  ⟨(grownBy_putObj' W l o').os, (grownBy_putObj' W l o').tape, (grownBy_putObj' W l o').output, (grownBy_putObj' W l o').size, fun k u hk _ hc => by
    have hne : k ≠ l := by
      intro e; subst e
      rw [hl] at hk; cases hk
      rcases hc with h | h
      · omega
      · rw [ho] at h; cases h
    exact (World.putObj_heap_other hne).trans hk⟩
theorem LoopExt.setCell (n0 B : Nat) (W : World) (v : Value) : LoopExt n0 B W (W.setCell ⟨B, 0, none⟩ v) :=
  ⟨rfl, rfl, rfl, by simp [World.setCell], fun k o hk hB _ => (Below.heap_setCell W ⟨B, 0, none⟩ v k hB).trans hk⟩

/-- How the body of a round may be left. -/
def colPost (n0 B : Nat) (I : Nat → World → Prop) (Ix : Code → World → Prop) (s : Nat) (W : World) : Exit → Act → World → Prop
  | .normal, _, W' => KeepsFrom n0 W W' ∧ BoxN W' B s ∧ I (nextS s) W'
  | .ret, _, W' => KeepsFrom n0 W W' ∧ Ix .ret W'
  | .exit id, _, W' => KeepsFrom n0 W W' ∧ Ix (.exit id) W'
  | .goto t, _, W' => KeepsFrom n0 W W' ∧ Ix (.goto t) W'
  | .panic _, _, _ => False
  | .outgrown, _, _ => False

theorem BoxN.putObj {W : World} {B s l : Nat} (h : BoxN W B s) (hne : B ≠ l) (o : Obj) : BoxN (W.putObj l o) B s := (World.putObj_heap_other hne).trans h
theorem BoxN.alloc {W : World} {B s : Nat} (h : BoxN W B s) (o : Obj) : BoxN (W.alloc o) B s := (Below.heap_alloc W o B (Array.getElem?_eq_some_iff.1 h).1).trans h
theorem BoxN.lt {W : World} {B s : Nat} (h : BoxN W B s) : B < W.heap.size := (Array.getElem?_eq_some_iff.1 h).1
theorem BoxN.set {W : World} {B s : Nat} (h : BoxN W B s) (t : Nat) : BoxN (W.setCell ⟨B, 0, none⟩ (.int .i64 (t : Int))) B t := one_setCell h

theorem wpIn_cols {n : Nat} {g : Operand} {p : Tmp} {assign body : Code} {Q : Exit → Act → World → Prop} {a : Act} {w : World} (hn : 3 ≤ n) (B s0 : Nat)
    (hg : a.eval g = .func (.func 72) #[] #[.pointer (some ⟨B, 0, none⟩)]) (hbx : BoxN w B s0) (hs0 : s0 < 256)
    (I : Nat → World → Prop) (Ix : Code → World → Prop) (hT : ∀ s W, I s W → Tab W)
    (hI : ∀ s W W', I s W → LoopExt w.heap.size B W W' → I s W') (hIx : ∀ c W W', Ix c W → LoopExt w.heap.size B W W' → Ix c W') (h0 : I s0 w) (a₁ : Nat → Act)
    (hassign : ∀ (l s : Nat) (W : World) (K : Act → World → Prop), K (a₁ (tz s)) W →
      assign.wpIn (Fence.wide.inRound l) (n - 1 - 1) Tryd.prog (Exit.then K (fun _ _ _ => False)) { tmps := a.tmps.setIfInBounds p (.int .i64 (tz s : Nat)), defers := [] } W)
    (hbody : ∀ (l s : Nat) (W : World), s < 256 → 0 < s → w.heap.size ≤ l → I s W → BoxN W B s →
      body.wpIn (Fence.wide.inRound l) (n - 1 - 1) Tryd.prog (colPost w.heap.size B I Ix s W) (a₁ (tz s)) W)
    (hdone : ∀ (D : Nat) (W : World), w.heap.size ≤ D → I 0 W → W.heap[D]? = some (.deferred (some [])) → Q .normal { a with defers := { target := .collected D, args := #[] } :: a.defers } W)
    (hstop : ∀ (D : Nat) (c : Code) (W : World), w.heap.size ≤ D → Ix c W → W.heap[D]? = some (.deferred (some [])) → c.wpIn Fence.wide n Tryd.prog Q { a with defers := { target := .collected D, args := #[] } :: a.defers } W) :
    (Code.rangeFunc g #[p] assign body).wpIn Fence.wide n Tryd.prog Q a w := by
  have hBlt := hbx.lt
  refine wpIn_rangeFunc ?_
  intro fn hfn
  obtain ⟨rec, hrec⟩ : ∃ rec : LoopState → Option Code → Loop, rec = fun st pe => { state := st, pending := pe, fn, tmps := a.tmps, params := #[p], assign, body, defers := w.heap.size } := ⟨_, rfl⟩
  obtain ⟨W1, hW1⟩ : ∃ W1, (w.alloc (.deferred (some []))).alloc (.loop (rec .ready none)) = W1 := ⟨_, rfl⟩
  have hL1 : W1.heap[w.heap.size + 1]? = some (.loop (rec .ready none)) := by
    rw [← hW1]; have := World.alloc_heap_new (w.alloc (.deferred (some []))) (.loop (rec .ready none)); rwa [World.size_alloc] at this
  have hK1 : W1.heap[w.heap.size]? = some (.deferred (some [])) := by
    rw [← hW1]; exact (Below.heap_alloc _ _ _ (by simp)).trans (World.alloc_heap_new w _)
  have hI1 : I s0 W1 := by rw [← hW1]; exact hI _ _ _ h0 ((LoopExt.alloc _ _ _ _).trans (LoopExt.alloc _ _ _ _))
  have hb1 : BoxN W1 B s0 := by rw [← hW1]; exact (hbx.alloc _).alloc _
  refine ⟨w.heap.size + 1, [{ target := .collected w.heap.size, args := #[] }], W1, { target := .fn (.func 72) #[.pointer (some ⟨B, 0, none⟩)], args := #[.func (.yield (w.heap.size + 1)) #[] #[]] }, W1, 72,
    #[.func (.yield (w.heap.size + 1)) #[] #[], .pointer (some ⟨B, 0, none⟩)], W1, ?_, ?_, fun _ _ => trivial, ?_, fun _ => by omega, ?_⟩
  · rw [← hW1, hrec]; exact run_enterLoop_outer _ _ _ _ _
  · simp only [resolve, hg]
    simp [go_sem]
  · simp [invoke, go_sem]
  · have hne1 : B ≠ w.heap.size + 1 := by omega
    have hne0 : B ≠ w.heap.size := by omega
    refine (cols_in (n - 1) (w.heap.size + 1) B (by omega)
      (fun s W => I s W ∧ BoxN W B s ∧ W.heap[w.heap.size + 1]? = some (.loop (rec .ready none)) ∧ W.heap[w.heap.size]? = some (.deferred (some [])))
      (fun s W => I (nextS s) W ∧ BoxN W B s ∧ W.heap[w.heap.size + 1]? = some (.loop (rec .ready none)) ∧ W.heap[w.heap.size]? = some (.deferred (some [])))
      (fun W => ∃ c, Ix c W ∧ W.heap[w.heap.size + 1]? = some (.loop (rec .done (some c))) ∧ W.heap[w.heap.size]? = some (.deferred (some [])))
      ?_ (fun s W h => ⟨h.2.1, hT s W h.1⟩) (fun s W h => h.2.1)
      (fun s W _ _ h => ⟨hI _ _ _ h.1 (LoopExt.setCell _ _ _ _), h.2.1.set _, (Below.heap_setCell _ _ _ _ (by simpa using hne1.symm)).trans h.2.2.1, (Below.heap_setCell _ _ _ _ (by simpa using hne0.symm)).trans h.2.2.2⟩)
      s0 W1 hs0 ⟨hI1, hb1, hL1, hK1⟩).mono ?_
    · -- ONE ROUND
      rintro s W hs hpos ⟨hi, hbW, hl, hk⟩
      have hlt : w.heap.size + 1 < W.heap.size := (Array.getElem?_eq_some_iff.1 hl).1
      have hy := run_yield (P := Tryd.prog) (args := #[Value.int .i64 (tz s : Nat)]) hl (by rw [hrec]; rfl)
      rw [hrec] at hy
      have hz : (#[p].zip #[Value.int .i64 (tz s : Nat)]).foldl (fun tmps x => match x with | (t, a) => tmps.setIfInBounds t a) a.tmps = a.tmps.setIfInBounds p (.int .i64 (tz s : Nat)) := by simp
      refine ⟨fn, a.tmps.setIfInBounds p (.int .i64 (tz s : Nat)), assign, body, by rw [← hz]; exact hy, roundIn_of_wpIn hfn (hassign _ s W _ ?_)⟩
      clear hy hz
      refine ⟨_, run_beginRound hl (by rw [hrec]), ?_⟩
      have hl2 : (W.putObj (w.heap.size + 1) (.loop { rec .ready none with state := .busy })).heap[w.heap.size + 1]? = some (.loop { rec .ready none with state := .busy }) := World.putObj_heap_same hlt
      have hk2 : (W.putObj (w.heap.size + 1) (.loop { rec .ready none with state := .busy })).heap[w.heap.size]? = some (.deferred (some [])) := (World.putObj_heap_other (by omega)).trans hk
      refine wpIn_mono (hbody _ s _ hs hpos (by omega) (hI _ _ _ hi (LoopExt.putObj _ hl (by omega) rfl)) (hbW.putObj hne1 _)) ?_
      have fin : ∀ (jump : Option Code) (W3 : World), KeepsFrom w.heap.size (W.putObj (w.heap.size + 1) (.loop { rec .ready none with state := .busy })) W3 →
          (Instr.endRound (w.heap.size + 1) jump).run Tryd.prog W3 = .ok (.bool jump.isNone) (W3.putObj (w.heap.size + 1) (.loop (rec (if jump.isNone then .ready else .done) jump))) ∧
          W3.heap[w.heap.size + 1]? = some (.loop { rec .ready none with state := .busy }) ∧
          (W3.putObj (w.heap.size + 1) (.loop (rec (if jump.isNone then .ready else .done) jump))).heap[w.heap.size + 1]? = some (.loop (rec (if jump.isNone then .ready else .done) jump)) ∧
          (W3.putObj (w.heap.size + 1) (.loop (rec (if jump.isNone then .ready else .done) jump))).heap[w.heap.size]? = some (.deferred (some [])) := fun jump W3 hk3 => by
        have hl3 := hk3.same _ _ (by omega) hl2 rfl
        have := run_endRound (P := Tryd.prog) jump hl3
        rw [hrec] at this ⊢
        exact ⟨this, by rw [hrec] at hl3; exact hl3, World.putObj_heap_same (Array.getElem?_eq_some_iff.1 hl3).1, (World.putObj_heap_other (by omega)).trans (hk3.same _ _ (Nat.le_refl _) hk2 rfl)⟩
      rintro e a3 W3 hp
      cases e with
      | normal =>
        obtain ⟨hk3, hb3, hi3⟩ := hp
        obtain ⟨hr, hl3, hl4, hk4⟩ := fin none W3 hk3
        exact ⟨_, _, hr, .inl ⟨rfl, hI _ _ _ hi3 (LoopExt.putObj _ hl3 (by omega) rfl), hb3.putObj hne1 _, hl4, hk4⟩⟩
      | ret =>
        obtain ⟨hk3, hi3⟩ := hp
        obtain ⟨hr, hl3, hl4, hk4⟩ := fin (some .ret) W3 hk3
        exact ⟨_, _, hr, .inr ⟨rfl, .ret, hIx _ _ _ hi3 (LoopExt.putObj _ hl3 (by omega) rfl), hl4, hk4⟩⟩
      | exit id =>
        obtain ⟨hk3, hi3⟩ := hp
        obtain ⟨hr, hl3, hl4, hk4⟩ := fin (some (.exit id)) W3 hk3
        exact ⟨_, _, hr, .inr ⟨rfl, .exit id, hIx _ _ _ hi3 (LoopExt.putObj _ hl3 (by omega) rfl), hl4, hk4⟩⟩
      | goto t =>
        obtain ⟨hk3, hi3⟩ := hp
        obtain ⟨hr, hl3, hl4, hk4⟩ := fin (some (.goto t)) W3 hk3
        exact ⟨_, _, hr, .inr ⟨rfl, .goto t, hIx _ _ _ hi3 (LoopExt.putObj _ hl3 (by omega) rfl), hl4, hk4⟩⟩
      | panic ch => exact hp.elim
      | outgrown => exact hp.elim
    · -- BEHIND THE ITERATOR
      rintro e W2 ⟨⟨v, rfl⟩, (⟨hi, _, hl, hk⟩ | ⟨c, hi, hl, hk⟩)⟩
      · exact ⟨none, _, by have := run_endLoop (P := Tryd.prog) hl (by rw [hrec]; simp); rw [hrec] at this; exact this, hdone _ _ (Nat.le_refl _) (hI _ _ _ hi (LoopExt.putObj _ hl (by omega) rfl)) ((World.putObj_heap_other (by omega)).trans hk)⟩
      · exact ⟨some c, _, by have := run_endLoop (P := Tryd.prog) hl (by rw [hrec]; simp); rw [hrec] at this; exact this, hstop _ c _ (Nat.le_refl _) (hIx _ _ _ hi (LoopExt.putObj _ hl (by omega) rfl)) ((World.putObj_heap_other (by omega)).trans hk)⟩
end Go.Proofs.YtlpnicfbgdfbnaaDoor
