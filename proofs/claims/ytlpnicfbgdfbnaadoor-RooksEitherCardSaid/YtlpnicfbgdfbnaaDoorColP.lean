/- The law of a range over columns for the plain walk; functions that hold such a loop. -/
import Derived.Test.YtlpnicfbgdfbnaaDoorColL
import Derived.Test.YtlpnicfbgdfbnaaDoorNm
namespace Go.Proofs.YtlpnicfbgdfbnaaDoor
open Go.RowKit Go.Shelf

/-- A function whose body holds a range over a function. -/
theorem calls_marks {f : FuncId} {fn : Func} {c : Code} {args : Array Value} {w : World} {R : Ending → World → Prop} (hf : Tryd.prog.funcs[f]? = some fn) (hb : fn.body = some c)
    (h : c.wp Tryd.prog (bodyPostM Fence.wide 9 Tryd.prog fn R) { tmps := args ++ Array.replicate (fn.ntmps - args.size) undef, defers := [] } w) : Calls Tryd.prog f args w R :=
  callsIn_wide.1 (callsIn_of_wp_marks hf hb trivial (wpIn_wide.2 h) rfl)

/-- It returns with no mark among its deferred calls. -/
theorem leaves_none {fn : Func} {tmps : Array Value} {R : Ending → World → Prop} {w : World} {v : Value} (hr : (results fn tmps).run Tryd.prog w = .ok v w) (hR : R (.returned v) w) :
    LeavesInM Fence.wide 9 Tryd.prog fn tmps R [] .returning w := by
  exact ⟨v, hr, hR⟩

/-- It returns with one mark: the block for the rounds' deferred calls is turned once more. -/
theorem leaves_one {fn : Func} {tmps : Array Value} {R : Ending → World → Prop} {w : World} {D : Nat} {v : Value} (hK : w.heap[D]? = some (.deferred (some [])))
    (hr : (results fn tmps).run Tryd.prog (w.putObj D (.deferred none)) = .ok v (w.putObj D (.deferred none))) (hR : R (.returned v) (w.putObj D (.deferred none))) :
    LeavesInM Fence.wide 9 Tryd.prog fn tmps R [{ target := .collected D, args := #[] }] .returning w := by
  refine ⟨by simp, .inl ⟨_, _, rfl, run_takeDeferred hK, ?_⟩⟩
  exact ⟨v, hr, hR⟩

theorem wp_cols {g : Operand} {p : Tmp} {assign body : Code} {Q : Exit → Act → World → Prop} {a : Act} {w : World} (B s0 : Nat)
    (hg : a.eval g = .func (.func 72) #[] #[.pointer (some ⟨B, 0, none⟩)]) (hbx : BoxN w B s0) (hs0 : s0 < 256)
    (I : Nat → World → Prop) (Ix : Code → World → Prop) (hT : ∀ s W, I s W → Tab W)
    (hI : ∀ s W W', I s W → LoopExt w.heap.size B W W' → I s W') (hIx : ∀ c W W', Ix c W → LoopExt w.heap.size B W W' → Ix c W') (h0 : I s0 w) (a₁ : Nat → Act)
    (hassign : ∀ (l s : Nat) (W : World) (K : Act → World → Prop), K (a₁ (tz s)) W →
      assign.wpIn (Fence.wide.inRound l) 7 Tryd.prog (Exit.then K (fun _ _ _ => False)) { tmps := a.tmps.setIfInBounds p (.int .i64 (tz s : Nat)), defers := [] } W)
    (hbody : ∀ (l s : Nat) (W : World), s < 256 → 0 < s → w.heap.size ≤ l → I s W → BoxN W B s →
      body.wpIn (Fence.wide.inRound l) 7 Tryd.prog (colPost w.heap.size B I Ix s W) (a₁ (tz s)) W)
    (hdone : ∀ (D : Nat) (W : World), w.heap.size ≤ D → I 0 W → W.heap[D]? = some (.deferred (some [])) → Q .normal { a with defers := { target := .collected D, args := #[] } :: a.defers } W)
    (hstop : ∀ (D : Nat) (c : Code) (W : World), w.heap.size ≤ D → Ix c W → W.heap[D]? = some (.deferred (some [])) → c.wp Tryd.prog Q { a with defers := { target := .collected D, args := #[] } :: a.defers } W) :
    (Code.rangeFunc g #[p] assign body).wp Tryd.prog Q a w :=
  wpIn_wide.1 (wpIn_cols (n := 9) (by omega) B s0 hg hbx hs0 I Ix hT hI hIx h0 a₁ hassign hbody hdone (fun D c W h1 h2 h3 => wpIn_wide.2 (hstop D c W h1 h2 h3)))


attribute [local go_sem] Oper.semAt_some in
theorem assign_in {l n : Nat} {P : Program} {id : Nat} {p q : Tmp} {ty : TypeId} {pos : String} {K : Act → World → Prop} {tmps : Array Value} {v : Value} {W : World} (hp : tmps.getD p undef = v) (hK : K { tmps := tmps.setIfInBounds q v, defers := [] } W) :
    (Code.region id #[{ dst := some q, op := Op.assign (Operand.tmp p), type := ty, pos := pos, after := #[], guard := none }] false).wpIn (Fence.wide.inRound l) n P (Exit.then K (fun _ _ _ => False)) { tmps := tmps, defers := [] } W := by
  gi_wp2
  exact hK

/-- The law, for a loop with one variable. -/
theorem wp_cols1 {g : Operand} {p q : Tmp} {id : Nat} {ty : TypeId} {pos : String} {body : Code} {Q : Exit → Act → World → Prop} {a : Act} {w : World} (B s0 : Nat)
    (hg : a.eval g = .func (.func 72) #[] #[.pointer (some ⟨B, 0, none⟩)]) (hbx : BoxN w B s0) (hs0 : s0 < 256) (hp : p < a.tmps.size)
    (I : Nat → World → Prop) (Ix : Code → World → Prop) (hT : ∀ s W, I s W → Tab W)
    (hI : ∀ s W W', I s W → LoopExt w.heap.size B W W' → I s W') (hIx : ∀ c W W', Ix c W → LoopExt w.heap.size B W W' → Ix c W') (h0 : I s0 w)
    (hbody : ∀ (l s : Nat) (W : World), s < 256 → 0 < s → w.heap.size ≤ l → I s W → BoxN W B s →
      body.wpIn (Fence.wide.inRound l) 7 Tryd.prog (colPost w.heap.size B I Ix s W) { tmps := (a.tmps.setIfInBounds p (.int .i64 (tz s : Nat))).setIfInBounds q (.int .i64 (tz s : Nat)), defers := [] } W)
    (hdone : ∀ (D : Nat) (W : World), w.heap.size ≤ D → I 0 W → W.heap[D]? = some (.deferred (some [])) → Q .normal { a with defers := { target := .collected D, args := #[] } :: a.defers } W)
    (hstop : ∀ (D : Nat) (c : Code) (W : World), w.heap.size ≤ D → Ix c W → W.heap[D]? = some (.deferred (some [])) → c.wp Tryd.prog Q { a with defers := { target := .collected D, args := #[] } :: a.defers } W) :
    (Code.rangeFunc g #[p] (Code.region id #[{ dst := some q, op := Op.assign (Operand.tmp p), type := ty, pos := pos, after := #[], guard := none }] false) body).wp Tryd.prog Q a w :=
  wp_cols B s0 hg hbx hs0 I Ix hT hI hIx h0 (fun j => { tmps := (a.tmps.setIfInBounds p (.int .i64 (j : Nat))).setIfInBounds q (.int .i64 (j : Nat)), defers := [] })
    (fun _ _ _ _ hK => assign_in (by simp [Array.getD, hp]) hK) hbody hdone hstop

theorem own_ext {e : TypeId} {B n0 Bx : Nat} {w w' : World} {v : Value} {xs : List Int} (h : OwnI e B w v xs) (hx : LoopExt n0 Bx w w') (hne : ∀ k, v.ownBlock = some k → k ≠ Bx) : OwnI e B w' v xs := by
  refine ⟨h.1, ?_⟩
  rcases h.2 with h2 | ⟨g, cap, cur, rfl, hg, hh, r⟩
  · exact .inl h2
  · exact .inr ⟨g, cap, cur, rfl, hg, hx.block g _ hh (hne g rfl) (.inr rfl), r⟩
theorem boxed_ext {n0 Bx b : Nat} {t : TypeId} {w w' : World} {v : Value} (h : Boxed w b t v) (hx : LoopExt n0 Bx w w') (hne : b ≠ Bx) : Boxed w' b t v := hx.block b _ h hne (.inr rfl)
theorem below_ext {m n0 Bx : Nat} {w0 w w' : World} (h : Below m w0 w) (hm : m ≤ w0.heap.size) (hx : LoopExt n0 Bx w w') (h1 : m ≤ n0) (h2 : m ≤ Bx) : Below m w0 w' := by
  refine h.trans ⟨hx.os, hx.tape, hx.output, hx.size, fun k hk => ?_⟩
  have hlt : k < w.heap.size := by have := h.size; omega
  have hs : w.heap[k]? = some w.heap[k] := Array.getElem?_eq_getElem hlt
  rw [hs]
  exact hx.block k _ hs (by omega) (.inl (by omega))

theorem elems_step : ∀ s : Nat, s < 256 → 0 < s → elems s = tz s :: elems (nextS s) := by decide +kernel
theorem tz_mem {s : Nat} (hs : s < 256) (h : 0 < s) : tz s ∈ elems s := by rw [elems_step s hs h]; exact List.mem_cons_self
end Go.Proofs.YtlpnicfbgdfbnaaDoor
