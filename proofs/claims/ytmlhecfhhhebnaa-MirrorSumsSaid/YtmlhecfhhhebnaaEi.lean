/- The reference's Elements: the laws of its two appends, as steps of a region. -/
import Derived.Test.YtmlhecfhhhebnaaEh
namespace Go.Proofs.Ytmlhecfhhhebnaa
open Go.RowKit

theorem step_cutF {ops : Array Oper} {o : Oper} {a : Act} {w : World} {Q : Exit → Act → World → Prop} {K : Act → World → Prop} {E : Prop} (hg : o.guard = none) (s x : Operand) (hop : o.op = Op.call { callee := Callee.builtin Builtin.append, args := #[s, x], argTypes := #[24, 24] })
    (aa : Option Addr) (c' : Nat) (xs : List Int) (y : Int) (h : Ints w (.slice aa xs.length c') xs) (hs : a.eval s = .slice aa xs.length xs.length)
    (ad : Addr) (c : Nat) (hx : a.eval x = .slice (some ad) 1 c) (hc : w.cell? ad = some (.int .i64 y)) (hlen : xs.length < 1000000)
    (hK : ∀ v' w', OwnI 3 w.heap.size w' v' (xs ++ [y]) → Below w.heap.size w w' → K (a.put o.dst v') w') :
    if Region.wanted o (yielded ops a.tmps) = true then Oper.wp Try.prog o a w K Q else E := by
  have hw : Region.wanted o (yielded ops a.tmps) = true := by simp [Region.wanted, hg]
  rw [if_pos hw]
  obtain ⟨v', w', hrun, r1, r2⟩ := run_app_cut (ty := o.type) (c := c) h hc hlen
  unfold Oper.wp
  have hx' := hK v' w' r1 r2
  simp [execOp, hop, resolve, invoke, builtin, hs, hx, Result.andThen]
  rw [hrun]
  exact hx'
theorem step_appF {ops : Array Oper} {o : Oper} {a : Act} {w : World} {Q : Exit → Act → World → Prop} {K : Act → World → Prop} {E : Prop} (hg : o.guard = none) (s x : Operand) (hop : o.op = Op.call { callee := Callee.builtin Builtin.append, args := #[s, x], argTypes := #[34, 34] })
    {S : Nat → Prop} {B b : Nat} {v u : Value} {ls : List (List Nat)} {l : List Nat} (h : RowsF S B w v ls) (hu : Fz S w u (toI l)) (hb : Held w b 24 [u]) (hS : ∀ k, S k → v.ownBlock ≠ some k) (hl : ls.length < 1000000) (hB : B ≤ w.heap.size)
    (hs : a.eval s = v) (hx : a.eval x = .slice (some ⟨b, 0, none⟩) 1 1)
    (hK : ∀ v' w', RowsF S B w' v' (ls ++ [l]) → w.grownBy w' v.ownBlock → (v'.ownBlock = v.ownBlock ∨ v'.ownBlock = some w.heap.size) → K (a.put o.dst v') w') :
    if Region.wanted o (yielded ops a.tmps) = true then Oper.wp Try.prog o a w K Q else E := by
  have hw : Region.wanted o (yielded ops a.tmps) = true := by simp [Region.wanted, hg]
  rw [if_pos hw]
  obtain ⟨v', w', hrun, r1, r2, r3⟩ := run_appF (ty := o.type) h hu hb hS hl hB
  unfold Oper.wp
  have hx' := hK v' w' r1 r2 r3
  simp [execOp, hop, resolve, invoke, builtin, hs, hx, Result.andThen]
  rw [hrun]
  exact hx'

theorem wd_len {K n : Nat} (hv : validB K n = true) {l : List Nat} (h : l ∈ (rfN K n 130).W) : l.length ≤ 12 := by
  have := rf_of hv
  unfold rfOk at this
  simp only [Bool.and_eq_true, beq_iff_eq] at this
  have e : (rfN K n 130).W = wordsG K n := by rw [this.1.1.1.1, (lit_of hv).1]
  rw [e] at h
  exact (tkG hv).short l h

theorem ElI.ready {K n H bR bT : Nat} {S : Nat → Prop} {w2 w3 : World} {vW vP vX v3 : Value} {W P X : List (List Nat)} {l : List Nat} (h : ElI K n H bR bT S w2 vW vP vX W P X) (h3 : OwnI 3 w2.heap.size w3 v3 (toI l)) (hb3 : Below w2.heap.size w2 w3) (hl : l.length ≤ 1000000) :
    ElI K n H bR bT (fun k => S k ∨ v3.ownBlock = some k) (w3.alloc (.cells #[v3] 24)) vW vP vX W P X ∧ Fz (fun k => S k ∨ v3.ownBlock = some k) (w3.alloc (.cells #[v3] 24)) v3 (toI l) ∧
      (∀ k, (S k ∨ v3.ownBlock = some k) → vW.ownBlock ≠ some k) ∧ (∀ k, (S k ∨ v3.ownBlock = some k) → vP.ownBlock ≠ some k) := by
  have e3 := (h.below hb3).alloc (.cells #[v3] 24)
  have hty : ∀ k, (S k ∨ v3.ownBlock = some k) → typeAt (w3.alloc (.cells #[v3] 24)) k = some 3 := by
    intro k hk
    rcases hk with hk | hk
    · exact e3.hS k hk
    · rw [ty_block (Below.heap_alloc w3 _ k (h3.lt k hk).2)]
      exact own_ty h3 hk
  have e4 := e3.mono (S' := fun k => S k ∨ v3.ownBlock = some k) (fun k hk => .inl hk) hty
  refine ⟨e4, own_fz (h3.alloc _) (fun k hk => .inr hk) hl, fun k hk e => ?_, fun k hk e => ?_⟩
  · have h1 := hty k hk
    rw [e4.hw.ty e] at h1
    exact absurd h1 (by decide)
  · have h1 := hty k hk
    rw [e4.hp.ty e] at h1
    exact absurd h1 (by decide)
end Go.Proofs.Ytmlhecfhhhebnaa
