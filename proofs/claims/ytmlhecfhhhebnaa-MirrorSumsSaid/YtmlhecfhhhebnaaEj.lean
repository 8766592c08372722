/- The reference's Elements: the state under a row that grows; what the finished listing's rows are. -/
import Derived.Test.YtmlhecfhhhebnaaEi
import Derived.Test.YtmlhecfhhhebnaaLy
namespace Go.Proofs.Ytmlhecfhhhebnaa
open Go.RowKit

theorem ElI.rgrow {K n H bR bT : Nat} {S : Nat → Prop} {wr wr' : World} {vW vP vX : Value} {W P X : List (List Nat)} (h : ElI K n H bR bT S wr vW vP vX W P X) {r : Option Nat} (hg : wr.grownBy wr' r) (hr : ∀ k, r = some k → typeAt wr k = some 3 ∧ ¬ S k) : ElI K n H bR bT S wr' vW vP vX W P X := by
  have sg : Sm (fun k => some k ≠ r) wr wr' := Sm.of_grown hg fun _ hk => hk
  have ne : ∀ {k : Nat}, typeAt wr k ≠ some 3 → some k ≠ r := fun hk e => hk (hr _ e.symm).1
  obtain ⟨l, hl, _⟩ := h.hr
  exact h.kept sg (ne (by rw [h.hg.ty]; decide)) (ne (by rw [hl.ty]; decide)) (ne (by rw [h.ht.ty]; decide)) (fun k hk => ne (by rw [h.hw.ty hk]; decide)) (fun k hk => ne (by rw [h.hp.ty hk]; decide)) (fun k hk => ne (by rw [h.hx.ty hk]; decide)) (fun k hk e => (hr k e.symm).2 hk)

/-- The finished listing. -/
theorem rf_words {K n : Nat} (hv : validB K n = true) : (rfN K n 130).W = wordsG K n := by
  have h := rf_of hv
  simp only [rfOk, Bool.and_eq_true, beq_iff_eq] at h
  rw [h.1.1.1.1, (lit_of hv).1]
theorem rf_next {K n : Nat} (hv : validB K n = true) : (List.range (rfN K n 130).W.length).map (rowN K n (rfN K n 130)) = nextG K n := by
  have h := rf_of hv
  simp only [rfOk, Bool.and_eq_true, beq_iff_eq] at h
  rw [h.1.2, (lit_of hv).2]
theorem mem_after {K n : Nat} (hv : validB K n = true) {i s : Nat} (hi : i < (rfN K n 130).W.length) (hs : s < mirs K n) :
    afterN ((rfN K n 130).P.getD i []) (movesN K n s) ∈ (rfN K n 130).P := by
  have hr : rowN K n (rfN K n 130) i ∈ nextG K n := by
    rw [← rf_next hv]
    exact List.mem_map_of_mem (List.mem_range.mpr hi)
  have hz : (rfN K n 130).P.idxOf (afterN ((rfN K n 130).P.getD i []) (movesN K n s)) ∈ rowN K n (rfN K n 130) i := List.mem_map_of_mem (f := fun s => (rfN K n 130).P.idxOf (afterN ((rfN K n 130).P.getD i []) (movesN K n s))) (List.mem_range.mpr hs)
  have := (tkG hv).lt _ hr _ hz
  rw [← rf_words hv, rfN_len] at this
  exact List.idxOf_lt_length_iff.1 this
theorem rowN_len (K n : Nat) (t : Rf) (i : Nat) : (rowN K n t i).length = mirs K n := by unfold rowN; simp
theorem rowN_take (K n : Nat) (t : Rf) (i s : Nat) (hs : s < mirs K n) : (rowN K n t i).take (s + 1) = (rowN K n t i).take s ++ [t.P.idxOf (afterN (t.P.getD i []) (movesN K n s))] := by
  have hl : s < (rowN K n t i).length := by rw [rowN_len]; exact hs
  rw [List.take_succ_eq_append_getElem hl]
  congr 2
  unfold rowN
  simp
theorem rows_succ (K n : Nat) (t : Rf) (i : Nat) : (List.range (i + 1)).map (rowN K n t) = (List.range i).map (rowN K n t) ++ [rowN K n t i] := by
  rw [List.range_succ, List.map_append]; rfl

theorem infoRT : (Try.prog.info? 36).map (·.size) = some 3 := by kernel_rfl
theorem results_rtable {fn : Func} {tmps : Array Value} {w : World} {g : Nat} {l : List Value} (s : Nat) (hfn : fn.results = #[.cell s 36]) (hs : tmps.getD s undef = .pointer (some ⟨g, 0, none⟩)) (h : Held w g 36 l) (hl : l.length = 3) :
    (results fn tmps).run Try.prog w = .ok (.agg l.toArray) w := by
  have hr := run_loadVar_mid (P := Try.prog) w g 0 36 l _ h.range Try.underlying36 rfl (by rw [infoRT, hl])
  unfold results
  rw [hfn]
  have hs' : tmps[s]?.getD undef = .pointer (some ⟨g, 0, none⟩) := by simpa using hs
  simp [hs', hr, asAddr]

/-- A value of the reference's table. -/
def RTab (K n : Nat) (w : World) (v : Value) : Prop :=
  ∃ (vW vP vX : Value) (P : List (List Nat)), v = .agg #[vW, vP, vX] ∧ RowsF (fun _ => True) 0 w vW (wordsG K n) ∧ RowsF (fun _ => True) 0 w vP P ∧ RowsF (fun _ => True) 0 w vX (nextG K n)
def ElOut (K n : Nat) (w : World) (e : Ending) (w' : World) : Prop := ∃ v, e = .returned v ∧ RTab K n w' v ∧ Below w.heap.size w w'
theorem ElI.rtab {K n H bR bT : Nat} {S : Nat → Prop} {wr : World} {vW vP vX : Value} {P : List (List Nat)} (hv : validB K n = true) (h : ElI K n H bR bT S wr vW vP vX (rfN K n 130).W P ((List.range (rfN K n 130).W.length).map (rowN K n (rfN K n 130)))) {w' : World} (hs : Sm (fun k => k ≠ bR) wr w') : RTab K n w' (.agg #[vW, vP, vX]) := by
  rw [rf_next hv, rf_words hv] at h
  obtain ⟨l, hl, _⟩ := h.hr
  have nt : ∀ {k : Nat}, typeAt wr k ≠ some 36 → k ≠ bR := fun hk => ty_ne (by rw [hl.ty]; exact hk)
  have pS : ∀ k, S k → k ≠ bR := fun k hk => nt (by rw [h.hS k hk]; decide)
  exact ⟨vW, vP, vX, P, rfl, ((h.hw.kept hs pS (fun k hk => nt (by rw [h.hw.ty hk]; decide))).mono (S' := fun _ => True) fun _ _ => trivial).base (Nat.zero_le _), ((h.hp.kept hs pS (fun k hk => nt (by rw [h.hp.ty hk]; decide))).mono (S' := fun _ => True) fun _ _ => trivial).base (Nat.zero_le _), ((h.hx.kept hs pS (fun k hk => nt (by rw [h.hx.ty hk]; decide))).mono (S' := fun _ => True) fun _ _ => trivial).base (Nat.zero_le _)⟩

/-- A whole table is stored over a block. -/
theorem wpl_store_rt {ops : Array Oper} {rest : List Oper} {op : Oper} {a : Act} {w : World} {Q : Exit → Act → World → Prop} (hg : op.guard = none) (x y : Operand) (ho : op.op = .store 36 x y)
    (b : Nat) (u v z : Value) (l0 : List Value) (h3 : l0.length = 3) (hu : u.oneCell' = true) (hv : v.oneCell' = true) (hz : z.oneCell' = true) (hx : a.eval x = .pointer (some ⟨b, 0, none⟩)) (hy : a.eval y = .agg #[u, v, z]) (h0 : Held w b 36 l0)
    (hK : ∀ W, Held W b 36 [u, v, z] → Sm (fun k => k ≠ b) w W → W.heap.size = w.heap.size → wpList Try.prog ops Q rest (a.put op.dst undef) W) : wpList Try.prog ops Q (op :: rest) a w := by
  have ht : w.there b 0 3 := by
    have := h0.there
    rw [h3] at this
    exact this
  refine wpList_store_mid hg 36 x y ho b 0 #[u, v, z] hx hy ht infoRT (by simp [hu, hv, hz]) ?_
  exact hK _ (h0.over [u, v, z] (by rw [h3]; rfl)) (Sm.setCells _ _ _ _) (setCells_size _ _ _ _)
end Go.Proofs.Ytmlhecfhhhebnaa
