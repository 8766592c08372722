/- Wb, Wc, Wd, We, Wf, Wk, Wm of the seat's texts, in this order. -/
import Derived.Test.YtmlhecfhhhebnaaW0
import Derived.Test.YtmlhecfhhhebnaaEi
import Derived.Deep.AppendSrc
import Derived.Deep.RegionLaw
import Derived.Test.YtmlhecfhhhebnaaN2

/- Words: 'short' and its closure: the walks. -/
namespace Go.Proofs.Ytmlhecfhhhebnaa
open Go.RowKit
attribute [local go_sem] Oper.semAt_some

/-- A call in a region that draws its order, as one step. -/
theorem step_call {ops : Array Oper} {o : Oper} {a : Act} {w : World} {Q : Exit → Act → World → Prop} {K : Act → World → Prop} {E : Prop} (hg : o.guard = none) (f : FuncId) (args : Array Value) (hr : (execOp a.eval o).run Try.prog w = .ok (.enter f args) w) {R : Ending → World → Prop} (hc : Calls Try.prog f args w R)
    (hK : ∀ e w', R e w' → ∃ v, e = .returned v ∧ K (a.put o.dst v) w') : if Region.wanted o (yielded ops a.tmps) = true then Oper.wp Try.prog o a w K Q else E := by
  have hw : Region.wanted o (yielded ops a.tmps) = true := by simp [Region.wanted, hg]
  rw [if_pos hw]
  unfold Oper.wp
  rw [hr]
  refine Calls.mono hc fun e w'' hR => ?_
  obtain ⟨v, rfl, hv⟩ := hK e w'' hR
  exact hv

/-- 'append(xs, ys...)' onto a row of the call's own. -/
theorem run_appI {ty : TypeId} {B g cap : Nat} {w : World} {xs ys : List Int} (hown : OwnI 3 B w (.slice (some ⟨g, 0, none⟩) xs.length cap) xs) {ad : Addr} {c : Nat} (hs : Ints w (.slice (some ad) ys.length c) ys) (hl : xs.length + ys.length < 1000000) (hB : B ≤ w.heap.size) :
    ∃ v' w', (Builtin.append_ #[24, 24] ty #[.slice (some ⟨g, 0, none⟩) xs.length cap, .slice (some ad) ys.length c]).run Try.prog w = .ok v' w' ∧ OwnI 3 B w' v' (xs ++ ys) ∧ w.grownBy w' (some g) ∧ (v'.ownBlock = some g ∨ v'.ownBlock = some w.heap.size) := by
  obtain ⟨i, hi1, hz0, hz1, hz2⟩ := info_parts info3
  obtain ⟨a', c', e, _, _, h3⟩ := hs
  obtain ⟨rfl, _, rfl⟩ := Value.slice.inj e
  obtain ⟨v', w', hrun, r1, r2, _, r4⟩ := run_append_own_at (P := Try.prog) w B 24 ty 3 i (.int .i64 0) 1 8 Try.underlying24 hi1 hz0 hz1 hz2 rfl (by decide) (.slice (some ⟨g, 0, none⟩) xs.length cap) xs.length _ hown ad ys.length c (ys.map (.int .i64)) (by simp)
    (fun j u hj => by
      have hjl : j < ys.length := by have := (List.getElem?_eq_some_iff.1 hj).1; simpa using this
      obtain ⟨b, off, e2, _, hcell⟩ := h3 (by intro e; rw [e] at hjl; simp at hjl)
      cases e2
      have e2 : (⟨b, off, none⟩ : Addr).add j = ⟨b, off + j, none⟩ := by unfold Addr.add; split <;> simp_all
      rw [e2, hcell j hjl]
      simpa [List.getElem?_eq_getElem hjl] using hj)
    (by intro u hu; obtain ⟨_, _, rfl⟩ := List.mem_map.1 hu; rfl) (by unfold maxLen; omega) (by omega) hB
  exact ⟨v', w', hrun, by unfold OwnI; simpa using r1, r2, r4⟩
theorem wpList_appI {ops : Array Oper} {o : Oper} {a : Act} {w : World} {Q : Exit → Act → World → Prop} {rest : List Oper} (hg : o.guard = none) (s x : Operand)
    (hop : o.op = Op.call { callee := Callee.builtin Builtin.append, args := #[s, x], argTypes := #[24, 24] }) (B g cap : Nat) (xs ys : List Int) (hs : a.eval s = .slice (some ⟨g, 0, none⟩) xs.length cap) (hown : OwnI 3 B w (.slice (some ⟨g, 0, none⟩) xs.length cap) xs)
    (ad : Addr) (c : Nat) (hx : a.eval x = .slice (some ad) ys.length c) (hy : Ints w (.slice (some ad) ys.length c) ys) (hl : xs.length + ys.length < 1000000) (hB : B ≤ w.heap.size)
    (hK : ∀ v' w', OwnI 3 B w' v' (xs ++ ys) → w.grownBy w' (some g) → (v'.ownBlock = some g ∨ v'.ownBlock = some w.heap.size) → wpList Try.prog ops Q rest (a.put o.dst v') w') : wpList Try.prog ops Q (o :: rest) a w := by
  refine wpList_plain hg fun K' hK' => ?_
  obtain ⟨v', w', hrun, r1, r2, r3⟩ := run_appI (ty := o.type) hown hy hl hB
  unfold Oper.wp
  simp [execOp, hop, resolve, invoke, builtin, hs, hx, Result.andThen]
  rw [hrun]
  exact hK' _ _ (hK v' w' r1 r2 r3)

/-- The box 'out' of Words at block bo, its slice of words from block H on. -/
def ShSt (H bo : Nat) (w : World) (v : Value) (ls : List (List Nat)) : Prop := Held w bo 34 [v] ∧ ∃ S, GrowI H w v ls S ∧ ∀ k, S k → H ≤ k
/-- From one state of it to a later one. -/
def ShGo (bo : Nat) (w : World) (v : Value) (w' : World) (v' : Value) : Prop := Sm (fun k => k ≠ bo ∧ v.ownBlock ≠ some k) w w' ∧ (v'.ownBlock = v.ownBlock ∨ ∃ b, v'.ownBlock = some b ∧ w.heap.size ≤ b)
def ShOut (H bo : Nat) (w : World) (v : Value) (ls : List (List Nat)) (e : Ending) (w' : World) : Prop := ∃ v', e = .returned (.tuple #[]) ∧ ShSt H bo w' v' ls ∧ ShGo bo w v w' v'
theorem ShGo.trans {bo : Nat} {a b c : World} {va vb vc : Value} (h1 : ShGo bo a va b vb) (h2 : ShGo bo b vb c vc) : ShGo bo a va c vc := by
  refine ⟨⟨h2.1.os.trans h1.1.os, h2.1.tape.trans h1.1.tape, h2.1.output.trans h1.1.output, Nat.le_trans h1.1.size h2.1.size, fun k hk hlt => ?_⟩, ?_⟩
  · have hlt2 : k < b.heap.size := Nat.lt_of_lt_of_le hlt h1.1.size
    refine (h2.1.block k ⟨hk.1, fun e => ?_⟩ hlt2).trans (h1.1.block k hk hlt)
    rcases h1.2 with h | ⟨g, h, hg⟩
    · rw [h] at e; exact hk.2 e
    · rw [h] at e; cases e; omega
  · rcases h2.2 with h | ⟨g, h, hg⟩
    · rw [h]
      rcases h1.2 with h' | ⟨g, h', hg⟩
      · exact .inl h'
      · exact .inr ⟨g, h', hg⟩
    · exact .inr ⟨g, h, Nat.le_trans h1.1.size hg⟩
/-- What calls make ahead of it. -/
theorem ShGo.ahead {bo : Nat} {a b c : World} {v v' : Value} (hb : Below a.heap.size a b) (h : ShGo bo b v c v') : ShGo bo a v c v' := by
  refine ⟨⟨h.1.os.trans hb.os, h.1.tape.trans hb.tape, h.1.output.trans hb.output, Nat.le_trans hb.size h.1.size, fun k hk hlt => ?_⟩, ?_⟩
  · exact (h.1.block k hk (Nat.lt_of_lt_of_le hlt hb.size)).trans (hb.block k hlt)
  · rcases h.2 with h | ⟨g, h, hg⟩
    · exact .inl h
    · exact .inr ⟨g, h, Nat.le_trans hb.size hg⟩
theorem ShGo.refl (bo : Nat) (w : World) (v : Value) : ShGo bo w v w v := ⟨Sm.refl _ w, .inl rfl⟩
theorem ShSt.below {H bo : Nat} {w w' : World} {v : Value} {ls : List (List Nat)} (h : ShSt H bo w v ls) (hb : Below w.heap.size w w') : ShSt H bo w' v ls := by
  obtain ⟨h1, S, h2, h3⟩ := h
  exact ⟨h1.below hb h1.lt, S, ⟨h2.1.kept (S' := fun _ => True) (Sm.of_below hb) (fun _ _ => trivial) (fun _ _ => trivial), fun k hk => ⟨Nat.lt_of_lt_of_le (h2.2 k hk).1 hb.size, (h2.2 k hk).2⟩⟩, h3⟩
theorem ShGo.lower {bo H : Nat} {w0 w w' : World} {v v' : Value} {ls : List (List Nat)} (h : ShGo bo w v w' v') (hs : ShSt H bo w v ls) (hb : Below w0.heap.size w0 w) (h0 : w0.heap.size ≤ bo) (hbo : bo < H) : Below w0.heap.size w0 w' := by
  refine hb.trans ⟨h.1.os, h.1.tape, h.1.output, h.1.size, fun k hk => ?_⟩
  obtain ⟨_, S, h2, _⟩ := hs
  refine h.1.block k ⟨by omega, fun e => ?_⟩ (Nat.lt_of_lt_of_le hk hb.size)
  have := h2.1.own k e
  omega
/-- The grown slice is stored into the box. -/
theorem shSt_end {H bo : Nat} {w w3 w4 : World} {v v4 : Value} {ls4 : List (List Nat)} {S : Nat → Prop} (hb : Below w.heap.size w w3) (h4 : Held w4 bo 34 [v]) (hG : GrowI H w4 v4 ls4 S) (hS : ∀ k, S k → H ≤ k) (hg : w3.grownBy w4 v.ownBlock) (ho : v4.ownBlock = v.ownBlock ∨ v4.ownBlock = some w3.heap.size) (hbo : bo < H) :
    ShSt H bo (w4.setCell ⟨bo, 0, none⟩ v4) v4 ls4 ∧ ShGo bo w v (w4.setCell ⟨bo, 0, none⟩ v4) v4 := by
  have hs : Sm (fun k => k ≠ bo) w4 (w4.setCell ⟨bo, 0, none⟩ v4) := ⟨rfl, rfl, rfl, by simp [World.setCell], fun k hk _ => Below.heap_setCell w4 ⟨bo, 0, none⟩ _ k hk⟩
  have hne : ∀ k, v4.ownBlock = some k → k ≠ bo := fun k hk => by have := hG.1.own k hk; omega
  refine ⟨⟨by have := h4.put 0 v4; exact this, S, ⟨hG.1.kept hs (fun k hk => by have := hS k hk; omega) hne, fun k hk => ⟨Nat.lt_of_lt_of_le (hG.2 k hk).1 hs.size, (hG.2 k hk).2⟩⟩, hS⟩, ?_, ?_⟩
  · refine ⟨hg.os.trans hb.os, hg.tape.trans hb.tape, hg.output.trans hb.output, Nat.le_trans hb.size (Nat.le_trans hg.size hs.size), fun k hk hlt => ?_⟩
    have h1 := Nat.lt_of_lt_of_le hlt hb.size
    exact (hs.block k hk.1 (Nat.lt_of_lt_of_le h1 hg.size)).trans ((hg.block k h1 (fun e => hk.2 e.symm)).trans (hb.block k hlt))
  · rcases ho with ho | ho
    · exact .inl ho
    · exact .inr ⟨_, ho, hb.size⟩
/-- A slice that lies elsewhere is kept. -/
theorem ShGo.ints {bo : Nat} {w w' : World} {v v' u : Value} {S : Nat → Prop} {xs : List Int} (h : ShGo bo w v w' v') (hu : Fz S w u xs) (hS : ∀ k, S k → k ≠ bo ∧ v.ownBlock ≠ some k) : Fz S w' u xs :=
  hu.kept (h.1.weak fun k _ hk => hS k hk)

set_option maxRecDepth 20000 in
set_option maxHeartbeats 1000000 in
theorem wordsF_any (H bo : Nat) (v u : Value) (ls : List (List Nat)) (y : List Nat) (w : World) (h : ShSt H bo w v ls) (hbo : bo < H) (hH : H ≤ w.heap.size) (hu : Ints w u (toI y)) (hls : ls.length < 1000000) (hy : y.length ≤ 1000000) :
    Calls Try.prog 76 #[u, .pointer (some ⟨bo, 0, none⟩)] w (ShOut H bo w v (ls ++ [y])) := by
  have CL := Lib.hid (fun w' (hb : Below w.heap.size w w') => Clone_any u (toI y) w' (hu.below hb))
  obtain ⟨hb0, S, hG, hS⟩ := h
  obtain ⟨av, cv, rfl⟩ := hG.1.form
  have hcb := hb0.at (i := 0) rfl
  have hfb := hb0.free 0
  have hbl := hb0.lt
  have HG := Lib.hid hG
  have HB0 := Lib.hid hb0
  have HNE := Lib.hid (show some bo ≠ (Value.slice av ls.length cv).ownBlock from fun e => by have := hG.1.own bo e.symm; omega)
  clear hG hb0
  go_enter Try.func76, Try.ntmps76
  go_region_law (first
    | (refine step_appF (by rfl) _ _ (by rfl) (HR2.out.1.1.alloc _) (HR2.out.2.kept (Sm.of_below ((Below.refl _ _).alloc (Nat.le_refl _) _))) (Held.new _ _ [_]) (fun k hk => (HR2.out.1.2 k hk).2) (by omega) (by simp; omega) (by rfl) (by rfl) ?_; intro v4 w4 hr4 hg4 ho4; obtain ⟨a4, c4, e4⟩ := hr4.form; simp only [List.length_append, List.length_singleton] at e4; subst e4; have hh4 := ((HB0.out.below HB2.out hbl).alloc (.cells #[.slice a2 n2 c2] 24)).grown hg4 HNE.out; have hc4 := hh4.at (i := 0) rfl; have hf4 := hh4.free 0; have HL4 := Lib.hid hh4; clear hh4; have HG4 := Lib.hid (GrowI.app (b := 0) HR2.out.1 ((Below.refl _ _).alloc (Nat.le_refl _) _) hr4 hg4 ho4 rfl); have HH4 := Lib.hid (And.intro hg4 ho4); clear hr4 hg4 ho4)
    | (refine step_call (by rfl) 35 #[u] ?hr (CL.out _ ((Below.refl _ _).drew)) ?_; (case hr => go_simp); rintro e w2 ⟨v2, rfl, ho2, hb2⟩; refine ⟨_, rfl, ?_⟩; have hc2 := (hb2.cell (p := ⟨bo, 0, none⟩) hbl).trans hcb; obtain ⟨a2, n2, c2, rfl⟩ := own_form ho2; have HB2 := Lib.hid (show Below w.heap.size w w2 from ((Below.refl w.heap.size w).drew).trans hb2); have HR2 := Lib.hid (HG.out.grow HB2.out ho2 hy); have HLO := Lib.hid (show ∀ k, (S k ∨ (Value.slice a2 n2 c2).ownBlock = some k) → H ≤ k from fun k hk => hk.elim (hS k) (fun e => Nat.le_trans hH (ho2.lt k e).1)); have hsz2 := HB2.out.size; have hc3 := ((HB0.out.below HB2.out hbl).alloc (.cells #[.slice a2 n2 c2] 24)).at (i := 0) rfl; clear ho2 hb2))
  all_goals
    go_end0
    exact ⟨_, rfl, shSt_end (HB2.out.alloc HB2.out.size _) HL4.out HG4.out HLO.out HH4.out.1 HH4.out.2 hbo⟩
end Go.Proofs.Ytmlhecfhhhebnaa

/- Words: 'short': the walks. -/
namespace Go.Proofs.Ytmlhecfhhhebnaa
open Go.RowKit
attribute [local go_sem] Oper.semAt_some

theorem shK_step_le (W X : List (List Nat)) (f u : Nat) (e : List Nat) (k : Nat) (hk : k < (X.getD u []).length) : (shK W X f u e k).length ≤ (shK W X f u e (k + 1)).length := by
  by_cases h : lenX W (X.getD u [])[k] < lenX W u
  · rw [shK_low f e hk h, List.length_append]; omega
  · rw [shK_high f e hk h]; exact Nat.le_refl _
theorem shK_le (W X : List (List Nat)) (f u : Nat) (e : List Nat) : ∀ (d k : Nat), k + d = (X.getD u []).length → (shK W X f u e k).length ≤ (shL W X (f + 1) u e).length
  | 0, k, h => by rw [← shK_all, ← h]; exact Nat.le_refl _
  | d + 1, k, h => Nat.le_trans (shK_step_le W X f u e k (by omega)) (shK_le W X f u e d (k + 1) (by omega))
theorem ShGo.fz {bo : Nat} {w w' : World} {v v' u : Value} {xs : List Int} (h : ShGo bo w v w' v') (hu : Fz (fun k => k ≠ bo ∧ v.ownBlock ≠ some k) w u xs) : Fz (fun k => k ≠ bo ∧ v'.ownBlock ≠ some k) w' u xs := by
  obtain ⟨a, c, rfl, h1, h2, h3⟩ := hu
  refine ⟨a, c, rfl, h1, h2, fun hne => ?_⟩
  obtain ⟨b, off, rfl, hS, hb, hc⟩ := h3 hne
  refine ⟨b, off, rfl, ⟨hS.1, fun e => ?_⟩, Nat.lt_of_lt_of_le hb h.1.size, fun i hi => (World.cell?_of_block (h.1.block b hS hb)).trans (hc i hi)⟩
  rcases h.2 with h4 | ⟨g, h4, hg⟩
  · rw [h4] at e; exact hS.2 e
  · rw [h4] at e; cases e; omega
/-- A new row of one number. -/
theorem own_one1 (w : World) (y : Int) (c : Nat) (hc : c = 1) : OwnI 3 w.heap.size (w.alloc (.cells #[.int .i64 y] 3)) (.slice (some ⟨w.heap.size, 0, none⟩) 1 c) [y] := by
  subst hc
  exact ⟨by simp, .inr ⟨w.heap.size, 1, #[.int .i64 y], rfl, Nat.le_refl _, heap_alloc_new w _, by simp, by unfold maxLen; omega, by simp, by simp⟩⟩

set_option maxRecDepth 20000 in
set_option maxHeartbeats 1000000 in
theorem short_zero (bT H bo : Nat) (e : List Nat) (v : Value) (ls : List (List Nat)) (ge off c : Nat) (w : World) (hbo : bo < H) (hs : ShSt H bo w v ls) (hH : H ≤ w.heap.size)
    (he : Fz (fun k => k ≠ bo ∧ v.ownBlock ≠ some k) w (.slice (some ⟨ge, off, none⟩) e.length c) (toI e)) (hl : ls.length ≤ 900000) (hel : e.length ≤ 1000) :
    Calls Try.prog 75 #[.pointer (some ⟨bT, 0, none⟩), .int .i64 0, .slice (some ⟨ge, off, none⟩) e.length c, .func (.func 76) #[] #[.pointer (some ⟨bo, 0, none⟩)]] w (ShOut H bo w v (ls ++ [e])) := by
  have C := Lib.hid (wordsF_any H bo v _ ls e w hs hbo hH he.ints (by omega) (by omega))
  clear hs he
  go_enter Try.func75, Try.ntmps75
  go_wp2_with (go_at_call 76; refine C.out.mono ?_; rintro e w2 ⟨v2, rfl, hs2, hg2⟩)
  go_end0
  exact ⟨v2, rfl, hs2, hg2⟩

set_option maxRecDepth 20000 in
set_option maxHeartbeats 1000000 in
theorem short_step {K n m N : Nat} {W X : List (List Nat)} (bT H bo : Nat) (w0 : World) (ht : TabIs K n W X w0 bT) (hk : Tk m N W X) (hS : ckS W X = true) (h0 : w0.heap.size ≤ bo) (hbo : bo < H) (f : Nat)
    (ih : ∀ (u : Nat) (e : List Nat) (v : Value) (ls : List (List Nat)) (ge off c : Nat) (w : World), u < N → lenX W u = f → ShSt H bo w v ls → H ≤ w.heap.size → Below w0.heap.size w0 w → Fz (fun k => k ≠ bo ∧ v.ownBlock ≠ some k) w (.slice (some ⟨ge, off, none⟩) e.length c) (toI e) → ls.length + (shL W X f u e).length ≤ 900000 → e.length + f ≤ 1000 →
      Calls Try.prog 75 #[.pointer (some ⟨bT, 0, none⟩), .int .i64 (u : Nat), .slice (some ⟨ge, off, none⟩) e.length c, .func (.func 76) #[] #[.pointer (some ⟨bo, 0, none⟩)]] w (ShOut H bo w v (ls ++ shL W X f u e)))
    (u : Nat) (e : List Nat) (v : Value) (ls : List (List Nat)) (ge off c : Nat) (w : World) (hu : u < N) (hf : lenX W u = f + 1) (hs : ShSt H bo w v ls) (hH : H ≤ w.heap.size) (hb : Below w0.heap.size w0 w) (he : Fz (fun k => k ≠ bo ∧ v.ownBlock ≠ some k) w (.slice (some ⟨ge, off, none⟩) e.length c) (toI e)) (hl : ls.length + (shL W X (f + 1) u e).length ≤ 900000) (hel : e.length + (f + 1) ≤ 1000) :
    Calls Try.prog 75 #[.pointer (some ⟨bT, 0, none⟩), .int .i64 (u : Nat), .slice (some ⟨ge, off, none⟩) e.length c, .func (.func 76) #[] #[.pointer (some ⟨bo, 0, none⟩)]] w (ShOut H bo w v (ls ++ shL W X (f + 1) u e)) := by
  have hA := ckS_at hS (show u < W.length by rw [hk.lw]; exact hu)
  have hu0 : u ≠ 0 := fun e => by have := hA.zero.2 e; omega
  have hu1 : ((u : Int) == 0) = false := by simp; omega
  have hN := hk.small
  have hm4 := hk.m4
  obtain ⟨r, hr1, hr2, hr3, hr4⟩ := hk.rowAt hu
  obtain ⟨vW, vX, vM, hh, hW, hX⟩ := ht
  have hr120 : r.length ≤ 4 := by omega
  have HT := Lib.hid (show TabIs K n W X w0 bT from ⟨vW, vX, vM, hh, hW, hX⟩)
  have LN := Lib.hid (fun (y : Nat) (w' : World) (hb : Below w0.heap.size w0 w') (hy : y < N) => length_any bT y w' (HT.out.below hb) hk hy)
  obtain ⟨g, cap, ra, rc, e4, hgc, hrc, hIn, hrow⟩ := hX.cells u (by rw [hk.lx]; exact hu)
  rw [hr1] at hgc hrc hrow
  subst e4
  have ct := (hb.cell (p := ⟨bT, 3, none⟩) hh.lt).trans (hh.at (i := 3) rfl)
  have hg2 := (hb.cell (p := ⟨g, u, none⟩) (World.block_lt_of_cell? _ _ hgc)).trans hgc
  have hrp : 0 < r.length → ∃ b o, ra = some ⟨b, o, none⟩ ∧ ∀ j (hj : j < r.length), ∀ w', Below w0.heap.size w0 w' → w'.cell? ⟨b, o + j, none⟩ = some (.int .i64 ((r[j] : Nat) : Int)) := fun h => by
    obtain ⟨b, o, e5, hc⟩ := hrow h
    exact ⟨b, o, e5, fun j hj w' hb' => (hb'.cell (p := ⟨b, o + j, none⟩) (World.block_lt_of_cell? _ _ (hc j hj))).trans (hc j hj)⟩
  have HROW := Lib.hid hrp
  have HR4 := Lib.hid hr4
  have HR2 := Lib.hid hr2
  have HONE := Lib.hid (show ∀ x ∈ r, lenX W x + 1 = f + 1 ∨ lenX W x = f + 1 + 1 by rw [← hr2, ← hf]; exact hA.one)
  have hxX : (u : Int) < (X.length : Int) := by rw [hk.lx]; omega
  have HLE := Lib.hid (fun k (h : k ≤ r.length) => shK_le W X f u e (r.length - k) k (by rw [hr2]; omega))
  have HLOW := Lib.hid (fun k (h : k < r.length) (h2 : lenX W r[k] < f + 1) => show shK W X f u e (k + 1) = shK W X f u e k ++ shL W X f r[k] (k :: e) by subst hr2; exact shK_low f e h (by rw [hf]; exact h2))
  have HHIGH := Lib.hid (fun k (h : k < r.length) (h2 : ¬ lenX W r[k] < f + 1) => show shK W X f u e (k + 1) = shK W X f u e k by subst hr2; exact shK_high f e h (by rw [hf]; exact h2))
  have HZ := Lib.hid (shK_zero W X f u e)
  have HALL := Lib.hid (show shK W X f u e r.length = shL W X (f + 1) u e by rw [← hr2]; exact shK_all W X f u e)
  have IH := Lib.hid ih
  have HF := Lib.hid hf
  have HS0 := Lib.hid hs
  have HE := Lib.hid he
  have HB := Lib.hid hb
  have hws := hb.size
  clear hIn hr1 hr2 hr3 hr4 hX hW hh hrow hA hS hk ih hf hs he hgc hrp hb
  go_enter Try.func75, Try.ntmps75
  go_wp2
  go_loopw [23] (fun ix wr => ∃ k : Nat, k ≤ r.length ∧ ix = .int .i64 k ∧ ∃ vr, ShSt H bo wr vr (ls ++ shK W X f u e k) ∧ ShGo bo w v wr vr) (fun ix _ => r.length - (intOf ix).toNat)
  case atStart => exact ⟨0, Nat.zero_le _, rfl, v, by rw [HZ.out, List.append_nil]; exact HS0.out, ShGo.refl _ _ _⟩
  case round =>
    obtain ⟨k, hkl, rfl, vr, hsr, hgr⟩ := hrel
    by_cases hlt : k < r.length
    · have hbr := hgr.lower HS0.out HB.out h0 hbo
      obtain ⟨b2, off2, rfl, hcell2⟩ := HROW.out (by omega)
      have hcy := hcell2 k hlt wr hbr
      have hyN := HR4.out _ (List.getElem_mem hlt)
      have HL1 := Lib.hid (HLOW.out k hlt)
      have HH1 := Lib.hid (HHIGH.out k hlt)
      have HO1 := Lib.hid (HONE.out _ (List.getElem_mem hlt))
      have HBR := Lib.hid hbr
      have HSR := Lib.hid hsr
      have HGR := Lib.hid hgr
      have hsz : w.heap.size ≤ wr.heap.size := hgr.1.size
      have HLK := Lib.hid (HLE.out (k + 1) hlt)
      obtain ⟨y, hy⟩ : ∃ y, r[k] = y := ⟨_, rfl⟩
      rw [hy] at hcy hyN HL1 HH1 HO1
      have hki : (k : Int) < (r.length : Int) := by omega
      clear hy hcell2 hbr hsr hgr
      by_cases hlow : lenX W y < f + 1
      · have hfi : ((lenX W y : Nat) : Int) < ((lenX W u : Nat) : Int) := by rw [HF.out]; omega
        have HLY := Lib.hid (show lenX W y = f by have := HO1.out; omega)
        have HST := Lib.hid (HL1.out hlow)
        have HFE := Lib.hid (HGR.out.fz HE.out)
        have HVO := Lib.hid (fun q (hq : vr.ownBlock = some q) => show q < wr.heap.size by obtain ⟨_, S, h2, _⟩ := HSR.out; exact (h2.1.own q hq).2)
        clear hlow
        go_wp2_with (first
          | (go_at_call 75; refine (IH.out y (k :: e) vr (ls ++ shK W X f u e k) g4 0 c4 w4 hyN HLY.out (HSR.out.below HB4.out) (by have := HB4.out.size; omega) (HBR.out.trans (HB4.out.mono HBR.out.size)) HF4.out (by have h1 := HLK.out; rw [HST.out, List.length_append] at h1; rw [List.length_append]; omega) (by simp only [List.length_cons]; omega)).mono ?_; rintro e w5 ⟨v5, rfl, hs5, hg5⟩)
          | (at_builtin; refine wpList_appI rfl _ _ rfl wr.heap.size wr.heap.size 1 [(k : Int)] (toI e) rfl (own_one1 wr _ 1 rfl) ⟨ge, off, none⟩ c (by rw [toI_length]; rfl) (by rw [toI_length]; exact HFE.out.ints.below ((Below.refl _ _).alloc (Nat.le_refl _) _)) (by rw [toI_length]; simp; omega) (by simp) ?_; intro v4 w4 ho4 hg4 hl4; have HB4 := Lib.hid (((Below.refl wr.heap.size wr).alloc (Nat.le_refl _) (.cells #[.int .i64 (k : Int)] 3)).grown hg4 (by simp) (fun j hj => by cases hj; exact Nat.le_refl _)); have ho5 : OwnI 3 wr.heap.size w4 v4 (toI (k :: e)) := ho4; obtain ⟨g4, c4, e4⟩ := own_rowN ho5 (by simp); subst e4; have HF4 := Lib.hid (show Fz (fun q => q ≠ bo ∧ vr.ownBlock ≠ some q) w4 (.slice (some ⟨g4, 0, none⟩) (k :: e).length c4) (toI (k :: e)) from ho5.fz (by rw [toI_length]; simp only [List.length_cons]; omega) (fun q hq => by have h1 := (ho5.lt q hq).1; exact ⟨by omega, fun e => by have := HVO.out q e; omega⟩)); clear ho4 ho5 hg4 hl4)
          | (go_at_call 67; refine (LN.out _ _ HBR.out (by omega)).mono ?_; rintro e w1 ⟨rfl, rfl⟩))
        go_roundw
        case rel => exact ⟨k + 1, by omega, by go_num, v5, by rw [HST.out, ← List.append_assoc]; exact hs5, HGR.out.trans (ShGo.ahead HB4.out hg5)⟩
        case measure => simp [intOf]; omega
      · have hfi : ¬ ((lenX W y : Nat) : Int) < ((lenX W u : Nat) : Int) := by rw [HF.out]; omega
        have HST := Lib.hid (HH1.out hlow)
        clear hlow
        go_wp2_with (go_at_call 67; refine (LN.out _ _ HBR.out (by omega)).mono ?_; rintro e w1 ⟨rfl, rfl⟩)
        go_roundw
        case rel => exact ⟨k + 1, by omega, by go_num, vr, by rw [HST.out]; exact HSR.out, HGR.out⟩
        case measure => simp [intOf]; omega
    · obtain rfl : k = r.length := by omega
      have hki : ¬ ((r.length : Nat) : Int) < (r.length : Int) := by omega
      have HSR := Lib.hid hsr
      have HGR := Lib.hid hgr
      clear hsr hgr
      go_wp2
      go_end0
      exact ⟨vr, rfl, by rw [← HALL.out]; exact HSR.out, HGR.out⟩

theorem short_any {K n m N : Nat} {W X : List (List Nat)} (bT H bo : Nat) (w0 : World) (ht : TabIs K n W X w0 bT) (hk : Tk m N W X) (hS : ckS W X = true) (h0 : w0.heap.size ≤ bo) (hbo : bo < H) : ∀ (f u : Nat) (e : List Nat) (v : Value) (ls : List (List Nat)) (ge off c : Nat) (w : World), u < N → lenX W u = f → ShSt H bo w v ls → H ≤ w.heap.size → Below w0.heap.size w0 w → Fz (fun k => k ≠ bo ∧ v.ownBlock ≠ some k) w (.slice (some ⟨ge, off, none⟩) e.length c) (toI e) → ls.length + (shL W X f u e).length ≤ 900000 → e.length + f ≤ 1000 →
    Calls Try.prog 75 #[.pointer (some ⟨bT, 0, none⟩), .int .i64 (u : Nat), .slice (some ⟨ge, off, none⟩) e.length c, .func (.func 76) #[] #[.pointer (some ⟨bo, 0, none⟩)]] w (ShOut H bo w v (ls ++ shL W X f u e))
  | 0, u, e, v, ls, ge, off, c, w, hu, hf, hs, hH, _, he, hl, hel => by
    obtain rfl : u = 0 := (ckS_at hS (show u < W.length by rw [hk.lw]; exact hu)).zero.1 hf
    exact short_zero bT H bo e v ls ge off c w hbo hs hH he (by omega) (by omega)
  | f + 1, u, e, v, ls, ge, off, c, w, hu, hf, hs, hH, hb, he, hl, hel => short_step bT H bo w0 ht hk hS h0 hbo f (short_any bT H bo w0 ht hk hS h0 hbo f) u e v ls ge off c w hu hf hs hH hb he hl hel
end Go.Proofs.Ytmlhecfhhhebnaa

/- The reference's 'before' and 'insert': the walks. -/
namespace Go.Proofs.Ytmlhecfhhhebnaa
open Go.RowKit
attribute [local go_sem] Oper.semAt_some

theorem ltL_at : ∀ {a b : List Nat} {k : Nat} (h1 : k < a.length) (h2 : k < b.length), a.take k = b.take k → a[k] ≠ b[k] → ltL a b = decide (a[k] < b[k])
  | [], _, _, h1, _, _, _ => by simp at h1
  | _ :: _, [], _, _, h2, _, _ => by simp at h2
  | x :: a, y :: b, 0, _, _, _, hn => by
    have hn' : x ≠ y := hn
    have : (x == y) = false := by simpa using hn'
    simp [ltL, this]
  | x :: a, y :: b, k + 1, h1, h2, ht, hn => by
    simp only [List.take_succ_cons, List.cons.injEq] at ht
    obtain ⟨rfl, ht⟩ := ht
    have ih := ltL_at (a := a) (b := b) (k := k) (by simpa using h1) (by simpa using h2) ht hn
    simp only [ltL, List.getElem_cons_succ]
    rw [ih]
    simp

set_option maxRecDepth 20000 in
set_option maxHeartbeats 1000000 in
theorem before_any (va vb : Value) (a b : List Nat) (w : World) (ha : Ints w va (toI a)) (hb : Ints w vb (toI b)) (hl : a.length = b.length) :
    Calls Try.prog 95 #[va, vb] w fun e w' => e = .returned (.bool (ltL a b)) ∧ w = w' := by
  obtain ⟨aa, ca, rfl, hla, hcla, hca⟩ := ha.openN
  obtain ⟨ab, cb, rfl, hlb, hclb, hcb⟩ := hb.openN
  have hle : a.length ≤ b.length := by omega
  have hge : b.length ≤ a.length := by omega
  have HCA := Lib.hid hca
  have HCB := Lib.hid hcb
  clear hl ha hb hca hcb
  go_enter Try.func95, Try.ntmps95
  go_wp2
  go_loop [9] (fun ix => ∃ k : Nat, k ≤ a.length ∧ ix = .int .i64 k ∧ a.take k = b.take k) (fun ix => a.length - (intOf ix).toNat)
  case atStart => exact ⟨0, Nat.zero_le _, rfl, rfl⟩
  case round =>
    obtain ⟨k, hk, rfl, ht⟩ := hrel
    have HT := Lib.hid ht
    clear ht
    by_cases hlt : k < a.length
    · have hlt2 : k < b.length := by omega
      obtain ⟨b1, o1, rfl, _, hc1⟩ := HCA.out (ne_nil_of_lt hlt)
      obtain ⟨b2, o2, rfl, _, hc2⟩ := HCB.out (ne_nil_of_lt hlt2)
      have hcx := hc1 k hlt
      have hcy := hc2 k hlt2
      have hki : (k : Int) < (a.length : Int) := by omega
      have hki2 : (k : Int) < (b.length : Int) := by omega
      have HAT := Lib.hid (fun (h : a[k] ≠ b[k]) => ltL_at hlt hlt2 HT.out h)
      have HTS := Lib.hid (fun (h : a[k] = b[k]) => show a.take (k + 1) = b.take (k + 1) by rw [take_succ' a k hlt, take_succ' b k hlt2, h, HT.out])
      obtain ⟨x, hx⟩ : ∃ x, a[k] = x := ⟨_, rfl⟩
      obtain ⟨y, hy⟩ : ∃ y, b[k] = y := ⟨_, rfl⟩
      rw [hx] at hcx
      rw [hy] at hcy
      rw [hx, hy] at HAT HTS
      clear hx hy hc1 hc2
      by_cases hxy : x = y
      · subst hxy
        have hne : ((x : Int) != (x : Int)) = false := by simp
        have HTX := Lib.hid (HTS.out rfl)
        go_wp2
        go_round
        case rel => exact ⟨k + 1, by omega, by go_num, HTX.out⟩
        case measure => simp [intOf]; omega
      · have hne : ((x : Int) != (y : Int)) = true := by simp; omega
        have HX := Lib.hid (HAT.out hxy)
        clear hxy
        go_wp2
        go_ret
        exact ⟨by rw [HX.out]; simp, rfl⟩
    · obtain rfl : k = a.length := by omega
      have hki : ¬ ((a.length : Nat) : Int) < (a.length : Int) := by omega
      have HE := Lib.hid (show ltL a b = false by
        have h := HT.out
        rw [List.take_of_length_le (by omega), List.take_of_length_le (by omega)] at h
        rw [h]; exact ltL_irrefl b)
      go_wp2
      go_ret
      exact ⟨ret_bool HE.out.symm, rfl⟩

/-- A fresh slice of no rows. -/
theorem rows_fresh {S : Nat → Prop} {B g : Nat} (w : World) (hg : w.heap.size = g) (hB : B ≤ g) : RowsF S B (w.alloc (.cells #[] 24)) (.slice (some ⟨g, 0, none⟩) 0 0) [] := by
  subst hg
  exact ⟨[], ⟨by simp, .inr ⟨w.heap.size, 0, #[], rfl, hB, heap_alloc_new w _, by simp, by unfold maxLen; omega, by simp, by simp⟩⟩, by simp⟩
/-- 'append(rows, rows...)' onto a slice of rows of the call's own. -/
theorem run_appR {ty : TypeId} {S : Nat → Prop} {B : Nat} {w : World} {v : Value} {ls ms : List (List Nat)} {us : List Value} {ad : Addr} {c : Nat} (h : RowsF S B w v ls) (hul : us.length = ms.length)
    (hsrc : (∀ (j : Nat) (u : Value), us[j]? = some u → w.cell? (ad.add j) = some u) ∧ ∀ (j : Nat) (u : Value) (l : List Nat), us[j]? = some u → ms[j]? = some l → Fz S w u (toI l)) (hS : ∀ k, S k → v.ownBlock ≠ some k) (hl : ls.length + ms.length < 1000000) (hB : B ≤ w.heap.size) :
    ∃ v' w', (Builtin.append_ #[34, 34] ty #[v, .slice (some ad) ms.length c]).run Try.prog w = .ok v' w' ∧ RowsF S B w' v' (ls ++ ms) ∧ w.grownBy w' v.ownBlock ∧ (v'.ownBlock = v.ownBlock ∨ v'.ownBlock = some w.heap.size) := by
  obtain ⟨i, hi1, hz0, hz1, hz2⟩ := info_parts infoR
  obtain ⟨vs, ho, hr⟩ := h
  have hvl : vs.length = ls.length := by have := ho.1; omega
  obtain ⟨v', w', hrun, r1, r2, _, r4⟩ := run_append_own_at (P := Try.prog) w B 34 ty 24 i (.slice none 0 0) 1 24 Try.underlying34 hi1 hz0 hz1 hz2 rfl (by decide) v ls.length vs ho ad ms.length c us (by omega)
    hsrc.1 (fun x hx => by
      obtain ⟨j, hj, rfl⟩ := List.getElem_of_mem hx
      exact (hsrc.2 j _ (ms[j]'(by omega)) (List.getElem?_eq_getElem hj) (List.getElem?_eq_getElem (by omega))).one) (by unfold maxLen; omega) (by omega) hB
  have hsm : Sm S w w' := Sm.of_grown r2 fun k hk e => hS k hk e.symm
  refine ⟨v', w', hrun, ⟨vs ++ us, by rw [List.length_append]; exact r1, fun i x y h1 h2 => ?_⟩, r2, r4⟩
  by_cases hi : i < vs.length
  · rw [List.getElem?_append_left hi] at h1
    rw [List.getElem?_append_left (by omega)] at h2
    exact (hr i x y h1 h2).kept hsm
  · rw [List.getElem?_append_right (by omega)] at h1
    rw [List.getElem?_append_right (by omega), ← hvl] at h2
    exact (hsrc.2 _ x y h1 h2).kept hsm
theorem step_appR {ops : Array Oper} {o : Oper} {a : Act} {w : World} {Q : Exit → Act → World → Prop} {K : Act → World → Prop} {E : Prop} (hg : o.guard = none) (s x : Operand) (hop : o.op = Op.call { callee := Callee.builtin Builtin.append, args := #[s, x], argTypes := #[34, 34] })
    {S : Nat → Prop} {B : Nat} {v : Value} {ls ms : List (List Nat)} {us : List Value} {ad : Addr} {c : Nat} (hs : a.eval s = v) (hx : a.eval x = .slice (some ad) ms.length c) (h : RowsF S B w v ls) (hul : us.length = ms.length)
    (hsrc : (∀ (j : Nat) (u : Value), us[j]? = some u → w.cell? (ad.add j) = some u) ∧ ∀ (j : Nat) (u : Value) (l : List Nat), us[j]? = some u → ms[j]? = some l → Fz S w u (toI l)) (hS : ∀ k, S k → v.ownBlock ≠ some k) (hl : ls.length + ms.length < 1000000) (hB : B ≤ w.heap.size)
    (hK : ∀ v' w', RowsF S B w' v' (ls ++ ms) → w.grownBy w' v.ownBlock → (v'.ownBlock = v.ownBlock ∨ v'.ownBlock = some w.heap.size) → K (a.put o.dst v') w') :
    if Region.wanted o (yielded ops a.tmps) = true then Oper.wp Try.prog o a w K Q else E := by
  have hw : Region.wanted o (yielded ops a.tmps) = true := by simp [Region.wanted, hg]
  rw [if_pos hw]
  obtain ⟨v', w', hrun, r1, r2, r3⟩ := run_appR (ty := o.type) h hul hsrc hS hl hB
  unfold Oper.wp
  have hx' := hK v' w' r1 r2 r3
  simp [execOp, hop, resolve, invoke, builtin, hs, hx, Result.andThen]
  rw [hrun]
  exact hx'
end Go.Proofs.Ytmlhecfhhhebnaa

/- slices.SortFunc(rows, slices.Compare): the walk's contract. -/
namespace Go.Proofs.Ytmlhecfhhhebnaa
open Go.RowKit Go.Shelf Go.Lib Go.Sort

section
variable {α : Type} [Inhabited α] {enc : α → Value}
theorem heap_sortA {w : World} {g n : Nat} {os : Array Obj} {cur : Array Value} {e : TypeId} {fr : Nat × Nat} (d : Array α) (hb : w.heap[g]? = some (.cells cur e fr)) :
    (sortWorld enc w g 0 n d os).heap[g]? = some (.cells (putCells enc 0 d cur) e fr) := by
  have hg : g < w.heap.size := (Array.getElem?_eq_some_iff.1 hb).1
  unfold sortWorld
  rw [heap_grow_old _ _ (by simpa using hg)]
  simp [putRow, mapBlock, Sort.ahead, Array.getElem?_modify, hb, onCells]
theorem grown_sortA {w : World} {g n : Nat} {os : Array Obj} (d : Array α) : w.grownBy (sortWorld enc w g 0 n d os) (some g) := by
  refine ⟨rfl, rfl, rfl, by simp [sortWorld], fun k hk hne => ?_⟩
  unfold sortWorld
  rw [heap_grow_old _ _ (by simpa using hk)]
  have : g ≠ k := fun e => hne (by rw [e])
  simp [putRow, mapBlock, Sort.ahead, Array.getElem?_modify, this]
theorem take_sortA (cur : Array Value) (ts : List α) (h : ts.length ≤ cur.size) : (putCells enc 0 ts.toArray cur).toList.take ts.length = ts.map enc := by
  apply List.ext_getElem?
  intro j
  by_cases hj : j < ts.length
  · rw [List.getElem?_take_of_lt hj, Array.getElem?_toList]
    simp [putCells, hj, show j < cur.size by omega]
  · rw [List.getElem?_take_eq_none (by omega), List.getElem?_eq_none (by simp; omega)]
end

theorem cmpL_ltL (a b : List Nat) : decide (cmpL (toI a) (toI b) < 0) = ltL a b := by
  cases h : ltL a b with
  | true => rw [(cmpL_lt h).1]; rfl
  | false =>
    cases h2 : ltL b a with
    | true => rw [(cmpL_lt h2).2]; rfl
    | false =>
      rw [ltL_total h h2, cmpL_self]; rfl

set_option maxHeartbeats 1000000 in
theorem sortRows_any {S : Nat → Prop} {B g cap : Nat} {w : World} {L : List (List Nat)} (h : RowsF S B w (.slice (some ⟨g, 0, none⟩) L.length cap) L) (hS : ∀ k, S k → k ≠ g) (hnd : L.Nodup) (h0 : 0 < L.length) (hl : L.length ≤ 1000000) :
    Calls Try.prog 77 #[.slice (some ⟨g, 0, none⟩) L.length cap, .func (.func 50) #[] #[]] w fun e w' => e = .returned (.tuple #[]) ∧ RowsF S B w' (.slice (some ⟨g, 0, none⟩) L.length cap) (L.mergeSort geL) ∧ w.grownBy w' (some g) := by
  haveI : Inhabited (Fin L.length) := ⟨⟨0, h0⟩⟩
  obtain ⟨vs, ho, hr⟩ := h
  have hvl : vs.length = L.length := by have := ho.1; omega
  rcases ho.2 with ⟨hv, _⟩ | ⟨g', cap', cur, hv, hB, hb, h1, h2, h3, h4⟩
  · cases hv
  obtain ⟨e1, _, rfl⟩ := Value.slice.inj hv
  obtain rfl : g = g' := by cases e1; rfl
  have hrow : ∀ i : Fin L.length, Fz S w (vs[i.val]'(by rw [hvl]; exact i.isLt)) (toI L[i.val]) := fun i => hr i.val _ _ (List.getElem?_eq_getElem _) (List.getElem?_eq_getElem _)
  obtain ⟨enc, henc⟩ : ∃ enc : Fin L.length → Value, enc = fun i => vs[i.val]'(by rw [hvl]; exact i.isLt) := ⟨_, rfl⟩
  obtain ⟨cf, hcf⟩ : ∃ cf : Fin L.length → Fin L.length → Int, cf = fun i j => cmpL (toI L[i.val]) (toI L[j.val]) := ⟨_, rfl⟩
  have hrow2 : ∀ w' x, Sm S w w' → Ints w' (enc x) (toI L[x.val]) := fun w' x hs => by rw [henc]; exact ((hrow x).kept hs).ints
  have hrow3 : ∀ w' x, Sm S w w' → Fz S w' (enc x) (toI L[x.val]) := fun w' x hs => by rw [henc]; exact (hrow x).kept hs
  have hone : OneCell enc := fun i => by rw [henc]; exact (hrow i).one
  have hlt : ∀ i j, ltOf cf i j = ltL L[i.val] L[j.val] := fun i j => by unfold ltOf; rw [hcf]; exact cmpL_ltL _ _
  have hO : SWO (ltOf cf) := by
    refine ⟨fun x => by rw [hlt]; exact ltL_irrefl _, fun x y z a b => by rw [hlt] at *; exact ltL_trans a b, fun x y z a b => ?_⟩
    rw [hlt] at *
    cases hc : ltL L[x.val] L[z.val] with
    | false => rfl
    | true =>
      cases hyx : ltL L[y.val] L[x.val] with
      | true => rw [ltL_trans hyx hc] at b; cases b
      | false => rw [ltL_total a hyx, b] at hc; cases hc
  have hT : ∀ x y, ltOf cf x y = false → ltOf cf y x = false → x = y := fun x y a b => by
    rw [hlt] at a b
    exact Fin.ext ((List.getElem_inj hnd).1 (ltL_total a b))
  have eg : ∀ args w, (callFunc 50 args).run Try.prog w = .ok (.enter 50 args) w := enters_of Try.func50 (by kernel_rfl) rfl
  have hsz : (List.finRange L.length).toArray.size = L.length := by simp
  have hH : Holds enc w g 0 (List.finRange L.length).toArray := by
    intro j hj
    have hjl : j < L.length := by simpa using hj
    refine ⟨?_, by simp [World.frozen?, hb]⟩
    rw [Nat.zero_add, World.ownsRow.cellAt ho j (by omega), List.getElem?_eq_getElem (by omega), getElem!_pos _ j hj]
    rw [henc]
    simp
  have hcmp : CmpLays1 Try.prog 50 #[] enc cf g 0 (List.finRange L.length).toArray.size w := by
    intro q os dk hdk x y
    have hs : Sm S w (sortWorld enc w g 0 q dk os) := Sm.of_grown (grown_sortA dk) fun k hk e => hS k hk (by cases e; rfl)
    have := Compare_any (enc x) (enc y) _ _ (sortWorld enc w g 0 q dk os) (hrow2 _ x hs) (hrow2 _ y hs)
    refine this.mono fun e w' hh => ?_
    obtain ⟨he, rfl⟩ := hh
    refine ⟨by rw [he, hcf], 0, #[], ?_⟩
    rw [grow_empty]; rfl
  have hS1 := Any.slices_SortFunc_total sortW enc hone cf hO 50 #[] g 0 cap (List.finRange L.length).toArray w eg hcmp hH (Array.getElem?_eq_some_iff.1 hb).1 (by rw [hsz]; omega) hT
  change Calls Try.prog 77 _ _ _ at hS1
  rw [hsz] at hS1
  refine hS1.mono fun e w' hh => ?_
  obtain ⟨he, n, os, rfl⟩ := hh
  have htm : ((List.finRange L.length).mergeSort fun x y => !(ltOf cf) y x).map (fun i => L[i.val]) = L.mergeSort geL := by
    rw [List.map_mergeSort (s := geL)]
    · congr 1
      apply List.ext_getElem (by simp)
      intro i h1 h2
      simp
    · intro a _ b _
      rw [hlt]; rfl
  obtain ⟨ts, hts⟩ : ∃ ts, ((List.finRange L.length).mergeSort fun x y => !(ltOf cf) y x) = ts := ⟨_, rfl⟩
  rw [hts] at htm
  have htl : ts.length = L.length := by rw [← hts]; simp
  rw [List.toList_toArray, hts]
  refine ⟨he, ⟨ts.map enc, ⟨by simp [htl], .inr ⟨g, cap, _, by simp, hB, heap_sortA _ hb, by simpa using h1, h2, by simp [putCells, h3], ?_⟩⟩, ?_⟩, grown_sortA _⟩
  · have := take_sortA (enc := enc) cur ts (by rw [h3]; omega)
    rw [← this, htl]
    simp
  · intro i u l hu hl'
    rw [← htm] at hl'
    rw [List.getElem?_map] at hu hl'
    cases hti : ts[i]? with
    | none => rw [hti] at hu; cases hu
    | some x =>
      rw [hti] at hu hl'
      obtain rfl := Option.some.inj hu
      obtain rfl := Option.some.inj hl'
      have hs : Sm S w (sortWorld enc w g 0 n ts.toArray os) := Sm.of_grown (grown_sortA _) fun k hk e => hS k hk (by cases e; rfl)
      exact hrow3 _ x hs
end Go.Proofs.Ytmlhecfhhhebnaa

/- Words: the program's walk. -/
namespace Go.Proofs.Ytmlhecfhhhebnaa
open Go.RowKit
attribute [local go_sem] Oper.semAt_some

theorem shSt_start (w : World) : ShSt (w.heap.size + 1) w.heap.size ((w.alloc (.cells #[.slice none 0 0] 34)).alloc (.cells #[] 3)) (.slice none 0 0) [] :=
  ⟨(Held.new w 34 [.slice none 0 0]).alloc _, fun _ => False, GrowI.nil _ _, fun _ h => h.elim⟩
theorem below_two (w : World) (o p : Obj) : Below w.heap.size w ((w.alloc o).alloc p) := ((Below.refl _ _).alloc (Nat.le_refl _) _).alloc (by simp) _
theorem fz_none (S : Nat → Prop) (w : World) (ad : Option Addr) (c : Nat) : Fz S w (.slice ad 0 c) (toI []) := ⟨ad, c, rfl, by simp [toI], by simp [toI], fun h => absurd rfl h⟩
theorem ret_rows {a b : Value} (h : a = b) : Ending.returned (.tuple #[a, .int .i64 0]) = .returned (.tuple #[b, .int .i64 0]) := by rw [h]

set_option maxRecDepth 20000 in
set_option maxHeartbeats 1000000 in
theorem Words_no (K : Nat) (n : Int) (v : Value) (xs : List Int) (w : World) (hK : K < 256) (hx : Ints w v xs) (h : okI K n [xs] = false) :
    Calls Try.prog 42 #[grpI K n, v] w (WordErr w) := by
  have RD := Lib.hid (fun w' v' (ha : Args w' v' [xs]) => read_no K n v' [xs] w' hK ha h)
  have HX := Lib.hid (fun o : Obj => hx.below ((Below.refl _ _).alloc (Nat.le_refl _) o))
  obtain ⟨a, c, rfl, hx1⟩ := hx
  unfold grpI at *
  clear h hx1
  go_enter Try.func42, Try.ntmps42
  go_wp2_with (go_at_call 59; refine (RD.out _ _ (args1 (HX.out _) _ (by simp))).mono ?_; rintro e w1 ⟨rfl, hb1⟩)
  go_ret2
  exact ⟨rfl, below_al2 (Nat.le_refl _) hb1⟩

/-- .. and no row lies in the slice's own block. -/
def RowsOutS (ls : List (List Nat)) (w : World) (e : Ending) (w' : World) : Prop := ∃ v', e = .returned (.tuple #[v', .int .i64 0]) ∧ (∃ S : Nat → Prop, (∀ k, S k → v'.ownBlock ≠ some k) ∧ RowsF S w.heap.size w' v' ls) ∧ Below w.heap.size w w'
set_option maxRecDepth 20000 in
set_option maxHeartbeats 2000000 in
theorem Words_yesS (K n : Nat) (v : Value) (xs : List Int) (w : World) (hv : validB K n = true) (hx : Ints w v xs) (h : wordB (mirs K n) xs = true) :
    Calls Try.prog 42 #[.agg #[.int .u8 (K : Nat), .int .i64 (n : Nat)], v] w (RowsOutS (shR (wordsG K n) (nextG K n) (lenX (wordsG K n) (ix K n xs)) (ix K n xs)) w) := by
  have HX := Lib.hid (fun o : Obj => hx.below ((Below.refl _ _).alloc (Nat.le_refl _) o))
  have hil := ix_lt hv h
  obtain ⟨u, hu⟩ : ∃ u, ix K n xs = u := ⟨_, rfl⟩
  have RD := Lib.hid (fun w' v' (ha : Args w' v' [xs]) => by have := read_yes K n v' [xs] w' hv ha (by simpa using h); rw [List.map_cons, List.map_nil, hu] at this; exact this)
  rw [hu] at hil ⊢
  obtain ⟨f, hf⟩ : ∃ f, lenX (wordsG K n) u = f := ⟨_, rfl⟩
  have hck := ckSG hv
  have hfew := shL_few hck.1 hck.2 (inX hv) (e := []) hil hf
  have hf12 : f ≤ 12 := by rw [← hf]; unfold lenX; rw [getDL hil]; exact (tkG hv).short _ (List.getElem_mem hil)
  have hsort := sort_shL (wordsG K n) (nextG K n) f u
  have hnd := shL_nodup (wordsG K n) (nextG K n) f u []
  have SH := Lib.hid (fun (bT bo H : Nat) (w0 w' : World) (vv : Value) (ge off c : Nat) (ht : TabIs K n (wordsG K n) (nextG K n) w0 bT) (h0 : w0.heap.size ≤ bo) (hbo : bo < H) (hs : ShSt H bo w' vv []) (hH : H ≤ w'.heap.size) (hb : Below w0.heap.size w0 w') (he : Fz (fun k => k ≠ bo ∧ vv.ownBlock ≠ some k) w' (.slice (some ⟨ge, off, none⟩) 0 c) (toI [])) => by have := short_any bT H bo w0 ht (tkG hv) hck.1 h0 hbo f u [] vv [] ge off c w' hil hf hs hH hb he (by simp; omega) (by simp; omega); rw [List.nil_append, List.length_nil] at this; exact this)
  rw [hf]
  obtain ⟨L, hL⟩ : ∃ L, shL (wordsG K n) (nextG K n) f u [] = L := ⟨_, rfl⟩
  obtain ⟨R, hR⟩ : ∃ R, shR (wordsG K n) (nextG K n) f u = R := ⟨_, rfl⟩
  rw [hL] at hnd hfew SH hsort
  rw [hR] at hsort ⊢
  have ST := Lib.hid (fun (S : Nat → Prop) (B g cap : Nat) (w' : World) (hr : RowsF S B w' (.slice (some ⟨g, 0, none⟩) L.length cap) L) (hS : ∀ k, S k → k ≠ g) => by have := sortRows_any hr hS hnd hfew.2 (by omega); rw [hsort] at this; exact this)
  have hRl : R.length = L.length := by rw [← hsort]; simp
  have HRL := Lib.hid hRl
  obtain ⟨a, c, rfl, hx1⟩ := hx
  have hLp := hfew.2
  clear h hx1 hv hL hR hil hu hf hck hfew hf12 hsort hnd hRl
  go_enter Try.func42, Try.ntmps42
  go_upto_region 5 with (go_at_call 59; refine (RD.out _ _ (args1 (HX.out _) _ (by simp))).mono ?_; rintro e w1 ⟨bT, v1, rfl, ht1, ho1, hb1⟩; obtain ⟨g1, c1, rfl, hc1⟩ := own_one ho1)
  have HB1 := Lib.hid (below_al2 (Nat.le_refl _) hb1)
  have hc1a := (((Below.refl w1.heap.size w1).alloc (Nat.le_refl _) (.cells #[.slice none 0 0] 34)).cell (p := ⟨g1, 0, none⟩) (World.block_lt_of_cell? _ _ hc1)).trans hc1
  clear hb1 ho1
  go_wp2_with (first
    | (go_at_call 77; refine (ST.out _ _ g3 cap3 w3 HG3.out.1 HS3.out).mono ?_; rintro e w5 ⟨rfl, hr5, hg5⟩; have hc5 := (HH3.out.grown hg5 HNE.out).at (i := 0) rfl)
    | (go_at_call 75; refine (SH.out bT w1.heap.size (w1.heap.size + 1) w1 _ (.slice none 0 0) (w1.heap.size + 1) 0 0 ht1 (Nat.le_refl _) (by omega) (shSt_start w1) (by simp) (below_two w1 _ _) (fz_none _ _ _ _)).mono ?_; rintro e w3 ⟨v3, rfl, hs3, hg3⟩; have HB3 := Lib.hid (hg3.lower (shSt_start w1) (below_two w1 _ _) (Nat.le_refl _) (by omega)); obtain ⟨hh3, S3, hG3, hS3⟩ := hs3; obtain ⟨g3, cap3, _, rfl, hgH, _, _, _⟩ := hG3.1.at 0 hLp; have hc3 := hh3.at (i := 0) rfl; have HH3 := Lib.hid hh3; have HG3 := Lib.hid hG3; have HLO := Lib.hid hgH; have HNE := Lib.hid (show some w1.heap.size ≠ some g3 from fun e => by cases e; omega); have HS3 := Lib.hid (show ∀ k, S3 k → k ≠ g3 from fun k hk e => (hG3.2 k hk).2 (by rw [e]; rfl)); have HSE := Lib.hid (fun k (hk : S3 k) => (hG3.2 k hk).2); clear hg3 hh3 hG3 hS3 hgH))
  go_ret2
  exact ⟨_, rfl, ⟨_, HSE.out, hr5.base (by have := HB1.out.size; omega)⟩, HB1.out.trans ((HB3.out.grown hg5 HB3.out.size (fun k hk => by cases hk; have := HLO.out; omega)).mono HB1.out.size)⟩
theorem Words_yes (K n : Nat) (v : Value) (xs : List Int) (w : World) (hv : validB K n = true) (hx : Ints w v xs) (h : wordB (mirs K n) xs = true) :
    Calls Try.prog 42 #[.agg #[.int .u8 (K : Nat), .int .i64 (n : Nat)], v] w (RowsOut (shR (wordsG K n) (nextG K n) (lenX (wordsG K n) (ix K n xs)) (ix K n xs)) w) :=
  (Words_yesS K n v xs w hv hx h).mono fun _ _ ⟨v', he, ⟨_, _, hr⟩, hb⟩ => ⟨v', he, hr.mono fun _ _ => trivial, hb⟩
end Go.Proofs.Ytmlhecfhhhebnaa

/- The reference's 'insert': the walks. -/
namespace Go.Proofs.Ytmlhecfhhhebnaa
open Go.RowKit
attribute [local go_sem] Oper.semAt_some

theorem insW_at (y : List Nat) : ∀ (ls : List (List Nat)) (k : Nat), k ≤ ls.length → (∀ j (h : j < ls.length), j < k → ltL ls[j] y = true) → (∀ h : k < ls.length, ltL ls[k] y = false) → insW ls y = ls.take k ++ [y] ++ ls.drop k
  | [], k, hk, _, _ => by
    have : k = 0 := by simpa using hk
    subst this; rfl
  | x :: ls, 0, _, _, h2 => by
    have hx : ltL x y = false := h2 (by simp)
    simp [insW, hx]
  | x :: ls, k + 1, hk, h1, h2 => by
    have hx : ltL x y = true := h1 0 (by simp) (by omega)
    have ih := insW_at y ls k (by simpa using hk) (fun j h hj => h1 (j + 1) (by simpa using h) (by omega)) (fun h => h2 (by simpa using h))
    have e : insW (x :: ls) y = x :: insW ls y := by simp [insW, hx]
    rw [e, ih]
    simp

/-- Rows that are only read, from a place of a block on. -/
structure RowsR (S : Nat → Prop) (w : World) (g off : Nat) (vs : List Value) (ls : List (List Nat)) : Prop where
  len : vs.length = ls.length
  blk : g < w.heap.size
  cell : ∀ (j : Nat) (u : Value), vs[j]? = some u → w.cell? ⟨g, off + j, none⟩ = some u
  row : ∀ (j : Nat) (u : Value) (l : List Nat), vs[j]? = some u → ls[j]? = some l → Fz S w u (toI l)
theorem RowsR.below {S : Nat → Prop} {w w' : World} {g off : Nat} {vs : List Value} {ls : List (List Nat)} (h : RowsR S w g off vs ls) (hb : Below w.heap.size w w') : RowsR S w' g off vs ls :=
  ⟨h.len, Nat.lt_of_lt_of_le h.blk hb.size, fun j u hj => (hb.cell (p := ⟨g, off + j, none⟩) h.blk).trans (h.cell j u hj), fun j u l h1 h2 => (h.row j u l h1 h2).kept (S := S) (Sm.of_below hb)⟩
theorem RowsR.take {S : Nat → Prop} {w : World} {g off : Nat} {vs : List Value} {ls : List (List Nat)} (h : RowsR S w g off vs ls) (k : Nat) : (∀ (j : Nat) (u : Value), (vs.take k)[j]? = some u → w.cell? ((⟨g, off, none⟩ : Addr).add j) = some u) ∧ ∀ (j : Nat) (u : Value) (l : List Nat), (vs.take k)[j]? = some u → (ls.take k)[j]? = some l → Fz S w u (toI l) := by
  refine ⟨fun j u hj => ?_, fun j u l h1 h2 => ?_⟩
  · have e2 : (⟨g, off, none⟩ : Addr).add j = ⟨g, off + j, none⟩ := by unfold Addr.add; split <;> simp_all
    rw [e2]
    rw [List.getElem?_take] at hj
    split at hj
    · exact h.cell j u hj
    · cases hj
  · rw [List.getElem?_take] at h1 h2
    split at h1
    · rename_i hk
      rw [if_pos hk] at h2
      exact h.row j u l h1 h2
    · cases h1
theorem RowsR.drop {S : Nat → Prop} {w : World} {g off : Nat} {vs : List Value} {ls : List (List Nat)} (h : RowsR S w g off vs ls) {k cap : Nat} (hk : k ≤ ls.length) (hc : ls.length ≤ cap) {ad : Addr} (had : (if cap = k then some (⟨g, off, none⟩ : Addr) else some ⟨g, off + k, none⟩) = some ad) :
    (∀ (j : Nat) (u : Value), (vs.drop k)[j]? = some u → w.cell? (ad.add j) = some u) ∧ ∀ (j : Nat) (u : Value) (l : List Nat), (vs.drop k)[j]? = some u → (ls.drop k)[j]? = some l → Fz S w u (toI l) := by
  refine ⟨fun j u hj => ?_, fun j u l h1 h2 => ?_⟩
  · rw [List.getElem?_drop] at hj
    have hlt : k + j < vs.length := (List.getElem?_eq_some_iff.1 hj).1
    have hl := h.len
    rw [if_neg (by omega)] at had
    obtain rfl := Option.some.inj had
    have e2 : (⟨g, off + k, none⟩ : Addr).add j = ⟨g, off + (k + j), none⟩ := by unfold Addr.add; split <;> simp_all; omega
    rw [e2]
    exact h.cell _ u hj
  · rw [List.getElem?_drop] at h1 h2
    exact h.row _ u l h1 h2
theorem below_two' (w : World) (o p : Obj) : Below w.heap.size w ((w.alloc o).alloc p) := ((Below.refl _ _).alloc (Nat.le_refl _) _).alloc (by simp) _
theorem rows_fresh1 {S : Nat → Prop} (w : World) (o : Obj) : RowsF S w.heap.size ((w.alloc o).alloc (.cells #[] 24)) (.slice (some ⟨w.heap.size + 1, 0, none⟩) 0 0) [] := rows_fresh (w.alloc o) (by simp) (by omega)
theorem held_ins1 (w : World) (u : Value) {o : Obj} {w1 : World} {n c : Nat} (hg : ((w.alloc o).alloc (.cells #[u] 24)).drew.grownBy w1 (Value.slice (some ⟨w.heap.size, 0, none⟩) n c).ownBlock) : Held w1 (w.heap.size + 1) 24 [u] := by
  have h : Held ((w.alloc o).alloc (.cells #[u] 24)) (w.heap.size + 1) 24 [u] := Held.made (l := [u]) (by simp)
  exact h.drew.grown hg (fun e => by simp [Value.ownBlock] at e)
theorem held_ins2 (w : World) (u : Value) {o : Obj} {w1 : World} {n c : Nat} (hg : ((w.alloc (.cells #[u] 24)).alloc o).drew.grownBy w1 (Value.slice (some ⟨w.heap.size + 1, 0, none⟩) n c).ownBlock) : Held w1 w.heap.size 24 [u] := by
  have h : Held ((w.alloc (.cells #[u] 24)).alloc o) w.heap.size 24 [u] := (Held.new w 24 [u]).alloc o
  exact h.drew.grown hg (fun e => by simp [Value.ownBlock] at e)
/-- One step 'append(rows, rows...)' of 'insert'. -/
theorem step_ins1 {ops : Array Oper} {o : Oper} {a : Act} {w0 wa : World} {Q : Exit → Act → World → Prop} {K : Act → World → Prop} {E : Prop} (hg : o.guard = none) (s x : Operand) (hop : o.op = Op.call { callee := Callee.builtin Builtin.append, args := #[s, x], argTypes := #[34, 34] })
    {v : Value} {ls ms : List (List Nat)} {us : List Value} {ad : Addr} {c n : Nat} (hs : a.eval s = v) (hx : a.eval x = .slice (some ad) n c) (hn : ms.length = n) (hul : us.length = ms.length)
    (hsrc : ∀ w', Below w0.heap.size w0 w' → (∀ (j : Nat) (u : Value), us[j]? = some u → w'.cell? (ad.add j) = some u) ∧ ∀ (j : Nat) (u : Value) (l : List Nat), us[j]? = some u → ms[j]? = some l → Fz (fun k => k < w0.heap.size) w' u (toI l))
    (hb : Below w0.heap.size w0 wa) (h : RowsF (fun k => k < w0.heap.size) w0.heap.size wa v ls) (hl : ls.length + n < 1000000)
    (hK : ∀ v' w', RowsF (fun k => k < w0.heap.size) w0.heap.size w' v' (ls ++ ms) → Below w0.heap.size w0 w' → wa.grownBy w' v.ownBlock → K (a.put o.dst v') w') :
    if Region.wanted o (yielded ops a.tmps) = true then Oper.wp Try.prog o a wa K Q else E := by
  subst hn
  refine step_appR hg s x hop hs hx h hul (hsrc wa hb) (fun k hk e => by have := (h.own k e).1; omega) hl hb.size fun v' w' r1 r2 _ => ?_
  exact hK v' w' r1 (hb.grown r2 hb.size fun k hk => (h.own k hk).1) r2
theorem step_ins2 {ops : Array Oper} {o : Oper} {a : Act} {w0 wa : World} {Q : Exit → Act → World → Prop} {K : Act → World → Prop} {E : Prop} (hg : o.guard = none) (s x : Operand) (hop : o.op = Op.call { callee := Callee.builtin Builtin.append, args := #[s, x], argTypes := #[34, 34] })
    {v u : Value} {ls : List (List Nat)} {y : List Nat} {b : Nat} (hs : a.eval s = v) (hx : a.eval x = .slice (some ⟨b, 0, none⟩) 1 1) (hu : Fz (fun k => k < w0.heap.size) w0 u (toI y))
    (hb : Below w0.heap.size w0 wa) (h : RowsF (fun k => k < w0.heap.size) w0.heap.size wa v ls) (hc : Held wa b 24 [u]) (hl : ls.length < 1000000)
    (hK : ∀ v' w', RowsF (fun k => k < w0.heap.size) w0.heap.size w' v' (ls ++ [y]) → Below w0.heap.size w0 w' → K (a.put o.dst v') w') :
    if Region.wanted o (yielded ops a.tmps) = true then Oper.wp Try.prog o a wa K Q else E := by
  refine step_appF hg s x hop h (hu.kept (Sm.of_below hb)) hc (fun k hk e => by have := (h.own k e).1; omega) hl hb.size hs hx fun v' w' r1 r2 _ => ?_
  exact hK v' w' r1 (hb.grown r2 hb.size fun k hk => (h.own k hk).1)
/-- What a function that gives rows returns. -/
def RowsV (ls : List (List Nat)) (w : World) (e : Ending) (w' : World) : Prop := ∃ v', e = .returned v' ∧ RowsF (fun _ => True) w.heap.size w' v' ls ∧ Below w.heap.size w w'
def InsTo (ls : List (List Nat)) (y : List Nat) (k : Nat) : Prop := ∀ j (h : j < ls.length), j < k → ltL ls[j] y = true

set_option maxRecDepth 20000 in
set_option maxHeartbeats 2000000 in
theorem insert_some (u : Value) (ls : List (List Nat)) (y : List Nat) (g off cap : Nat) (vs : List Value) (w : World) (h : RowsR (fun k => k < w.heap.size) w g off vs ls) (hu : Fz (fun k => k < w.heap.size) w u (toI y)) (hl : ∀ l ∈ ls, l.length = y.length) (hls : ls.length < 900000) (hcap : ls.length ≤ cap) :
    Calls Try.prog 79 #[.slice (some ⟨g, off, none⟩) ls.length cap, u] w (RowsV (insW ls y) w) := by
  have HR := Lib.hid h
  have HU := Lib.hid hu
  obtain ⟨au, cu, eu, _⟩ := hu
  rw [toI_length] at eu
  subst eu
  have HL := Lib.hid hl
  have HIN := Lib.hid (fun k (hk : k ≤ ls.length) => insW_at y ls k hk)
  clear h hl
  go_enter Try.func79, Try.ntmps79
  go_wp2
  go_loop [5] (fun at' => ∃ k : Nat, k ≤ ls.length ∧ at' = .int .i64 k ∧ InsTo ls y k) (fun at' => ls.length - (intOf at').toNat)
  case atStart => exact ⟨0, Nat.zero_le _, rfl, fun _ _ h => absurd h (Nat.not_lt_zero _)⟩
  case round =>
    obtain ⟨k, hk, rfl, hin⟩ := hrel
    have HI := Lib.hid hin
    clear hin
    by_cases hgo : ∃ h : k < ls.length, ltL ls[k] y = true
    · obtain ⟨hlt, hz⟩ := hgo
      have hki : (k : Int) < (ls.length : Int) := by omega
      have hvk : vs[k]? = some (vs[k]'(by rw [HR.out.len]; exact hlt)) := List.getElem?_eq_getElem _
      obtain ⟨uk, huk⟩ : ∃ uk, vs[k]'(by rw [HR.out.len]; exact hlt) = uk := ⟨_, rfl⟩
      rw [huk] at hvk
      have hcx := HR.out.cell k uk hvk
      have hfz := HR.out.row k uk _ hvk (List.getElem?_eq_getElem hlt)
      have BF := Lib.hid (by have := before_any uk _ ls[k] y w hfz.ints HU.out.ints (HL.out _ (List.getElem_mem hlt)); rw [hz] at this; exact this)
      have HI2 := Lib.hid (show InsTo ls y (k + 1) from fun j h hj => by
        by_cases e : j = k
        · subst e; exact hz
        · exact HI.out j h (by omega))
      obtain ⟨ak, ck, rfl, _⟩ := hfz
      clear hvk huk hz
      go_wp2_with (go_at_call 95; refine BF.out.mono ?_; rintro e w1 ⟨rfl, rfl⟩)
      go_round
      case rel => exact ⟨k + 1, by omega, by go_num, HI2.out⟩
      case measure => simp [intOf]; omega
    · have HE := Lib.hid (HIN.out k hk HI.out (fun h => by
        cases hz : ltL ls[k] y with
        | true => exact absurd ⟨h, hz⟩ hgo
        | false => rfl))
      obtain ⟨ad2, had⟩ : ∃ ad2 : Addr, (if cap = k then some (⟨g, off, none⟩ : Addr) else some ⟨g, off + k, none⟩) = some ad2 := by split <;> exact ⟨_, rfl⟩
      have HT1 := Lib.hid (fun w' (hb : Below w.heap.size w w') => (HR.out.below hb).take k)
      have HT3 := Lib.hid (fun w' (hb : Below w.heap.size w w') => (HR.out.below hb).drop hk hcap had)
      have HN1 := Lib.hid (show (ls.take k).length = k by rw [List.length_take]; omega)
      have HN3 := Lib.hid (show (ls.drop k).length = ls.length - k by rw [List.length_drop])
      have HU1 := Lib.hid (show (vs.take k).length = (ls.take k).length by rw [List.length_take, List.length_take, HR.out.len])
      have HU3 := Lib.hid (show (vs.drop k).length = (ls.drop k).length by rw [List.length_drop, List.length_drop, HR.out.len])
      have hle3 : (ls.take k).length + 1 + (ls.length - k) < 900002 := by rw [HN1.out]; omega
      have hle1 : (ls.take k).length < 1000000 := by rw [HN1.out]; omega
      have hkc : (k : Int) ≤ (cap : Int) := by omega
      have hkl : (k : Int) ≤ (ls.length : Int) := by omega
      by_cases hlt : k < ls.length
      · have hz : ltL ls[k] y = false := by
          cases hz : ltL ls[k] y with
          | true => exact absurd ⟨hlt, hz⟩ hgo
          | false => rfl
        have hki : (k : Int) < (ls.length : Int) := by omega
        have hvk : vs[k]? = some (vs[k]'(by rw [HR.out.len]; exact hlt)) := List.getElem?_eq_getElem _
        obtain ⟨uk, huk⟩ : ∃ uk, vs[k]'(by rw [HR.out.len]; exact hlt) = uk := ⟨_, rfl⟩
        rw [huk] at hvk
        have hcx := HR.out.cell k uk hvk
        have hfz := HR.out.row k uk _ hvk (List.getElem?_eq_getElem hlt)
        have BF := Lib.hid (by have := before_any uk _ ls[k] y w hfz.ints HU.out.ints (HL.out _ (List.getElem_mem hlt)); rw [hz] at this; exact this)
        obtain ⟨ak, ck, rfl, _⟩ := hfz
        clear hvk huk hz hgo
        go_upto_region 4 with (go_at_call 95; refine BF.out.mono ?_; rintro e w1 ⟨rfl, rfl⟩)
        go_region_law (first
          | (refine step_ins1 (w0 := w) (by rfl) _ _ (by rfl) (ls := []) (by rfl) (by rfl) HN1.out HU1.out HT1.out ?hb ?h (by simp; omega) ?_; (case hb => first | exact (below_two' w _ _).drew | exact ((Below.refl _ _).alloc (Nat.le_refl _) _).drew); (case h => first | exact RowsF.drew (rows_fresh1 w _) | exact RowsF.drew ((rows_fresh w rfl (Nat.le_refl _)).alloc _) | exact RowsF.drew (rows_fresh w rfl (Nat.le_refl _))); intro v1 w1 hr1 hb1 hg1)
          | (refine step_ins2 (w0 := w) (by rfl) _ _ (by rfl) (ls := [] ++ ls.take k) (by rfl) (by rfl) HU.out ?hb2 ?h2 ?hc2 (by simp; omega) ?_; (case hb2 => first | exact hb1 | exact hb1.alloc hb1.size _); (case h2 => first | exact hr1 | exact hr1.alloc _); (case hc2 => first | exact Held.new _ _ [_] | exact held_ins1 w _ hg1 | exact held_ins2 w _ hg1); intro v2 w2 hr2 hb2)
          | (refine step_ins1 (w0 := w) (by rfl) _ _ (by rfl) (ls := [] ++ ls.take k ++ [y]) (by rfl) (by rfl) HN3.out HU3.out HT3.out hb2 hr2 (by simp; omega) ?_; intro v3 w3 hr3 hb3 _))
        all_goals
          go_wp2
          go_ret
          exact ⟨_, rfl, by rw [HE.out]; exact hr3.mono fun _ _ => trivial, hb3⟩
      · have hki : ¬ (k : Int) < (ls.length : Int) := by omega
        clear hgo
        go_upto_region 4 with (fail)
        go_region_law (first
          | (refine step_ins1 (w0 := w) (by rfl) _ _ (by rfl) (ls := []) (by rfl) (by rfl) HN1.out HU1.out HT1.out ?hb ?h (by simp; omega) ?_; (case hb => first | exact (below_two' w _ _).drew | exact ((Below.refl _ _).alloc (Nat.le_refl _) _).drew); (case h => first | exact RowsF.drew (rows_fresh1 w _) | exact RowsF.drew ((rows_fresh w rfl (Nat.le_refl _)).alloc _) | exact RowsF.drew (rows_fresh w rfl (Nat.le_refl _))); intro v1 w1 hr1 hb1 hg1)
          | (refine step_ins2 (w0 := w) (by rfl) _ _ (by rfl) (ls := [] ++ ls.take k) (by rfl) (by rfl) HU.out ?hb2 ?h2 ?hc2 (by simp; omega) ?_; (case hb2 => first | exact hb1 | exact hb1.alloc hb1.size _); (case h2 => first | exact hr1 | exact hr1.alloc _); (case hc2 => first | exact Held.new _ _ [_] | exact held_ins1 w _ hg1 | exact held_ins2 w _ hg1); intro v2 w2 hr2 hb2)
          | (refine step_ins1 (w0 := w) (by rfl) _ _ (by rfl) (ls := [] ++ ls.take k ++ [y]) (by rfl) (by rfl) HN3.out HU3.out HT3.out hb2 hr2 (by simp; omega) ?_; intro v3 w3 hr3 hb3 _))
        all_goals
          go_wp2
          go_ret
          exact ⟨_, rfl, by rw [HE.out]; exact hr3.mono fun _ _ => trivial, hb3⟩

/-- 'append(rows, nil...)'. -/
theorem step_none {ops : Array Oper} {o : Oper} {a : Act} {wa : World} {Q : Exit → Act → World → Prop} {K : Act → World → Prop} {E : Prop} (hg : o.guard = none) (s x : Operand) (hop : o.op = Op.call { callee := Callee.builtin Builtin.append, args := #[s, x], argTypes := #[34, 34] })
    {b n cap c : Nat} (hs : a.eval s = .slice (some ⟨b, 0, none⟩) n cap) (hx : a.eval x = .slice none 0 c) (hn : n ≤ cap) (hK : K (a.put o.dst (.slice (some ⟨b, 0, none⟩) n cap)) wa) :
    if Region.wanted o (yielded ops a.tmps) = true then Oper.wp Try.prog o a wa K Q else E := by
  have hw : Region.wanted o (yielded ops a.tmps) = true := by simp [Region.wanted, hg]
  rw [if_pos hw]
  obtain ⟨i, hi1, hz0, hz1, hz2⟩ := info_parts infoR
  have hrun := run_append_room_src (P := Try.prog) wa 34 34 o.type 24 i Try.underlying34 hi1 b 0 n cap (.slice none 0 c) 0 [] (Go.Src.ofNil wa Try.underlying34 c) (by omega) (fun j hj => by simp at hj) (fun j hj => by simp at hj)
  unfold Oper.wp
  simp [execOp, hop, resolve, invoke, builtin, hs, hx, Result.andThen]
  rw [hrun]
  exact hK
theorem rows_one1 {S : Nat → Prop} {B : Nat} {w : World} {v : Value} {l : List Nat} (h : RowsF S B w v [l]) : ∃ g c, v = .slice (some ⟨g, 0, none⟩) 1 c ∧ 1 ≤ c := by
  obtain ⟨vs, ho, _⟩ := h
  rcases ho.2 with ⟨_, hn⟩ | ⟨g, cap, cur, rfl, _, _, h1, _⟩
  · simp at hn
  · exact ⟨g, cap, rfl, h1⟩
theorem held_n1 (w : World) (u : Value) (o : Obj) : Held ((w.alloc o).alloc (.cells #[u] 24)).drew (w.heap.size + 1) 24 [u] := (Held.made (l := [u]) (w := w.alloc o) (by simp)).drew
theorem held_n2 (w : World) (u : Value) (o : Obj) : Held ((w.alloc (.cells #[u] 24)).alloc o).drew w.heap.size 24 [u] := ((Held.new w 24 [u]).alloc o).drew

set_option maxRecDepth 20000 in
set_option maxHeartbeats 2000000 in
theorem insert_nil (u : Value) (y : List Nat) (w : World) (hu : Fz (fun k => k < w.heap.size) w u (toI y)) :
    Calls Try.prog 79 #[.slice none 0 0, u] w (RowsV [y] w) := by
  have HU := Lib.hid hu
  obtain ⟨au, cu, eu, _⟩ := hu
  rw [toI_length] at eu
  subst eu
  go_enter Try.func79, Try.ntmps79
  go_wp2
  go_loop [5] (fun at' => at' = .int .i64 0) (fun _ => 0)
  case atStart => rfl
  case round =>
    subst hrel
    go_upto_region 4 with (fail)
    go_region_law (first
      | (refine step_ins2 (w0 := w) (by rfl) _ _ (by rfl) (ls := []) (by rfl) (by rfl) HU.out ?hb2 ?h2 ?hc2 (by decide) ?_; (case hb2 => exact (below_two' w _ _).drew); (case h2 => first | exact RowsF.drew (rows_fresh1 w _) | exact RowsF.drew ((rows_fresh w rfl (Nat.le_refl _)).alloc _)); (case hc2 => first | exact held_n1 w _ _ | exact held_n2 w _ _); intro v2 w2 hr2 hb2; obtain ⟨g2, c2, rfl, hc2⟩ := rows_one1 hr2)
      | (refine step_none (by rfl) _ _ (by rfl) (by rfl) (by rfl) hc2 ?_)
      | (refine step_none (by rfl) _ _ (by rfl) (by rfl) (by rfl) (Nat.le_refl _) ?_))
    all_goals
      go_wp2
      go_ret
      exact ⟨_, rfl, hr2.mono fun _ _ => trivial, hb2⟩
/-- 'insert' at whatever list. -/
theorem insert_any {S : Nat → Prop} {B : Nat} (v u : Value) (ls : List (List Nat)) (y : List Nat) (w : World) (h : RowsF S B w v ls) (hu : Ints w u (toI y)) (hy : y.length ≤ 1000000) (hl : ∀ l ∈ ls, l.length = y.length) (hls : ls.length < 900000) :
    Calls Try.prog 79 #[v, u] w (RowsV (insW ls y) w) := by
  have hu' : Fz (fun k => k < w.heap.size) w u (toI y) := by
    obtain ⟨a, c, rfl, h1, h2, h3⟩ := hu
    refine ⟨a, c, rfl, by rw [toI_length]; exact hy, h2, fun hne => ?_⟩
    obtain ⟨b, off, rfl, hb, hc⟩ := h3 hne
    exact ⟨b, off, rfl, hb, hb, hc⟩
  obtain ⟨vs, ho, hr⟩ := h
  have hvl : vs.length = ls.length := by have := ho.1; omega
  rcases ho.2 with ⟨rfl, hn⟩ | ⟨g, cap, cur, rfl, _, hb, h1, _⟩
  · have : ls = [] := List.length_eq_zero_iff.1 hn
    subst this
    exact insert_nil u y w hu'
  · refine insert_some u ls y g 0 cap vs w ⟨hvl, (Array.getElem?_eq_some_iff.1 hb).1, fun j x hj => ?_, fun j x l hx hl' => ?_⟩ hu' hl hls h1
    · rw [Nat.zero_add, World.ownsRow.cellAt ho j (by have := (List.getElem?_eq_some_iff.1 hj).1; omega)]
      exact hj
    · have hf := hr j x l hx hl'
      obtain ⟨a, c, rfl, k1, k2, k3⟩ := hf
      refine ⟨a, c, rfl, k1, k2, fun hne => ?_⟩
      obtain ⟨b, off, rfl, _, hb2, hc⟩ := k3 hne
      exact ⟨b, off, rfl, hb2, hb2, hc⟩
end Go.Proofs.Ytmlhecfhhhebnaa

/- The reference's Short: the walk. -/
namespace Go.Proofs.Ytmlhecfhhhebnaa
open Go.RowKit
attribute [local go_sem] Oper.semAt_some

theorem wpList_cut {ops : Array Oper} {o : Oper} {a : Act} {w : World} {Q : Exit → Act → World → Prop} {rest : List Oper} (hg : o.guard = none) (s x : Operand)
    (hop : o.op = Op.call { callee := Callee.builtin Builtin.append, args := #[s, x], argTypes := #[24, 24] }) {n : Nat} {ad0 : Option Addr} {c' : Nat} {xs : List Int} (y : Int) (hn : xs.length = n) (h : Ints w (.slice ad0 n c') xs) (hs : a.eval s = .slice ad0 n n)
    (ad : Addr) (c : Nat) (hx : a.eval x = .slice (some ad) 1 c) (hc : w.cell? ad = some (.int .i64 y)) (hl : n < 1000000)
    (hK : ∀ v' w', OwnI 3 w.heap.size w' v' (xs ++ [y]) → Below w.heap.size w w' → wpList Try.prog ops Q rest (a.put o.dst v') w') : wpList Try.prog ops Q (o :: rest) a w := by
  subst hn
  refine wpList_plain hg fun K' hK' => ?_
  obtain ⟨v', w', hrun, r1, r2⟩ := run_app_cut (ty := o.type) h hc hl
  unfold Oper.wp
  simp [execOp, hop, resolve, invoke, builtin, hs, hx, Result.andThen]
  rw [hrun]
  exact hK' _ _ (hK v' w' r1 r2)

theorem shR_len (W X : List (List Nat)) (f u : Nat) (x : List Nat) (h : x ∈ shR W X f u) : x.length = f := by
  have := shL_len W X f u [] x ((shR_perm W X f u).mem_iff.1 h)
  simpa using this
theorem fold_ins_len (g : List Nat → List Nat) (L out : List (List Nat)) : (L.foldl (fun o w => insW o (g w)) out).length = out.length + L.length := by
  rw [(foldl_ins_perm g L out).length_eq]; simp
theorem fold_ins_mem {g : List Nat → List Nat} {L out : List (List Nat)} {x : List Nat} (h : x ∈ L.foldl (fun o w => insW o (g w)) out) : x ∈ out ∨ ∃ w ∈ L, x = g w := by
  have := (foldl_ins_perm g L out).mem_iff.1 h
  rcases List.mem_append.1 this with h | h
  · exact .inl h
  · obtain ⟨w, hw, e⟩ := List.mem_map.1 h
    exact .inr ⟨w, hw, e.symm⟩
theorem rhK_len (W X : List (List Nat)) (f u k : Nat) (x : List Nat) (h : x ∈ rhK W X f u k) : x.length = f + 1 := by
  have aux : ∀ (ps : List (Nat × Nat)) (out : List (List Nat)), (∀ x ∈ out, x.length = f + 1) → ∀ x ∈ ps.foldl (fun out p => (shR W X f p.1).foldl (fun o w => insW o (w ++ [p.2])) out) out, x.length = f + 1 := by
    intro ps
    induction ps with
    | nil => intro out h; exact h
    | cons p ps ih =>
      intro out h
      refine ih _ fun x hx => ?_
      rcases fold_ins_mem (g := fun w => w ++ [p.2]) hx with hx | ⟨w, hw, rfl⟩
      · exact h x hx
      · rw [List.length_append, shR_len W X f _ w hw]; rfl
  exact aux _ [] (by simp) x h
/-- What the inner loop has put in. -/
def insTo (Z L : List (List Nat)) (k b : Nat) : List (List Nat) := (L.take b).foldl (fun o w => insW o (w ++ [k])) Z
theorem insTo_row (Z L : List (List Nat)) (k b : Nat) (hb : b < L.length) : ∃ wd, L[b] = wd ∧ wd ∈ L ∧ insTo Z L k (b + 1) = insW (insTo Z L k b) (wd ++ [k]) := by
  refine ⟨_, rfl, List.getElem_mem hb, ?_⟩
  unfold insTo
  rw [take_succ' L b hb, List.foldl_append, List.foldl_cons, List.foldl_nil]
theorem insTo_len {Z L : List (List Nat)} {k b f : Nat} (hb : b ≤ L.length) (hZ : ∀ x ∈ Z, x.length = f + 1) (hL : ∀ x ∈ L, x.length = f) : (insTo Z L k b).length = Z.length + b ∧ ∀ x ∈ insTo Z L k b, x.length = f + 1 := by
  unfold insTo
  refine ⟨by rw [fold_ins_len (fun w => w ++ [k]), List.length_take, Nat.min_eq_left hb], fun x hx => ?_⟩
  rcases fold_ins_mem (g := fun w => w ++ [k]) hx with hx | ⟨w, hw, rfl⟩
  · exact hZ x hx
  · rw [List.length_append, hL w (List.mem_of_mem_take hw)]; rfl

theorem rows_unit {B g : Nat} (w : World) (ad : Option Addr) (hg : w.heap.size = g) (hB : B ≤ g) : RowsF (fun _ => True) B (w.alloc (.cells #[.slice ad 0 0] 24)) (.slice (some ⟨g, 0, none⟩) 1 1) [[]] := by
  subst hg
  refine ⟨[.slice ad 0 0], ⟨by simp, .inr ⟨w.heap.size, 1, _, rfl, hB, heap_alloc_new w _, by simp, by unfold maxLen; omega, by simp, by simp⟩⟩, fun i u l h1 h2 => ?_⟩
  cases i with
  | zero =>
    simp at h1 h2
    subst h1; subst h2
    exact ⟨ad, 0, rfl, by simp [toI], by simp [toI], fun h => absurd rfl h⟩
  | succ i => simp at h1

set_option maxRecDepth 20000 in
set_option maxHeartbeats 1000000 in
theorem RShort_zero (vt : Value) (w : World) (W X : List (List Nat)) (ht : RT W X w vt) :
    Calls Try.prog 44 #[vt, .int .i64 0] w (RowsV [[]] w) := by
  obtain ⟨vW, vP, vX, P, rfl, hW, _, _⟩ := ht
  clear hW
  go_enter Try.func44, Try.ntmps44
  go_wp2
  go_ret
  exact ⟨_, rfl, rows_unit _ _ (by simp) (by omega), (((Below.refl _ _).alloc (Nat.le_refl _) _).alloc (by simp) _).alloc (by simp; omega) _⟩

set_option maxRecDepth 20000 in
set_option maxHeartbeats 4000000 in
theorem RShort_step {m N : Nat} {W X : List (List Nat)} (vt : Value) (hk : Tk m N W X) (hS : ckS W X = true) (f : Nat) (hfew : ∀ u, u < N → lenX W u = f → (shR W X f u).length ≤ 1000)
    (ih : ∀ (u : Nat) (w : World), RT W X w vt → u < N → lenX W u = f → Calls Try.prog 44 #[vt, .int .i64 (u : Nat)] w (RowsV (shR W X f u) w))
    (u : Nat) (w : World) (ht : RT W X w vt) (hu : u < N) (hf : lenX W u = f + 1) (hf100 : f ≤ 100) :
    Calls Try.prog 44 #[vt, .int .i64 (u : Nat)] w (RowsV (shR W X (f + 1) u) w) := by
  have hA := ckS_at hS (show u < W.length by rw [hk.lw]; exact hu)
  have hu0 : u ≠ 0 := fun e => by have := hA.zero.2 e; omega
  have hu1 : ((u : Int) == 0) = false := by simp; omega
  have HR0 := Lib.hid ht
  have HMX := Lib.hid (show Try.prog.follows .mixedOrders = true by kernel_rfl)
  obtain ⟨vW, vP, vX, P, rfl, hW, _, hXr⟩ := ht
  have RL := Lib.hid (fun (yv : Nat) (hy : yv < N) (w' : World) (h : RT W X w' (.agg #[vW, vP, vX])) => RLength_any (.agg #[vW, vP, vX]) yv w' h hk hy)
  have hN := hk.small
  have hm4 := hk.m4
  obtain ⟨r, hr1, hr2, hr3, hr4⟩ := hk.rowAt hu
  have hux : u < X.length := by rw [hk.lx]; exact hu
  obtain ⟨g, cap, ra, rc, e, hgc, hrc, hIn, hrow⟩ := hXr.cells u hux
  rw [hr1] at hgc hrc hrow
  subst e
  have HBX := Lib.hid (BoxI.made vW vP (.slice (some ⟨g, 0, none⟩) X.length cap) w)
  have hgc1 := (HBX.out.hb.cell (p := ⟨g, u, none⟩) (World.block_lt_of_cell? _ _ hgc)).trans hgc
  have hrp : 0 < r.length → ∃ b o, ra = some ⟨b, o, none⟩ ∧ ∀ j (hj : j < r.length), ∀ w', Below w.heap.size w w' → w'.cell? ⟨b, o + j, none⟩ = some (.int .i64 ((r[j] : Nat) : Int)) := fun h => by
    obtain ⟨b, o, e5, hc⟩ := hrow h
    exact ⟨b, o, e5, fun j hj w' hb' => (hb'.cell (p := ⟨b, o + j, none⟩) (World.block_lt_of_cell? _ _ (hc j hj))).trans (hc j hj)⟩
  have HROW := Lib.hid hrp
  have hr120 : r.length ≤ 4 := by omega
  have HSTP := Lib.hid (show ∀ k, k < r.length → ∃ y, (∀ b o w', ra = some ⟨b, o, none⟩ → Below w.heap.size w w' → w'.cell? ⟨b, o + k, none⟩ = some (.int .i64 ((y : Nat) : Int))) ∧ y < N ∧ (lenX W y + 1 = f + 1 ∨ lenX W y = f + 1 + 1) ∧ (lenX W y < f + 1 → rhK W X f u (k + 1) = (shR W X f y).foldl (fun o w => insW o (w ++ [k])) (rhK W X f u k)) ∧ (¬ lenX W y < f + 1 → rhK W X f u (k + 1) = rhK W X f u k) from fun k hk' => by
    refine ⟨r[k], fun b o w' e hb' => ?_, hr4 _ (List.getElem_mem hk'), ?_, fun h => ?_, fun h => ?_⟩
    · obtain ⟨b2, o2, e2, hc⟩ := hrp (by omega)
      rw [e] at e2
      cases e2
      exact hc k hk' w' hb'
    · rw [← hf]; exact hA.one _ (by rw [hr2]; exact List.getElem_mem hk')
    · subst hr2; exact rhK_low f hk' (by rw [hf]; exact h)
    · subst hr2; exact rhK_high f hk' (by rw [hf]; exact h))
  have HZ := Lib.hid (rhK_zero W X f u)
  have HALL := Lib.hid (show rhK W X f u r.length = shR W X (f + 1) u by rw [← hr2]; exact rhK_all W X f u)
  have HRL := Lib.hid (rhK_len W X f u)
  have HSL := Lib.hid (fun y => shR_len W X f y)
  have HFEW := Lib.hid hfew
  have IH := Lib.hid ih
  have hxX : (u : Int) < (X.length : Int) := by omega
  have RU := Lib.hid (RL.out u hu)
  rw [hf] at RU
  clear hr1 hr2 hr3 hr4 hIn hrow hk hW hXr hA hS hfew ih hu hf hgc hrp hux
  go_enter Try.func44, Try.ntmps44
  go_wp2
  go_loopw [5, 20] (fun o ix wr => ∃ k : Nat, k ≤ r.length ∧ ix = .int .i64 k ∧ RowsF (fun _ => True) w.heap.size wr o (rhK W X f u k) ∧ BoxI w.heap.size vW vP (.slice (some ⟨g, 0, none⟩) X.length cap) w wr ∧ (rhK W X f u k).length ≤ 1000 * k) (fun _ ix _ => r.length - (intOf ix).toNat)
  case atStart => exact ⟨0, Nat.zero_le _, rfl, by rw [HZ.out]; exact RowsF.nil _ _ _, HBX.out, by rw [HZ.out]; exact Nat.le_refl _⟩
  case round =>
    obtain ⟨k, hkl, rfl, hro, hbx, hfk⟩ := hrel
    by_cases hlt : k < r.length
    · obtain ⟨b2, off2, rfl, _⟩ := HROW.out (by omega)
      obtain ⟨y, hcy, hyN, hone, hlow, hhigh⟩ := HSTP.out k hlt
      have hcyr := hcy _ _ wr rfl hbx.hb
      have RY := Lib.hid (RL.out y hyN)
      have hki : (k : Int) < (r.length : Int) := by omega
      have HBK := Lib.hid hbx
      have c0 : ∀ p : BelW wr, p.v.cell? ⟨w.heap.size, 0, none⟩ = some vW := fun p => BelW.cell HBK.out.hh.lt (HBK.out.hh.at (i := 0) rfl) p
      have c1 : ∀ p : BelW wr, p.v.cell? ⟨w.heap.size, 1, none⟩ = some vP := fun p => BelW.cell HBK.out.hh.lt (HBK.out.hh.at (i := 1) rfl) p
      have c2 : ∀ p : BelW wr, p.v.cell? ⟨w.heap.size, 2, none⟩ = some (.slice (some ⟨g, 0, none⟩) X.length cap) := fun p => BelW.cell HBK.out.hh.lt (HBK.out.hh.at (i := 2) rfl) p
      have HRP := Lib.hid (fun p : BelW wr => HR0.out.below (HBK.out.hb.trans (p.h.mono HBK.out.hb.size)))
      have HRO := Lib.hid hro
      have HFK := Lib.hid hfk
      obtain ⟨Z, hZ⟩ : ∃ Z, rhK W X f u k = Z := ⟨_, rfl⟩
      have HZL := Lib.hid (HRL.out k)
      rw [hZ] at HRO HFK hlow hhigh HZL
      obtain ⟨ly, hly⟩ : ∃ ly, lenX W y = ly := ⟨_, rfl⟩
      rw [hly] at RY hone hlow hhigh
      have HLY := Lib.hid hly
      have hfk2 := HFK.out
      by_cases hlo : ly < f + 1
      · have hgt : decide (f + 1 < ly) = false := by simp; omega
        have hgt2 : decide ((f : Int) + 1 < (ly : Int)) = false := by simp; omega
        have HS := Lib.hid (hlow hlo)
        have HLYF := Lib.hid (show lenX W y = f by rw [HLY.out]; omega)
        have HL0 := Lib.hid (HSL.out y)
        have hL1 := HFEW.out y hyN HLYF.out
        have IHY := Lib.hid (fun w' h => IH.out y w' h hyN HLYF.out)
        obtain ⟨L, hL⟩ : ∃ L, shR W X f y = L := ⟨_, rfl⟩
        rw [hL] at HS HL0 hL1 IHY
        have HSI := Lib.hid (show rhK W X f u (k + 1) = insTo Z L k L.length by rw [HS.out]; unfold insTo; rw [List.take_length])
        have HROW2 := Lib.hid (insTo_row Z L k)
        have HLEN := Lib.hid (fun b (hb : b ≤ L.length) => insTo_len (k := k) hb HZL.out HL0.out)
        clear hlow hhigh hcy hbx hro hZ hly hlo hfk hone hL
        go_upto_region 7 with (fail)
        refine wp_region_bel HMX.out (by kernel_rfl) ?_
        repeat (first
          | go_big_quiet_step ((first
            | (go_at_call 29; (with_reducible refine Calls.bel_of (RY.out _ ?_)); exact HRP.out _)
            | (go_at_call 29; (with_reducible refine Calls.bel_of (RU.out _ ?_)); exact HRP.out _)))
          | quiet_step ((first
            | (go_at_call 29; (with_reducible refine Calls.bel_of (RY.out _ ?_)); exact HRP.out _)
            | (go_at_call 29; (with_reducible refine Calls.bel_of (RU.out _ ?_)); exact HRP.out _))))
        refine wpQuiet_nil ?_
        intro wq hw'
        have hbq := BelW.of hw'
        clear hw'
        have HBQ := Lib.hid (HBK.out.below hbq)
        have q0 := HBQ.out.hh.at (i := 0) rfl
        have q1 := HBQ.out.hh.at (i := 1) rfl
        have q2 := HBQ.out.hh.at (i := 2) rfl
        have HRQ := Lib.hid (HR0.out.below HBQ.out.hb)
        have HROQ := Lib.hid (HRO.out.below hbq)
        clear hbq c0 c1 c2
        go_upto_region 9 with (go_at_call 44; refine (IHY.out wq HRQ.out).mono ?_; rintro e ws ⟨v34, rfl, hr34, hb34⟩; obtain ⟨a34, c34, e34⟩ := hr34.form; subst e34)
        have HR34 := Lib.hid hr34
        have HRO3 := Lib.hid (HROQ.out.below hb34)
        have HBS := Lib.hid (HBQ.out.below hb34)
        have hws := HBS.out.hb.size
        clear q0 q1 q2 hr34 hb34
        go_loopw [5, 36] (fun o ix wx => ∃ b : Nat, b ≤ L.length ∧ ix = .int .i64 b ∧ RowsF (fun _ => True) w.heap.size wx o (insTo Z L k b) ∧ Below ws.heap.size ws wx) (fun _ ix _ => L.length - (intOf ix).toNat)
        case atStart => exact ⟨0, Nat.zero_le _, rfl, HRO3.out, Below.refl _ _⟩
        case round =>
          obtain ⟨b, hbl, rfl, hrx, hbx⟩ := hrel
          by_cases hlt2 : b < L.length
          · obtain ⟨wd, hwd, hwm, hst⟩ := HROW2.out b hlt2
            obtain ⟨gy, capy, uy, ey, _, hgl, hcx, hfx⟩ := (HR34.out.below hbx).at b hlt2
            rw [hwd] at hfx
            obtain ⟨rfl, _, rfl⟩ := Value.slice.inj ey
            have hwl := HL0.out wd hwm
            have HINS := Lib.hid (fun (v u' : Value) (w' : World) (h : RowsF (fun _ => True) w.heap.size w' v (insTo Z L k b)) (hu : Ints w' u' (toI (wd ++ [k]))) => insert_any v u' _ (wd ++ [k]) w' h hu (by rw [List.length_append, hwl]; simp; omega) (fun l hl => by rw [(HLEN.out b hbl).2 l hl, List.length_append, hwl]; rfl) (by rw [(HLEN.out b hbl).1]; omega))
            obtain ⟨ax, cx, ux, hxl⟩ : ∃ ax cx, uy = .slice ax f cx ∧ f ≤ cx := by
              obtain ⟨ax, cx, e, _, h2, _⟩ := hfx
              rw [toI_length, hwl] at e h2
              exact ⟨ax, cx, e, h2⟩
            subst ux
            have HNL := Lib.hid (show (toI wd).length = f by rw [toI_length, hwl])
            have HFX := Lib.hid hfx.ints
            have HST := Lib.hid hst
            have HRX := Lib.hid hrx
            have HBX2 := Lib.hid hbx
            have hbi : (b : Int) < (L.length : Int) := by omega
            have hsx := hbx.size
            clear hwd hwm hst ey hgl hfx hrx hbx hwl
            go_wp2_with (first
              | (go_at_call 79; refine (HINS.out _ _ w4 (HRX.out.below HB4.out) HI4.out).mono ?_; rintro e w5 ⟨v5, rfl, hr5, hb5⟩)
              | (at_builtin; refine wpList_cut rfl _ _ rfl (k : Int) HNL.out (HFX.out.below ((Below.refl _ _).alloc (Nat.le_refl _) (.cells #[.int .i64 (k : Int)] 3))) rfl ⟨wr.heap.size, 0, none⟩ 1 rfl (by simp) (by omega) ?_; intro v4 w4 ho4 hb4; have HB4 := Lib.hid (((Below.refl wr.heap.size wr).alloc (Nat.le_refl _) (.cells #[.int .i64 (k : Int)] 3)).trans (hb4.mono (by simp))); have HI4 := Lib.hid (show Ints w4 v4 (toI (wd ++ [k])) by rw [toI_append]; exact ho4.ints (by rw [List.length_append, HNL.out]; simp; omega)); obtain ⟨a4, n4, c4, rfl⟩ := own_form ho4; clear ho4 hb4))
            go_roundw
            case rel => exact ⟨b + 1, by omega, by go_num, by rw [HST.out]; exact hr5.base (by have := HB4.out.size; omega), HBX2.out.trans ((HB4.out.trans (hb5.mono HB4.out.size)).mono HBX2.out.size)⟩
            case measure => simp [intOf]; omega
          · obtain rfl : b = L.length := by omega
            have hbi : ¬ ((L.length : Nat) : Int) < (L.length : Int) := by omega
            have HRX := Lib.hid hrx
            have HBX2 := Lib.hid hbx
            have HCL := Lib.hid (show (insTo Z L k L.length).length ≤ 1000 * (k + 1) by rw [(HLEN.out _ (Nat.le_refl _)).1]; omega)
            clear hrx hbx
            go_wp2
            go_roundw
            case rel => exact ⟨k + 1, by omega, by go_num, by rw [HSI.out]; exact HRX.out, HBS.out.below HBX2.out, by rw [HSI.out]; exact HCL.out⟩
            case measure => simp [intOf]; omega
      · have hgt : decide (f + 1 < ly) = true := by simp; omega
        have hgt2 : decide ((f : Int) + 1 < (ly : Int)) = true := by simp; omega
        have HS := Lib.hid (hhigh hlo)
        clear hlow hhigh hcy hbx hro hZ hly hlo hfk hone
        go_upto_region 7 with (fail)
        refine wp_region_bel HMX.out (by kernel_rfl) ?_
        repeat (first
          | go_big_quiet_step ((first
            | (go_at_call 29; (with_reducible refine Calls.bel_of (RY.out _ ?_)); exact HRP.out _)
            | (go_at_call 29; (with_reducible refine Calls.bel_of (RU.out _ ?_)); exact HRP.out _)))
          | quiet_step ((first
            | (go_at_call 29; (with_reducible refine Calls.bel_of (RY.out _ ?_)); exact HRP.out _)
            | (go_at_call 29; (with_reducible refine Calls.bel_of (RU.out _ ?_)); exact HRP.out _))))
        refine wpQuiet_nil ?_
        intro wq hw'
        have hbq := BelW.of hw'
        clear hw'
        have HBQ := Lib.hid (HBK.out.below hbq)
        have HROQ := Lib.hid (HRO.out.below hbq)
        have HFK2 := Lib.hid (show Z.length ≤ 1000 * (k + 1) by omega)
        clear hbq c0 c1 c2
        go_wp2
        go_roundw
        case rel => exact ⟨k + 1, by omega, by go_num, by rw [HS.out]; exact HROQ.out, HBQ.out, by rw [HS.out]; exact HFK2.out⟩
        case measure => simp [intOf]; omega
    · obtain rfl : k = r.length := by omega
      have hki : ¬ ((r.length : Nat) : Int) < (r.length : Int) := by omega
      have HRO := Lib.hid hro
      have HBK := Lib.hid hbx
      clear hro hbx
      go_wp2
      go_ret
      exact ⟨_, rfl, by rw [← HALL.out]; exact HRO.out, HBK.out.hb⟩

theorem RShort_any {m N : Nat} {W X : List (List Nat)} (vt : Value) (hk : Tk m N W X) (hS : ckS W X = true) (hfew : ∀ f u, u < N → lenX W u = f → (shR W X f u).length ≤ 1000) : ∀ (f u : Nat) (w : World), RT W X w vt → u < N → lenX W u = f → f ≤ 100 →
    Calls Try.prog 44 #[vt, .int .i64 (u : Nat)] w (RowsV (shR W X f u) w)
  | 0, u, w, ht, hu, hf, _ => by
    obtain rfl : u = 0 := (ckS_at hS (show u < W.length by rw [hk.lw]; exact hu)).zero.1 hf
    exact RShort_zero vt w W X ht
  | f + 1, u, w, ht, hu, hf, h100 => RShort_step vt hk hS f (hfew f) (fun u w ht hu hf => RShort_any vt hk hS hfew f u w ht hu hf (by omega)) u w ht hu hf (by omega)
/-- The reference's Short at a group. -/
theorem RShort_group {K n : Nat} (hv : validB K n = true) (vt : Value) (u : Nat) (w : World) (ht : RT (wordsG K n) (nextG K n) w vt) (hu : u < (wordsG K n).length) :
    Calls Try.prog 44 #[vt, .int .i64 (u : Nat)] w (RowsV (shR (wordsG K n) (nextG K n) (lenX (wordsG K n) u) u) w) := by
  have hck := ckSG hv
  refine RShort_any vt (tkG hv) hck.1 (fun f u hu hf => ?_) _ u w ht hu rfl ?_
  · rw [(shR_perm _ _ f u).length_eq]
    exact (shL_few hck.1 hck.2 (inX hv) [] hu hf).1
  · unfold lenX
    rw [getDL hu]
    have := (tkG hv).short _ (List.getElem_mem hu)
    omega
end Go.Proofs.Ytmlhecfhhhebnaa
