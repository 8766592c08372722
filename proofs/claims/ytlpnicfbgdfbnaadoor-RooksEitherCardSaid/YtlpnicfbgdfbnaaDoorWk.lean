/- permutations$1: the recursive walk. -/
import Derived.Test.YtlpnicfbgdfbnaaDoorYd
import Derived.Deep.QuietTactic
namespace Go.Proofs.YtlpnicfbgdfbnaaDoor
open Go.RowKit Go.Shelf
attribute [local go_sem] Oper.semAt_some

theorem Sm.trans' {S S' : Nat → Prop} {a b c : World} (h : Sm S a b) (k : Sm S' b c) (hs : ∀ i, i < a.heap.size → S i → S' i) : Sm S a c :=
  ⟨k.os.trans h.os, k.tape.trans h.tape, k.output.trans h.output, Nat.le_trans h.size k.size, fun i hi hlt => (k.block i (hs i hlt hi) (Nat.lt_of_lt_of_le hlt h.size)).trans (h.block i hi hlt)⟩

theorem results_cell {fn : Func} {t : Tmp} {tmps : Array Value} {w : World} {B : Nat} {b : Bool} (h : fn.results = #[.cell t 4]) (ht : tmps[t]?.getD undef = .pointer (some ⟨B, 0, none⟩)) (hx : Boxed w B 4 (.bool b)) :
    (results fn tmps).run Tryd.prog w = .ok (.bool b) w := by
  have hc := hx.cell
  simp [results, h, ht, go_sem, hc]

section
variable {σ : Type} (Y : Yld σ) (hY : Y.Ok) (b1 bp b3 : Nat)

set_option maxRecDepth 20000 in
set_option maxHeartbeats 2000000 in
include hY in
theorem walk_leaf (s : σ) (pre : List Nat) (pv : Value) (W : World) (h : PS Y b1 bp b3 s pre pv W) (hn : Y.n ≤ 6) (hl : pre.length = Y.n) (h6 : ∀ c ∈ pre, c < 6) :
    Calls Tryd.prog 70 #[.int .i64 0, .pointer (some ⟨b1, 0, none⟩), .pointer (some ⟨bp, 0, none⟩), .pointer (some ⟨b3, 0, none⟩)] W (WPost Y b1 bp b3 (Y.step s pre) s pre pv W) := by
  obtain ⟨W2, hW2⟩ : ∃ W2, (W.alloc (.cells #[.int .i64 0] 3)).alloc (.cells #[.bool false] 4) = W2 := ⟨_, rfl⟩
  have hb : Below W.heap.size W W2 := by rw [← hW2]; exact ((Below.refl _ _).alloc (Nat.le_refl _) _).alloc (by simp) _
  have hs2 : W2.heap.size = W.heap.size + 2 := by rw [← hW2]; simp
  have hB4 : Boxed W2 W.heap.size 3 (.int .i64 0) := by rw [← hW2]; exact (Boxed.new _ _ _).alloc _
  have hB5 : Boxed W2 (W.heap.size + 1) 4 (.bool false) := by rw [← hW2]; have := Boxed.new (W.alloc (.cells #[.int .i64 0] 3)) 4 (.bool false); rwa [World.size_alloc] at this
  have P2 := h.below hY hb
  have st2 := (hY.stable _ _ _ h.inv (Sm.of_below hb)).2
  have C := Lib.hid (hY.call s pre pv W2 P2.inv hl h6 (P2.own.ints (by rw [toI_length]; omega)))
  have c1 := P2.x1.cell
  have c2 := P2.x2.cell
  have c4 := hB4.cell
  have HP := Lib.hid P2
  have H := Lib.hid h
  clear P2 h
  refine calls_marks Tryd.func70 rfl ?_
  simp only [Tryd.ntmps70, List.size_toArray, List.length_cons, List.length_nil, Nat.reduceAdd, Nat.reduceSub, Array.replicate_succ, Array.replicate_zero, List.push_toArray, List.append_toArray, List.nil_append, List.cons_append]
  go_upto_region 1 with (fail)
  clear hW2
  go_wp2
  rename_i K0 hK0 K1 hK1 K2 hK2
  rw [hY.enter]
  refine Calls.mono C.out ?_
  rintro e W3 ⟨rfl, hi3, hs3, hp3⟩
  refine hK2 _ _ ?_
  have hx5 : Boxed W3 (W.heap.size + 1) 4 (.bool false) := hs3.boxed hB5 (by have := hY.low _ _ H.out.inv; omega)
  have c5 := hx5.cell
  have f5 := hx5.frozen
  go_wp2
  have hset := Boxed.set (v := .bool false) (.bool (Y.step s pre).2) hx5
  have hsm : Sm (fun k => k ≠ W.heap.size + 1) W3 (W3.setCell ⟨W.heap.size + 1, 0, none⟩ (.bool (Y.step s pre).2)) := Sm.setCell _ _ _ _ (fun k hk => hk)
  obtain ⟨W4, hW4⟩ : ∃ W4, W3.setCell ⟨W.heap.size + 1, 0, none⟩ (.bool (Y.step s pre).2) = W4 := ⟨_, rfl⟩
  rw [hW4] at hset hsm ⊢
  clear hW4
  have hlow := hY.low _ _ H.out.inv
  have hq : ∀ k, Y.Prot (Y.step s pre).1 W3 k → k ≠ W.heap.size + 1 := fun k hk e => by
    rcases hp3 k hk with h | h
    · have := hY.prot_lt H.out.inv (st2 k h); omega
    · omega
  obtain ⟨hi4, hst4⟩ := hY.stable _ _ _ hi3 (hsm.mono fun k _ hk => hk.elim (fun hk => by omega) (hq k))
  have hsz3 := hs3.size
  have hK : Sm (KeptS Y bp pv) W W4 := ((Sm.of_below hb).trans (hs3.mono (S' := KeptS Y bp pv) fun k _ hk => hk.1)).trans' hsm (fun k hlt hk => by omega)
  refine leaves_none (results_cell rfl rfl hset) ?_
  have hp : ∀ k, Y.Prot (Y.step s pre).1 W4 k → Y.Prot s W k ∨ W.heap.size ≤ k := fun k hk => by
    rcases hp3 k (hst4 k hk) with h | h
    · exact .inl (st2 k h)
    · exact .inr (by omega)
  refine ⟨rfl, hi4, hK, hp, fun _ => ⟨pv, ?_, .inl rfl⟩⟩
  have h0 := H.out
  have l1 := h0.x1.lt
  have l2 := h0.x2.lt
  have l3 := h0.x3.lt
  have n1 := h0.n1
  have n2 := h0.n2
  have n3 := h0.n3
  have S3 : Sm (fun k => Y.N ≤ k ∧ k < W.heap.size) W W4 := ((Sm.of_below hb).trans (hs3.mono (S' := fun k => Y.N ≤ k ∧ k < W.heap.size) fun k _ hk => hk.1)).trans' hsm (fun k hlt hk => by omega)
  refine ⟨hi4, S3.boxed h0.x1 ⟨n1, l1⟩, S3.boxed h0.x2 ⟨n2, l2⟩, S3.boxed h0.x3 ⟨n3, l3⟩, S3.own h0.own (fun k hk => h0.own.lt k hk), n1, n2, n3, ?_, ?_, ?_, ?_⟩
  · exact fun hk => (hp _ hk).elim h0.q1 (fun h => by omega)
  · exact fun hk => (hp _ hk).elim h0.q2 (fun h => by omega)
  · exact fun hk => (hp _ hk).elim h0.q3 (fun h => by omega)
  · intro k hk hpk
    have := h0.own.lt k hk
    exact (hp _ hpk).elim (h0.qp k hk) (fun h => by omega)
end
end Go.Proofs.YtlpnicfbgdfbnaaDoor
