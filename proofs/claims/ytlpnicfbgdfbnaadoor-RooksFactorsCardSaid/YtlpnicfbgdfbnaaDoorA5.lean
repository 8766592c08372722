/- A5: Wk, Wn, Hs, Pa, Hy, Hi of the seat's texts, in this order. -/
import Derived.Test.YtlpnicfbgdfbnaaDoorA4
import Derived.Deep.QuietTactic
import Derived.Deep.DeepCutAuto
import Derived.StillTailTactics
import Derived.Deep.RegionHeld3
import Derived.Test.YtlpnicfbgdfbnaaDoorA3
import Derived.Test.YtlpnicfbgdfbnaaDoorA2

/- permutations$1: the recursive walk. -/
namespace Go.Proofs.YtlpnicfbgdfbnaaDoor
open Go.RowKit Go.Shelf
attribute [local go_sem] Oper.semAt_some

theorem Sm.trans' {S S' : Nat → Prop} {a b c : World} (h : Sm S a b) (k : Sm S' b c) (hs : ∀ i, i < a.heap.size → S i → S' i) : Sm S a c :=
  ⟨k.os.trans h.os, k.tape.trans h.tape, k.output.trans h.output, Nat.le_trans h.size k.size, fun i hi hlt => (k.block i (hs i hlt hi) (Nat.lt_of_lt_of_le hlt h.size)).trans (h.block i hi hlt)⟩

theorem results_cell {fn : Func} {t : Tmp} {tmps : Array Value} {w : World} {B : Nat} {b : Bool} (h : fn.results = #[.cell t 4]) (ht : tmps[t]?.getD undef = .pointer (some ⟨B, 0, none⟩)) (hx : Boxed w B 4 (.bool b)) :
    (results fn tmps).run Tryd.prog w = .ok (.bool b) w := by
  have hc := hx.cell
  simp [results, h, ht, go_sem, hc]

section
variable {σ : Type} (Y : Yld σ) (hY : Y.Ok) (b1 bp b3 : Nat)

set_option maxRecDepth 20000 in
set_option maxHeartbeats 2000000 in
include hY in
theorem walk_leaf (s : σ) (pre : List Nat) (pv : Value) (W : World) (h : PS Y b1 bp b3 s pre pv W) (hn : Y.n ≤ 6) (hl : pre.length = Y.n) (h6 : ∀ c ∈ pre, c < 6) :
    Calls Tryd.prog 70 #[.int .i64 0, .pointer (some ⟨b1, 0, none⟩), .pointer (some ⟨bp, 0, none⟩), .pointer (some ⟨b3, 0, none⟩)] W (WPost Y b1 bp b3 (Y.step s pre) s pre pv W) := by
  obtain ⟨W2, hW2⟩ : ∃ W2, (W.alloc (.cells #[.int .i64 0] 3)).alloc (.cells #[.bool false] 4) = W2 := ⟨_, rfl⟩
  have hb : Below W.heap.size W W2 := by rw [← hW2]; exact ((Below.refl _ _).alloc (Nat.le_refl _) _).alloc (by simp) _
  have hs2 : W2.heap.size = W.heap.size + 2 := by rw [← hW2]; simp
  have hB4 : Boxed W2 W.heap.size 3 (.int .i64 0) := by rw [← hW2]; exact (Boxed.new _ _ _).alloc _
  have hB5 : Boxed W2 (W.heap.size + 1) 4 (.bool false) := by rw [← hW2]; have := Boxed.new (W.alloc (.cells #[.int .i64 0] 3)) 4 (.bool false); rwa [World.size_alloc] at this
  have P2 := h.below hY hb
  have st2 := (hY.stable _ _ _ h.inv (Sm.of_below hb)).2
  have C := Lib.hid (hY.call s pre pv W2 P2.inv hl h6 (P2.own.ints (by rw [toI_length]; omega)))
  have c1 := P2.x1.cell
  have c2 := P2.x2.cell
  have c4 := hB4.cell
  have HP := Lib.hid P2
  have H := Lib.hid h
  clear P2 h
  refine calls_marks Tryd.func70 rfl ?_
  simp only [Tryd.ntmps70, List.size_toArray, List.length_cons, List.length_nil, Nat.reduceAdd, Nat.reduceSub, Array.replicate_succ, Array.replicate_zero, List.push_toArray, List.append_toArray, List.nil_append, List.cons_append]
  go_upto_region 1 with (fail)
  clear hW2
  go_wp2
  rename_i K0 hK0 K1 hK1 K2 hK2
  rw [hY.enter]
  refine Calls.mono C.out ?_
  rintro e W3 ⟨rfl, hi3, hs3, hp3⟩
  refine hK2 _ _ ?_
  have hx5 : Boxed W3 (W.heap.size + 1) 4 (.bool false) := hs3.boxed hB5 (by have := hY.low _ _ H.out.inv; omega)
  have c5 := hx5.cell
  have f5 := hx5.frozen
  go_wp2
  have hset := Boxed.set (v := .bool false) (.bool (Y.step s pre).2) hx5
  have hsm : Sm (fun k => k ≠ W.heap.size + 1) W3 (W3.setCell ⟨W.heap.size + 1, 0, none⟩ (.bool (Y.step s pre).2)) := Sm.setCell _ _ _ _ (fun k hk => hk)
  obtain ⟨W4, hW4⟩ : ∃ W4, W3.setCell ⟨W.heap.size + 1, 0, none⟩ (.bool (Y.step s pre).2) = W4 := ⟨_, rfl⟩
  rw [hW4] at hset hsm ⊢
  clear hW4
  have hlow := hY.low _ _ H.out.inv
  have hq : ∀ k, Y.Prot (Y.step s pre).1 W3 k → k ≠ W.heap.size + 1 := fun k hk e => by
    rcases hp3 k hk with h | h
    · have := hY.prot_lt H.out.inv (st2 k h); omega
    · omega
  obtain ⟨hi4, hst4⟩ := hY.stable _ _ _ hi3 (hsm.mono fun k _ hk => hk.elim (fun hk => by omega) (hq k))
  have hsz3 := hs3.size
  have hK : Sm (KeptS Y bp pv) W W4 := ((Sm.of_below hb).trans (hs3.mono (S' := KeptS Y bp pv) fun k _ hk => hk.1)).trans' hsm (fun k hlt hk => by omega)
  refine leaves_none (results_cell rfl rfl hset) ?_
  have hp : ∀ k, Y.Prot (Y.step s pre).1 W4 k → Y.Prot s W k ∨ W.heap.size ≤ k := fun k hk => by
    rcases hp3 k (hst4 k hk) with h | h
    · exact .inl (st2 k h)
    · exact .inr (by omega)
  refine ⟨rfl, hi4, hK, hp, fun _ => ⟨pv, ?_, .inl rfl⟩⟩
  have h0 := H.out
  have l1 := h0.x1.lt
  have l2 := h0.x2.lt
  have l3 := h0.x3.lt
  have n1 := h0.n1
  have n2 := h0.n2
  have n3 := h0.n3
  have S3 : Sm (fun k => Y.N ≤ k ∧ k < W.heap.size) W W4 := ((Sm.of_below hb).trans (hs3.mono (S' := fun k => Y.N ≤ k ∧ k < W.heap.size) fun k _ hk => hk.1)).trans' hsm (fun k hlt hk => by omega)
  refine ⟨hi4, S3.boxed h0.x1 ⟨n1, l1⟩, S3.boxed h0.x2 ⟨n2, l2⟩, S3.boxed h0.x3 ⟨n3, l3⟩, S3.own h0.own (fun k hk => h0.own.lt k hk), n1, n2, n3, ?_, ?_, ?_, ?_⟩
  · exact fun hk => (hp _ hk).elim h0.q1 (fun h => by omega)
  · exact fun hk => (hp _ hk).elim h0.q2 (fun h => by omega)
  · exact fun hk => (hp _ hk).elim h0.q3 (fun h => by omega)
  · intro k hk hpk
    have := h0.own.lt k hk
    exact (hp _ hpk).elim (h0.qp k hk) (fun h => by omega)
end
end Go.Proofs.YtlpnicfbgdfbnaaDoor

/- permutations$1 where columns are left. -/
namespace Go.Proofs.YtlpnicfbgdfbnaaDoor
open Go.RowKit Go.Shelf
attribute [local go_sem] Oper.semAt_some

def remP (d rest : Nat) (pre : List Nat) (S : Nat) : List (List Nat) := ((elems S).flatMap fun j => (perms d (diffS rest (2 ^ j))).map (j :: ·)).map (pre ++ ·)
theorem remP_all (d rest : Nat) (pre : List Nat) : remP d rest pre rest = (perms (d + 1) rest).map (pre ++ ·) := rfl
theorem remP_zero (d rest : Nat) (pre : List Nat) : remP d rest pre 0 = [] := by unfold remP; rw [elems_zero]; rfl
theorem remP_step (d rest : Nat) (pre : List Nat) (S : Nat) (h : S < 256) (h0 : 0 < S) : remP d rest pre S = ((perms d (diffS rest (2 ^ tz S))).map ((pre ++ [tz S]) ++ ·)) ++ remP d rest pre (nextS S) := by
  unfold remP
  rw [elems_step S h h0, List.flatMap_cons, List.map_append, List.map_map]
  congr 1
  refine List.map_congr_left fun l _ => ?_
  simp

theorem OwnI.isCells {e : TypeId} {B : Nat} {w : World} {v : Value} {xs : List Int} (h : OwnI e B w v xs) : ∀ k, v.ownBlock = some k → ∃ o, w.heap[k]? = some o ∧ o.isCells = true := by
  intro k hk
  rcases h.2 with ⟨rfl, _⟩ | ⟨g, cap, cur, rfl, hg, hh, r⟩
  · simp [Value.ownBlock] at hk
  · cases hk; exact ⟨_, hh, rfl⟩

section
variable {σ : Type} (Y : Yld σ) (hY : Y.Ok) (b1 bp b3 : Nat)

/-- Where the loop over the columns stands. -/
structure LS (s : σ) (pre : List Nat) (pv : Value) (W : World) (rest d : Nat) (S : Nat) (st : σ) (pv' : Value) (Wl : World) : Prop where
  ps : PS Y b1 bp b3 st pre pv' Wl
  run : runP Y.step s (remP d rest pre rest) = runP Y.step st (remP d rest pre S)
  x4 : Boxed Wl W.heap.size 3 (.int .i64 (rest : Int))
  x5 : Boxed Wl (W.heap.size + 1) 4 (.bool false)
  kept : Sm (KeptS Y bp pv) W Wl
  row : pv'.ownBlock = pv.ownBlock ∨ ∀ k, pv'.ownBlock = some k → W.heap.size ≤ k
  prot : ∀ k, Y.Prot st Wl k → Y.Prot s W k ∨ W.heap.size ≤ k
  nb : ∀ k, W.heap.size ≤ k → k < W.heap.size + 3 → ¬ Y.Prot st Wl k ∧ pv'.ownBlock ≠ some k

structure LX (s : σ) (pre : List Nat) (pv : Value) (W : World) (rest d : Nat) (Wl : World) : Prop where
  run : (runP Y.step s (remP d rest pre rest)).2 = false
  inv : Y.Inv (runP Y.step s (remP d rest pre rest)).1 Wl
  x5 : Boxed Wl (W.heap.size + 1) 4 (.bool false)
  kept : Sm (KeptS Y bp pv) W Wl
  prot : ∀ k, Y.Prot (runP Y.step s (remP d rest pre rest)).1 Wl k → Y.Prot s W k ∨ W.heap.size ≤ k
  nb : ∀ k, W.heap.size ≤ k → k < W.heap.size + 3 → ¬ Y.Prot (runP Y.step s (remP d rest pre rest)).1 Wl k

variable {Y b1 bp b3}
include hY in
theorem LS.ext {s : σ} {pre : List Nat} {pv : Value} {W : World} {rest d S : Nat} {st : σ} {pv' : Value} {Wl Wl' : World} (h : LS Y b1 bp b3 s pre pv W rest d S st pv' Wl) (hlow : Y.N ≤ W.heap.size) (h1 : b1 < W.heap.size) (h2 : bp < W.heap.size) (h3 : b3 < W.heap.size)
    (hx : LoopExt (W.heap.size + 3) (W.heap.size + 2) Wl Wl') : LS Y b1 bp b3 s pre pv W rest d S st pv' Wl' := by
  have sm : Sm (fun k => k ≠ W.heap.size + 2 ∧ (k < W.heap.size + 3 ∨ ∃ o, Wl.heap[k]? = some o ∧ o.isCells = true)) Wl Wl' := Sm.ext hx (fun k hk => hk)
  obtain ⟨ps, run, x4, x5, kept, row, prot, nb⟩ := h
  have st' := hY.stable _ _ _ ps.inv (sm.mono (S' := fun k => k < Y.N ∨ Y.Prot st Wl k) fun k _ hk => by
    rcases hk with hk | hk
    · exact ⟨by omega, .inl (by omega)⟩
    · exact ⟨fun e => (nb k (by omega) (by omega)).1 hk, .inr (hY.cells _ _ _ ps.inv hk)⟩)
  exact ⟨⟨st'.1, sm.boxed ps.x1 ⟨by omega, .inl (by omega)⟩, sm.boxed ps.x2 ⟨by omega, .inl (by omega)⟩, sm.boxed ps.x3 ⟨by omega, .inl (by omega)⟩,
    sm.own ps.own (fun k hk => ⟨fun e => (nb k (by omega) (by omega)).2 hk, .inr (ps.own.isCells k hk)⟩), ps.n1, ps.n2, ps.n3, fun e => ps.q1 (st'.2 _ e), fun e => ps.q2 (st'.2 _ e), fun e => ps.q3 (st'.2 _ e), fun k hk e => ps.qp k hk (st'.2 _ e)⟩, run,
    sm.boxed x4 ⟨by omega, .inl (by omega)⟩, sm.boxed x5 ⟨by omega, .inl (by omega)⟩, kept.trans' sm (fun k hk _ => ⟨by omega, .inl (by omega)⟩), row, fun k hk => prot k (st'.2 k hk), fun k h1 h2 => ⟨fun e => (nb k h1 h2).1 (st'.2 k e), (nb k h1 h2).2⟩⟩
include hY in
theorem LX.ext {s : σ} {pre : List Nat} {pv : Value} {W : World} {rest d : Nat} {Wl Wl' : World} (h : LX Y bp s pre pv W rest d Wl) (hlow : Y.N ≤ W.heap.size)
    (hx : LoopExt (W.heap.size + 3) (W.heap.size + 2) Wl Wl') : LX Y bp s pre pv W rest d Wl' := by
  have sm : Sm (fun k => k ≠ W.heap.size + 2 ∧ (k < W.heap.size + 3 ∨ ∃ o, Wl.heap[k]? = some o ∧ o.isCells = true)) Wl Wl' := Sm.ext hx (fun k hk => hk)
  obtain ⟨run, inv, x5, kept, prot, nb⟩ := h
  have st' := hY.stable _ _ _ inv (sm.mono (S' := fun k => k < Y.N ∨ Y.Prot (runP Y.step s (remP d rest pre rest)).1 Wl k) fun k _ hk => by
    rcases hk with hk | hk
    · exact ⟨by omega, .inl (by omega)⟩
    · exact ⟨fun e => (nb k (by omega) (by omega)) hk, .inr (hY.cells _ _ _ inv hk)⟩)
  exact ⟨run, st'.1, sm.boxed x5 ⟨by omega, .inl (by omega)⟩, kept.trans' sm (fun k hk _ => ⟨by omega, .inl (by omega)⟩), fun k hk => prot k (st'.2 k hk), fun k h1 h2 e => nb k h1 h2 (st'.2 k e)⟩

/-- What has been done of '!walk(rest &^ (1<<j))'. -/
structure N7 (Y : Yld σ) (b1 bp b3 : Nat) (rest j : Nat) (r : σ × Bool) (s : σ) (pre : List Nat) (pv : Value) (W3 : World) (d : Nat → Bool) (y : Nat → Value) (wx : World) : Prop where
  w : d 5 = false → wx = W3
  c4 : d 4 = true → d 1 = true
  c5 : d 5 = true → d 0 = true ∧ d 1 = true
  h19 : d 0 = true → y 19 = .func (.func 70) #[] #[.pointer (some ⟨b1, 0, none⟩), .pointer (some ⟨bp, 0, none⟩), .pointer (some ⟨b3, 0, none⟩)]
  h20 : d 1 = true → y 20 = .int .i64 (rest : Int)
  h21 : d 2 = true → y 21 = .int .i64 (j : Int)
  h22 : d 3 = true → y 22 = .int .i64 ((2 : Int) ^ j)
  h23 : d 4 = true → y 23 = .int .i64 (diffS rest (2 ^ j) : Nat)
  h24 : d 5 = true → y 24 = .bool r.2 ∧ WPost Y b1 bp b3 r s pre pv W3 (.returned (.bool r.2)) wx
  h25 : d 6 = true → y 25 = .bool (!r.2)

theorem Sm.putObj {S : Nat → Prop} {W : World} {l : Nat} (o : Obj) (hs : ∀ i, S i → i ≠ l) : Sm S W (W.putObj l o) := Sm.grown (grownBy_putObj' W l o) (fun k hk e => hs k hk (by cases e; rfl))

include hY in
theorem PS.sm {s : σ} {pre : List Nat} {pv : Value} {W W' : World} {S : Nat → Prop} (h : PS Y b1 bp b3 s pre pv W) (hs : Sm S W W') (hS : ∀ k, k < W.heap.size → k < Y.N ∨ Y.Prot s W k ∨ k = b1 ∨ k = bp ∨ k = b3 ∨ pv.ownBlock = some k → S k) : PS Y b1 bp b3 s pre pv W' :=
  have hs' : Sm (fun k => k < Y.N ∨ Y.Prot s W k ∨ k = b1 ∨ k = bp ∨ k = b3 ∨ pv.ownBlock = some k) W W' := hs.mono hS
  have st := hY.stable _ _ _ h.inv (hs'.mono fun _ _ hk => hk.elim .inl (fun hk => .inr (.inl hk)))
  ⟨st.1, hs'.boxed h.x1 (.inr (.inr (.inl rfl))), hs'.boxed h.x2 (.inr (.inr (.inr (.inl rfl)))), hs'.boxed h.x3 (.inr (.inr (.inr (.inr (.inl rfl))))),
    hs'.own h.own (fun _ hk => .inr (.inr (.inr (.inr (.inr hk))))), h.n1, h.n2, h.n3, fun e => h.q1 (st.2 _ e), fun e => h.q2 (st.2 _ e), fun e => h.q3 (st.2 _ e), fun k hk e => h.qp k hk (st.2 _ e)⟩

set_option maxRecDepth 20000 in
set_option maxHeartbeats 8000000 in
include hY in
theorem walk_node (s : σ) (pre : List Nat) (pv : Value) (W : World) (h : PS Y b1 bp b3 s pre pv W) (rest d : Nat) (hr : rest < 64) (hl : pre.length + (d + 1) = Y.n) (hn : Y.n ≤ 6) (h6 : ∀ c ∈ pre, c < 6) (hpop : pop rest = d + 1)
    (ih : ∀ (rest' : Nat) (s' : σ) (pre' : List Nat) (pv' : Value) (W' : World), PS Y b1 bp b3 s' pre' pv' W' → rest' < 64 → pop rest' = d → pre'.length + d = Y.n → (∀ c ∈ pre', c < 6) →
      Calls Tryd.prog 70 #[.int .i64 rest', .pointer (some ⟨b1, 0, none⟩), .pointer (some ⟨bp, 0, none⟩), .pointer (some ⟨b3, 0, none⟩)] W' (WPost Y b1 bp b3 (runP Y.step s' ((perms d rest').map (pre' ++ ·))) s' pre' pv' W')) :
    Calls Tryd.prog 70 #[.int .i64 rest, .pointer (some ⟨b1, 0, none⟩), .pointer (some ⟨bp, 0, none⟩), .pointer (some ⟨b3, 0, none⟩)] W (WPost Y b1 bp b3 (runP Y.step s (remP d rest pre rest)) s pre pv W) := by
  have hrest0 : 0 < rest := by
    rcases Nat.eq_zero_or_pos rest with h0 | h0
    · subst h0; have : pop 0 = 0 := by decide
      omega
    · exact h0
  have hlow := hY.low _ _ h.inv
  have l1 := h.x1.lt
  have l2 := h.x2.lt
  have l3 := h.x3.lt
  have IH := Lib.hid ih
  have H := Lib.hid h
  have H6 := Lib.hid h6
  have POP := Lib.hid hpop
  clear ih h h6 hpop
  refine calls_marks Tryd.func70 rfl ?_
  simp only [Tryd.ntmps70, List.size_toArray, List.length_cons, List.length_nil, Nat.reduceAdd, Nat.reduceSub, Array.replicate_succ, Array.replicate_zero, List.push_toArray, List.append_toArray, List.nil_append, List.cons_append]
  go_wp2_with (go_at_call 56; refine (columns_any _ _).mono ?_; rintro e w4 ⟨rfl, rfl⟩)
  rename_i Kq hKq
  obtain ⟨W4, hW4⟩ : ∃ W4, ((W.alloc (.cells #[.int .i64 (rest : Int)] 3)).alloc (.cells #[.bool false] 4)).alloc (.cells #[.int .i64 (rest : Int)] 3) = W4 := ⟨_, rfl⟩
  have hb4 : Below W.heap.size W W4 := by rw [← hW4]; exact (((Below.refl _ _).alloc (Nat.le_refl _) _).alloc (by simp) _).alloc (by simp; omega) _
  have hs4 : W4.heap.size = W.heap.size + 3 := by rw [← hW4]; simp
  have hx4 : Boxed W4 W.heap.size 3 (.int .i64 (rest : Int)) := by rw [← hW4]; exact ((Boxed.new _ _ _).alloc _).alloc _
  have hx5 : Boxed W4 (W.heap.size + 1) 4 (.bool false) := by rw [← hW4]; have := Boxed.new (W.alloc (.cells #[.int .i64 (rest : Int)] 3)) 4 (.bool false); rw [World.size_alloc] at this; exact this.alloc _
  have hxc : BoxN W4 (W.heap.size + 2) rest := by rw [← hW4]; have := Boxed.new ((W.alloc (.cells #[.int .i64 (rest : Int)] 3)).alloc (.cells #[.bool false] 4)) 3 (.int .i64 (rest : Int)); rw [World.size_alloc, World.size_alloc] at this; exact this
  have P4 := H.out.below hY hb4
  have st4 := (hY.stable _ _ _ H.out.inv (Sm.of_below hb4)).2
  rw [hW4]
  clear hW4
  refine wp_cols1 (W.heap.size + 2) rest (by simp [go_sem]) hxc (by omega) (by simp)
    (fun S Wl => S < 64 ∧ (∀ j, S.testBit j = true → rest.testBit j = true) ∧ ∃ st pv', LS Y b1 bp b3 s pre pv W rest d S st pv' Wl)
    (fun c Wl => c = .ret ∧ LX Y bp s pre pv W rest d Wl) (fun S Wl hI => by obtain ⟨_, _, st, pv', L⟩ := hI; exact hY.tab _ _ L.ps.inv) ?_ ?_ ?_ ?_ ?_ ?_
  · rintro S Wl Wl' ⟨h1, h2, st, pv', L⟩ hx
    exact ⟨h1, h2, st, pv', L.ext hY hlow l1 l2 l3 (by rw [← hs4]; exact hx)⟩
  · rintro c Wl Wl' ⟨h1, L⟩ hx
    exact ⟨h1, L.ext hY hlow (by rw [← hs4]; exact hx)⟩
  · exact ⟨hr, fun _ hj => hj, s, pv, P4, rfl, hx4, hx5, Sm.of_below hb4, .inl rfl, fun k hk => .inl (st4 k hk), fun k hk _ => ⟨fun hp => by have := hY.prot_lt H.out.inv (st4 k hp); omega, fun e => by have := (H.out.own.lt k e).2; omega⟩⟩
  · rintro l S Wb hS hpos hlD ⟨hS6, hsub, st, pv', L⟩ hbW
    simp only [List.setIfInBounds_toArray, List.set_cons_zero, List.set_cons_succ]
    have htz := tz_lt6 S hS6 hpos
    have hjr : rest.testBit (tz S) = true := hsub _ (elems_bit (tz_mem hS hpos))
    have hpj : pop (diffS rest (2 ^ tz S)) = d := by
      have := pop_step rest hr (tz S) htz
      rw [hjr] at this
      have e := POP.out
      simp at this
      omega
    have hp := pow_in (tz S) (by omega)
    have handn := andNot_walk htz hr
    have c2 := L.ps.x2.cell
    have c3 := L.ps.x3.cell
    have c4 := L.x4.cell
    have f2 := L.ps.x2.frozen
    have HL := Lib.hid L
    have hown := Lib.hid (L.ps.own.alloc (.cells #[.int .i64 ((tz S : Nat) : Int)] 3))
    have hx2a := Lib.hid (L.ps.x2.alloc (.cells #[.int .i64 ((tz S : Nat) : Int)] 3))
    have hne2 := Lib.hid L.ps.ne2
    have hBc := hbW.lt
    have mixed : Tryd.prog.follows .mixedOrders = true := by kernel_rfl
    clear L
    gi_wp2_with (refine wpListIn_app1 rfl _ _ 22 rfl 3 Tryd.underlying22 info3 Y.N pv' _ _ rfl hown.out ⟨Wb.heap.size, 0, none⟩ 1 rfl (cell_new1 _ _ _) (by rw [toI_length]; omega) (by rw [World.size_alloc]; omega) ?_; intro pv2 W2 ho2 hg2 hb2 hat2; have hx2b := hx2a.out.kept hg2 hne2.out; have c2b := hx2b.cell; have f2b := hx2b.frozen; obtain ⟨a2, k2, e2⟩ := ho2.form; rw [List.length_append, List.length_singleton] at e2; subst e2)
    rename_i Kx hKx
    have L := HL.out
    have sm2 : Sm (fun k => k ≠ bp ∧ some k ≠ pv'.ownBlock) Wb (W2.setCell ⟨bp, 0, none⟩ (.slice a2 ((toI pre).length + 1) k2)).drew :=
      (((Sm.alloc _ Wb _).trans (Sm.grown (S := fun k => k ≠ bp ∧ some k ≠ pv'.ownBlock) hg2 (fun k hk => hk.2))).trans (Sm.setCell W2 bp 0 _ (fun k hk => hk.1))).trans (Sm.drew _ _)
    have hx2c : Boxed (W2.setCell ⟨bp, 0, none⟩ (.slice a2 ((toI pre).length + 1) k2)).drew bp 22 (.slice a2 ((toI pre).length + 1) k2) := Boxed.set _ hx2b
    have ho2c : OwnI 3 Y.N (W2.setCell ⟨bp, 0, none⟩ (.slice a2 ((toI pre).length + 1) k2)).drew (.slice a2 ((toI pre).length + 1) k2) (toI (pre ++ [tz S])) := by
      have := (own_setBox ho2 hx2b (by decide) (.slice a2 ((toI pre).length + 1) k2)).drew
      rw [toI_append]; exact this
    generalize hpv2 : (Value.slice a2 ((toI pre).length + 1) k2) = pv2 at sm2 hx2c ho2c hat2 ⊢
    generalize hW3 : (W2.setCell ⟨bp, 0, none⟩ pv2) = W3 at sm2 hx2c ho2c ⊢
    clear hW3 hpv2 hx2b c2b f2b ho2 hg2 hb2
    rw [World.size_alloc] at hat2
    have hown2 : ∀ k, pv2.ownBlock = some k → pv'.ownBlock = some k ∨ Wb.heap.size ≤ k := fun k hk => by
      rcases hat2 with e | e
      · exact .inl (by rw [← e]; exact hk)
      · rw [e] at hk; cases hk; exact .inr (by omega)
    have hne13 : b1 ≠ bp := Boxed.ne L.ps.x1 L.ps.x2 (by decide)
    have hne33 : b3 ≠ bp := Boxed.ne L.ps.x3 L.ps.x2 (by decide)
    have n1 := L.ps.n1
    have n2 := L.ps.n2
    have n3 := L.ps.n3
    have st3 := hY.stable _ _ _ L.ps.inv (sm2.mono (S' := fun k => k < Y.N ∨ Y.Prot st Wb k) fun k _ hk => by
      rcases hk with hk | hk
      · exact ⟨by omega, fun e => by have := (L.ps.own.lt k e.symm).1; omega⟩
      · exact ⟨fun e => L.ps.q2 (e ▸ hk), fun e => L.ps.qp k e.symm hk⟩)
    have P3 : PS Y b1 bp b3 st (pre ++ [tz S]) pv2 W3.drew := by
      refine ⟨st3.1, sm2.boxed L.ps.x1 ⟨hne13, L.ps.ne1⟩, hx2c, sm2.boxed L.ps.x3 ⟨hne33, L.ps.ne3⟩, ho2c, n1, n2, n3, fun e => L.ps.q1 (st3.2 _ e), fun e => L.ps.q2 (st3.2 _ e), fun e => L.ps.q3 (st3.2 _ e), fun k hk hpk => ?_⟩
      rcases hown2 k hk with e | e
      · exact L.ps.qp k e (st3.2 _ hpk)
      · have := hY.prot_lt L.ps.inv (st3.2 _ hpk); omega
    have hlen1 : (pre ++ [tz S]).length + d = Y.n := by simp; omega
    have h61 : ∀ c ∈ pre ++ [tz S], c < 6 := fun c hc => by
      rcases List.mem_append.1 hc with hc | hc
      · exact H6.out c hc
      · simp at hc; omega
    have C := Lib.hid (IH.out (diffS rest (2 ^ tz S)) st (pre ++ [tz S]) pv2 W3.drew P3 (diffS_lt6 hr) hpj hlen1 h61)
    obtain ⟨r, hrr⟩ : ∃ r, runP Y.step st ((perms d (diffS rest (2 ^ tz S))).map ((pre ++ [tz S]) ++ ·)) = r := ⟨_, rfl⟩
    rw [hrr] at C
    have hrun : runP Y.step s (remP d rest pre rest) = if r.2 then runP Y.step r.1 (remP d rest pre (nextS S)) else (r.1, false) := by
      rw [L.run, remP_step d rest pre S hS hpos, runP_append, hrr]
    have hsz2 := sm2.size
    have c3b := P3.x3.cell
    have hx4b : Boxed W3.drew W.heap.size 3 (.int .i64 (rest : Int)) := sm2.boxed L.x4 ⟨by omega, fun e => (L.nb _ (Nat.le_refl _) (by omega)).2 e.symm⟩
    have c4b := hx4b.cell
    refine wpIn_region_sched mixed [19, 20, 21, 22, 23, 24, 25] (by kernel_rfl) (N7 Y b1 bp b3 rest (tz S) r st (pre ++ [tz S]) pv2 W3.drew) ?_ ?_ ?_
    · exact ⟨fun _ => rfl, (fun h => by cases h), (fun h => by cases h), (fun h => by cases h), (fun h => by cases h), (fun h => by cases h), (fun h => by cases h), (fun h => by cases h), (fun h => by cases h), (fun h => by cases h)⟩
    · intro i o ho dn y wx hdi hdep hN
      match i, ho with
      | 0, ho =>
        obtain rfl := Option.some.inj ho
        have d5 : dn 5 = false := by cases h5 : dn 5 with
          | false => rfl
          | true => rw [(hN.c5 h5).1] at hdi; cases hdi
        obtain rfl := hN.w d5
        refine rstepIn_value (fun _ => trivial) (by simp) rfl (v := .func (.func 70) #[] #[.pointer (some ⟨b1, 0, none⟩), .pointer (some ⟨bp, 0, none⟩), .pointer (some ⟨b3, 0, none⟩)]) (w' := W3.drew) ?_ ?_
        · simp only [hole, List.foldl_cons, List.foldl_nil, List.setIfInBounds_toArray, List.set_cons_zero, List.set_cons_succ]
          go_simp
        · exact ⟨fun _ => rfl, hN.c4, fun h => (by simp at h; rw [d5] at h; cases h), fun _ => rfl, hN.h20, hN.h21, hN.h22, hN.h23, fun h => (by simp at h; rw [d5] at h; cases h), hN.h25⟩
      | 1, ho =>
        obtain rfl := Option.some.inj ho
        have d5 : dn 5 = false := by cases h5 : dn 5 with
          | false => rfl
          | true => rw [(hN.c5 h5).2] at hdi; cases hdi
        obtain rfl := hN.w d5
        refine rstepIn_value (fun _ => trivial) (by simp) rfl (v := .int .i64 (rest : Int)) (w' := W3.drew) ?_ ?_
        · simp only [hole, List.foldl_cons, List.foldl_nil, List.setIfInBounds_toArray, List.set_cons_zero, List.set_cons_succ]
          go_simp
        · exact ⟨fun _ => rfl, fun _ => rfl, fun h => (by simp at h; rw [d5] at h; cases h), hN.h19, fun _ => rfl, hN.h21, hN.h22, hN.h23, fun h => (by simp at h; rw [d5] at h; cases h), hN.h25⟩
      | 2, ho =>
        obtain rfl := Option.some.inj ho
        refine rstepIn_value (fun _ => trivial) (by simp) rfl (v := .int .i64 (tz S : Nat)) (w' := wx) ?_ ?_
        · simp only [hole, List.foldl_cons, List.foldl_nil, List.setIfInBounds_toArray, List.set_cons_zero, List.set_cons_succ]
          go_simp
        · exact ⟨hN.w, hN.c4, hN.c5, hN.h19, hN.h20, fun _ => rfl, hN.h22, hN.h23, hN.h24, hN.h25⟩
      | 3, ho =>
        obtain rfl := Option.some.inj ho
        have e21 := hN.h21 (hdep ⟨2, .data⟩ (by simp) rfl)
        refine rstepIn_value (fun _ => trivial) (by simp) rfl (v := .int .i64 ((2 : Int) ^ tz S)) (w' := wx) ?_ ?_
        · simp only [hole, List.foldl_cons, List.foldl_nil, List.setIfInBounds_toArray, List.set_cons_zero, List.set_cons_succ]
          go_simp
        · exact ⟨hN.w, hN.c4, hN.c5, hN.h19, hN.h20, hN.h21, fun _ => rfl, hN.h23, hN.h24, hN.h25⟩
      | 4, ho =>
        obtain rfl := Option.some.inj ho
        have e20 := hN.h20 (hdep ⟨1, .data⟩ (by simp) rfl)
        have e22 := hN.h22 (hdep ⟨3, .data⟩ (by simp) rfl)
        refine rstepIn_value (fun _ => trivial) (by simp) rfl (v := .int .i64 (diffS rest (2 ^ tz S) : Nat)) (w' := wx) ?_ ?_
        · simp only [hole, List.foldl_cons, List.foldl_nil, List.setIfInBounds_toArray, List.set_cons_zero, List.set_cons_succ]
          go_simp
        · exact ⟨hN.w, fun _ => hdep ⟨1, .data⟩ (by simp) rfl, hN.c5, hN.h19, hN.h20, hN.h21, hN.h22, fun _ => rfl, hN.h24, hN.h25⟩
      | 5, ho =>
        obtain rfl := Option.some.inj ho
        have e19 := hN.h19 (hdep ⟨0, .data⟩ (by simp) rfl)
        have e23 := hN.h23 (hdep ⟨4, .data⟩ (by simp) rfl)
        obtain rfl := hN.w hdi
        refine rstepIn_call (fun _ => trivial) (fun _ => by decide) (by simp) rfl (f := 70) (args := #[.int .i64 (diffS rest (2 ^ tz S) : Nat), .pointer (some ⟨b1, 0, none⟩), .pointer (some ⟨bp, 0, none⟩), .pointer (some ⟨b3, 0, none⟩)]) (w' := W3.drew) ?_ (CallsIn.inRound l (callsIn_wide.2 C.out)) ?_
        · simp only [hole, List.foldl_cons, List.foldl_nil, List.setIfInBounds_toArray, List.set_cons_zero, List.set_cons_succ]
          go_simp
        · rintro e w'' hw
          obtain ⟨rfl, hw2⟩ := hw
          exact ⟨_, rfl, (fun h => by simp at h), hN.c4, fun _ => ⟨hdep ⟨0, .data⟩ (by simp) rfl, hN.c4 (hdep ⟨4, .data⟩ (by simp) rfl)⟩, hN.h19, hN.h20, hN.h21, hN.h22, hN.h23, fun _ => ⟨rfl, rfl, hw2⟩, hN.h25⟩
      | 6, ho =>
        obtain rfl := Option.some.inj ho
        have e24 := (hN.h24 (hdep ⟨5, .data⟩ (by simp) rfl)).1
        refine rstepIn_value (fun _ => trivial) (by simp) rfl (v := .bool (!r.2)) (w' := wx) ?_ ?_
        · simp only [hole, List.foldl_cons, List.foldl_nil, List.setIfInBounds_toArray, List.set_cons_zero, List.set_cons_succ]
          go_simp
        · exact ⟨hN.w, hN.c4, hN.c5, hN.h19, hN.h20, hN.h21, hN.h22, hN.h23, hN.h24, fun _ => rfl⟩
    · intro dn y W5 hd hN
      obtain ⟨e24, -, inv5, kept5, prot5, hpost⟩ := hN.h24 (hd 5 (by simp))
      have e19 := hN.h19 (hd 0 (by simp))
      have e20 := hN.h20 (hd 1 (by simp))
      have e21 := hN.h21 (hd 2 (by simp))
      have e22 := hN.h22 (hd 3 (by simp))
      have e23 := hN.h23 (hd 4 (by simp))
      have e25 := hN.h25 (hd 6 (by simp))
      clear hN hd C IH
      refine hKx _ _ ?_
      clear hKx Kx
      simp only [hole, List.foldl_cons, List.foldl_nil, List.setIfInBounds_toArray, List.set_cons_zero, List.set_cons_succ, e19, e20, e21, e22, e23, e24, e25]
      clear e19 e20 e21 e22 e23 e24 e25 y
      have hsz3 : W3.drew.heap.size ≤ W5.heap.size := kept5.size
      have hlowb : Y.N ≤ Wb.heap.size := by omega
      have sm5 : Sm (fun k => Y.N ≤ k ∧ k ≠ bp ∧ some k ≠ pv'.ownBlock) Wb W5 := (sm2.mono (S' := fun k => Y.N ≤ k ∧ k ≠ bp ∧ some k ≠ pv'.ownBlock) fun k _ hk => hk.2).trans' kept5 (fun k hlt hk => ⟨hk.1, hk.2.1, fun e => by
        rcases hown2 k e.symm with e' | e'
        · exact hk.2.2 e'.symm
        · omega⟩)
      have nbk : ∀ k, W.heap.size ≤ k → k < W.heap.size + 3 → Y.N ≤ k ∧ k ≠ bp ∧ some k ≠ pv'.ownBlock := fun k h1 h2 => ⟨by omega, by omega, fun e => (L.nb k h1 h2).2 e.symm⟩
      have hx5' := sm5.boxed L.x5 (nbk _ (by omega) (by omega))
      have hx4' := sm5.boxed L.x4 (nbk _ (by omega) (by omega))
      have hxc' : BoxN W5 (W.heap.size + 2) S := sm5.boxed hbW (nbk _ (by omega) (by omega))
      have pr5 : ∀ k, Y.Prot r.1 W5 k → Y.Prot st Wb k ∨ W3.drew.heap.size ≤ k := fun k hk => (prot5 k hk).imp (st3.2 k) id
      have pr6 : ∀ k, Y.Prot r.1 W5 k → Y.Prot s W k ∨ W.heap.size ≤ k := fun k hk => by
        rcases pr5 k hk with h | h
        · exact L.prot k h
        · exact .inr (by omega)
      have nb6 : ∀ k, W.heap.size ≤ k → k < W.heap.size + 3 → ¬ Y.Prot r.1 W5 k := fun k h1 h2 hk => by
        rcases pr5 k hk with h | h
        · exact (L.nb k h1 h2).1 h
        · omega
      have c5b := hx5'.cell
      have f5b := hx5'.frozen
      have keep5 : Sm (KeptS Y bp pv) W W5 := L.kept.trans' sm5 (fun k hlt hk => ⟨hk.1, hk.2.1, fun e => by
        rcases L.row with e' | e'
        · rw [e'] at e; exact hk.2.2 e
        · have := e' k e.symm; omega⟩)
      have kf5 : KeepsFrom W4.heap.size Wb W5 := sm5.keepsFrom (fun k o hk ho hc => ⟨by omega, by omega, fun e => by
        obtain ⟨o', ho', hc'⟩ := L.ps.own.isCells k e.symm
        rw [ho] at ho'; cases ho'; rw [hc] at hc'; cases hc'⟩)
      cases hr2 : r.2 with
      | false =>
        have hrun2 : runP Y.step s (remP d rest pre rest) = (r.1, false) := by rw [hrun, hr2]; rfl
        have HR := Lib.hid hrun2
        have HR2 := Lib.hid hr2
        clear hrun hrun2 hr2 hpost
        gi_wp2
        have sm6 : Sm (fun k => k ≠ W.heap.size + 1) W5 (W5.setCell ⟨W.heap.size + 1, 0, none⟩ (.bool false)) := Sm.setCell _ _ _ _ (fun k hk => hk)
        refine ⟨kf5.trans (KeepsFrom.of_grownBy (IsBufferSet _ _ _ _) (fun k hk => by cases hk; omega)), rfl, ?_⟩
        have st6 := hY.stable _ _ _ inv5 (sm6.mono (S' := fun k => k < Y.N ∨ Y.Prot r.1 W5 k) fun k _ hk => hk.elim (fun hk => by omega) (fun hk e => nb6 k (by omega) (by omega) hk))
        refine ⟨by rw [HR.out], by rw [HR.out]; exact st6.1, Boxed.set _ hx5', keep5.trans' sm6 (fun k hk _ => by omega), by rw [HR.out]; exact fun k hk => pr6 k (st6.2 k hk), by rw [HR.out]; exact fun k h1 h2 e => nb6 k h1 h2 (st6.2 k e)⟩
      | true =>
        obtain ⟨pv3, P5, hat5⟩ := hpost hr2
        have hrun2 : runP Y.step s (remP d rest pre rest) = runP Y.step r.1 (remP d rest pre (nextS S)) := by rw [hrun, hr2]; rfl
        have hown3 : ∀ k, pv3.ownBlock = some k → pv'.ownBlock = some k ∨ Wb.heap.size ≤ k := fun k hk => by
          rcases hat5 with e | e
          · exact hown2 k (by rw [← e]; exact hk)
          · exact .inr (by have := e k hk; omega)
        obtain ⟨g3, k3, rfl⟩ := P5.own.rowN (by simp)
        have hk3 : pre.length + 1 ≤ k3 := by
          obtain ⟨a', c', e1, _, e2, _⟩ := (P5.own.ints (by rw [toI_length]; simp; omega)).openN
          obtain ⟨_, _, rfl⟩ := Value.slice.inj e1
          simpa using e2
        have c2d := P5.x2.cell
        have f2d := P5.x2.frozen
        have HR := Lib.hid hrun2
        have HR2 := Lib.hid hr2
        have HP := Lib.hid P5
        clear hrun hrun2 hr2 hpost hat5 P5
        have e9 : (pre ++ [tz S]).length = pre.length + 1 := by simp
        rw [e9] at c2d
        have w1 : IntKind.i64.wrap ((pre.length : Int) + 1 - 1) = (pre.length : Int) := by rw [IntWalk.i64_in _ (by omega)]; omega
        gi_wp2
        have P5 := HP.out
        have sm6 : Sm (fun k => k ≠ bp) W5 (W5.setCell ⟨bp, 0, none⟩ (.slice (some ⟨g3, 0, none⟩) pre.length k3)) := Sm.setCell _ _ _ _ (fun k hk => hk)
        have hcut : OwnI 3 Y.N W5 (.slice (some ⟨g3, 0, none⟩) pre.length k3) (toI pre) := by
          have := own_cut P5.own pre.length (by rw [toI_length]; simp)
          rw [toI_take, List.take_left] at this
          exact this
        refine ⟨kf5.trans (KeepsFrom.of_grownBy (IsBufferSet _ _ _ _) (fun k hk => by cases hk; omega)), sm6.boxed hxc' (by omega), by have := nextS_lt S hS hpos; omega, fun j hj => ?_, r.1, .slice (some ⟨g3, 0, none⟩) pre.length k3, ?_⟩
        · unfold nextS at hj
          rw [Nat.testBit_and] at hj
          exact hsub j (by simp at hj; exact hj.1)
        · have st6 := hY.stable _ _ _ inv5 (sm6.mono (S' := fun k => k < Y.N ∨ Y.Prot r.1 W5 k) fun k _ hk => hk.elim (fun hk => by omega) (fun hk e => P5.q2 (e ▸ hk)))
          refine ⟨⟨st6.1, sm6.boxed P5.x1 hne13, Boxed.set _ P5.x2, sm6.boxed P5.x3 hne33, own_setBox hcut P5.x2 (by decide) _, n1, n2, n3, fun e => P5.q1 (st6.2 _ e), fun e => P5.q2 (st6.2 _ e), fun e => P5.q3 (st6.2 _ e), fun k hk e => P5.qp k hk (st6.2 _ e)⟩,
            HR.out, sm6.boxed hx4' (by omega), sm6.boxed hx5' (by omega), keep5.trans' sm6 (fun k _ hk => hk.2.1), ?_, fun k hk => pr6 k (st6.2 k hk), fun k h1 h2 => ⟨fun e => nb6 k h1 h2 (st6.2 k e), fun e => ?_⟩⟩
          · rcases hown3 g3 rfl with e | e
            · rcases L.row with e' | e'
              · exact .inl (by rw [← e', e]; rfl)
              · exact .inr (fun k hk => e' k (by rw [e, ← hk]; rfl))
            · exact .inr (fun k hk => by have hk' : some g3 = some k := hk; cases hk'; omega)
          · rcases hown3 k e with e' | e'
            · exact (L.nb k h1 h2).2 e'
            · omega
  · rintro D Wl hD ⟨_, _, st, pv', L⟩ hK
    have c5 := L.x5.cell
    have f5 := L.x5.frozen
    have HL := Lib.hid L
    clear L
    refine hKq _ _ ?_
    clear hKq Kq
    go_wp2
    have L := HL.out
    have hDl : D < Wl.heap.size := (Array.getElem?_eq_some_iff.1 hK).1
    have hK' : (Wl.setCell ⟨W.heap.size + 1, 0, none⟩ (.bool true)).heap[D]? = some (.deferred (some [])) := (Below.heap_setCell Wl ⟨W.heap.size + 1, 0, none⟩ (.bool true) D (by show D ≠ W.heap.size + 1; omega)).trans hK
    have sm : Sm (fun k => k ≠ W.heap.size + 1 ∧ k ≠ D) Wl ((Wl.setCell ⟨W.heap.size + 1, 0, none⟩ (.bool true)).putObj D (.deferred none)) :=
      (Sm.setCell (S := fun k => k ≠ W.heap.size + 1 ∧ k ≠ D) Wl (W.heap.size + 1) 0 (.bool true) (fun k hk => hk.1)).trans (Sm.putObj _ (fun k hk => hk.2))
    have hx5' : Boxed ((Wl.setCell ⟨W.heap.size + 1, 0, none⟩ (.bool true)).putObj D (.deferred none)) (W.heap.size + 1) 4 (.bool true) := (World.putObj_heap_other (by omega)).trans (Boxed.set (.bool true) L.x5)
    refine leaves_one hK' (results_cell rfl rfl hx5') ?_
    generalize hW5 : (Wl.setCell ⟨W.heap.size + 1, 0, none⟩ (.bool true)).putObj D (.deferred none) = W5 at sm hx5' ⊢
    clear hW5
    have nd : ∀ k, (∃ o, Wl.heap[k]? = some o ∧ o.isCells = true) → k ≠ D := fun k hk e => by
      subst e
      obtain ⟨o, ho, hc⟩ := hk
      rw [hK] at ho; cases ho; cases hc
    have P5 : PS Y b1 bp b3 st pre pv' W5 := L.ps.sm hY sm fun k hk hh => by
      rcases hh with hh | hh | rfl | rfl | rfl | hh
      · exact ⟨by omega, by omega⟩
      · exact ⟨fun e => (L.nb k (by omega) (by omega)).1 hh, nd k (hY.cells _ _ _ L.ps.inv hh)⟩
      · exact ⟨by omega, by omega⟩
      · exact ⟨by omega, by omega⟩
      · exact ⟨by omega, by omega⟩
      · exact ⟨fun e => (L.nb k (by omega) (by omega)).2 hh, nd k (L.ps.own.isCells k hh)⟩
    rw [L.run, remP_zero]
    have st6 := hY.stable _ _ _ L.ps.inv (sm.mono (S' := fun k => k < Y.N ∨ Y.Prot st Wl k) fun k _ hk => by
      rcases hk with hh | hh
      · exact ⟨by omega, by omega⟩
      · exact ⟨fun e => (L.nb k (by omega) (by omega)).1 hh, nd k (hY.cells _ _ _ L.ps.inv hh)⟩)
    exact ⟨rfl, P5.inv, L.kept.trans' sm (fun k hk _ => ⟨by omega, by omega⟩), fun k hk => L.prot k (st6.2 k hk), fun _ => ⟨pv', P5, L.row⟩⟩
  · rintro D c Wl hD ⟨rfl, L⟩ hK
    have hDl : D < Wl.heap.size := (Array.getElem?_eq_some_iff.1 hK).1
    have HL := Lib.hid L
    clear L
    go_wp2
    have L := HL.out
    have sm : Sm (fun k => k ≠ D) Wl (Wl.putObj D (.deferred none)) := Sm.putObj _ (fun k hk => hk)
    have hx5' := sm.boxed L.x5 (by omega)
    refine leaves_one hK (results_cell rfl rfl hx5') ?_
    have nd : ∀ k, (∃ o, Wl.heap[k]? = some o ∧ o.isCells = true) → k ≠ D := fun k hk e => by
      subst e
      obtain ⟨o, ho, hc⟩ := hk
      rw [hK] at ho; cases ho; cases hc
    have st6 := hY.stable _ _ _ L.inv (sm.mono (S' := fun k => k < Y.N ∨ Y.Prot (runP Y.step s (remP d rest pre rest)).1 Wl k) fun k _ hk => hk.elim (fun hh => by omega) (fun hh => nd k (hY.cells _ _ _ L.inv hh)))
    refine ⟨by rw [L.run], st6.1, L.kept.trans' sm (fun k hk _ => by omega), fun k hk => L.prot k (st6.2 k hk), fun e => by rw [L.run] at e; cases e⟩

include hY in
/-- **walk(rest)**. -/
theorem walk_any (hn : Y.n ≤ 6) : ∀ (d rest : Nat) (s : σ) (pre : List Nat) (pv : Value) (W : World), PS Y b1 bp b3 s pre pv W → rest < 64 → pop rest = d → pre.length + d = Y.n → (∀ c ∈ pre, c < 6) →
    Calls Tryd.prog 70 #[.int .i64 rest, .pointer (some ⟨b1, 0, none⟩), .pointer (some ⟨bp, 0, none⟩), .pointer (some ⟨b3, 0, none⟩)] W (WPost Y b1 bp b3 (runP Y.step s ((perms d rest).map (pre ++ ·))) s pre pv W)
  | 0, rest, s, pre, pv, W, h, hr, hp, hl, h6 => by
    have h0 : rest = 0 := by have := pop_zero_iff rest hr; rw [hp] at this; simpa using this
    subst h0
    have := walk_leaf Y hY b1 bp b3 s pre pv W h hn (by simpa using hl) h6
    have e : runP Y.step s ((perms 0 0).map (pre ++ ·)) = Y.step s pre := by
      have e1 : (perms 0 0).map (pre ++ ·) = [pre] := by simp [perms]
      rw [e1]
      simp only [runP]
      cases h2 : (Y.step s pre).2 <;> simp [← h2]
    rw [e]
    exact this
  | d + 1, rest, s, pre, pv, W, h, hr, hp, hl, h6 => by
    have := walk_node hY s pre pv W h rest d hr hl hn h6 hp (fun rest' s' pre' pv' W' h' hr' hp' hl' h6' => walk_any hn d rest' s' pre' pv' W' h' hr' hp' hl' h6')
    exact this
end
end Go.Proofs.YtlpnicfbgdfbnaaDoor

/- The hit numbers as plain lists, and the law that ties them to the rook numbers. -/
namespace Go.Proofs.YtlpnicfbgdfbnaaDoor

/-- One more at a place. -/
def inc (s : List Nat) (i : Nat) : List Nat := s.set i (s.getD i 0 + 1)
theorem inc_length (s : List Nat) (i : Nat) : (inc s i).length = s.length := by simp [inc]
theorem inc_getD (s : List Nat) (i m : Nat) (hi : i < s.length) : (inc s i).getD m 0 = s.getD m 0 + if i = m then 1 else 0 := by
  unfold inc
  by_cases h : i = m
  · subst h; simp [List.getD, hi]
  · simp [List.getD, h]

/-- The hit numbers. -/
def hitsFrom (bs : List Nat) (s : List Nat) (ls : List (List Nat)) : List Nat := ls.foldl (fun s l => inc s (hitN bs l)) s
def allP (n : Nat) : List (List Nat) := perms n (2 ^ n - 1)
def hitsL (bs : List Nat) : List Nat := hitsFrom bs (List.replicate (bs.length + 1) 0) (allP bs.length)

theorem hitsFrom_length (bs : List Nat) : ∀ (ls : List (List Nat)) (s : List Nat), (hitsFrom bs s ls).length = s.length
  | [], s => rfl
  | l :: ls, s => by
    have := hitsFrom_length bs ls (inc s (hitN bs l))
    rw [inc_length] at this
    exact this
theorem hitsL_length (bs : List Nat) : (hitsL bs).length = bs.length + 1 := by unfold hitsL; rw [hitsFrom_length]; simp

/-- How many lists hit m times. -/
def hcount (bs : List Nat) (m : Nat) (ls : List (List Nat)) : Nat := (ls.map fun l => if hitN bs l = m then 1 else 0).sum

theorem hitsFrom_getD (bs : List Nat) (m : Nat) : ∀ (ls : List (List Nat)) (s : List Nat), (∀ l ∈ ls, hitN bs l < s.length) → (hitsFrom bs s ls).getD m 0 = s.getD m 0 + hcount bs m ls
  | [], s, _ => by simp [hitsFrom, hcount]
  | l :: ls, s, h => by
    have ih := hitsFrom_getD bs m ls (inc s (hitN bs l)) (fun x hx => by rw [inc_length]; exact h x (List.mem_cons_of_mem _ hx))
    have e : hitsFrom bs s (l :: ls) = hitsFrom bs (inc s (hitN bs l)) ls := rfl
    rw [e, ih, inc_getD _ _ _ (h l List.mem_cons_self)]
    simp [hcount]; omega

theorem hitsL_getD (bs : List Nat) (m : Nat) : (hitsL bs).getD m 0 = hcount bs m (allP bs.length) := by
  unfold hitsL
  rw [hitsFrom_getD]
  · have : (List.replicate (bs.length + 1) 0).getD m 0 = 0 := by simp [List.getD, List.getElem?_replicate]; split <;> rfl
    omega
  · intro l hl
    have h1 := hitN_le bs l
    have h2 := perms_len _ _ _ hl
    simp; omega

theorem hcount_le (bs : List Nat) (m : Nat) : ∀ ls : List (List Nat), hcount bs m ls ≤ ls.length
  | [] => by simp [hcount]
  | l :: ls => by
    have := hcount_le bs m ls
    simp only [hcount, List.map_cons, List.sum_cons, List.length_cons] at this ⊢
    split <;> omega
theorem allP_length : ∀ n : Nat, n < 7 → (allP n).length ≤ 720 := by decide +kernel
theorem hitsL_le (bs : List Nat) (h : bs.length ≤ 6) (m : Nat) : (hitsL bs).getD m 0 ≤ 720 := by
  rw [hitsL_getD]; exact Nat.le_trans (hcount_le _ _ _) (allP_length _ (by omega))
theorem hitsFrom_le (bs : List Nat) (m : Nat) : ∀ (ls : List (List Nat)) (s : List Nat), (∀ l ∈ ls, hitN bs l < s.length) → (hitsFrom bs s ls).getD m 0 ≤ s.getD m 0 + ls.length := fun ls s h => by
  rw [hitsFrom_getD bs m ls s h]; have := hcount_le bs m ls; omega

/-! ### choosing of the hits -/
def choose : Nat → Nat → Nat
  | _, 0 => 1
  | 0, _ + 1 => 0
  | n + 1, k + 1 => choose n k + choose n (k + 1)
def fac : Nat → Nat
  | 0 => 1
  | n + 1 => (n + 1) * fac n
theorem choose_zero (n : Nat) : choose n 0 = 1 := by cases n <;> rfl
theorem choose_gt : ∀ n k, n < k → choose n k = 0
  | 0, k + 1, _ => rfl
  | n + 1, k + 1, h => by rw [choose, choose_gt n k (by omega), choose_gt n (k + 1) (by omega)]

theorem csum_mul (a : Nat) (f : Nat → Nat) : csum (fun c => a * f c) = a * csum f := by simp only [csum, Nat.mul_add]
theorem csum_swap (f : Nat → Nat → Nat) : csum (fun i => csum (fun j => f i j)) = csum (fun j => csum (fun i => f i j)) := by simp only [csum]; omega
theorem csum_zero : csum (fun _ => 0) = 0 := rfl

/-- The ways to place k rooks on some rows where some columns are left. -/
def cntR : List Nat → Nat → Nat → Nat
  | _, _, 0 => 1
  | [], _, _ + 1 => 0
  | r :: rs, s, k + 1 => cntR rs s (k + 1) + csum fun c => if s.testBit c then (if r.testBit c then cntR rs (diffS s (2 ^ c)) k else 0) else 0
theorem cntR_zero (rs : List Nat) (u : Nat) : cntR rs u 0 = 1 := by cases rs <;> rfl
theorem cntR_gt : ∀ (rs : List Nat) (s k : Nat), rs.length < k → cntR rs s k = 0
  | [], s, k + 1, _ => rfl
  | r :: rs, s, k + 1, h => by
    rw [cntR, cntR_gt rs s (k + 1) (by simp at h; omega)]
    have : (csum fun c => if s.testBit c then (if r.testBit c then cntR rs (diffS s (2 ^ c)) k else 0) else 0) = csum fun _ => 0 := csum_congr fun c _ => by
      rw [cntR_gt rs _ k (by simp at h; omega)]; simp
    rw [this]; rfl
def popS (s : Nat) : Nat := csum fun c => if s.testBit c then 1 else 0

theorem diffS_pow (s j c : Nat) : (diffS s (2 ^ j)).testBit c = (s.testBit c && !decide (c = j)) := by
  rw [diffS_bit]; unfold free
  rw [Nat.testBit_two_pow]
  by_cases h : j = c
  · subst h; simp
  · have h' : ¬ c = j := fun e => h e.symm
    simp [h, h']
theorem diffS_swap (s i j : Nat) : diffS (diffS s (2 ^ i)) (2 ^ j) = diffS (diffS s (2 ^ j)) (2 ^ i) := by
  refine Nat.eq_of_testBit_eq fun c => ?_
  rw [diffS_pow, diffS_pow, diffS_pow, diffS_pow]
  cases s.testBit c <;> cases decide (c = i) <;> cases decide (c = j) <;> rfl
theorem popS_del (s j : Nat) (hj : j < 6) (hb : s.testBit j = true) : popS (diffS s (2 ^ j)) + 1 = popS s := by
  unfold popS
  have e := csum_one j hj 1
  have : csum (fun c => if s.testBit c then 1 else 0) = csum (fun c => if (diffS s (2 ^ j)).testBit c then 1 else 0) + csum fun c => if c = j then 1 else 0 := ?_
  · rw [this, e]
  rw [← csum_add]
  refine csum_congr fun c _ => ?_
  rw [diffS_pow]
  by_cases h : c = j
  · subst h; simp [hb]
  · simp [h]

theorem cnt_cntR : ∀ (rs : List Nat) (u s k : Nat), (∀ r ∈ rs, ∀ c, c < 6 → r.testBit c = true → (!u.testBit c) = s.testBit c) → cnt rs u k = cntR rs s k
  | _, _, _, 0, _ => by rw [cnt_zero, cntR_zero]
  | [], _, _, _ + 1, _ => rfl
  | r :: rs, u, s, k + 1, h => by
    rw [cnt, cntR, cnt_cntR rs u s (k + 1) (fun x hx => h x (List.mem_cons_of_mem _ hx))]
    congr 1
    refine csum_congr fun c hc => ?_
    have hr := h r List.mem_cons_self c hc
    unfold free
    cases hb : r.testBit c with
    | false => simp
    | true =>
      have hr := hr hb
      cases hs : s.testBit c with
      | false => rw [hs] at hr; simp [hr]
      | true =>
        rw [hs] at hr
        simp only [hr, Bool.and_true, if_true]
        refine cnt_cntR rs _ _ k (fun x hx d hd hxd => ?_)
        have := h x (List.mem_cons_of_mem _ hx) d hd hxd
        rw [diffS_pow, Nat.testBit_or, Nat.testBit_two_pow, ← this]
        by_cases e : c = d
        · subst e; simp
        · have e' : ¬ d = c := fun x => e x.symm
          simp [e, e']

/-- Without any one column of those that are left: all but as many as there are rooks. -/
theorem cntR_del : ∀ (rs : List Nat) (s k : Nat), csum (fun j => if s.testBit j then cntR rs (diffS s (2 ^ j)) k else 0) + k * cntR rs s k = popS s * cntR rs s k
  | rs, s, 0 => by
    have : csum (fun j => if s.testBit j then cntR rs (diffS s (2 ^ j)) 0 else 0) = popS s := csum_congr fun j _ => by rw [cntR_zero]
    rw [this, cntR_zero]; omega
  | [], s, k + 1 => by
    have : csum (fun j => if s.testBit j then cntR [] (diffS s (2 ^ j)) (k + 1) else 0) = csum fun _ => 0 := csum_congr fun j _ => by simp [cntR]
    rw [this]; rfl
  | r :: rs, s, k + 1 => by
    have ih1 := cntR_del rs s (k + 1)
    have e1 : csum (fun j => if s.testBit j then cntR (r :: rs) (diffS s (2 ^ j)) (k + 1) else 0) =
        csum (fun j => if s.testBit j then cntR rs (diffS s (2 ^ j)) (k + 1) else 0) + csum (fun c => if s.testBit c then (if r.testBit c then csum (fun j => if (diffS s (2 ^ c)).testBit j then cntR rs (diffS (diffS s (2 ^ c)) (2 ^ j)) k else 0) else 0) else 0) := by
      have e2 : csum (fun c => if s.testBit c then (if r.testBit c then csum (fun j => if (diffS s (2 ^ c)).testBit j then cntR rs (diffS (diffS s (2 ^ c)) (2 ^ j)) k else 0) else 0) else 0) =
          csum (fun j => csum (fun c => if s.testBit c then (if r.testBit c then (if (diffS s (2 ^ c)).testBit j then cntR rs (diffS (diffS s (2 ^ c)) (2 ^ j)) k else 0) else 0) else 0)) := by
        rw [← csum_swap]
        refine csum_congr fun c _ => ?_
        by_cases h1 : s.testBit c = true <;> by_cases h2 : r.testBit c = true <;> simp [h1, h2, csum_zero]
      rw [e2, ← csum_add]
      refine csum_congr fun j _ => ?_
      by_cases h : s.testBit j = true
      · rw [if_pos h, if_pos h, cntR]
        congr 1
        refine csum_congr fun c _ => ?_
        rw [diffS_pow, diffS_pow, diffS_swap s c j]
        by_cases e : c = j
        · subst e; simp
        · have e' : ¬ j = c := fun x => e x.symm
          by_cases h1 : s.testBit c = true <;> by_cases h2 : r.testBit c = true <;> simp [h, h1, h2, e, e']
      · rw [if_neg h, if_neg h]
        have : csum (fun c => if s.testBit c then (if r.testBit c then (if (diffS s (2 ^ c)).testBit j then cntR rs (diffS (diffS s (2 ^ c)) (2 ^ j)) k else 0) else 0) else 0) = csum fun _ => 0 :=
          csum_congr fun c _ => by rw [diffS_pow]; simp [h]
        rw [this]; rfl
    obtain ⟨T, hT⟩ : ∃ T, (csum fun c => if s.testBit c then (if r.testBit c then cntR rs (diffS s (2 ^ c)) k else 0) else 0) = T := ⟨_, rfl⟩
    have e3 : csum (fun c => if s.testBit c then (if r.testBit c then csum (fun j => if (diffS s (2 ^ c)).testBit j then cntR rs (diffS (diffS s (2 ^ c)) (2 ^ j)) k else 0) else 0) else 0) + (k + 1) * T = popS s * T := by
      rw [← hT, ← csum_mul, ← csum_mul, ← csum_add]
      refine csum_congr fun c hc => ?_
      by_cases h1 : s.testBit c = true <;> by_cases h2 : r.testBit c = true <;> simp only [h1, h2, if_true, if_false, Nat.mul_zero, Nat.add_zero, Bool.false_eq_true]
      have ih2 := cntR_del rs (diffS s (2 ^ c)) k
      have hp := popS_del s c hc h1
      rw [← hp, Nat.add_mul, Nat.add_mul, Nat.one_mul]
      omega
    rw [e1, cntR, hT, Nat.mul_add, Nat.mul_add]
    omega

/-- With how many ways to choose of the hits. -/
def hsum (bs : List Nat) (d s k : Nat) : Nat := ((perms d s).map fun p => choose (hitN bs p) k).sum

theorem elems_csum (s : Nat) (hs : s < 64) (g : Nat → Nat) : ((elems s).map g).sum = csum fun c => if s.testBit c then g c else 0 := by
  have := elems_sum s 0 hs g
  have e : diffS s 0 = s := by simp [diffS]
  rw [e] at this
  rw [this]
  exact csum_congr fun c _ => by simp [free]

theorem sum_flatMap (f : List Nat → Nat) (g : Nat → List (List Nat)) : ∀ l : List Nat, ((l.flatMap g).map f).sum = (l.map fun j => ((g j).map f).sum).sum
  | [] => rfl
  | x :: l => by simp [List.flatMap_cons, sum_flatMap f g l]
theorem sum_add (f g : List Nat → Nat) : ∀ l : List (List Nat), (l.map fun p => f p + g p).sum = (l.map f).sum + (l.map g).sum
  | [] => rfl
  | x :: l => by simp [sum_add f g l]; omega

theorem hsum_step (r : Nat) (rs : List Nat) (d s k : Nat) (hs : s < 64) :
    hsum (r :: rs) (d + 1) s (k + 1) = csum fun j => if s.testBit j then hsum rs d (diffS s (2 ^ j)) (k + 1) + (if r.testBit j then hsum rs d (diffS s (2 ^ j)) k else 0) else 0 := by
  unfold hsum
  rw [perms, sum_flatMap, elems_csum s hs]
  refine csum_congr fun j _ => ?_
  by_cases h : s.testBit j = true
  · rw [if_pos h, if_pos h, List.map_map]
    by_cases hr : r.testBit j = true
    · rw [if_pos hr, ← sum_add]
      congr 1
      refine List.map_congr_left fun p _ => ?_
      simp only [Function.comp, hitN, hr, if_true]
      rw [Nat.add_comm 1, choose]; omega
    · rw [if_neg hr]
      simp only [Nat.add_zero]
      congr 1
      refine List.map_congr_left fun p _ => ?_
      simp [Function.comp, hitN, hr]
  · rw [if_neg h, if_neg h]
theorem hsum_step0 (r : Nat) (rs : List Nat) (d s : Nat) (hs : s < 64) :
    hsum (r :: rs) (d + 1) s 0 = csum fun j => if s.testBit j then hsum rs d (diffS s (2 ^ j)) 0 else 0 := by
  unfold hsum
  rw [perms, sum_flatMap, elems_csum s hs]
  refine csum_congr fun j _ => ?_
  by_cases h : s.testBit j = true
  · rw [if_pos h, if_pos h, List.map_map]
    congr 1
    exact List.map_congr_left fun p _ => by simp [choose_zero]
  · rw [if_neg h, if_neg h]

theorem hsum_gt (bs : List Nat) (d s k : Nat) (h : d < k) : hsum bs d s k = 0 := by
  unfold hsum
  have : ∀ ls : List (List Nat), (∀ l ∈ ls, l.length = d) → (ls.map fun p => choose (hitN bs p) k).sum = 0 := by
    intro ls
    induction ls with
    | nil => intro _; rfl
    | cons l ls ih =>
      intro hl
      rw [List.map_cons, List.sum_cons, ih (fun x hx => hl x (List.mem_cons_of_mem _ hx)), choose_gt]
      have := hitN_le bs l
      have := hl l List.mem_cons_self
      omega
  exact this _ (fun l hl => perms_len d s l hl)

/-- **THE LAW OF THE HITS**. -/
theorem hsum_cnt : ∀ (rs : List Nat) (d s k : Nat), rs.length = d → s < 64 → popS s = d → k ≤ d → hsum rs d s k = cntR rs s k * fac (d - k)
  | [], 0, s, k, _, _, _, hk => by
    obtain rfl : k = 0 := by omega
    simp [hsum, perms, choose_zero, cntR_zero, fac]
  | r :: rs, d + 1, s, 0, hl, hs, hp, _ => by
    rw [hsum_step0 _ _ _ _ hs, cntR_zero]
    have : (csum fun j => if s.testBit j then hsum rs d (diffS s (2 ^ j)) 0 else 0) = csum fun j => fac d * (if s.testBit j then 1 else 0) := csum_congr fun j hj => by
      by_cases h : s.testBit j = true
      · rw [if_pos h, if_pos h, hsum_cnt rs d _ 0 (by simpa using hl) (diffS_lt6 hs) (by have := popS_del s j hj h; omega) (by omega), cntR_zero]; simp
      · rw [if_neg h, if_neg h]; rfl
    rw [this, csum_mul]
    have h2 : (csum fun j => if s.testBit j then 1 else 0) = d + 1 := hp
    rw [h2]
    simp only [Nat.sub_zero, fac, Nat.one_mul]
    exact Nat.mul_comm _ _
  | r :: rs, d + 1, s, k + 1, hl, hs, hp, hk => by
    have hl' : rs.length = d := by simpa using hl
    rw [hsum_step _ _ _ _ _ hs, cntR, show d + 1 - (k + 1) = d - k by omega]
    have e0 : (csum fun j => if s.testBit j then hsum rs d (diffS s (2 ^ j)) (k + 1) + (if r.testBit j then hsum rs d (diffS s (2 ^ j)) k else 0) else 0) =
        csum (fun j => if s.testBit j then hsum rs d (diffS s (2 ^ j)) (k + 1) else 0) + fac (d - k) * csum (fun j => if s.testBit j then (if r.testBit j then cntR rs (diffS s (2 ^ j)) k else 0) else 0) := by
      rw [← csum_mul, ← csum_add]
      refine csum_congr fun j hj => ?_
      by_cases h : s.testBit j = true
      · simp only [h, if_true]
        congr 1
        by_cases hr : r.testBit j = true
        · simp only [hr, if_true]
          rw [hsum_cnt rs d _ k hl' (diffS_lt6 hs) (by have := popS_del s j hj h; omega) (by omega), Nat.mul_comm]
        · simp [hr]
      · simp [h]
    rw [e0, Nat.add_mul, Nat.mul_comm (fac (d - k))]
    congr 1
    by_cases h : k + 1 ≤ d
    · have e1 : csum (fun j => if s.testBit j then hsum rs d (diffS s (2 ^ j)) (k + 1) else 0) = fac (d - (k + 1)) * csum (fun j => if s.testBit j then cntR rs (diffS s (2 ^ j)) (k + 1) else 0) := by
        rw [← csum_mul]
        refine csum_congr fun j hj => ?_
        by_cases hb : s.testBit j = true
        · simp only [hb, if_true]
          rw [hsum_cnt rs d _ (k + 1) hl' (diffS_lt6 hs) (by have := popS_del s j hj hb; omega) h, Nat.mul_comm]
        · simp [hb]
      have h2 := cntR_del rs s (k + 1)
      rw [hp] at h2
      obtain ⟨q, hq⟩ : ∃ q, d - k = q + 1 := ⟨d - k - 1, by omega⟩
      have h3 : csum (fun j => if s.testBit j then cntR rs (diffS s (2 ^ j)) (k + 1) else 0) = (q + 1) * cntR rs s (k + 1) := by
        have : d + 1 = (q + 1) + (k + 1) := by omega
        rw [this, Nat.add_mul (q + 1)] at h2
        exact Nat.add_right_cancel h2
      rw [e1, h3, hq, show d - (k + 1) = q by omega, fac]
      rw [Nat.mul_comm (fac q), Nat.mul_assoc, Nat.mul_left_comm]
    · have e1 : csum (fun j => if s.testBit j then hsum rs d (diffS s (2 ^ j)) (k + 1) else 0) = csum fun _ => 0 := csum_congr fun j _ => by
        rw [hsum_gt rs d _ (k + 1) (by omega)]; simp
      rw [e1, csum_zero, cntR_gt rs s (k + 1) (by omega)]; simp

/-- A sum over the first numbers. -/
def nsum (f : Nat → Nat) : Nat → Nat
  | 0 => 0
  | n + 1 => nsum f n + f n
theorem nsum_add (f g : Nat → Nat) : ∀ n, nsum (fun m => f m + g m) n = nsum f n + nsum g n
  | 0 => rfl
  | n + 1 => by simp only [nsum]; rw [nsum_add f g n]; omega
theorem nsum_congr {f g : Nat → Nat} : ∀ n, (∀ m, m < n → f m = g m) → nsum f n = nsum g n
  | 0, _ => rfl
  | n + 1, h => by simp only [nsum]; rw [nsum_congr n (fun m hm => h m (by omega)), h n (by omega)]
theorem nsum_one (x : Nat) (f : Nat → Nat) : ∀ n, nsum (fun m => if x = m then f m else 0) n = if x < n then f x else 0
  | 0 => rfl
  | n + 1 => by
    simp only [nsum]
    rw [nsum_one x f n]
    by_cases h : x = n
    · subst h; simp
    · by_cases h2 : x < n
      · simp [h, h2, show x < n + 1 by omega]
      · simp [h, h2, show ¬ x < n + 1 by omega]
theorem nsum_zero : ∀ n, nsum (fun _ => 0) n = 0
  | 0 => rfl
  | n + 1 => by simp only [nsum]; rw [nsum_zero n]
theorem nsum_le {f : Nat → Nat} {M : Nat} : ∀ n, (∀ m, m < n → f m ≤ M) → nsum f n ≤ n * M
  | 0, _ => by simp [nsum]
  | n + 1, h => by
    have := nsum_le n (fun m hm => h m (by omega))
    have := h n (by omega)
    simp only [nsum]; rw [Nat.succ_mul]; omega

theorem hcount_choose (bs : List Nat) (n k : Nat) : ∀ ls : List (List Nat), (∀ l ∈ ls, hitN bs l < n) → nsum (fun m => hcount bs m ls * choose m k) n = (ls.map fun p => choose (hitN bs p) k).sum
  | [], _ => by
    have : nsum (fun m => hcount bs m [] * choose m k) n = nsum (fun _ => 0) n := nsum_congr n fun m _ => by simp [hcount]
    rw [this, nsum_zero]; rfl
  | l :: ls, h => by
    have ih := hcount_choose bs n k ls (fun x hx => h x (List.mem_cons_of_mem _ hx))
    have h1 : nsum (fun m => hcount bs m (l :: ls) * choose m k) n = nsum (fun m => (if hitN bs l = m then choose m k else 0) + hcount bs m ls * choose m k) n := nsum_congr n fun m _ => by
      simp only [hcount, List.map_cons, List.sum_cons, Nat.add_mul]
      congr 1
      split <;> simp
    rw [h1, nsum_add, ih, nsum_one, if_pos (h l List.mem_cons_self)]
    simp

theorem all_bit : ∀ n : Nat, n < 7 → ∀ c : Nat, c < 8 → (2 ^ n - 1).testBit c = decide (c < n) := by decide +kernel
theorem all_pop : ∀ n : Nat, n < 7 → popS (2 ^ n - 1) = n ∧ 2 ^ n - 1 < 64 ∧ pop (2 ^ n - 1) = n := by decide +kernel

theorem row_bit {n r c : Nat} (h : r < 2 ^ n) (hb : r.testBit c = true) : c < n := Nat.lt_of_not_le fun hc => by
  rw [Nat.testBit_lt_two_pow (Nat.lt_of_lt_of_le h (Nat.pow_le_pow_right (by decide) hc))] at hb; cases hb

/-- The hit numbers with how many ways there are to choose sum to the rook numbers times a factorial. -/
theorem hits_rooks (bs : List Nat) (h6 : bs.length ≤ 6) (hr : ∀ r ∈ bs, r < 2 ^ bs.length) (k : Nat) (hk : k ≤ bs.length) :
    nsum (fun m => (hitsL bs).getD m 0 * choose m k) (bs.length + 1) = (numL bs 0).getD k 0 * fac (bs.length - k) := by
  have e1 : nsum (fun m => (hitsL bs).getD m 0 * choose m k) (bs.length + 1) = nsum (fun m => hcount bs m (allP bs.length) * choose m k) (bs.length + 1) := nsum_congr _ fun m _ => by rw [hitsL_getD]
  rw [e1, hcount_choose bs _ k (allP bs.length) (fun l hl => by
    have h1 := hitN_le bs l
    have h2 := perms_len _ _ _ hl
    omega)]
  obtain ⟨p1, p2, p3⟩ := all_pop bs.length (by omega)
  have e2 := hsum_cnt bs bs.length (2 ^ bs.length - 1) k rfl p2 p1 hk
  unfold hsum at e2
  unfold allP
  rw [e2]
  congr 1
  have h64 : ∀ r ∈ bs, r < 64 := fun r h => Nat.lt_of_lt_of_le (hr r h) (Nat.pow_le_pow_right (by decide) h6)
  rw [numL_cnt _ _ _ h64]
  symm
  refine cnt_cntR bs 0 _ k (fun r hrm c hc hb => ?_)
  rw [all_bit _ (by omega) c (by omega)]
  have := row_bit (hr r hrm) hb
  simp [this]

/-- What is hit of the other squares. -/
theorem perms_sub : ∀ (d s : Nat) (l : List Nat), s < 64 → l ∈ perms d s → ∀ c ∈ l, s.testBit c = true
  | 0, _, l, _, h => by simp [perms] at h; simp [h]
  | d + 1, s, l, hr, h => by
    simp only [perms, List.mem_flatMap, List.mem_map] at h
    obtain ⟨j, hj, l', h', rfl⟩ := h
    intro c hc
    rcases List.mem_cons.1 hc with rfl | hc
    · exact elems_bit hj
    · have := perms_sub d _ l' (diffS_lt6 hr) h' c hc
      rw [diffS_pow] at this
      simp at this
      exact this.1
theorem hitN_other (n : Nat) (f : Nat → Nat) : ∀ (bs l : List Nat), l.length = bs.length → (∀ r ∈ bs, ∀ c ∈ l, (f r).testBit c = !r.testBit c) → hitN bs l + hitN (bs.map f) l = bs.length
  | [], [], _, _ => rfl
  | [], _ :: _, h, _ => by simp at h
  | _ :: _, [], h, _ => by simp at h
  | r :: bs, c :: l, h, hf => by
    have ih := hitN_other n f bs l (by simpa using h) (fun r hr c hc => hf r (List.mem_cons_of_mem _ hr) c (List.mem_cons_of_mem _ hc))
    have := hf r List.mem_cons_self c List.mem_cons_self
    simp only [hitN, List.map_cons, this, List.length_cons]
    cases r.testBit c <;> simp <;> omega
theorem hcount_map (bs bs' : List Nat) (m m' : Nat) : ∀ ls : List (List Nat), (∀ l ∈ ls, (hitN bs l = m ↔ hitN bs' l = m')) → hcount bs m ls = hcount bs' m' ls
  | [], _ => rfl
  | l :: ls, h => by
    have ih := hcount_map bs bs' m m' ls (fun x hx => h x (List.mem_cons_of_mem _ hx))
    have := h l List.mem_cons_self
    simp only [hcount, List.map_cons, List.sum_cons] at ih ⊢
    rw [ih]
    congr 1
    simp only [this]
theorem other_bit : ∀ n : Nat, n < 7 → ∀ r : Nat, r < 64 → ∀ c : Nat, c < 6 → (!(decide (r < 2 ^ n) && decide (c < n)) || (otherRow n r).testBit c == !r.testBit c) = true := by decide +kernel
end Go.Proofs.YtlpnicfbgdfbnaaDoor

/- rooks.permutations. -/
namespace Go.Proofs.YtlpnicfbgdfbnaaDoor
open Go.RowKit Go.Shelf
attribute [local go_sem] Oper.semAt_some

theorem run_store_closure (P : Program) (w : World) (a : Addr) (m : Mode) (fn : Fn) (first captured : Array Value) : (store a (.func fn first captured) m).run P w = stored P w a (.func fn first captured) m := run_store P w a _ m rfl
attribute [local go_sem] run_store_closure

def PermPost {σ : Type} (Y : Yld σ) (s : σ) (W : World) (e : Ending) (W' : World) : Prop :=
  e = .returned (.tuple #[]) ∧ Y.Inv (runP Y.step s (allP Y.n)).1 W' ∧ Sm (fun k => Y.N ≤ k) W W' ∧ ∀ k, Y.Prot (runP Y.step s (allP Y.n)).1 W' k → Y.Prot s W k ∨ W.heap.size ≤ k

structure N49 {σ : Type} (Y : Yld σ) (s : σ) (W W3 : World) (d : Nat → Bool) (y : Nat → Value) (wx : World) : Prop where
  w : d 4 = false → wx = W3
  h11 : d 4 = true → ∃ b, y 11 = .bool b ∧ WPost Y W.heap.size (W.heap.size + 1) (W.heap.size + 1 + 1) (runP Y.step s (List.map (fun x => [] ++ x) (perms Y.n (2 ^ Y.n - 1)))) s [] (Value.slice none 0 0) W3 (.returned (.bool b)) wx
  h7 : d 0 = true → y 7 = .func (.func 70) #[] #[.pointer (some ⟨W.heap.size, 0, none⟩), .pointer (some ⟨W.heap.size + 1, 0, none⟩), .pointer (some ⟨W.heap.size + 1 + 1, 0, none⟩)]
  h8 : d 1 = true → y 8 = .int .i64 (Y.n : Nat)
  h9 : d 2 = true → y 9 = .int .i64 ((2 : Int) ^ Y.n)
  c2_1 : d 2 = true → d 1 = true
  h10 : d 3 = true → y 10 = .int .i64 ((2 ^ Y.n - 1 : Nat) : Int)
  c3_2 : d 3 = true → d 2 = true
  c4_0 : d 4 = true → d 0 = true
  c4_3 : d 4 = true → d 3 = true
theorem N49.all {σ : Type} {Y : Yld σ} {s : σ} {W W3 : World} {d : Nat → Bool} {y : Nat → Value} {wx : World} (h : N49 Y s W W3 d y wx) (h4 : d 4 = true) : d 0 = true ∧ d 1 = true ∧ d 2 = true ∧ d 3 = true :=
  have h3 := h.c4_3 h4
  have h2 := h.c3_2 h3
  ⟨h.c4_0 h4, h.c2_1 h2, h2, h3⟩

set_option maxRecDepth 20000 in
set_option maxHeartbeats 2000000 in
theorem perm_any {σ : Type} (Y : Yld σ) (hY : Y.Ok) (hn : Y.n ≤ 6) (s : σ) (W : World) (hi : Y.Inv s W) :
    Calls Tryd.prog 49 #[.int .i64 (Y.n : Nat), .func (.func Y.fy) #[] Y.caps] W (PermPost Y s W) := by
  obtain ⟨p1, p2, p3⟩ := all_pop Y.n (by omega)
  have hlow := hY.low _ _ hi
  obtain ⟨WA, hWA⟩ : ∃ WA, ((W.alloc (.cells #[.func (.func Y.fy) #[] Y.caps] 28)).alloc (.cells #[.slice none 0 0] 22)).alloc (.cells #[.nilFunc] 36) = WA := ⟨_, rfl⟩
  obtain ⟨W3, hW3⟩ : ∃ W3, (WA.setCell ⟨W.heap.size + 1 + 1, 0, none⟩ (.func (.func 70) #[] #[.pointer (some ⟨W.heap.size, 0, none⟩), .pointer (some ⟨W.heap.size + 1, 0, none⟩), .pointer (some ⟨W.heap.size + 1 + 1, 0, none⟩)])).drew = W3 := ⟨_, rfl⟩
  have hb : Below W.heap.size W W3 := by
    rw [← hW3, ← hWA]
    exact (((((Below.refl _ _).alloc (Nat.le_refl _) _).alloc (by simp) _).alloc (by simp; omega) _).grown (IsBufferSet _ _ _ _) (by simp; omega) (fun k hk => by cases hk; omega)).drew
  have x1 : Boxed W3 W.heap.size 28 (.func (.func Y.fy) #[] Y.caps) := by
    rw [← hW3, ← hWA]
    exact boxed_other (((Boxed.new _ _ _).alloc _).alloc _) (by omega) _
  have x2 : Boxed W3 (W.heap.size + 1) 22 (.slice none 0 0) := by
    rw [← hW3, ← hWA]
    have := Boxed.new (W.alloc (.cells #[.func (.func Y.fy) #[] Y.caps] 28)) 22 (.slice none 0 0)
    rw [World.size_alloc] at this
    exact boxed_other (this.alloc _) (by omega) _
  have x0 : Boxed WA (W.heap.size + 1 + 1) 36 .nilFunc := by
    have := Boxed.new ((W.alloc (.cells #[.func (.func Y.fy) #[] Y.caps] 28)).alloc (.cells #[.slice none 0 0] 22)) 36 .nilFunc
    rw [World.size_alloc, World.size_alloc, hWA] at this
    exact this
  have c0 := x0.cell
  have f0 := x0.frozen
  have x3 : Boxed W3 (W.heap.size + 1 + 1) 36 (.func (.func 70) #[] #[.pointer (some ⟨W.heap.size, 0, none⟩), .pointer (some ⟨W.heap.size + 1, 0, none⟩), .pointer (some ⟨W.heap.size + 1 + 1, 0, none⟩)]) := by
    rw [← hW3]
    exact Boxed.set _ x0
  have st := hY.stable _ _ _ hi (Sm.of_below hb)
  have pl : ∀ k, Y.Prot s W3 k → k < W.heap.size := fun k hk => hY.prot_lt hi (st.2 k hk)
  have P : PS Y W.heap.size (W.heap.size + 1) (W.heap.size + 1 + 1) s [] (.slice none 0 0) W3 :=
    ⟨st.1, x1, x2, x3, OwnI.nil _ _ _, hlow, by omega, by omega, fun h => by have := pl _ h; omega, fun h => by have := pl _ h; omega, fun h => by have := pl _ h; omega, fun k hk => by simp [Value.ownBlock] at hk⟩
  have C := Lib.hid (walk_any hY hn Y.n (2 ^ Y.n - 1) s [] (.slice none 0 0) W3 P p2 p3 (by simp) (by simp))
  have c3 := x3.cell
  have hpw := pow_in Y.n (by omega)
  have hpw1 := pow_in1 Y.n (by omega)
  have hcast : (2 : Int) ^ Y.n - 1 = ((2 ^ Y.n - 1 : Nat) : Int) := by
    have : 1 ≤ 2 ^ Y.n := Nat.one_le_two_pow
    rw [Int.ofNat_sub this]; simp
  have HC := Lib.hid hcast
  have H2 := Lib.hid hb
  have ST := Lib.hid st.2
  clear P hi pl x0 x1 x2 x3 hcast hb st
  go_enter Tryd.func49, Tryd.ntmps49
  go_upto_region 3 with (fail)
  try rw [hWA]
  clear hWA
  go_upto_region 4 with (fail)
  clear c0 f0
  have H3 := Lib.hid hW3
  clear hW3
  refine wp_region_sched (by kernel_rfl) [7, 8, 9, 10, 11] (by kernel_rfl) (N49 Y s W W3) ?_ ?_ ?_
  · rw [H3.out]
    exact ⟨fun _ => rfl, (fun h => by cases h), (fun h => by cases h), (fun h => by cases h), (fun h => by cases h), (fun h => by cases h), (fun h => by cases h), (fun h => by cases h), (fun h => by cases h), (fun h => by cases h)⟩
  · intro i o ho d y wx hdi hdep hN
    match i, ho with
    | 0, ho =>
      obtain rfl := Option.some.inj ho
      have h4 : d 4 = false := Bool.eq_false_iff.2 fun h4 => by have := hN.all h4; simp [hdi] at this
      obtain rfl := hN.w h4
      refine rstep_value rfl (v := .func (.func 70) #[] #[.pointer (some ⟨W.heap.size, 0, none⟩), .pointer (some ⟨W.heap.size + 1, 0, none⟩), .pointer (some ⟨W.heap.size + 1 + 1, 0, none⟩)]) (w' := wx) ?_ ?_
      · simp only [hole, List.foldl_cons, List.foldl_nil, List.setIfInBounds_toArray, List.set_cons_zero, List.set_cons_succ]
        go_simp
      · exact ⟨hN.w, hN.h11, (fun _ => rfl), hN.h8, hN.h9, hN.c2_1, hN.h10, hN.c3_2, (fun _ => rfl), hN.c4_3⟩
    | 1, ho =>
      obtain rfl := Option.some.inj ho
      refine rstep_value rfl (v := .int .i64 (Y.n : Nat)) (w' := wx) ?_ ?_
      · simp only [hole, List.foldl_cons, List.foldl_nil, List.setIfInBounds_toArray, List.set_cons_zero, List.set_cons_succ]
        go_simp
      · exact ⟨hN.w, hN.h11, hN.h7, (fun _ => rfl), hN.h9, (fun _ => rfl), hN.h10, hN.c3_2, hN.c4_0, hN.c4_3⟩
    | 2, ho =>
      obtain rfl := Option.some.inj ho
      have e8 := hN.h8 (hdep ⟨1, .data⟩ (by simp) rfl)
      refine rstep_value rfl (v := .int .i64 ((2 : Int) ^ Y.n)) (w' := wx) ?_ ?_
      · simp only [hole, List.foldl_cons, List.foldl_nil, List.setIfInBounds_toArray, List.set_cons_zero, List.set_cons_succ]
        go_simp
      · exact ⟨hN.w, hN.h11, hN.h7, hN.h8, (fun _ => rfl), (fun _ => hdep ⟨1, .data⟩ (by simp) rfl), hN.h10, (fun _ => rfl), hN.c4_0, hN.c4_3⟩
    | 3, ho =>
      obtain rfl := Option.some.inj ho
      have e9 := hN.h9 (hdep ⟨2, .data⟩ (by simp) rfl)
      refine rstep_value rfl (v := .int .i64 ((2 ^ Y.n - 1 : Nat) : Int)) (w' := wx) ?_ ?_
      · simp only [hole, List.foldl_cons, List.foldl_nil, List.setIfInBounds_toArray, List.set_cons_zero, List.set_cons_succ]
        rw [← HC.out]
        go_simp
      · exact ⟨hN.w, hN.h11, hN.h7, hN.h8, hN.h9, hN.c2_1, (fun _ => rfl), (fun _ => hdep ⟨2, .data⟩ (by simp) rfl), hN.c4_0, (fun _ => rfl)⟩
    | 4, ho =>
      obtain rfl := Option.some.inj ho
      have e7 := hN.h7 (hdep ⟨0, .data⟩ (by simp) rfl)
      have e10 := hN.h10 (hdep ⟨3, .data⟩ (by simp) rfl)
      obtain rfl := hN.w hdi
      refine rstep_call rfl (f := 70) (args := #[.int .i64 ((2 ^ Y.n - 1 : Nat) : Int), .pointer (some ⟨W.heap.size, 0, none⟩), .pointer (some ⟨W.heap.size + 1, 0, none⟩), .pointer (some ⟨W.heap.size + 1 + 1, 0, none⟩)]) (w' := wx) ?_ C.out ?_
      · simp only [hole, List.foldl_cons, List.foldl_nil, List.setIfInBounds_toArray, List.set_cons_zero, List.set_cons_succ]
        go_simp
      · rintro e w'' hw
        obtain ⟨rfl, hw2⟩ := hw
        exact ⟨_, rfl, (fun h => by simp at h), (fun _ => ⟨_, rfl, rfl, hw2⟩), hN.h7, hN.h8, hN.h9, hN.c2_1, hN.h10, hN.c3_2, (fun _ => hdep ⟨0, .data⟩ (by simp) rfl), (fun _ => hdep ⟨3, .data⟩ (by simp) rfl)⟩
  · intro d y wx hd hN
    obtain ⟨b, e11, -, hi4, hs4, hp4, -⟩ := hN.h11 (hd 4 (by simp))
    have e7 := hN.h7 (hd 0 (by simp))
    have e8 := hN.h8 (hd 1 (by simp))
    have e9 := hN.h9 (hd 2 (by simp))
    have e10 := hN.h10 (hd 3 (by simp))
    clear hN C
    simp only [hole, List.foldl_cons, List.foldl_nil, List.setIfInBounds_toArray, List.set_cons_zero, List.set_cons_succ, e7, e8, e9, e10, e11]
    clear e7 e8 e9 e10 e11 y
    have e4 : (perms Y.n (2 ^ Y.n - 1)).map (fun x => [] ++ x) = allP Y.n := by simp [allP]
    rw [e4] at hi4 hp4
    have HI := Lib.hid hi4
    have HS := Lib.hid hs4
    have HP := Lib.hid hp4
    clear hi4 hs4 hp4 e4
    go_wp2
    go_end0
    have hb := H2.out
    refine ⟨rfl, HI.out, (Sm.of_below hb).trans' HS.out (fun k hlt hk => ⟨hk, by omega, by simp [Value.ownBlock]⟩), fun k hk => ?_⟩
    rcases HP.out k hk with h | h
    · exact .inl (ST.out k h)
    · exact .inr (by have := hb.size; omega)
end Go.Proofs.YtlpnicfbgdfbnaaDoor

/- Hits$1: the hit numbers as a yield. -/
namespace Go.Proofs.YtlpnicfbgdfbnaaDoor
open Go.RowKit Go.Shelf
attribute [local go_sem] Oper.semAt_some

structure N50 (W0 : World) (g n1 : Nat) (v vp : Value) (x : Int) (hit : Nat) (d : Nat → Bool) (y : Nat → Value) (wx : World) : Prop where
  w : d 8 = false → wx = W0
  w8 : d 8 = true → wx = W0.setCell ⟨g, hit, none⟩ (.int .i64 (IntKind.i64.wrap (x + 1)))
  h5 : d 0 = true → y 5 = .slice (some ⟨g, 0, none⟩) n1 n1
  h6 : d 1 = true → y 6 = v
  h7 : d 2 = true → y 7 = vp
  h8 : d 3 = true → y 8 = .int .i64 (hit : Nat)
  c3_1 : d 3 = true → d 1 = true
  c3_2 : d 3 = true → d 2 = true
  h9 : d 4 = true → y 9 = .pointer (some ⟨g, hit, none⟩)
  c4_0 : d 4 = true → d 0 = true
  c4_3 : d 4 = true → d 3 = true
  h10 : d 5 = true → y 10 = .int .i64 x
  c5_4 : d 5 = true → d 4 = true
  h11 : d 6 = true → y 11 = .int .i64 (IntKind.i64.wrap (x + 1))
  c6_5 : d 6 = true → d 5 = true
  h12 : d 7 = true → y 12 = .pointer (some ⟨g, hit, none⟩)
  c7_0 : d 7 = true → d 0 = true
  c7_3 : d 7 = true → d 3 = true
  c8_6 : d 8 = true → d 6 = true
  c8_7 : d 8 = true → d 7 = true
theorem N50.all {W0 : World} {g n1 : Nat} {v vp : Value} {x : Int} {hit : Nat} {d : Nat → Bool} {y : Nat → Value} {wx : World} (h : N50 W0 g n1 v vp x hit d y wx) (h8 : d 8 = true) : d 0 = true ∧ d 1 = true ∧ d 2 = true ∧ d 3 = true ∧ d 5 = true :=
  have h7 := h.c8_7 h8
  have h6 := h.c8_6 h8
  have h3 := h.c7_3 h7
  ⟨h.c7_0 h7, h.c3_1 h3, h.c3_2 h3, h3, h.c6_5 h6⟩

/-- Numbers as the machine keeps them. -/
def toW (s : List Nat) : List Int := s.map fun x : Nat => IntKind.i64.wrap (x : Int)
theorem toW_length (s : List Nat) : (toW s).length = s.length := by simp [toW]
theorem toW_small (s : List Nat) (h : ∀ x ∈ s, x < 9223372036854775808) : toW s = toI s := by
  unfold toW toI
  exact List.map_congr_left fun x hx => i64_wrap_nat x (h x hx)
theorem wrap_succ (x : Nat) : IntKind.i64.wrap (IntKind.i64.wrap (x : Int) + 1) = IntKind.i64.wrap ((x + 1 : Nat) : Int) := by
  simp [IntKind.wrap, IntKind.bits, IntKind.signed]; omega
theorem OwnI.cellI {e : TypeId} {B : Nat} {w : World} {g n cap : Nat} {L : List Int} (h : OwnI e B w (.slice (some ⟨g, 0, none⟩) n cap) L) (j : Nat) (hj : j < L.length) : w.cell? ⟨g, j, none⟩ = some (.int .i64 L[j]) := by
  obtain ⟨h1, h2⟩ := h
  rcases h2 with ⟨h2, _⟩ | ⟨g', cap', cur, h2, hg, hh, r⟩
  · cases h2
  · obtain ⟨e1, rfl, rfl⟩ := Value.slice.inj h2
    obtain rfl : g = g' := by simpa using e1
    have hown : w.ownsRow B e 1 (.slice (some ⟨g, 0, none⟩) L.length cap) L.length (L.map (Value.int .i64)) := ⟨h1, .inr ⟨g, cap, cur, rfl, hg, hh, r⟩⟩
    rw [World.ownsRow.cellAt hown j (by omega)]
    simp [List.getElem?_eq_getElem hj]
theorem OwnI.storedI {e : TypeId} {B : Nat} {w : World} {g n cap : Nat} {L : List Int} (h : OwnI e B w (.slice (some ⟨g, 0, none⟩) n cap) L) (j : Nat) (x : Int) : OwnI e B (w.setCell ⟨g, j, none⟩ (.int .i64 x)) (.slice (some ⟨g, 0, none⟩) n cap) (L.set j x) := by
  obtain ⟨h1, h2⟩ := h
  rcases h2 with ⟨h2, _⟩ | ⟨g', cap', cur, h2, hg, hh, r⟩
  · cases h2
  · obtain ⟨e1, rfl, rfl⟩ := Value.slice.inj h2
    obtain rfl : g = g' := by simpa using e1
    have hown : w.ownsRow B e 1 (.slice (some ⟨g, 0, none⟩) L.length cap) L.length (L.map (Value.int .i64)) := ⟨h1, .inr ⟨g, cap, cur, rfl, hg, hh, r⟩⟩
    have := World.ownsRow.stored hown j (.int .i64 x)
    unfold OwnI
    have e1 : (L.set j x).length = L.length := by simp
    have e2 : (L.set j x).map (Value.int .i64) = (L.map (Value.int .i64)).set j (.int .i64 x) := by simp [List.map_set]
    rw [e1, e2]
    exact this.1

/-- Where the count of the hits stands. -/
structure HInv (w0 : World) (N : Nat) (bs : List Nat) (v : Value) (bo bb g : Nat) (s : List Nat) (W : World) : Prop where
  hb : Below w0.heap.size w0 W
  low : N ≤ W.heap.size
  len : s.length = bs.length + 1
  xo : Boxed W bo 22 (.slice (some ⟨g, 0, none⟩) (bs.length + 1) (bs.length + 1))
  xb : Boxed W bb 22 v
  own : OwnI 3 w0.heap.size W (.slice (some ⟨g, 0, none⟩) (bs.length + 1) (bs.length + 1)) (toW s)

def yH (w0 : World) (N : Nat) (bs : List Nat) (v : Value) (bo bb g : Nat) : Yld (List Nat) where
  N := N
  n := bs.length
  fy := 50
  caps := #[.pointer (some ⟨bo, 0, none⟩), .pointer (some ⟨bb, 0, none⟩)]
  step := fun s l => (inc s (hitN bs l), true)
  Inv := HInv w0 N bs v bo bb g
  Prot := fun _ _ _ => False

set_option maxRecDepth 20000 in
set_option maxHeartbeats 2000000 in
theorem hits1_any (W : World) (bs l : List Nat) (v vp : Value) (bo bb g : Nat) (x : Int) (hbs : ∀ r ∈ bs, r < 64) (hl : l.length = bs.length) (h6 : bs.length ≤ 6) (hc : ∀ c ∈ l, c < 6) (hv : Ints W v (toI bs)) (hp : Ints W vp (toI l))
    (xo : Boxed W bo 22 (.slice (some ⟨g, 0, none⟩) (bs.length + 1) (bs.length + 1))) (xb : Boxed W bb 22 v) (hx : W.cell? ⟨g, hitN bs l, none⟩ = some (.int .i64 x)) (hf : W.frozen? ⟨g, hitN bs l, none⟩ = false) :
    Calls Tryd.prog 50 #[vp, .pointer (some ⟨bo, 0, none⟩), .pointer (some ⟨bb, 0, none⟩)] W fun e W' =>
      e = .returned (.bool true) ∧ W' = W.drew.setCell ⟨g, hitN bs l, none⟩ (.int .i64 (IntKind.i64.wrap (x + 1))) := by
  have hle : hitN bs l ≤ bs.length := by rw [← hl]; exact hitN_le _ _
  obtain ⟨hit, hhit⟩ : ∃ h, hitN bs l = h := ⟨_, rfl⟩
  obtain ⟨W1, hW1⟩ : ∃ W1, W.drew = W1 := ⟨_, rfl⟩
  have C := hit_any v vp bs l W1 (by rw [← hW1]; exact hv) (by rw [← hW1]; exact hp) hbs hc (by omega) h6
  rw [hhit] at hx hf hle C ⊢
  have C := Lib.hid C
  have c1 := xo.cell
  have c2 := xb.cell
  have hx1 : W1.cell? ⟨g, hit, none⟩ = some (.int .i64 x) := by rw [← hW1]; exact hx
  have hf1 : W1.frozen? ⟨g, hit, none⟩ = false := by rw [← hW1]; exact hf
  have c11 : W1.cell? ⟨bo, 0, none⟩ = some (.slice (some ⟨g, 0, none⟩) (bs.length + 1) (bs.length + 1)) := by rw [← hW1]; exact c1
  have c12 : W1.cell? ⟨bb, 0, none⟩ = some v := by rw [← hW1]; exact c2
  have hlt : (hit : Int) < (bs.length : Int) + 1 := by omega
  have H1 := Lib.hid hW1
  clear hx hf c1 c2 hhit hv hp hW1
  go_enter Tryd.func50, Tryd.ntmps50
  go_upto_region 1 with (fail)
  refine wp_region_sched (by kernel_rfl) [5, 6, 7, 8, 9, 10, 11, 12] (by kernel_rfl) (N50 W1 g (bs.length + 1) v vp x hit) ?_ ?_ ?_
  · rw [H1.out]
    exact ⟨fun _ => rfl, (fun h => by cases h), (fun h => by cases h), (fun h => by cases h), (fun h => by cases h), (fun h => by cases h), (fun h => by cases h), (fun h => by cases h), (fun h => by cases h), (fun h => by cases h), (fun h => by cases h), (fun h => by cases h), (fun h => by cases h), (fun h => by cases h), (fun h => by cases h), (fun h => by cases h), (fun h => by cases h), (fun h => by cases h), (fun h => by cases h), (fun h => by cases h)⟩
  · intro i o ho d y wx hdi hdep hN
    match i, ho with
    | 0, ho =>
      obtain rfl := Option.some.inj ho
      have h8 : d 8 = false := Bool.eq_false_iff.2 fun h8 => by have := hN.all h8; simp [hdi] at this
      obtain rfl := hN.w h8
      refine rstep_value rfl (v := .slice (some ⟨g, 0, none⟩) (bs.length + 1) (bs.length + 1)) (w' := wx) ?_ ?_
      · simp only [hole, List.foldl_cons, List.foldl_nil, List.setIfInBounds_toArray, List.set_cons_zero, List.set_cons_succ]
        go_simp
      · exact ⟨hN.w, hN.w8, (fun _ => rfl), hN.h6, hN.h7, hN.h8, hN.c3_1, hN.c3_2, hN.h9, (fun _ => rfl), hN.c4_3, hN.h10, hN.c5_4, hN.h11, hN.c6_5, hN.h12, (fun _ => rfl), hN.c7_3, hN.c8_6, hN.c8_7⟩
    | 1, ho =>
      obtain rfl := Option.some.inj ho
      have h8 : d 8 = false := Bool.eq_false_iff.2 fun h8 => by have := hN.all h8; simp [hdi] at this
      obtain rfl := hN.w h8
      refine rstep_value rfl (v := v) (w' := wx) ?_ ?_
      · simp only [hole, List.foldl_cons, List.foldl_nil, List.setIfInBounds_toArray, List.set_cons_zero, List.set_cons_succ]
        go_simp
      · exact ⟨hN.w, hN.w8, hN.h5, (fun _ => rfl), hN.h7, hN.h8, (fun _ => rfl), hN.c3_2, hN.h9, hN.c4_0, hN.c4_3, hN.h10, hN.c5_4, hN.h11, hN.c6_5, hN.h12, hN.c7_0, hN.c7_3, hN.c8_6, hN.c8_7⟩
    | 2, ho =>
      obtain rfl := Option.some.inj ho
      have h8 : d 8 = false := Bool.eq_false_iff.2 fun h8 => by have := hN.all h8; simp [hdi] at this
      obtain rfl := hN.w h8
      refine rstep_value rfl (v := vp) (w' := wx) ?_ ?_
      · simp only [hole, List.foldl_cons, List.foldl_nil, List.setIfInBounds_toArray, List.set_cons_zero, List.set_cons_succ]
        go_simp
      · exact ⟨hN.w, hN.w8, hN.h5, hN.h6, (fun _ => rfl), hN.h8, hN.c3_1, (fun _ => rfl), hN.h9, hN.c4_0, hN.c4_3, hN.h10, hN.c5_4, hN.h11, hN.c6_5, hN.h12, hN.c7_0, hN.c7_3, hN.c8_6, hN.c8_7⟩
    | 3, ho =>
      obtain rfl := Option.some.inj ho
      have e6 := hN.h6 (hdep ⟨1, .data⟩ (by simp) rfl)
      have e7 := hN.h7 (hdep ⟨2, .data⟩ (by simp) rfl)
      have h8 : d 8 = false := Bool.eq_false_iff.2 fun h8 => by have := hN.all h8; simp [hdi] at this
      obtain rfl := hN.w h8
      refine rstep_call rfl (f := 51) (args := #[v, vp]) (w' := wx) ?_ C.out ?_
      · simp only [hole, List.foldl_cons, List.foldl_nil, List.setIfInBounds_toArray, List.set_cons_zero, List.set_cons_succ]
        go_simp
      · rintro e w'' ⟨rfl, rfl⟩
        exact ⟨_, rfl, hN.w, hN.w8, hN.h5, hN.h6, hN.h7, (fun _ => rfl), (fun _ => hdep ⟨1, .data⟩ (by simp) rfl), (fun _ => hdep ⟨2, .data⟩ (by simp) rfl), hN.h9, hN.c4_0, (fun _ => rfl), hN.h10, hN.c5_4, hN.h11, hN.c6_5, hN.h12, hN.c7_0, (fun _ => rfl), hN.c8_6, hN.c8_7⟩
    | 4, ho =>
      obtain rfl := Option.some.inj ho
      have e5 := hN.h5 (hdep ⟨0, .data⟩ (by simp) rfl)
      have e8 := hN.h8 (hdep ⟨3, .data⟩ (by simp) rfl)
      refine rstep_value rfl (v := .pointer (some ⟨g, hit, none⟩)) (w' := wx) ?_ ?_
      · simp only [hole, List.foldl_cons, List.foldl_nil, List.setIfInBounds_toArray, List.set_cons_zero, List.set_cons_succ]
        go_simp
      · exact ⟨hN.w, hN.w8, hN.h5, hN.h6, hN.h7, hN.h8, hN.c3_1, hN.c3_2, (fun _ => rfl), (fun _ => hdep ⟨0, .data⟩ (by simp) rfl), (fun _ => hdep ⟨3, .data⟩ (by simp) rfl), hN.h10, (fun _ => rfl), hN.h11, hN.c6_5, hN.h12, hN.c7_0, hN.c7_3, hN.c8_6, hN.c8_7⟩
    | 5, ho =>
      obtain rfl := Option.some.inj ho
      have e9 := hN.h9 (hdep ⟨4, .data⟩ (by simp) rfl)
      have h8 : d 8 = false := Bool.eq_false_iff.2 fun h8 => by have := hN.all h8; simp [hdi] at this
      obtain rfl := hN.w h8
      refine rstep_value rfl (v := .int .i64 x) (w' := wx) ?_ ?_
      · simp only [hole, List.foldl_cons, List.foldl_nil, List.setIfInBounds_toArray, List.set_cons_zero, List.set_cons_succ]
        go_simp
      · exact ⟨hN.w, hN.w8, hN.h5, hN.h6, hN.h7, hN.h8, hN.c3_1, hN.c3_2, hN.h9, hN.c4_0, hN.c4_3, (fun _ => rfl), (fun _ => hdep ⟨4, .data⟩ (by simp) rfl), hN.h11, (fun _ => rfl), hN.h12, hN.c7_0, hN.c7_3, hN.c8_6, hN.c8_7⟩
    | 6, ho =>
      obtain rfl := Option.some.inj ho
      have e10 := hN.h10 (hdep ⟨5, .data⟩ (by simp) rfl)
      refine rstep_value rfl (v := .int .i64 (IntKind.i64.wrap (x + 1))) (w' := wx) ?_ ?_
      · simp only [hole, List.foldl_cons, List.foldl_nil, List.setIfInBounds_toArray, List.set_cons_zero, List.set_cons_succ]
        go_simp
      · exact ⟨hN.w, hN.w8, hN.h5, hN.h6, hN.h7, hN.h8, hN.c3_1, hN.c3_2, hN.h9, hN.c4_0, hN.c4_3, hN.h10, hN.c5_4, (fun _ => rfl), (fun _ => hdep ⟨5, .data⟩ (by simp) rfl), hN.h12, hN.c7_0, hN.c7_3, (fun _ => rfl), hN.c8_7⟩
    | 7, ho =>
      obtain rfl := Option.some.inj ho
      have e5 := hN.h5 (hdep ⟨0, .data⟩ (by simp) rfl)
      have e8 := hN.h8 (hdep ⟨3, .data⟩ (by simp) rfl)
      refine rstep_value rfl (v := .pointer (some ⟨g, hit, none⟩)) (w' := wx) ?_ ?_
      · simp only [hole, List.foldl_cons, List.foldl_nil, List.setIfInBounds_toArray, List.set_cons_zero, List.set_cons_succ]
        go_simp
      · exact ⟨hN.w, hN.w8, hN.h5, hN.h6, hN.h7, hN.h8, hN.c3_1, hN.c3_2, hN.h9, hN.c4_0, hN.c4_3, hN.h10, hN.c5_4, hN.h11, hN.c6_5, (fun _ => rfl), (fun _ => hdep ⟨0, .data⟩ (by simp) rfl), (fun _ => hdep ⟨3, .data⟩ (by simp) rfl), hN.c8_6, (fun _ => rfl)⟩
    | 8, ho =>
      obtain rfl := Option.some.inj ho
      have e11 := hN.h11 (hdep ⟨6, .data⟩ (by simp) rfl)
      have e12 := hN.h12 (hdep ⟨7, .data⟩ (by simp) rfl)
      have h8 := hdi
      obtain rfl := hN.w h8
      refine rstep_skip rfl (w' := wx.setCell ⟨g, hit, none⟩ (.int .i64 (IntKind.i64.wrap (x + 1)))) ?_ ?_
      · simp only [hole, List.foldl_cons, List.foldl_nil, List.setIfInBounds_toArray, List.set_cons_zero, List.set_cons_succ]
        go_simp
      · exact ⟨(fun h => by simp at h), (fun _ => rfl), hN.h5, hN.h6, hN.h7, hN.h8, hN.c3_1, hN.c3_2, hN.h9, hN.c4_0, hN.c4_3, hN.h10, hN.c5_4, hN.h11, hN.c6_5, hN.h12, hN.c7_0, hN.c7_3, (fun _ => hdep ⟨6, .data⟩ (by simp) rfl), (fun _ => hdep ⟨7, .data⟩ (by simp) rfl)⟩
  · intro d y wx hd hN
    have e5 := hN.h5 (hd 0 (by simp))
    have e6 := hN.h6 (hd 1 (by simp))
    have e7 := hN.h7 (hd 2 (by simp))
    have e8 := hN.h8 (hd 3 (by simp))
    have e9 := hN.h9 (hd 4 (by simp))
    have e10 := hN.h10 (hd 5 (by simp))
    have e11 := hN.h11 (hd 6 (by simp))
    have e12 := hN.h12 (hd 7 (by simp))
    obtain rfl := hN.w8 (hd 8 (by simp))
    clear hN
    simp only [hole, List.foldl_cons, List.foldl_nil, List.setIfInBounds_toArray, List.set_cons_zero, List.set_cons_succ, e5, e6, e7, e8, e9, e10, e11, e12]
    clear e5 e6 e7 e8 e9 e10 e11 e12 y
    go_wp2
    go_ret
    rw [H1.out]
    exact ⟨rfl, rfl⟩
end Go.Proofs.YtlpnicfbgdfbnaaDoor

/- rooks.Hits. -/
namespace Go.Proofs.YtlpnicfbgdfbnaaDoor
open Go.RowKit Go.Shelf
attribute [local go_sem] Oper.semAt_some

theorem toW_getElem (s : List Nat) (i : Nat) (h : i < (toW s).length) : (toW s)[i] = IntKind.i64.wrap ((s[i]'(by simpa [toW] using h) : Nat) : Int) := by simp [toW]
theorem toW_inc (s : List Nat) (i : Nat) (h : i < (toW s).length) : (toW s).set i (IntKind.i64.wrap ((toW s)[i] + 1)) = toW (inc s i) := by
  rw [toW_getElem, wrap_succ]
  unfold inc toW
  rw [List.map_set, getD_at (by simpa [toW] using h)]

theorem enter_go {P : Program} {f : FuncId} {fn : Func} {c : Code} (hf : P.funcs[f]? = some fn) (hname : (fn.name == "runtime.NumGoroutine") = false) (hb : fn.body = some c) (args : Array Value) (w : World) :
    (callFunc f args).run P w = .ok (.enter f args) w := by
  have h1 : fn.name ≠ "runtime.NumGoroutine" := by simpa using hname
  simp [callFunc, hf, h1, hb]

theorem yH_ok (w0 : World) (N : Nat) (bs : List Nat) (v : Value) (bo bb g : Nat) (h : IsBoard bs) (hv : Ints w0 v (toI bs)) (ht : Tab w0) (h0 : w0.heap.size ≤ N) (hbo : bo < N) (hbb : bb < N) (hg1 : w0.heap.size ≤ g) (hg : g < N) : (yH w0 N bs v bo bb g).Ok where
  enter := fun args W => enter_go Tryd.func50 (by kernel_rfl) rfl args W
  tab := fun s W hi => ht.below hi.hb
  low := fun s W hi => hi.low
  cells := fun s W k _ hp => hp.elim
  stable := fun s W W' hi hs => ⟨⟨⟨hs.os.trans hi.hb.os, hs.tape.trans hi.hb.tape, hs.output.trans hi.hb.output, Nat.le_trans hi.hb.size hs.size, fun k hk => (hs.block k (.inl (Nat.lt_of_lt_of_le hk h0)) (Nat.lt_of_lt_of_le hk hi.hb.size)).trans (hi.hb.block k hk)⟩,
    Nat.le_trans hi.low hs.size, hi.len, hs.boxed hi.xo (.inl hbo), hs.boxed hi.xb (.inl hbb), hs.own hi.own (fun k hk => .inl (by cases hk; exact hg))⟩, fun k hk => hk⟩
  call := fun s l v' W hi hl hc hp => by
    have hi : HInv w0 N bs v bo bb g s W := hi
    have hl : l.length = bs.length := hl
    have hle : hitN bs l ≤ bs.length := by rw [← hl]; exact hitN_le _ _
    have hlt : hitN bs l < (toW s).length := by rw [toW_length, hi.len]; omega
    have C := hits1_any W bs l v v' bo bb g (toW s)[hitN bs l] h.lt hl h.le hc (hv.below hi.hb) hp hi.xo hi.xb (hi.own.cellI _ hlt) (hi.own.frozenN _)
    refine C.mono ?_
    rintro e W' ⟨rfl, rfl⟩
    have hne : bo ≠ g := fun e => hi.xo.not_row (by decide) hi.own (by rw [e]; rfl)
    have hne2 : bb ≠ g := fun e => hi.xb.not_row (by decide) hi.own (by rw [e]; rfl)
    refine ⟨rfl, ⟨hi.hb.drew.setCell (by exact hg1) _, ?_, by show (inc s (hitN bs l)).length = _; rw [inc_length]; exact hi.len, boxed_at (w := W.drew) hi.xo hne _ _, boxed_at (w := W.drew) hi.xb hne2 _ _, ?_⟩, (Sm.drew _ W).trans (Sm.setCell _ _ _ _ (fun k hk e => ?_)), fun k hk => hk.elim⟩
    · have := hi.low; simpa using this
    · show OwnI 3 _ _ _ (toW (inc s (hitN bs l)))
      rw [← toW_inc s _ hlt]
      exact OwnI.storedI (w := W.drew) hi.own.drew _ _
    · have : N ≤ k := hk
      omega

set_option maxRecDepth 20000 in
set_option maxHeartbeats 2000000 in
theorem Hits_no (v : Value) (xs : List Int) (w : World) (hv : Ints w v xs) (h : boardB xs = false) :
    Calls Tryd.prog 23 #[v] w fun e w' => e = .returned (.tuple #[.slice none 0 0, .int .i64 2]) ∧ Below w.heap.size w w' := by
  obtain ⟨W0, hW0⟩ : ∃ W0, w.alloc (.cells #[v] 22) = W0 := ⟨_, rfl⟩
  have hb0 : Below w.heap.size w W0 := by rw [← hW0]; exact (Below.refl _ _).alloc (Nat.le_refl _) _
  have hx0 : Boxed W0 w.heap.size 22 v := by rw [← hW0]; exact Boxed.new _ _ _
  have hx0c := hx0.cell
  have C := valid_any v _ W0 (hv.below hb0)
  rw [h] at C
  obtain ⟨a, c, rfl, hlen, hcl, hc⟩ := hv
  clear hc h
  go_enter Tryd.func23, Tryd.ntmps23
  go_wp2_with (go_at_call 46; refine C.mono ?_; rintro e w1 ⟨rfl, hb⟩)
  go_ret2
  exact ⟨rfl, hb0.trans (hb.mono hb0.size)⟩

theorem toW_hits (bs : List Nat) (h : bs.length ≤ 6) : toW (hitsL bs) = toI (hitsL bs) := toW_small _ fun x hx => by
  obtain ⟨i, hi, rfl⟩ := List.mem_iff_getElem.1 hx
  have := hitsL_le bs h i
  rw [getD_at hi] at this
  omega
theorem runP_hits (w0 : World) (N : Nat) (bs : List Nat) (v : Value) (bo bb g : Nat) : ∀ (ls : List (List Nat)) (s : List Nat), runP (yH w0 N bs v bo bb g).step s ls = (hitsFrom bs s ls, true) := by
  intro ls s
  rw [runP_true _ (fun _ _ => rfl)]
  rfl

set_option maxRecDepth 20000 in
set_option maxHeartbeats 2000000 in
theorem Hits_yes (v : Value) (bs : List Nat) (w : World) (hv : Ints w v (toI bs)) (h : IsBoard bs) (ht : Tab w) :
    Calls Tryd.prog 23 #[v] w fun e w' => ∃ v', e = .returned (.tuple #[v', .int .i64 0]) ∧ OwnI 3 w.heap.size w' v' (toI (hitsL bs)) ∧ Below w.heap.size w w' := by
  obtain ⟨W0, hW0⟩ : ∃ W0, w.alloc (.cells #[v] 22) = W0 := ⟨_, rfl⟩
  have hb0 : Below w.heap.size w W0 := by rw [← hW0]; exact (Below.refl _ _).alloc (Nat.le_refl _) _
  have hx0 : Boxed W0 w.heap.size 22 v := by rw [← hW0]; exact Boxed.new _ _ _
  have hs0 : W0.heap.size = w.heap.size + 1 := by rw [← hW0]; simp
  have C := valid_any v _ W0 (hv.below hb0)
  rw [boardB_board h] at C
  have h6 := h.le
  have hw1 : IntKind.i64.wrap ((bs.length : Int) + 1) = (bs.length : Int) + 1 := IntWalk.i64_in _ (by omega)
  have hmk := make_ints1 bs.length (by omega)
  have hx0c := hx0.cell
  have H := Lib.hid h
  have HT := Lib.hid ht
  have HV := Lib.hid hv
  obtain ⟨a, c, rfl, hlen, hcl, hc⟩ := hv.openN
  clear hc h ht hv
  go_enter Tryd.func23, Tryd.ntmps23
  go_upto_region 3 with (go_at_call 46; refine C.mono ?_; rintro e w1 ⟨rfl, hb⟩)
  clear hW0 C
  have hx1 : Boxed w1 w.heap.size 22 (.slice a bs.length c) := boxed_below hx0 hb
  have hs1 := hb.size
  have hx1c := hx1.cell
  have hb1 : Below w.heap.size w w1 := hb0.trans (hb.mono hb0.size)
  obtain ⟨W2, hW2⟩ : ∃ W2, (w1.alloc (.cells ((toI (List.replicate (bs.length + 1) 0)).map (Value.int .i64)).toArray 3)).alloc (.cells #[.slice none 0 0] 22) = W2 := ⟨_, rfl⟩
  obtain ⟨W3, hW3⟩ : ∃ W3, W2.setCell ⟨w1.heap.size + 1, 0, none⟩ (.slice (some ⟨w1.heap.size, 0, none⟩) (bs.length + 1) (bs.length + 1)) = W3 := ⟨_, rfl⟩
  have hs2 : W2.heap.size = w1.heap.size + 2 := by rw [← hW2]; simp
  have xo2 : Boxed W2 (w1.heap.size + 1) 22 (.slice none 0 0) := by
    rw [← hW2]
    have := Boxed.new (w1.alloc (.cells ((toI (List.replicate (bs.length + 1) 0)).map (Value.int .i64)).toArray 3)) 22 (.slice none 0 0)
    rwa [World.size_alloc] at this
  have o2 : OwnI 3 w.heap.size W2 (.slice (some ⟨w1.heap.size, 0, none⟩) (bs.length + 1) (bs.length + 1)) (toI (List.replicate (bs.length + 1) 0)) := by
    rw [← hW2]
    exact (own_zeros w1 _ (by omega) (by unfold maxLen; omega)).alloc _
  have xb2 : Boxed W2 w.heap.size 22 (.slice a bs.length c) := by rw [← hW2]; exact (hx1.alloc _).alloc _
  have hb2 : Below w.heap.size w W2 := by rw [← hW2]; exact (hb1.alloc (by omega) _).alloc (by simp; omega) _
  have hs3 : W3.heap.size = W2.heap.size := by rw [← hW3]; simp
  have I3 : HInv w W3.heap.size bs (.slice a bs.length c) (w1.heap.size + 1) w.heap.size w1.heap.size (List.replicate (bs.length + 1) 0) W3 := by
    rw [← hW3]
    refine ⟨hb2.setCell (by show w.heap.size ≤ w1.heap.size + 1; omega) _, Nat.le_refl _, by simp, Boxed.set _ xo2, boxed_other xb2 (by omega) _, ?_⟩
    rw [toW_small _ (fun x hx => by rw [List.eq_of_mem_replicate hx]; decide)]
    exact own_setBox o2 xo2 (by decide) _
  have K3 := Lib.hid (perm_any (yH w W3.heap.size bs (.slice a bs.length c) (w1.heap.size + 1) w.heap.size w1.heap.size) (yH_ok _ _ _ _ _ _ _ H.out HV.out HT.out (by omega) (by omega) (by omega) (by omega) (by omega)) h6 _ W3 I3)
  have cx3 := I3.xb.cell
  have co2 := xo2.cell
  have fo2 := xo2.frozen
  have HI := Lib.hid I3
  clear I3 hx1 hx0 hb hb0 hb1 xo2 o2 xb2 hb2
  go_upto_region 4 with (fail)
  try rw [hW2]
  try rw [hW3]
  clear hW2 hW3 co2 fo2
  go_wp2_with (
    go_at_call 49
    refine K3.out.mono ?_
    rintro e w4 ⟨rfl, hi4, hs4, -⟩
    rw [runP_hits] at hi4
    have hi5 : HInv w W3.heap.size bs (.slice a bs.length c) (w1.heap.size + 1) w.heap.size w1.heap.size (hitsL bs) w4 := hi4
    have co4 := hi5.xo.cell
    have HI4 := Lib.hid hi5
    clear hi4 hi5 hs4)
  go_ret2
  have := HI4.out.own
  rw [toW_hits bs h6] at this
  exact ⟨_, rfl, this, HI4.out.hb⟩
end Go.Proofs.YtlpnicfbgdfbnaaDoor
