/- permutations$1 where columns are left. -/
import Derived.Test.YtlpnicfbgdfbnaaDoorWk
import Derived.Deep.DeepCutAuto
import Derived.StillTailTactics
import Derived.Deep.RegionHeld3
namespace Go.Proofs.YtlpnicfbgdfbnaaDoor
open Go.RowKit Go.Shelf
attribute [local go_sem] Oper.semAt_some

def remP (d rest : Nat) (pre : List Nat) (S : Nat) : List (List Nat) := ((elems S).flatMap fun j => (perms d (diffS rest (2 ^ j))).map (j :: ·)).map (pre ++ ·)
theorem remP_all (d rest : Nat) (pre : List Nat) : remP d rest pre rest = (perms (d + 1) rest).map (pre ++ ·) := rfl
theorem remP_zero (d rest : Nat) (pre : List Nat) : remP d rest pre 0 = [] := by unfold remP; rw [elems_zero]; rfl
theorem remP_step (d rest : Nat) (pre : List Nat) (S : Nat) (h : S < 256) (h0 : 0 < S) : remP d rest pre S = ((perms d (diffS rest (2 ^ tz S))).map ((pre ++ [tz S]) ++ ·)) ++ remP d rest pre (nextS S) := by
  unfold remP
  rw [elems_step S h h0, List.flatMap_cons, List.map_append, List.map_map]
  congr 1
  refine List.map_congr_left fun l _ => ?_
  simp

theorem OwnI.isCells {e : TypeId} {B : Nat} {w : World} {v : Value} {xs : List Int} (h : OwnI e B w v xs) : ∀ k, v.ownBlock = some k → ∃ o, w.heap[k]? = some o ∧ o.isCells = true := by
  intro k hk
  rcases h.2 with ⟨rfl, _⟩ | ⟨g, cap, cur, rfl, hg, hh, r⟩
  · simp [Value.ownBlock] at hk
  · cases hk; exact ⟨_, hh, rfl⟩

section
variable {σ : Type} (Y : Yld σ) (hY : Y.Ok) (b1 bp b3 : Nat)

/-- Where the loop over the columns stands. -/
structure LS (s : σ) (pre : List Nat) (pv : Value) (W : World) (rest d : Nat) (S : Nat) (st : σ) (pv' : Value) (Wl : World) : Prop where
  ps : PS Y b1 bp b3 st pre pv' Wl
  run : runP Y.step s (remP d rest pre rest) = runP Y.step st (remP d rest pre S)
  x4 : Boxed Wl W.heap.size 3 (.int .i64 (rest : Int))
  x5 : Boxed Wl (W.heap.size + 1) 4 (.bool false)
  kept : Sm (KeptS Y bp pv) W Wl
  row : pv'.ownBlock = pv.ownBlock ∨ ∀ k, pv'.ownBlock = some k → W.heap.size ≤ k
  prot : ∀ k, Y.Prot st Wl k → Y.Prot s W k ∨ W.heap.size ≤ k
  nb : ∀ k, W.heap.size ≤ k → k < W.heap.size + 3 → ¬ Y.Prot st Wl k ∧ pv'.ownBlock ≠ some k

structure LX (s : σ) (pre : List Nat) (pv : Value) (W : World) (rest d : Nat) (Wl : World) : Prop where
  run : (runP Y.step s (remP d rest pre rest)).2 = false
  inv : Y.Inv (runP Y.step s (remP d rest pre rest)).1 Wl
  x5 : Boxed Wl (W.heap.size + 1) 4 (.bool false)
  kept : Sm (KeptS Y bp pv) W Wl
  prot : ∀ k, Y.Prot (runP Y.step s (remP d rest pre rest)).1 Wl k → Y.Prot s W k ∨ W.heap.size ≤ k
  nb : ∀ k, W.heap.size ≤ k → k < W.heap.size + 3 → ¬ Y.Prot (runP Y.step s (remP d rest pre rest)).1 Wl k

variable {Y b1 bp b3}
include hY in
theorem LS.ext {s : σ} {pre : List Nat} {pv : Value} {W : World} {rest d S : Nat} {st : σ} {pv' : Value} {Wl Wl' : World} (h : LS Y b1 bp b3 s pre pv W rest d S st pv' Wl) (hlow : Y.N ≤ W.heap.size) (h1 : b1 < W.heap.size) (h2 : bp < W.heap.size) (h3 : b3 < W.heap.size)
    (hx : LoopExt (W.heap.size + 3) (W.heap.size + 2) Wl Wl') : LS Y b1 bp b3 s pre pv W rest d S st pv' Wl' := by
  have sm : Sm (fun k => k ≠ W.heap.size + 2 ∧ (k < W.heap.size + 3 ∨ ∃ o, Wl.heap[k]? = some o ∧ o.isCells = true)) Wl Wl' := Sm.ext hx (fun k hk => hk)
  obtain ⟨ps, run, x4, x5, kept, row, prot, nb⟩ := h
  have st' := hY.stable _ _ _ ps.inv (sm.mono (S' := fun k => k < Y.N ∨ Y.Prot st Wl k) fun k _ hk => by
    rcases hk with hk | hk
    · exact ⟨by omega, .inl (by omega)⟩
    · exact ⟨fun e => (nb k (by omega) (by omega)).1 hk, .inr (hY.cells _ _ _ ps.inv hk)⟩)
  exact ⟨⟨st'.1, sm.boxed ps.x1 ⟨by omega, .inl (by omega)⟩, sm.boxed ps.x2 ⟨by omega, .inl (by omega)⟩, sm.boxed ps.x3 ⟨by omega, .inl (by omega)⟩,
    sm.own ps.own (fun k hk => ⟨fun e => (nb k (by omega) (by omega)).2 hk, .inr (ps.own.isCells k hk)⟩), ps.n1, ps.n2, ps.n3, fun e => ps.q1 (st'.2 _ e), fun e => ps.q2 (st'.2 _ e), fun e => ps.q3 (st'.2 _ e), fun k hk e => ps.qp k hk (st'.2 _ e)⟩, run,
    sm.boxed x4 ⟨by omega, .inl (by omega)⟩, sm.boxed x5 ⟨by omega, .inl (by omega)⟩, kept.trans' sm (fun k hk _ => ⟨by omega, .inl (by omega)⟩), row, fun k hk => prot k (st'.2 k hk), fun k h1 h2 => ⟨fun e => (nb k h1 h2).1 (st'.2 k e), (nb k h1 h2).2⟩⟩
include hY in
theorem LX.ext {s : σ} {pre : List Nat} {pv : Value} {W : World} {rest d : Nat} {Wl Wl' : World} (h : LX Y bp s pre pv W rest d Wl) (hlow : Y.N ≤ W.heap.size)
    (hx : LoopExt (W.heap.size + 3) (W.heap.size + 2) Wl Wl') : LX Y bp s pre pv W rest d Wl' := by
  have sm : Sm (fun k => k ≠ W.heap.size + 2 ∧ (k < W.heap.size + 3 ∨ ∃ o, Wl.heap[k]? = some o ∧ o.isCells = true)) Wl Wl' := Sm.ext hx (fun k hk => hk)
  obtain ⟨run, inv, x5, kept, prot, nb⟩ := h
  have st' := hY.stable _ _ _ inv (sm.mono (S' := fun k => k < Y.N ∨ Y.Prot (runP Y.step s (remP d rest pre rest)).1 Wl k) fun k _ hk => by
    rcases hk with hk | hk
    · exact ⟨by omega, .inl (by omega)⟩
    · exact ⟨fun e => (nb k (by omega) (by omega)) hk, .inr (hY.cells _ _ _ inv hk)⟩)
  exact ⟨run, st'.1, sm.boxed x5 ⟨by omega, .inl (by omega)⟩, kept.trans' sm (fun k hk _ => ⟨by omega, .inl (by omega)⟩), fun k hk => prot k (st'.2 k hk), fun k h1 h2 e => nb k h1 h2 (st'.2 k e)⟩

/-- What has been done of '!walk(rest &^ (1<<j))'. -/
structure N7 (Y : Yld σ) (b1 bp b3 : Nat) (rest j : Nat) (r : σ × Bool) (s : σ) (pre : List Nat) (pv : Value) (W3 : World) (d : Nat → Bool) (y : Nat → Value) (wx : World) : Prop where
  w : d 5 = false → wx = W3
  c4 : d 4 = true → d 1 = true
  c5 : d 5 = true → d 0 = true ∧ d 1 = true
  h19 : d 0 = true → y 19 = .func (.func 70) #[] #[.pointer (some ⟨b1, 0, none⟩), .pointer (some ⟨bp, 0, none⟩), .pointer (some ⟨b3, 0, none⟩)]
  h20 : d 1 = true → y 20 = .int .i64 (rest : Int)
  h21 : d 2 = true → y 21 = .int .i64 (j : Int)
  h22 : d 3 = true → y 22 = .int .i64 ((2 : Int) ^ j)
  h23 : d 4 = true → y 23 = .int .i64 (diffS rest (2 ^ j) : Nat)
  h24 : d 5 = true → y 24 = .bool r.2 ∧ WPost Y b1 bp b3 r s pre pv W3 (.returned (.bool r.2)) wx
  h25 : d 6 = true → y 25 = .bool (!r.2)

theorem Sm.putObj {S : Nat → Prop} {W : World} {l : Nat} (o : Obj) (hs : ∀ i, S i → i ≠ l) : Sm S W (W.putObj l o) := Sm.grown (grownBy_putObj' W l o) (fun k hk e => hs k hk (by cases e; rfl))

include hY in
theorem PS.sm {s : σ} {pre : List Nat} {pv : Value} {W W' : World} {S : Nat → Prop} (h : PS Y b1 bp b3 s pre pv W) (hs : Sm S W W') (hS : ∀ k, k < W.heap.size → k < Y.N ∨ Y.Prot s W k ∨ k = b1 ∨ k = bp ∨ k = b3 ∨ pv.ownBlock = some k → S k) : PS Y b1 bp b3 s pre pv W' :=
  have hs' : Sm (fun k => k < Y.N ∨ Y.Prot s W k ∨ k = b1 ∨ k = bp ∨ k = b3 ∨ pv.ownBlock = some k) W W' := hs.mono hS
  have st := hY.stable _ _ _ h.inv (hs'.mono fun _ _ hk => hk.elim .inl (fun hk => .inr (.inl hk)))
  ⟨st.1, hs'.boxed h.x1 (.inr (.inr (.inl rfl))), hs'.boxed h.x2 (.inr (.inr (.inr (.inl rfl)))), hs'.boxed h.x3 (.inr (.inr (.inr (.inr (.inl rfl))))),
    hs'.own h.own (fun _ hk => .inr (.inr (.inr (.inr (.inr hk))))), h.n1, h.n2, h.n3, fun e => h.q1 (st.2 _ e), fun e => h.q2 (st.2 _ e), fun e => h.q3 (st.2 _ e), fun k hk e => h.qp k hk (st.2 _ e)⟩

set_option maxRecDepth 20000 in
set_option maxHeartbeats 8000000 in
include hY in
theorem walk_node (s : σ) (pre : List Nat) (pv : Value) (W : World) (h : PS Y b1 bp b3 s pre pv W) (rest d : Nat) (hr : rest < 64) (hl : pre.length + (d + 1) = Y.n) (hn : Y.n ≤ 6) (h6 : ∀ c ∈ pre, c < 6) (hpop : pop rest = d + 1)
    (ih : ∀ (rest' : Nat) (s' : σ) (pre' : List Nat) (pv' : Value) (W' : World), PS Y b1 bp b3 s' pre' pv' W' → rest' < 64 → pop rest' = d → pre'.length + d = Y.n → (∀ c ∈ pre', c < 6) →
      Calls Tryd.prog 70 #[.int .i64 rest', .pointer (some ⟨b1, 0, none⟩), .pointer (some ⟨bp, 0, none⟩), .pointer (some ⟨b3, 0, none⟩)] W' (WPost Y b1 bp b3 (runP Y.step s' ((perms d rest').map (pre' ++ ·))) s' pre' pv' W')) :
    Calls Tryd.prog 70 #[.int .i64 rest, .pointer (some ⟨b1, 0, none⟩), .pointer (some ⟨bp, 0, none⟩), .pointer (some ⟨b3, 0, none⟩)] W (WPost Y b1 bp b3 (runP Y.step s (remP d rest pre rest)) s pre pv W) := by
  have hrest0 : 0 < rest := by
    rcases Nat.eq_zero_or_pos rest with h0 | h0
    · subst h0; have : pop 0 = 0 := by decide
      omega
    · exact h0
  have hlow := hY.low _ _ h.inv
  have l1 := h.x1.lt
  have l2 := h.x2.lt
  have l3 := h.x3.lt
  have IH := Lib.hid ih
  have H := Lib.hid h
  have H6 := Lib.hid h6
  have POP := Lib.hid hpop
  clear ih h h6 hpop
  refine calls_marks Tryd.func70 rfl ?_
  simp only [Tryd.ntmps70, List.size_toArray, List.length_cons, List.length_nil, Nat.reduceAdd, Nat.reduceSub, Array.replicate_succ, Array.replicate_zero, List.push_toArray, List.append_toArray, List.nil_append, List.cons_append]
  go_wp2_with (go_at_call 56; refine (columns_any _ _).mono ?_; rintro e w4 ⟨rfl, rfl⟩)
  rename_i Kq hKq
  obtain ⟨W4, hW4⟩ : ∃ W4, ((W.alloc (.cells #[.int .i64 (rest : Int)] 3)).alloc (.cells #[.bool false] 4)).alloc (.cells #[.int .i64 (rest : Int)] 3) = W4 := ⟨_, rfl⟩
  have hb4 : Below W.heap.size W W4 := by rw [← hW4]; exact (((Below.refl _ _).alloc (Nat.le_refl _) _).alloc (by simp) _).alloc (by simp; omega) _
  have hs4 : W4.heap.size = W.heap.size + 3 := by rw [← hW4]; simp
  have hx4 : Boxed W4 W.heap.size 3 (.int .i64 (rest : Int)) := by rw [← hW4]; exact ((Boxed.new _ _ _).alloc _).alloc _
  have hx5 : Boxed W4 (W.heap.size + 1) 4 (.bool false) := by rw [← hW4]; have := Boxed.new (W.alloc (.cells #[.int .i64 (rest : Int)] 3)) 4 (.bool false); rw [World.size_alloc] at this; exact this.alloc _
  have hxc : BoxN W4 (W.heap.size + 2) rest := by rw [← hW4]; have := Boxed.new ((W.alloc (.cells #[.int .i64 (rest : Int)] 3)).alloc (.cells #[.bool false] 4)) 3 (.int .i64 (rest : Int)); rw [World.size_alloc, World.size_alloc] at this; exact this
  have P4 := H.out.below hY hb4
  have st4 := (hY.stable _ _ _ H.out.inv (Sm.of_below hb4)).2
  rw [hW4]
  clear hW4
  refine wp_cols1 (W.heap.size + 2) rest (by simp [go_sem]) hxc (by omega) (by simp)
    (fun S Wl => S < 64 ∧ (∀ j, S.testBit j = true → rest.testBit j = true) ∧ ∃ st pv', LS Y b1 bp b3 s pre pv W rest d S st pv' Wl)
    (fun c Wl => c = .ret ∧ LX Y bp s pre pv W rest d Wl) (fun S Wl hI => by obtain ⟨_, _, st, pv', L⟩ := hI; exact hY.tab _ _ L.ps.inv) ?_ ?_ ?_ ?_ ?_ ?_
  · rintro S Wl Wl' ⟨h1, h2, st, pv', L⟩ hx
    exact ⟨h1, h2, st, pv', L.ext hY hlow l1 l2 l3 (by rw [← hs4]; exact hx)⟩
  · rintro c Wl Wl' ⟨h1, L⟩ hx
    exact ⟨h1, L.ext hY hlow (by rw [← hs4]; exact hx)⟩
  · exact ⟨hr, fun _ hj => hj, s, pv, P4, rfl, hx4, hx5, Sm.of_below hb4, .inl rfl, fun k hk => .inl (st4 k hk), fun k hk _ => ⟨fun hp => by have := hY.prot_lt H.out.inv (st4 k hp); omega, fun e => by have := (H.out.own.lt k e).2; omega⟩⟩
  · rintro l S Wb hS hpos hlD ⟨hS6, hsub, st, pv', L⟩ hbW
    simp only [List.setIfInBounds_toArray, List.set_cons_zero, List.set_cons_succ]
    have htz := tz_lt6 S hS6 hpos
    have hjr : rest.testBit (tz S) = true := hsub _ (elems_bit (tz_mem hS hpos))
    have hpj : pop (diffS rest (2 ^ tz S)) = d := by
      have := pop_step rest hr (tz S) htz
      rw [hjr] at this
      have e := POP.out
      simp at this
      omega
    have hp := pow_in (tz S) (by omega)
    have handn := andNot_walk htz hr
    have c2 := L.ps.x2.cell
    have c3 := L.ps.x3.cell
    have c4 := L.x4.cell
    have f2 := L.ps.x2.frozen
    have HL := Lib.hid L
    have hown := Lib.hid (L.ps.own.alloc (.cells #[.int .i64 ((tz S : Nat) : Int)] 3))
    have hx2a := Lib.hid (L.ps.x2.alloc (.cells #[.int .i64 ((tz S : Nat) : Int)] 3))
    have hne2 := Lib.hid L.ps.ne2
    have hBc := hbW.lt
    have mixed : Tryd.prog.follows .mixedOrders = true := by kernel_rfl
    clear L
    gi_wp2_with (refine wpListIn_app1 rfl _ _ 22 rfl 3 Tryd.underlying22 info3 Y.N pv' _ _ rfl hown.out ⟨Wb.heap.size, 0, none⟩ 1 rfl (cell_new1 _ _ _) (by rw [toI_length]; omega) (by rw [World.size_alloc]; omega) ?_; intro pv2 W2 ho2 hg2 hb2 hat2; have hx2b := hx2a.out.kept hg2 hne2.out; have c2b := hx2b.cell; have f2b := hx2b.frozen; obtain ⟨a2, k2, e2⟩ := ho2.form; rw [List.length_append, List.length_singleton] at e2; subst e2)
    rename_i Kx hKx
    have L := HL.out
    have sm2 : Sm (fun k => k ≠ bp ∧ some k ≠ pv'.ownBlock) Wb (W2.setCell ⟨bp, 0, none⟩ (.slice a2 ((toI pre).length + 1) k2)).drew :=
      (((Sm.alloc _ Wb _).trans (Sm.grown (S := fun k => k ≠ bp ∧ some k ≠ pv'.ownBlock) hg2 (fun k hk => hk.2))).trans (Sm.setCell W2 bp 0 _ (fun k hk => hk.1))).trans (Sm.drew _ _)
    have hx2c : Boxed (W2.setCell ⟨bp, 0, none⟩ (.slice a2 ((toI pre).length + 1) k2)).drew bp 22 (.slice a2 ((toI pre).length + 1) k2) := Boxed.set _ hx2b
    have ho2c : OwnI 3 Y.N (W2.setCell ⟨bp, 0, none⟩ (.slice a2 ((toI pre).length + 1) k2)).drew (.slice a2 ((toI pre).length + 1) k2) (toI (pre ++ [tz S])) := by
      have := (own_setBox ho2 hx2b (by decide) (.slice a2 ((toI pre).length + 1) k2)).drew
      rw [toI_append]; exact this
    generalize hpv2 : (Value.slice a2 ((toI pre).length + 1) k2) = pv2 at sm2 hx2c ho2c hat2 ⊢
    generalize hW3 : (W2.setCell ⟨bp, 0, none⟩ pv2) = W3 at sm2 hx2c ho2c ⊢
    clear hW3 hpv2 hx2b c2b f2b ho2 hg2 hb2
    rw [World.size_alloc] at hat2
    have hown2 : ∀ k, pv2.ownBlock = some k → pv'.ownBlock = some k ∨ Wb.heap.size ≤ k := fun k hk => by
      rcases hat2 with e | e
      · exact .inl (by rw [← e]; exact hk)
      · rw [e] at hk; cases hk; exact .inr (by omega)
    have hne13 : b1 ≠ bp := Boxed.ne L.ps.x1 L.ps.x2 (by decide)
    have hne33 : b3 ≠ bp := Boxed.ne L.ps.x3 L.ps.x2 (by decide)
    have n1 := L.ps.n1
    have n2 := L.ps.n2
    have n3 := L.ps.n3
    have st3 := hY.stable _ _ _ L.ps.inv (sm2.mono (S' := fun k => k < Y.N ∨ Y.Prot st Wb k) fun k _ hk => by
      rcases hk with hk | hk
      · exact ⟨by omega, fun e => by have := (L.ps.own.lt k e.symm).1; omega⟩
      · exact ⟨fun e => L.ps.q2 (e ▸ hk), fun e => L.ps.qp k e.symm hk⟩)
    have P3 : PS Y b1 bp b3 st (pre ++ [tz S]) pv2 W3.drew := by
      refine ⟨st3.1, sm2.boxed L.ps.x1 ⟨hne13, L.ps.ne1⟩, hx2c, sm2.boxed L.ps.x3 ⟨hne33, L.ps.ne3⟩, ho2c, n1, n2, n3, fun e => L.ps.q1 (st3.2 _ e), fun e => L.ps.q2 (st3.2 _ e), fun e => L.ps.q3 (st3.2 _ e), fun k hk hpk => ?_⟩
      rcases hown2 k hk with e | e
      · exact L.ps.qp k e (st3.2 _ hpk)
      · have := hY.prot_lt L.ps.inv (st3.2 _ hpk); omega
    have hlen1 : (pre ++ [tz S]).length + d = Y.n := by simp; omega
    have h61 : ∀ c ∈ pre ++ [tz S], c < 6 := fun c hc => by
      rcases List.mem_append.1 hc with hc | hc
      · exact H6.out c hc
      · simp at hc; omega
    have C := Lib.hid (IH.out (diffS rest (2 ^ tz S)) st (pre ++ [tz S]) pv2 W3.drew P3 (diffS_lt6 hr) hpj hlen1 h61)
    obtain ⟨r, hrr⟩ : ∃ r, runP Y.step st ((perms d (diffS rest (2 ^ tz S))).map ((pre ++ [tz S]) ++ ·)) = r := ⟨_, rfl⟩
    rw [hrr] at C
    have hrun : runP Y.step s (remP d rest pre rest) = if r.2 then runP Y.step r.1 (remP d rest pre (nextS S)) else (r.1, false) := by
      rw [L.run, remP_step d rest pre S hS hpos, runP_append, hrr]
    have hsz2 := sm2.size
    have c3b := P3.x3.cell
    have hx4b : Boxed W3.drew W.heap.size 3 (.int .i64 (rest : Int)) := sm2.boxed L.x4 ⟨by omega, fun e => (L.nb _ (Nat.le_refl _) (by omega)).2 e.symm⟩
    have c4b := hx4b.cell
    refine wpIn_region_sched mixed [19, 20, 21, 22, 23, 24, 25] (by kernel_rfl) (N7 Y b1 bp b3 rest (tz S) r st (pre ++ [tz S]) pv2 W3.drew) ?_ ?_ ?_
    · exact ⟨fun _ => rfl, (fun h => by cases h), (fun h => by cases h), (fun h => by cases h), (fun h => by cases h), (fun h => by cases h), (fun h => by cases h), (fun h => by cases h), (fun h => by cases h), (fun h => by cases h)⟩
    · intro i o ho dn y wx hdi hdep hN
      match i, ho with
      | 0, ho =>
        obtain rfl := Option.some.inj ho
        have d5 : dn 5 = false := by cases h5 : dn 5 with
          | false => rfl
          | true => rw [(hN.c5 h5).1] at hdi; cases hdi
        obtain rfl := hN.w d5
        refine rstepIn_value (fun _ => trivial) (by simp) rfl (v := .func (.func 70) #[] #[.pointer (some ⟨b1, 0, none⟩), .pointer (some ⟨bp, 0, none⟩), .pointer (some ⟨b3, 0, none⟩)]) (w' := W3.drew) ?_ ?_
        · simp only [hole, List.foldl_cons, List.foldl_nil, List.setIfInBounds_toArray, List.set_cons_zero, List.set_cons_succ]
          go_simp
        · exact ⟨fun _ => rfl, hN.c4, fun h => (by simp at h; rw [d5] at h; cases h), fun _ => rfl, hN.h20, hN.h21, hN.h22, hN.h23, fun h => (by simp at h; rw [d5] at h; cases h), hN.h25⟩
      | 1, ho =>
        obtain rfl := Option.some.inj ho
        have d5 : dn 5 = false := by cases h5 : dn 5 with
          | false => rfl
          | true => rw [(hN.c5 h5).2] at hdi; cases hdi
        obtain rfl := hN.w d5
        refine rstepIn_value (fun _ => trivial) (by simp) rfl (v := .int .i64 (rest : Int)) (w' := W3.drew) ?_ ?_
        · simp only [hole, List.foldl_cons, List.foldl_nil, List.setIfInBounds_toArray, List.set_cons_zero, List.set_cons_succ]
          go_simp
        · exact ⟨fun _ => rfl, fun _ => rfl, fun h => (by simp at h; rw [d5] at h; cases h), hN.h19, fun _ => rfl, hN.h21, hN.h22, hN.h23, fun h => (by simp at h; rw [d5] at h; cases h), hN.h25⟩
      | 2, ho =>
        obtain rfl := Option.some.inj ho
        refine rstepIn_value (fun _ => trivial) (by simp) rfl (v := .int .i64 (tz S : Nat)) (w' := wx) ?_ ?_
        · simp only [hole, List.foldl_cons, List.foldl_nil, List.setIfInBounds_toArray, List.set_cons_zero, List.set_cons_succ]
          go_simp
        · exact ⟨hN.w, hN.c4, hN.c5, hN.h19, hN.h20, fun _ => rfl, hN.h22, hN.h23, hN.h24, hN.h25⟩
      | 3, ho =>
        obtain rfl := Option.some.inj ho
        have e21 := hN.h21 (hdep ⟨2, .data⟩ (by simp) rfl)
        refine rstepIn_value (fun _ => trivial) (by simp) rfl (v := .int .i64 ((2 : Int) ^ tz S)) (w' := wx) ?_ ?_
        · simp only [hole, List.foldl_cons, List.foldl_nil, List.setIfInBounds_toArray, List.set_cons_zero, List.set_cons_succ]
          go_simp
        · exact ⟨hN.w, hN.c4, hN.c5, hN.h19, hN.h20, hN.h21, fun _ => rfl, hN.h23, hN.h24, hN.h25⟩
      | 4, ho =>
        obtain rfl := Option.some.inj ho
        have e20 := hN.h20 (hdep ⟨1, .data⟩ (by simp) rfl)
        have e22 := hN.h22 (hdep ⟨3, .data⟩ (by simp) rfl)
        refine rstepIn_value (fun _ => trivial) (by simp) rfl (v := .int .i64 (diffS rest (2 ^ tz S) : Nat)) (w' := wx) ?_ ?_
        · simp only [hole, List.foldl_cons, List.foldl_nil, List.setIfInBounds_toArray, List.set_cons_zero, List.set_cons_succ]
          go_simp
        · exact ⟨hN.w, fun _ => hdep ⟨1, .data⟩ (by simp) rfl, hN.c5, hN.h19, hN.h20, hN.h21, hN.h22, fun _ => rfl, hN.h24, hN.h25⟩
      | 5, ho =>
        obtain rfl := Option.some.inj ho
        have e19 := hN.h19 (hdep ⟨0, .data⟩ (by simp) rfl)
        have e23 := hN.h23 (hdep ⟨4, .data⟩ (by simp) rfl)
        obtain rfl := hN.w hdi
        refine rstepIn_call (fun _ => trivial) (fun _ => by decide) (by simp) rfl (f := 70) (args := #[.int .i64 (diffS rest (2 ^ tz S) : Nat), .pointer (some ⟨b1, 0, none⟩), .pointer (some ⟨bp, 0, none⟩), .pointer (some ⟨b3, 0, none⟩)]) (w' := W3.drew) ?_ (CallsIn.inRound l (callsIn_wide.2 C.out)) ?_
        · simp only [hole, List.foldl_cons, List.foldl_nil, List.setIfInBounds_toArray, List.set_cons_zero, List.set_cons_succ]
          go_simp
        · rintro e w'' hw
          obtain ⟨rfl, hw2⟩ := hw
          exact ⟨_, rfl, (fun h => by simp at h), hN.c4, fun _ => ⟨hdep ⟨0, .data⟩ (by simp) rfl, hN.c4 (hdep ⟨4, .data⟩ (by simp) rfl)⟩, hN.h19, hN.h20, hN.h21, hN.h22, hN.h23, fun _ => ⟨rfl, rfl, hw2⟩, hN.h25⟩
      | 6, ho =>
        obtain rfl := Option.some.inj ho
        have e24 := (hN.h24 (hdep ⟨5, .data⟩ (by simp) rfl)).1
        refine rstepIn_value (fun _ => trivial) (by simp) rfl (v := .bool (!r.2)) (w' := wx) ?_ ?_
        · simp only [hole, List.foldl_cons, List.foldl_nil, List.setIfInBounds_toArray, List.set_cons_zero, List.set_cons_succ]
          go_simp
        · exact ⟨hN.w, hN.c4, hN.c5, hN.h19, hN.h20, hN.h21, hN.h22, hN.h23, hN.h24, fun _ => rfl⟩
    · intro dn y W5 hd hN
      obtain ⟨e24, -, inv5, kept5, prot5, hpost⟩ := hN.h24 (hd 5 (by simp))
      have e19 := hN.h19 (hd 0 (by simp))
      have e20 := hN.h20 (hd 1 (by simp))
      have e21 := hN.h21 (hd 2 (by simp))
      have e22 := hN.h22 (hd 3 (by simp))
      have e23 := hN.h23 (hd 4 (by simp))
      have e25 := hN.h25 (hd 6 (by simp))
      clear hN hd C IH
      refine hKx _ _ ?_
      clear hKx Kx
      simp only [hole, List.foldl_cons, List.foldl_nil, List.setIfInBounds_toArray, List.set_cons_zero, List.set_cons_succ, e19, e20, e21, e22, e23, e24, e25]
      clear e19 e20 e21 e22 e23 e24 e25 y
      have hsz3 : W3.drew.heap.size ≤ W5.heap.size := kept5.size
      have hlowb : Y.N ≤ Wb.heap.size := by omega
      have sm5 : Sm (fun k => Y.N ≤ k ∧ k ≠ bp ∧ some k ≠ pv'.ownBlock) Wb W5 := (sm2.mono (S' := fun k => Y.N ≤ k ∧ k ≠ bp ∧ some k ≠ pv'.ownBlock) fun k _ hk => hk.2).trans' kept5 (fun k hlt hk => ⟨hk.1, hk.2.1, fun e => by
        rcases hown2 k e.symm with e' | e'
        · exact hk.2.2 e'.symm
        · omega⟩)
      have nbk : ∀ k, W.heap.size ≤ k → k < W.heap.size + 3 → Y.N ≤ k ∧ k ≠ bp ∧ some k ≠ pv'.ownBlock := fun k h1 h2 => ⟨by omega, by omega, fun e => (L.nb k h1 h2).2 e.symm⟩
      have hx5' := sm5.boxed L.x5 (nbk _ (by omega) (by omega))
      have hx4' := sm5.boxed L.x4 (nbk _ (by omega) (by omega))
      have hxc' : BoxN W5 (W.heap.size + 2) S := sm5.boxed hbW (nbk _ (by omega) (by omega))
      have pr5 : ∀ k, Y.Prot r.1 W5 k → Y.Prot st Wb k ∨ W3.drew.heap.size ≤ k := fun k hk => (prot5 k hk).imp (st3.2 k) id
      have pr6 : ∀ k, Y.Prot r.1 W5 k → Y.Prot s W k ∨ W.heap.size ≤ k := fun k hk => by
        rcases pr5 k hk with h | h
        · exact L.prot k h
        · exact .inr (by omega)
      have nb6 : ∀ k, W.heap.size ≤ k → k < W.heap.size + 3 → ¬ Y.Prot r.1 W5 k := fun k h1 h2 hk => by
        rcases pr5 k hk with h | h
        · exact (L.nb k h1 h2).1 h
        · omega
      have c5b := hx5'.cell
      have f5b := hx5'.frozen
      have keep5 : Sm (KeptS Y bp pv) W W5 := L.kept.trans' sm5 (fun k hlt hk => ⟨hk.1, hk.2.1, fun e => by
        rcases L.row with e' | e'
        · rw [e'] at e; exact hk.2.2 e
        · have := e' k e.symm; omega⟩)
      have kf5 : KeepsFrom W4.heap.size Wb W5 := sm5.keepsFrom (fun k o hk ho hc => ⟨by omega, by omega, fun e => by
        obtain ⟨o', ho', hc'⟩ := L.ps.own.isCells k e.symm
        rw [ho] at ho'; cases ho'; rw [hc] at hc'; cases hc'⟩)
      cases hr2 : r.2 with
      | false =>
        have hrun2 : runP Y.step s (remP d rest pre rest) = (r.1, false) := by rw [hrun, hr2]; rfl
        have HR := Lib.hid hrun2
        have HR2 := Lib.hid hr2
        clear hrun hrun2 hr2 hpost
        gi_wp2
        have sm6 : Sm (fun k => k ≠ W.heap.size + 1) W5 (W5.setCell ⟨W.heap.size + 1, 0, none⟩ (.bool false)) := Sm.setCell _ _ _ _ (fun k hk => hk)
        refine ⟨kf5.trans (KeepsFrom.of_grownBy (IsBufferSet _ _ _ _) (fun k hk => by cases hk; omega)), rfl, ?_⟩
        have st6 := hY.stable _ _ _ inv5 (sm6.mono (S' := fun k => k < Y.N ∨ Y.Prot r.1 W5 k) fun k _ hk => hk.elim (fun hk => by omega) (fun hk e => nb6 k (by omega) (by omega) hk))
        refine ⟨by rw [HR.out], by rw [HR.out]; exact st6.1, Boxed.set _ hx5', keep5.trans' sm6 (fun k hk _ => by omega), by rw [HR.out]; exact fun k hk => pr6 k (st6.2 k hk), by rw [HR.out]; exact fun k h1 h2 e => nb6 k h1 h2 (st6.2 k e)⟩
      | true =>
        obtain ⟨pv3, P5, hat5⟩ := hpost hr2
        have hrun2 : runP Y.step s (remP d rest pre rest) = runP Y.step r.1 (remP d rest pre (nextS S)) := by rw [hrun, hr2]; rfl
        have hown3 : ∀ k, pv3.ownBlock = some k → pv'.ownBlock = some k ∨ Wb.heap.size ≤ k := fun k hk => by
          rcases hat5 with e | e
          · exact hown2 k (by rw [← e]; exact hk)
          · exact .inr (by have := e k hk; omega)
        obtain ⟨g3, k3, rfl⟩ := P5.own.rowN (by simp)
        have hk3 : pre.length + 1 ≤ k3 := by
          obtain ⟨a', c', e1, _, e2, _⟩ := (P5.own.ints (by rw [toI_length]; simp; omega)).openN
          obtain ⟨_, _, rfl⟩ := Value.slice.inj e1
          simpa using e2
        have c2d := P5.x2.cell
        have f2d := P5.x2.frozen
        have HR := Lib.hid hrun2
        have HR2 := Lib.hid hr2
        have HP := Lib.hid P5
        clear hrun hrun2 hr2 hpost hat5 P5
        have e9 : (pre ++ [tz S]).length = pre.length + 1 := by simp
        rw [e9] at c2d
        have w1 : IntKind.i64.wrap ((pre.length : Int) + 1 - 1) = (pre.length : Int) := by rw [IntWalk.i64_in _ (by omega)]; omega
        gi_wp2
        have P5 := HP.out
        have sm6 : Sm (fun k => k ≠ bp) W5 (W5.setCell ⟨bp, 0, none⟩ (.slice (some ⟨g3, 0, none⟩) pre.length k3)) := Sm.setCell _ _ _ _ (fun k hk => hk)
        have hcut : OwnI 3 Y.N W5 (.slice (some ⟨g3, 0, none⟩) pre.length k3) (toI pre) := by
          have := own_cut P5.own pre.length (by rw [toI_length]; simp)
          rw [toI_take, List.take_left] at this
          exact this
        refine ⟨kf5.trans (KeepsFrom.of_grownBy (IsBufferSet _ _ _ _) (fun k hk => by cases hk; omega)), sm6.boxed hxc' (by omega), by have := nextS_lt S hS hpos; omega, fun j hj => ?_, r.1, .slice (some ⟨g3, 0, none⟩) pre.length k3, ?_⟩
        · unfold nextS at hj
          rw [Nat.testBit_and] at hj
          exact hsub j (by simp at hj; exact hj.1)
        · have st6 := hY.stable _ _ _ inv5 (sm6.mono (S' := fun k => k < Y.N ∨ Y.Prot r.1 W5 k) fun k _ hk => hk.elim (fun hk => by omega) (fun hk e => P5.q2 (e ▸ hk)))
          refine ⟨⟨st6.1, sm6.boxed P5.x1 hne13, Boxed.set _ P5.x2, sm6.boxed P5.x3 hne33, own_setBox hcut P5.x2 (by decide) _, n1, n2, n3, fun e => P5.q1 (st6.2 _ e), fun e => P5.q2 (st6.2 _ e), fun e => P5.q3 (st6.2 _ e), fun k hk e => P5.qp k hk (st6.2 _ e)⟩,
            HR.out, sm6.boxed hx4' (by omega), sm6.boxed hx5' (by omega), keep5.trans' sm6 (fun k _ hk => hk.2.1), ?_, fun k hk => pr6 k (st6.2 k hk), fun k h1 h2 => ⟨fun e => nb6 k h1 h2 (st6.2 k e), fun e => ?_⟩⟩
          · rcases hown3 g3 rfl with e | e
            · rcases L.row with e' | e'
              · exact .inl (by rw [← e', e]; rfl)
              · exact .inr (fun k hk => e' k (by rw [e, ← hk]; rfl))
            · exact .inr (fun k hk => by have hk' : some g3 = some k := hk; cases hk'; omega)
          · rcases hown3 k e with e' | e'
            · exact (L.nb k h1 h2).2 e'
            · omega
  · rintro D Wl hD ⟨_, _, st, pv', L⟩ hK
    have c5 := L.x5.cell
    have f5 := L.x5.frozen
    have HL := Lib.hid L
    clear L
    refine hKq _ _ ?_
    clear hKq Kq
    go_wp2
    have L := HL.out
    have hDl : D < Wl.heap.size := (Array.getElem?_eq_some_iff.1 hK).1
    have hK' : (Wl.setCell ⟨W.heap.size + 1, 0, none⟩ (.bool true)).heap[D]? = some (.deferred (some [])) := (Below.heap_setCell Wl ⟨W.heap.size + 1, 0, none⟩ (.bool true) D (by show D ≠ W.heap.size + 1; omega)).trans hK
    have sm : Sm (fun k => k ≠ W.heap.size + 1 ∧ k ≠ D) Wl ((Wl.setCell ⟨W.heap.size + 1, 0, none⟩ (.bool true)).putObj D (.deferred none)) :=
      (Sm.setCell (S := fun k => k ≠ W.heap.size + 1 ∧ k ≠ D) Wl (W.heap.size + 1) 0 (.bool true) (fun k hk => hk.1)).trans (Sm.putObj _ (fun k hk => hk.2))
    have hx5' : Boxed ((Wl.setCell ⟨W.heap.size + 1, 0, none⟩ (.bool true)).putObj D (.deferred none)) (W.heap.size + 1) 4 (.bool true) := (World.putObj_heap_other (by omega)).trans (Boxed.set (.bool true) L.x5)
    refine leaves_one hK' (results_cell rfl rfl hx5') ?_
    generalize hW5 : (Wl.setCell ⟨W.heap.size + 1, 0, none⟩ (.bool true)).putObj D (.deferred none) = W5 at sm hx5' ⊢
    clear hW5
    have nd : ∀ k, (∃ o, Wl.heap[k]? = some o ∧ o.isCells = true) → k ≠ D := fun k hk e => by
      subst e
      obtain ⟨o, ho, hc⟩ := hk
      rw [hK] at ho; cases ho; cases hc
    have P5 : PS Y b1 bp b3 st pre pv' W5 := L.ps.sm hY sm fun k hk hh => by
      rcases hh with hh | hh | rfl | rfl | rfl | hh
      · exact ⟨by omega, by omega⟩
      · exact ⟨fun e => (L.nb k (by omega) (by omega)).1 hh, nd k (hY.cells _ _ _ L.ps.inv hh)⟩
      · exact ⟨by omega, by omega⟩
      · exact ⟨by omega, by omega⟩
      · exact ⟨by omega, by omega⟩
      · exact ⟨fun e => (L.nb k (by omega) (by omega)).2 hh, nd k (L.ps.own.isCells k hh)⟩
    rw [L.run, remP_zero]
    have st6 := hY.stable _ _ _ L.ps.inv (sm.mono (S' := fun k => k < Y.N ∨ Y.Prot st Wl k) fun k _ hk => by
      rcases hk with hh | hh
      · exact ⟨by omega, by omega⟩
      · exact ⟨fun e => (L.nb k (by omega) (by omega)).1 hh, nd k (hY.cells _ _ _ L.ps.inv hh)⟩)
    exact ⟨rfl, P5.inv, L.kept.trans' sm (fun k hk _ => ⟨by omega, by omega⟩), fun k hk => L.prot k (st6.2 k hk), fun _ => ⟨pv', P5, L.row⟩⟩
  · rintro D c Wl hD ⟨rfl, L⟩ hK
    have hDl : D < Wl.heap.size := (Array.getElem?_eq_some_iff.1 hK).1
    have HL := Lib.hid L
    clear L
    go_wp2
    have L := HL.out
    have sm : Sm (fun k => k ≠ D) Wl (Wl.putObj D (.deferred none)) := Sm.putObj _ (fun k hk => hk)
    have hx5' := sm.boxed L.x5 (by omega)
    refine leaves_one hK (results_cell rfl rfl hx5') ?_
    have nd : ∀ k, (∃ o, Wl.heap[k]? = some o ∧ o.isCells = true) → k ≠ D := fun k hk e => by
      subst e
      obtain ⟨o, ho, hc⟩ := hk
      rw [hK] at ho; cases ho; cases hc
    have st6 := hY.stable _ _ _ L.inv (sm.mono (S' := fun k => k < Y.N ∨ Y.Prot (runP Y.step s (remP d rest pre rest)).1 Wl k) fun k _ hk => hk.elim (fun hh => by omega) (fun hh => nd k (hY.cells _ _ _ L.inv hh)))
    refine ⟨by rw [L.run], st6.1, L.kept.trans' sm (fun k hk _ => by omega), fun k hk => L.prot k (st6.2 k hk), fun e => by rw [L.run] at e; cases e⟩

include hY in
/-- **walk(rest)**. -/
theorem walk_any (hn : Y.n ≤ 6) : ∀ (d rest : Nat) (s : σ) (pre : List Nat) (pv : Value) (W : World), PS Y b1 bp b3 s pre pv W → rest < 64 → pop rest = d → pre.length + d = Y.n → (∀ c ∈ pre, c < 6) →
    Calls Tryd.prog 70 #[.int .i64 rest, .pointer (some ⟨b1, 0, none⟩), .pointer (some ⟨bp, 0, none⟩), .pointer (some ⟨b3, 0, none⟩)] W (WPost Y b1 bp b3 (runP Y.step s ((perms d rest).map (pre ++ ·))) s pre pv W)
  | 0, rest, s, pre, pv, W, h, hr, hp, hl, h6 => by
    have h0 : rest = 0 := by have := pop_zero_iff rest hr; rw [hp] at this; simpa using this
    subst h0
    have := walk_leaf Y hY b1 bp b3 s pre pv W h hn (by simpa using hl) h6
    have e : runP Y.step s ((perms 0 0).map (pre ++ ·)) = Y.step s pre := by
      have e1 : (perms 0 0).map (pre ++ ·) = [pre] := by simp [perms]
      rw [e1]
      simp only [runP]
      cases h2 : (Y.step s pre).2 <;> simp [← h2]
    rw [e]
    exact this
  | d + 1, rest, s, pre, pv, W, h, hr, hp, hl, h6 => by
    have := walk_node hY s pre pv W h rest d hr hl hn h6 hp (fun rest' s' pre' pv' W' h' hr' hp' hl' h6' => walk_any hn d rest' s' pre' pv' W' h' hr' hp' hl' h6')
    exact this
end
end Go.Proofs.YtlpnicfbgdfbnaaDoor
