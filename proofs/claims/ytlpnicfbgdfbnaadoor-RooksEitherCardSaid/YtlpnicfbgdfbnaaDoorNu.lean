/- (rooks.board).numbers. -/
import Derived.Test.YtlpnicfbgdfbnaaDoorColP
import Derived.Test.YtlpnicfbgdfbnaaDoorBw
import Derived.Test.YtlpnicfbgdfbnaaDoorWl
import Derived.Test.YtlpnicfbgdfbnaaDoorSchedI
import Derived.Lib.BufferWrite
import Derived.Deep.DeepCutAuto
import Derived.Deep.CutBlock
import Derived.StillTailTactics
import Derived.Deep.RegionHeld3
import Derived.Shelf.RegionOpen
import Derived.BigQuiet
import Derived.Deep.QuietTactic
namespace Go.Proofs.YtlpnicfbgdfbnaaDoor
open Go.RowKit Go.Shelf
attribute [local go_sem] Oper.semAt_some

theorem info47 : (Tryd.prog.info? 47).map (fun i => (i.zero, i.size, i.bytes)) = some (some (.slice none 0 0), 1, 24) := by kernel_rfl

def NumPost (bs : List Nat) (used : Nat) (w : World) (e : Ending) (w' : World) : Prop :=
  ∃ v', e = .returned v' ∧ OwnI 3 w.heap.size w' v' (toI (numL bs used)) ∧ Below w.heap.size w w'

set_option maxHeartbeats 1000000 in
theorem numbers_nil (v : Value) (used : Nat) (w : World) (hv : Ints w v (toI [])) :
    Calls Tryd.prog 47 #[v, .int .i64 used] w (NumPost [] used w) := by
  obtain ⟨a, c, rfl, hlen, hcl, hc⟩ := hv.openN
  clear hc hv
  refine calls_marks Tryd.func47 rfl ?_
  simp only [Tryd.ntmps47, List.size_toArray, List.length_cons, List.length_nil, Nat.reduceAdd, Nat.reduceSub, Array.replicate_succ, Array.replicate_zero, List.push_toArray, List.append_toArray, List.nil_append, List.cons_append]
  go_wp2
  refine leaves_none (results_tmp rfl _ _ _) ?_
  refine ⟨_, rfl, ?_, ?_⟩
  · have := own_fresh (B := w.heap.size) ((w.alloc (Obj.cells #[Value.slice a 0 c] 47)).alloc (Obj.cells #[Value.int IntKind.i64 ↑used] 3)) 3 [1] (by simp; omega) (by decide)
    simp only [World.size_alloc] at this
    exact this
  · exact (((Below.refl _ _).alloc (by simp) _).alloc (by simp) _).alloc (by simp; omega) _


theorem diffS_lt {r u : Nat} (hr : r < 64) (hu : u < 64) : diffS r u < 64 := by
  have : diffS r u < 2 ^ 6 := Nat.xor_lt_two_pow (by omega) (Nat.and_lt_two_pow _ (by omega))
  omega
theorem or_w {u j : Nat} (hu : u < 64) (hj : j < 6) : bits BinOp.or IntKind.i64 (u : Int) ((2 : Int) ^ j) = ((u ||| 2 ^ j : Nat) : Int) := by
  have h2 : 2 ^ j ≤ 2 ^ 5 := Nat.pow_le_pow_right (by decide) (by omega)
  have : ((2 : Int) ^ j) = ((2 ^ j : Nat) : Int) := by simp
  rw [this, i64_or u (2 ^ j) (by omega) (by omega)]
theorem or_lt {u j : Nat} (hu : u < 64) (hj : j < 6) : u ||| 2 ^ j < 64 := by
  have h2 : 2 ^ j < 2 ^ 6 := Nat.pow_lt_pow_right (by decide) hj
  have : u ||| 2 ^ j < 2 ^ 6 := Nat.or_lt_two_pow (by omega) h2
  omega

/-- What has been done of 'out := append(b[1:].numbers(used), 0)'. -/
structure N3 (W2 : World) (v0 vt : Value) (used : Nat) (L : List Nat) (d : Nat → Bool) (y : Nat → Value) (wx : World) : Prop where
  hb : Below W2.heap.size W2 wx
  h13 : d 0 = true → y 13 = v0
  h14 : d 1 = true → y 14 = vt
  h15 : d 2 = true → y 15 = .int .i64 used
  h16 : d 3 = true → d 5 = false → OwnI 3 W2.heap.size wx (y 16) (toI L)
  h17 : d 4 = true → d 5 = false → ∃ g, y 17 = .slice (some ⟨g, 0, none⟩) 1 1 ∧ Boxed wx g 3 (.int .i64 0)
  h18 : d 5 = true → OwnI 3 W2.heap.size wx (y 18) (toI (L ++ [0]))
  h7 : d 7 = true → d 5 = true ∧ d 6 = true
  h5 : d 6 = true → ∃ B5, y 5 = .pointer (some ⟨B5, 0, none⟩) ∧ W2.heap.size ≤ B5 ∧ ∃ vo, Boxed wx B5 22 vo ∧ (d 7 = true → vo = y 18)

/-- What has been done of 'range b[1:].numbers(used | 1<<j)'. -/
structure N6 (W : World) (v0 vt : Value) (used j : Nat) (L : List Nat) (d : Nat → Bool) (y : Nat → Value) (wx : World) : Prop where
  hb : Below W.heap.size W wx
  h26 : d 0 = true → y 26 = v0
  h27 : d 1 = true → y 27 = vt
  h28 : d 2 = true → y 28 = .int .i64 (used : Int)
  h29 : d 3 = true → y 29 = .int .i64 (j : Int)
  h30 : d 4 = true → y 30 = .int .i64 ((2 : Int) ^ j)
  h31 : d 5 = true → y 31 = .int .i64 ((used ||| 2 ^ j : Nat) : Int)
  h32 : d 6 = true → OwnI 3 W.heap.size wx (y 32) (toI L)
  h33 : d 7 = true → y 33 = .int .i64 (L.length : Int)
  h34 : d 8 = true → y 34 = .int .i64 0

theorem IsBufferSet (w : World) (b i : Nat) (v : Value) : w.grownBy (w.setCell ⟨b, i, none⟩ v) (some b) := Go.Lib.grownBy_setCell w b i v
theorem boxed_at {b b' : Nat} {t : TypeId} {w : World} {v : Value} (h : Boxed w b t v) (hne : b ≠ b') (i : Nat) (u : Value) : Boxed (w.setCell ⟨b', i, none⟩ u) b t v := h.kept (IsBufferSet w b' i u) (fun e => hne (by cases e; rfl))
theorem boxN_at {b b' s : Nat} {w : World} (h : BoxN w b s) (hne : b ≠ b') (i : Nat) (u : Value) : BoxN (w.setCell ⟨b', i, none⟩ u) b s := (Below.heap_setCell w ⟨b', i, none⟩ u b hne).trans h
theorem ownI_at {e : TypeId} {B b : Nat} {w : World} {v : Value} {xs : List Int} (h : OwnI e B w v xs) (hne : some b ≠ v.ownBlock) (i : Nat) (u : Value) : OwnI e B (w.setCell ⟨b, i, none⟩ u) v xs :=
  World.ownsRow.kept h (IsBufferSet w b i u) (.inr (fun e' => hne e'.symm))

set_option maxRecDepth 100000 in
set_option maxHeartbeats 4000000 in
theorem numbers_cons (v : Value) (r : Nat) (rs : List Nat) (used : Nat) (w : World) (hv : Ints w v (toI (r :: rs))) (hr : r < 64) (hu : used < 64) (h6 : rs.length < 6) (ht : Tab w)
    (ih : ∀ (used : Nat) (v : Value) (w : World), used < 64 → Ints w v (toI rs) → Tab w → Calls Tryd.prog 47 #[v, .int .i64 used] w (NumPost rs used w)) :
    Calls Tryd.prog 47 #[v, .int .i64 used] w (NumPost (r :: rs) used w) := by
  obtain ⟨a, c, rfl, hlen, hcl, hc⟩ := hv.openN
  obtain ⟨b, off, rfl, hbl, hcell⟩ := hc (by simp)
  have hvt := ints_tail hv
  clear hc hv
  obtain ⟨adt, hadt⟩ : ∃ adt : Option Addr, (if c = 1 then some ⟨b, off, none⟩ else some ⟨b, off + 1, none⟩) = adt := ⟨_, rfl⟩
  rw [hadt] at hvt
  have hc0 := hcell 0 (by simp)
  clear hcell
  have IH := Lib.hid ih; clear ih
  have HT := Lib.hid ht; clear ht
  have HVT := Lib.hid hvt; clear hvt
  have hcap : rs.length + 1 ≤ c := by simpa using hcl
  refine calls_marks Tryd.func47 rfl ?_
  simp only [Tryd.ntmps47, List.size_toArray, List.length_cons, List.length_nil, Nat.reduceAdd, Nat.reduceSub, Array.replicate_succ, Array.replicate_zero, List.push_toArray, List.append_toArray, List.nil_append, List.cons_append]
  go_upto_region 3 with (fail)
  obtain ⟨W2, hW2⟩ : ∃ W2, (w.alloc (Obj.cells #[Value.slice (some ⟨b, off, none⟩) (rs.length + 1) c] 47)).alloc (Obj.cells #[Value.int IntKind.i64 ↑used] 3) = W2 := ⟨_, rfl⟩
  rw [hW2]
  have hb2 : Below w.heap.size w W2 := by rw [← hW2]; exact ((Below.refl _ _).alloc (Nat.le_refl _) _).alloc (by simp) _
  have hs2 : W2.heap.size = w.heap.size + 2 := by rw [← hW2]; simp
  have hx2 : Boxed W2 w.heap.size 47 (Value.slice (some ⟨b, off, none⟩) (rs.length + 1) c) := by rw [← hW2]; exact (Boxed.new _ _ _).alloc _
  have hx3 : Boxed W2 (w.heap.size + 1) 3 (Value.int IntKind.i64 ↑used) := by rw [← hW2]; have := Boxed.new (w.alloc (Obj.cells #[Value.slice (some ⟨b, off, none⟩) (rs.length + 1) c] 47)) 3 (Value.int IntKind.i64 ↑used); rwa [World.size_alloc] at this
  clear hW2
  have KI := Lib.hid (show ∀ wx, Below W2.heap.size W2 wx → Ints wx (.slice adt rs.length (c - 1)) (toI rs) from fun wx hb => (HVT.out.below hb2).below hb)
  have KT := Lib.hid (show ∀ wx, Below W2.heap.size W2 wx → Tab wx from fun wx hb => (HT.out.below hb2).below hb)
  have KS := Lib.hid (show ∀ wx, Below W2.heap.size W2 wx → wx.cell? ⟨w.heap.size, 0, none⟩ = some (Value.slice (some ⟨b, off, none⟩) (rs.length + 1) c) ∧ wx.cell? ⟨w.heap.size + 1, 0, none⟩ = some (Value.int IntKind.i64 ↑used) from
    fun wx hb => ⟨(boxed_below_of hx2 hb (by omega)).cell, (boxed_below_of hx3 hb (by omega)).cell⟩)
  go_cut [5] from 13 to 18 (fun p wr => ∃ (B5 : Nat) (vo : Value), p = .pointer (some ⟨B5, 0, none⟩) ∧ Boxed wr B5 22 vo ∧ W2.heap.size ≤ B5 ∧ OwnI 3 W2.heap.size wr vo (toI (numL rs used ++ [0])) ∧ Below W2.heap.size W2 wr)
  case first =>
    rename_i J K' hJ hK
    refine wp_region_sched (by kernel_rfl) [5, 13, 14, 15, 16, 17, 18] (by kernel_rfl) (N3 W2 (.slice (some ⟨b, off, none⟩) (rs.length + 1) c) (.slice adt rs.length (c - 1)) used (numL rs used)) ?_ ?_ ?_
    · exact ⟨(Below.refl _ _).drew, (fun h => by cases h), (fun h => by cases h), (fun h => by cases h), (fun h => by cases h), (fun h => by cases h), (fun h => by cases h), (fun h => by cases h), (fun h => by cases h)⟩
    · intro i o ho d y wx hdi hdep hS
      obtain ⟨k2, k3⟩ := KS.out wx hS.hb
      match i, ho with
      | 0, ho =>
        obtain rfl := Option.some.inj ho
        refine rstep_value rfl (v := .slice (some ⟨b, off, none⟩) (rs.length + 1) c) (w' := wx) ?_ ?_
        · simp only [hole, List.foldl_cons, List.foldl_nil, List.setIfInBounds_toArray, List.set_cons_zero, List.set_cons_succ]
          go_simp
        · exact ⟨hS.hb, fun _ => rfl, hS.h14, hS.h15, hS.h16, hS.h17, hS.h18, hS.h7, hS.h5⟩
      | 1, ho =>
        obtain rfl := Option.some.inj ho
        have e13 := hS.h13 (hdep ⟨0, .data⟩ (by simp) rfl)
        have hn1 : (1 : Int) ≤ (rs.length : Int) + 1 := by omega
        refine rstep_value rfl (v := .slice adt rs.length (c - 1)) (w' := wx) ?_ ?_
        · simp only [hole, List.foldl_cons, List.foldl_nil, List.setIfInBounds_toArray, List.set_cons_zero, List.set_cons_succ]
          go_simp
        · exact ⟨hS.hb, hS.h13, fun _ => rfl, hS.h15, hS.h16, hS.h17, hS.h18, hS.h7, hS.h5⟩
      | 2, ho =>
        obtain rfl := Option.some.inj ho
        refine rstep_value rfl (v := .int .i64 used) (w' := wx) ?_ ?_
        · simp only [hole, List.foldl_cons, List.foldl_nil, List.setIfInBounds_toArray, List.set_cons_zero, List.set_cons_succ]
          go_simp
        · exact ⟨hS.hb, hS.h13, hS.h14, fun _ => rfl, hS.h16, hS.h17, hS.h18, hS.h7, hS.h5⟩
      | 3, ho =>
        obtain rfl := Option.some.inj ho
        have e14 := hS.h14 (hdep ⟨1, .data⟩ (by simp) rfl)
        have e15 := hS.h15 (hdep ⟨2, .data⟩ (by simp) rfl)
        have hsz := hS.hb.size
        refine rstep_call rfl (f := 47) (args := #[.slice adt rs.length (c - 1), .int .i64 used]) (w' := wx) ?_ (IH.out used _ wx hu (KI.out _ hS.hb) (KT.out _ hS.hb)) ?_
        · simp only [hole, List.foldl_cons, List.foldl_nil, List.setIfInBounds_toArray, List.set_cons_zero, List.set_cons_succ]
          go_simp
        · rintro e w'' ⟨vc, rfl, hoc, hbc⟩
          refine ⟨vc, rfl, hS.hb.trans (hbc.mono hsz), hS.h13, hS.h14, hS.h15, fun _ _ => hoc.mono hsz, fun h h' => ?_, fun h => ?_, hS.h7, fun h => ?_⟩
          · obtain ⟨g, h1, h2⟩ := hS.h17 h h'
            exact ⟨g, h1, boxed_below h2 hbc⟩
          · exact (hS.h18 h).below hbc
          · obtain ⟨B5, h1, h2, vo, h3, h4⟩ := hS.h5 h
            exact ⟨B5, h1, h2, vo, boxed_below h3 hbc, h4⟩
      | 4, ho =>
        obtain rfl := Option.some.inj ho
        refine rstep_value rfl (v := .slice (some ⟨wx.heap.size, 0, none⟩) 1 1) (w' := wx.alloc (.cells #[.int .i64 0] 3)) ?_ ?_
        · simp only [hole, List.foldl_cons, List.foldl_nil, List.setIfInBounds_toArray, List.set_cons_zero, List.set_cons_succ]
          go_simp
        · refine ⟨below_alloc hS.hb _, hS.h13, hS.h14, hS.h15, fun h h' => (hS.h16 h h').alloc _, fun _ _ => ⟨_, rfl, Boxed.new _ _ _⟩, fun h => (hS.h18 h).alloc _, hS.h7, fun h => ?_⟩
          obtain ⟨B5, h1, h2, vo, h3, h4⟩ := hS.h5 h
          exact ⟨B5, h1, h2, vo, h3.alloc _, h4⟩
      | 5, ho =>
        obtain rfl := Option.some.inj ho
        have ho16 := hS.h16 (hdep ⟨3, .data⟩ (by simp) rfl) hdi
        obtain ⟨g, e17, hg⟩ := hS.h17 (hdep ⟨4, .data⟩ (by simp) rfl) hdi
        obtain ⟨v', w', hrun, r1, r2, r3⟩ := run_app1 (P := Tryd.prog) (t := 22) (ty := 22) Tryd.underlying22 info3 ho16 (ad := ⟨g, 0, none⟩) (c := 1) hg.cell (by rw [toI_length, numL_length]; omega) hS.hb.size
        refine rstep_value rfl (v := v') (w' := w') ?_ ?_
        · simp only [hole, List.foldl_cons, List.foldl_nil, List.setIfInBounds_toArray, List.set_cons_zero, List.set_cons_succ]
          simp [execOp, resolve, invoke, builtin, Act.eval, e17, Result.andThen]
          rw [hrun]
        · refine ⟨hS.hb.trans r3, hS.h13, hS.h14, hS.h15, fun _ h => (by cases h), fun _ h => (by cases h), (fun _ => by rw [toI_append]; exact r1), fun h => ⟨rfl, (hS.h7 h).2⟩, fun h => ?_⟩
          obtain ⟨B5, h1, h2, vo, h3, h4⟩ := hS.h5 h
          exact ⟨B5, h1, h2, vo, boxed_app h3 ho16 (by decide) r2, fun h => by have := (hS.h7 h).1; rw [hdi] at this; cases this⟩
      | 6, ho =>
        obtain rfl := Option.some.inj ho
        refine rstep_value rfl (v := .pointer (some ⟨wx.heap.size, 0, none⟩)) (w' := wx.alloc (.cells #[.slice none 0 0] 22)) ?_ ?_
        · simp only [hole, List.foldl_cons, List.foldl_nil, List.setIfInBounds_toArray, List.set_cons_zero, List.set_cons_succ]
          go_simp
        · refine ⟨below_alloc hS.hb _, hS.h13, hS.h14, hS.h15, fun h h' => (hS.h16 h h').alloc _, fun h h' => ?_, fun h => (hS.h18 h).alloc _, fun h => ⟨(hS.h7 h).1, rfl⟩, fun _ => ⟨_, rfl, hS.hb.size, _, Boxed.new _ _ _, fun h => ?_⟩⟩
          · obtain ⟨g, h1, h2⟩ := hS.h17 h h'
            exact ⟨g, h1, h2.alloc _⟩
          · have := (hS.h7 h).2; rw [hdi] at this; cases this
      | 7, ho =>
        obtain rfl := Option.some.inj ho
        obtain ⟨B5, e5, h2, vo, h3, h4⟩ := hS.h5 (hdep ⟨6, .data⟩ (by simp) rfl)
        have h18 := hS.h18 (hdep ⟨5, .data⟩ (by simp) rfl)
        have c5 := h3.cell
        have f5 := h3.frozen
        have d5 : d 5 = true := hdep ⟨5, .data⟩ (by simp) rfl
        obtain ⟨a18, c18, e18⟩ := h18.form
        refine rstep_skip rfl (w' := wx.setCell ⟨B5, 0, none⟩ (y 18)) ?_ ?_
        · simp only [hole, List.foldl_cons, List.foldl_nil, List.setIfInBounds_toArray, List.set_cons_zero, List.set_cons_succ]
          go_simp
        · refine ⟨hS.hb.setCell (by exact h2) _, hS.h13, hS.h14, hS.h15, (fun _ h => by rw [show d 5 = false from h] at d5; cases d5), (fun _ h => by rw [show d 5 = false from h] at d5; cases d5), fun _ => own_setBox h18 h3 (by decide) _, fun _ => ⟨d5, hdep ⟨6, .data⟩ (by simp) rfl⟩, fun _ => ⟨B5, e5, h2, _, Boxed.set _ h3, fun _ => rfl⟩⟩
    · intro d y wx hd hS
      obtain ⟨B5, e5, h2, vo, h3, h4⟩ := hS.h5 (hd 6 (by simp))
      have h18 := hS.h18 (hd 5 (by simp))
      have h4' := h4 (hd 7 (by simp))
      exact hK _ _ (Met.intro (hJ _ _ ⟨y 5, y 13, y 14, y 15, y 16, y 17, y 18, ⟨B5, vo, e5, h3, h2, by rw [h4']; exact h18, hS.hb⟩, by simp only [hole, List.foldl_cons, List.foldl_nil, List.setIfInBounds_toArray, List.set_cons_zero, List.set_cons_succ]⟩))
  case rest =>
    obtain ⟨B5, vo, rfl, hx5, hB5, hoo, hb3⟩ := hcut
    have k2 := (KS.out wc hb3).1
    have k3 := (KS.out wc hb3).2
    have cr : wc.cell? ⟨b, off, none⟩ = some (.int .i64 (r : Int)) := by
      have := (hb2.trans (hb3.mono hb2.size)).cell (p := ⟨b, off, none⟩) hbl
      rw [this]; simpa using hc0
    have hw : bits BinOp.andNot IntKind.i64 (r : Int) (used : Int) = ((diffS r used : Nat) : Int) := i64_andNot r used (by omega) (by omega)
    have hd64 : diffS r used < 64 := diffS_lt hr hu
    have hn1 : (0 : Int) < (rs.length : Int) + 1 := by omega
    go_upto_region 4 with (fail)
    go_still_tail 5, (by kernel_rfl)
    go_wp2_with (go_at_call 56; refine (columns_any _ _).mono ?_; rintro e w4 ⟨rfl, rfl⟩)
    rename_i Kq hKq
    obtain ⟨w4, hw4⟩ : ∃ w4, (wc.alloc (Obj.cells #[Value.int IntKind.i64 ↑(diffS r used)] 3)).drew = w4 := ⟨_, rfl⟩
    rw [hw4]
    have hs4 : w4.heap.size = wc.heap.size + 1 := by rw [← hw4]; simp
    have hbx4 : BoxN w4 wc.heap.size (diffS r used) := by rw [← hw4]; exact Boxed.new wc 3 _
    have hb34 : Below W2.heap.size W2 w4 := by rw [← hw4]; exact (below_alloc hb3 _).drew
    have hx54 : Boxed w4 B5 22 vo := by rw [← hw4]; exact Boxed.alloc (W := wc) hx5 _
    have ho4 : OwnI 3 W2.heap.size w4 vo (toI (numL rs used ++ [0])) := by rw [← hw4]; exact (hoo.alloc _).drew
    have hvo : ∀ k, vo.ownBlock = some k → k < wc.heap.size := fun k hk => (hoo.lt k hk).2
    have hB5w : B5 < wc.heap.size := hx5.lt
    have hsz3 := hb3.size
    clear hw4
    obtain ⟨gv, capv, rfl⟩ := ho4.row (k := rs.length + 1) (by simp [numL_length])
    have hgv : gv < wc.heap.size := hvo gv rfl
    refine wp_cols1 wc.heap.size (diffS r used) rfl hbx4 (by omega) (by simp)
      (fun s W => ∃ cur, Boxed W B5 22 (.slice (some ⟨gv, 0, none⟩) (rs.length + 1 + 1) capv) ∧ OwnI 3 W2.heap.size W (.slice (some ⟨gv, 0, none⟩) (rs.length + 1 + 1) capv) (toI cur) ∧ s < 64 ∧ cur.length = rs.length + 2 ∧ (elems s).foldl (fun out j => addSh out (numL rs (used ||| 2 ^ j))) cur = numL (r :: rs) used ∧ Below W2.heap.size W2 W)
      (fun _ _ => False) (fun s W h => by obtain ⟨_, _, _, _, _, _, h⟩ := h; exact KT.out W h) ?_ (fun _ _ _ h _ => h) ⟨_, hx54, ho4, hd64, by simp [numL_length], rfl, hb34⟩ ?_ ?_ (fun _ _ _ _ h _ => h.elim)
    · rintro s W W' ⟨cur, h1, h2, hs6, hcl, h3, h4⟩ hx
      exact ⟨cur, boxed_ext h1 hx (by omega), own_ext h2 hx (fun k hk => by have := hvo k hk; omega), hs6, hcl, h3, below_ext h4 (Nat.le_refl _) hx (by omega) (by omega)⟩
    · rintro l s W hs hpos hl ⟨cur, h1, h2, hs6, hcl, h3, h4⟩ hbW
      simp only [List.setIfInBounds_toArray, List.set_cons_zero, List.set_cons_succ]
      have k2 := (KS.out W h4).1
      have k3 := (KS.out W h4).2
      have htz := tz_lt6 s hs6 hpos
      have hp := pow_in (tz s) (by omega)
      have hor := or_w hu htz
      have H3 := Lib.hid h3; clear h3
      have H2 := Lib.hid h2; clear h2
      have mixed : Tryd.prog.follows .mixedOrders = true := by kernel_rfl
      have IH2 := Lib.hid (IH.out (used ||| 2 ^ tz s))
      gi_wp2
      rename_i Kx hKx
      have hn2 : (1 : Int) ≤ (rs.length : Int) + 1 := by omega
      refine wpIn_region_sched mixed [26, 27, 28, 29, 30, 31, 32, 33, 34] (by kernel_rfl) (N6 W (.slice (some ⟨b, off, none⟩) (rs.length + 1) c) (.slice adt rs.length (c - 1)) used (tz s) (numL rs (used ||| 2 ^ tz s))) ?_ ?_ ?_
      · exact ⟨(Below.refl _ _).drew, (fun h => by cases h), (fun h => by cases h), (fun h => by cases h), (fun h => by cases h), (fun h => by cases h), (fun h => by cases h), (fun h => by cases h), (fun h => by cases h), (fun h => by cases h)⟩
      · intro i o ho d y wx hdi hdep hS
        have hbx := h4.trans (hS.hb.mono h4.size)
        obtain ⟨k2, k3⟩ := KS.out wx hbx
        match i, ho with
        | 0, ho =>
          obtain rfl := Option.some.inj ho
          refine rstepIn_value (fun _ => trivial) (by simp) rfl (v := .slice (some ⟨b, off, none⟩) (rs.length + 1) c) (w' := wx) ?_ ?_
          · simp only [hole, List.foldl_cons, List.foldl_nil, List.setIfInBounds_toArray, List.set_cons_zero, List.set_cons_succ]
            go_simp
          · exact ⟨hS.hb, fun _ => rfl, hS.h27, hS.h28, hS.h29, hS.h30, hS.h31, hS.h32, hS.h33, hS.h34⟩
        | 1, ho =>
          obtain rfl := Option.some.inj ho
          have e13 := hS.h26 (hdep ⟨0, .data⟩ (by simp) rfl)
          refine rstepIn_value (fun _ => trivial) (by simp) rfl (v := .slice adt rs.length (c - 1)) (w' := wx) ?_ ?_
          · simp only [hole, List.foldl_cons, List.foldl_nil, List.setIfInBounds_toArray, List.set_cons_zero, List.set_cons_succ]
            go_simp
          · exact ⟨hS.hb, hS.h26, fun _ => rfl, hS.h28, hS.h29, hS.h30, hS.h31, hS.h32, hS.h33, hS.h34⟩
        | 2, ho =>
          obtain rfl := Option.some.inj ho
          refine rstepIn_value (fun _ => trivial) (by simp) rfl (v := .int .i64 (used : Int)) (w' := wx) ?_ ?_
          · simp only [hole, List.foldl_cons, List.foldl_nil, List.setIfInBounds_toArray, List.set_cons_zero, List.set_cons_succ]
            go_simp
          · exact ⟨hS.hb, hS.h26, hS.h27, fun _ => rfl, hS.h29, hS.h30, hS.h31, hS.h32, hS.h33, hS.h34⟩
        | 3, ho =>
          obtain rfl := Option.some.inj ho
          refine rstepIn_value (fun _ => trivial) (by simp) rfl (v := .int .i64 (tz s : Int)) (w' := wx) ?_ ?_
          · simp only [hole, List.foldl_cons, List.foldl_nil, List.setIfInBounds_toArray, List.set_cons_zero, List.set_cons_succ]
            go_simp
          · exact ⟨hS.hb, hS.h26, hS.h27, hS.h28, fun _ => rfl, hS.h30, hS.h31, hS.h32, hS.h33, hS.h34⟩
        | 4, ho =>
          obtain rfl := Option.some.inj ho
          have e29 := hS.h29 (hdep ⟨3, .data⟩ (by simp) rfl)
          refine rstepIn_value (fun _ => trivial) (by simp) rfl (v := .int .i64 ((2 : Int) ^ tz s)) (w' := wx) ?_ ?_
          · simp only [hole, List.foldl_cons, List.foldl_nil, List.setIfInBounds_toArray, List.set_cons_zero, List.set_cons_succ]
            go_simp
          · exact ⟨hS.hb, hS.h26, hS.h27, hS.h28, hS.h29, fun _ => rfl, hS.h31, hS.h32, hS.h33, hS.h34⟩
        | 5, ho =>
          obtain rfl := Option.some.inj ho
          have e28 := hS.h28 (hdep ⟨2, .data⟩ (by simp) rfl)
          have e30 := hS.h30 (hdep ⟨4, .data⟩ (by simp) rfl)
          refine rstepIn_value (fun _ => trivial) (by simp) rfl (v := .int .i64 ((used ||| 2 ^ tz s : Nat) : Int)) (w' := wx) ?_ ?_
          · simp only [hole, List.foldl_cons, List.foldl_nil, List.setIfInBounds_toArray, List.set_cons_zero, List.set_cons_succ]
            go_simp
          · exact ⟨hS.hb, hS.h26, hS.h27, hS.h28, hS.h29, hS.h30, fun _ => rfl, hS.h32, hS.h33, hS.h34⟩
        | 6, ho =>
          obtain rfl := Option.some.inj ho
          have e27 := hS.h27 (hdep ⟨1, .data⟩ (by simp) rfl)
          have e31 := hS.h31 (hdep ⟨5, .data⟩ (by simp) rfl)
          have hsz := hS.hb.size
          refine rstepIn_call (fun _ => trivial) (fun _ => by decide) (by simp) rfl (f := 47) (args := #[.slice adt rs.length (c - 1), .int .i64 ((used ||| 2 ^ tz s : Nat) : Int)]) (w' := wx) ?_ (CallsIn.inRound l (callsIn_wide.2 (IH2.out _ wx (or_lt hu htz) (KI.out _ hbx) (KT.out _ hbx)))) ?_
          · simp only [hole, List.foldl_cons, List.foldl_nil, List.setIfInBounds_toArray, List.set_cons_zero, List.set_cons_succ]
            go_simp
          · rintro e w'' ⟨vc, rfl, hoc, hbc⟩
            exact ⟨vc, rfl, hS.hb.trans (hbc.mono hsz), hS.h26, hS.h27, hS.h28, hS.h29, hS.h30, hS.h31, fun _ => hoc.mono hsz, hS.h33, hS.h34⟩
        | 7, ho =>
          obtain rfl := Option.some.inj ho
          obtain ⟨a32, c32, e32⟩ := (hS.h32 (hdep ⟨6, .data⟩ (by simp) rfl)).form
          rw [toI_length] at e32
          refine rstepIn_value (fun _ => trivial) (by simp) rfl (v := .int .i64 ((numL rs (used ||| 2 ^ tz s)).length : Int)) (w' := wx) ?_ ?_
          · simp only [hole, List.foldl_cons, List.foldl_nil, List.setIfInBounds_toArray, List.set_cons_zero, List.set_cons_succ]
            go_simp
          · exact ⟨hS.hb, hS.h26, hS.h27, hS.h28, hS.h29, hS.h30, hS.h31, hS.h32, fun _ => rfl, hS.h34⟩
        | 8, ho =>
          obtain rfl := Option.some.inj ho
          refine rstepIn_value (fun _ => trivial) (by simp) rfl (v := .int .i64 0) (w' := wx) ?_ ?_
          · simp only [hole, List.foldl_cons, List.foldl_nil, List.setIfInBounds_toArray, List.set_cons_zero, List.set_cons_succ]
            go_simp
          · exact ⟨hS.hb, hS.h26, hS.h27, hS.h28, hS.h29, hS.h30, hS.h31, hS.h32, hS.h33, fun _ => rfl⟩
      · intro d y W1 hd hS
        obtain ⟨hb1, e26, e27, e28, e29, e30, e31, ho1, e33, e34⟩ := hS
        replace e26 := e26 (hd 0 (by simp))
        replace e27 := e27 (hd 1 (by simp))
        replace e28 := e28 (hd 2 (by simp))
        replace e29 := e29 (hd 3 (by simp))
        replace e30 := e30 (hd 4 (by simp))
        replace e31 := e31 (hd 5 (by simp))
        replace ho1 := ho1 (hd 6 (by simp))
        replace e33 := e33 (hd 7 (by simp))
        replace e34 := e34 (hd 8 (by simp))
        obtain ⟨g1, cap1, e32⟩ := ho1.row (k := rs.length) (numL_length _ _)
        rw [e32] at ho1
        rw [numL_length] at e33
        refine hKx _ _ ?_
        clear hKx hd Kx
        simp only [hole, List.foldl_cons, List.foldl_nil, List.setIfInBounds_toArray, List.set_cons_zero, List.set_cons_succ, e26, e27, e28, e29, e30, e31, e32, e33, e34]
        clear e26 e27 e28 e29 e30 e31 e32 e33 e34 d y
        obtain ⟨L, hL⟩ : ∃ L, numL rs (used ||| 2 ^ tz s) = L := ⟨_, rfl⟩
        have hLl : L.length = rs.length + 1 := by rw [← hL, numL_length]
        have hLs : ∀ i, L.getD i 0 ≤ 531441 := by intro i; rw [← hL]; exact numL_lt _ _ _ (by omega)
        have hcs : ∀ i, (addSh cur L).getD i 0 ≤ 531441 := by
          intro i
          refine Nat.le_trans ?_ (numL_lt (r :: rs) used i (by simp; omega))
          rw [← H3.out, elems_step s hs hpos, List.foldl_cons, hL]
          exact le_foldl_addSh _ _ _ _
        have hxx := h1
        have hs1 := hb1.size
        have hgW : gv < W.heap.size := by have := (H2.out).blockEq.2; exact this
        have hg1 : W.heap.size ≤ g1 := ho1.blockEq.1
        have hB5W := h1.lt
        have hBW := hbW.lt
        have hKF : KeepsFrom w4.heap.size W W1 := ⟨hs1, fun k o _ hk _ => (hb1.block k (Array.getElem?_eq_some_iff.1 hk).1).trans hk⟩
        have hx1 : Boxed W1 B5 22 (Value.slice (some ⟨gv, 0, none⟩) (rs.length + 1 + 1) capv) := boxed_below h1 hb1
        have hbW1 : BoxN W1 wc.heap.size s := (hb1.block _ hBW).trans hbW
        have hoW1 := Lib.hid (H2.out.below hb1)
        have hB1 : Below W2.heap.size W2 W1 := h4.trans (hb1.mono h4.size)
        have hne5 : B5 ≠ gv := fun e => by have := h1.not_row (by decide) H2.out; simp [Value.ownBlock] at this; exact this e
        rw [hL] at ho1
        clear hb1 KI IH IH2 HT HVT KS
        gi_wp2
        gi_loopw [34] (fun p wr => ∃ i : Nat, p = .int .i64 i ∧ i ≤ rs.length + 1 ∧ Boxed wr B5 22 (Value.slice (some ⟨gv, 0, none⟩) (rs.length + 1 + 1) capv) ∧
            OwnI 3 W2.heap.size wr (Value.slice (some ⟨gv, 0, none⟩) (rs.length + 1 + 1) capv) (toI (addSh cur (L.take i))) ∧
            OwnI 3 W.heap.size wr (Value.slice (some ⟨g1, 0, none⟩) (rs.length + 1) cap1) (toI L) ∧ BoxN wr wc.heap.size s ∧ KeepsFrom w4.heap.size W wr ∧ Below W2.heap.size W2 wr)
          (fun p _ => rs.length + 1 - (intOf p).toNat)
        case atStart => exact ⟨0, rfl, by omega, hx1, by simpa [addSh_nil] using hoW1.out, ho1, hbW1, hKF, hB1⟩
        case round =>
          obtain ⟨i, rfl, hi, hxr, hor, ho1r, hbr, hkr, hBr⟩ := hrel
          clear hx1 hoW1 ho1 hbW1 hKF hB1
          by_cases hlt : i < rs.length + 1
          · have c5 := hxr.cell
            have cL := ho1r.cellN i (by omega)
            have cG := hor.cellN (i + 1) (by rw [addSh_length, hcl]; omega)
            have fG := hor.frozenN (i + 1)
            obtain ⟨x, hx⟩ : ∃ x, L[i]'(by omega) = x := ⟨_, rfl⟩
            obtain ⟨z, hz⟩ : ∃ z, (addSh cur (L.take i))[i + 1]'(by rw [addSh_length, hcl]; omega) = z := ⟨_, rfl⟩
            rw [hx] at cL
            rw [hz] at cG
            have hxle : x ≤ 531441 := by have := hLs i; rwa [getD_at (by omega), hx] at this
            have hzle : z ≤ 531441 := by
              have := Nat.le_trans (addSh_take_le cur L i (i + 1)) (hcs (i + 1))
              rwa [getD_at (by rw [addSh_length, hcl]; omega), hz] at this
            have HO := Lib.hid hor
            have HO1 := Lib.hid ho1r
            have HX := Lib.hid hxr
            clear hor ho1r hxr
            have w1 : IntKind.i64.wrap ((i : Int) + 1) = (i : Int) + 1 := IntWalk.i64_in _ (by omega)
            have w2 : IntKind.i64.wrap ((z : Int) + (x : Int)) = (z : Int) + (x : Int) := IntWalk.i64_in _ (by omega)
            gi_wp2
            go_roundw
            case rel =>
              refine ⟨i + 1, by go_num, by omega, boxed_at HX.out hne5 _ _, ?_, ownI_at HO1.out (by simp [Value.ownBlock]; omega) _ _, boxN_at hbr (by omega) _ _, hkr.trans (KeepsFrom.of_grownBy (IsBufferSet _ _ _ _) (fun j hj => by cases hj; omega)), hBr.setCell (by exact H2.out.blockEq.1) _⟩
              rw [addSh_take_succ cur L i (by omega) (by omega), getD_at (by rw [addSh_length, hcl]; omega), hz, hx]
              have := HO.out.storedN (i + 1) (z + x)
              push_cast at this
              exact this
            case measure => simp [intOf]; omega
          · obtain rfl : i = rs.length + 1 := by omega
            gi_wp2
            refine ⟨hkr, hbr, addSh cur L, hxr, ?_, ?_, by rw [addSh_length, hcl], ?_, hBr⟩
            · have := hor; rwa [List.take_of_length_le (by omega)] at this
            · have := nextS_lt s hs hpos; omega
            · rw [← H3.out, elems_step s hs hpos, List.foldl_cons, hL]
    · rintro D W hD ⟨cur, h1, h2, hs6, hcl, h3, h4⟩ hK
      have c5 := h1.cell
      have H2 := Lib.hid h2
      clear h2
      refine hKq _ _ ?_
      clear hKq Kq
      go_wp2
      refine leaves_one hK (results_tmp rfl _ _ _) ?_
      refine ⟨_, rfl, ?_, ?_⟩
      · have := own_putObj (l := D) H2.out (.deferred none) hK rfl
        rw [← h3]
        exact this.mono (by omega)
      · refine (hb2.trans (h4.mono hb2.size)).trans ?_
        exact (Below.refl _ _).grown (grownBy_putObj' W D _) (by have := (hb2.trans (h4.mono hb2.size)).size; omega) (fun k hk => by cases hk; omega)

/-- **b.numbers(used)**. -/
theorem numbers_any : ∀ (bs : List Nat) (used : Nat) (v : Value) (w : World), (∀ x ∈ bs, x < 64) → bs.length ≤ 6 → used < 64 → Ints w v (toI bs) → Tab w → Calls Tryd.prog 47 #[v, .int .i64 used] w (NumPost bs used w)
  | [], used, v, w, _, _, _, hv, _ => numbers_nil v used w hv
  | r :: rs, used, v, w, hb, hl, hu, hv, ht =>
    numbers_cons v r rs used w hv (hb r List.mem_cons_self) hu (by simp at hl; omega) ht
      (fun used v w hu hv ht => numbers_any rs used v w (fun x hx => hb x (List.mem_cons_of_mem _ hx)) (by simp at hl; omega) hu hv ht)
end Go.Proofs.YtlpnicfbgdfbnaaDoor
