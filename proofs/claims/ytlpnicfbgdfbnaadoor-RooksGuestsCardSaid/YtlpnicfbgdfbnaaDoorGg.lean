/- Guests$1, Guests. -/
import Derived.Test.YtlpnicfbgdfbnaaDoorGr
namespace Go.Proofs.YtlpnicfbgdfbnaaDoor
open Go.RowKit Go.Shelf
attribute [local go_sem] Oper.semAt_some run_store_closure

structure N55 (W4 : World) (n i used A S1 S2 m F : Nat) (d : Nat → Bool) (y : Nat → Value) (wx : World) : Prop where
  w : d 14 = false → wx = W4
  w14 : d 14 = true → wx = W4.alloc (.cells #[.int .i64 (F : Nat)] 3)
  h13 : d 0 = true → y 13 = .int .i64 (n : Nat)
  h14 : d 1 = true → y 14 = .int .i64 ((2 : Int) ^ n)
  c1_0 : d 1 = true → d 0 = true
  h15 : d 2 = true → y 15 = .int .i64 (A : Nat)
  c2_1 : d 2 = true → d 1 = true
  h16 : d 3 = true → y 16 = .int .i64 (used : Nat)
  h17 : d 4 = true → y 17 = .int .i64 (S1 : Nat)
  c4_2 : d 4 = true → d 2 = true
  c4_3 : d 4 = true → d 3 = true
  h18 : d 5 = true → y 18 = .int .i64 (i : Nat)
  h19 : d 6 = true → y 19 = .int .i64 ((2 : Int) ^ i)
  c6_5 : d 6 = true → d 5 = true
  h20 : d 7 = true → y 20 = .int .i64 (S2 : Nat)
  c7_4 : d 7 = true → d 4 = true
  c7_6 : d 7 = true → d 6 = true
  h21 : d 8 = true → y 21 = .int .i64 (i : Nat)
  h22 : d 9 = true → y 22 = .int .i64 ((i : Int) + 1)
  c9_8 : d 9 = true → d 8 = true
  h23 : d 10 = true → y 23 = .int .i64 (n : Nat)
  h24 : d 11 = true → y 24 = .int .i64 (m : Nat)
  c11_9 : d 11 = true → d 9 = true
  c11_10 : d 11 = true → d 10 = true
  h25 : d 12 = true → y 25 = .int .i64 ((2 : Int) ^ m)
  c12_11 : d 12 = true → d 11 = true
  h26 : d 13 = true → y 26 = .int .i64 (F : Nat)
  c13_7 : d 13 = true → d 7 = true
  c13_12 : d 13 = true → d 12 = true
  h27 : d 14 = true → y 27 = .func (.func 72) #[] #[.pointer (some ⟨W4.heap.size, 0, none⟩)]
  c14_13 : d 14 = true → d 13 = true
theorem N55.all {W4 : World} {n i used A S1 S2 m F : Nat} {d : Nat → Bool} {y : Nat → Value} {wx : World} (h : N55 W4 n i used A S1 S2 m F d y wx) (h14 : d 14 = true) : d 0 = true ∧ d 3 = true ∧ d 5 = true ∧ d 8 = true ∧ d 10 = true :=
  have h13 := h.c14_13 h14
  have h7 := h.c13_7 h13
  have h12 := h.c13_12 h13
  have h11 := h.c12_11 h12
  have h4 := h.c7_4 h7
  ⟨h.c1_0 (h.c2_1 (h.c4_2 h4)), h.c4_3 h4, h.c6_5 (h.c7_6 h7), h.c9_8 (h.c11_9 h11), h.c11_10 h11⟩

structure N55b (bg bn bo : Nat) (W3 : World) (i used j : Nat) (R : World → Prop) (d : Nat → Bool) (y : Nat → Value) (wx : World) : Prop where
  w : d 7 = false → wx = W3
  w7 : d 7 = true → R wx
  h29 : d 0 = true → y 29 = .func (.func 55) #[] #[.pointer (some ⟨bn, 0, none⟩), .pointer (some ⟨bo, 0, none⟩), .pointer (some ⟨bg, 0, none⟩)]
  h30 : d 1 = true → y 30 = .int .i64 (i : Nat)
  h31 : d 2 = true → y 31 = .int .i64 ((i + 1 : Nat) : Int)
  c2_1 : d 2 = true → d 1 = true
  h32 : d 3 = true → y 32 = .int .i64 (used : Nat)
  h33 : d 4 = true → y 33 = .int .i64 (j : Nat)
  h34 : d 5 = true → y 34 = .int .i64 ((2 : Int) ^ j)
  c5_4 : d 5 = true → d 4 = true
  h35 : d 6 = true → y 35 = .int .i64 ((used ||| 2 ^ j : Nat) : Int)
  c6_3 : d 6 = true → d 3 = true
  c6_5 : d 6 = true → d 5 = true
  h36 : d 7 = true → y 36 = .tuple #[]
  c7_0 : d 7 = true → d 0 = true
  c7_2 : d 7 = true → d 2 = true
  c7_6 : d 7 = true → d 6 = true
theorem N55b.all {bg bn bo : Nat} {W3 : World} {i used j : Nat} {R : World → Prop} {d : Nat → Bool} {y : Nat → Value} {wx : World} (h : N55b bg bn bo W3 i used j R d y wx) (h7 : d 7 = true) : d 0 = true ∧ d 1 = true ∧ d 3 = true :=
  ⟨h.c7_0 h7, h.c2_1 (h.c7_2 h7), h.c6_3 (h.c7_6 h7)⟩

/-- Where a run of the guests stands. -/
structure GS (bn bo bg n cnt : Nat) (W : World) : Prop where
  xn : Boxed W bn 3 (.int .i64 (n : Nat))
  xo : Boxed W bo 3 (.int .i64 (cnt : Nat))
  xg : Boxed W bg 55 (.func (.func 55) #[] #[.pointer (some ⟨bn, 0, none⟩), .pointer (some ⟨bo, 0, none⟩), .pointer (some ⟨bg, 0, none⟩)])
  tab : Tab W
  lo : bo ≠ 1
  ne : bn ≠ bo
theorem GS.neg {bn bo bg n cnt : Nat} {W : World} (h : GS bn bo bg n cnt W) : bg ≠ bo := Boxed.ne h.xg h.xo (by decide)
theorem Tab.sm {S : Nat → Prop} {W W' : World} (h : Tab W) (hs : Sm S W W') (h1 : S 1) : Tab W' := fun i hi => (World.cell?_of_block (w := W) (hs.block 1 h1 h.lt)).trans (h i hi)
theorem GS.sm {bn bo bg n cnt : Nat} {S : Nat → Prop} {W W' : World} (h : GS bn bo bg n cnt W) (hs : Sm S W W') (h1 : S 1) (hn : S bn) (ho : S bo) (hg : S bg) : GS bn bo bg n cnt W' :=
  ⟨hs.boxed h.xn hn, hs.boxed h.xo ho, hs.boxed h.xg hg, h.tab.sm hs h1, h.lo, h.ne⟩
theorem GS.step {bn bo bg n cnt c : Nat} {W W' : World} (h : GS bn bo bg n cnt W) (hs : Sm (fun k => k ≠ bo) W W') (hx : Boxed W' bo 3 (.int .i64 (c : Nat))) : GS bn bo bg n c W' :=
  ⟨hs.boxed h.xn h.ne, hx, hs.boxed h.xg h.neg, h.tab.sm hs (Ne.symm h.lo), h.lo, h.ne⟩

def GPost (bo cnt g : Nat) (W : World) (e : Ending) (W' : World) : Prop :=
  e = .returned (.tuple #[]) ∧ Boxed W' bo 3 (.int .i64 ((cnt + g : Nat) : Int)) ∧ Sm (fun k => k ≠ bo) W W'

section
variable (bn bo bg n : Nat)

set_option maxRecDepth 20000 in
set_option maxHeartbeats 4000000 in
theorem grow_leaf (used cnt : Nat) (W : World) (h : GS bn bo bg n cnt W) (hc : cnt + 1 ≤ 1099511627776) :
    Calls Tryd.prog 55 #[.int .i64 (n : Nat), .int .i64 (used : Nat), .pointer (some ⟨bn, 0, none⟩), .pointer (some ⟨bo, 0, none⟩), .pointer (some ⟨bg, 0, none⟩)] W (GPost bo cnt 1 W) := by
  have l1 := h.xn.lt
  have l2 := h.xo.lt
  obtain ⟨W2, hW2⟩ : ∃ W2, (W.alloc (.cells #[.int .i64 (n : Nat)] 3)).alloc (.cells #[.int .i64 (used : Nat)] 3) = W2 := ⟨_, rfl⟩
  have hb2 : Below W.heap.size W W2 := by rw [← hW2]; exact ((Below.refl _ _).alloc (Nat.le_refl _) _).alloc (by simp) _
  have x5 : Boxed W2 W.heap.size 3 (.int .i64 (n : Nat)) := by rw [← hW2]; exact (Boxed.new _ _ _).alloc _
  have xn := boxed_below h.xn hb2
  have xo := boxed_below h.xo hb2
  have c5 := x5.cell
  have c2 := xn.cell
  have c3 := xo.cell
  have f3 := xo.frozen
  have hw : IntKind.i64.wrap ((cnt : Int) + 1) = (cnt : Int) + 1 := IntWalk.i64_in _ (by omega)
  have XO := Lib.hid xo
  have HB := Lib.hid hb2
  clear h x5 xn xo hb2
  refine calls_marks Tryd.func55 rfl ?_
  simp only [Tryd.ntmps55, List.size_toArray, List.length_cons, List.length_nil, Nat.reduceAdd, Nat.reduceSub, Array.replicate_succ, Array.replicate_zero, List.push_toArray, List.append_toArray, List.nil_append, List.cons_append]
  go_wp2
  refine leaves_none (results_none rfl _ _ _) ?_
  refine ⟨rfl, ?_, (Sm.of_below HB.out).trans (Sm.setCell _ _ _ _ (fun k hk => hk))⟩
  have := Boxed.set (.int .i64 ((cnt : Int) + 1)) XO.out
  push_cast
  exact this

set_option maxRecDepth 20000 in
set_option maxHeartbeats 8000000 in
theorem grow_node (d i used cnt : Nat) (W : World) (h : GS bn bo bg n cnt W) (hn2 : 2 ≤ n) (hn : n ≤ 8) (hi : i < n) (hu : used < 256) (hc : cnt + gst n (d + 1) i used ≤ 1099511627776)
    (ih : ∀ (used c : Nat) (W : World), GS bn bo bg n c W → used < 256 → c + gst n d (i + 1) used ≤ 1099511627776 →
      Calls Tryd.prog 55 #[.int .i64 ((i + 1 : Nat) : Int), .int .i64 (used : Nat), .pointer (some ⟨bn, 0, none⟩), .pointer (some ⟨bo, 0, none⟩), .pointer (some ⟨bg, 0, none⟩)] W (GPost bo c (gst n d (i + 1) used) W)) :
    Calls Tryd.prog 55 #[.int .i64 (i : Nat), .int .i64 (used : Nat), .pointer (some ⟨bn, 0, none⟩), .pointer (some ⟨bo, 0, none⟩), .pointer (some ⟨bg, 0, none⟩)] W (GPost bo cnt (gst n (d + 1) i used) W) := by
  have l1 := h.xn.lt
  have l2 := h.xo.lt
  have l3 := h.xg.lt
  have l4 := h.tab.lt
  have IH := Lib.hid ih
  have hne : ¬ i = n := by omega
  have hnb : ((i : Int) == (n : Int)) = false := by simp; omega
  have hw1 : IntKind.i64.wrap ((i : Int) + 1) = (i : Int) + 1 := IntWalk.i64_in _ (by omega)
  have hn0 : ¬ n = 0 := by omega
  obtain ⟨m, hm⟩ : ∃ m, (i + 1) % n = m := ⟨_, rfl⟩
  have hmn : m < n := by rw [← hm]; exact Nat.mod_lt _ (by omega)
  have htm := tmod_nat i n
  rw [hm] at htm
  have hwm : IntKind.i64.wrap (m : Int) = (m : Int) := IntWalk.i64_in _ (by omega)
  have hp1 := pow_in9 n (by omega)
  have hp2 := pow_in91 n (by omega)
  have hp3 := pow_in9 i (by omega)
  have hp4 := pow_in9 m (by omega)
  have hF0 : freeG n i used = diffS (diffS (diffS (2 ^ n - 1) used) (2 ^ i)) (2 ^ m) := by unfold freeG; rw [hm]
  have h256 := pow_le8 hn
  have hA1 := all_lt_pow n
  obtain ⟨A, hA⟩ : ∃ A, 2 ^ n - 1 = A := ⟨_, rfl⟩
  rw [hA] at hF0 hA1 hp2
  have hs1 := diffS_lt_pow (b := used) hA1
  have hn1 := i64_andNot A used (by omega) (by omega)
  rw [show A ^^^ (A &&& used) = diffS A used from rfl] at hn1
  obtain ⟨S1, hS1⟩ : ∃ S1, diffS A used = S1 := ⟨_, rfl⟩
  rw [hS1] at hF0 hs1 hn1
  have hs2 := diffS_lt_pow (b := 2 ^ i) hs1
  have hn2' := andNot_w8 (u := S1) (j := i) (by omega) (by omega)
  obtain ⟨S2, hS2⟩ : ∃ S2, diffS S1 (2 ^ i) = S2 := ⟨_, rfl⟩
  rw [hS2] at hF0 hs2 hn2'
  have hs3 := diffS_lt_pow (b := 2 ^ m) hs2
  have hn3 := andNot_w8 (u := S2) (j := m) (by omega) (by omega)
  obtain ⟨F, hF⟩ : ∃ F, diffS S2 (2 ^ m) = F := ⟨_, rfl⟩
  rw [hF] at hF0 hs3 hn3
  have hfin : gst n (d + 1) i used = gsum n d i used F := by rw [gst, hF0]; rfl
  rw [hfin] at hc ⊢
  have hF256 : F < 256 := by omega
  have H := Lib.hid h
  have HC := Lib.hid hc
  clear h hc ih hm hA hS1 hS2 hF hF0 hfin hs1 hs2 hs3 hA1 h256
  obtain ⟨W2, hW2⟩ : ∃ W2, (W.alloc (.cells #[.int .i64 (i : Nat)] 3)).alloc (.cells #[.int .i64 (used : Nat)] 3) = W2 := ⟨_, rfl⟩
  have hb2 : Below W.heap.size W W2 := by rw [← hW2]; exact ((Below.refl _ _).alloc (Nat.le_refl _) _).alloc (by simp) _
  have hsz2 : W2.heap.size = W.heap.size + 2 := by rw [← hW2]; simp
  have x5 : Boxed W2 W.heap.size 3 (.int .i64 (i : Nat)) := by rw [← hW2]; exact (Boxed.new _ _ _).alloc _
  have x6 : Boxed W2 (W.heap.size + 1) 3 (.int .i64 (used : Nat)) := by rw [← hW2]; have := Boxed.new (W.alloc (.cells #[.int .i64 (i : Nat)] 3)) 3 (.int .i64 (used : Nat)); rwa [World.size_alloc] at this
  have g2 := H.out.sm (Sm.of_below (S := fun _ => True) hb2) trivial trivial trivial trivial
  have c5 := x5.cell
  have c2 := g2.xn.cell
  have HB2 := Lib.hid hb2
  have HG2 := Lib.hid g2
  have X5 := Lib.hid x5
  have X6 := Lib.hid x6
  clear hb2 g2 x5 x6
  refine calls_marks Tryd.func55 rfl ?_
  simp only [Tryd.ntmps55, List.size_toArray, List.length_cons, List.length_nil, Nat.reduceAdd, Nat.reduceSub, Array.replicate_succ, Array.replicate_zero, List.push_toArray, List.append_toArray, List.nil_append, List.cons_append]
  go_upto_region 3 with (fail)
  try rw [hW2]
  obtain ⟨W4, hW4⟩ : ∃ W4, W2.drew = W4 := ⟨_, rfl⟩
  have hsz4 : W4.heap.size = W.heap.size + 2 := by rw [← hW4]; exact hsz2
  have x5 : Boxed W4 W.heap.size 3 (.int .i64 (i : Nat)) := by rw [← hW4]; exact X5.out
  have x6 : Boxed W4 (W.heap.size + 1) 3 (.int .i64 (used : Nat)) := by rw [← hW4]; exact X6.out
  have g4 : GS bn bo bg n cnt W4 := by rw [← hW4]; exact HG2.out.sm (Sm.drew (fun _ => True) _) trivial trivial trivial trivial
  have hb4 : Below W.heap.size W W4 := by rw [← hW4]; exact HB2.out.drew
  have H4 := Lib.hid hW4
  clear hW4 hW2 c5 c2 X5 X6 HG2 HB2
  have c5 := x5.cell
  have c6 := x6.cell
  have c2 := g4.xn.cell
  have HB4 := Lib.hid hb4
  have HG4 := Lib.hid g4
  have X5 := Lib.hid x5
  have X6 := Lib.hid x6
  clear hb4 g4 x5 x6
  refine wp_region_sched (by kernel_rfl) [13, 14, 15, 16, 17, 18, 19, 20, 21, 22, 23, 24, 25, 26, 27] (by kernel_rfl) (N55 W4 n i used A S1 S2 m F) ?_ ?_ ?_
  · rw [H4.out]
    refine ⟨fun _ => rfl, ?_, ?_, ?_, ?_, ?_, ?_, ?_, ?_, ?_, ?_, ?_, ?_, ?_, ?_, ?_, ?_, ?_, ?_, ?_, ?_, ?_, ?_, ?_, ?_, ?_, ?_, ?_, ?_, ?_, ?_⟩ <;> exact fun h => by cases h
  · intro i' o ho d y wx hdi hdep hN
    match i', ho with
    | 0, ho =>
      obtain rfl := Option.some.inj ho
      have h14 : d 14 = false := Bool.eq_false_iff.2 fun h => by have := hN.all h; simp [hdi] at this
      obtain rfl := hN.w h14
      refine rstep_value rfl (v := .int .i64 (n : Nat)) (w' := wx) ?_ ?_
      · simp only [hole, List.foldl_cons, List.foldl_nil, List.setIfInBounds_toArray, List.set_cons_zero, List.set_cons_succ]
        go_simp
      · exact ⟨hN.w, hN.w14, (fun _ => rfl), hN.h14, (fun _ => rfl), hN.h15, hN.c2_1, hN.h16, hN.h17, hN.c4_2, hN.c4_3, hN.h18, hN.h19, hN.c6_5, hN.h20, hN.c7_4, hN.c7_6, hN.h21, hN.h22, hN.c9_8, hN.h23, hN.h24, hN.c11_9, hN.c11_10, hN.h25, hN.c12_11, hN.h26, hN.c13_7, hN.c13_12, hN.h27, hN.c14_13⟩
    | 1, ho =>
      obtain rfl := Option.some.inj ho
      have e13 := hN.h13 (hdep ⟨0, .data⟩ (by simp) rfl)
      refine rstep_value rfl (v := .int .i64 ((2 : Int) ^ n)) (w' := wx) ?_ ?_
      · simp only [hole, List.foldl_cons, List.foldl_nil, List.setIfInBounds_toArray, List.set_cons_zero, List.set_cons_succ]
        go_simp
      · exact ⟨hN.w, hN.w14, hN.h13, (fun _ => rfl), (fun _ => hdep ⟨0, .data⟩ (by simp) rfl), hN.h15, (fun _ => rfl), hN.h16, hN.h17, hN.c4_2, hN.c4_3, hN.h18, hN.h19, hN.c6_5, hN.h20, hN.c7_4, hN.c7_6, hN.h21, hN.h22, hN.c9_8, hN.h23, hN.h24, hN.c11_9, hN.c11_10, hN.h25, hN.c12_11, hN.h26, hN.c13_7, hN.c13_12, hN.h27, hN.c14_13⟩
    | 2, ho =>
      obtain rfl := Option.some.inj ho
      have e14 := hN.h14 (hdep ⟨1, .data⟩ (by simp) rfl)
      refine rstep_value rfl (v := .int .i64 (A : Nat)) (w' := wx) ?_ ?_
      · simp only [hole, List.foldl_cons, List.foldl_nil, List.setIfInBounds_toArray, List.set_cons_zero, List.set_cons_succ]
        go_simp
      · exact ⟨hN.w, hN.w14, hN.h13, hN.h14, hN.c1_0, (fun _ => rfl), (fun _ => hdep ⟨1, .data⟩ (by simp) rfl), hN.h16, hN.h17, (fun _ => rfl), hN.c4_3, hN.h18, hN.h19, hN.c6_5, hN.h20, hN.c7_4, hN.c7_6, hN.h21, hN.h22, hN.c9_8, hN.h23, hN.h24, hN.c11_9, hN.c11_10, hN.h25, hN.c12_11, hN.h26, hN.c13_7, hN.c13_12, hN.h27, hN.c14_13⟩
    | 3, ho =>
      obtain rfl := Option.some.inj ho
      have h14 : d 14 = false := Bool.eq_false_iff.2 fun h => by have := hN.all h; simp [hdi] at this
      obtain rfl := hN.w h14
      refine rstep_value rfl (v := .int .i64 (used : Nat)) (w' := wx) ?_ ?_
      · simp only [hole, List.foldl_cons, List.foldl_nil, List.setIfInBounds_toArray, List.set_cons_zero, List.set_cons_succ]
        go_simp
      · exact ⟨hN.w, hN.w14, hN.h13, hN.h14, hN.c1_0, hN.h15, hN.c2_1, (fun _ => rfl), hN.h17, hN.c4_2, (fun _ => rfl), hN.h18, hN.h19, hN.c6_5, hN.h20, hN.c7_4, hN.c7_6, hN.h21, hN.h22, hN.c9_8, hN.h23, hN.h24, hN.c11_9, hN.c11_10, hN.h25, hN.c12_11, hN.h26, hN.c13_7, hN.c13_12, hN.h27, hN.c14_13⟩
    | 4, ho =>
      obtain rfl := Option.some.inj ho
      have e15 := hN.h15 (hdep ⟨2, .data⟩ (by simp) rfl)
      have e16 := hN.h16 (hdep ⟨3, .data⟩ (by simp) rfl)
      refine rstep_value rfl (v := .int .i64 (S1 : Nat)) (w' := wx) ?_ ?_
      · simp only [hole, List.foldl_cons, List.foldl_nil, List.setIfInBounds_toArray, List.set_cons_zero, List.set_cons_succ]
        go_simp
      · exact ⟨hN.w, hN.w14, hN.h13, hN.h14, hN.c1_0, hN.h15, hN.c2_1, hN.h16, (fun _ => rfl), (fun _ => hdep ⟨2, .data⟩ (by simp) rfl), (fun _ => hdep ⟨3, .data⟩ (by simp) rfl), hN.h18, hN.h19, hN.c6_5, hN.h20, (fun _ => rfl), hN.c7_6, hN.h21, hN.h22, hN.c9_8, hN.h23, hN.h24, hN.c11_9, hN.c11_10, hN.h25, hN.c12_11, hN.h26, hN.c13_7, hN.c13_12, hN.h27, hN.c14_13⟩
    | 5, ho =>
      obtain rfl := Option.some.inj ho
      have h14 : d 14 = false := Bool.eq_false_iff.2 fun h => by have := hN.all h; simp [hdi] at this
      obtain rfl := hN.w h14
      refine rstep_value rfl (v := .int .i64 (i : Nat)) (w' := wx) ?_ ?_
      · simp only [hole, List.foldl_cons, List.foldl_nil, List.setIfInBounds_toArray, List.set_cons_zero, List.set_cons_succ]
        go_simp
      · exact ⟨hN.w, hN.w14, hN.h13, hN.h14, hN.c1_0, hN.h15, hN.c2_1, hN.h16, hN.h17, hN.c4_2, hN.c4_3, (fun _ => rfl), hN.h19, (fun _ => rfl), hN.h20, hN.c7_4, hN.c7_6, hN.h21, hN.h22, hN.c9_8, hN.h23, hN.h24, hN.c11_9, hN.c11_10, hN.h25, hN.c12_11, hN.h26, hN.c13_7, hN.c13_12, hN.h27, hN.c14_13⟩
    | 6, ho =>
      obtain rfl := Option.some.inj ho
      have e18 := hN.h18 (hdep ⟨5, .data⟩ (by simp) rfl)
      refine rstep_value rfl (v := .int .i64 ((2 : Int) ^ i)) (w' := wx) ?_ ?_
      · simp only [hole, List.foldl_cons, List.foldl_nil, List.setIfInBounds_toArray, List.set_cons_zero, List.set_cons_succ]
        go_simp
      · exact ⟨hN.w, hN.w14, hN.h13, hN.h14, hN.c1_0, hN.h15, hN.c2_1, hN.h16, hN.h17, hN.c4_2, hN.c4_3, hN.h18, (fun _ => rfl), (fun _ => hdep ⟨5, .data⟩ (by simp) rfl), hN.h20, hN.c7_4, (fun _ => rfl), hN.h21, hN.h22, hN.c9_8, hN.h23, hN.h24, hN.c11_9, hN.c11_10, hN.h25, hN.c12_11, hN.h26, hN.c13_7, hN.c13_12, hN.h27, hN.c14_13⟩
    | 7, ho =>
      obtain rfl := Option.some.inj ho
      have e17 := hN.h17 (hdep ⟨4, .data⟩ (by simp) rfl)
      have e19 := hN.h19 (hdep ⟨6, .data⟩ (by simp) rfl)
      refine rstep_value rfl (v := .int .i64 (S2 : Nat)) (w' := wx) ?_ ?_
      · simp only [hole, List.foldl_cons, List.foldl_nil, List.setIfInBounds_toArray, List.set_cons_zero, List.set_cons_succ]
        go_simp
      · exact ⟨hN.w, hN.w14, hN.h13, hN.h14, hN.c1_0, hN.h15, hN.c2_1, hN.h16, hN.h17, hN.c4_2, hN.c4_3, hN.h18, hN.h19, hN.c6_5, (fun _ => rfl), (fun _ => hdep ⟨4, .data⟩ (by simp) rfl), (fun _ => hdep ⟨6, .data⟩ (by simp) rfl), hN.h21, hN.h22, hN.c9_8, hN.h23, hN.h24, hN.c11_9, hN.c11_10, hN.h25, hN.c12_11, hN.h26, (fun _ => rfl), hN.c13_12, hN.h27, hN.c14_13⟩
    | 8, ho =>
      obtain rfl := Option.some.inj ho
      have h14 : d 14 = false := Bool.eq_false_iff.2 fun h => by have := hN.all h; simp [hdi] at this
      obtain rfl := hN.w h14
      refine rstep_value rfl (v := .int .i64 (i : Nat)) (w' := wx) ?_ ?_
      · simp only [hole, List.foldl_cons, List.foldl_nil, List.setIfInBounds_toArray, List.set_cons_zero, List.set_cons_succ]
        go_simp
      · exact ⟨hN.w, hN.w14, hN.h13, hN.h14, hN.c1_0, hN.h15, hN.c2_1, hN.h16, hN.h17, hN.c4_2, hN.c4_3, hN.h18, hN.h19, hN.c6_5, hN.h20, hN.c7_4, hN.c7_6, (fun _ => rfl), hN.h22, (fun _ => rfl), hN.h23, hN.h24, hN.c11_9, hN.c11_10, hN.h25, hN.c12_11, hN.h26, hN.c13_7, hN.c13_12, hN.h27, hN.c14_13⟩
    | 9, ho =>
      obtain rfl := Option.some.inj ho
      have e21 := hN.h21 (hdep ⟨8, .data⟩ (by simp) rfl)
      refine rstep_value rfl (v := .int .i64 ((i : Int) + 1)) (w' := wx) ?_ ?_
      · simp only [hole, List.foldl_cons, List.foldl_nil, List.setIfInBounds_toArray, List.set_cons_zero, List.set_cons_succ]
        go_simp
      · exact ⟨hN.w, hN.w14, hN.h13, hN.h14, hN.c1_0, hN.h15, hN.c2_1, hN.h16, hN.h17, hN.c4_2, hN.c4_3, hN.h18, hN.h19, hN.c6_5, hN.h20, hN.c7_4, hN.c7_6, hN.h21, (fun _ => rfl), (fun _ => hdep ⟨8, .data⟩ (by simp) rfl), hN.h23, hN.h24, (fun _ => rfl), hN.c11_10, hN.h25, hN.c12_11, hN.h26, hN.c13_7, hN.c13_12, hN.h27, hN.c14_13⟩
    | 10, ho =>
      obtain rfl := Option.some.inj ho
      have h14 : d 14 = false := Bool.eq_false_iff.2 fun h => by have := hN.all h; simp [hdi] at this
      obtain rfl := hN.w h14
      refine rstep_value rfl (v := .int .i64 (n : Nat)) (w' := wx) ?_ ?_
      · simp only [hole, List.foldl_cons, List.foldl_nil, List.setIfInBounds_toArray, List.set_cons_zero, List.set_cons_succ]
        go_simp
      · exact ⟨hN.w, hN.w14, hN.h13, hN.h14, hN.c1_0, hN.h15, hN.c2_1, hN.h16, hN.h17, hN.c4_2, hN.c4_3, hN.h18, hN.h19, hN.c6_5, hN.h20, hN.c7_4, hN.c7_6, hN.h21, hN.h22, hN.c9_8, (fun _ => rfl), hN.h24, hN.c11_9, (fun _ => rfl), hN.h25, hN.c12_11, hN.h26, hN.c13_7, hN.c13_12, hN.h27, hN.c14_13⟩
    | 11, ho =>
      obtain rfl := Option.some.inj ho
      have e22 := hN.h22 (hdep ⟨9, .data⟩ (by simp) rfl)
      have e23 := hN.h23 (hdep ⟨10, .data⟩ (by simp) rfl)
      refine rstep_value rfl (v := .int .i64 (m : Nat)) (w' := wx) ?_ ?_
      · simp only [hole, List.foldl_cons, List.foldl_nil, List.setIfInBounds_toArray, List.set_cons_zero, List.set_cons_succ]
        go_simp
      · exact ⟨hN.w, hN.w14, hN.h13, hN.h14, hN.c1_0, hN.h15, hN.c2_1, hN.h16, hN.h17, hN.c4_2, hN.c4_3, hN.h18, hN.h19, hN.c6_5, hN.h20, hN.c7_4, hN.c7_6, hN.h21, hN.h22, hN.c9_8, hN.h23, (fun _ => rfl), (fun _ => hdep ⟨9, .data⟩ (by simp) rfl), (fun _ => hdep ⟨10, .data⟩ (by simp) rfl), hN.h25, (fun _ => rfl), hN.h26, hN.c13_7, hN.c13_12, hN.h27, hN.c14_13⟩
    | 12, ho =>
      obtain rfl := Option.some.inj ho
      have e24 := hN.h24 (hdep ⟨11, .data⟩ (by simp) rfl)
      refine rstep_value rfl (v := .int .i64 ((2 : Int) ^ m)) (w' := wx) ?_ ?_
      · simp only [hole, List.foldl_cons, List.foldl_nil, List.setIfInBounds_toArray, List.set_cons_zero, List.set_cons_succ]
        go_simp
      · exact ⟨hN.w, hN.w14, hN.h13, hN.h14, hN.c1_0, hN.h15, hN.c2_1, hN.h16, hN.h17, hN.c4_2, hN.c4_3, hN.h18, hN.h19, hN.c6_5, hN.h20, hN.c7_4, hN.c7_6, hN.h21, hN.h22, hN.c9_8, hN.h23, hN.h24, hN.c11_9, hN.c11_10, (fun _ => rfl), (fun _ => hdep ⟨11, .data⟩ (by simp) rfl), hN.h26, hN.c13_7, (fun _ => rfl), hN.h27, hN.c14_13⟩
    | 13, ho =>
      obtain rfl := Option.some.inj ho
      have e20 := hN.h20 (hdep ⟨7, .data⟩ (by simp) rfl)
      have e25 := hN.h25 (hdep ⟨12, .data⟩ (by simp) rfl)
      refine rstep_value rfl (v := .int .i64 (F : Nat)) (w' := wx) ?_ ?_
      · simp only [hole, List.foldl_cons, List.foldl_nil, List.setIfInBounds_toArray, List.set_cons_zero, List.set_cons_succ]
        go_simp
      · exact ⟨hN.w, hN.w14, hN.h13, hN.h14, hN.c1_0, hN.h15, hN.c2_1, hN.h16, hN.h17, hN.c4_2, hN.c4_3, hN.h18, hN.h19, hN.c6_5, hN.h20, hN.c7_4, hN.c7_6, hN.h21, hN.h22, hN.c9_8, hN.h23, hN.h24, hN.c11_9, hN.c11_10, hN.h25, hN.c12_11, (fun _ => rfl), (fun _ => hdep ⟨7, .data⟩ (by simp) rfl), (fun _ => hdep ⟨12, .data⟩ (by simp) rfl), hN.h27, (fun _ => rfl)⟩
    | 14, ho =>
      obtain rfl := Option.some.inj ho
      have e26 := hN.h26 (hdep ⟨13, .data⟩ (by simp) rfl)
      obtain rfl := hN.w hdi
      refine rstep_call rfl (f := 56) (args := #[.int .i64 (F : Nat)]) (w' := wx) ?_ (columns_any _ _) ?_
      · simp only [hole, List.foldl_cons, List.foldl_nil, List.setIfInBounds_toArray, List.set_cons_zero, List.set_cons_succ]
        go_simp
      · rintro e w'' ⟨rfl, rfl⟩
        exact ⟨_, rfl, (fun h => by simp at h), (fun _ => rfl), hN.h13, hN.h14, hN.c1_0, hN.h15, hN.c2_1, hN.h16, hN.h17, hN.c4_2, hN.c4_3, hN.h18, hN.h19, hN.c6_5, hN.h20, hN.c7_4, hN.c7_6, hN.h21, hN.h22, hN.c9_8, hN.h23, hN.h24, hN.c11_9, hN.c11_10, hN.h25, hN.c12_11, hN.h26, hN.c13_7, hN.c13_12, (fun _ => rfl), (fun _ => hdep ⟨13, .data⟩ (by simp) rfl)⟩
  · intro dd y wx hd hN
    have e13 := hN.h13 (hd 0 (by simp))
    have e14 := hN.h14 (hd 1 (by simp))
    have e15 := hN.h15 (hd 2 (by simp))
    have e16 := hN.h16 (hd 3 (by simp))
    have e17 := hN.h17 (hd 4 (by simp))
    have e18 := hN.h18 (hd 5 (by simp))
    have e19 := hN.h19 (hd 6 (by simp))
    have e20 := hN.h20 (hd 7 (by simp))
    have e21 := hN.h21 (hd 8 (by simp))
    have e22 := hN.h22 (hd 9 (by simp))
    have e23 := hN.h23 (hd 10 (by simp))
    have e24 := hN.h24 (hd 11 (by simp))
    have e25 := hN.h25 (hd 12 (by simp))
    have e26 := hN.h26 (hd 13 (by simp))
    have e27 := hN.h27 (hd 14 (by simp))
    obtain rfl := hN.w14 (hd 14 (by simp))
    clear hN c5 c6 c2
    simp only [hole, List.foldl_cons, List.foldl_nil, List.setIfInBounds_toArray, List.set_cons_zero, List.set_cons_succ, e13, e14, e15, e16, e17, e18, e19, e20, e21, e22, e23, e24, e25, e26, e27]
    clear e13 e14 e15 e16 e17 e18 e19 e20 e21 e22 e23 e24 e25 e26 e27
    obtain ⟨W5, hW5⟩ : ∃ W5, W4.alloc (.cells #[.int .i64 (F : Nat)] 3) = W5 := ⟨_, rfl⟩
    have hb5 : Below W.heap.size W W5 := by rw [← hW5]; exact below_alloc HB4.out _
    have hs5 : W5.heap.size = W.heap.size + 3 := by rw [← hW5]; simp; omega
    have x5 : Boxed W5 W.heap.size 3 (.int .i64 (i : Nat)) := by rw [← hW5]; exact X5.out.alloc _
    have x6 : Boxed W5 (W.heap.size + 1) 3 (.int .i64 (used : Nat)) := by rw [← hW5]; exact X6.out.alloc _
    have g5 : GS bn bo bg n cnt W5 := by rw [← hW5]; exact HG4.out.sm (Sm.alloc (fun _ => True) _ _) trivial trivial trivial trivial
    have hxc : BoxN W5 (W.heap.size + 2) F := by rw [← hW5, ← hsz4]; exact Boxed.new W4 3 _
    rw [hW5, hsz4]
    clear hW5 X5 X6 HG4 HB4 H4
    go_wp2
    refine wp_cols1 (W.heap.size + 2) F (by simp [go_sem]) hxc hF256 (by simp)
      (fun S Wl => S < 256 ∧ ∃ c, GS bn bo bg n c Wl ∧ Boxed Wl W.heap.size 3 (.int .i64 (i : Nat)) ∧ Boxed Wl (W.heap.size + 1) 3 (.int .i64 (used : Nat)) ∧ Sm (fun k => k ≠ bo) W Wl ∧ c + gsum n d i used S = cnt + gsum n d i used F)
      (fun _ _ => False) (fun S Wl hI => by obtain ⟨_, _, g, _⟩ := hI; exact g.tab) ?_ (fun _ _ _ h _ => h) ?_ ?_ ?_ (fun _ _ _ _ h _ => h.elim)
    · rintro S Wl Wl' ⟨h1, c, g, y5, y6, sm, hsum⟩ hx
      have sx : Sm (fun k => k ≠ W.heap.size + 2 ∧ (k < W.heap.size + 3 ∨ ∃ o, Wl.heap[k]? = some o ∧ o.isCells = true)) Wl Wl' := Sm.ext (n0 := W.heap.size + 3) (by rw [← hs5]; exact hx) (fun k hk => hk)
      exact ⟨h1, c, g.sm sx ⟨by omega, .inl (by omega)⟩ ⟨by omega, .inl (by omega)⟩ ⟨by omega, .inl (by omega)⟩ ⟨by omega, .inl (by omega)⟩, sx.boxed y5 ⟨by omega, .inl (by omega)⟩, sx.boxed y6 ⟨by omega, .inl (by omega)⟩, sm.trans' sx (fun k hk _ => ⟨by omega, .inl (by omega)⟩), hsum⟩
    · exact ⟨hF256, cnt, g5, x5, x6, Sm.of_below hb5, rfl⟩
    · rintro l S Wb hS hpos hlD ⟨hS2, c, g, y5, y6, sm, hsum⟩ hbW
      simp only [List.setIfInBounds_toArray, List.set_cons_zero, List.set_cons_succ]
      have htz := tz_lt S hS hpos
      have hgs := gsum_step n d i used S hS hpos
      have hp := pow_in9 (tz S) (by omega)
      have hor := or_w8 hu htz
      have hou := or_lt8 hu htz
      have cg := g.xg.cell
      have c5 := y5.cell
      have c6 := y6.cell
      have hHC := HC.out
      have C := Lib.hid (IH.out (used ||| 2 ^ tz S) c Wb.drew (g.sm (Sm.drew (fun _ => True) _) trivial trivial trivial trivial) hou (by omega))
      obtain ⟨j, hj⟩ : ∃ j, tz S = j := ⟨_, rfl⟩
      rw [hj] at hp hor hou C hgs htz ⊢
      have mixed : Tryd.prog.follows .mixedOrders = true := by kernel_rfl
      obtain ⟨W3, hW3⟩ : ∃ W3, Wb.drew = W3 := ⟨_, rfl⟩
      have cg3 : W3.cell? ⟨bg, 0, none⟩ = some (.func (.func 55) #[] #[.pointer (some ⟨bn, 0, none⟩), .pointer (some ⟨bo, 0, none⟩), .pointer (some ⟨bg, 0, none⟩)]) := by rw [← hW3]; exact cg
      have c53 : W3.cell? ⟨W.heap.size, 0, none⟩ = some (.int .i64 (i : Nat)) := by rw [← hW3]; exact c5
      have c63 : W3.cell? ⟨W.heap.size + 1, 0, none⟩ = some (.int .i64 (used : Nat)) := by rw [← hW3]; exact c6
      have H3 := Lib.hid hW3
      rw [hW3] at C
      have HG := Lib.hid g
      have HH := Lib.hid hgs
      have HS2 := Lib.hid hsum
      clear cg c5 c6 g hW3 hgs hsum hj
      gi_wp2
      refine wpIn_region_sched mixed [29, 30, 31, 32, 33, 34, 35, 36] (by kernel_rfl) (N55b bg bn bo W3 i used j fun wx => Boxed wx bo 3 (.int .i64 ((c + gst n d (i + 1) (used ||| 2 ^ j) : Nat) : Int)) ∧ Sm (fun k => k ≠ bo) W3 wx) ?_ ?_ ?_
      · rw [H3.out]
        refine ⟨fun _ => rfl, ?_, ?_, ?_, ?_, ?_, ?_, ?_, ?_, ?_, ?_, ?_, ?_, ?_, ?_, ?_, ?_⟩ <;> exact fun h => by cases h
      · intro i' o ho d y wx hdi hdep hN
        match i', ho with
        | 0, ho =>
          obtain rfl := Option.some.inj ho
          have h7 : d 7 = false := Bool.eq_false_iff.2 fun h => by have := hN.all h; simp [hdi] at this
          obtain rfl := hN.w h7
          refine rstepIn_value (fun _ => trivial) (by simp) rfl (v := .func (.func 55) #[] #[.pointer (some ⟨bn, 0, none⟩), .pointer (some ⟨bo, 0, none⟩), .pointer (some ⟨bg, 0, none⟩)]) (w' := wx) ?_ ?_
          · simp only [hole, List.foldl_cons, List.foldl_nil, List.setIfInBounds_toArray, List.set_cons_zero, List.set_cons_succ]
            go_simp
          · exact ⟨hN.w, hN.w7, (fun _ => rfl), hN.h30, hN.h31, hN.c2_1, hN.h32, hN.h33, hN.h34, hN.c5_4, hN.h35, hN.c6_3, hN.c6_5, hN.h36, (fun _ => rfl), hN.c7_2, hN.c7_6⟩
        | 1, ho =>
          obtain rfl := Option.some.inj ho
          have h7 : d 7 = false := Bool.eq_false_iff.2 fun h => by have := hN.all h; simp [hdi] at this
          obtain rfl := hN.w h7
          refine rstepIn_value (fun _ => trivial) (by simp) rfl (v := .int .i64 (i : Nat)) (w' := wx) ?_ ?_
          · simp only [hole, List.foldl_cons, List.foldl_nil, List.setIfInBounds_toArray, List.set_cons_zero, List.set_cons_succ]
            go_simp
          · exact ⟨hN.w, hN.w7, hN.h29, (fun _ => rfl), hN.h31, (fun _ => rfl), hN.h32, hN.h33, hN.h34, hN.c5_4, hN.h35, hN.c6_3, hN.c6_5, hN.h36, hN.c7_0, hN.c7_2, hN.c7_6⟩
        | 2, ho =>
          obtain rfl := Option.some.inj ho
          have e30 := hN.h30 (hdep ⟨1, .data⟩ (by simp) rfl)
          refine rstepIn_value (fun _ => trivial) (by simp) rfl (v := .int .i64 ((i + 1 : Nat) : Int)) (w' := wx) ?_ ?_
          · simp only [hole, List.foldl_cons, List.foldl_nil, List.setIfInBounds_toArray, List.set_cons_zero, List.set_cons_succ]
            go_simp
          · exact ⟨hN.w, hN.w7, hN.h29, hN.h30, (fun _ => rfl), (fun _ => hdep ⟨1, .data⟩ (by simp) rfl), hN.h32, hN.h33, hN.h34, hN.c5_4, hN.h35, hN.c6_3, hN.c6_5, hN.h36, hN.c7_0, (fun _ => rfl), hN.c7_6⟩
        | 3, ho =>
          obtain rfl := Option.some.inj ho
          have h7 : d 7 = false := Bool.eq_false_iff.2 fun h => by have := hN.all h; simp [hdi] at this
          obtain rfl := hN.w h7
          refine rstepIn_value (fun _ => trivial) (by simp) rfl (v := .int .i64 (used : Nat)) (w' := wx) ?_ ?_
          · simp only [hole, List.foldl_cons, List.foldl_nil, List.setIfInBounds_toArray, List.set_cons_zero, List.set_cons_succ]
            go_simp
          · exact ⟨hN.w, hN.w7, hN.h29, hN.h30, hN.h31, hN.c2_1, (fun _ => rfl), hN.h33, hN.h34, hN.c5_4, hN.h35, (fun _ => rfl), hN.c6_5, hN.h36, hN.c7_0, hN.c7_2, hN.c7_6⟩
        | 4, ho =>
          obtain rfl := Option.some.inj ho
          refine rstepIn_value (fun _ => trivial) (by simp) rfl (v := .int .i64 (j : Nat)) (w' := wx) ?_ ?_
          · simp only [hole, List.foldl_cons, List.foldl_nil, List.setIfInBounds_toArray, List.set_cons_zero, List.set_cons_succ]
            go_simp
          · exact ⟨hN.w, hN.w7, hN.h29, hN.h30, hN.h31, hN.c2_1, hN.h32, (fun _ => rfl), hN.h34, (fun _ => rfl), hN.h35, hN.c6_3, hN.c6_5, hN.h36, hN.c7_0, hN.c7_2, hN.c7_6⟩
        | 5, ho =>
          obtain rfl := Option.some.inj ho
          have e33 := hN.h33 (hdep ⟨4, .data⟩ (by simp) rfl)
          refine rstepIn_value (fun _ => trivial) (by simp) rfl (v := .int .i64 ((2 : Int) ^ j)) (w' := wx) ?_ ?_
          · simp only [hole, List.foldl_cons, List.foldl_nil, List.setIfInBounds_toArray, List.set_cons_zero, List.set_cons_succ]
            go_simp
          · exact ⟨hN.w, hN.w7, hN.h29, hN.h30, hN.h31, hN.c2_1, hN.h32, hN.h33, (fun _ => rfl), (fun _ => hdep ⟨4, .data⟩ (by simp) rfl), hN.h35, hN.c6_3, (fun _ => rfl), hN.h36, hN.c7_0, hN.c7_2, hN.c7_6⟩
        | 6, ho =>
          obtain rfl := Option.some.inj ho
          have e32 := hN.h32 (hdep ⟨3, .data⟩ (by simp) rfl)
          have e34 := hN.h34 (hdep ⟨5, .data⟩ (by simp) rfl)
          refine rstepIn_value (fun _ => trivial) (by simp) rfl (v := .int .i64 ((used ||| 2 ^ j : Nat) : Int)) (w' := wx) ?_ ?_
          · simp only [hole, List.foldl_cons, List.foldl_nil, List.setIfInBounds_toArray, List.set_cons_zero, List.set_cons_succ]
            go_simp
          · exact ⟨hN.w, hN.w7, hN.h29, hN.h30, hN.h31, hN.c2_1, hN.h32, hN.h33, hN.h34, hN.c5_4, (fun _ => rfl), (fun _ => hdep ⟨3, .data⟩ (by simp) rfl), (fun _ => hdep ⟨5, .data⟩ (by simp) rfl), hN.h36, hN.c7_0, hN.c7_2, (fun _ => rfl)⟩
        | 7, ho =>
          obtain rfl := Option.some.inj ho
          have e29 := hN.h29 (hdep ⟨0, .data⟩ (by simp) rfl)
          have e31 := hN.h31 (hdep ⟨2, .data⟩ (by simp) rfl)
          have e35 := hN.h35 (hdep ⟨6, .data⟩ (by simp) rfl)
          obtain rfl := hN.w hdi
          refine rstepIn_call (fun _ => trivial) (fun _ => by decide) (by simp) rfl (f := 55) (args := #[.int .i64 ((i + 1 : Nat) : Int), .int .i64 ((used ||| 2 ^ j : Nat) : Int), .pointer (some ⟨bn, 0, none⟩), .pointer (some ⟨bo, 0, none⟩), .pointer (some ⟨bg, 0, none⟩)]) (w' := wx) ?_ (CallsIn.inRound l (callsIn_wide.2 C.out)) ?_
          · simp only [hole, List.foldl_cons, List.foldl_nil, List.setIfInBounds_toArray, List.set_cons_zero, List.set_cons_succ]
            go_simp
          · rintro e w'' ⟨rfl, hr⟩
            exact ⟨_, rfl, (fun h => by simp at h), (fun _ => hr), hN.h29, hN.h30, hN.h31, hN.c2_1, hN.h32, hN.h33, hN.h34, hN.c5_4, hN.h35, hN.c6_3, hN.c6_5, (fun _ => rfl), (fun _ => hdep ⟨0, .data⟩ (by simp) rfl), (fun _ => hdep ⟨2, .data⟩ (by simp) rfl), (fun _ => hdep ⟨6, .data⟩ (by simp) rfl)⟩
      · intro dd y wx hd hN
        have e29 := hN.h29 (hd 0 (by simp))
        have e30 := hN.h30 (hd 1 (by simp))
        have e31 := hN.h31 (hd 2 (by simp))
        have e32 := hN.h32 (hd 3 (by simp))
        have e33 := hN.h33 (hd 4 (by simp))
        have e34 := hN.h34 (hd 5 (by simp))
        have e35 := hN.h35 (hd 6 (by simp))
        have e36 := hN.h36 (hd 7 (by simp))
        obtain ⟨hx, hs⟩ := hN.w7 (hd 7 (by simp))
        clear hN C cg3 c53 c63
        simp only [hole, List.foldl_cons, List.foldl_nil, List.setIfInBounds_toArray, List.set_cons_zero, List.set_cons_succ, e29, e30, e31, e32, e33, e34, e35, e36]
        clear e29 e30 e31 e32 e33 e34 e35 e36
        rw [← H3.out] at hs
        have sm6 : Sm (fun k => k ≠ bo) Wb wx := (Sm.drew _ _).trans hs
        have HX := Lib.hid hx
        have HSM := Lib.hid sm6
        clear hx hs sm6
        gi_wp2
        have g := HG.out
        refine ⟨HSM.out.keepsFrom (fun k o hk _ _ => by omega), HSM.out.boxed hbW (by omega), by have := nextS_lt S hS hpos; omega, c + gst n d (i + 1) (used ||| 2 ^ j), g.step HSM.out HX.out, HSM.out.boxed y5 (by omega), HSM.out.boxed y6 (by omega), sm.trans HSM.out, ?_⟩
        have h1 := HS2.out
        have h2 := HH.out
        omega
    · rintro D Wl hD ⟨_, c, g, y5, y6, sm, hsum⟩ hK
      rw [gsum_zero] at hsum
      have HG := Lib.hid g
      clear g
      go_wp2
      refine leaves_one hK (results_none rfl _ _ _) ?_
      have hx := HG.out.xo
      have hl := hx.lt
      rw [show c = cnt + gsum n d i used F by omega] at hx
      exact ⟨rfl, (World.putObj_heap_other (by omega)).trans hx, sm.trans' (Sm.putObj (S := fun k => k ≠ D) _ (fun k hk => hk)) (fun k hk _ => by omega)⟩

theorem grow_any (hn2 : 2 ≤ n) (hn : n ≤ 8) : ∀ (d i used cnt : Nat) (W : World), i + d = n → GS bn bo bg n cnt W → used < 256 → cnt + gst n d i used ≤ 1099511627776 →
    Calls Tryd.prog 55 #[.int .i64 (i : Nat), .int .i64 (used : Nat), .pointer (some ⟨bn, 0, none⟩), .pointer (some ⟨bo, 0, none⟩), .pointer (some ⟨bg, 0, none⟩)] W (GPost bo cnt (gst n d i used) W)
  | 0, i, used, cnt, W, h, hg, _, hc => by
    obtain rfl : i = n := by omega
    exact grow_leaf bn bo bg _ used cnt W hg hc
  | d + 1, i, used, cnt, W, h, hg, hu, hc => grow_node bn bo bg n d i used cnt W hg hn2 hn (by omega) hu hc fun u c W' hg' hu' hc' => grow_any hn2 hn d (i + 1) u c W' (by omega) hg' hu' hc'
end
end Go.Proofs.YtlpnicfbgdfbnaaDoor
