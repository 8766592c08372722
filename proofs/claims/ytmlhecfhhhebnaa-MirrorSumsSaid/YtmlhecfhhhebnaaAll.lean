/- (Group).all: the walk. -/
import Derived.Test.YtmlhecfhhhebnaaAlp
namespace Go.Proofs.Ytmlhecfhhhebnaa
open Go.RowKit
attribute [local go_sem] Oper.semAt_some

def All1 (K n H : Nat) : Nat → (Nat → Value) → World → Prop
  | 0, y, _ => y 12 = .agg #[.int .u8 (K : Nat), .int .i64 (n : Nat)]
  | 1, y, w => ∃ b, y 13 = .map (some b) ∧ H ≤ b ∧ (MapE w b [] ∨ MapE w b [oneE])
  | 2, y, _ => y 14 = .agg #[.int .u8 (K : Nat), .int .i64 (n : Nat)]
  | 3, y, _ => y 15 = .agg (cs8 oneE).toArray
  | 4, y, w => ∃ b, y 13 = .map (some b) ∧ H ≤ b ∧ MapE w b [oneE]
  | 5, y, _ => y 16 = y 13
  | 6, y, _ => ∃ b, y 17 = .slice (some ⟨b, 0, none⟩) 0 0
  | 7, y, w => ∃ b, y 18 = .slice (some ⟨b, 0, none⟩) 1 1 ∧ H ≤ b ∧ Held w b 24 [y 17]
  | 8, y, _ => ∃ b c, y 18 = .slice (some ⟨c, 0, none⟩) 1 1 ∧ y 13 = .map (some b) ∧ y 19 = .agg #[.int .u8 (K : Nat), .int .i64 (n : Nat), .slice (some ⟨c, 0, none⟩) 1 1, .slice none 0 0, .map (some b)]
  | 9, y, w => ∃ b c d, y 18 = .slice (some ⟨c, 0, none⟩) 1 1 ∧ y 13 = .map (some b) ∧ y 20 = .pointer (some ⟨d, 0, none⟩) ∧ H ≤ d ∧ Held w d 80 [.int .u8 (K : Nat), .int .i64 (n : Nat), .slice (some ⟨c, 0, none⟩) 1 1, .slice none 0 0, .map (some b)]
  | 10, y, _ => ∃ d, y 20 = .pointer (some ⟨d, 0, none⟩) ∧ y 3 = .pointer (some ⟨d, 0, none⟩)
  | _, _, _ => True

def All2 (K n H0 k s g : Nat) (vL : Value) (Lk M E : List Int) : Bool → Nat → (Nat → Value) → World → Prop
  | _, 0, y, _ => y 35 = vL
  | _, 1, y, _ => y 36 = .int .i64 (k : Nat)
  | _, 2, y, _ => y 37 = .pointer (some ⟨g, k * 24, none⟩)
  | _, 3, y, _ => y 38 = .agg (cs8 Lk).toArray
  | _, 4, y, _ => y 39 = .agg #[.int .u8 (K : Nat), .int .i64 (n : Nat)]
  | _, 5, y, _ => y 40 = .int .i64 (s : Nat)
  | _, 6, y, _ => y 41 = .agg (cs8 M).toArray
  | _, 7, y, _ => y 42 = .agg (cs8 E).toArray
  | _, 8, y, w => ∃ b, y 8 = .pointer (some ⟨b, 0, none⟩) ∧ H0 ≤ b ∧ Held w b 113 (cs8 zeroE)
  | _, _, _, _ => True
theorem All2_keep (K n H0 k s g : Nat) (vL : Value) (Lk M E : List Int) : ∀ (f : Bool) (j : Nat) (y : Nat → Value) (wa wb : World), Below wa.heap.size wa wb → All2 K n H0 k s g vL Lk M E f j y wa → All2 K n H0 k s g vL Lk M E f j y wb := by
  intro f j y wa wb hx hv
  match j, hv with
  | 0, hv => exact hv
  | 1, hv => exact hv
  | 2, hv => exact hv
  | 3, hv => exact hv
  | 4, hv => exact hv
  | 5, hv => exact hv
  | 6, hv => exact hv
  | 7, hv => exact hv
  | 8, hv =>
    have hv' : All2 K n H0 k s g vL Lk M E f 8 y wa := hv
    obtain ⟨b, e, hb, hm⟩ := hv'
    exact ⟨b, e, hb, hm.below hx hm.lt⟩
  | _ + 9, _ => trivial

def All3 (bT bM : Nat) (E : List Int) (x : Int) (bb : Bool) : Bool → Nat → (Nat → Value) → World → Prop
  | _, 0, y, _ => y 44 = .pointer (some ⟨bT, 0, none⟩)
  | _, 1, y, _ => y 45 = .pointer (some ⟨bT, 0, none⟩)
  | _, 2, y, _ => y 46 = .pointer (some ⟨bT, 4, none⟩)
  | _, 3, y, _ => y 47 = .map (some bM)
  | _, 4, y, _ => y 48 = .agg (cs8 E).toArray
  | _, 5, y, _ => y 49 = .tuple #[.int .i64 x, .bool bb]
  | _, 6, y, _ => y 43 = .tuple #[.int .i64 x, .bool bb]
  | _, 7, y, _ => y 50 = .int .i64 x
  | _, 8, y, _ => y 51 = .bool bb
  | _, 9, y, _ => y 9 = .int .i64 x
  | _, _, _, _ => True

def All4 (bT bM : Nat) (E : List Int) (len : Nat) : Bool → Nat → (Nat → Value) → World → Prop
  | _, 0, y, _ => y 56 = .pointer (some ⟨bT, 0, none⟩)
  | _, 1, y, _ => y 57 = .pointer (some ⟨bT, 0, none⟩)
  | _, 2, y, _ => y 58 = .pointer (some ⟨bT, 4, none⟩)
  | _, 3, y, _ => y 59 = .map (some bM)
  | _, 4, y, _ => y 60 = .agg (cs8 E).toArray
  | _, 5, y, _ => y 61 = .int .i64 (len : Nat)
  | _, _, _, _ => True

def All5 (H N bT s lw cw g : Nat) (S : Nat → Prop) (vW : Value) (aw : Option Addr) (word : List Nat) (Wd : List (List Nat)) : Bool → Nat → (Nat → Value) → World → Prop
  | _, 0, y, _ => y 73 = .pointer (some ⟨bT, 0, none⟩)
  | _, 1, y, _ => y 74 = .pointer (some ⟨bT, 0, none⟩)
  | _, 2, y, _ => y 75 = .pointer (some ⟨bT, 0, none⟩)
  | _, 3, y, _ => y 76 = .pointer (some ⟨bT, 2, none⟩)
  | _, 4, y, _ => y 77 = vW
  | _, 5, y, _ => y 78 = .slice aw lw cw
  | _, 6, y, _ => y 79 = .slice aw lw cw
  | _, 7, y, _ => y 80 = .int .i64 (lw : Nat)
  | _, 8, y, _ => y 81 = .slice aw lw cw
  | _, 9, y, _ => y 82 = .int .i64 (lw : Nat)
  | _, 10, y, _ => y 83 = .slice aw lw lw
  | _, 11, y, _ => y 84 = .int .i64 (s : Nat)
  | _, 12, y, w => ∃ b, y 85 = .slice (some ⟨b, 0, none⟩) 1 1 ∧ N ≤ b ∧ Held w b 3 [.int .i64 (s : Nat)]
  | _, 13, y, w => OwnI 3 N w (y 86) (toI (word ++ [s]))
  | _, 14, y, w => ∃ b, y 87 = .slice (some ⟨b, 0, none⟩) 1 1 ∧ N ≤ b ∧ Held w b 24 [y 86]
  | _, 15, y, w => RowsF (fun k => S k ∨ (y 86).ownBlock = some k) H w (y 88) (Wd ++ [word ++ [s]]) ∧ ((y 88).ownBlock = some g ∨ ∃ b, (y 88).ownBlock = some b ∧ N ≤ b)
  | _, 16, y, _ => y 89 = .pointer (some ⟨bT, 0, none⟩)
  | _, 17, y, _ => y 90 = .pointer (some ⟨bT, 2, none⟩)
  | _, _, _, _ => True
theorem All5_keep (H N bT s lw cw g : Nat) (S : Nat → Prop) (vW : Value) (aw : Option Addr) (word : List Nat) (Wd : List (List Nat)) : ∀ (f : Bool) (j : Nat) (y : Nat → Value) (wa wb : World), Below wa.heap.size wa wb → All5 H N bT s lw cw g S vW aw word Wd f j y wa → All5 H N bT s lw cw g S vW aw word Wd f j y wb := by
  intro f j y wa wb hx hv
  match j, hv with
  | 0, hv => exact hv
  | 1, hv => exact hv
  | 2, hv => exact hv
  | 3, hv => exact hv
  | 4, hv => exact hv
  | 5, hv => exact hv
  | 6, hv => exact hv
  | 7, hv => exact hv
  | 8, hv => exact hv
  | 9, hv => exact hv
  | 10, hv => exact hv
  | 11, hv => exact hv
  | 12, hv =>
    have hv' : All5 H N bT s lw cw g S vW aw word Wd f 12 y wa := hv
    obtain ⟨b, e, hb, hm⟩ := hv'
    exact ⟨b, e, hb, hm.below hx hm.lt⟩
  | 13, hv =>
    have hv' : All5 H N bT s lw cw g S vW aw word Wd f 13 y wa := hv
    exact OwnI.below hv' hx
  | 14, hv =>
    have hv' : All5 H N bT s lw cw g S vW aw word Wd f 14 y wa := hv
    obtain ⟨b, e, hb, hm⟩ := hv'
    exact ⟨b, e, hb, hm.below hx hm.lt⟩
  | 15, hv =>
    have hv' : All5 H N bT s lw cw g S vW aw word Wd f 15 y wa := hv
    exact ⟨hv'.1.kept (S' := fun _ => True) (Sm.of_below hx) (fun _ _ => trivial) (fun _ _ => trivial), hv'.2⟩
  | 16, hv => exact hv
  | 17, hv => exact hv
  | _ + 18, _ => trivial
theorem All5_turn (H N bT s lw cw g : Nat) (S : Nat → Prop) (vW : Value) (aw : Option Addr) (word : List Nat) (Wd : List (List Nat)) {wa wb : World} (hs : Sm (fun k => k ≠ g) wa wb) (hg : g < N) : ∀ (j : Nat) (y : Nat → Value), j ≠ 15 → All5 H N bT s lw cw g S vW aw word Wd false j y wa → All5 H N bT s lw cw g S vW aw word Wd true j y wb := by
  intro j y hj hv
  match j, hj, hv with
  | 0, _, hv => exact hv
  | 1, _, hv => exact hv
  | 2, _, hv => exact hv
  | 3, _, hv => exact hv
  | 4, _, hv => exact hv
  | 5, _, hv => exact hv
  | 6, _, hv => exact hv
  | 7, _, hv => exact hv
  | 8, _, hv => exact hv
  | 9, _, hv => exact hv
  | 10, _, hv => exact hv
  | 11, _, hv => exact hv
  | 12, _, hv =>
    have hv' : All5 H N bT s lw cw g S vW aw word Wd false 12 y wa := hv
    obtain ⟨b, e, hb, hm⟩ := hv'
    exact ⟨b, e, hb, hm.sm hs (by omega)⟩
  | 13, _, hv =>
    have hv' : All5 H N bT s lw cw g S vW aw word Wd false 13 y wa := hv
    exact own_sm hv' hs (fun j hj => by have := (World.ownsRow.lt hv' j hj).1; omega)
  | 14, _, hv =>
    have hv' : All5 H N bT s lw cw g S vW aw word Wd false 14 y wa := hv
    obtain ⟨b, e, hb, hm⟩ := hv'
    exact ⟨b, e, hb, hm.sm hs (by omega)⟩
  | 15, hj, _ => exact absurd rfl hj
  | 16, _, hv => exact hv
  | 17, _, hv => exact hv
  | _ + 18, _, _ => trivial

set_option maxRecDepth 100000 in
set_option maxHeartbeats 4000000 in
theorem all_any (K n : Nat) (w : World) (hv : validB K n = true) :
    Calls Try.prog 85 #[grp K n] w fun e w' => ∃ bT, e = .returned (.pointer (some ⟨bT, 0, none⟩)) ∧ TabIs K n (wordsG K n) (nextG K n) w' bT ∧ w.heap.size ≤ bT ∧ Below w.heap.size w w' := by
  unfold grp
  go_enter Try.func85, Try.ntmps85
  go_upto_region 1 with (fail)
  have hHW : w.heap.size ≤ (w.alloc (.cells #[.int .u8 (K : Nat), .int .i64 (n : Nat)] 28)).heap.size := by simp
  have hT := Held.made (w := w) (l := [.int .u8 (K : Nat), .int .i64 (n : Nat)]) (t := 28) rfl
  obtain ⟨H, hH⟩ : ∃ H, w.heap.size = H := ⟨_, rfl⟩
  obtain ⟨W, hW⟩ : ∃ W, w.alloc (.cells #[.int .u8 (K : Nat), .int .i64 (n : Nat)] 28) = W := ⟨_, rfl⟩
  have hT' : Held W H 28 [.int .u8 (K : Nat), .int .i64 (n : Nat)] := by rw [← hW, ← hH]; exact hT
  rw [hW, hH] at hHW
  rw [hW, hH]
  have hW0 := Lib.hid hW
  have hH0 := Lib.hid hH
  clear hW hH hT
  refine wp_region_flow (by kernel_rfl) [3, 12, 13, 14, 15, 16, 17, 18, 19, 20] (by kernel_rfl) (by kernel_rfl) (by kernel_rfl) (ExtR H) (ExtR.refl H) (fun _ _ _ => ExtR.trans) (All1 K n H) ?_ ?_ ?_ ?_
  · intro j y wa wb hx hv
    match j, hv with
    | 0, hv => exact hv
    | 1, hv =>
      have hv' : All1 K n H 1 y wa := hv
      obtain ⟨b, e, hb, hm⟩ := hv'
      exact ⟨b, e, hb, hm.elim (hx.m0 b) (fun h => .inr (hx.m1 b h))⟩
    | 2, hv => exact hv
    | 3, hv => exact hv
    | 4, hv =>
      have hv' : All1 K n H 4 y wa := hv
      obtain ⟨b, e, hb, hm⟩ := hv'
      exact ⟨b, e, hb, hx.m1 b hm⟩
    | 5, hv => exact hv
    | 6, hv => exact hv
    | 7, hv =>
      have hv' : All1 K n H 7 y wa := hv
      obtain ⟨b, e, hb, hm⟩ := hv'
      exact ⟨b, e, hb, hx.held hm⟩
    | 8, hv => exact hv
    | 9, hv =>
      have hv' : All1 K n H 9 y wa := hv
      obtain ⟨b, c, d, e1, e2, e3, hd, hm⟩ := hv'
      exact ⟨b, c, d, e1, e2, e3, hd, hx.held hm⟩
    | 10, hv => exact hv
    | _ + 11, _ => trivial
  · intro j y y' wx hj h hv
    match j, hj, h, hv with
    | 0, _, h, hv =>
      have e12 : y 12 = y' 12 := h 0 12 (.inr rfl) (by kernel_rfl)
      have hv' : All1 K n H 0 y wx := hv
      simp only [All1] at hv' ⊢
      rw [← e12]
      exact hv'
    | 1, _, h, hv =>
      have e13 : y 13 = y' 13 := h 1 13 (.inr rfl) (by kernel_rfl)
      have hv' : All1 K n H 1 y wx := hv
      simp only [All1] at hv' ⊢
      rw [← e13]
      exact hv'
    | 2, _, h, hv =>
      have e14 : y 14 = y' 14 := h 2 14 (.inr rfl) (by kernel_rfl)
      have hv' : All1 K n H 2 y wx := hv
      simp only [All1] at hv' ⊢
      rw [← e14]
      exact hv'
    | 3, _, h, hv =>
      have e15 : y 15 = y' 15 := h 3 15 (.inr rfl) (by kernel_rfl)
      have hv' : All1 K n H 3 y wx := hv
      simp only [All1] at hv' ⊢
      rw [← e15]
      exact hv'
    | 4, _, h, hv =>
      have e13 : y 13 = y' 13 := h 1 13 (.inl (by kernel_rfl)) (by kernel_rfl)
      have hv' : All1 K n H 4 y wx := hv
      simp only [All1] at hv' ⊢
      rw [← e13]
      exact hv'
    | 5, _, h, hv =>
      have e13 : y 13 = y' 13 := h 1 13 (.inl (by kernel_rfl)) (by kernel_rfl)
      have e16 : y 16 = y' 16 := h 5 16 (.inr rfl) (by kernel_rfl)
      have hv' : All1 K n H 5 y wx := hv
      simp only [All1] at hv' ⊢
      rw [← e13, ← e16]
      exact hv'
    | 6, _, h, hv =>
      have e17 : y 17 = y' 17 := h 6 17 (.inr rfl) (by kernel_rfl)
      have hv' : All1 K n H 6 y wx := hv
      simp only [All1] at hv' ⊢
      rw [← e17]
      exact hv'
    | 7, _, h, hv =>
      have e17 : y 17 = y' 17 := h 6 17 (.inl (by kernel_rfl)) (by kernel_rfl)
      have e18 : y 18 = y' 18 := h 7 18 (.inr rfl) (by kernel_rfl)
      have hv' : All1 K n H 7 y wx := hv
      simp only [All1] at hv' ⊢
      rw [← e17, ← e18]
      exact hv'
    | 8, _, h, hv =>
      have e13 : y 13 = y' 13 := h 1 13 (.inl (by kernel_rfl)) (by kernel_rfl)
      have e18 : y 18 = y' 18 := h 7 18 (.inl (by kernel_rfl)) (by kernel_rfl)
      have e19 : y 19 = y' 19 := h 8 19 (.inr rfl) (by kernel_rfl)
      have hv' : All1 K n H 8 y wx := hv
      simp only [All1] at hv' ⊢
      rw [← e13, ← e18, ← e19]
      exact hv'
    | 9, _, h, hv =>
      have e13 : y 13 = y' 13 := h 1 13 (.inl (by kernel_rfl)) (by kernel_rfl)
      have e18 : y 18 = y' 18 := h 7 18 (.inl (by kernel_rfl)) (by kernel_rfl)
      have e20 : y 20 = y' 20 := h 9 20 (.inr rfl) (by kernel_rfl)
      have hv' : All1 K n H 9 y wx := hv
      simp only [All1] at hv' ⊢
      rw [← e13, ← e18, ← e20]
      exact hv'
    | 10, _, h, hv =>
      have e3 : y 3 = y' 3 := h 10 3 (.inr rfl) (by kernel_rfl)
      have e20 : y 20 = y' 20 := h 9 20 (.inl (by kernel_rfl)) (by kernel_rfl)
      have hv' : All1 K n H 10 y wx := hv
      simp only [All1] at hv' ⊢
      rw [← e3, ← e20]
      exact hv'
    | j + 11, hj, _, _ => exact absurd hj (by simp)
  · intro i o ho y wx hx hd hini
    match i, ho with
    | 0, ho =>
      obtain rfl := Option.some.inj ho
      have c0 := (hx.held hT'.drew).at (i := 0) rfl
      have c1 := (hx.held hT'.drew).at (i := 1) rfl
      refine rstep_value rfl (v := .agg #[.int .u8 (K : Nat), .int .i64 (n : Nat)]) (w' := wx) ?_ ⟨(ExtR.refl H) _, rfl⟩
      · simp only [hole, List.foldl_cons, List.foldl_nil, List.setIfInBounds_toArray, List.set_cons_zero, List.set_cons_succ]
        go_simp
    | 1, ho =>
      obtain rfl := Option.some.inj ho
      have hsz := Nat.le_trans hHW hx.sm.size
      have hmm := @run_makeMap Try.prog
      refine rstep_value rfl (v := .map (some wx.heap.size)) (w' := wx.alloc (.map #[] 0)) ?_ ⟨ExtR.alloc H wx _, wx.heap.size, rfl, hsz, .inl (mapE_new wx)⟩
      · simp only [hole, List.foldl_cons, List.foldl_nil, List.setIfInBounds_toArray, List.set_cons_zero, List.set_cons_succ]
        go_simp
    | 2, ho =>
      obtain rfl := Option.some.inj ho
      have c0 := (hx.held hT'.drew).at (i := 0) rfl
      have c1 := (hx.held hT'.drew).at (i := 1) rfl
      refine rstep_value rfl (v := .agg #[.int .u8 (K : Nat), .int .i64 (n : Nat)]) (w' := wx) ?_ ⟨(ExtR.refl H) _, rfl⟩
      · simp only [hole, List.foldl_cons, List.foldl_nil, List.setIfInBounds_toArray, List.set_cons_zero, List.set_cons_succ]
        go_simp
    | 3, ho =>
      obtain rfl := Option.some.inj ho
      have e14 : y 14 = .agg #[.int .u8 (K : Nat), .int .i64 (n : Nat)] := hd 2 (by kernel_rfl) (by decide)
      refine rstep_call rfl (f := 99) (args := #[.agg #[.int .u8 (K : Nat), .int .i64 (n : Nat)]]) (w' := wx) ?_ (one_any K n wx) ?_
      · simp only [hole, List.foldl_cons, List.foldl_nil, List.setIfInBounds_toArray, List.set_cons_zero, List.set_cons_succ]
        go_simp
      · rintro e w'' ⟨rfl, hb⟩
        exact ⟨_, rfl, ExtR.of_below hb, rfl⟩
    | 4, ho =>
      obtain rfl := Option.some.inj ho
      have v1 : ∃ b, y 13 = .map (some b) ∧ H ≤ b ∧ (MapE wx b [] ∨ MapE wx b [oneE]) := hd 1 (by kernel_rfl) (by decide)
      have e15 : y 15 = .agg (cs8 oneE).toArray := hd 3 (by kernel_rfl) (by decide)
      obtain ⟨b, e13, hb, hm⟩ := v1
      obtain ⟨w', hrun, hm', hx'⟩ := mapE_one hb hm
      refine rstep_skip rfl (w' := w') ?_ ⟨hx', b, e13, hb, hm'⟩
      · simp only [hole, List.foldl_cons, List.foldl_nil, List.setIfInBounds_toArray, List.set_cons_zero, List.set_cons_succ]
        simp [execOp, Act.eval, e13, e15, hrun, Result.andThen]
    | 5, ho =>
      obtain rfl := Option.some.inj ho
      have v1 : ∃ b, y 13 = .map (some b) ∧ H ≤ b ∧ (MapE wx b [] ∨ MapE wx b [oneE]) := hd 1 (by kernel_rfl) (by decide)
      obtain ⟨b, e13, hb, hm⟩ := v1
      refine rstep_value rfl (v := .map (some b)) (w' := wx) ?_ ⟨ExtR.refl H _, e13.symm⟩
      · simp only [hole, List.foldl_cons, List.foldl_nil, List.setIfInBounds_toArray, List.set_cons_zero, List.set_cons_succ]
        go_simp
    | 6, ho =>
      obtain rfl := Option.some.inj ho
      refine rstep_value rfl (v := .slice (some ⟨wx.heap.size, 0, none⟩) 0 0) (w' := wx.alloc (.cells #[] 3)) ?_ ⟨ExtR.alloc H wx _, _, rfl⟩
      · simp only [hole, List.foldl_cons, List.foldl_nil, List.setIfInBounds_toArray, List.set_cons_zero, List.set_cons_succ]
        go_simp
    | 7, ho =>
      obtain rfl := Option.some.inj ho
      have v6 : ∃ b, y 17 = .slice (some ⟨b, 0, none⟩) 0 0 := hd 6 (by kernel_rfl) (by decide)
      obtain ⟨b, e17⟩ := v6
      have hsz := Nat.le_trans hHW hx.sm.size
      refine rstep_value rfl (v := .slice (some ⟨wx.heap.size, 0, none⟩) 1 1) (w' := wx.alloc (.cells #[.slice (some ⟨b, 0, none⟩) 0 0] 24)) ?_ ⟨ExtR.alloc H wx _, _, rfl, hsz, by show Held _ _ _ [y 17]; rw [e17]; exact Held.new _ _ [_]⟩
      · simp only [hole, List.foldl_cons, List.foldl_nil, List.setIfInBounds_toArray, List.set_cons_zero, List.set_cons_succ]
        go_simp
    | 8, ho =>
      obtain rfl := Option.some.inj ho
      have e12 : y 12 = .agg #[.int .u8 (K : Nat), .int .i64 (n : Nat)] := hd 0 (by kernel_rfl) (by decide)
      have v1 : ∃ b, y 13 = .map (some b) ∧ H ≤ b ∧ (MapE wx b [] ∨ MapE wx b [oneE]) := hd 1 (by kernel_rfl) (by decide)
      have e16 : y 16 = y 13 := hd 5 (by kernel_rfl) (by decide)
      have v7 : ∃ b, y 18 = .slice (some ⟨b, 0, none⟩) 1 1 ∧ H ≤ b ∧ Held wx b 24 [y 17] := hd 7 (by kernel_rfl) (by decide)
      obtain ⟨b, e13, hb, hm⟩ := v1
      obtain ⟨c, e18, hc, hh⟩ := v7
      rw [e13] at e16
      refine rstep_value rfl (v := .agg #[.int .u8 (K : Nat), .int .i64 (n : Nat), .slice (some ⟨c, 0, none⟩) 1 1, .slice none 0 0, .map (some b)]) (w' := wx) ?_ ⟨ExtR.refl H _, b, c, e18, e13, rfl⟩
      · simp only [hole, List.foldl_cons, List.foldl_nil, List.setIfInBounds_toArray, List.set_cons_zero, List.set_cons_succ]
        go_simp
    | 9, ho =>
      obtain rfl := Option.some.inj ho
      have v8 : ∃ b c, y 18 = .slice (some ⟨c, 0, none⟩) 1 1 ∧ y 13 = .map (some b) ∧ y 19 = .agg #[.int .u8 (K : Nat), .int .i64 (n : Nat), .slice (some ⟨c, 0, none⟩) 1 1, .slice none 0 0, .map (some b)] := hd 8 (by kernel_rfl) (by decide)
      obtain ⟨b, c, e18, e13, e19⟩ := v8
      have hsz := Nat.le_trans hHW hx.sm.size
      refine rstep_value rfl (v := .pointer (some ⟨wx.heap.size, 0, none⟩)) (w' := wx.alloc (.cells #[.int .u8 (K : Nat), .int .i64 (n : Nat), .slice (some ⟨c, 0, none⟩) 1 1, .slice none 0 0, .map (some b)] 80)) ?_ ⟨ExtR.alloc H wx _, b, c, _, e18, e13, rfl, hsz, Held.new _ _ [_, _, _, _, _]⟩
      · simp only [hole, List.foldl_cons, List.foldl_nil, List.setIfInBounds_toArray, List.set_cons_zero, List.set_cons_succ]
        go_simp
    | 10, ho =>
      obtain rfl := Option.some.inj ho
      have v9 : ∃ b c d, y 18 = .slice (some ⟨c, 0, none⟩) 1 1 ∧ y 13 = .map (some b) ∧ y 20 = .pointer (some ⟨d, 0, none⟩) ∧ H ≤ d ∧ Held wx d 80 [.int .u8 (K : Nat), .int .i64 (n : Nat), .slice (some ⟨c, 0, none⟩) 1 1, .slice none 0 0, .map (some b)] := hd 9 (by kernel_rfl) (by decide)
      obtain ⟨b, c, d, e1, e2, e20, hd9, hm⟩ := v9
      refine rstep_value rfl (v := .pointer (some ⟨d, 0, none⟩)) (w' := wx) ?_ ⟨ExtR.refl H _, d, e20, rfl⟩
      · simp only [hole, List.foldl_cons, List.foldl_nil, List.setIfInBounds_toArray, List.set_cons_zero, List.set_cons_succ]
        go_simp
    | _ + 11, ho => exact absurd ho (by simp)
  · intro y wx hx hd
    have e12 : y 12 = .agg #[.int .u8 (K : Nat), .int .i64 (n : Nat)] := hd 0 (by decide)
    have v1 : ∃ b, y 13 = .map (some b) ∧ H ≤ b ∧ (MapE wx b [] ∨ MapE wx b [oneE]) := hd 1 (by decide)
    have e14 : y 14 = .agg #[.int .u8 (K : Nat), .int .i64 (n : Nat)] := hd 2 (by decide)
    have e15 : y 15 = .agg (cs8 oneE).toArray := hd 3 (by decide)
    have v4 : ∃ b, y 13 = .map (some b) ∧ H ≤ b ∧ MapE wx b [oneE] := hd 4 (by decide)
    have e16 : y 16 = y 13 := hd 5 (by decide)
    have v6 : ∃ b, y 17 = .slice (some ⟨b, 0, none⟩) 0 0 := hd 6 (by decide)
    have v7 : ∃ b, y 18 = .slice (some ⟨b, 0, none⟩) 1 1 ∧ H ≤ b ∧ Held wx b 24 [y 17] := hd 7 (by decide)
    have v8 : ∃ b c, y 18 = .slice (some ⟨c, 0, none⟩) 1 1 ∧ y 13 = .map (some b) ∧ y 19 = .agg #[.int .u8 (K : Nat), .int .i64 (n : Nat), .slice (some ⟨c, 0, none⟩) 1 1, .slice none 0 0, .map (some b)] := hd 8 (by decide)
    have v9 : ∃ b c d, y 18 = .slice (some ⟨c, 0, none⟩) 1 1 ∧ y 13 = .map (some b) ∧ y 20 = .pointer (some ⟨d, 0, none⟩) ∧ H ≤ d ∧ Held wx d 80 [.int .u8 (K : Nat), .int .i64 (n : Nat), .slice (some ⟨c, 0, none⟩) 1 1, .slice none 0 0, .map (some b)] := hd 9 (by decide)
    have v10 : ∃ d, y 20 = .pointer (some ⟨d, 0, none⟩) ∧ y 3 = .pointer (some ⟨d, 0, none⟩) := hd 10 (by decide)
    clear hd
    obtain ⟨bM, bW, bT, e18, e13, e20, hbT, hTb⟩ := v9
    obtain ⟨b2, e13', hbM, hM⟩ := v4
    rw [e13] at e13' e16
    obtain rfl : bM = b2 := by simpa using e13'
    obtain ⟨d, e20', e3⟩ := v10
    rw [e20] at e20'
    obtain rfl : bT = d := by simpa using e20'
    obtain ⟨b17, e17⟩ := v6
    obtain ⟨b18, e18', hb18, hW⟩ := v7
    rw [e18] at e18'
    obtain rfl : bW = b18 := by simpa using e18'
    obtain ⟨b8, c8, e18'', e13'', e19⟩ := v8
    rw [e18] at e18''
    rw [e13] at e13''
    obtain rfl : bW = c8 := by simpa using e18''
    obtain rfl : bM = b8 := by simpa using e13''
    rw [e17] at hW
    clear v1 e13' e18' e18'' e13'' e20'
    have hG := hx.held hT'.drew
    have hBW : Below w.heap.size w W := by rw [← hW0.out]; exact (Below.refl _ _).alloc (Nat.le_refl _) _
    have hBel : Below w.heap.size w wx := hBW.trans ⟨hx.sm.os, hx.sm.tape, hx.sm.output, hx.sm.size, fun k hk => hx.low k (by have := hH0.out; omega) (by have := hBW.size; show k < W.heap.size; omega)⟩
    simp only [hole, List.foldl_cons, List.foldl_nil, List.setIfInBounds_toArray, List.set_cons_zero, List.set_cons_succ, e3, e12, e13, e14, e15, e16, e17, e18, e19, e20]
    clear e3 e12 e13 e14 e15 e16 e17 e18 e19 e20
    have c0 := hG.at (i := 0) rfl
    have c1 := hG.at (i := 1) rfl
    have HG := Lib.hid hG
    have HM := Lib.hid hM
    have HW := Lib.hid hW
    have HTb := Lib.hid hTb
    have HBel := Lib.hid hBel
    have HlH := Lib.hid hH0.out
    clear hG hM hW hTb hBel hx hT' hBW hW0 hH0
    go_wp2_with (go_at_call 99; refine (one_any K n _).mono ?_; rintro e w2 ⟨rfl, hb2⟩; have HB2 := Lib.hid hb2; clear hb2)
    have hle2 := HB2.out.size
    have hw0 := HBel.out.size
    go_loopw [4, 5] (fun vL ix wr => ∃ (k : Nat) (S : Nat → Prop) (vW vX : Value), ix = .int .i64 k ∧ k ≤ 120 ∧ (bfN K n k).X.length = k ∧ AllI K n H bT bM S wr vL vW vX (bfN K n k).L (bfN K n k).W (bfN K n k).X ∧ Below w.heap.size w wr) (fun _ ix _ => 130 - (intOf ix).toNat)
    case atStart =>
      rw [foldl_zip _ _ (by simp [cs8_length, oneE])]
      exact ⟨0, _, _, _, rfl, by omega, rfl, all_start HG.out HTb.out HM.out HW.out hbT hbM hb18 HB2.out (by have := HlH.out; omega), HBel.out.trans ((HB2.out.alloc hle2 _).mono hw0)⟩
    case round =>
      obtain ⟨k, S, vW, vX, rfl, hk, hxl, hA, hb⟩ := hrel
      have hbf := bfN_ok hv k
      have hbl := bfN_le hv (k := k) (by omega)
      have HEND := Lib.hid (fun h => bfN_end (K := K) (n := n) (k := k) (by omega) h)
      have HSUC := Lib.hid (fun h => bfN_succ_of (K := K) (n := n) (k := k) h)
      have hok0 := hbf.ok
      have hxle := hbf.xl
      clear hbf
      obtain ⟨L0, hL0⟩ : ∃ L0, (bfN K n k).L = L0 := ⟨_, rfl⟩
      obtain ⟨W0, hW0⟩ : ∃ W0, (bfN K n k).W = W0 := ⟨_, rfl⟩
      obtain ⟨X0, hX0⟩ : ∃ X0, (bfN K n k).X = X0 := ⟨_, rfl⟩
      rw [hL0] at hA hbl hok0 HEND HSUC hxle
      rw [hW0] at hA hok0 HEND HSUC
      rw [hX0] at hA HEND HSUC hxl hxle
      clear hL0 hW0 hX0
      obtain ⟨aL, cL, rfl⟩ := hA.hl.slice
      rw [hxl] at HSUC HEND hxle
      have HXL := Lib.hid hxl
      clear hxl
      by_cases hlt : k < L0.length
      · have hki : (k : Int) < (L0.length : Int) := by omega
        have d0 := hA.hg.at (i := 0) rfl
        have d1 := hA.hg.at (i := 1) rfl
        have HA := Lib.hid hA
        have HB := Lib.hid hb
        have hK := validB_lt hv
        have HMS := Lib.hid (mirrors_nat K n hv)
        clear hA hb
        go_upto_region 8 with (go_at_call 66; refine (HMS.out _).mono ?_; rintro e w5 ⟨rfl, hb5⟩; have HB5 := Lib.hid hb5; clear hb5)
        go_loopw [4, 6, 32] (fun vL row six wq => ∃ (s : Nat) (S : Nat → Prop) (vW : Value), six = .int .i64 s ∧ s ≤ mirs K n ∧ AllI K n H bT bM S wq vL vW vX (bfR K n k L0 W0 s).1 (bfR K n k L0 W0 s).2.1 X0 ∧ OwnI 3 H wq row (toI (bfR K n k L0 W0 s).2.2) ∧ (∀ j, row.ownBlock = some j → ¬ S j) ∧ Below w.heap.size w wq) (fun _ _ six _ => mirs K n - (intOf six).toNat)
        case atStart => exact ⟨0, S, vW, rfl, Nat.zero_le _, HA.out.below HB5.out, OwnI.nil _ _ _, fun j h => (by cases h), HB.out.trans (HB5.out.mono HB.out.size)⟩
        case round =>
          obtain ⟨s, S1, vW1, rfl, hs, hA, hrow, hrS, hb⟩ := hrel
          have hro := bfR_ok hv hok0 hlt s hs
          obtain ⟨r, hr0⟩ : ∃ r, bfR K n k L0 W0 s = r := ⟨_, rfl⟩
          have HSTEP := Lib.hid (show bfR K n k L0 W0 (s + 1) = bfS K n k s r by rw [bfR, hr0])
          have HR0 := Lib.hid hr0
          rw [hr0] at hA hrow hro
          clear hr0
          obtain ⟨L, Wd, rwl⟩ := r
          have hok := hro.ok
          have hkL : k < L.length := Nat.lt_of_lt_of_le hlt hro.preL.length_le
          have hgr := hro.grow
          have hrl := hro.row
          simp only at hA hrow hok hgr hrl
          clear hro
          have hL120 : L.length ≤ 130 := by have := mirs_le hv; omega
          have hms4 := mirs_le hv
          by_cases hsm : s < mirs K n
          · have hsi : (s : Int) < ((mirs K n : Nat) : Int) := by omega
            replace hA := hA.drew
            replace hrow := hrow.drew
            replace hb := hb.drew
            obtain ⟨g, cap, e4, hgH, hgl, hrng⟩ := hA.hl.at (fun l hl => (hok.elt l hl).len) k hkL
            subst e4
            have hkLi : (k : Int) < (L.length : Int) := by omega
            obtain ⟨Lk, hLk0⟩ : ∃ Lk, L[k] = Lk := ⟨_, rfl⟩
            have hLk : Elt Lk := by rw [← hLk0]; exact hok.elt _ (List.getElem_mem hkL)
            have hLkd : L.getD k [] = Lk := by rw [← hLk0]; simp [List.getD, List.getElem?_eq_getElem hkL]
            rw [hLk0] at hrng
            obtain ⟨M, hM⟩ : ∃ M, mirE K n s = M := ⟨_, rfl⟩
            have hMe : Elt M := by rw [← hM]; exact elt_mir K n s hv hsm
            obtain ⟨E, hE⟩ : ∃ E, thenE Lk M = E := ⟨_, rfl⟩
            have hEl : Elt E := by rw [← hE]; exact hLk.then hMe
            have HBS := Lib.hid (bfS_eq K n k s L Wd rwl E (by rw [hLkd, hM, hE]))
            obtain ⟨H0, hH0⟩ : ∃ H0, wr.heap.size = H0 := ⟨_, rfl⟩
            have HROW := Lib.hid hrow
            have HRS := Lib.hid hrS
            have HBQ := Lib.hid hb
            have HOK := Lib.hid hok
            have HL1 := Lib.hid hLk0
            have HL2 := Lib.hid hLkd
            have HH0 := Lib.hid hH0
            have HRL := Lib.hid hrl
            clear hrow hrS hb hok hLk0 hLkd hH0 hrl d0 d1
            go_upto_region 10 with (fail)
            refine wp_region_tail (by kernel_rfl) [8, 35, 36, 37, 38, 39, 40, 41, 42] (by kernel_rfl) (by kernel_rfl) (by kernel_rfl) 9 9 (by decide) rfl (by kernel_rfl) ExtB ExtB.refl (fun _ _ _ => ExtB.trans) (All2 K n H0 k s g (.slice (some ⟨g, 0, none⟩) L.length cap) Lk M E) ?_ ?_ ?_
            · intro f j y y' wx hj h hv
              match j, hj, h, hv with
              | 0, _, h, hv =>
                have e35 : y 35 = y' 35 := h 0 35 (.inr rfl) (by kernel_rfl)
                have hv' : All2 K n H0 k s g (.slice (some ⟨g, 0, none⟩) L.length cap) Lk M E f 0 y wx := hv
                simp only [All2] at hv' ⊢
                rw [← e35]
                exact hv'
              | 1, _, h, hv =>
                have e36 : y 36 = y' 36 := h 1 36 (.inr rfl) (by kernel_rfl)
                have hv' : All2 K n H0 k s g (.slice (some ⟨g, 0, none⟩) L.length cap) Lk M E f 1 y wx := hv
                simp only [All2] at hv' ⊢
                rw [← e36]
                exact hv'
              | 2, _, h, hv =>
                have e37 : y 37 = y' 37 := h 2 37 (.inr rfl) (by kernel_rfl)
                have hv' : All2 K n H0 k s g (.slice (some ⟨g, 0, none⟩) L.length cap) Lk M E f 2 y wx := hv
                simp only [All2] at hv' ⊢
                rw [← e37]
                exact hv'
              | 3, _, h, hv =>
                have e38 : y 38 = y' 38 := h 3 38 (.inr rfl) (by kernel_rfl)
                have hv' : All2 K n H0 k s g (.slice (some ⟨g, 0, none⟩) L.length cap) Lk M E f 3 y wx := hv
                simp only [All2] at hv' ⊢
                rw [← e38]
                exact hv'
              | 4, _, h, hv =>
                have e39 : y 39 = y' 39 := h 4 39 (.inr rfl) (by kernel_rfl)
                have hv' : All2 K n H0 k s g (.slice (some ⟨g, 0, none⟩) L.length cap) Lk M E f 4 y wx := hv
                simp only [All2] at hv' ⊢
                rw [← e39]
                exact hv'
              | 5, _, h, hv =>
                have e40 : y 40 = y' 40 := h 5 40 (.inr rfl) (by kernel_rfl)
                have hv' : All2 K n H0 k s g (.slice (some ⟨g, 0, none⟩) L.length cap) Lk M E f 5 y wx := hv
                simp only [All2] at hv' ⊢
                rw [← e40]
                exact hv'
              | 6, _, h, hv =>
                have e41 : y 41 = y' 41 := h 6 41 (.inr rfl) (by kernel_rfl)
                have hv' : All2 K n H0 k s g (.slice (some ⟨g, 0, none⟩) L.length cap) Lk M E f 6 y wx := hv
                simp only [All2] at hv' ⊢
                rw [← e41]
                exact hv'
              | 7, _, h, hv =>
                have e42 : y 42 = y' 42 := h 7 42 (.inr rfl) (by kernel_rfl)
                have hv' : All2 K n H0 k s g (.slice (some ⟨g, 0, none⟩) L.length cap) Lk M E f 7 y wx := hv
                simp only [All2] at hv' ⊢
                rw [← e42]
                exact hv'
              | 8, _, h, hv =>
                have e8 : y 8 = y' 8 := h 8 8 (.inr rfl) (by kernel_rfl)
                have hv' : All2 K n H0 k s g (.slice (some ⟨g, 0, none⟩) L.length cap) Lk M E f 8 y wx := hv
                simp only [All2] at hv' ⊢
                rw [← e8]
                exact hv'
              | j + 9, hj, _, _ => exact absurd hj (by omega)
            · intro i o him ho f y wx hx hf hd hini
              match i, him, ho, hf with
              | 0, _, ho, hf =>
                obtain rfl := Option.some.inj ho
                obtain rfl : f = false := hf (.inl (by kernel_rfl))
                refine rstep_value rfl (v := .slice (some ⟨g, 0, none⟩) L.length cap) (w' := wx) ?_ ⟨ExtB.refl _, rfl, by intro j hj _ _ h; simpa using h⟩
                · simp only [hole, List.foldl_cons, List.foldl_nil, List.setIfInBounds_toArray, List.set_cons_zero, List.set_cons_succ]
                  go_simp
              | 1, _, ho, hf =>
                obtain rfl := Option.some.inj ho
                obtain rfl : f = false := hf (.inl (by kernel_rfl))
                refine rstep_value rfl (v := .int .i64 (k : Nat)) (w' := wx) ?_ ⟨ExtB.refl _, rfl, by intro j hj _ _ h; simpa using h⟩
                · simp only [hole, List.foldl_cons, List.foldl_nil, List.setIfInBounds_toArray, List.set_cons_zero, List.set_cons_succ]
                  go_simp
              | 2, _, ho, hf =>
                obtain rfl := Option.some.inj ho
                obtain rfl : f = false := hf (.inl (by kernel_rfl))
                have e35 : y 35 = .slice (some ⟨g, 0, none⟩) L.length cap := hd 0 (by kernel_rfl) (by decide)
                have e36 : y 36 = .int .i64 (k : Nat) := hd 1 (by kernel_rfl) (by decide)
                refine rstep_value rfl (v := .pointer (some ⟨g, k * 24, none⟩)) (w' := wx) ?_ ⟨ExtB.refl _, rfl, by intro j hj _ _ h; simpa using h⟩
                · simp only [hole, List.foldl_cons, List.foldl_nil, List.setIfInBounds_toArray, List.set_cons_zero, List.set_cons_succ]
                  go_simp
              | 3, _, ho, hf =>
                obtain rfl := Option.some.inj ho
                obtain rfl : f = false := hf (.inl (by kernel_rfl))
                have e37 : y 37 = .pointer (some ⟨g, k * 24, none⟩) := hd 2 (by kernel_rfl) (by decide)
                have hr := run_loadAt_mid (P := Try.prog) wx g (k * 24) 113 (cs8 Lk) _ (range_below hrng hx hgl) Try.underlying113 rfl (infoLl hLk.len)
                refine rstep_value rfl (v := .agg (cs8 Lk).toArray) (w' := wx) ?_ ⟨ExtB.refl _, rfl, by intro j hj _ _ h; simpa using h⟩
                · simp only [hole, List.foldl_cons, List.foldl_nil, List.setIfInBounds_toArray, List.set_cons_zero, List.set_cons_succ]
                  simp [execOp, Act.eval, e37, hr, Result.andThen]
              | 4, _, ho, hf =>
                obtain rfl := Option.some.inj ho
                obtain rfl : f = false := hf (.inl (by kernel_rfl))
                have c0 := (hA.hg.below hx hA.hg.lt).at (i := 0) rfl
                have c1 := (hA.hg.below hx hA.hg.lt).at (i := 1) rfl
                refine rstep_value rfl (v := .agg #[.int .u8 (K : Nat), .int .i64 (n : Nat)]) (w' := wx) ?_ ⟨ExtB.refl _, rfl, by intro j hj _ _ h; simpa using h⟩
                · simp only [hole, List.foldl_cons, List.foldl_nil, List.setIfInBounds_toArray, List.set_cons_zero, List.set_cons_succ]
                  go_simp
              | 5, _, ho, hf =>
                obtain rfl := Option.some.inj ho
                obtain rfl : f = false := hf (.inl (by kernel_rfl))
                refine rstep_value rfl (v := .int .i64 (s : Nat)) (w' := wx) ?_ ⟨ExtB.refl _, rfl, by intro j hj _ _ h; simpa using h⟩
                · simp only [hole, List.foldl_cons, List.foldl_nil, List.setIfInBounds_toArray, List.set_cons_zero, List.set_cons_succ]
                  go_simp
              | 6, _, ho, hf =>
                obtain rfl := Option.some.inj ho
                obtain rfl : f = false := hf (.inl (by kernel_rfl))
                have e39 : y 39 = .agg #[.int .u8 (K : Nat), .int .i64 (n : Nat)] := hd 4 (by kernel_rfl) (by decide)
                have e40 : y 40 = .int .i64 (s : Nat) := hd 5 (by kernel_rfl) (by decide)
                refine rstep_call rfl (f := 101) (args := #[.agg #[.int .u8 (K : Nat), .int .i64 (n : Nat)], .int .i64 (s : Nat)]) (w' := wx) ?_ (mirror_any K n s wx hv hsm) ?_
                · simp only [hole, List.foldl_cons, List.foldl_nil, List.setIfInBounds_toArray, List.set_cons_zero, List.set_cons_succ]
                  go_simp
                · rintro e w'' ⟨rfl, hb⟩
                  exact ⟨_, rfl, hb, by rw [← hM]; rfl, (fun j _ _ _ h => All2_keep K n H0 k s g (.slice (some ⟨g, 0, none⟩) L.length cap) Lk M E _ j y _ _ hb (by simpa using h))⟩
              | 7, _, ho, hf =>
                obtain rfl := Option.some.inj ho
                obtain rfl : f = false := hf (.inl (by kernel_rfl))
                have e38 : y 38 = .agg (cs8 Lk).toArray := hd 3 (by kernel_rfl) (by decide)
                have e41 : y 41 = .agg (cs8 M).toArray := hd 6 (by kernel_rfl) (by decide)
                refine rstep_call rfl (f := 100) (args := #[.agg (cs8 Lk).toArray, .agg (cs8 M).toArray]) (w' := wx) ?_ (then_any Lk M wx hLk hMe) ?_
                · simp only [hole, List.foldl_cons, List.foldl_nil, List.setIfInBounds_toArray, List.set_cons_zero, List.set_cons_succ]
                  go_simp
                · rintro e w'' ⟨rfl, hb⟩
                  exact ⟨_, rfl, hb, by rw [← hE]; rfl, (fun j _ _ _ h => All2_keep K n H0 k s g (.slice (some ⟨g, 0, none⟩) L.length cap) Lk M E _ j y _ _ hb (by simpa using h))⟩
              | 8, _, ho, hf =>
                obtain rfl := Option.some.inj ho
                obtain rfl : f = false := hf (.inl (by kernel_rfl))
                have hbl := (Below.refl wx.heap.size wx).alloc (Nat.le_refl _) (.cells (cs8 zeroE).toArray 113)
                refine rstep_value rfl (v := .pointer (some ⟨wx.heap.size, 0, none⟩)) (w' := wx.alloc (.cells (cs8 zeroE).toArray 113)) ?_ ⟨hbl, ⟨_, rfl, (by have h1 := hx.size; have h2 := HH0.out; have h3 : wr.heap.size ≤ wx.heap.size := h1; omega), Held.new _ _ _⟩, (fun j _ _ _ h => All2_keep K n H0 k s g (.slice (some ⟨g, 0, none⟩) L.length cap) Lk M E _ j y _ _ hbl (by simpa using h))⟩
                · simp only [hole, List.foldl_cons, List.foldl_nil, List.setIfInBounds_toArray, List.set_cons_zero, List.set_cons_succ]
                  first | (go_simp; done) | (go_simp; rfl)
              | _ + 9, him, _, _ => exact absurd him (by omega)
            · intro o ho y wx hx hd hini
              obtain rfl := Option.some.inj ho
              have e35 : y 35 = .slice (some ⟨g, 0, none⟩) L.length cap := hd 0 (by decide)
              have e36 : y 36 = .int .i64 (k : Nat) := hd 1 (by decide)
              have e37 : y 37 = .pointer (some ⟨g, k * 24, none⟩) := hd 2 (by decide)
              have e38 : y 38 = .agg (cs8 Lk).toArray := hd 3 (by decide)
              have e39 : y 39 = .agg #[.int .u8 (K : Nat), .int .i64 (n : Nat)] := hd 4 (by decide)
              have e40 : y 40 = .int .i64 (s : Nat) := hd 5 (by decide)
              have e41 : y 41 = .agg (cs8 M).toArray := hd 6 (by decide)
              have e42 : y 42 = .agg (cs8 E).toArray := hd 7 (by decide)
              have v8 : ∃ b, y 8 = .pointer (some ⟨b, 0, none⟩) ∧ H0 ≤ b ∧ Held wx b 113 (cs8 zeroE) := hd 8 (by decide)
              clear hd
              obtain ⟨b8, e8, hb8, hz8⟩ := v8
              have hrun := run_storeAt_mid (P := Try.prog) wx b8 0 113 (cs8 E).toArray (zero_there hEl.len hz8) (infoL hEl.len) (all_oneCell_toArray (cs8_one _))
              refine rstep_skip rfl (w' := wx.setCells b8 0 (cs8 E).toArray.toList) ?_ ?_
              · simp only [hole, List.foldl_cons, List.foldl_nil, List.setIfInBounds_toArray, List.set_cons_zero, List.set_cons_succ]
                simp [execOp, Act.eval, e8, e42, hrun, Result.andThen]
              have hE8 : Held (wx.setCells b8 0 (cs8 E).toArray.toList) b8 113 (cs8 E) := hz8.over (cs8 E) (by rw [zero_len, cs8_length, hEl.len])
              have hBl : Below wr.drew.heap.size wr.drew (wx.setCells b8 0 (cs8 E).toArray.toList) := below_setCells b8 (by have := HH0.out; show wr.heap.size ≤ b8; omega) _ _ _ hx
              obtain ⟨w3, hw3⟩ : ∃ w3, wx.setCells b8 0 (cs8 E).toArray.toList = w3 := ⟨_, rfl⟩
              rw [hw3] at hE8 hBl ⊢
              have hA3 := hA.below hBl
              have hrow3 := HROW.out.below hBl
              have hb3 := HBQ.out.trans (hBl.mono HBQ.out.size)
              rw [updO_at_none y _ undef rfl]
              simp only [hole, List.foldl_cons, List.foldl_nil, List.setIfInBounds_toArray, List.set_cons_zero, List.set_cons_succ, e8, e35, e36, e37, e38, e39, e40, e41, e42]
              clear e8 e35 e36 e37 e38 e39 e40 e41 e42 hz8 hBl hw3 hA hx hrng hrun hini
              go_upto_region 11 with (fail)
              have hlk0 := hA3.drew.hm.look HOK.out.elt HOK.out.nodup hEl
              by_cases hm : E ∈ L
              · have hlk := hlk0
                rw [if_pos hm, decide_eq_true hm] at hlk
                have HLK := Lib.hid hlk
                have HMM := Lib.hid hm
                clear hlk0 hlk hm
                refine wp_region_tail (by kernel_rfl) [9, 10, 43, 44, 45, 46, 47, 48, 49, 50, 51] (by kernel_rfl) (by kernel_rfl) (by kernel_rfl) 10 10 (by decide) rfl (by kernel_rfl) ExtEq ExtEq.refl (fun _ _ _ => ExtEq.trans) (All3 bT bM E ((L.idxOf E : Nat)) true) ?_ ?_ ?_
                · intro f j y y' wx hj h hv
                  match j, hj, h, hv with
                  | 0, _, h, hv =>
                    have e44 : y 44 = y' 44 := h 0 44 (.inr rfl) (by kernel_rfl)
                    have hv' : All3 bT bM E ((L.idxOf E : Nat)) true f 0 y wx := hv
                    simp only [All3] at hv' ⊢
                    rw [← e44]
                    exact hv'
                  | 1, _, h, hv =>
                    have e45 : y 45 = y' 45 := h 1 45 (.inr rfl) (by kernel_rfl)
                    have hv' : All3 bT bM E ((L.idxOf E : Nat)) true f 1 y wx := hv
                    simp only [All3] at hv' ⊢
                    rw [← e45]
                    exact hv'
                  | 2, _, h, hv =>
                    have e46 : y 46 = y' 46 := h 2 46 (.inr rfl) (by kernel_rfl)
                    have hv' : All3 bT bM E ((L.idxOf E : Nat)) true f 2 y wx := hv
                    simp only [All3] at hv' ⊢
                    rw [← e46]
                    exact hv'
                  | 3, _, h, hv =>
                    have e47 : y 47 = y' 47 := h 3 47 (.inr rfl) (by kernel_rfl)
                    have hv' : All3 bT bM E ((L.idxOf E : Nat)) true f 3 y wx := hv
                    simp only [All3] at hv' ⊢
                    rw [← e47]
                    exact hv'
                  | 4, _, h, hv =>
                    have e48 : y 48 = y' 48 := h 4 48 (.inr rfl) (by kernel_rfl)
                    have hv' : All3 bT bM E ((L.idxOf E : Nat)) true f 4 y wx := hv
                    simp only [All3] at hv' ⊢
                    rw [← e48]
                    exact hv'
                  | 5, _, h, hv =>
                    have e49 : y 49 = y' 49 := h 5 49 (.inr rfl) (by kernel_rfl)
                    have hv' : All3 bT bM E ((L.idxOf E : Nat)) true f 5 y wx := hv
                    simp only [All3] at hv' ⊢
                    rw [← e49]
                    exact hv'
                  | 6, _, h, hv =>
                    have e43 : y 43 = y' 43 := h 6 43 (.inr rfl) (by kernel_rfl)
                    have hv' : All3 bT bM E ((L.idxOf E : Nat)) true f 6 y wx := hv
                    simp only [All3] at hv' ⊢
                    rw [← e43]
                    exact hv'
                  | 7, _, h, hv =>
                    have e50 : y 50 = y' 50 := h 7 50 (.inr rfl) (by kernel_rfl)
                    have hv' : All3 bT bM E ((L.idxOf E : Nat)) true f 7 y wx := hv
                    simp only [All3] at hv' ⊢
                    rw [← e50]
                    exact hv'
                  | 8, _, h, hv =>
                    have e51 : y 51 = y' 51 := h 8 51 (.inr rfl) (by kernel_rfl)
                    have hv' : All3 bT bM E ((L.idxOf E : Nat)) true f 8 y wx := hv
                    simp only [All3] at hv' ⊢
                    rw [← e51]
                    exact hv'
                  | 9, _, h, hv =>
                    have e9 : y 9 = y' 9 := h 9 9 (.inr rfl) (by kernel_rfl)
                    have hv' : All3 bT bM E ((L.idxOf E : Nat)) true f 9 y wx := hv
                    simp only [All3] at hv' ⊢
                    rw [← e9]
                    exact hv'
                  | j + 10, hj, _, _ => exact absurd hj (by omega)
                · intro i o him ho f y wx hx hf hd hini
                  match i, him, ho, hf with
                  | 0, _, ho, hf =>
                    obtain rfl := Option.some.inj ho
                    obtain rfl : f = false := hf (.inl (by kernel_rfl))
                    refine rstep_value rfl (v := .pointer (some ⟨bT, 0, none⟩)) (w' := wx) ?_ ⟨ExtEq.refl _, rfl, by intro j hj _ _ h; simpa using h⟩
                    · simp only [hole, List.foldl_cons, List.foldl_nil, List.setIfInBounds_toArray, List.set_cons_zero, List.set_cons_succ]
                      go_simp
                  | 1, _, ho, hf =>
                    obtain rfl := Option.some.inj ho
                    obtain rfl : f = false := hf (.inl (by kernel_rfl))
                    have e44 : y 44 = .pointer (some ⟨bT, 0, none⟩) := hd 0 (by kernel_rfl) (by decide)
                    refine rstep_value rfl (v := .pointer (some ⟨bT, 0, none⟩)) (w' := wx) ?_ ⟨ExtEq.refl _, rfl, by intro j hj _ _ h; simpa using h⟩
                    · simp only [hole, List.foldl_cons, List.foldl_nil, List.setIfInBounds_toArray, List.set_cons_zero, List.set_cons_succ]
                      go_simp
                  | 2, _, ho, hf =>
                    obtain rfl := Option.some.inj ho
                    obtain rfl : f = false := hf (.inl (by kernel_rfl))
                    have e45 : y 45 = .pointer (some ⟨bT, 0, none⟩) := hd 1 (by kernel_rfl) (by decide)
                    refine rstep_value rfl (v := .pointer (some ⟨bT, 4, none⟩)) (w' := wx) ?_ ⟨ExtEq.refl _, rfl, by intro j hj _ _ h; simpa using h⟩
                    · simp only [hole, List.foldl_cons, List.foldl_nil, List.setIfInBounds_toArray, List.set_cons_zero, List.set_cons_succ]
                      go_simp
                  | 3, _, ho, hf =>
                    obtain rfl := Option.some.inj ho
                    obtain rfl : f = false := hf (.inl (by kernel_rfl))
                    have e46 : y 46 = .pointer (some ⟨bT, 4, none⟩) := hd 2 (by kernel_rfl) (by decide)
                    have c4 : wx.cell? ⟨bT, 4, none⟩ = some (.map (some bM)) := by rw [← show w3.drew = wx from hx]; exact hA3.drew.ht.at (i := 4) rfl
                    refine rstep_value rfl (v := .map (some bM)) (w' := wx) ?_ ⟨ExtEq.refl _, rfl, by intro j hj _ _ h; simpa using h⟩
                    · simp only [hole, List.foldl_cons, List.foldl_nil, List.setIfInBounds_toArray, List.set_cons_zero, List.set_cons_succ]
                      go_simp
                  | 4, _, ho, hf =>
                    obtain rfl := Option.some.inj ho
                    obtain rfl : f = false := hf (.inl (by kernel_rfl))
                    have hr := run_loadAt_mid (P := Try.prog) wx b8 0 113 (cs8 E) _ (by rw [← show w3.drew = wx from hx]; exact hE8.drew.range) Try.underlying113 rfl (infoLl hEl.len)
                    refine rstep_value rfl (v := .agg (cs8 E).toArray) (w' := wx) ?_ ⟨ExtEq.refl _, rfl, by intro j hj _ _ h; simpa using h⟩
                    · simp only [hole, List.foldl_cons, List.foldl_nil, List.setIfInBounds_toArray, List.set_cons_zero, List.set_cons_succ]
                      simp [execOp, Act.eval, hr, Result.andThen]
                  | 5, _, ho, hf =>
                    obtain rfl := Option.some.inj ho
                    obtain rfl : f = false := hf (.inl (by kernel_rfl))
                    have e47 : y 47 = .map (some bM) := hd 3 (by kernel_rfl) (by decide)
                    have e48 : y 48 = .agg (cs8 E).toArray := hd 4 (by kernel_rfl) (by decide)
                    have hr : (Instr.lookup 78 (.map (some bM)) (.agg (cs8 E).toArray) true).run Try.prog wx = .ok (.tuple #[.int .i64 ((L.idxOf E : Nat)), .bool true]) wx := by rw [← show w3.drew = wx from hx]; exact HLK.out
                    refine rstep_value rfl (v := .tuple #[.int .i64 ((L.idxOf E : Nat)), .bool true]) (w' := wx) ?_ ⟨ExtEq.refl _, rfl, by intro j hj _ _ h; simpa using h⟩
                    · simp only [hole, List.foldl_cons, List.foldl_nil, List.setIfInBounds_toArray, List.set_cons_zero, List.set_cons_succ]
                      simp [execOp, Act.eval, e47, e48, hr, Result.andThen]
                  | 6, _, ho, hf =>
                    obtain rfl := Option.some.inj ho
                    obtain rfl : f = false := hf (.inl (by kernel_rfl))
                    have e49 : y 49 = .tuple #[.int .i64 ((L.idxOf E : Nat)), .bool true] := hd 5 (by kernel_rfl) (by decide)
                    refine rstep_value rfl (v := .tuple #[.int .i64 ((L.idxOf E : Nat)), .bool true]) (w' := wx) ?_ ⟨ExtEq.refl _, rfl, by intro j hj _ _ h; simpa using h⟩
                    · simp only [hole, List.foldl_cons, List.foldl_nil, List.setIfInBounds_toArray, List.set_cons_zero, List.set_cons_succ]
                      go_simp
                  | 7, _, ho, hf =>
                    obtain rfl := Option.some.inj ho
                    obtain rfl : f = false := hf (.inl (by kernel_rfl))
                    have e43 : y 43 = .tuple #[.int .i64 ((L.idxOf E : Nat)), .bool true] := hd 6 (by kernel_rfl) (by decide)
                    refine rstep_value rfl (v := .int .i64 ((L.idxOf E : Nat))) (w' := wx) ?_ ⟨ExtEq.refl _, rfl, by intro j hj _ _ h; simpa using h⟩
                    · simp only [hole, List.foldl_cons, List.foldl_nil, List.setIfInBounds_toArray, List.set_cons_zero, List.set_cons_succ]
                      go_simp
                  | 8, _, ho, hf =>
                    obtain rfl := Option.some.inj ho
                    obtain rfl : f = false := hf (.inl (by kernel_rfl))
                    have e43 : y 43 = .tuple #[.int .i64 ((L.idxOf E : Nat)), .bool true] := hd 6 (by kernel_rfl) (by decide)
                    refine rstep_value rfl (v := .bool true) (w' := wx) ?_ ⟨ExtEq.refl _, rfl, by intro j hj _ _ h; simpa using h⟩
                    · simp only [hole, List.foldl_cons, List.foldl_nil, List.setIfInBounds_toArray, List.set_cons_zero, List.set_cons_succ]
                      go_simp
                  | 9, _, ho, hf =>
                    obtain rfl := Option.some.inj ho
                    obtain rfl : f = false := hf (.inl (by kernel_rfl))
                    have e50 : y 50 = .int .i64 ((L.idxOf E : Nat)) := hd 7 (by kernel_rfl) (by decide)
                    refine rstep_value rfl (v := .int .i64 ((L.idxOf E : Nat))) (w' := wx) ?_ ⟨ExtEq.refl _, rfl, by intro j hj _ _ h; simpa using h⟩
                    · simp only [hole, List.foldl_cons, List.foldl_nil, List.setIfInBounds_toArray, List.set_cons_zero, List.set_cons_succ]
                      go_simp
                  | _ + 10, him, _, _ => exact absurd him (by omega)
                · intro o ho y wx hx hd hini
                  obtain rfl := Option.some.inj ho
                  have e44 : y 44 = .pointer (some ⟨bT, 0, none⟩) := hd 0 (by decide)
                  have e45 : y 45 = .pointer (some ⟨bT, 0, none⟩) := hd 1 (by decide)
                  have e46 : y 46 = .pointer (some ⟨bT, 4, none⟩) := hd 2 (by decide)
                  have e47 : y 47 = .map (some bM) := hd 3 (by decide)
                  have e48 : y 48 = .agg (cs8 E).toArray := hd 4 (by decide)
                  have e49 : y 49 = .tuple #[.int .i64 ((L.idxOf E : Nat)), .bool true] := hd 5 (by decide)
                  have e43 : y 43 = .tuple #[.int .i64 ((L.idxOf E : Nat)), .bool true] := hd 6 (by decide)
                  have e50 : y 50 = .int .i64 ((L.idxOf E : Nat)) := hd 7 (by decide)
                  have e51 : y 51 = .bool true := hd 8 (by decide)
                  have e9 : y 9 = .int .i64 ((L.idxOf E : Nat)) := hd 9 (by decide)
                  clear hd
                  refine rstep_value rfl (v := .bool true) (w' := wx) ?_ ?_
                  · simp only [hole, List.foldl_cons, List.foldl_nil, List.setIfInBounds_toArray, List.set_cons_zero, List.set_cons_succ]
                    go_simp
                  obtain rfl : w3.drew = wx := hx
                  rw [updO_at_some y _ (.bool true) 10 rfl]
                  have u10 : upd y 10 (.bool true) 10 = .bool true := rfl
                  have u44 : upd y 10 (.bool true) 44 = y 44 := rfl
                  have u45 : upd y 10 (.bool true) 45 = y 45 := rfl
                  have u46 : upd y 10 (.bool true) 46 = y 46 := rfl
                  have u47 : upd y 10 (.bool true) 47 = y 47 := rfl
                  have u48 : upd y 10 (.bool true) 48 = y 48 := rfl
                  have u49 : upd y 10 (.bool true) 49 = y 49 := rfl
                  have u43 : upd y 10 (.bool true) 43 = y 43 := rfl
                  have u50 : upd y 10 (.bool true) 50 = y 50 := rfl
                  have u51 : upd y 10 (.bool true) 51 = y 51 := rfl
                  have u9 : upd y 10 (.bool true) 9 = y 9 := rfl
                  simp only [hole, List.foldl_cons, List.foldl_nil, List.setIfInBounds_toArray, List.set_cons_zero, List.set_cons_succ, u10, u44, e44, u45, e45, u46, e46, u47, e47, u48, e48, u49, e49, u43, e43, u50, e50, u51, e51, u9, e9]
                  clear u10 u44 e44 u45 e45 u46 e46 u47 e47 u48 e48 u49 e49 u43 e43 u50 e50 u51 e51 u9 e9 hini
                  have HA3 := Lib.hid hA3
                  have HR3 := Lib.hid hrow3
                  have HB3 := Lib.hid hb3
                  have hsz3 := hb3.size
                  have hHs := HlH.out
                  have hrl4 : rwl.length ≤ 4 := by have := HRL.out; omega
                  clear hA3 hrow3 hb3 hE8
                  go_wp2_with (at_builtin; refine wpList_app1_at rfl _ _ rfl H u6 (toI rwl) ((L.idxOf E : Nat) : Int) rfl (HR3.out.drew.alloc _) ⟨_, 0, none⟩ 1 rfl (cell_new1 _ _ _) (by rw [toI_length]; omega) (by simp; omega) ?_; intro v4 w4 ho4 hg4 hl4; have HO4 := Lib.hid ho4; have HE4 := Lib.hid (row_end (HA3.out.drew.alloc _) (HR3.out.drew.alloc _) HRS.out hg4 hl4 (by simp; omega)); clear ho4 hg4 hl4)
                  have hfin := HSTEP.out.trans (HBS.out.trans (if_pos HMM.out))
                  refine ⟨⟨s + 1, S1, vW1, by push_cast; rfl, by omega, by rw [hfin]; exact HE4.out.1, by rw [hfin, toI_append]; exact HO4.out, HE4.out.2.1, (HB3.out.drew.alloc (by simpa using hsz3) _).trans (HE4.out.2.2.mono (by omega))⟩, by simp [intOf]; omega⟩
              · have hlk := hlk0
                rw [if_neg hm, decide_eq_false hm] at hlk
                have HLK := Lib.hid hlk
                have HMM := Lib.hid hm
                clear hlk0 hlk hm
                refine wp_region_tail (by kernel_rfl) [9, 10, 43, 44, 45, 46, 47, 48, 49, 50, 51] (by kernel_rfl) (by kernel_rfl) (by kernel_rfl) 10 10 (by decide) rfl (by kernel_rfl) ExtEq ExtEq.refl (fun _ _ _ => ExtEq.trans) (All3 bT bM E (0) false) ?_ ?_ ?_
                · intro f j y y' wx hj h hv
                  match j, hj, h, hv with
                  | 0, _, h, hv =>
                    have e44 : y 44 = y' 44 := h 0 44 (.inr rfl) (by kernel_rfl)
                    have hv' : All3 bT bM E (0) false f 0 y wx := hv
                    simp only [All3] at hv' ⊢
                    rw [← e44]
                    exact hv'
                  | 1, _, h, hv =>
                    have e45 : y 45 = y' 45 := h 1 45 (.inr rfl) (by kernel_rfl)
                    have hv' : All3 bT bM E (0) false f 1 y wx := hv
                    simp only [All3] at hv' ⊢
                    rw [← e45]
                    exact hv'
                  | 2, _, h, hv =>
                    have e46 : y 46 = y' 46 := h 2 46 (.inr rfl) (by kernel_rfl)
                    have hv' : All3 bT bM E (0) false f 2 y wx := hv
                    simp only [All3] at hv' ⊢
                    rw [← e46]
                    exact hv'
                  | 3, _, h, hv =>
                    have e47 : y 47 = y' 47 := h 3 47 (.inr rfl) (by kernel_rfl)
                    have hv' : All3 bT bM E (0) false f 3 y wx := hv
                    simp only [All3] at hv' ⊢
                    rw [← e47]
                    exact hv'
                  | 4, _, h, hv =>
                    have e48 : y 48 = y' 48 := h 4 48 (.inr rfl) (by kernel_rfl)
                    have hv' : All3 bT bM E (0) false f 4 y wx := hv
                    simp only [All3] at hv' ⊢
                    rw [← e48]
                    exact hv'
                  | 5, _, h, hv =>
                    have e49 : y 49 = y' 49 := h 5 49 (.inr rfl) (by kernel_rfl)
                    have hv' : All3 bT bM E (0) false f 5 y wx := hv
                    simp only [All3] at hv' ⊢
                    rw [← e49]
                    exact hv'
                  | 6, _, h, hv =>
                    have e43 : y 43 = y' 43 := h 6 43 (.inr rfl) (by kernel_rfl)
                    have hv' : All3 bT bM E (0) false f 6 y wx := hv
                    simp only [All3] at hv' ⊢
                    rw [← e43]
                    exact hv'
                  | 7, _, h, hv =>
                    have e50 : y 50 = y' 50 := h 7 50 (.inr rfl) (by kernel_rfl)
                    have hv' : All3 bT bM E (0) false f 7 y wx := hv
                    simp only [All3] at hv' ⊢
                    rw [← e50]
                    exact hv'
                  | 8, _, h, hv =>
                    have e51 : y 51 = y' 51 := h 8 51 (.inr rfl) (by kernel_rfl)
                    have hv' : All3 bT bM E (0) false f 8 y wx := hv
                    simp only [All3] at hv' ⊢
                    rw [← e51]
                    exact hv'
                  | 9, _, h, hv =>
                    have e9 : y 9 = y' 9 := h 9 9 (.inr rfl) (by kernel_rfl)
                    have hv' : All3 bT bM E (0) false f 9 y wx := hv
                    simp only [All3] at hv' ⊢
                    rw [← e9]
                    exact hv'
                  | j + 10, hj, _, _ => exact absurd hj (by omega)
                · intro i o him ho f y wx hx hf hd hini
                  match i, him, ho, hf with
                  | 0, _, ho, hf =>
                    obtain rfl := Option.some.inj ho
                    obtain rfl : f = false := hf (.inl (by kernel_rfl))
                    refine rstep_value rfl (v := .pointer (some ⟨bT, 0, none⟩)) (w' := wx) ?_ ⟨ExtEq.refl _, rfl, by intro j hj _ _ h; simpa using h⟩
                    · simp only [hole, List.foldl_cons, List.foldl_nil, List.setIfInBounds_toArray, List.set_cons_zero, List.set_cons_succ]
                      go_simp
                  | 1, _, ho, hf =>
                    obtain rfl := Option.some.inj ho
                    obtain rfl : f = false := hf (.inl (by kernel_rfl))
                    have e44 : y 44 = .pointer (some ⟨bT, 0, none⟩) := hd 0 (by kernel_rfl) (by decide)
                    refine rstep_value rfl (v := .pointer (some ⟨bT, 0, none⟩)) (w' := wx) ?_ ⟨ExtEq.refl _, rfl, by intro j hj _ _ h; simpa using h⟩
                    · simp only [hole, List.foldl_cons, List.foldl_nil, List.setIfInBounds_toArray, List.set_cons_zero, List.set_cons_succ]
                      go_simp
                  | 2, _, ho, hf =>
                    obtain rfl := Option.some.inj ho
                    obtain rfl : f = false := hf (.inl (by kernel_rfl))
                    have e45 : y 45 = .pointer (some ⟨bT, 0, none⟩) := hd 1 (by kernel_rfl) (by decide)
                    refine rstep_value rfl (v := .pointer (some ⟨bT, 4, none⟩)) (w' := wx) ?_ ⟨ExtEq.refl _, rfl, by intro j hj _ _ h; simpa using h⟩
                    · simp only [hole, List.foldl_cons, List.foldl_nil, List.setIfInBounds_toArray, List.set_cons_zero, List.set_cons_succ]
                      go_simp
                  | 3, _, ho, hf =>
                    obtain rfl := Option.some.inj ho
                    obtain rfl : f = false := hf (.inl (by kernel_rfl))
                    have e46 : y 46 = .pointer (some ⟨bT, 4, none⟩) := hd 2 (by kernel_rfl) (by decide)
                    have c4 : wx.cell? ⟨bT, 4, none⟩ = some (.map (some bM)) := by rw [← show w3.drew = wx from hx]; exact hA3.drew.ht.at (i := 4) rfl
                    refine rstep_value rfl (v := .map (some bM)) (w' := wx) ?_ ⟨ExtEq.refl _, rfl, by intro j hj _ _ h; simpa using h⟩
                    · simp only [hole, List.foldl_cons, List.foldl_nil, List.setIfInBounds_toArray, List.set_cons_zero, List.set_cons_succ]
                      go_simp
                  | 4, _, ho, hf =>
                    obtain rfl := Option.some.inj ho
                    obtain rfl : f = false := hf (.inl (by kernel_rfl))
                    have hr := run_loadAt_mid (P := Try.prog) wx b8 0 113 (cs8 E) _ (by rw [← show w3.drew = wx from hx]; exact hE8.drew.range) Try.underlying113 rfl (infoLl hEl.len)
                    refine rstep_value rfl (v := .agg (cs8 E).toArray) (w' := wx) ?_ ⟨ExtEq.refl _, rfl, by intro j hj _ _ h; simpa using h⟩
                    · simp only [hole, List.foldl_cons, List.foldl_nil, List.setIfInBounds_toArray, List.set_cons_zero, List.set_cons_succ]
                      simp [execOp, Act.eval, hr, Result.andThen]
                  | 5, _, ho, hf =>
                    obtain rfl := Option.some.inj ho
                    obtain rfl : f = false := hf (.inl (by kernel_rfl))
                    have e47 : y 47 = .map (some bM) := hd 3 (by kernel_rfl) (by decide)
                    have e48 : y 48 = .agg (cs8 E).toArray := hd 4 (by kernel_rfl) (by decide)
                    have hr : (Instr.lookup 78 (.map (some bM)) (.agg (cs8 E).toArray) true).run Try.prog wx = .ok (.tuple #[.int .i64 (0), .bool false]) wx := by rw [← show w3.drew = wx from hx]; exact HLK.out
                    refine rstep_value rfl (v := .tuple #[.int .i64 (0), .bool false]) (w' := wx) ?_ ⟨ExtEq.refl _, rfl, by intro j hj _ _ h; simpa using h⟩
                    · simp only [hole, List.foldl_cons, List.foldl_nil, List.setIfInBounds_toArray, List.set_cons_zero, List.set_cons_succ]
                      simp [execOp, Act.eval, e47, e48, hr, Result.andThen]
                  | 6, _, ho, hf =>
                    obtain rfl := Option.some.inj ho
                    obtain rfl : f = false := hf (.inl (by kernel_rfl))
                    have e49 : y 49 = .tuple #[.int .i64 (0), .bool false] := hd 5 (by kernel_rfl) (by decide)
                    refine rstep_value rfl (v := .tuple #[.int .i64 (0), .bool false]) (w' := wx) ?_ ⟨ExtEq.refl _, rfl, by intro j hj _ _ h; simpa using h⟩
                    · simp only [hole, List.foldl_cons, List.foldl_nil, List.setIfInBounds_toArray, List.set_cons_zero, List.set_cons_succ]
                      go_simp
                  | 7, _, ho, hf =>
                    obtain rfl := Option.some.inj ho
                    obtain rfl : f = false := hf (.inl (by kernel_rfl))
                    have e43 : y 43 = .tuple #[.int .i64 (0), .bool false] := hd 6 (by kernel_rfl) (by decide)
                    refine rstep_value rfl (v := .int .i64 (0)) (w' := wx) ?_ ⟨ExtEq.refl _, rfl, by intro j hj _ _ h; simpa using h⟩
                    · simp only [hole, List.foldl_cons, List.foldl_nil, List.setIfInBounds_toArray, List.set_cons_zero, List.set_cons_succ]
                      go_simp
                  | 8, _, ho, hf =>
                    obtain rfl := Option.some.inj ho
                    obtain rfl : f = false := hf (.inl (by kernel_rfl))
                    have e43 : y 43 = .tuple #[.int .i64 (0), .bool false] := hd 6 (by kernel_rfl) (by decide)
                    refine rstep_value rfl (v := .bool false) (w' := wx) ?_ ⟨ExtEq.refl _, rfl, by intro j hj _ _ h; simpa using h⟩
                    · simp only [hole, List.foldl_cons, List.foldl_nil, List.setIfInBounds_toArray, List.set_cons_zero, List.set_cons_succ]
                      go_simp
                  | 9, _, ho, hf =>
                    obtain rfl := Option.some.inj ho
                    obtain rfl : f = false := hf (.inl (by kernel_rfl))
                    have e50 : y 50 = .int .i64 (0) := hd 7 (by kernel_rfl) (by decide)
                    refine rstep_value rfl (v := .int .i64 (0)) (w' := wx) ?_ ⟨ExtEq.refl _, rfl, by intro j hj _ _ h; simpa using h⟩
                    · simp only [hole, List.foldl_cons, List.foldl_nil, List.setIfInBounds_toArray, List.set_cons_zero, List.set_cons_succ]
                      go_simp
                  | _ + 10, him, _, _ => exact absurd him (by omega)
                · intro o ho y wx hx hd hini
                  obtain rfl := Option.some.inj ho
                  have e44 : y 44 = .pointer (some ⟨bT, 0, none⟩) := hd 0 (by decide)
                  have e45 : y 45 = .pointer (some ⟨bT, 0, none⟩) := hd 1 (by decide)
                  have e46 : y 46 = .pointer (some ⟨bT, 4, none⟩) := hd 2 (by decide)
                  have e47 : y 47 = .map (some bM) := hd 3 (by decide)
                  have e48 : y 48 = .agg (cs8 E).toArray := hd 4 (by decide)
                  have e49 : y 49 = .tuple #[.int .i64 (0), .bool false] := hd 5 (by decide)
                  have e43 : y 43 = .tuple #[.int .i64 (0), .bool false] := hd 6 (by decide)
                  have e50 : y 50 = .int .i64 (0) := hd 7 (by decide)
                  have e51 : y 51 = .bool false := hd 8 (by decide)
                  have e9 : y 9 = .int .i64 (0) := hd 9 (by decide)
                  clear hd
                  refine rstep_value rfl (v := .bool false) (w' := wx) ?_ ?_
                  · simp only [hole, List.foldl_cons, List.foldl_nil, List.setIfInBounds_toArray, List.set_cons_zero, List.set_cons_succ]
                    go_simp
                  obtain rfl : w3.drew = wx := hx
                  rw [updO_at_some y _ (.bool false) 10 rfl]
                  have u10 : upd y 10 (.bool false) 10 = .bool false := rfl
                  have u44 : upd y 10 (.bool false) 44 = y 44 := rfl
                  have u45 : upd y 10 (.bool false) 45 = y 45 := rfl
                  have u46 : upd y 10 (.bool false) 46 = y 46 := rfl
                  have u47 : upd y 10 (.bool false) 47 = y 47 := rfl
                  have u48 : upd y 10 (.bool false) 48 = y 48 := rfl
                  have u49 : upd y 10 (.bool false) 49 = y 49 := rfl
                  have u43 : upd y 10 (.bool false) 43 = y 43 := rfl
                  have u50 : upd y 10 (.bool false) 50 = y 50 := rfl
                  have u51 : upd y 10 (.bool false) 51 = y 51 := rfl
                  have u9 : upd y 10 (.bool false) 9 = y 9 := rfl
                  simp only [hole, List.foldl_cons, List.foldl_nil, List.setIfInBounds_toArray, List.set_cons_zero, List.set_cons_succ, u10, u44, e44, u45, e45, u46, e46, u47, e47, u48, e48, u49, e49, u43, e43, u50, e50, u51, e51, u9, e9]
                  clear u10 u44 e44 u45 e45 u46 e46 u47 e47 u48 e48 u49 e49 u43 e43 u50 e50 u51 e51 u9 e9 hini
                  have HA3 := Lib.hid hA3
                  have HR3 := Lib.hid hrow3
                  have HB3 := Lib.hid hb3
                  have HE8 := Lib.hid hE8
                  have hsz3 := hb3.size
                  have hHs := HlH.out
                  have hrl4 : rwl.length ≤ 4 := by have := HRL.out; omega
                  clear hA3 hrow3 hb3 hE8
                  go_upto_region 14 with (fail)
                  refine wp_region_tail (by kernel_rfl) [56, 57, 58, 59, 60, 61] (by kernel_rfl) (by kernel_rfl) (by kernel_rfl) 6 6 (by decide) rfl (by kernel_rfl) ExtEq ExtEq.refl (fun _ _ _ => ExtEq.trans) (All4 bT bM E L.length) ?_ ?_ ?_
                  · intro f j y y' wx hj h hv
                    match j, hj, h, hv with
                    | 0, _, h, hv =>
                      have e56 : y 56 = y' 56 := h 0 56 (.inr rfl) (by kernel_rfl)
                      have hv' : All4 bT bM E L.length f 0 y wx := hv
                      simp only [All4] at hv' ⊢
                      rw [← e56]
                      exact hv'
                    | 1, _, h, hv =>
                      have e57 : y 57 = y' 57 := h 1 57 (.inr rfl) (by kernel_rfl)
                      have hv' : All4 bT bM E L.length f 1 y wx := hv
                      simp only [All4] at hv' ⊢
                      rw [← e57]
                      exact hv'
                    | 2, _, h, hv =>
                      have e58 : y 58 = y' 58 := h 2 58 (.inr rfl) (by kernel_rfl)
                      have hv' : All4 bT bM E L.length f 2 y wx := hv
                      simp only [All4] at hv' ⊢
                      rw [← e58]
                      exact hv'
                    | 3, _, h, hv =>
                      have e59 : y 59 = y' 59 := h 3 59 (.inr rfl) (by kernel_rfl)
                      have hv' : All4 bT bM E L.length f 3 y wx := hv
                      simp only [All4] at hv' ⊢
                      rw [← e59]
                      exact hv'
                    | 4, _, h, hv =>
                      have e60 : y 60 = y' 60 := h 4 60 (.inr rfl) (by kernel_rfl)
                      have hv' : All4 bT bM E L.length f 4 y wx := hv
                      simp only [All4] at hv' ⊢
                      rw [← e60]
                      exact hv'
                    | 5, _, h, hv =>
                      have e61 : y 61 = y' 61 := h 5 61 (.inr rfl) (by kernel_rfl)
                      have hv' : All4 bT bM E L.length f 5 y wx := hv
                      simp only [All4] at hv' ⊢
                      rw [← e61]
                      exact hv'
                    | j + 6, hj, _, _ => exact absurd hj (by omega)
                  · intro i o him ho f y wx hx hf hd hini
                    match i, him, ho, hf with
                    | 0, _, ho, hf =>
                      obtain rfl := Option.some.inj ho
                      obtain rfl : f = false := hf (.inl (by kernel_rfl))
                      refine rstep_value rfl (v := .pointer (some ⟨bT, 0, none⟩)) (w' := wx) ?_ ⟨ExtEq.refl _, rfl, by intro j hj _ _ h; simpa using h⟩
                      · simp only [hole, List.foldl_cons, List.foldl_nil, List.setIfInBounds_toArray, List.set_cons_zero, List.set_cons_succ]
                        go_simp
                    | 1, _, ho, hf =>
                      obtain rfl := Option.some.inj ho
                      obtain rfl : f = false := hf (.inl (by kernel_rfl))
                      have e56 : y 56 = .pointer (some ⟨bT, 0, none⟩) := hd 0 (by kernel_rfl) (by decide)
                      refine rstep_value rfl (v := .pointer (some ⟨bT, 0, none⟩)) (w' := wx) ?_ ⟨ExtEq.refl _, rfl, by intro j hj _ _ h; simpa using h⟩
                      · simp only [hole, List.foldl_cons, List.foldl_nil, List.setIfInBounds_toArray, List.set_cons_zero, List.set_cons_succ]
                        go_simp
                    | 2, _, ho, hf =>
                      obtain rfl := Option.some.inj ho
                      obtain rfl : f = false := hf (.inl (by kernel_rfl))
                      have e57 : y 57 = .pointer (some ⟨bT, 0, none⟩) := hd 1 (by kernel_rfl) (by decide)
                      refine rstep_value rfl (v := .pointer (some ⟨bT, 4, none⟩)) (w' := wx) ?_ ⟨ExtEq.refl _, rfl, by intro j hj _ _ h; simpa using h⟩
                      · simp only [hole, List.foldl_cons, List.foldl_nil, List.setIfInBounds_toArray, List.set_cons_zero, List.set_cons_succ]
                        go_simp
                    | 3, _, ho, hf =>
                      obtain rfl := Option.some.inj ho
                      obtain rfl : f = false := hf (.inl (by kernel_rfl))
                      have e58 : y 58 = .pointer (some ⟨bT, 4, none⟩) := hd 2 (by kernel_rfl) (by decide)
                      have c4 : wx.cell? ⟨bT, 4, none⟩ = some (.map (some bM)) := by rw [← show w3.drew.drew = wx from hx]; exact HA3.out.drew.drew.ht.at (i := 4) rfl
                      refine rstep_value rfl (v := .map (some bM)) (w' := wx) ?_ ⟨ExtEq.refl _, rfl, by intro j hj _ _ h; simpa using h⟩
                      · simp only [hole, List.foldl_cons, List.foldl_nil, List.setIfInBounds_toArray, List.set_cons_zero, List.set_cons_succ]
                        go_simp
                    | 4, _, ho, hf =>
                      obtain rfl := Option.some.inj ho
                      obtain rfl : f = false := hf (.inl (by kernel_rfl))
                      have hr := run_loadAt_mid (P := Try.prog) wx b8 0 113 (cs8 E) _ (by rw [← show w3.drew.drew = wx from hx]; exact HE8.out.drew.drew.range) Try.underlying113 rfl (infoLl hEl.len)
                      refine rstep_value rfl (v := .agg (cs8 E).toArray) (w' := wx) ?_ ⟨ExtEq.refl _, rfl, by intro j hj _ _ h; simpa using h⟩
                      · simp only [hole, List.foldl_cons, List.foldl_nil, List.setIfInBounds_toArray, List.set_cons_zero, List.set_cons_succ]
                        simp [execOp, Act.eval, hr, Result.andThen]
                    | 5, _, ho, hf =>
                      obtain rfl := Option.some.inj ho
                      obtain rfl : f = false := hf (.inl (by kernel_rfl))
                      refine rstep_value rfl (v := .int .i64 (L.length : Nat)) (w' := wx) ?_ ⟨ExtEq.refl _, rfl, by intro j hj _ _ h; simpa using h⟩
                      · simp only [hole, List.foldl_cons, List.foldl_nil, List.setIfInBounds_toArray, List.set_cons_zero, List.set_cons_succ]
                        go_simp
                    | _ + 6, him, _, _ => exact absurd him (by omega)
                  · intro o ho y wx hx hd hini
                    obtain rfl := Option.some.inj ho
                    have e56 : y 56 = .pointer (some ⟨bT, 0, none⟩) := hd 0 (by decide)
                    have e57 : y 57 = .pointer (some ⟨bT, 0, none⟩) := hd 1 (by decide)
                    have e58 : y 58 = .pointer (some ⟨bT, 4, none⟩) := hd 2 (by decide)
                    have e59 : y 59 = .map (some bM) := hd 3 (by decide)
                    have e60 : y 60 = .agg (cs8 E).toArray := hd 4 (by decide)
                    have e61 : y 61 = .int .i64 (L.length : Nat) := hd 5 (by decide)
                    clear hd
                    obtain rfl : w3.drew.drew = wx := hx
                    obtain ⟨w6, hrun, hm6, hs6, hz6⟩ := HA3.out.drew.drew.hm.add HOK.out.elt HOK.out.nodup hEl HMM.out
                    refine rstep_skip rfl (w' := w6) ?_ ?_
                    · simp only [hole, List.foldl_cons, List.foldl_nil, List.setIfInBounds_toArray, List.set_cons_zero, List.set_cons_succ]
                      simp [execOp, Act.eval, e59, e60, e61, hrun, Result.andThen]
                    rw [updO_at_none y _ undef rfl]
                    simp only [hole, List.foldl_cons, List.foldl_nil, List.setIfInBounds_toArray, List.set_cons_zero, List.set_cons_succ, e56, e57, e58, e59, e60, e61]
                    clear e56 e57 e58 e59 e60 e61 hini hrun
                    have hE6 := (HE8.out.drew.drew).sm hs6 (ty_ne (by rw [HE8.out.drew.drew.ty, HA3.out.drew.drew.hm.ty]; simp))
                    have hR6 : OwnI 3 H w6 u6 (toI rwl) := own_sm (HR3.out.drew.drew) hs6 (fun k hk => ty_ne (by rw [own_ty HR3.out.drew.drew hk, HA3.out.drew.drew.hm.ty]; simp))
                    have hL6 : OwnE H w6 (.slice (some ⟨g, 0, none⟩) L.length cap) L := (HA3.out.drew.drew.mapped hs6).2.2.1
                    have hB6 : Below w.heap.size w w6 := hs6.below HB3.out.drew.drew (by omega) (by simpa using hsz3)
                    have hsz6 := hB6.size
                    have HE6 := Lib.hid hE6
                    have HR6 := Lib.hid hR6
                    have HL6 := Lib.hid hL6
                    have HB6 := Lib.hid hB6
                    have HM6 := Lib.hid hm6
                    have HS6 := Lib.hid hs6
                    clear hE6 hR6 hL6 hB6 hm6 hs6 hz6
                    have h24 : (cs8 E).length = 24 := by rw [cs8_length, hEl.len]
                    go_upto_region 16 with (first
                      | ((with_reducible refine is_load 113 ?_); refine wpl_load_elem (by rfl) _ (by rfl) b8 E hEl.len (by rfl) (by exact HE6.out) ?_)
                      | (at_builtin; refine wpList_appE rfl _ _ rfl H w6.heap.size (.slice (some ⟨g, 0, none⟩) L.length cap) L E rfl (World.ownsRow.alloc HL6.out _) hEl.len rfl (by rw [foldl_zip _ _ (by simp [cs8_length, hEl.len])]; exact Held.new _ _ _) (by omega) (by simp; omega) ?_; intro v7 w7 ho7 hg7 hl7; have HR7 := Lib.hid (show OwnI 3 H w7 u6 (toI rwl) from own_apart (World.ownsRow.alloc HR6.out _) (World.ownsRow.alloc HL6.out _) (by decide) hg7); have HB7 := Lib.hid ((HB6.out.alloc hsz6 _).grown hg7 (by simp; omega) (fun j hj => by have := (HL6.out.lt j hj).1; omega)); have HO7 := Lib.hid ho7; have HG7 := Lib.hid hg7; clear ho7 hg7 hl7))
                    clear h24
                    have hA7 := HA3.out.drew.drew.listed HS6.out HM6.out ((Below.refl _ _).alloc (Nat.le_refl _) _) HO7.out HG7.out
                    obtain ⟨gw, capw, uw, ew, hgwH, hgwl, hcw, hfw⟩ := hA7.hw.at k (by have h1 := HOK.out.len; show k < Wd.length; rw [h1]; exact hkL)
                    obtain ⟨aw, cw, eu, hcw2⟩ := hfw.slice
                    subst ew
                    subst eu
                    obtain ⟨word, hword⟩ : ∃ word, Wd[k]'(by have h1 := HOK.out.len; show k < Wd.length; rw [h1]; exact hkL) = word := ⟨_, rfl⟩
                    have hwl : word.length ≤ 200 := by rw [← hword]; have := HOK.out.short _ (List.getElem_mem (show k < Wd.length by have h1 := HOK.out.len; rw [h1]; exact hkL)); omega
                    have HWORD := Lib.hid hword
                    rw [hword] at hcw hfw hcw2
                    rw [toI_length] at hcw hfw hcw2
                    have ct := hA7.ht.at (i := 2) rfl
                    have hkW : (k : Int) < (Wd.length : Int) := by have h1 := HOK.out.len; have h2 : Wd.length = L.length := h1; omega
                    have hwlen : Wd.length ≤ 200 := by have h1 := HOK.out.len; have h2 : Wd.length = L.length := h1; omega
                    have hcwi : ((word.length : Nat) : Int) ≤ (cw : Int) := by omega
                    have hbTg : bT ≠ gw := ty_ne (by rw [hA7.ht.ty, hA7.hw.ty (k := gw) rfl]; decide)
                    clear hword
                    go_upto_region 17 with (fail)
                    replace hA7 := hA7.drew
                    replace hfw := hfw.kept (Sm.of_below (Below.refl _ w7).drew)
                    have hgwl7 := hgwl
                    clear ct hcw
                    refine wp_region_inv (by kernel_rfl) [73, 74, 75, 76, 77, 78, 79, 80, 81, 82, 83, 84, 85, 86, 87, 88, 89, 90] (by kernel_rfl) (by kernel_rfl) (by kernel_rfl) 18 15 (by decide) rfl (by kernel_rfl) (Inv5 gw w7.drew) (Inv5.start gw w7.drew) (All5 H w7.heap.size bT s word.length cw gw S1 (.slice (some ⟨gw, 0, none⟩) Wd.length capw) aw word Wd) ?_ ?_ ?_
                    · intro f j y y' wx hj h hv
                      match j, hj, h, hv with
                      | 0, _, h, hv =>
                        have e73 : y 73 = y' 73 := h 0 73 (.inr rfl) (by kernel_rfl)
                        have hv' : All5 H w7.heap.size bT s word.length cw gw S1 (.slice (some ⟨gw, 0, none⟩) Wd.length capw) aw word Wd f 0 y wx := hv
                        simp only [All5] at hv' ⊢
                        rw [← e73]
                        exact hv'
                      | 1, _, h, hv =>
                        have e74 : y 74 = y' 74 := h 1 74 (.inr rfl) (by kernel_rfl)
                        have hv' : All5 H w7.heap.size bT s word.length cw gw S1 (.slice (some ⟨gw, 0, none⟩) Wd.length capw) aw word Wd f 1 y wx := hv
                        simp only [All5] at hv' ⊢
                        rw [← e74]
                        exact hv'
                      | 2, _, h, hv =>
                        have e75 : y 75 = y' 75 := h 2 75 (.inr rfl) (by kernel_rfl)
                        have hv' : All5 H w7.heap.size bT s word.length cw gw S1 (.slice (some ⟨gw, 0, none⟩) Wd.length capw) aw word Wd f 2 y wx := hv
                        simp only [All5] at hv' ⊢
                        rw [← e75]
                        exact hv'
                      | 3, _, h, hv =>
                        have e76 : y 76 = y' 76 := h 3 76 (.inr rfl) (by kernel_rfl)
                        have hv' : All5 H w7.heap.size bT s word.length cw gw S1 (.slice (some ⟨gw, 0, none⟩) Wd.length capw) aw word Wd f 3 y wx := hv
                        simp only [All5] at hv' ⊢
                        rw [← e76]
                        exact hv'
                      | 4, _, h, hv =>
                        have e77 : y 77 = y' 77 := h 4 77 (.inr rfl) (by kernel_rfl)
                        have hv' : All5 H w7.heap.size bT s word.length cw gw S1 (.slice (some ⟨gw, 0, none⟩) Wd.length capw) aw word Wd f 4 y wx := hv
                        simp only [All5] at hv' ⊢
                        rw [← e77]
                        exact hv'
                      | 5, _, h, hv =>
                        have e78 : y 78 = y' 78 := h 5 78 (.inr rfl) (by kernel_rfl)
                        have hv' : All5 H w7.heap.size bT s word.length cw gw S1 (.slice (some ⟨gw, 0, none⟩) Wd.length capw) aw word Wd f 5 y wx := hv
                        simp only [All5] at hv' ⊢
                        rw [← e78]
                        exact hv'
                      | 6, _, h, hv =>
                        have e79 : y 79 = y' 79 := h 6 79 (.inr rfl) (by kernel_rfl)
                        have hv' : All5 H w7.heap.size bT s word.length cw gw S1 (.slice (some ⟨gw, 0, none⟩) Wd.length capw) aw word Wd f 6 y wx := hv
                        simp only [All5] at hv' ⊢
                        rw [← e79]
                        exact hv'
                      | 7, _, h, hv =>
                        have e80 : y 80 = y' 80 := h 7 80 (.inr rfl) (by kernel_rfl)
                        have hv' : All5 H w7.heap.size bT s word.length cw gw S1 (.slice (some ⟨gw, 0, none⟩) Wd.length capw) aw word Wd f 7 y wx := hv
                        simp only [All5] at hv' ⊢
                        rw [← e80]
                        exact hv'
                      | 8, _, h, hv =>
                        have e81 : y 81 = y' 81 := h 8 81 (.inr rfl) (by kernel_rfl)
                        have hv' : All5 H w7.heap.size bT s word.length cw gw S1 (.slice (some ⟨gw, 0, none⟩) Wd.length capw) aw word Wd f 8 y wx := hv
                        simp only [All5] at hv' ⊢
                        rw [← e81]
                        exact hv'
                      | 9, _, h, hv =>
                        have e82 : y 82 = y' 82 := h 9 82 (.inr rfl) (by kernel_rfl)
                        have hv' : All5 H w7.heap.size bT s word.length cw gw S1 (.slice (some ⟨gw, 0, none⟩) Wd.length capw) aw word Wd f 9 y wx := hv
                        simp only [All5] at hv' ⊢
                        rw [← e82]
                        exact hv'
                      | 10, _, h, hv =>
                        have e83 : y 83 = y' 83 := h 10 83 (.inr rfl) (by kernel_rfl)
                        have hv' : All5 H w7.heap.size bT s word.length cw gw S1 (.slice (some ⟨gw, 0, none⟩) Wd.length capw) aw word Wd f 10 y wx := hv
                        simp only [All5] at hv' ⊢
                        rw [← e83]
                        exact hv'
                      | 11, _, h, hv =>
                        have e84 : y 84 = y' 84 := h 11 84 (.inr rfl) (by kernel_rfl)
                        have hv' : All5 H w7.heap.size bT s word.length cw gw S1 (.slice (some ⟨gw, 0, none⟩) Wd.length capw) aw word Wd f 11 y wx := hv
                        simp only [All5] at hv' ⊢
                        rw [← e84]
                        exact hv'
                      | 12, _, h, hv =>
                        have e85 : y 85 = y' 85 := h 12 85 (.inr rfl) (by kernel_rfl)
                        have hv' : All5 H w7.heap.size bT s word.length cw gw S1 (.slice (some ⟨gw, 0, none⟩) Wd.length capw) aw word Wd f 12 y wx := hv
                        simp only [All5] at hv' ⊢
                        rw [← e85]
                        exact hv'
                      | 13, _, h, hv =>
                        have e86 : y 86 = y' 86 := h 13 86 (.inr rfl) (by kernel_rfl)
                        have hv' : All5 H w7.heap.size bT s word.length cw gw S1 (.slice (some ⟨gw, 0, none⟩) Wd.length capw) aw word Wd f 13 y wx := hv
                        simp only [All5] at hv' ⊢
                        rw [← e86]
                        exact hv'
                      | 14, _, h, hv =>
                        have e86 : y 86 = y' 86 := h 13 86 (.inl (by kernel_rfl)) (by kernel_rfl)
                        have e87 : y 87 = y' 87 := h 14 87 (.inr rfl) (by kernel_rfl)
                        have hv' : All5 H w7.heap.size bT s word.length cw gw S1 (.slice (some ⟨gw, 0, none⟩) Wd.length capw) aw word Wd f 14 y wx := hv
                        simp only [All5] at hv' ⊢
                        rw [← e86, ← e87]
                        exact hv'
                      | 15, _, h, hv =>
                        have e86 : y 86 = y' 86 := h 13 86 (.inl (by kernel_rfl)) (by kernel_rfl)
                        have e88 : y 88 = y' 88 := h 15 88 (.inr rfl) (by kernel_rfl)
                        have hv' : All5 H w7.heap.size bT s word.length cw gw S1 (.slice (some ⟨gw, 0, none⟩) Wd.length capw) aw word Wd f 15 y wx := hv
                        simp only [All5] at hv' ⊢
                        rw [← e86, ← e88]
                        exact hv'
                      | 16, _, h, hv =>
                        have e89 : y 89 = y' 89 := h 16 89 (.inr rfl) (by kernel_rfl)
                        have hv' : All5 H w7.heap.size bT s word.length cw gw S1 (.slice (some ⟨gw, 0, none⟩) Wd.length capw) aw word Wd f 16 y wx := hv
                        simp only [All5] at hv' ⊢
                        rw [← e89]
                        exact hv'
                      | 17, _, h, hv =>
                        have e90 : y 90 = y' 90 := h 17 90 (.inr rfl) (by kernel_rfl)
                        have hv' : All5 H w7.heap.size bT s word.length cw gw S1 (.slice (some ⟨gw, 0, none⟩) Wd.length capw) aw word Wd f 17 y wx := hv
                        simp only [All5] at hv' ⊢
                        rw [← e90]
                        exact hv'
                      | j + 18, hj, _, _ => exact absurd hj (by omega)
                    · intro i o him ho f y wx hx hf hd hini
                      match i, him, ho, hf with
                      | 0, _, ho, _ =>
                        obtain rfl := Option.some.inj ho
                        refine rstep_value rfl (v := .pointer (some ⟨bT, 0, none⟩)) (w' := wx) ?_ ⟨by simpa using hx, rfl, by intro j hj _ _ h; simpa using h⟩
                        · simp only [hole, List.foldl_cons, List.foldl_nil, List.setIfInBounds_toArray, List.set_cons_zero, List.set_cons_succ]
                          go_simp
                      | 1, _, ho, hf =>
                        obtain rfl := Option.some.inj ho
                        obtain rfl : f = false := hf (.inl (by kernel_rfl))
                        refine rstep_value rfl (v := .pointer (some ⟨bT, 0, none⟩)) (w' := wx) ?_ ⟨by simpa using hx, rfl, by intro j hj _ _ h; simpa using h⟩
                        · simp only [hole, List.foldl_cons, List.foldl_nil, List.setIfInBounds_toArray, List.set_cons_zero, List.set_cons_succ]
                          go_simp
                      | 2, _, ho, hf =>
                        obtain rfl := Option.some.inj ho
                        obtain rfl : f = false := hf (.inl (by kernel_rfl))
                        have e74 : y 74 = .pointer (some ⟨bT, 0, none⟩) := hd 1 (by kernel_rfl) (by decide)
                        refine rstep_value rfl (v := .pointer (some ⟨bT, 0, none⟩)) (w' := wx) ?_ ⟨by simpa using hx, rfl, by intro j hj _ _ h; simpa using h⟩
                        · simp only [hole, List.foldl_cons, List.foldl_nil, List.setIfInBounds_toArray, List.set_cons_zero, List.set_cons_succ]
                          go_simp
                      | 3, _, ho, hf =>
                        obtain rfl := Option.some.inj ho
                        obtain rfl : f = false := hf (.inl (by kernel_rfl))
                        have e75 : y 75 = .pointer (some ⟨bT, 0, none⟩) := hd 2 (by kernel_rfl) (by decide)
                        refine rstep_value rfl (v := .pointer (some ⟨bT, 2, none⟩)) (w' := wx) ?_ ⟨by simpa using hx, rfl, by intro j hj _ _ h; simpa using h⟩
                        · simp only [hole, List.foldl_cons, List.foldl_nil, List.setIfInBounds_toArray, List.set_cons_zero, List.set_cons_succ]
                          go_simp
                      | 4, _, ho, hf =>
                        obtain rfl := Option.some.inj ho
                        obtain rfl : f = false := hf (.inl (by kernel_rfl))
                        have e76 : y 76 = .pointer (some ⟨bT, 2, none⟩) := hd 3 (by kernel_rfl) (by decide)
                        have c2 := (hA7.ht.sm hx.1 hbTg).at (i := 2) rfl
                        refine rstep_value rfl (v := .slice (some ⟨gw, 0, none⟩) Wd.length capw) (w' := wx) ?_ ⟨by simpa using hx, rfl, by intro j hj _ _ h; simpa using h⟩
                        · simp only [hole, List.foldl_cons, List.foldl_nil, List.setIfInBounds_toArray, List.set_cons_zero, List.set_cons_succ]
                          go_simp
                      | 5, _, ho, hf =>
                        obtain rfl := Option.some.inj ho
                        obtain rfl : f = false := hf (.inl (by kernel_rfl))
                        refine rstep_value rfl (v := .slice aw word.length cw) (w' := wx) ?_ ⟨by simpa using hx, rfl, by intro j hj _ _ h; simpa using h⟩
                        · simp only [hole, List.foldl_cons, List.foldl_nil, List.setIfInBounds_toArray, List.set_cons_zero, List.set_cons_succ]
                          go_simp
                      | 6, _, ho, hf =>
                        obtain rfl := Option.some.inj ho
                        obtain rfl : f = false := hf (.inl (by kernel_rfl))
                        refine rstep_value rfl (v := .slice aw word.length cw) (w' := wx) ?_ ⟨by simpa using hx, rfl, by intro j hj _ _ h; simpa using h⟩
                        · simp only [hole, List.foldl_cons, List.foldl_nil, List.setIfInBounds_toArray, List.set_cons_zero, List.set_cons_succ]
                          go_simp
                      | 7, _, ho, hf =>
                        obtain rfl := Option.some.inj ho
                        obtain rfl : f = false := hf (.inl (by kernel_rfl))
                        have e79 : y 79 = .slice aw word.length cw := hd 6 (by kernel_rfl) (by decide)
                        refine rstep_value rfl (v := .int .i64 (word.length : Nat)) (w' := wx) ?_ ⟨by simpa using hx, rfl, by intro j hj _ _ h; simpa using h⟩
                        · simp only [hole, List.foldl_cons, List.foldl_nil, List.setIfInBounds_toArray, List.set_cons_zero, List.set_cons_succ]
                          go_simp
                      | 8, _, ho, hf =>
                        obtain rfl := Option.some.inj ho
                        obtain rfl : f = false := hf (.inl (by kernel_rfl))
                        refine rstep_value rfl (v := .slice aw word.length cw) (w' := wx) ?_ ⟨by simpa using hx, rfl, by intro j hj _ _ h; simpa using h⟩
                        · simp only [hole, List.foldl_cons, List.foldl_nil, List.setIfInBounds_toArray, List.set_cons_zero, List.set_cons_succ]
                          go_simp
                      | 9, _, ho, hf =>
                        obtain rfl := Option.some.inj ho
                        obtain rfl : f = false := hf (.inl (by kernel_rfl))
                        have e81 : y 81 = .slice aw word.length cw := hd 8 (by kernel_rfl) (by decide)
                        refine rstep_value rfl (v := .int .i64 (word.length : Nat)) (w' := wx) ?_ ⟨by simpa using hx, rfl, by intro j hj _ _ h; simpa using h⟩
                        · simp only [hole, List.foldl_cons, List.foldl_nil, List.setIfInBounds_toArray, List.set_cons_zero, List.set_cons_succ]
                          go_simp
                      | 10, _, ho, hf =>
                        obtain rfl := Option.some.inj ho
                        obtain rfl : f = false := hf (.inl (by kernel_rfl))
                        have e78 : y 78 = .slice aw word.length cw := hd 5 (by kernel_rfl) (by decide)
                        have e80 : y 80 = .int .i64 (word.length : Nat) := hd 7 (by kernel_rfl) (by decide)
                        have e82 : y 82 = .int .i64 (word.length : Nat) := hd 9 (by kernel_rfl) (by decide)
                        refine rstep_value rfl (v := .slice aw word.length word.length) (w' := wx) ?_ ⟨by simpa using hx, rfl, by intro j hj _ _ h; simpa using h⟩
                        · simp only [hole, List.foldl_cons, List.foldl_nil, List.setIfInBounds_toArray, List.set_cons_zero, List.set_cons_succ]
                          cases aw <;> go_simp
                      | 11, _, ho, hf =>
                        obtain rfl := Option.some.inj ho
                        obtain rfl : f = false := hf (.inl (by kernel_rfl))
                        refine rstep_value rfl (v := .int .i64 (s : Nat)) (w' := wx) ?_ ⟨by simpa using hx, rfl, by intro j hj _ _ h; simpa using h⟩
                        · simp only [hole, List.foldl_cons, List.foldl_nil, List.setIfInBounds_toArray, List.set_cons_zero, List.set_cons_succ]
                          go_simp
                      | 12, _, ho, hf =>
                        obtain rfl := Option.some.inj ho
                        obtain rfl : f = false := hf (.inl (by kernel_rfl))
                        have e84 : y 84 = .int .i64 (s : Nat) := hd 11 (by kernel_rfl) (by decide)
                        have hz : w7.heap.size ≤ wx.heap.size := hx.1.size
                        have hbl := (Below.refl wx.heap.size wx).alloc (Nat.le_refl _) (.cells #[.int .i64 (s : Nat)] 3)
                        refine rstep_value rfl (v := .slice (some ⟨wx.heap.size, 0, none⟩) 1 1) (w' := wx.alloc (.cells #[.int .i64 (s : Nat)] 3)) ?_ ⟨hx.grow hbl, ⟨_, rfl, hz, Held.new _ _ [_]⟩, (fun j _ _ _ h => All5_keep H w7.heap.size bT s word.length cw gw S1 (.slice (some ⟨gw, 0, none⟩) Wd.length capw) aw word Wd _ j y _ _ (hbl) (by simpa using h))⟩
                        · simp only [hole, List.foldl_cons, List.foldl_nil, List.setIfInBounds_toArray, List.set_cons_zero, List.set_cons_succ]
                          go_simp
                      | 13, _, ho, hf =>
                        obtain rfl := Option.some.inj ho
                        obtain rfl : f = false := hf (.inl (by kernel_rfl))
                        have e83 : y 83 = .slice aw word.length word.length := hd 10 (by kernel_rfl) (by decide)
                        have v12 : ∃ b, y 85 = .slice (some ⟨b, 0, none⟩) 1 1 ∧ w7.heap.size ≤ b ∧ Held wx b 3 [.int .i64 (s : Nat)] := hd 12 (by kernel_rfl) (by decide)
                        obtain ⟨b12, e85, hb12, hh12⟩ := v12
                        have hz : w7.heap.size ≤ wx.heap.size := hx.1.size
                        obtain ⟨v', w', hrun, ho', hb'⟩ := run_app_cut (ty := 24) (a := aw) (c' := cw) (xs := toI word) (by have := (hfw.kept (Sm.of_below (hx.2 rfl))).ints; rw [toI_length]; exact this) (ad := ⟨b12, 0, none⟩) (c := 1) (hh12.at (i := 0) rfl) (by rw [toI_length]; omega)
                        rw [toI_length] at hrun
                        refine rstep_value rfl (v := v') (w' := w') ?_ ⟨hx.grow hb', by show OwnI 3 _ _ v' _; rw [toI_append]; exact ho'.mono hz, (fun j _ _ _ h => All5_keep H w7.heap.size bT s word.length cw gw S1 (.slice (some ⟨gw, 0, none⟩) Wd.length capw) aw word Wd _ j y _ _ (hb') (by simpa using h))⟩
                        · simp only [hole, List.foldl_cons, List.foldl_nil, List.setIfInBounds_toArray, List.set_cons_zero, List.set_cons_succ]
                          simp [execOp, resolve, invoke, builtin, Act.eval, e83, e85, Result.andThen]
                          rw [hrun]
                      | 14, _, ho, hf =>
                        obtain rfl := Option.some.inj ho
                        obtain rfl : f = false := hf (.inl (by kernel_rfl))
                        have v13 : OwnI 3 w7.heap.size wx (y 86) (toI (word ++ [s])) := hd 13 (by kernel_rfl) (by decide)
                        have hz : w7.heap.size ≤ wx.heap.size := hx.1.size
                        have hbl := (Below.refl wx.heap.size wx).alloc (Nat.le_refl _) (.cells #[y 86] 24)
                        obtain ⟨a86, c86, e86⟩ := OwnI.form v13
                        refine rstep_value rfl (v := .slice (some ⟨wx.heap.size, 0, none⟩) 1 1) (w' := wx.alloc (.cells #[y 86] 24)) ?_ ⟨hx.grow hbl, ⟨_, rfl, hz, Held.new _ _ [_]⟩, (fun j _ _ _ h => All5_keep H w7.heap.size bT s word.length cw gw S1 (.slice (some ⟨gw, 0, none⟩) Wd.length capw) aw word Wd _ j y _ _ (hbl) (by simpa using h))⟩
                        · simp only [hole, List.foldl_cons, List.foldl_nil, List.setIfInBounds_toArray, List.set_cons_zero, List.set_cons_succ]
                          rw [e86]
                          go_simp
                      | 15, _, ho, hf =>
                        obtain rfl := Option.some.inj ho
                        obtain rfl : f = false := hf (.inr rfl)
                        have e77 : y 77 = .slice (some ⟨gw, 0, none⟩) Wd.length capw := hd 4 (by kernel_rfl) (by decide)
                        have v13 : OwnI 3 w7.heap.size wx (y 86) (toI (word ++ [s])) := hd 13 (by kernel_rfl) (by decide)
                        have v14 : ∃ b, y 87 = .slice (some ⟨b, 0, none⟩) 1 1 ∧ w7.heap.size ≤ b ∧ Held wx b 24 [y 86] := hd 14 (by kernel_rfl) (by decide)
                        obtain ⟨b14, e87, hb14, hh14⟩ := v14
                        have hz : w7.heap.size ≤ wx.heap.size := hx.1.size
                        have hbx := hx.2 rfl
                        have hRW := (hA7.hw.kept (S' := fun _ => True) (Sm.of_below hbx) (fun _ _ => trivial) (fun _ _ => trivial)).mono (S' := fun k => S1 k ∨ (y 86).ownBlock = some k) (fun k hk => .inl hk)
                        have hFz : Fz (fun k => S1 k ∨ (y 86).ownBlock = some k) wx (y 86) (toI (word ++ [s])) := OwnI.fz v13 (by rw [toI_length, List.length_append]; simp; omega) (fun k hk => .inr hk)
                        obtain ⟨v', w', hrun, hR', hg', hl'⟩ := run_appF (ty := 34) hRW hFz hh14 (fun k hk e => by
                          have hgk : gw = k := by simpa [Value.ownBlock] using e
                          rcases hk with hk | hk
                          · have h1 := hA7.hS k hk; have h2 := hA7.hw.ty (k := k) (by rw [← hgk]; rfl); rw [h1] at h2; exact absurd h2 (by decide)
                          · have := (v13.lt k hk).1; omega) (by omega) (by omega)
                        have hsm : Sm (fun k => k ≠ gw) wx w' := Sm.of_grown hg' (fun k hk e => hk (by simpa [Value.ownBlock] using e))
                        refine rstep_value rfl (v := v') (w' := w') ?_ ⟨hx.turn hsm, ⟨hR', ?_⟩, (fun j _ hj _ h => All5_turn H w7.heap.size bT s word.length cw gw S1 (.slice (some ⟨gw, 0, none⟩) Wd.length capw) aw word Wd hsm hgwl7 j y hj h)⟩
                        · simp only [hole, List.foldl_cons, List.foldl_nil, List.setIfInBounds_toArray, List.set_cons_zero, List.set_cons_succ]
                          simp [execOp, resolve, invoke, builtin, Act.eval, e77, e87, Result.andThen]
                          rw [hrun]
                        · rcases hl' with hl' | hl'
                          · exact .inl hl'
                          · exact .inr ⟨_, hl', hz⟩
                      | 16, _, ho, _ =>
                        obtain rfl := Option.some.inj ho
                        have e73 : y 73 = .pointer (some ⟨bT, 0, none⟩) := hd 0 (by kernel_rfl) (by decide)
                        refine rstep_value rfl (v := .pointer (some ⟨bT, 0, none⟩)) (w' := wx) ?_ ⟨by simpa using hx, rfl, by intro j hj _ _ h; simpa using h⟩
                        · simp only [hole, List.foldl_cons, List.foldl_nil, List.setIfInBounds_toArray, List.set_cons_zero, List.set_cons_succ]
                          go_simp
                      | 17, _, ho, _ =>
                        obtain rfl := Option.some.inj ho
                        have e89 : y 89 = .pointer (some ⟨bT, 0, none⟩) := hd 16 (by kernel_rfl) (by decide)
                        refine rstep_value rfl (v := .pointer (some ⟨bT, 2, none⟩)) (w' := wx) ?_ ⟨by simpa using hx, rfl, by intro j hj _ _ h; simpa using h⟩
                        · simp only [hole, List.foldl_cons, List.foldl_nil, List.setIfInBounds_toArray, List.set_cons_zero, List.set_cons_succ]
                          go_simp
                      | _ + 18, him, _, _ => exact absurd him (by omega)
                    · intro o ho y wx hx hd hini
                      obtain rfl := Option.some.inj ho
                      have e73 : y 73 = .pointer (some ⟨bT, 0, none⟩) := hd 0 (by decide)
                      have e74 : y 74 = .pointer (some ⟨bT, 0, none⟩) := hd 1 (by decide)
                      have e75 : y 75 = .pointer (some ⟨bT, 0, none⟩) := hd 2 (by decide)
                      have e76 : y 76 = .pointer (some ⟨bT, 2, none⟩) := hd 3 (by decide)
                      have e77 : y 77 = .slice (some ⟨gw, 0, none⟩) Wd.length capw := hd 4 (by decide)
                      have e78 : y 78 = .slice aw word.length cw := hd 5 (by decide)
                      have e79 : y 79 = .slice aw word.length cw := hd 6 (by decide)
                      have e80 : y 80 = .int .i64 (word.length : Nat) := hd 7 (by decide)
                      have e81 : y 81 = .slice aw word.length cw := hd 8 (by decide)
                      have e82 : y 82 = .int .i64 (word.length : Nat) := hd 9 (by decide)
                      have e83 : y 83 = .slice aw word.length word.length := hd 10 (by decide)
                      have e84 : y 84 = .int .i64 (s : Nat) := hd 11 (by decide)
                      have v12 : ∃ b, y 85 = .slice (some ⟨b, 0, none⟩) 1 1 ∧ w7.heap.size ≤ b ∧ Held wx b 3 [.int .i64 (s : Nat)] := hd 12 (by decide)
                      have v13 : OwnI 3 w7.heap.size wx (y 86) (toI (word ++ [s])) := hd 13 (by decide)
                      have v14 : ∃ b, y 87 = .slice (some ⟨b, 0, none⟩) 1 1 ∧ w7.heap.size ≤ b ∧ Held wx b 24 [y 86] := hd 14 (by decide)
                      have v15 : RowsF (fun k => S1 k ∨ (y 86).ownBlock = some k) H wx (y 88) (Wd ++ [word ++ [s]]) ∧ ((y 88).ownBlock = some gw ∨ ∃ b, (y 88).ownBlock = some b ∧ w7.heap.size ≤ b) := hd 15 (by decide)
                      have e89 : y 89 = .pointer (some ⟨bT, 0, none⟩) := hd 16 (by decide)
                      have e90 : y 90 = .pointer (some ⟨bT, 2, none⟩) := hd 17 (by decide)
                      clear hd
                      obtain ⟨a88, c88, e88⟩ := v15.1.form
                      have hTx := hA7.ht.sm hx.1 hbTg
                      have ct := hTx.at (i := 2) rfl
                      have cf := hTx.free 2
                      obtain ⟨v88, ev88⟩ : ∃ v88, y 88 = v88 := ⟨_, rfl⟩
                      refine rstep_skip rfl (w' := wx.setCell ⟨bT, 2, none⟩ (y 88)) ?_ ?_
                      · simp only [hole, List.foldl_cons, List.foldl_nil, List.setIfInBounds_toArray, List.set_cons_zero, List.set_cons_succ]
                        rw [e88, e90]
                        go_simp
                      have hgn : w7.drew.grownBy wx (some gw) := grown_of_sm (hx.1.weak fun k _ hk e => hk (by rw [e]))
                      have hS' : ∀ k, (S1 k ∨ (y 86).ownBlock = some k) → typeAt wx k = some 3 := fun k hk => by
                        rcases hk with hk | hk
                        · rw [ty_block (hx.1.block k (ty_ne (by rw [hA7.hS k hk, hA7.hw.ty (k := gw) rfl]; decide)) (ty_lt (hA7.hS k hk)))]; exact hA7.hS k hk
                        · exact own_ty v13 hk
                      have hA8 := hA7.worded (S' := fun k => S1 k ∨ (y 86).ownBlock = some k) (fun k hk => .inl hk) v15.1 hgn hS' v15.2
                      have hs8 : Sm (fun k => k ≠ gw ∧ k ≠ bT) w7.drew (wx.setCell ⟨bT, 2, none⟩ (y 88)) := (hx.1.weak fun _ _ hk => hk.1).trans ⟨rfl, rfl, rfl, by simp [World.setCell], fun k hk _ => Below.heap_setCell wx ⟨bT, 2, none⟩ (y 88) k hk.2⟩
                      have hR8 : OwnI 3 H (wx.setCell ⟨bT, 2, none⟩ (y 88)) u6 (toI rwl) := own_sm (HR7.out.drew) hs8 (fun j hj => ⟨ty_ne (by rw [own_ty HR7.out.drew hj, hA7.hw.ty (k := gw) rfl]; decide), ty_ne (by rw [own_ty HR7.out.drew hj, hA7.ht.ty]; decide)⟩)
                      have hB8 : Below w.heap.size w (wx.setCell ⟨bT, 2, none⟩ (y 88)) := (hx.1.below HB7.out.drew (by omega) HB7.out.size).setCell (by simp; omega) _
                      have hN8 : ∀ j, u6.ownBlock = some j → ¬ (S1 j ∨ (y 86).ownBlock = some j) := fun j hj h => by
                        rcases h with h | h
                        · exact HRS.out j hj h
                        · have h1 := (v13.lt j h).1; have h2 := (HR7.out.lt j hj).2; omega
                      obtain ⟨S8, hS8⟩ : ∃ S8 : Nat → Prop, (fun k => S1 k ∨ (y 86).ownBlock = some k) = S8 := ⟨_, rfl⟩
                      have hN8' : ∀ j, u6.ownBlock = some j → ¬ S8 j := by rw [← hS8]; exact hN8
                      rw [hS8] at hA8
                      obtain ⟨w8, hw8⟩ : ∃ w8, wx.setCell ⟨bT, 2, none⟩ (y 88) = w8 := ⟨_, rfl⟩
                      rw [hw8] at hA8 hR8 hB8 ⊢
                      have HA8 := Lib.hid hA8
                      have HR8 := Lib.hid hR8
                      have HB8 := Lib.hid hB8
                      have hsz8 := hB8.size
                      obtain ⟨vW8, hvW8⟩ : ∃ vW8, y 88 = vW8 := ⟨_, rfl⟩
                      rw [hvW8] at HA8
                      rw [updO_at_none y _ undef rfl]
                      simp only [hole, List.foldl_cons, List.foldl_nil, List.setIfInBounds_toArray, List.set_cons_zero, List.set_cons_succ, e73, e74, e75, e76, e77, e78, e79, e80, e81, e82, e83, e84, e89, e90]
                      clear e73 e74 e75 e76 e77 e78 e79 e80 e81 e82 e83 e84 e89 e90 e88 hini hA8 hR8 hB8 hN8 hS8 hw8 hvW8 hs8 hS' hgn hTx ct cf v12 v13 v14 v15 hx ev88
                      go_wp2_with (at_builtin; refine wpList_app1_at rfl _ _ rfl H u6 (toI rwl) ((L.length : Nat) : Int) rfl (HR8.out.alloc _) ⟨_, 0, none⟩ 1 rfl (cell_new1 _ _ _) (by rw [toI_length]; omega) (by simp; omega) ?_; intro v9 w9 ho9 hg9 hl9; have HO9 := Lib.hid ho9; have HE9 := Lib.hid (row_end (HA8.out.alloc _) (HR8.out.alloc _) hN8' hg9 hl9 (by simp; omega)); clear ho9 hg9 hl9)
                      have hgd : Wd.getD k [] = word := by rw [← HWORD.out]; simp [List.getD, List.getElem?_eq_getElem (show k < Wd.length by have h1 := HOK.out.len; have h2 : Wd.length = L.length := h1; omega)]
                      have hfin := HSTEP.out.trans (HBS.out.trans (if_neg HMM.out))
                      rw [hgd] at hfin
                      refine ⟨⟨s + 1, S8, vW8, by push_cast; rfl, by omega, by rw [hfin]; exact HE9.out.1, by rw [hfin, toI_append]; exact HO9.out, HE9.out.2.1, (HB8.out.alloc hsz8 _).trans (HE9.out.2.2.mono (by omega))⟩, by simp [intOf]; omega⟩
          · obtain rfl : s = mirs K n := by omega
            obtain ⟨a6, c6, e6⟩ := hrow.form
            rw [toI_length] at e6
            subst e6
            have HROW := Lib.hid hrow
            have HBQ := Lib.hid hb
            have HA := Lib.hid hA
            have hx120 : X0.length ≤ 130 := by have := HXL.out; omega
            have HNT := Lib.hid (show some bT ≠ vX.ownBlock from fun e => by have h1 := hA.ht.ty; rw [hA.hx.ty e.symm] at h1; exact absurd h1 (by decide))
            have ct := hA.ht.at (i := 3) rfl
            have hHs := HlH.out
            have hHH := HBQ.out.size
            have hrl4 : rwl.length ≤ 4 := by omega
            clear hrow hb hA hrl
            go_wp2_with (at_builtin; refine wpList_appF rfl _ _ rfl (fun k => S1 k ∨ (Value.slice a6 rwl.length c6).ownBlock = some k) H wr.heap.size vX (.slice a6 rwl.length c6) X0 rwl rfl ((HA.out.hx.alloc _).mono fun k hk => .inl hk) ((OwnI.fz (HROW.out.alloc _) (by rw [toI_length]; omega) (fun k hk => .inr hk))) rfl (Held.new _ _ [_]) (fun k hk e => by
              rcases hk with hk | hk
              · have h1 := HA.out.hS k hk; have h2 := HA.out.hx.ty e; rw [h1] at h2; exact absurd h2 (by decide)
              · have h1 := own_ty HROW.out hk; have h2 := HA.out.hx.ty e; rw [h1] at h2; exact absurd h2 (by decide)) (by omega) (by simp; omega) ?_; intro v8 w8 hr8 hg8 hl8; have hTx := (HA.out.ht.alloc (.cells #[.slice a6 rwl.length c6] 24)).grown hg8 HNT.out; have ct8 := hTx.at (i := 3) rfl; have cf8 := hTx.free 3; have HR8 := Lib.hid hr8; have HG8 := Lib.hid hg8; have HL8 := Lib.hid hl8; have hf8 := hr8.form; clear hr8 hg8 hl8 hTx; obtain ⟨a8, c8, rfl⟩ := hf8)
            have hS' : ∀ j, (S1 j ∨ (Value.slice a6 rwl.length c6).ownBlock = some j) → typeAt w8 j = some 3 := fun j hj => by
              have h1 : typeAt (wr.alloc (.cells #[.slice a6 rwl.length c6] 24)) j = some 3 := by
                rcases hj with hj | hj
                · exact (HA.out.alloc _).hS j hj
                · exact own_ty (World.ownsRow.alloc HROW.out _) hj
              have hsm8 := Sm.of_grown (S := fun j => some j ≠ vX.ownBlock) HG8.out fun _ hk => hk
              rw [ty_block (hsm8.block j (fun e => by have h2 := (HA.out.alloc (.cells #[.slice a6 rwl.length c6] 24)).hx.ty e.symm; rw [h1] at h2; exact absurd h2 (by decide)) (ty_lt h1))]; exact h1
            have hA8 := (HA.out.alloc (.cells #[.slice a6 rwl.length c6] 24)).nexted (S' := fun j => S1 j ∨ (Value.slice a6 rwl.length c6).ownBlock = some j) (fun j hj => .inl hj) HR8.out HG8.out hS' (HL8.out.imp id fun h => ⟨_, h, Nat.le_refl _⟩)
            have hlen8 : (X0 ++ [rwl]).length = X0.length + 1 := by simp
            rw [hlen8] at hA8
            have hB8 : Below w.heap.size w w8 := (HBQ.out.alloc hHH _).grown HG8.out (by simp; omega) (fun j hj => by obtain ⟨vs, ho, _⟩ := HA.out.hx; have := (World.ownsRow.lt ho j hj).1; omega)
            have hfin := HSUC.out hlt
            rw [HR0.out] at hfin
            refine ⟨⟨k + 1, _, vW1, _, by push_cast; rfl, by omega, by rw [hfin]; simp [HXL.out], by rw [hfin]; exact hA8, hB8.setCell (by simp; omega) _⟩, by simp [intOf]; omega⟩
      · have hend := HEND.out hlt
        have HA := Lib.hid hA
        have HB := Lib.hid hb
        have HEQ := Lib.hid hend
        have hki : ¬ (k : Int) < (L0.length : Int) := by omega
        clear hA hb hend
        go_wp2
        go_ret
        exact ⟨bT, rfl, by rw [← HEQ.out.1, ← HEQ.out.2]; exact HA.out.tab, by have := HlH.out; omega, HB.out⟩
end Go.Proofs.Ytmlhecfhhhebnaa
