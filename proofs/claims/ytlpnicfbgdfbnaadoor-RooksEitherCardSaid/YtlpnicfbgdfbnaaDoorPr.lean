/- ref.permuted, ref.permutations: all permutations as a slice of rows. -/
import Derived.Test.YtlpnicfbgdfbnaaDoorRw
namespace Go.Proofs.YtlpnicfbgdfbnaaDoor
open Go.RowKit Go.Shelf
attribute [local go_sem] Oper.semAt_some

theorem elems_range : ∀ n : Nat, n < 7 → ∀ S : Nat, S < 64 → (!decide (S < 2 ^ n) || decide (elems S = (List.range n).filter (S.testBit ·))) = true := by decide +kernel
def preP (d S : Nat) (begun : List Nat) (k : Nat) : List (List Nat) := ((List.range k).filter (S.testBit ·)).flatMap fun j => (perms d (diffS S (2 ^ j))).map ((begun ++ [j]) ++ ·)
theorem preP_zero (d S : Nat) (begun : List Nat) : preP d S begun 0 = [] := rfl
theorem preP_skip (d S : Nat) (begun : List Nat) (k : Nat) (h : S.testBit k = false) : preP d S begun (k + 1) = preP d S begun k := by
  unfold preP; rw [List.range_succ, List.filter_append]; simp [h]
theorem preP_snoc (d S : Nat) (begun : List Nat) (k : Nat) (h : S.testBit k = true) : preP d S begun (k + 1) = preP d S begun k ++ (perms d (diffS S (2 ^ k))).map ((begun ++ [k]) ++ ·) := by
  unfold preP; rw [List.range_succ, List.filter_append]; simp [h]
theorem preP_all (d S n : Nat) (begun : List Nat) (hn : n ≤ 6) (hS : S < 2 ^ n) : preP d S begun n = (perms (d + 1) S).map (begun ++ ·) := by
  have h := elems_range n (by omega) S (Nat.lt_of_lt_of_le hS (two_pow_le hn))
  simp only [hS, decide_true, Bool.not_true, Bool.false_or, decide_eq_true_eq] at h
  unfold preP
  rw [perms, h, List.map_flatMap]
  congr 1
  funext j
  rw [List.map_map]
  refine List.map_congr_left fun l _ => ?_
  simp
theorem flatMap_le {α β : Type} (f : α → List β) (M : Nat) : ∀ l : List α, (∀ x ∈ l, (f x).length ≤ M) → (l.flatMap f).length ≤ l.length * M
  | [], _ => by simp
  | x :: l, h => by
    have h1 := flatMap_le f M l (fun y hy => h y (List.mem_cons_of_mem _ hy))
    have h2 := h x List.mem_cons_self
    rw [List.flatMap_cons, List.length_append, List.length_cons, Nat.succ_mul]
    omega
theorem elems_len (S : Nat) : (elems S).length ≤ 8 := by
  unfold elems
  exact Nat.le_trans (List.length_filter_le _ _) (by simp)
theorem perms_length_le : ∀ (d S : Nat), (perms d S).length ≤ 8 ^ d
  | 0, _ => by simp [perms]
  | d + 1, S => by
    rw [perms]
    refine Nat.le_trans (flatMap_le _ (8 ^ d) _ fun j _ => by rw [List.length_map]; exact perms_length_le d _) ?_
    rw [Nat.pow_succ, Nat.mul_comm]
    exact Nat.mul_le_mul_left _ (elems_len S)
theorem preP_le (d S : Nat) (begun : List Nat) (k : Nat) : (preP d S begun k).length ≤ k * 8 ^ d := by
  unfold preP
  refine Nat.le_trans (flatMap_le _ (8 ^ d) _ fun j _ => by rw [List.length_map]; exact perms_length_le d _) ?_
  exact Nat.mul_le_mul_right _ (Nat.le_trans (List.length_filter_le _ _) (by simp))
theorem diffS_or (x a b : Nat) : diffS x (a ||| b) = diffS (diffS x a) b := by
  refine Nat.eq_of_testBit_eq fun c => ?_
  rw [diffS_bit, diffS_bit]
  unfold free
  rw [diffS_bit, Nat.testBit_or]
  unfold free
  cases x.testBit c <;> cases a.testBit c <;> cases b.testBit c <;> rfl

structure N71 (B C : Nat) (W0 : World) (n taken j L c : Nat) (a : Option Addr) (begun : List Nat) (vo : Value) (cur rows : List (List Nat)) (d : Nat → Bool) (y : Nat → Value) (wx : World) : Prop where
  w0 : d 13 = false → wx = W0
  w13 : d 13 = true → d 14 = false → wx = W0.alloc (.cells #[.int .i64 (j : Nat)] 3)
  w14 : d 14 = true → d 15 = false → OwnI 3 C wx (y 38) (toI (begun ++ [j])) ∧ Below W0.heap.size W0 wx
  w15 : d 15 = true → d 16 = false → RowsI W0.heap.size C wx (y 39) rows ∧ Below W0.heap.size W0 wx
  w16 : d 16 = true → RowsI B C wx (y 40) (cur ++ rows) ∧ Below B W0 wx
  h7 : d 17 = true → y 7 = y 40
  h7a : d 17 = false → y 7 = vo
  h24 : d 0 = true → y 24 = vo
  h25 : d 1 = true → y 25 = .int .i64 (n : Nat)
  h26 : d 2 = true → y 26 = .int .i64 (taken : Nat)
  h27 : d 3 = true → y 27 = .int .i64 (j : Nat)
  h28 : d 4 = true → y 28 = .int .i64 ((2 : Int) ^ j)
  c4_3 : d 4 = true → d 3 = true
  h29 : d 5 = true → y 29 = .int .i64 ((taken ||| 2 ^ j : Nat) : Int)
  c5_2 : d 5 = true → d 2 = true
  c5_4 : d 5 = true → d 4 = true
  h30 : d 6 = true → y 30 = .slice a L c
  h31 : d 7 = true → y 31 = .slice a L c
  h32 : d 8 = true → y 32 = .int .i64 (L : Nat)
  c8_7 : d 8 = true → d 7 = true
  h33 : d 9 = true → y 33 = .slice a L c
  h34 : d 10 = true → y 34 = .int .i64 (L : Nat)
  c10_9 : d 10 = true → d 9 = true
  h35 : d 11 = true → y 35 = .slice a L L
  c11_6 : d 11 = true → d 6 = true
  c11_8 : d 11 = true → d 8 = true
  c11_10 : d 11 = true → d 10 = true
  h36 : d 12 = true → y 36 = .int .i64 (j : Nat)
  h37 : d 13 = true → y 37 = .slice (some ⟨W0.heap.size, 0, none⟩) 1 1
  c13_12 : d 13 = true → d 12 = true
  c14_11 : d 14 = true → d 11 = true
  c14_13 : d 14 = true → d 13 = true
  c15_1 : d 15 = true → d 1 = true
  c15_5 : d 15 = true → d 5 = true
  c15_14 : d 15 = true → d 14 = true
  c16_0 : d 16 = true → d 0 = true
  c16_15 : d 16 = true → d 15 = true
  c17_16 : d 17 = true → d 16 = true

def PdPost (C : Nat) (rows : List (List Nat)) (w : World) (e : Ending) (w' : World) : Prop := ∃ v', e = .returned v' ∧ RowsI w.heap.size C w' v' rows ∧ Below w.heap.size w w'

set_option maxRecDepth 20000 in
set_option maxHeartbeats 2000000 in
theorem permuted_leaf (C : Nat) (n taken : Nat) (begun : List Nat) (vb : Value) (w : World) (hl : begun.length = n) (hown : OwnI 3 C w vb (toI begun)) :
    Calls Tryd.prog 71 #[.int .i64 (n : Nat), .int .i64 (taken : Nat), vb] w (PdPost C [begun] w) := by
  obtain ⟨a, c, hv⟩ := hown.form
  rw [toI_length, hl] at hv
  subst hv
  have H := Lib.hid hown
  clear hown
  go_enter Tryd.func71, Tryd.ntmps71
  go_wp2
  go_ret
  refine ⟨_, rfl, ⟨[.slice a n c], ⟨by simp, .inr ⟨w.heap.size, 1, _, rfl, Nat.le_refl _, heap_alloc_new w _, Nat.le_refl _, by decide, by simp, by simp⟩⟩, ?_⟩, (Below.refl _ _).alloc (Nat.le_refl _) _⟩
  intro p hp
  simp at hp
  subst hp
  exact H.out.alloc _

set_option maxRecDepth 20000 in
set_option maxHeartbeats 4000000 in
theorem permuted_node (C : Nat) (n taken d : Nat) (begun : List Nat) (vb : Value) (w : World) (hn : n ≤ 6) (ht : taken < 64) (hl : begun.length < n) (hd : d ≤ 5) (hown : OwnI 3 C w vb (toI begun)) (hC : C ≤ w.heap.size)
    (ih : ∀ (taken : Nat) (begun' : List Nat) (vb : Value) (w : World), taken < 64 → begun'.length = begun.length + 1 → pop (diffS (2 ^ n - 1) taken) = d → OwnI 3 C w vb (toI begun') → C ≤ w.heap.size →
      Calls Tryd.prog 71 #[.int .i64 (n : Nat), .int .i64 (taken : Nat), vb] w (PdPost C ((perms d (diffS (2 ^ n - 1) taken)).map (begun' ++ ·)) w))
    (hp : pop (diffS (2 ^ n - 1) taken) = d + 1) :
    Calls Tryd.prog 71 #[.int .i64 (n : Nat), .int .i64 (taken : Nat), vb] w (PdPost C ((perms (d + 1) (diffS (2 ^ n - 1) taken)).map (begun ++ ·)) w) := by
  obtain ⟨p1, p2, p3⟩ := all_pop n (by omega)
  have hS : diffS (2 ^ n - 1) taken < 2 ^ n := by
    have : 2 ^ n - 1 < 2 ^ n := by have := Nat.one_le_two_pow (n := n); omega
    exact Nat.xor_lt_two_pow this (Nat.lt_of_le_of_lt Nat.and_le_left this)
  have hS64 : diffS (2 ^ n - 1) taken < 64 := Nat.lt_of_lt_of_le hS (two_pow_le hn)
  have hbit := Lib.hid (show ∀ j, j < n → (diffS (2 ^ n - 1) taken).testBit j = !taken.testBit j from fun j hj => by
    rw [diffS_bit]; unfold free; rw [all_bit n (by omega) j (by omega)]; simp [hj])
  have hpre := Lib.hid (preP_all d _ n begun hn hS)
  have IH0 := Lib.hid ih
  obtain ⟨S, hSe⟩ : ∃ S, diffS (2 ^ n - 1) taken = S := ⟨_, rfl⟩
  have hor' := Lib.hid (show ∀ j, diffS (2 ^ n - 1) (taken ||| 2 ^ j) = diffS S (2 ^ j) from fun j => by rw [diffS_or, hSe])
  rw [hSe] at hS64 hbit hpre hp
  rw [hSe]
  obtain ⟨a, c, hv⟩ := hown.form
  rw [toI_length] at hv
  subst hv
  have ha : (a = none ∧ begun.length = 0 ∧ c = 0) ∨ ∃ g, a = some ⟨g, 0, none⟩ := by
    rcases hown.2 with ⟨h1, h2⟩ | ⟨g, cap, cur, h1, _⟩
    · obtain ⟨e1, e2, e3⟩ := Value.slice.inj h1
      exact .inl ⟨e1, by omega, by omega⟩
    · obtain ⟨e1, _⟩ := Value.slice.inj h1
      exact .inr ⟨g, e1⟩
  have hLc : begun.length ≤ c := by
    obtain ⟨a', c', e1, h1, h2, _⟩ := (hown.ints (by rw [toI_length]; omega)).openN
    obtain ⟨_, _, rfl⟩ := Value.slice.inj e1
    exact h2
  obtain ⟨L, hL⟩ : ∃ L, begun.length = L := ⟨_, rfl⟩
  have HB0 := Lib.hid hown
  have hne : ¬ L = n := by omega
  rw [hL] at HB0 hLc ha ⊢
  have HS := Lib.hid hSe
  clear hown ih hSe hS
  go_enter Tryd.func71, Tryd.ntmps71
  go_wp2
  go_loopw [7, 16] (fun vo ix wr => ∃ k : Nat, k ≤ n ∧ ix = .int .i64 k ∧ RowsI w.heap.size C wr vo (preP d S begun k) ∧ Below w.heap.size w wr) (fun _ i _ => n - (intOf i).toNat)
  case atStart => exact ⟨0, Nat.zero_le _, rfl, RowsI.nil _ _ _, Below.refl _ _⟩
  case round =>
    obtain ⟨j, hj, rfl, hr, hb⟩ := hrel
    by_cases hlt : j < n
    · have hbj := hbit.out j hlt
      cases htj : taken.testBit j with
      | true =>
        have e1 := bit_walk1 (by omega) ht htj
        have HP := Lib.hid (preP_skip d S begun j (by rw [hbj, htj]; rfl))
        clear hbj htj
        go_wp2
        go_roundw
        case rel => exact ⟨j + 1, by omega, by go_num, by rw [HP.out]; exact hr, hb⟩
        case measure => simp [intOf]; omega
      | false =>
        have e1 := bit_walk0 (by omega) ht htj
        have hSj : S.testBit j = true := by rw [hbj, htj]; rfl
        have HP := Lib.hid (preP_snoc d S begun j hSj)
        have hpj := pow_in j (by omega)
        have hor := or_w ht (show j < 6 by omega)
        have hou := or_lt ht (show j < 6 by omega)
        have hsz := hb.size
        have hpop : pop (diffS S (2 ^ j)) = d := by
          have := pop_step S hS64 j (by omega)
          simp [hSj] at this
          omega
        have hlen : (preP d S begun j).length + ((perms d (diffS S (2 ^ j))).map ((begun ++ [j]) ++ ·)).length ≤ 5000000 := by
          have h1 := preP_le d S begun j
          have h2 := perms_length_le d (diffS S (2 ^ j))
          rw [List.length_map]
          have h3 : 8 ^ d ≤ 8 ^ 5 := Nat.pow_le_pow_right (by decide) hd
          have h4 : j * 8 ^ d ≤ 6 * 8 ^ 5 := Nat.mul_le_mul (by omega) h3
          omega
        have IH := Lib.hid (fun (wx : World) (vx : Value) (ho : OwnI 3 C wx vx (toI (begun ++ [j]))) (hc : C ≤ wx.heap.size) => by
          have := IH0.out (taken ||| 2 ^ j) (begun ++ [j]) vx wx hou (by simp) (by rw [hor'.out]; exact hpop) ho hc
          rw [hor'.out] at this
          exact this)
        have HB := Lib.hid (HB0.out.below hb)
        have HO := Lib.hid hr
        clear hbj htj hSj hpop IH0 hor' HB0
        go_upto_region 8 with (fail)
        obtain ⟨W0, hW0⟩ : ∃ W0, wr.drew = W0 := ⟨_, rfl⟩
        have hs0 : W0.heap.size = wr.heap.size := by rw [← hW0]; rfl
        have HB := Lib.hid (show OwnI 3 C W0 _ _ by rw [← hW0]; exact HB.out.drew)
        have HO := Lib.hid (show RowsI _ C W0 _ _ by rw [← hW0]; exact HO.out.drew)
        have HBW := Lib.hid (show Below w.heap.size w W0 by rw [← hW0]; exact hb.drew)
        have H0 := Lib.hid hW0
        clear hW0 hr hb
        refine wp_region_sched (by kernel_rfl) [7, 24, 25, 26, 27, 28, 29, 30, 31, 32, 33, 34, 35, 36, 37, 38, 39, 40] (by kernel_rfl) (N71 w.heap.size C W0 n taken j L c a begun u7 (preP d S begun j) ((perms d (diffS S (2 ^ j))).map ((begun ++ [j]) ++ ·))) ?_ ?_ ?_
        · rw [H0.out]
          refine ⟨fun _ => rfl, ?_, ?_, ?_, ?_, ?_, fun _ => rfl, ?_, ?_, ?_, ?_, ?_, ?_, ?_, ?_, ?_, ?_, ?_, ?_, ?_, ?_, ?_, ?_, ?_, ?_, ?_, ?_, ?_, ?_, ?_, ?_, ?_, ?_, ?_, ?_, ?_, ?_, ?_⟩ <;> exact fun h => by cases h
        · intro i o ho d y wx hdi hdep hN
          match i, ho with
          | 0, ho =>
            obtain rfl := Option.some.inj ho
            have d17 : d 17 = false := Bool.eq_false_iff.2 fun h => by have h2 := hN.c16_0 (hN.c17_16 h); rw [hdi] at h2; cases h2
            have e7 := hN.h7a d17
            refine rstep_value rfl (v := u7) (w' := wx) ?_ ?_
            · simp only [hole, List.foldl_cons, List.foldl_nil, List.setIfInBounds_toArray, List.set_cons_zero, List.set_cons_succ]
              go_simp
            · exact ⟨hN.w0, hN.w13, hN.w14, hN.w15, hN.w16, hN.h7, hN.h7a, (fun _ => rfl), hN.h25, hN.h26, hN.h27, hN.h28, hN.c4_3, hN.h29, hN.c5_2, hN.c5_4, hN.h30, hN.h31, hN.h32, hN.c8_7, hN.h33, hN.h34, hN.c10_9, hN.h35, hN.c11_6, hN.c11_8, hN.c11_10, hN.h36, hN.h37, hN.c13_12, hN.c14_11, hN.c14_13, hN.c15_1, hN.c15_5, hN.c15_14, (fun _ => rfl), hN.c16_15, hN.c17_16⟩
          | 1, ho =>
            obtain rfl := Option.some.inj ho
            refine rstep_value rfl (v := .int .i64 (n : Nat)) (w' := wx) ?_ ?_
            · simp only [hole, List.foldl_cons, List.foldl_nil, List.setIfInBounds_toArray, List.set_cons_zero, List.set_cons_succ]
              go_simp
            · exact ⟨hN.w0, hN.w13, hN.w14, hN.w15, hN.w16, hN.h7, hN.h7a, hN.h24, (fun _ => rfl), hN.h26, hN.h27, hN.h28, hN.c4_3, hN.h29, hN.c5_2, hN.c5_4, hN.h30, hN.h31, hN.h32, hN.c8_7, hN.h33, hN.h34, hN.c10_9, hN.h35, hN.c11_6, hN.c11_8, hN.c11_10, hN.h36, hN.h37, hN.c13_12, hN.c14_11, hN.c14_13, (fun _ => rfl), hN.c15_5, hN.c15_14, hN.c16_0, hN.c16_15, hN.c17_16⟩
          | 2, ho =>
            obtain rfl := Option.some.inj ho
            refine rstep_value rfl (v := .int .i64 (taken : Nat)) (w' := wx) ?_ ?_
            · simp only [hole, List.foldl_cons, List.foldl_nil, List.setIfInBounds_toArray, List.set_cons_zero, List.set_cons_succ]
              go_simp
            · exact ⟨hN.w0, hN.w13, hN.w14, hN.w15, hN.w16, hN.h7, hN.h7a, hN.h24, hN.h25, (fun _ => rfl), hN.h27, hN.h28, hN.c4_3, hN.h29, (fun _ => rfl), hN.c5_4, hN.h30, hN.h31, hN.h32, hN.c8_7, hN.h33, hN.h34, hN.c10_9, hN.h35, hN.c11_6, hN.c11_8, hN.c11_10, hN.h36, hN.h37, hN.c13_12, hN.c14_11, hN.c14_13, hN.c15_1, hN.c15_5, hN.c15_14, hN.c16_0, hN.c16_15, hN.c17_16⟩
          | 3, ho =>
            obtain rfl := Option.some.inj ho
            refine rstep_value rfl (v := .int .i64 (j : Nat)) (w' := wx) ?_ ?_
            · simp only [hole, List.foldl_cons, List.foldl_nil, List.setIfInBounds_toArray, List.set_cons_zero, List.set_cons_succ]
              go_simp
            · exact ⟨hN.w0, hN.w13, hN.w14, hN.w15, hN.w16, hN.h7, hN.h7a, hN.h24, hN.h25, hN.h26, (fun _ => rfl), hN.h28, (fun _ => rfl), hN.h29, hN.c5_2, hN.c5_4, hN.h30, hN.h31, hN.h32, hN.c8_7, hN.h33, hN.h34, hN.c10_9, hN.h35, hN.c11_6, hN.c11_8, hN.c11_10, hN.h36, hN.h37, hN.c13_12, hN.c14_11, hN.c14_13, hN.c15_1, hN.c15_5, hN.c15_14, hN.c16_0, hN.c16_15, hN.c17_16⟩
          | 4, ho =>
            obtain rfl := Option.some.inj ho
            have e27 := hN.h27 (hdep ⟨3, .data⟩ (by simp) rfl)
            refine rstep_value rfl (v := .int .i64 ((2 : Int) ^ j)) (w' := wx) ?_ ?_
            · simp only [hole, List.foldl_cons, List.foldl_nil, List.setIfInBounds_toArray, List.set_cons_zero, List.set_cons_succ]
              go_simp
            · exact ⟨hN.w0, hN.w13, hN.w14, hN.w15, hN.w16, hN.h7, hN.h7a, hN.h24, hN.h25, hN.h26, hN.h27, (fun _ => rfl), (fun _ => hdep ⟨3, .data⟩ (by simp) rfl), hN.h29, hN.c5_2, (fun _ => rfl), hN.h30, hN.h31, hN.h32, hN.c8_7, hN.h33, hN.h34, hN.c10_9, hN.h35, hN.c11_6, hN.c11_8, hN.c11_10, hN.h36, hN.h37, hN.c13_12, hN.c14_11, hN.c14_13, hN.c15_1, hN.c15_5, hN.c15_14, hN.c16_0, hN.c16_15, hN.c17_16⟩
          | 5, ho =>
            obtain rfl := Option.some.inj ho
            have e26 := hN.h26 (hdep ⟨2, .data⟩ (by simp) rfl)
            have e28 := hN.h28 (hdep ⟨4, .data⟩ (by simp) rfl)
            refine rstep_value rfl (v := .int .i64 ((taken ||| 2 ^ j : Nat) : Int)) (w' := wx) ?_ ?_
            · simp only [hole, List.foldl_cons, List.foldl_nil, List.setIfInBounds_toArray, List.set_cons_zero, List.set_cons_succ]
              go_simp
            · exact ⟨hN.w0, hN.w13, hN.w14, hN.w15, hN.w16, hN.h7, hN.h7a, hN.h24, hN.h25, hN.h26, hN.h27, hN.h28, hN.c4_3, (fun _ => rfl), (fun _ => hdep ⟨2, .data⟩ (by simp) rfl), (fun _ => hdep ⟨4, .data⟩ (by simp) rfl), hN.h30, hN.h31, hN.h32, hN.c8_7, hN.h33, hN.h34, hN.c10_9, hN.h35, hN.c11_6, hN.c11_8, hN.c11_10, hN.h36, hN.h37, hN.c13_12, hN.c14_11, hN.c14_13, hN.c15_1, (fun _ => rfl), hN.c15_14, hN.c16_0, hN.c16_15, hN.c17_16⟩
          | 6, ho =>
            obtain rfl := Option.some.inj ho
            refine rstep_value rfl (v := .slice a L c) (w' := wx) ?_ ?_
            · simp only [hole, List.foldl_cons, List.foldl_nil, List.setIfInBounds_toArray, List.set_cons_zero, List.set_cons_succ]
              go_simp
            · exact ⟨hN.w0, hN.w13, hN.w14, hN.w15, hN.w16, hN.h7, hN.h7a, hN.h24, hN.h25, hN.h26, hN.h27, hN.h28, hN.c4_3, hN.h29, hN.c5_2, hN.c5_4, (fun _ => rfl), hN.h31, hN.h32, hN.c8_7, hN.h33, hN.h34, hN.c10_9, hN.h35, (fun _ => rfl), hN.c11_8, hN.c11_10, hN.h36, hN.h37, hN.c13_12, hN.c14_11, hN.c14_13, hN.c15_1, hN.c15_5, hN.c15_14, hN.c16_0, hN.c16_15, hN.c17_16⟩
          | 7, ho =>
            obtain rfl := Option.some.inj ho
            refine rstep_value rfl (v := .slice a L c) (w' := wx) ?_ ?_
            · simp only [hole, List.foldl_cons, List.foldl_nil, List.setIfInBounds_toArray, List.set_cons_zero, List.set_cons_succ]
              go_simp
            · exact ⟨hN.w0, hN.w13, hN.w14, hN.w15, hN.w16, hN.h7, hN.h7a, hN.h24, hN.h25, hN.h26, hN.h27, hN.h28, hN.c4_3, hN.h29, hN.c5_2, hN.c5_4, hN.h30, (fun _ => rfl), hN.h32, (fun _ => rfl), hN.h33, hN.h34, hN.c10_9, hN.h35, hN.c11_6, hN.c11_8, hN.c11_10, hN.h36, hN.h37, hN.c13_12, hN.c14_11, hN.c14_13, hN.c15_1, hN.c15_5, hN.c15_14, hN.c16_0, hN.c16_15, hN.c17_16⟩
          | 8, ho =>
            obtain rfl := Option.some.inj ho
            have e31 := hN.h31 (hdep ⟨7, .data⟩ (by simp) rfl)
            refine rstep_value rfl (v := .int .i64 (L : Nat)) (w' := wx) ?_ ?_
            · simp only [hole, List.foldl_cons, List.foldl_nil, List.setIfInBounds_toArray, List.set_cons_zero, List.set_cons_succ]
              go_simp
            · exact ⟨hN.w0, hN.w13, hN.w14, hN.w15, hN.w16, hN.h7, hN.h7a, hN.h24, hN.h25, hN.h26, hN.h27, hN.h28, hN.c4_3, hN.h29, hN.c5_2, hN.c5_4, hN.h30, hN.h31, (fun _ => rfl), (fun _ => hdep ⟨7, .data⟩ (by simp) rfl), hN.h33, hN.h34, hN.c10_9, hN.h35, hN.c11_6, (fun _ => rfl), hN.c11_10, hN.h36, hN.h37, hN.c13_12, hN.c14_11, hN.c14_13, hN.c15_1, hN.c15_5, hN.c15_14, hN.c16_0, hN.c16_15, hN.c17_16⟩
          | 9, ho =>
            obtain rfl := Option.some.inj ho
            refine rstep_value rfl (v := .slice a L c) (w' := wx) ?_ ?_
            · simp only [hole, List.foldl_cons, List.foldl_nil, List.setIfInBounds_toArray, List.set_cons_zero, List.set_cons_succ]
              go_simp
            · exact ⟨hN.w0, hN.w13, hN.w14, hN.w15, hN.w16, hN.h7, hN.h7a, hN.h24, hN.h25, hN.h26, hN.h27, hN.h28, hN.c4_3, hN.h29, hN.c5_2, hN.c5_4, hN.h30, hN.h31, hN.h32, hN.c8_7, (fun _ => rfl), hN.h34, (fun _ => rfl), hN.h35, hN.c11_6, hN.c11_8, hN.c11_10, hN.h36, hN.h37, hN.c13_12, hN.c14_11, hN.c14_13, hN.c15_1, hN.c15_5, hN.c15_14, hN.c16_0, hN.c16_15, hN.c17_16⟩
          | 10, ho =>
            obtain rfl := Option.some.inj ho
            have e33 := hN.h33 (hdep ⟨9, .data⟩ (by simp) rfl)
            refine rstep_value rfl (v := .int .i64 (L : Nat)) (w' := wx) ?_ ?_
            · simp only [hole, List.foldl_cons, List.foldl_nil, List.setIfInBounds_toArray, List.set_cons_zero, List.set_cons_succ]
              go_simp
            · exact ⟨hN.w0, hN.w13, hN.w14, hN.w15, hN.w16, hN.h7, hN.h7a, hN.h24, hN.h25, hN.h26, hN.h27, hN.h28, hN.c4_3, hN.h29, hN.c5_2, hN.c5_4, hN.h30, hN.h31, hN.h32, hN.c8_7, hN.h33, (fun _ => rfl), (fun _ => hdep ⟨9, .data⟩ (by simp) rfl), hN.h35, hN.c11_6, hN.c11_8, (fun _ => rfl), hN.h36, hN.h37, hN.c13_12, hN.c14_11, hN.c14_13, hN.c15_1, hN.c15_5, hN.c15_14, hN.c16_0, hN.c16_15, hN.c17_16⟩
          | 11, ho =>
            obtain rfl := Option.some.inj ho
            have e30 := hN.h30 (hdep ⟨6, .data⟩ (by simp) rfl)
            have e32 := hN.h32 (hdep ⟨8, .data⟩ (by simp) rfl)
            have e34 := hN.h34 (hdep ⟨10, .data⟩ (by simp) rfl)
            refine rstep_value rfl (v := .slice a L L) (w' := wx) ?_ ?_
            · simp only [hole, List.foldl_cons, List.foldl_nil, List.setIfInBounds_toArray, List.set_cons_zero, List.set_cons_succ]
              rcases ha with ⟨rfl, rfl, rfl⟩ | ⟨g, rfl⟩
              · go_simp
              · go_simp
            · exact ⟨hN.w0, hN.w13, hN.w14, hN.w15, hN.w16, hN.h7, hN.h7a, hN.h24, hN.h25, hN.h26, hN.h27, hN.h28, hN.c4_3, hN.h29, hN.c5_2, hN.c5_4, hN.h30, hN.h31, hN.h32, hN.c8_7, hN.h33, hN.h34, hN.c10_9, (fun _ => rfl), (fun _ => hdep ⟨6, .data⟩ (by simp) rfl), (fun _ => hdep ⟨8, .data⟩ (by simp) rfl), (fun _ => hdep ⟨10, .data⟩ (by simp) rfl), hN.h36, hN.h37, hN.c13_12, (fun _ => rfl), hN.c14_13, hN.c15_1, hN.c15_5, hN.c15_14, hN.c16_0, hN.c16_15, hN.c17_16⟩
          | 12, ho =>
            obtain rfl := Option.some.inj ho
            refine rstep_value rfl (v := .int .i64 (j : Nat)) (w' := wx) ?_ ?_
            · simp only [hole, List.foldl_cons, List.foldl_nil, List.setIfInBounds_toArray, List.set_cons_zero, List.set_cons_succ]
              go_simp
            · exact ⟨hN.w0, hN.w13, hN.w14, hN.w15, hN.w16, hN.h7, hN.h7a, hN.h24, hN.h25, hN.h26, hN.h27, hN.h28, hN.c4_3, hN.h29, hN.c5_2, hN.c5_4, hN.h30, hN.h31, hN.h32, hN.c8_7, hN.h33, hN.h34, hN.c10_9, hN.h35, hN.c11_6, hN.c11_8, hN.c11_10, (fun _ => rfl), hN.h37, (fun _ => rfl), hN.c14_11, hN.c14_13, hN.c15_1, hN.c15_5, hN.c15_14, hN.c16_0, hN.c16_15, hN.c17_16⟩
          | 13, ho =>
            obtain rfl := Option.some.inj ho
            have e36 := hN.h36 (hdep ⟨12, .data⟩ (by simp) rfl)
            obtain rfl := hN.w0 hdi
            refine rstep_value rfl (v := .slice (some ⟨wx.heap.size, 0, none⟩) 1 1) (w' := wx.alloc (.cells #[.int .i64 (j : Nat)] 3)) ?_ ?_
            · simp only [hole, List.foldl_cons, List.foldl_nil, List.setIfInBounds_toArray, List.set_cons_zero, List.set_cons_succ]
              go_simp
            · exact ⟨(fun h => by simp at h), (fun _ _ => rfl), (fun h => by have h2 := hN.c14_13 h; rw [hdi] at h2; cases h2), (fun h => by have h2 := hN.c14_13 (hN.c15_14 h); rw [hdi] at h2; cases h2), (fun h => by have h2 := hN.c14_13 (hN.c15_14 (hN.c16_15 h)); rw [hdi] at h2; cases h2), hN.h7, hN.h7a, hN.h24, hN.h25, hN.h26, hN.h27, hN.h28, hN.c4_3, hN.h29, hN.c5_2, hN.c5_4, hN.h30, hN.h31, hN.h32, hN.c8_7, hN.h33, hN.h34, hN.c10_9, hN.h35, hN.c11_6, hN.c11_8, hN.c11_10, hN.h36, (fun _ => rfl), (fun _ => hdep ⟨12, .data⟩ (by simp) rfl), hN.c14_11, (fun _ => rfl), hN.c15_1, hN.c15_5, hN.c15_14, hN.c16_0, hN.c16_15, hN.c17_16⟩
          | 14, ho =>
            obtain rfl := Option.some.inj ho
            have e35 := hN.h35 (hdep ⟨11, .data⟩ (by simp) rfl)
            have e37 := hN.h37 (hdep ⟨13, .data⟩ (by simp) rfl)
            have d13 : d 13 = true := hdep ⟨13, .data⟩ (by simp) rfl
            obtain rfl := hN.w13 d13 hdi
            obtain ⟨v', w', hrun, r1, r2⟩ := run_app1_cut (ty := 22) (HB.out.alloc (.cells #[.int .i64 (j : Nat)] 3)) (ad := ⟨W0.heap.size, 0, none⟩) (c := 1) (cell_new1 _ _ _) (by rw [toI_length]; omega)
            have hrun' : (Builtin.append_ #[22, 22] 22 #[.slice a L L, .slice (some ⟨W0.heap.size, 0, none⟩) 1 1]).run Tryd.prog (W0.alloc (.cells #[.int .i64 (j : Nat)] 3)) = .ok v' w' := hrun
            refine rstep_value rfl (v := v') (w' := w') ?_ ?_
            · simp only [hole, List.foldl_cons, List.foldl_nil, List.setIfInBounds_toArray, List.set_cons_zero, List.set_cons_succ]
              simp [execOp, resolve, invoke, builtin, Act.eval, e35, e37, Result.andThen]
              rw [hrun']
            · exact ⟨(fun h => by rw [show d 13 = false from h] at d13; cases d13), (fun _ h => by simp at h), (fun _ _ => ⟨by rw [toI_append]; exact r1.mono (by simp; omega), (below_alloc (Below.refl _ _) _).trans (r2.mono (by simp))⟩), (fun h => by have h2 := hN.c15_14 h; rw [hdi] at h2; cases h2), (fun h => by have h2 := hN.c15_14 (hN.c16_15 h); rw [hdi] at h2; cases h2), hN.h7, hN.h7a, hN.h24, hN.h25, hN.h26, hN.h27, hN.h28, hN.c4_3, hN.h29, hN.c5_2, hN.c5_4, hN.h30, hN.h31, hN.h32, hN.c8_7, hN.h33, hN.h34, hN.c10_9, hN.h35, hN.c11_6, hN.c11_8, hN.c11_10, hN.h36, hN.h37, hN.c13_12, (fun _ => hdep ⟨11, .data⟩ (by simp) rfl), (fun _ => hdep ⟨13, .data⟩ (by simp) rfl), hN.c15_1, hN.c15_5, (fun _ => rfl), hN.c16_0, hN.c16_15, hN.c17_16⟩
          | 15, ho =>
            obtain rfl := Option.some.inj ho
            have e25 := hN.h25 (hdep ⟨1, .data⟩ (by simp) rfl)
            have e29 := hN.h29 (hdep ⟨5, .data⟩ (by simp) rfl)
            have d14 : d 14 = true := hdep ⟨14, .data⟩ (by simp) rfl
            obtain ⟨o38, b38⟩ := hN.w14 d14 hdi
            have hsz := b38.size
            refine rstep_call rfl (f := 71) (args := #[.int .i64 (n : Nat), .int .i64 ((taken ||| 2 ^ j : Nat) : Int), y 38]) (w' := wx) ?_ (IH.out wx (y 38) o38 (by omega)) ?_
            · simp only [hole, List.foldl_cons, List.foldl_nil, List.setIfInBounds_toArray, List.set_cons_zero, List.set_cons_succ]
              go_simp
            · rintro e w'' ⟨v', rfl, hr, hb⟩
              exact ⟨_, rfl, (fun h => by have d13 := hN.c14_13 d14; rw [show d 13 = false from h] at d13; cases d13), (fun _ h => by rw [show d 14 = false from h] at d14; cases d14), (fun _ h => by simp at h), (fun _ _ => ⟨hr.monoB hsz, b38.trans (hb.mono hsz)⟩), (fun h => by have h2 := hN.c16_15 h; rw [hdi] at h2; cases h2), hN.h7, hN.h7a, hN.h24, hN.h25, hN.h26, hN.h27, hN.h28, hN.c4_3, hN.h29, hN.c5_2, hN.c5_4, hN.h30, hN.h31, hN.h32, hN.c8_7, hN.h33, hN.h34, hN.c10_9, hN.h35, hN.c11_6, hN.c11_8, hN.c11_10, hN.h36, hN.h37, hN.c13_12, hN.c14_11, hN.c14_13, (fun _ => hdep ⟨1, .data⟩ (by simp) rfl), (fun _ => hdep ⟨5, .data⟩ (by simp) rfl), (fun _ => hdep ⟨14, .data⟩ (by simp) rfl), hN.c16_0, (fun _ => rfl), hN.c17_16⟩
          | 16, ho =>
            obtain rfl := Option.some.inj ho
            have e24 := hN.h24 (hdep ⟨0, .data⟩ (by simp) rfl)
            have d15 : d 15 = true := hdep ⟨15, .data⟩ (by simp) rfl
            obtain ⟨r39, b39⟩ := hN.w15 d15 hdi
            have hsz := b39.size
            obtain ⟨u, w', hrun, r1, r2, r3⟩ := run_appRows (ty := 42) (HO.out.below b39) r39 (by omega) hlen
            refine rstep_value rfl (v := u) (w' := w') ?_ ?_
            · simp only [hole, List.foldl_cons, List.foldl_nil, List.setIfInBounds_toArray, List.set_cons_zero, List.set_cons_succ]
              simp [execOp, resolve, invoke, builtin, Act.eval, e24, Result.andThen]
              rw [hrun]
            · exact ⟨(fun h => by have d13 := hN.c14_13 (hN.c15_14 d15); rw [show d 13 = false from h] at d13; cases d13), (fun _ h => by have d14 := hN.c15_14 d15; rw [show d 14 = false from h] at d14; cases d14), (fun _ h => by rw [show d 15 = false from h] at d15; cases d15), (fun _ h => by simp at h), (fun _ => ⟨r1, (b39.mono (by omega)).trans r3⟩), (fun h => by have h2 := hN.c17_16 h; rw [hdi] at h2; cases h2), hN.h7a, hN.h24, hN.h25, hN.h26, hN.h27, hN.h28, hN.c4_3, hN.h29, hN.c5_2, hN.c5_4, hN.h30, hN.h31, hN.h32, hN.c8_7, hN.h33, hN.h34, hN.c10_9, hN.h35, hN.c11_6, hN.c11_8, hN.c11_10, hN.h36, hN.h37, hN.c13_12, hN.c14_11, hN.c14_13, hN.c15_1, hN.c15_5, hN.c15_14, (fun _ => hdep ⟨0, .data⟩ (by simp) rfl), (fun _ => hdep ⟨15, .data⟩ (by simp) rfl), (fun _ => rfl)⟩
          | 17, ho =>
            obtain rfl := Option.some.inj ho
            refine rstep_value rfl (v := y 40) (w' := wx) ?_ ?_
            · simp only [hole, List.foldl_cons, List.foldl_nil, List.setIfInBounds_toArray, List.set_cons_zero, List.set_cons_succ]
              go_simp
            · exact ⟨hN.w0, hN.w13, hN.w14, hN.w15, hN.w16, (fun _ => rfl), (fun h => by simp at h), hN.h24, hN.h25, hN.h26, hN.h27, hN.h28, hN.c4_3, hN.h29, hN.c5_2, hN.c5_4, hN.h30, hN.h31, hN.h32, hN.c8_7, hN.h33, hN.h34, hN.c10_9, hN.h35, hN.c11_6, hN.c11_8, hN.c11_10, hN.h36, hN.h37, hN.c13_12, hN.c14_11, hN.c14_13, hN.c15_1, hN.c15_5, hN.c15_14, hN.c16_0, hN.c16_15, (fun _ => hdep ⟨16, .data⟩ (by simp) rfl)⟩
        · intro d y wx hd hN
          have e24 := hN.h24 (hd 0 (by simp))
          have e25 := hN.h25 (hd 1 (by simp))
          have e26 := hN.h26 (hd 2 (by simp))
          have e27 := hN.h27 (hd 3 (by simp))
          have e28 := hN.h28 (hd 4 (by simp))
          have e29 := hN.h29 (hd 5 (by simp))
          have e30 := hN.h30 (hd 6 (by simp))
          have e31 := hN.h31 (hd 7 (by simp))
          have e32 := hN.h32 (hd 8 (by simp))
          have e33 := hN.h33 (hd 9 (by simp))
          have e34 := hN.h34 (hd 10 (by simp))
          have e35 := hN.h35 (hd 11 (by simp))
          have e36 := hN.h36 (hd 12 (by simp))
          have e37 := hN.h37 (hd 13 (by simp))
          have e7 := hN.h7 (hd 17 (by simp))
          obtain ⟨hr, hb⟩ := hN.w16 (hd 16 (by simp))
          clear hN
          simp only [hole, List.foldl_cons, List.foldl_nil, List.setIfInBounds_toArray, List.set_cons_zero, List.set_cons_succ, e7, e24, e25, e26, e27, e28, e29, e30, e31, e32, e33, e34, e35, e36, e37]
          clear e7 e24 e25 e26 e27 e28 e29 e30 e31 e32 e33 e34 e35 e36 e37
          go_wp2
          go_roundw
          case rel => exact ⟨j + 1, by omega, by go_num, by rw [HP.out]; exact hr, HBW.out.trans hb⟩
          case measure => simp [intOf]; omega
    · obtain rfl : j = n := by omega
      go_wp2
      go_ret
      exact ⟨_, rfl, by rw [← hpre.out]; exact hr, hb⟩
end Go.Proofs.YtlpnicfbgdfbnaaDoor
