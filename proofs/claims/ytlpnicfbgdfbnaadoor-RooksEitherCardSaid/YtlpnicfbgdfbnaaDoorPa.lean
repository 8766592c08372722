/- rooks.permutations. -/
import Derived.Test.YtlpnicfbgdfbnaaDoorWn
import Derived.Test.YtlpnicfbgdfbnaaDoorHs
namespace Go.Proofs.YtlpnicfbgdfbnaaDoor
open Go.RowKit Go.Shelf
attribute [local go_sem] Oper.semAt_some

theorem run_store_closure (P : Program) (w : World) (a : Addr) (m : Mode) (fn : Fn) (first captured : Array Value) : (store a (.func fn first captured) m).run P w = stored P w a (.func fn first captured) m := run_store P w a _ m rfl
attribute [local go_sem] run_store_closure

def PermPost {σ : Type} (Y : Yld σ) (s : σ) (W : World) (e : Ending) (W' : World) : Prop :=
  e = .returned (.tuple #[]) ∧ Y.Inv (runP Y.step s (allP Y.n)).1 W' ∧ Sm (fun k => Y.N ≤ k) W W' ∧ ∀ k, Y.Prot (runP Y.step s (allP Y.n)).1 W' k → Y.Prot s W k ∨ W.heap.size ≤ k

structure N49 {σ : Type} (Y : Yld σ) (s : σ) (W W3 : World) (d : Nat → Bool) (y : Nat → Value) (wx : World) : Prop where
  w : d 4 = false → wx = W3
  h11 : d 4 = true → ∃ b, y 11 = .bool b ∧ WPost Y W.heap.size (W.heap.size + 1) (W.heap.size + 1 + 1) (runP Y.step s (List.map (fun x => [] ++ x) (perms Y.n (2 ^ Y.n - 1)))) s [] (Value.slice none 0 0) W3 (.returned (.bool b)) wx
  h7 : d 0 = true → y 7 = .func (.func 70) #[] #[.pointer (some ⟨W.heap.size, 0, none⟩), .pointer (some ⟨W.heap.size + 1, 0, none⟩), .pointer (some ⟨W.heap.size + 1 + 1, 0, none⟩)]
  h8 : d 1 = true → y 8 = .int .i64 (Y.n : Nat)
  h9 : d 2 = true → y 9 = .int .i64 ((2 : Int) ^ Y.n)
  c2_1 : d 2 = true → d 1 = true
  h10 : d 3 = true → y 10 = .int .i64 ((2 ^ Y.n - 1 : Nat) : Int)
  c3_2 : d 3 = true → d 2 = true
  c4_0 : d 4 = true → d 0 = true
  c4_3 : d 4 = true → d 3 = true
theorem N49.all {σ : Type} {Y : Yld σ} {s : σ} {W W3 : World} {d : Nat → Bool} {y : Nat → Value} {wx : World} (h : N49 Y s W W3 d y wx) (h4 : d 4 = true) : d 0 = true ∧ d 1 = true ∧ d 2 = true ∧ d 3 = true :=
  have h3 := h.c4_3 h4
  have h2 := h.c3_2 h3
  ⟨h.c4_0 h4, h.c2_1 h2, h2, h3⟩

set_option maxRecDepth 20000 in
set_option maxHeartbeats 2000000 in
theorem perm_any {σ : Type} (Y : Yld σ) (hY : Y.Ok) (hn : Y.n ≤ 6) (s : σ) (W : World) (hi : Y.Inv s W) :
    Calls Tryd.prog 49 #[.int .i64 (Y.n : Nat), .func (.func Y.fy) #[] Y.caps] W (PermPost Y s W) := by
  obtain ⟨p1, p2, p3⟩ := all_pop Y.n (by omega)
  have hlow := hY.low _ _ hi
  obtain ⟨WA, hWA⟩ : ∃ WA, ((W.alloc (.cells #[.func (.func Y.fy) #[] Y.caps] 28)).alloc (.cells #[.slice none 0 0] 22)).alloc (.cells #[.nilFunc] 36) = WA := ⟨_, rfl⟩
  obtain ⟨W3, hW3⟩ : ∃ W3, (WA.setCell ⟨W.heap.size + 1 + 1, 0, none⟩ (.func (.func 70) #[] #[.pointer (some ⟨W.heap.size, 0, none⟩), .pointer (some ⟨W.heap.size + 1, 0, none⟩), .pointer (some ⟨W.heap.size + 1 + 1, 0, none⟩)])).drew = W3 := ⟨_, rfl⟩
  have hb : Below W.heap.size W W3 := by
    rw [← hW3, ← hWA]
    exact (((((Below.refl _ _).alloc (Nat.le_refl _) _).alloc (by simp) _).alloc (by simp; omega) _).grown (IsBufferSet _ _ _ _) (by simp; omega) (fun k hk => by cases hk; omega)).drew
  have x1 : Boxed W3 W.heap.size 28 (.func (.func Y.fy) #[] Y.caps) := by
    rw [← hW3, ← hWA]
    exact boxed_other (((Boxed.new _ _ _).alloc _).alloc _) (by omega) _
  have x2 : Boxed W3 (W.heap.size + 1) 22 (.slice none 0 0) := by
    rw [← hW3, ← hWA]
    have := Boxed.new (W.alloc (.cells #[.func (.func Y.fy) #[] Y.caps] 28)) 22 (.slice none 0 0)
    rw [World.size_alloc] at this
    exact boxed_other (this.alloc _) (by omega) _
  have x0 : Boxed WA (W.heap.size + 1 + 1) 36 .nilFunc := by
    have := Boxed.new ((W.alloc (.cells #[.func (.func Y.fy) #[] Y.caps] 28)).alloc (.cells #[.slice none 0 0] 22)) 36 .nilFunc
    rw [World.size_alloc, World.size_alloc, hWA] at this
    exact this
  have c0 := x0.cell
  have f0 := x0.frozen
  have x3 : Boxed W3 (W.heap.size + 1 + 1) 36 (.func (.func 70) #[] #[.pointer (some ⟨W.heap.size, 0, none⟩), .pointer (some ⟨W.heap.size + 1, 0, none⟩), .pointer (some ⟨W.heap.size + 1 + 1, 0, none⟩)]) := by
    rw [← hW3]
    exact Boxed.set _ x0
  have st := hY.stable _ _ _ hi (Sm.of_below hb)
  have pl : ∀ k, Y.Prot s W3 k → k < W.heap.size := fun k hk => hY.prot_lt hi (st.2 k hk)
  have P : PS Y W.heap.size (W.heap.size + 1) (W.heap.size + 1 + 1) s [] (.slice none 0 0) W3 :=
    ⟨st.1, x1, x2, x3, OwnI.nil _ _ _, hlow, by omega, by omega, fun h => by have := pl _ h; omega, fun h => by have := pl _ h; omega, fun h => by have := pl _ h; omega, fun k hk => by simp [Value.ownBlock] at hk⟩
  have C := Lib.hid (walk_any hY hn Y.n (2 ^ Y.n - 1) s [] (.slice none 0 0) W3 P p2 p3 (by simp) (by simp))
  have c3 := x3.cell
  have hpw := pow_in Y.n (by omega)
  have hpw1 := pow_in1 Y.n (by omega)
  have hcast : (2 : Int) ^ Y.n - 1 = ((2 ^ Y.n - 1 : Nat) : Int) := by
    have : 1 ≤ 2 ^ Y.n := Nat.one_le_two_pow
    rw [Int.ofNat_sub this]; simp
  have HC := Lib.hid hcast
  have H2 := Lib.hid hb
  have ST := Lib.hid st.2
  clear P hi pl x0 x1 x2 x3 hcast hb st
  go_enter Tryd.func49, Tryd.ntmps49
  go_upto_region 3 with (fail)
  try rw [hWA]
  clear hWA
  go_upto_region 4 with (fail)
  clear c0 f0
  have H3 := Lib.hid hW3
  clear hW3
  refine wp_region_sched (by kernel_rfl) [7, 8, 9, 10, 11] (by kernel_rfl) (N49 Y s W W3) ?_ ?_ ?_
  · rw [H3.out]
    exact ⟨fun _ => rfl, (fun h => by cases h), (fun h => by cases h), (fun h => by cases h), (fun h => by cases h), (fun h => by cases h), (fun h => by cases h), (fun h => by cases h), (fun h => by cases h), (fun h => by cases h)⟩
  · intro i o ho d y wx hdi hdep hN
    match i, ho with
    | 0, ho =>
      obtain rfl := Option.some.inj ho
      have h4 : d 4 = false := Bool.eq_false_iff.2 fun h4 => by have := hN.all h4; simp [hdi] at this
      obtain rfl := hN.w h4
      refine rstep_value rfl (v := .func (.func 70) #[] #[.pointer (some ⟨W.heap.size, 0, none⟩), .pointer (some ⟨W.heap.size + 1, 0, none⟩), .pointer (some ⟨W.heap.size + 1 + 1, 0, none⟩)]) (w' := wx) ?_ ?_
      · simp only [hole, List.foldl_cons, List.foldl_nil, List.setIfInBounds_toArray, List.set_cons_zero, List.set_cons_succ]
        go_simp
      · exact ⟨hN.w, hN.h11, (fun _ => rfl), hN.h8, hN.h9, hN.c2_1, hN.h10, hN.c3_2, (fun _ => rfl), hN.c4_3⟩
    | 1, ho =>
      obtain rfl := Option.some.inj ho
      refine rstep_value rfl (v := .int .i64 (Y.n : Nat)) (w' := wx) ?_ ?_
      · simp only [hole, List.foldl_cons, List.foldl_nil, List.setIfInBounds_toArray, List.set_cons_zero, List.set_cons_succ]
        go_simp
      · exact ⟨hN.w, hN.h11, hN.h7, (fun _ => rfl), hN.h9, (fun _ => rfl), hN.h10, hN.c3_2, hN.c4_0, hN.c4_3⟩
    | 2, ho =>
      obtain rfl := Option.some.inj ho
      have e8 := hN.h8 (hdep ⟨1, .data⟩ (by simp) rfl)
      refine rstep_value rfl (v := .int .i64 ((2 : Int) ^ Y.n)) (w' := wx) ?_ ?_
      · simp only [hole, List.foldl_cons, List.foldl_nil, List.setIfInBounds_toArray, List.set_cons_zero, List.set_cons_succ]
        go_simp
      · exact ⟨hN.w, hN.h11, hN.h7, hN.h8, (fun _ => rfl), (fun _ => hdep ⟨1, .data⟩ (by simp) rfl), hN.h10, (fun _ => rfl), hN.c4_0, hN.c4_3⟩
    | 3, ho =>
      obtain rfl := Option.some.inj ho
      have e9 := hN.h9 (hdep ⟨2, .data⟩ (by simp) rfl)
      refine rstep_value rfl (v := .int .i64 ((2 ^ Y.n - 1 : Nat) : Int)) (w' := wx) ?_ ?_
      · simp only [hole, List.foldl_cons, List.foldl_nil, List.setIfInBounds_toArray, List.set_cons_zero, List.set_cons_succ]
        rw [← HC.out]
        go_simp
      · exact ⟨hN.w, hN.h11, hN.h7, hN.h8, hN.h9, hN.c2_1, (fun _ => rfl), (fun _ => hdep ⟨2, .data⟩ (by simp) rfl), hN.c4_0, (fun _ => rfl)⟩
    | 4, ho =>
      obtain rfl := Option.some.inj ho
      have e7 := hN.h7 (hdep ⟨0, .data⟩ (by simp) rfl)
      have e10 := hN.h10 (hdep ⟨3, .data⟩ (by simp) rfl)
      obtain rfl := hN.w hdi
      refine rstep_call rfl (f := 70) (args := #[.int .i64 ((2 ^ Y.n - 1 : Nat) : Int), .pointer (some ⟨W.heap.size, 0, none⟩), .pointer (some ⟨W.heap.size + 1, 0, none⟩), .pointer (some ⟨W.heap.size + 1 + 1, 0, none⟩)]) (w' := wx) ?_ C.out ?_
      · simp only [hole, List.foldl_cons, List.foldl_nil, List.setIfInBounds_toArray, List.set_cons_zero, List.set_cons_succ]
        go_simp
      · rintro e w'' hw
        obtain ⟨rfl, hw2⟩ := hw
        exact ⟨_, rfl, (fun h => by simp at h), (fun _ => ⟨_, rfl, rfl, hw2⟩), hN.h7, hN.h8, hN.h9, hN.c2_1, hN.h10, hN.c3_2, (fun _ => hdep ⟨0, .data⟩ (by simp) rfl), (fun _ => hdep ⟨3, .data⟩ (by simp) rfl)⟩
  · intro d y wx hd hN
    obtain ⟨b, e11, -, hi4, hs4, hp4, -⟩ := hN.h11 (hd 4 (by simp))
    have e7 := hN.h7 (hd 0 (by simp))
    have e8 := hN.h8 (hd 1 (by simp))
    have e9 := hN.h9 (hd 2 (by simp))
    have e10 := hN.h10 (hd 3 (by simp))
    clear hN C
    simp only [hole, List.foldl_cons, List.foldl_nil, List.setIfInBounds_toArray, List.set_cons_zero, List.set_cons_succ, e7, e8, e9, e10, e11]
    clear e7 e8 e9 e10 e11 y
    have e4 : (perms Y.n (2 ^ Y.n - 1)).map (fun x => [] ++ x) = allP Y.n := by simp [allP]
    rw [e4] at hi4 hp4
    have HI := Lib.hid hi4
    have HS := Lib.hid hs4
    have HP := Lib.hid hp4
    clear hi4 hs4 hp4 e4
    go_wp2
    go_end0
    have hb := H2.out
    refine ⟨rfl, HI.out, (Sm.of_below hb).trans' HS.out (fun k hlt hk => ⟨hk, by omega, by simp [Value.ownBlock]⟩), fun k hk => ?_⟩
    rcases HP.out k hk with h | h
    · exact .inl (ST.out k h)
    · exact .inr (by have := hb.size; omega)
end Go.Proofs.YtlpnicfbgdfbnaaDoor
