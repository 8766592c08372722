/- Hits$1: the hit numbers as a yield. -/
import Derived.Test.YtlpnicfbgdfbnaaDoorPa
import Derived.Test.YtlpnicfbgdfbnaaDoorNu
namespace Go.Proofs.YtlpnicfbgdfbnaaDoor
open Go.RowKit Go.Shelf
attribute [local go_sem] Oper.semAt_some

structure N50 (W0 : World) (g n1 : Nat) (v vp : Value) (x : Int) (hit : Nat) (d : Nat → Bool) (y : Nat → Value) (wx : World) : Prop where
  w : d 8 = false → wx = W0
  w8 : d 8 = true → wx = W0.setCell ⟨g, hit, none⟩ (.int .i64 (IntKind.i64.wrap (x + 1)))
  h5 : d 0 = true → y 5 = .slice (some ⟨g, 0, none⟩) n1 n1
  h6 : d 1 = true → y 6 = v
  h7 : d 2 = true → y 7 = vp
  h8 : d 3 = true → y 8 = .int .i64 (hit : Nat)
  c3_1 : d 3 = true → d 1 = true
  c3_2 : d 3 = true → d 2 = true
  h9 : d 4 = true → y 9 = .pointer (some ⟨g, hit, none⟩)
  c4_0 : d 4 = true → d 0 = true
  c4_3 : d 4 = true → d 3 = true
  h10 : d 5 = true → y 10 = .int .i64 x
  c5_4 : d 5 = true → d 4 = true
  h11 : d 6 = true → y 11 = .int .i64 (IntKind.i64.wrap (x + 1))
  c6_5 : d 6 = true → d 5 = true
  h12 : d 7 = true → y 12 = .pointer (some ⟨g, hit, none⟩)
  c7_0 : d 7 = true → d 0 = true
  c7_3 : d 7 = true → d 3 = true
  c8_6 : d 8 = true → d 6 = true
  c8_7 : d 8 = true → d 7 = true
theorem N50.all {W0 : World} {g n1 : Nat} {v vp : Value} {x : Int} {hit : Nat} {d : Nat → Bool} {y : Nat → Value} {wx : World} (h : N50 W0 g n1 v vp x hit d y wx) (h8 : d 8 = true) : d 0 = true ∧ d 1 = true ∧ d 2 = true ∧ d 3 = true ∧ d 5 = true :=
  have h7 := h.c8_7 h8
  have h6 := h.c8_6 h8
  have h3 := h.c7_3 h7
  ⟨h.c7_0 h7, h.c3_1 h3, h.c3_2 h3, h3, h.c6_5 h6⟩

/-- Numbers as the machine keeps them. -/
def toW (s : List Nat) : List Int := s.map fun x : Nat => IntKind.i64.wrap (x : Int)
theorem toW_length (s : List Nat) : (toW s).length = s.length := by simp [toW]
theorem toW_small (s : List Nat) (h : ∀ x ∈ s, x < 9223372036854775808) : toW s = toI s := by
  unfold toW toI
  exact List.map_congr_left fun x hx => i64_wrap_nat x (h x hx)
theorem wrap_succ (x : Nat) : IntKind.i64.wrap (IntKind.i64.wrap (x : Int) + 1) = IntKind.i64.wrap ((x + 1 : Nat) : Int) := by
  simp [IntKind.wrap, IntKind.bits, IntKind.signed]; omega
theorem OwnI.cellI {e : TypeId} {B : Nat} {w : World} {g n cap : Nat} {L : List Int} (h : OwnI e B w (.slice (some ⟨g, 0, none⟩) n cap) L) (j : Nat) (hj : j < L.length) : w.cell? ⟨g, j, none⟩ = some (.int .i64 L[j]) := by
  obtain ⟨h1, h2⟩ := h
  rcases h2 with ⟨h2, _⟩ | ⟨g', cap', cur, h2, hg, hh, r⟩
  · cases h2
  · obtain ⟨e1, rfl, rfl⟩ := Value.slice.inj h2
    obtain rfl : g = g' := by simpa using e1
    have hown : w.ownsRow B e 1 (.slice (some ⟨g, 0, none⟩) L.length cap) L.length (L.map (Value.int .i64)) := ⟨h1, .inr ⟨g, cap, cur, rfl, hg, hh, r⟩⟩
    rw [World.ownsRow.cellAt hown j (by omega)]
    simp [List.getElem?_eq_getElem hj]
theorem OwnI.storedI {e : TypeId} {B : Nat} {w : World} {g n cap : Nat} {L : List Int} (h : OwnI e B w (.slice (some ⟨g, 0, none⟩) n cap) L) (j : Nat) (x : Int) : OwnI e B (w.setCell ⟨g, j, none⟩ (.int .i64 x)) (.slice (some ⟨g, 0, none⟩) n cap) (L.set j x) := by
  obtain ⟨h1, h2⟩ := h
  rcases h2 with ⟨h2, _⟩ | ⟨g', cap', cur, h2, hg, hh, r⟩
  · cases h2
  · obtain ⟨e1, rfl, rfl⟩ := Value.slice.inj h2
    obtain rfl : g = g' := by simpa using e1
    have hown : w.ownsRow B e 1 (.slice (some ⟨g, 0, none⟩) L.length cap) L.length (L.map (Value.int .i64)) := ⟨h1, .inr ⟨g, cap, cur, rfl, hg, hh, r⟩⟩
    have := World.ownsRow.stored hown j (.int .i64 x)
    unfold OwnI
    have e1 : (L.set j x).length = L.length := by simp
    have e2 : (L.set j x).map (Value.int .i64) = (L.map (Value.int .i64)).set j (.int .i64 x) := by simp [List.map_set]
    rw [e1, e2]
    exact this.1

/-- Where the count of the hits stands. -/
structure HInv (w0 : World) (N : Nat) (bs : List Nat) (v : Value) (bo bb g : Nat) (s : List Nat) (W : World) : Prop where
  hb : Below w0.heap.size w0 W
  low : N ≤ W.heap.size
  len : s.length = bs.length + 1
  xo : Boxed W bo 22 (.slice (some ⟨g, 0, none⟩) (bs.length + 1) (bs.length + 1))
  xb : Boxed W bb 22 v
  own : OwnI 3 w0.heap.size W (.slice (some ⟨g, 0, none⟩) (bs.length + 1) (bs.length + 1)) (toW s)

def yH (w0 : World) (N : Nat) (bs : List Nat) (v : Value) (bo bb g : Nat) : Yld (List Nat) where
  N := N
  n := bs.length
  fy := 50
  caps := #[.pointer (some ⟨bo, 0, none⟩), .pointer (some ⟨bb, 0, none⟩)]
  step := fun s l => (inc s (hitN bs l), true)
  Inv := HInv w0 N bs v bo bb g
  Prot := fun _ _ _ => False

set_option maxRecDepth 20000 in
set_option maxHeartbeats 2000000 in
theorem hits1_any (W : World) (bs l : List Nat) (v vp : Value) (bo bb g : Nat) (x : Int) (hbs : ∀ r ∈ bs, r < 64) (hl : l.length = bs.length) (h6 : bs.length ≤ 6) (hc : ∀ c ∈ l, c < 6) (hv : Ints W v (toI bs)) (hp : Ints W vp (toI l))
    (xo : Boxed W bo 22 (.slice (some ⟨g, 0, none⟩) (bs.length + 1) (bs.length + 1))) (xb : Boxed W bb 22 v) (hx : W.cell? ⟨g, hitN bs l, none⟩ = some (.int .i64 x)) (hf : W.frozen? ⟨g, hitN bs l, none⟩ = false) :
    Calls Tryd.prog 50 #[vp, .pointer (some ⟨bo, 0, none⟩), .pointer (some ⟨bb, 0, none⟩)] W fun e W' =>
      e = .returned (.bool true) ∧ W' = W.drew.setCell ⟨g, hitN bs l, none⟩ (.int .i64 (IntKind.i64.wrap (x + 1))) := by
  have hle : hitN bs l ≤ bs.length := by rw [← hl]; exact hitN_le _ _
  obtain ⟨hit, hhit⟩ : ∃ h, hitN bs l = h := ⟨_, rfl⟩
  obtain ⟨W1, hW1⟩ : ∃ W1, W.drew = W1 := ⟨_, rfl⟩
  have C := hit_any v vp bs l W1 (by rw [← hW1]; exact hv) (by rw [← hW1]; exact hp) hbs hc (by omega) h6
  rw [hhit] at hx hf hle C ⊢
  have C := Lib.hid C
  have c1 := xo.cell
  have c2 := xb.cell
  have hx1 : W1.cell? ⟨g, hit, none⟩ = some (.int .i64 x) := by rw [← hW1]; exact hx
  have hf1 : W1.frozen? ⟨g, hit, none⟩ = false := by rw [← hW1]; exact hf
  have c11 : W1.cell? ⟨bo, 0, none⟩ = some (.slice (some ⟨g, 0, none⟩) (bs.length + 1) (bs.length + 1)) := by rw [← hW1]; exact c1
  have c12 : W1.cell? ⟨bb, 0, none⟩ = some v := by rw [← hW1]; exact c2
  have hlt : (hit : Int) < (bs.length : Int) + 1 := by omega
  have H1 := Lib.hid hW1
  clear hx hf c1 c2 hhit hv hp hW1
  go_enter Tryd.func50, Tryd.ntmps50
  go_upto_region 1 with (fail)
  refine wp_region_sched (by kernel_rfl) [5, 6, 7, 8, 9, 10, 11, 12] (by kernel_rfl) (N50 W1 g (bs.length + 1) v vp x hit) ?_ ?_ ?_
  · rw [H1.out]
    exact ⟨fun _ => rfl, (fun h => by cases h), (fun h => by cases h), (fun h => by cases h), (fun h => by cases h), (fun h => by cases h), (fun h => by cases h), (fun h => by cases h), (fun h => by cases h), (fun h => by cases h), (fun h => by cases h), (fun h => by cases h), (fun h => by cases h), (fun h => by cases h), (fun h => by cases h), (fun h => by cases h), (fun h => by cases h), (fun h => by cases h), (fun h => by cases h), (fun h => by cases h)⟩
  · intro i o ho d y wx hdi hdep hN
    match i, ho with
    | 0, ho =>
      obtain rfl := Option.some.inj ho
      have h8 : d 8 = false := Bool.eq_false_iff.2 fun h8 => by have := hN.all h8; simp [hdi] at this
      obtain rfl := hN.w h8
      refine rstep_value rfl (v := .slice (some ⟨g, 0, none⟩) (bs.length + 1) (bs.length + 1)) (w' := wx) ?_ ?_
      · simp only [hole, List.foldl_cons, List.foldl_nil, List.setIfInBounds_toArray, List.set_cons_zero, List.set_cons_succ]
        go_simp
      · exact ⟨hN.w, hN.w8, (fun _ => rfl), hN.h6, hN.h7, hN.h8, hN.c3_1, hN.c3_2, hN.h9, (fun _ => rfl), hN.c4_3, hN.h10, hN.c5_4, hN.h11, hN.c6_5, hN.h12, (fun _ => rfl), hN.c7_3, hN.c8_6, hN.c8_7⟩
    | 1, ho =>
      obtain rfl := Option.some.inj ho
      have h8 : d 8 = false := Bool.eq_false_iff.2 fun h8 => by have := hN.all h8; simp [hdi] at this
      obtain rfl := hN.w h8
      refine rstep_value rfl (v := v) (w' := wx) ?_ ?_
      · simp only [hole, List.foldl_cons, List.foldl_nil, List.setIfInBounds_toArray, List.set_cons_zero, List.set_cons_succ]
        go_simp
      · exact ⟨hN.w, hN.w8, hN.h5, (fun _ => rfl), hN.h7, hN.h8, (fun _ => rfl), hN.c3_2, hN.h9, hN.c4_0, hN.c4_3, hN.h10, hN.c5_4, hN.h11, hN.c6_5, hN.h12, hN.c7_0, hN.c7_3, hN.c8_6, hN.c8_7⟩
    | 2, ho =>
      obtain rfl := Option.some.inj ho
      have h8 : d 8 = false := Bool.eq_false_iff.2 fun h8 => by have := hN.all h8; simp [hdi] at this
      obtain rfl := hN.w h8
      refine rstep_value rfl (v := vp) (w' := wx) ?_ ?_
      · simp only [hole, List.foldl_cons, List.foldl_nil, List.setIfInBounds_toArray, List.set_cons_zero, List.set_cons_succ]
        go_simp
      · exact ⟨hN.w, hN.w8, hN.h5, hN.h6, (fun _ => rfl), hN.h8, hN.c3_1, (fun _ => rfl), hN.h9, hN.c4_0, hN.c4_3, hN.h10, hN.c5_4, hN.h11, hN.c6_5, hN.h12, hN.c7_0, hN.c7_3, hN.c8_6, hN.c8_7⟩
    | 3, ho =>
      obtain rfl := Option.some.inj ho
      have e6 := hN.h6 (hdep ⟨1, .data⟩ (by simp) rfl)
      have e7 := hN.h7 (hdep ⟨2, .data⟩ (by simp) rfl)
      have h8 : d 8 = false := Bool.eq_false_iff.2 fun h8 => by have := hN.all h8; simp [hdi] at this
      obtain rfl := hN.w h8
      refine rstep_call rfl (f := 51) (args := #[v, vp]) (w' := wx) ?_ C.out ?_
      · simp only [hole, List.foldl_cons, List.foldl_nil, List.setIfInBounds_toArray, List.set_cons_zero, List.set_cons_succ]
        go_simp
      · rintro e w'' ⟨rfl, rfl⟩
        exact ⟨_, rfl, hN.w, hN.w8, hN.h5, hN.h6, hN.h7, (fun _ => rfl), (fun _ => hdep ⟨1, .data⟩ (by simp) rfl), (fun _ => hdep ⟨2, .data⟩ (by simp) rfl), hN.h9, hN.c4_0, (fun _ => rfl), hN.h10, hN.c5_4, hN.h11, hN.c6_5, hN.h12, hN.c7_0, (fun _ => rfl), hN.c8_6, hN.c8_7⟩
    | 4, ho =>
      obtain rfl := Option.some.inj ho
      have e5 := hN.h5 (hdep ⟨0, .data⟩ (by simp) rfl)
      have e8 := hN.h8 (hdep ⟨3, .data⟩ (by simp) rfl)
      refine rstep_value rfl (v := .pointer (some ⟨g, hit, none⟩)) (w' := wx) ?_ ?_
      · simp only [hole, List.foldl_cons, List.foldl_nil, List.setIfInBounds_toArray, List.set_cons_zero, List.set_cons_succ]
        go_simp
      · exact ⟨hN.w, hN.w8, hN.h5, hN.h6, hN.h7, hN.h8, hN.c3_1, hN.c3_2, (fun _ => rfl), (fun _ => hdep ⟨0, .data⟩ (by simp) rfl), (fun _ => hdep ⟨3, .data⟩ (by simp) rfl), hN.h10, (fun _ => rfl), hN.h11, hN.c6_5, hN.h12, hN.c7_0, hN.c7_3, hN.c8_6, hN.c8_7⟩
    | 5, ho =>
      obtain rfl := Option.some.inj ho
      have e9 := hN.h9 (hdep ⟨4, .data⟩ (by simp) rfl)
      have h8 : d 8 = false := Bool.eq_false_iff.2 fun h8 => by have := hN.all h8; simp [hdi] at this
      obtain rfl := hN.w h8
      refine rstep_value rfl (v := .int .i64 x) (w' := wx) ?_ ?_
      · simp only [hole, List.foldl_cons, List.foldl_nil, List.setIfInBounds_toArray, List.set_cons_zero, List.set_cons_succ]
        go_simp
      · exact ⟨hN.w, hN.w8, hN.h5, hN.h6, hN.h7, hN.h8, hN.c3_1, hN.c3_2, hN.h9, hN.c4_0, hN.c4_3, (fun _ => rfl), (fun _ => hdep ⟨4, .data⟩ (by simp) rfl), hN.h11, (fun _ => rfl), hN.h12, hN.c7_0, hN.c7_3, hN.c8_6, hN.c8_7⟩
    | 6, ho =>
      obtain rfl := Option.some.inj ho
      have e10 := hN.h10 (hdep ⟨5, .data⟩ (by simp) rfl)
      refine rstep_value rfl (v := .int .i64 (IntKind.i64.wrap (x + 1))) (w' := wx) ?_ ?_
      · simp only [hole, List.foldl_cons, List.foldl_nil, List.setIfInBounds_toArray, List.set_cons_zero, List.set_cons_succ]
        go_simp
      · exact ⟨hN.w, hN.w8, hN.h5, hN.h6, hN.h7, hN.h8, hN.c3_1, hN.c3_2, hN.h9, hN.c4_0, hN.c4_3, hN.h10, hN.c5_4, (fun _ => rfl), (fun _ => hdep ⟨5, .data⟩ (by simp) rfl), hN.h12, hN.c7_0, hN.c7_3, (fun _ => rfl), hN.c8_7⟩
    | 7, ho =>
      obtain rfl := Option.some.inj ho
      have e5 := hN.h5 (hdep ⟨0, .data⟩ (by simp) rfl)
      have e8 := hN.h8 (hdep ⟨3, .data⟩ (by simp) rfl)
      refine rstep_value rfl (v := .pointer (some ⟨g, hit, none⟩)) (w' := wx) ?_ ?_
      · simp only [hole, List.foldl_cons, List.foldl_nil, List.setIfInBounds_toArray, List.set_cons_zero, List.set_cons_succ]
        go_simp
      · exact ⟨hN.w, hN.w8, hN.h5, hN.h6, hN.h7, hN.h8, hN.c3_1, hN.c3_2, hN.h9, hN.c4_0, hN.c4_3, hN.h10, hN.c5_4, hN.h11, hN.c6_5, (fun _ => rfl), (fun _ => hdep ⟨0, .data⟩ (by simp) rfl), (fun _ => hdep ⟨3, .data⟩ (by simp) rfl), hN.c8_6, (fun _ => rfl)⟩
    | 8, ho =>
      obtain rfl := Option.some.inj ho
      have e11 := hN.h11 (hdep ⟨6, .data⟩ (by simp) rfl)
      have e12 := hN.h12 (hdep ⟨7, .data⟩ (by simp) rfl)
      have h8 := hdi
      obtain rfl := hN.w h8
      refine rstep_skip rfl (w' := wx.setCell ⟨g, hit, none⟩ (.int .i64 (IntKind.i64.wrap (x + 1)))) ?_ ?_
      · simp only [hole, List.foldl_cons, List.foldl_nil, List.setIfInBounds_toArray, List.set_cons_zero, List.set_cons_succ]
        go_simp
      · exact ⟨(fun h => by simp at h), (fun _ => rfl), hN.h5, hN.h6, hN.h7, hN.h8, hN.c3_1, hN.c3_2, hN.h9, hN.c4_0, hN.c4_3, hN.h10, hN.c5_4, hN.h11, hN.c6_5, hN.h12, hN.c7_0, hN.c7_3, (fun _ => hdep ⟨6, .data⟩ (by simp) rfl), (fun _ => hdep ⟨7, .data⟩ (by simp) rfl)⟩
  · intro d y wx hd hN
    have e5 := hN.h5 (hd 0 (by simp))
    have e6 := hN.h6 (hd 1 (by simp))
    have e7 := hN.h7 (hd 2 (by simp))
    have e8 := hN.h8 (hd 3 (by simp))
    have e9 := hN.h9 (hd 4 (by simp))
    have e10 := hN.h10 (hd 5 (by simp))
    have e11 := hN.h11 (hd 6 (by simp))
    have e12 := hN.h12 (hd 7 (by simp))
    obtain rfl := hN.w8 (hd 8 (by simp))
    clear hN
    simp only [hole, List.foldl_cons, List.foldl_nil, List.setIfInBounds_toArray, List.set_cons_zero, List.set_cons_succ, e5, e6, e7, e8, e9, e10, e11, e12]
    clear e5 e6 e7 e8 e9 e10 e11 e12 y
    go_wp2
    go_ret
    rw [H1.out]
    exact ⟨rfl, rfl⟩
end Go.Proofs.YtlpnicfbgdfbnaaDoor
