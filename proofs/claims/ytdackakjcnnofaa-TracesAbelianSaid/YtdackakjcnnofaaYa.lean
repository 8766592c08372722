/- TracesAbelian: the walk. -/
import Derived.Test.YtdackakjcnnofaaYf
import Derived.Test.YtdackakjcnnofaaYt
import Derived.Test.YtdackakjcnnofaaCa
import Derived.Test.YtdackakjcnnofaaFx
import Derived.Test.YtdackakjcnnofaaB1
import Derived.Test.YtdackakjcnnofaaKm
import Derived.Deep.CutRange
namespace Go.Proofs.Ytdackakjcnnofaa
open Go.RowKit
attribute [local go_sem] Oper.semAt_some

set_option maxRecDepth 100000 in
set_option maxHeartbeats 4000000 in
theorem abel_err (v : Value) (L : List (List Int)) (w : World) (h : Args w v L) (k : Int) (hk : k = 2 ∨ k = 6)
    (hT : ∀ u w', Args w' u (tabA L) → Calls Try.prog 6 #[u] w' fun e w2 => ∃ a n cp, e = .returned (.tuple #[.slice a n cp, .int .i64 k]) ∧ Below w'.heap.size w' w2)
    (hE : ∀ u w', Args w' u (tabA L) → Calls Try.prog 8 #[u] w' fun e w2 => ∃ a n cp, e = .returned (.tuple #[.slice a n cp, .int .i64 k]) ∧ Below w'.heap.size w' w2)
    (hC : ∀ u w', Args w' u (tabA L) → Calls Try.prog 9 #[u] w' fun e w2 => ∃ a n cp, e = .returned (.tuple #[.slice a n cp, .int .i64 k]) ∧ Below w'.heap.size w' w2) :
    Calls Try.prog 3 #[v] w fun e w' => e = .returned (.bool true) ∧ Below w.heap.size w w' := by
  have TA := Lib.hid (fun w' (hb : Below w.heap.size w w') => table_any v L w' (h.below hb))
  have PT := Lib.hid hT
  have PE := Lib.hid hE
  have PC := Lib.hid hC
  have AW := Lib.hid awake_any
  have HB := Lib.hid (Below.refl w.heap.size w)
  have HTL := Lib.hid (show (tabA L).length ≤ 1000000 by have := tabA_len L; omega)
  clear h hT hE hC
  rcases hk with rfl | rfl
  all_goals go_enter Try.func3, Try.ntmps3
  all_goals go_wp2_with (first
    | (go_at_call 7; refine (TA.out _ HB.out).mono ?_; rintro e wt ⟨u, S, rfl, hg, hb⟩; have HT := Lib.hid (hg.1.args HTL.out); have HB := Lib.hid (HB.out.trans (hb.mono HB.out.size)); clear hg hb)
    | (go_at_call 6; refine (PT.out _ _ HT.out).mono ?_; rintro e we ⟨ax, nx, cx, rfl, hb⟩; have HB := Lib.hid (HB.out.trans (hb.mono HB.out.size)); clear hb)
    | (go_at_call 8; refine (PE.out _ _ HT.out).mono ?_; rintro e we ⟨ax, nx, cx, rfl, hb⟩; have HB := Lib.hid (HB.out.trans (hb.mono HB.out.size)); clear hb)
    | (go_at_call 9; refine (PC.out _ _ HT.out).mono ?_; rintro e we ⟨ax, nx, cx, rfl, hb⟩; have HB := Lib.hid (HB.out.trans (hb.mono HB.out.size)); clear hb)
    | (go_at_call 10; refine (AW.out _).mono ?_; rintro e wa ⟨rfl, hb⟩; have HB := Lib.hid (HB.out.trans (hb.mono HB.out.size)); clear hb))
  all_goals go_ret
  all_goals exact ⟨rfl, HB.out⟩
def oneTo (T : List (List Int)) (k : Nat) : Bool := (T.take k).all fun r => r.headD 0 == 1
theorem oneTo_succ {T : List (List Int)} {k : Nat} (hk : k < T.length) : oneTo T (k + 1) = (oneTo T k && T[k].headD 0 == 1) := by
  unfold oneTo
  rw [List.take_succ_eq_append_getElem hk, List.all_append]; simp
def sglTo (C : List (List Nat)) (k : Nat) : Bool := (C.take k).all fun c => c.length == 1
theorem sglTo_succ {C : List (List Nat)} {k : Nat} (hk : k < C.length) : sglTo C (k + 1) = (sglTo C k && C[k].length == 1) := by
  unfold sglTo
  rw [List.take_succ_eq_append_getElem hk, List.all_append]; simp
def cntC (C : List (List Nat)) (k : Nat) : Nat := ((C.take k).map List.length).sum
theorem cntC_succ {C : List (List Nat)} {k : Nat} (hk : k < C.length) : cntC C (k + 1) = cntC C k + C[k].length := by
  unfold cntC
  rw [List.take_succ_eq_append_getElem hk, List.map_append, List.sum_append]; simp
theorem cntC_le {C : List (List Nat)} {k : Nat} (h1 : C.length ≤ 24) (h2 : ∀ c ∈ C, c.length ≤ 24) : cntC C k ≤ 576 := by
  have key : ∀ D : List (List Nat), (∀ c ∈ D, c.length ≤ 24) → (D.map List.length).sum ≤ D.length * 24 := fun D => by
    induction D with
    | nil => intro _; simp
    | cons c D ih =>
      intro h
      have := ih fun x hx => h x (List.mem_cons_of_mem _ hx)
      have := h c List.mem_cons_self
      simp only [List.map_cons, List.sum_cons, List.length_cons]
      omega
  have h3 := key (C.take k) fun c hc => h2 c (List.mem_of_mem_take hc)
  have h4 : (C.take k).length ≤ 24 := by rw [List.length_take]; omega
  unfold cntC
  omega
def comR (E : List (List Nat)) (a : List Nat) (j : Nat) : Bool := (E.take j).all fun b => mulP a b == mulP b a
theorem comR_succ {E : List (List Nat)} {a : List Nat} {j : Nat} (hj : j < E.length) : comR E a (j + 1) = (comR E a j && mulP a E[j] == mulP E[j] a) := by
  unfold comR
  rw [List.take_succ_eq_append_getElem hj, List.all_append]; simp
def comTo (E : List (List Nat)) (i : Nat) : Bool := (E.take i).all fun a => comR E a E.length
theorem comTo_succ {E : List (List Nat)} {i : Nat} (hi : i < E.length) : comTo E (i + 1) = (comTo E i && comR E E[i] E.length) := by
  unfold comTo
  rw [List.take_succ_eq_append_getElem hi, List.all_append]; simp
theorem mul_take {a b : List Nat} {k : Nat} (hk : k < b.length) (h2 : b[k] < a.length) : toI ((mulP a b).take (k + 1)) = toI ((mulP a b).take k) ++ [((a[b[k]] : Nat) : Int)] := by
  have hl : k < (mulP a b).length := by rw [mulP_len]; exact hk
  rw [List.take_succ_eq_append_getElem hl, toI_append]
  congr 1
  unfold mulP toI
  simp [List.getD_eq_getElem?_getD, List.getElem?_eq_getElem h2]
/-- Two slices that grow, the first one in a cell. -/
structure AbI (p : Nat) (w : World) (vx vy : Value) (xs ys : List Int) : Prop where
  box : Held w p 28 [vx]
  ox : OwnI 3 (p + 1) w vx xs
  oy : OwnI 3 (p + 1) w vy ys
  ne : ∀ k, vx.ownBlock = some k → vy.ownBlock ≠ some k
/-- What the region needs of a world: cells, the box, two slices under way. -/
structure A37 (p bx by' o1 o2 o3 o4 xk yk xy yx : Nat) (v0 vx vy : Value) (xs ys : List Int) (w : World) : Prop where
  c1 : w.cell? ⟨bx, o1, none⟩ = some (.int .i64 (xk : Nat))
  c2 : w.cell? ⟨by', o2, none⟩ = some (.int .i64 (yk : Nat))
  c3 : w.cell? ⟨bx, o3, none⟩ = some (.int .i64 (xy : Nat))
  c4 : w.cell? ⟨by', o4, none⟩ = some (.int .i64 (yx : Nat))
  box : Held w p 28 [v0]
  bl : bx < p
  bl' : by' < p
  ox : OwnI 3 (p + 1) w vx xs
  oy : OwnI 3 (p + 1) w vy ys
  ne : ∀ k, vx.ownBlock = some k → vy.ownBlock ≠ some k
section
variable {p bx by' o1 o2 o3 o4 xk yk xy yx : Nat} {v0 vx vy : Value} {xs ys : List Int} {w w' : World}
theorem A37.szz (h : A37 p bx by' o1 o2 o3 o4 xk yk xy yx v0 vx vy xs ys w) : p + 1 ≤ w.heap.size := h.box.lt
theorem A37.alloc (h : A37 p bx by' o1 o2 o3 o4 xk yk xy yx v0 vx vy xs ys w) (o : Obj) : A37 p bx by' o1 o2 o3 o4 xk yk xy yx v0 vx vy xs ys (w.alloc o) := by
  have hb : Below w.heap.size w (w.alloc o) := (Below.refl _ _).alloc (Nat.le_refl _) o
  have hp := h.box.lt
  have h1 := h.bl
  have h2 := h.bl'
  exact ⟨(hb.cell (p := ⟨bx, o1, none⟩) (by show bx < _; omega)).trans h.c1, (hb.cell (p := ⟨by', o2, none⟩) (by show by' < _; omega)).trans h.c2, (hb.cell (p := ⟨bx, o3, none⟩) (by show bx < _; omega)).trans h.c3, (hb.cell (p := ⟨by', o4, none⟩) (by show by' < _; omega)).trans h.c4, h.box.alloc o, h1, h2, World.ownsRow.alloc h.ox o, World.ownsRow.alloc h.oy o, h.ne⟩
theorem A37.drew (h : A37 p bx by' o1 o2 o3 o4 xk yk xy yx v0 vx vy xs ys w) : A37 p bx by' o1 o2 o3 o4 xk yk xy yx v0 vx vy xs ys w.drew := ⟨h.c1, h.c2, h.c3, h.c4, h.box, h.bl, h.bl', h.ox, h.oy, h.ne⟩
theorem A37.appX {v' : Value} {zs : List Int} (h : A37 p bx by' o1 o2 o3 o4 xk yk xy yx v0 vx vy xs ys w) (ho : OwnI 3 (p + 1) w' v' zs) (hg : w.grownBy w' vx.ownBlock) (hl : v'.ownBlock = vx.ownBlock ∨ v'.ownBlock = some w.heap.size) : A37 p bx by' o1 o2 o3 o4 xk yk xy yx v0 v' vy zs ys w' := by
  have hn : ∀ b, b < p + 1 → some b ≠ vx.ownBlock := fun b hb e => by have := (World.ownsRow.lt h.ox b e.symm).1; omega
  have h1 := h.bl
  have h2 := h.bl'
  refine ⟨hg.cell h.c1 (hn bx (by omega)), hg.cell h.c2 (hn by' (by omega)), hg.cell h.c3 (hn bx (by omega)), hg.cell h.c4 (hn by' (by omega)), h.box.grown hg (hn p (by omega)), h1, h2, ho, World.ownsRow.kept h.oy hg ?_, ?_⟩
  · cases hv : vx.ownBlock with
    | none =>
      cases hw : vy.ownBlock with
      | none => exact .inl rfl
      | some j => exact .inr (by simp)
    | some k => exact .inr (h.ne k hv)
  · intro k hk e
    rcases hl with hl | hl
    · exact h.ne k (by rw [← hl]; exact hk) e
    · rw [hl] at hk
      have := (World.ownsRow.lt h.oy k e).2
      have := Option.some.inj hk
      omega
theorem A37.appY {v' : Value} {zs : List Int} (h : A37 p bx by' o1 o2 o3 o4 xk yk xy yx v0 vx vy xs ys w) (ho : OwnI 3 (p + 1) w' v' zs) (hg : w.grownBy w' vy.ownBlock) (hl : v'.ownBlock = vy.ownBlock ∨ v'.ownBlock = some w.heap.size) : A37 p bx by' o1 o2 o3 o4 xk yk xy yx v0 vx v' xs zs w' := by
  have hn : ∀ b, b < p + 1 → some b ≠ vy.ownBlock := fun b hb e => by have := (World.ownsRow.lt h.oy b e.symm).1; omega
  have h1 := h.bl
  have h2 := h.bl'
  refine ⟨hg.cell h.c1 (hn bx (by omega)), hg.cell h.c2 (hn by' (by omega)), hg.cell h.c3 (hn bx (by omega)), hg.cell h.c4 (hn by' (by omega)), h.box.grown hg (hn p (by omega)), h1, h2, World.ownsRow.kept h.ox hg ?_, ho, ?_⟩
  · cases hv : vy.ownBlock with
    | none =>
      cases hw : vx.ownBlock with
      | none => exact .inl rfl
      | some j => exact .inr (by simp)
    | some k => exact .inr fun e => h.ne k e hv
  · intro k hk e
    rcases hl with hl | hl
    · exact h.ne k hk (by rw [← hl]; exact e)
    · rw [hl] at e
      have := (World.ownsRow.lt h.ox k hk).2
      have := Option.some.inj e
      omega
end
theorem AbI.start (w : World) : AbI w.heap.size (w.alloc (.cells #[.slice none 0 0] 28)) (.slice none 0 0) (.slice none 0 0) [] [] :=
  ⟨Held.new _ _ [_], OwnI.nil _ _ _, OwnI.nil _ _ _, fun k hk => by simp [Value.ownBlock] at hk⟩
theorem EqualN_any (v1 v2 : Value) (a b : List Nat) (w : World) (h1 : Ints w v1 (toI a)) (h2 : Ints w v2 (toI b)) : Calls Try.prog 12 #[v1, v2] w fun e w' => e = .returned (.bool (decide (a = b))) ∧ Below w.heap.size w w' := by
  have := Equal_any _ _ _ _ w h1 h2
  rw [dec_toI] at this
  exact this
theorem comR_dec {E : List (List Nat)} {a : List Nat} {j : Nat} (hj : j < E.length) : comR E a (j + 1) = (comR E a j && decide (mulP a E[j] = mulP E[j] a)) := by
  rw [comR_succ hj]
  congr 1
  exact Bool.beq_eq_decide_eq _ _
theorem and_dec {cm cr dc c2 : Bool} (h : c2 = (cr && dc)) (hb : (cm && cr) = true) : (cm && c2) = dc := by
  rw [h, ← Bool.and_assoc, hb, Bool.true_and]
theorem and_dec0 {cm cr dc c2 : Bool} (h : c2 = (cr && dc)) (hb : (cm && cr) = false) : (cm && c2) = false := by
  rw [h, ← Bool.and_assoc, hb, Bool.false_and]
/-- What the region of the two appends has made, whatever order is drawn. -/
structure AbM (p bx by' o1 o2 o3 o4 xk yk xy yx : Nat) (vx vy : Value) (xs ys : List Int) (w0 : World) (e8 e9 e18 e19 : Bool) (y3 y4 y13 y14 : Value) (w : World) : Prop where
  a : A37 p bx by' o1 o2 o3 o4 xk yk xy yx vx (bif e9 then y4 else vx) (bif e19 then y14 else vy) (bif e9 then xs ++ [(xy : Int)] else xs) (bif e19 then ys ++ [(yx : Int)] else ys) w
  x : e8 = true → e9 = false → ∃ t, y3 = .slice (some ⟨t, 0, none⟩) 1 1 ∧ w.cell? ⟨t, 0, none⟩ = some (.int .i64 (xy : Nat)) ∧ w0.heap.size ≤ t ∧ t < w.heap.size
  y : e18 = true → e19 = false → ∃ t, y13 = .slice (some ⟨t, 0, none⟩) 1 1 ∧ w.cell? ⟨t, 0, none⟩ = some (.int .i64 (yx : Nat)) ∧ w0.heap.size ≤ t ∧ t < w.heap.size
  bx0 : ∀ k, vx.ownBlock = some k → k < w0.heap.size
  by0 : ∀ k, vy.ownBlock = some k → k < w0.heap.size
  low : Below (p + 1) w0 w
  szw : w0.heap.size ≤ w.heap.size
section
variable {p bx by' o1 o2 o3 o4 xk yk xy yx : Nat} {vx vy : Value} {xs ys : List Int} {w0 w w' : World} {e8 e9 e18 e19 : Bool} {y3 y4 y13 y14 : Value}
theorem AbM.start (h : A37 p bx by' o1 o2 o3 o4 xk yk xy yx vx vx vy xs ys w0) : AbM p bx by' o1 o2 o3 o4 xk yk xy yx vx vy xs ys w0 false false false false y3 y4 y13 y14 w0.drew :=
  ⟨h.drew, fun h => (by cases h), fun h => (by cases h), fun k hk => (World.ownsRow.lt h.ox k hk).2, fun k hk => (World.ownsRow.lt h.oy k hk).2, (Below.refl _ _).drew, Nat.le_refl _⟩
theorem AbM.ox (h : AbM p bx by' o1 o2 o3 o4 xk yk xy yx vx vy xs ys w0 e8 e9 e18 e19 y3 y4 y13 y14 w) (h9 : e9 = false) : OwnI 3 (p + 1) w vx xs := by subst h9; exact h.a.ox
theorem AbM.oy (h : AbM p bx by' o1 o2 o3 o4 xk yk xy yx vx vy xs ys w0 e8 e9 e18 e19 y3 y4 y13 y14 w) (h9 : e19 = false) : OwnI 3 (p + 1) w vy ys := by subst h9; exact h.a.oy
theorem AbM.tx (h : AbM p bx by' o1 o2 o3 o4 xk yk xy yx vx vy xs ys w0 e8 e9 e18 e19 y3 y4 y13 y14 w) (h9 : e9 = false) : AbM p bx by' o1 o2 o3 o4 xk yk xy yx vx vy xs ys w0 true e9 e18 e19 (.slice (some ⟨w.heap.size, 0, none⟩) 1 1) y4 y13 y14 (w.alloc (.cells #[.int .i64 (xy : Nat)] 3)) := by
  subst h9
  have hs : w.heap.size ≤ (w.alloc (.cells #[.int .i64 (xy : Nat)] 3)).heap.size := by simp
  refine ⟨h.a.alloc _, fun _ _ => ⟨_, rfl, cell_new1 _ _ _, h.szw, by simp⟩, fun h1 h2 => ?_, h.bx0, h.by0, h.low.alloc h.a.szz _, Nat.le_trans h.szw hs⟩
  obtain ⟨t, e, hc, h3, h4⟩ := h.y h1 h2
  exact ⟨t, e, (((Below.refl _ _).alloc (Nat.le_refl _) _).cell (p := ⟨t, 0, none⟩) h4).trans hc, h3, Nat.lt_of_lt_of_le h4 hs⟩
theorem AbM.ty (h : AbM p bx by' o1 o2 o3 o4 xk yk xy yx vx vy xs ys w0 e8 e9 e18 e19 y3 y4 y13 y14 w) (h9 : e19 = false) : AbM p bx by' o1 o2 o3 o4 xk yk xy yx vx vy xs ys w0 e8 e9 true e19 y3 y4 (.slice (some ⟨w.heap.size, 0, none⟩) 1 1) y14 (w.alloc (.cells #[.int .i64 (yx : Nat)] 3)) := by
  subst h9
  have hs : w.heap.size ≤ (w.alloc (.cells #[.int .i64 (yx : Nat)] 3)).heap.size := by simp
  refine ⟨h.a.alloc _, fun h1 h2 => ?_, fun _ _ => ⟨_, rfl, cell_new1 _ _ _, h.szw, by simp⟩, h.bx0, h.by0, h.low.alloc h.a.szz _, Nat.le_trans h.szw hs⟩
  obtain ⟨t, e, hc, h3, h4⟩ := h.x h1 h2
  exact ⟨t, e, (((Below.refl _ _).alloc (Nat.le_refl _) _).cell (p := ⟨t, 0, none⟩) h4).trans hc, h3, Nat.lt_of_lt_of_le h4 hs⟩
theorem AbM.px {v' : Value} (h : AbM p bx by' o1 o2 o3 o4 xk yk xy yx vx vy xs ys w0 e8 e9 e18 e19 y3 y4 y13 y14 w) (h9 : e9 = false) (ho : OwnI 3 (p + 1) w' v' (xs ++ [(xy : Int)])) (hg : w.grownBy w' vx.ownBlock) (hl : v'.ownBlock = vx.ownBlock ∨ v'.ownBlock = some w.heap.size) :
    AbM p bx by' o1 o2 o3 o4 xk yk xy yx vx vy xs ys w0 e8 true e18 e19 y3 v' y13 y14 w' := by
  subst h9
  refine ⟨h.a.appX ho hg hl, fun _ hh => (by cases hh), fun h1 h2 => ?_, h.bx0, h.by0, h.low.grown hg h.a.szz (fun k hk => (World.ownsRow.lt h.a.ox k hk).1), Nat.le_trans h.szw hg.size⟩
  obtain ⟨t, e, hc, h3, h4⟩ := h.y h1 h2
  exact ⟨t, e, hg.cell hc (fun e2 => by have := h.bx0 t e2.symm; omega), h3, Nat.lt_of_lt_of_le h4 hg.size⟩
theorem AbM.py {v' : Value} (h : AbM p bx by' o1 o2 o3 o4 xk yk xy yx vx vy xs ys w0 e8 e9 e18 e19 y3 y4 y13 y14 w) (h9 : e19 = false) (ho : OwnI 3 (p + 1) w' v' (ys ++ [(yx : Int)])) (hg : w.grownBy w' vy.ownBlock) (hl : v'.ownBlock = vy.ownBlock ∨ v'.ownBlock = some w.heap.size) :
    AbM p bx by' o1 o2 o3 o4 xk yk xy yx vx vy xs ys w0 e8 e9 e18 true y3 y4 y13 v' w' := by
  subst h9
  refine ⟨h.a.appY ho hg hl, fun h1 h2 => ?_, fun _ hh => (by cases hh), h.bx0, h.by0, h.low.grown hg h.a.szz (fun k hk => (World.ownsRow.lt h.a.oy k hk).1), Nat.le_trans h.szw hg.size⟩
  obtain ⟨t, e, hc, h3, h4⟩ := h.x h1 h2
  exact ⟨t, e, hg.cell hc (fun e2 => by have := h.by0 t e2.symm; omega), h3, Nat.lt_of_lt_of_le h4 hg.size⟩
theorem AbM.done (h : AbM p bx by' o1 o2 o3 o4 xk yk xy yx vx vy xs ys w0 true true true true y3 y4 y13 y14 w) : AbI p (w.setCell ⟨p, 0, none⟩ y4) y4 y14 (xs ++ [(xy : Int)]) (ys ++ [(yx : Int)]) := by
  have hS := Sm.put (w := w) p 0 y4
  have hx : OwnI 3 (p + 1) w y4 (xs ++ [(xy : Int)]) := h.a.ox
  have hy : OwnI 3 (p + 1) w y14 (ys ++ [(yx : Int)]) := h.a.oy
  exact ⟨h.a.box.put 0 y4, own_sm' hx hS (fun k hk e => by have := (World.ownsRow.lt hx k hk).1; omega), own_sm' hy hS (fun k hk e => by have := (World.ownsRow.lt hy k hk).1; omega), h.a.ne⟩
end
set_option maxRecDepth 100000 in
set_option maxHeartbeats 4000000 in
theorem abel_ok {E C : List (List Nat)} {T : List (List Int)} {d : Nat} {b : Bool} (v : Value) (L : List (List Int)) (w : World) (h : Args w v L) (hG : Grp d E) (hd : d ≤ 5) (h24 : E.length ≤ 24)
    (hTl : T.length ≤ 24) (hTp : ∀ r ∈ T, 0 < r.length) (hCl : C.length ≤ 24) (hCn : ∀ c ∈ C, c.length ≤ 24) (hb1 : oneTo T T.length = b) (hb2 : sglTo C C.length = b) (hb3 : comTo E E.length = b) (hcn : cntC C C.length = E.length)
    (hT : ∀ u w', Args w' u (tabA L) → Calls Try.prog 6 #[u] w' fun e w2 => ∃ x, e = .returned (.tuple #[x, .int .i64 0]) ∧ Args w2 x T ∧ Below w'.heap.size w' w2)
    (hE : ∀ u w', Args w' u (tabA L) → Calls Try.prog 8 #[u] w' fun e w2 => ∃ x S H, e = .returned (.tuple #[x, .int .i64 0]) ∧ RowsF S H w2 x E ∧ Below w'.heap.size w' w2)
    (hC : ∀ u w', Args w' u (tabA L) → Calls Try.prog 9 #[u] w' fun e w2 => ∃ x S H, e = .returned (.tuple #[x, .int .i64 0]) ∧ RowsF S H w2 x C ∧ Below w'.heap.size w' w2) :
    Calls Try.prog 3 #[v] w fun e w' => e = .returned (.bool true) ∧ Below w.heap.size w w' := by
  have TA := Lib.hid (fun w' (hb : Below w.heap.size w w') => table_any v L w' (h.below hb))
  have PT := Lib.hid hT
  have PE := Lib.hid hE
  have PC := Lib.hid hC
  have AW := Lib.hid awake_any
  have HB := Lib.hid (Below.refl w.heap.size w)
  have HTL := Lib.hid (show (tabA L).length ≤ 1000000 by have := tabA_len L; omega)
  have HTP := Lib.hid hTp
  have HCN := Lib.hid hCn
  have HGR := Lib.hid hG
  have H1 := Lib.hid hb1
  have H2 := Lib.hid hb2
  have H3 := Lib.hid hb3
  have HCC := Lib.hid hcn
  have hpos := hG.pos
  have HPE := Lib.hid hpos
  have HPC := Lib.hid (show 0 < C.length from Nat.pos_of_ne_zero fun h0 => by rw [h0] at hcn; have : cntC C 0 = 0 := rfl; omega)
  have HCB := Lib.hid (fun k => cntC_le (k := k) hCl hCn)
  obtain ⟨n, hn⟩ : ∃ n, E.length = n := ⟨_, rfl⟩
  obtain ⟨m, hm⟩ : ∃ m, C.length = m := ⟨_, rfl⟩
  obtain ⟨r, hr⟩ : ∃ r, T.length = r := ⟨_, rfl⟩
  have HN := Lib.hid hn
  have HM := Lib.hid hm
  have HR := Lib.hid hr
  rw [hn] at h24 hpos
  rw [hm] at hCl
  rw [hr] at hTl
  have hnz : ¬ (n : Int) = 0 := by omega
  have hnz' : ((n : Int) == 0) = false := by simp; omega
  have hn24 : ¬ (24 : Int) < (n : Int) := by omega
  have hn24' : decide ((24 : Int) < (n : Int)) = false := by simp; omega
  clear h hT hE hC hTp hCn hG hb1 hb2 hb3 hcn hn hm hr
  go_enter Try.func3, Try.ntmps3
  go_wp2_with (first
    | (go_at_call 7; refine (TA.out _ HB.out).mono ?_; rintro e wt ⟨u, S, rfl, hg, hb⟩; have HT := Lib.hid (hg.1.args HTL.out); have HB := Lib.hid (HB.out.trans (hb.mono HB.out.size)); try (have HXT := Lib.hid (HXT.out.below hb)); try (have HXE := Lib.hid (HXE.out.below hb)); clear hg hb)
    | (go_at_call 6; refine (PT.out _ _ HT.out).mono ?_; rintro e we ⟨x1, rfl, hx, hb⟩; obtain ⟨aT, cT, rfl⟩ := hx.form; have HXT := Lib.hid hx; rw [HR.out] at HXT ⊢; have HB := Lib.hid (HB.out.trans (hb.mono HB.out.size)); clear hb hx)
    | (go_at_call 8; refine (PE.out _ _ HT.out).mono ?_; rintro e we ⟨x2, S2, B2, rfl, hx, hb⟩; obtain ⟨aE, cE, rfl⟩ := hx.form; have HXE := Lib.hid hx; rw [HN.out] at HXE ⊢; have HXT := Lib.hid (HXT.out.below hb); have HB := Lib.hid (HB.out.trans (hb.mono HB.out.size)); clear hb hx)
    | (go_at_call 9; refine (PC.out _ _ HT.out).mono ?_; rintro e we ⟨x3, S3, B3, rfl, hx, hb⟩; obtain ⟨aC, cC, rfl⟩ := hx.form; have HXC := Lib.hid hx; rw [HM.out] at HXC ⊢; have HXT0 := Lib.hid (Below.refl we.heap.size we); have HXT := Lib.hid (HXT.out.below hb); have HXE := Lib.hid (HXE.out.below hb); have HB := Lib.hid (HB.out.trans (hb.mono HB.out.size)); clear hb hx))
  have hx0 := HXC.out
  obtain ⟨-, gC, rfl, hgC⟩ := rows_fix hx0 HPC.out
  have HRC := Lib.hid hgC
  have hx1 := HXE.out
  obtain ⟨-, gE, rfl, hgE⟩ := rows_fix hx1 HPE.out
  have HRE := Lib.hid hgE
  clear hx0 hx1 hgC hgE
  go_loopw [9, 81] (fun pl ix wr => ∃ k : Nat, k ≤ r ∧ ix = .int .i64 k ∧ pl = .bool (oneTo T k) ∧ Below we.heap.size we wr) (fun _ ix _ => r - (intOf ix).toNat)
  case atStart => exact ⟨0, Nat.zero_le _, rfl, rfl, Below.refl _ _⟩
  case round =>
    obtain ⟨k, hk, rfl, rfl, hb⟩ := hrel
    have HB1 := Lib.hid hb
    by_cases hlt : k < r
    · have hki : (k : Int) < (r : Int) := by omega
      have hkT : k < T.length := by rw [HR.out]; exact hlt
      obtain ⟨b1, o1, c1, u, he, -, hcu, hu⟩ := (HXT.out.below (HXT0.out.trans (hb.mono HXT0.out.size))).at k hkT
      obtain ⟨rfl, -, -⟩ := Value.slice.inj he
      have hlp := HTP.out _ (List.getElem_mem hkT)
      have HS := Lib.hid (oneTo_succ hkT)
      obtain ⟨l, hl⟩ : ∃ l, T[k] = l := ⟨_, rfl⟩
      rw [hl] at hu hlp HS
      obtain ⟨aU, cU, rfl, -, -, hcell⟩ := hu
      obtain ⟨b2, o2, rfl, hb2, hce⟩ := hcell (List.ne_nil_of_length_pos hlp)
      have hc0 := hce 0 hlp
      have hhd : l.headD 0 = l[0] := by cases l with
        | nil => simp at hlp
        | cons a l => rfl
      rw [hhd] at HS
      rw [Nat.add_zero] at hc0
      have hlpi : (0 : Int) < (l.length : Int) := by omega
      obtain ⟨y, hy⟩ : ∃ y, l[0] = y := ⟨_, rfl⟩
      rw [hy] at HS hc0
      clear hcell hce he hl hhd hy hb
      cases hpl : oneTo T k with
      | false =>
        have HS2 := Lib.hid (show oneTo T (k + 1) = false by rw [HS.out, hpl]; rfl)
        clear hpl
        go_wp2
        go_roundw
        case rel => exact ⟨k + 1, hlt, by go_num, by rw [HS2.out], HB1.out⟩
        case measure => simp [intOf]; omega
      | true =>
        by_cases hy1 : y = 1
        · have HS2 := Lib.hid (show oneTo T (k + 1) = true by rw [HS.out, hpl, hy1]; rfl)
          subst hy1
          clear hpl
          go_wp2
          go_roundw
          case rel => exact ⟨k + 1, hlt, by go_num, by rw [HS2.out], HB1.out⟩
          case measure => simp [intOf]; omega
        · have HS2 := Lib.hid (show oneTo T (k + 1) = false by rw [HS.out, hpl]; simpa using hy1)
          have hyb : (y == 1) = false := by simpa using hy1
          clear hpl
          go_wp2
          go_roundw
          case rel => exact ⟨k + 1, hlt, by go_num, by rw [HS2.out], HB1.out⟩
          case measure => simp [intOf]; omega
    · obtain rfl : k = r := by omega
      have hki : ¬ (k : Int) < (k : Int) := by omega
      have HP := Lib.hid (show oneTo T k = b by rw [← HR.out]; exact H1.out)
      rw [HP.out]
      obtain ⟨w1, rfl⟩ : ∃ x, x = wr := ⟨_, rfl⟩
      have HB2 := Lib.hid hb
      clear hb
      go_wp2_with fail
      go_loopw [10, 14, 100] (fun sg ct ix wq => ∃ k : Nat, k ≤ m ∧ ix = .int .i64 k ∧ sg = .bool (sglTo C k) ∧ ct = .int .i64 (cntC C k : Nat) ∧ wq = w1) (fun _ _ ix _ => m - (intOf ix).toNat)
      case atStart => exact ⟨0, Nat.zero_le _, rfl, rfl, rfl, rfl⟩
      case round =>
        obtain ⟨k, hk, rfl, rfl, rfl, rfl⟩ := hrel
        by_cases hlt : k < m
        · have hki : (k : Int) < (m : Int) := by omega
          have hkC : k < C.length := by rw [HM.out]; exact hlt
          obtain ⟨aU, cU, hrow⟩ := HRC.out k hkC
          have hcr := (hrow wr HB2.out).1
          have hl24 := HCN.out _ (List.getElem_mem hkC)
          have HS := Lib.hid (sglTo_succ hkC)
          have HT2 := Lib.hid (cntC_succ hkC)
          have hcl := HCB.out k
          obtain ⟨z, hz⟩ : ∃ z, (C[k]).length = z := ⟨_, rfl⟩
          rw [hz] at hcr hl24 HS HT2
          obtain ⟨f, hf⟩ : ∃ f, cntC C k = f := ⟨_, rfl⟩
          rw [hf] at HT2 hcl ⊢
          clear hrow hz hf
          cases hsg : sglTo C k with
          | false =>
            have HS2 := Lib.hid (show sglTo C (k + 1) = false by rw [HS.out, hsg]; rfl)
            clear hsg
            go_wp2
            go_roundw
            case rel => exact ⟨k + 1, hlt, by go_num, by rw [HS2.out], by rw [HT2.out]; go_num, trivial⟩
            case measure => simp [intOf]; omega
          | true =>
            by_cases hz1 : z = 1
            · have HS2 := Lib.hid (show sglTo C (k + 1) = true by rw [HS.out, hsg, hz1]; rfl)
              subst hz1
              clear hsg
              go_wp2
              go_roundw
              case rel => exact ⟨k + 1, hlt, by go_num, by rw [HS2.out], by rw [HT2.out]; go_num, trivial⟩
              case measure => simp [intOf]; omega
            · have HS2 := Lib.hid (show sglTo C (k + 1) = false by rw [HS.out, hsg]; simpa using hz1)
              have hzi : ¬ (z : Int) = 1 := by omega
              have hzb : ((z : Int) == 1) = false := by simp; omega
              clear hsg
              go_wp2
              go_roundw
              case rel => exact ⟨k + 1, hlt, by go_num, by rw [HS2.out], by rw [HT2.out]; go_num, trivial⟩
              case measure => simp [intOf]; omega
        · obtain rfl : k = m := by omega
          have hki : ¬ (k : Int) < (k : Int) := by omega
          have HP2 := Lib.hid (show sglTo C k = b by rw [← HM.out]; exact H2.out)
          have HP3 := Lib.hid (show cntC C k = n by rw [← HM.out, HCC.out, HN.out])
          rw [HP2.out, HP3.out]
          go_wp2_with fail
          go_loopw [11, 117] (fun sm ix wq => ∃ i : Nat, i ≤ n ∧ ix = .int .i64 i ∧ sm = .bool (comTo E i) ∧ Below we.heap.size we wq) (fun _ ix _ => n - (intOf ix).toNat)
          case atStart => exact ⟨0, Nat.zero_le _, rfl, rfl, HB2.out⟩
          case round =>
            obtain ⟨i, hi, rfl, rfl, hb⟩ := hrel
            obtain ⟨wI, rfl⟩ : ∃ x, x = wr := ⟨_, rfl⟩
            have HBI := Lib.hid hb
            have hleI := hb.size
            clear hb
            by_cases hil : i < n
            · have hii : (i : Int) < (n : Int) := by omega
              have hiE : i < E.length := by rw [HN.out]; exact hil
              obtain ⟨aI, cI, hrowI⟩ := HRE.out i hiE
              have hpx := HGR.out.perm _ (List.getElem_mem hiE)
              have HSI := Lib.hid (comTo_succ hiE)
              have HXM := Lib.hid (List.getElem_mem hiE)
              have HSO := Lib.hid (show ∀ j (hj : j < E.length), j < i → E[j] < E[i] from fun j hj hji => List.pairwise_iff_getElem.1 HGR.out.sorted j i hj hiE hji)
              obtain ⟨x, hx⟩ : ∃ x, E[i] = x := ⟨_, rfl⟩
              rw [hx] at hrowI hpx HSI HXM HSO
              have HPX := Lib.hid hpx
              have hcI := (hrowI wI HBI.out).1
              rw [hpx.len] at hcI
              have HXI := Lib.hid (show ∀ W, Below we.heap.size we W → Ints W (.slice aI d cI) (toI x) from fun W hW => by have := (hrowI W hW).2; rw [hpx.len] at this; exact this)
              clear hrowI hpx hx
              obtain ⟨cm, hcm⟩ : ∃ cm, comTo E i = cm := ⟨_, rfl⟩
              rw [hcm] at HSI ⊢
              clear hcm
              go_upto_region 24 with (fail)
              go_cut [133] from 122 to 133 (fun v wx => v = .bool false ∧ wx = wI)
              case first =>
                by_cases hi0 : i = 0
                · subst hi0
                  go_wp2_with fail
                  go_meet
                  exact ⟨rfl, rfl⟩
                · have hi0i : (0 : Int) < (i : Int) := by omega
                  have hpE : i - 1 < E.length := by omega
                  obtain ⟨aP, cP, hrowP⟩ := HRE.out (i - 1) hpE
                  have hlt2 := HSO.out (i - 1) hpE (by omega)
                  have hpp := HGR.out.perm _ (List.getElem_mem hpE)
                  have hcP := (hrowP wI HBI.out).1
                  have hiP := (hrowP wI HBI.out).2
                  rw [hpp.len] at hcP hiP
                  have hcc := cmpL_eq (toI E[i - 1]) (toI x)
                  rw [if_pos (toI_lt2 hlt2)] at hcc
                  have CM := Lib.hid (by have := Compare_any _ _ _ _ wI hiP (HXI.out wI HBI.out); rw [hcc] at this; exact this)
                  have him : ((i - 1 : Nat) : Int) = (i : Int) - 1 := by omega
                  have himw : IntKind.i64.wrap ((i : Int) - 1) = ((i - 1 : Nat) : Int) := by rw [← him]; exact IntWalk.i64_in _ (by omega)
                  have hi1 : ((i - 1 : Nat) : Int) < (n : Int) := by omega
                  have hi10 : (0 : Int) ≤ ((i - 1 : Nat) : Int) := by omega
                  clear hrowP hcc hiP
                  go_wp2_with (go_at_call 11; refine CM.out.mono ?_; rintro e wk ⟨rfl, rfl⟩)
                  go_meet
                  exact ⟨rfl, rfl⟩
              case rest =>
                obtain ⟨rfl, rfl⟩ := hcut
                obtain ⟨wI2, rfl⟩ : ∃ x, x = wc := ⟨_, rfl⟩
                go_wp2_with fail
                go_loopw [11, 136] (fun sm jx wq => ∃ j : Nat, j ≤ n ∧ jx = .int .i64 j ∧ sm = .bool (cm && comR E x j) ∧ Below we.heap.size we wq) (fun _ jx _ => n - (intOf jx).toNat)
                case atStart => exact ⟨0, Nat.zero_le _, rfl, by simp [comR], HBI.out⟩
                case round =>
                  obtain ⟨j, hj, rfl, rfl, hb⟩ := hrel
                  have HBJ := Lib.hid hb
                  have hleJ := hb.size
                  clear hb
                  by_cases hjl : j < n
                  · have hji : (j : Int) < (n : Int) := by omega
                    have hjE : j < E.length := by rw [HN.out]; exact hjl
                    obtain ⟨aJ, cJ, hrowJ⟩ := HRE.out j hjE
                    have hpy := HGR.out.perm _ (List.getElem_mem hjE)
                    have HRJ := Lib.hid (comR_dec (a := x) hjE)
                    have HMXY := Lib.hid (HGR.out.mul x HXM.out _ (List.getElem_mem hjE))
                    obtain ⟨yp, hy⟩ : ∃ y, E[j] = y := ⟨_, rfl⟩
                    rw [hy] at hrowJ hpy HRJ HMXY
                    have HPY := Lib.hid hpy
                    obtain ⟨wJ, rfl⟩ : ∃ x, x = wr := ⟨_, rfl⟩
                    have hcJ := (hrowJ wJ HBJ.out).1
                    rw [hpy.len] at hcJ
                    have HYI := Lib.hid (show ∀ W, Below we.heap.size we W → Ints W (.slice aJ d cJ) (toI yp) from fun W hW => by have := (hrowJ W hW).2; rw [hpy.len] at this; exact this)
                    clear hrowJ hpy hy
                    have hdd : ((d : Int) != (d : Int)) = false := by simp
                    have hd5i : ¬ (5 : Int) < (d : Int) := by omega
                    have hd5b : decide ((5 : Int) < (d : Int)) = false := by simp; omega
                    obtain ⟨cr, hcr⟩ : ∃ cr, comR E x j = cr := ⟨_, rfl⟩
                    rw [hcr] at HRJ ⊢
                    clear hcr
                    go_upto_region 32 with (fail)
                    obtain ⟨p, hp⟩ : ∃ p, wJ.heap.size = p := ⟨_, rfl⟩
                    have HP0 := Lib.hid (show AbI p ((wJ.alloc (.cells #[.slice none 0 0] 28))) (.slice none 0 0) (.slice none 0 0) [] [] from by subst hp; exact AbI.start wJ)
                    have HBP := Lib.hid (show Below p wJ (wJ.alloc (.cells #[.slice none 0 0] 28)) from by subst hp; exact (Below.refl _ _).alloc (Nat.le_refl _) _)
                    have HPJ := Lib.hid hp
                    rw [hp]
                    obtain ⟨W5, hW5⟩ : ∃ W5, wJ.alloc (.cells #[.slice none 0 0] 28) = W5 := ⟨_, rfl⟩
                    rw [hW5] at HP0 HBP ⊢
                    clear hp hW5
                    go_wp2_with fail
                    go_loopw [22, 152] (fun vy kx wq => ∃ (k : Nat) (vx : Value), k ≤ d ∧ kx = .int .i64 k ∧ AbI p wq vx vy (toI ((mulP x yp).take k)) (toI ((mulP yp x).take k)) ∧ Below p wJ wq) (fun _ kx _ => d - (intOf kx).toNat)
                    case atStart => exact ⟨0, _, Nat.zero_le _, rfl, HP0.out, HBP.out⟩
                    case round =>
                      obtain ⟨k, vx, hk, rfl, hab, hbq⟩ := hrel
                      have HAB := Lib.hid hab
                      have HBQ := Lib.hid hbq
                      have HBE := Lib.hid (show Below we.heap.size we wr from HBJ.out.trans (hbq.mono (by rw [← HPJ.out]; exact hleJ)))
                      have hcp := hab.box.at (i := 0) rfl
                      obtain ⟨ay, ny, cy, rfl⟩ := own_form hab.oy
                      obtain ⟨ax, nx, cx, rfl⟩ := own_form hab.ox
                      clear hab hbq
                      by_cases hkl : k < d
                      · have hki : (k : Int) < (d : Int) := by omega
                        have hkx : k < x.length := by rw [HPX.out.len]; exact hkl
                        have hky : k < yp.length := by rw [HPY.out.len]; exact hkl
                        obtain ⟨bx, ox, cx', e1, hbx, hcx⟩ := Ints.atN (HXI.out wr HBE.out) hkx
                        have hbx0 : bx < we.heap.size := by
                          obtain ⟨b9, o9, c9, e9, hb9, -⟩ := Ints.atN (HXI.out we (Below.refl _ _)) hkx
                          have := (Value.slice.inj e1).1.symm.trans (Value.slice.inj e9).1
                          simp at this
                          omega
                        obtain ⟨by', oy, cy', e2, hby, hcy⟩ := Ints.atN (HYI.out wr HBE.out) hky
                        have hby0 : by' < we.heap.size := by
                          obtain ⟨b9, o9, c9, e9, hb9, -⟩ := Ints.atN (HYI.out we (Below.refl _ _)) hky
                          have := (Value.slice.inj e2).1.symm.trans (Value.slice.inj e9).1
                          simp at this
                          omega
                        have hxk := HPX.out.lt _ (List.getElem_mem hkx)
                        have hyk := HPY.out.lt _ (List.getElem_mem hky)
                        have hkx2 : yp[k] < x.length := by rw [HPX.out.len]; exact hyk
                        have hky2 : x[k] < yp.length := by rw [HPY.out.len]; exact hxk
                        obtain ⟨bx2, ox2, cx2', e3, -, hcx2⟩ := Ints.atN (HXI.out wr HBE.out) hkx2
                        obtain ⟨by2, oy2, cy2', e4, -, hcy2⟩ := Ints.atN (HYI.out wr HBE.out) hky2
                        obtain ⟨rfl, -, -⟩ := Value.slice.inj e1
                        obtain ⟨rfl, -, -⟩ := Value.slice.inj e2
                        obtain ⟨rfl, rfl⟩ : bx = bx2 ∧ ox = ox2 := by have := (Value.slice.inj e3).1; simpa using this
                        obtain ⟨rfl, rfl⟩ : by' = by2 ∧ oy = oy2 := by have := (Value.slice.inj e4).1; simpa using this
                        have HT1 := Lib.hid (mul_take (a := x) hky hkx2)
                        have HT2 := Lib.hid (mul_take (a := yp) hkx hky2)
                        obtain ⟨xk, hxke⟩ : ∃ z, x[k] = z := ⟨_, rfl⟩
                        obtain ⟨yk, hyke⟩ : ∃ z, yp[k] = z := ⟨_, rfl⟩
                        obtain ⟨xy, hxy⟩ : ∃ z, x[yp[k]] = z := ⟨_, rfl⟩
                        obtain ⟨yx, hyx⟩ : ∃ z, yp[x[k]] = z := ⟨_, rfl⟩
                        rw [hxy] at hcx2 HT1
                        rw [hyx] at hcy2 HT2
                        rw [hyke] at hcx2 hcy hyk
                        rw [hxke] at hcy2 hcx hxk
                        have n1 : ¬ ((xk : Nat) : Int) < 0 := by omega
                        have n2 : ¬ ((yk : Nat) : Int) < 0 := by omega
                        have n3 : ¬ (d : Int) ≤ (xk : Int) := by omega
                        have n4 : ¬ (d : Int) ≤ (yk : Int) := by omega
                        have n5 : decide (((xk : Nat) : Int) < 0) = false := by simp
                        have n6 : decide (((yk : Nat) : Int) < 0) = false := by simp
                        have n7 : decide ((d : Int) ≤ (xk : Int)) = false := by simp; omega
                        have n8 : decide ((d : Int) ≤ (yk : Int)) = false := by simp; omega
                        have n9 : (xk : Int) < (d : Int) := by omega
                        have n10 : (yk : Int) < (d : Int) := by omega
                        have n11 : (0 : Int) ≤ (xk : Int) := by omega
                        have n12 : (0 : Int) ≤ (yk : Int) := by omega
                        have hbp1 : bx < p := by have := HPJ.out; have := hbx0; omega
                        have hbp2 : by' < p := by have := HPJ.out; have := hby0; omega
                        have HL1 := Lib.hid (show (toI ((mulP x yp).take k)).length < 1000000 by rw [toI_length, List.length_take]; omega)
                        have HL2 := Lib.hid (show (toI ((mulP yp x).take k)).length < 1000000 by rw [toI_length, List.length_take]; omega)
                        have HS := Lib.hid (fun (y3 y4 y13 y14 : Value) => AbM.start (y3 := y3) (y4 := y4) (y13 := y13) (y14 := y14) (show A37 p bx by' (ox + k) (oy + k) (ox + yk) (oy + xk) xk yk xy yx (.slice ax nx cx) (.slice ax nx cx) (.slice ay ny cy) (toI ((mulP x yp).take k)) (toI ((mulP yp x).take k)) wr from ⟨hcx, hcy, hcx2, hcy2, HAB.out.box, hbp1, hbp2, HAB.out.ox, HAB.out.oy, HAB.out.ne⟩))
                        clear hkx hky e1 e2 e3 e4 hkx2 hky2 hxke hyke hxy hyx hbx hby
                        go_upto_region 37 with (fail)
                        refine wp_region_mem (by kernel_rfl) [22, 185, 186, 187, 188, 189, 190, 191, 192, 193, 194, 195, 196, 197, 198, 199, 200, 201, 202, 203, 204] (by kernel_rfl) (by kernel_rfl) (fun i => match i with | 0 => some (.slice ax nx cx) | 1 => some (.slice (some ⟨bx, ox, none⟩) d cI) | 2 => some (.slice (some ⟨by', oy, none⟩) d cJ) | 3 => some (.int .i64 (k : Nat)) | 4 => some (.pointer (some ⟨by', oy + k, none⟩)) | 5 => some (.int .i64 (yk : Nat)) | 6 => some (.pointer (some ⟨bx, ox + yk, none⟩)) | 7 => some (.int .i64 (xy : Nat)) | 10 => some (.slice ay ny cy) | 11 => some (.slice (some ⟨by', oy, none⟩) d cJ) | 12 => some (.slice (some ⟨bx, ox, none⟩) d cI) | 13 => some (.int .i64 (k : Nat)) | 14 => some (.pointer (some ⟨bx, ox + k, none⟩)) | 15 => some (.int .i64 (xk : Nat)) | 16 => some (.pointer (some ⟨by', oy + xk, none⟩)) | 17 => some (.int .i64 (yx : Nat)) | _ => none) (fun dn y w => (dn 20 = false → AbM p bx by' (ox + k) (oy + k) (ox + yk) (oy + xk) xk yk xy yx (.slice ax nx cx) (.slice ay ny cy) (toI ((mulP x yp).take k)) (toI ((mulP yp x).take k)) wr (dn 8) (dn 9) (dn 18) (dn 19) (y 193) (y 194) (y 203) (y 204) w) ∧ (dn 20 = true → ∃ w0, AbM p bx by' (ox + k) (oy + k) (ox + yk) (oy + xk) xk yk xy yx (.slice ax nx cx) (.slice ay ny cy) (toI ((mulP x yp).take k)) (toI ((mulP yp x).take k)) wr true true true true (y 193) (y 194) (y 203) (y 204) w0 ∧ w = w0.setCell ⟨p, 0, none⟩ (y 194)) ∧ (dn 21 = false → y 22 = .slice ay ny cy) ∧ (dn 21 = true → y 22 = y 204)) ?_ ?_ ?_ ?_ ?_
                        · exact ⟨fun _ => HS.out _ _ _ _, fun h => (by cases h), fun _ => by go_simp, fun h => (by cases h)⟩
                        · intro i o v ho hv dn y wx hdi hcl hd hcst hM
                          match i, ho, hv, hdi with
                          | 0, ho, hv, hdi =>
                            obtain rfl := Option.some.inj ho
                            obtain rfl : .slice ax nx cx = v := Option.some.inj hv
                            have n20 : dn 20 = false := Bool.eq_false_iff.2 fun h => by have h2 := hcl 20 0 (by kernel_rfl) h; rw [hdi] at h2; cases h2
                            have n21 : dn 21 = false := Bool.eq_false_iff.2 fun h => by have h2 := hcl 21 0 (by kernel_rfl) h; rw [hdi] at h2; cases h2
                            have hq := (hM.1 n20).a
                            have c1 := hq.c1
                            have c2 := hq.c2
                            have c3 := hq.c3
                            have c4 := hq.c4
                            have c5 := hq.box.at (i := 0) rfl
                            refine rstep_value rfl (v := .slice ax nx cx) (w' := wx) ?_ ⟨rfl, rfl⟩
                            · simp only [hole, List.foldl_cons, List.foldl_nil, List.setIfInBounds_toArray, List.set_cons_zero, List.set_cons_succ]
                              go_simp
                          | 1, ho, hv, _ =>
                            obtain rfl := Option.some.inj ho
                            obtain rfl : .slice (some ⟨bx, ox, none⟩) d cI = v := Option.some.inj hv
                            refine rstep_value rfl (v := .slice (some ⟨bx, ox, none⟩) d cI) (w' := wx) ?_ ⟨rfl, rfl⟩
                            · simp only [hole, List.foldl_cons, List.foldl_nil, List.setIfInBounds_toArray, List.set_cons_zero, List.set_cons_succ]
                              go_simp
                          | 2, ho, hv, _ =>
                            obtain rfl := Option.some.inj ho
                            obtain rfl : .slice (some ⟨by', oy, none⟩) d cJ = v := Option.some.inj hv
                            refine rstep_value rfl (v := .slice (some ⟨by', oy, none⟩) d cJ) (w' := wx) ?_ ⟨rfl, rfl⟩
                            · simp only [hole, List.foldl_cons, List.foldl_nil, List.setIfInBounds_toArray, List.set_cons_zero, List.set_cons_succ]
                              go_simp
                          | 3, ho, hv, _ =>
                            obtain rfl := Option.some.inj ho
                            obtain rfl : .int .i64 (k : Nat) = v := Option.some.inj hv
                            refine rstep_value rfl (v := .int .i64 (k : Nat)) (w' := wx) ?_ ⟨rfl, rfl⟩
                            · simp only [hole, List.foldl_cons, List.foldl_nil, List.setIfInBounds_toArray, List.set_cons_zero, List.set_cons_succ]
                              go_simp
                          | 4, ho, hv, _ =>
                            obtain rfl := Option.some.inj ho
                            obtain rfl : .pointer (some ⟨by', oy + k, none⟩) = v := Option.some.inj hv
                            have e187 : y 187 = .slice (some ⟨by', oy, none⟩) d cJ := hcst 2 _ _ (by kernel_rfl) rfl rfl
                            have e188 : y 188 = .int .i64 (k : Nat) := hcst 3 _ _ (by kernel_rfl) rfl rfl
                            refine rstep_value rfl (v := .pointer (some ⟨by', oy + k, none⟩)) (w' := wx) ?_ ⟨rfl, rfl⟩
                            · simp only [hole, List.foldl_cons, List.foldl_nil, List.setIfInBounds_toArray, List.set_cons_zero, List.set_cons_succ]
                              go_simp
                          | 5, ho, hv, hdi =>
                            obtain rfl := Option.some.inj ho
                            obtain rfl : .int .i64 (yk : Nat) = v := Option.some.inj hv
                            have e189 : y 189 = .pointer (some ⟨by', oy + k, none⟩) := hcst 4 _ _ (by kernel_rfl) rfl rfl
                            have n20 : dn 20 = false := Bool.eq_false_iff.2 fun h => by have h2 := hcl 20 5 (by kernel_rfl) h; rw [hdi] at h2; cases h2
                            have n21 : dn 21 = false := Bool.eq_false_iff.2 fun h => by have h2 := hcl 21 5 (by kernel_rfl) h; rw [hdi] at h2; cases h2
                            have hq := (hM.1 n20).a
                            have c1 := hq.c1
                            have c2 := hq.c2
                            have c3 := hq.c3
                            have c4 := hq.c4
                            have c5 := hq.box.at (i := 0) rfl
                            refine rstep_value rfl (v := .int .i64 (yk : Nat)) (w' := wx) ?_ ⟨rfl, rfl⟩
                            · simp only [hole, List.foldl_cons, List.foldl_nil, List.setIfInBounds_toArray, List.set_cons_zero, List.set_cons_succ]
                              go_simp
                          | 6, ho, hv, _ =>
                            obtain rfl := Option.some.inj ho
                            obtain rfl : .pointer (some ⟨bx, ox + yk, none⟩) = v := Option.some.inj hv
                            have e186 : y 186 = .slice (some ⟨bx, ox, none⟩) d cI := hcst 1 _ _ (by kernel_rfl) rfl rfl
                            have e190 : y 190 = .int .i64 (yk : Nat) := hcst 5 _ _ (by kernel_rfl) rfl rfl
                            refine rstep_value rfl (v := .pointer (some ⟨bx, ox + yk, none⟩)) (w' := wx) ?_ ⟨rfl, rfl⟩
                            · simp only [hole, List.foldl_cons, List.foldl_nil, List.setIfInBounds_toArray, List.set_cons_zero, List.set_cons_succ]
                              go_simp
                          | 7, ho, hv, hdi =>
                            obtain rfl := Option.some.inj ho
                            obtain rfl : .int .i64 (xy : Nat) = v := Option.some.inj hv
                            have e191 : y 191 = .pointer (some ⟨bx, ox + yk, none⟩) := hcst 6 _ _ (by kernel_rfl) rfl rfl
                            have n20 : dn 20 = false := Bool.eq_false_iff.2 fun h => by have h2 := hcl 20 7 (by kernel_rfl) h; rw [hdi] at h2; cases h2
                            have n21 : dn 21 = false := Bool.eq_false_iff.2 fun h => by have h2 := hcl 21 7 (by kernel_rfl) h; rw [hdi] at h2; cases h2
                            have hq := (hM.1 n20).a
                            have c1 := hq.c1
                            have c2 := hq.c2
                            have c3 := hq.c3
                            have c4 := hq.c4
                            have c5 := hq.box.at (i := 0) rfl
                            refine rstep_value rfl (v := .int .i64 (xy : Nat)) (w' := wx) ?_ ⟨rfl, rfl⟩
                            · simp only [hole, List.foldl_cons, List.foldl_nil, List.setIfInBounds_toArray, List.set_cons_zero, List.set_cons_succ]
                              go_simp
                          | 8, _, hv, _ => exact absurd hv (by simp)
                          | 9, _, hv, _ => exact absurd hv (by simp)
                          | 10, ho, hv, hdi =>
                            obtain rfl := Option.some.inj ho
                            obtain rfl : .slice ay ny cy = v := Option.some.inj hv
                            have n19 : dn 19 = false := Bool.eq_false_iff.2 fun h => by have h2 := hcl 19 10 (by kernel_rfl) h; rw [hdi] at h2; cases h2
                            have n20 : dn 20 = false := Bool.eq_false_iff.2 fun h => by have h2 := hcl 20 19 (by kernel_rfl) h; rw [n19] at h2; cases h2
                            have n21 : dn 21 = false := Bool.eq_false_iff.2 fun h => by have h2 := hcl 21 10 (by kernel_rfl) h; rw [hdi] at h2; cases h2
                            have e22 := hM.2.2.1 n21
                            refine rstep_value rfl (v := .slice ay ny cy) (w' := wx) ?_ ⟨rfl, rfl⟩
                            · simp only [hole, List.foldl_cons, List.foldl_nil, List.setIfInBounds_toArray, List.set_cons_zero, List.set_cons_succ]
                              go_simp
                          | 11, ho, hv, _ =>
                            obtain rfl := Option.some.inj ho
                            obtain rfl : .slice (some ⟨by', oy, none⟩) d cJ = v := Option.some.inj hv
                            refine rstep_value rfl (v := .slice (some ⟨by', oy, none⟩) d cJ) (w' := wx) ?_ ⟨rfl, rfl⟩
                            · simp only [hole, List.foldl_cons, List.foldl_nil, List.setIfInBounds_toArray, List.set_cons_zero, List.set_cons_succ]
                              go_simp
                          | 12, ho, hv, _ =>
                            obtain rfl := Option.some.inj ho
                            obtain rfl : .slice (some ⟨bx, ox, none⟩) d cI = v := Option.some.inj hv
                            refine rstep_value rfl (v := .slice (some ⟨bx, ox, none⟩) d cI) (w' := wx) ?_ ⟨rfl, rfl⟩
                            · simp only [hole, List.foldl_cons, List.foldl_nil, List.setIfInBounds_toArray, List.set_cons_zero, List.set_cons_succ]
                              go_simp
                          | 13, ho, hv, _ =>
                            obtain rfl := Option.some.inj ho
                            obtain rfl : .int .i64 (k : Nat) = v := Option.some.inj hv
                            refine rstep_value rfl (v := .int .i64 (k : Nat)) (w' := wx) ?_ ⟨rfl, rfl⟩
                            · simp only [hole, List.foldl_cons, List.foldl_nil, List.setIfInBounds_toArray, List.set_cons_zero, List.set_cons_succ]
                              go_simp
                          | 14, ho, hv, _ =>
                            obtain rfl := Option.some.inj ho
                            obtain rfl : .pointer (some ⟨bx, ox + k, none⟩) = v := Option.some.inj hv
                            have e197 : y 197 = .slice (some ⟨bx, ox, none⟩) d cI := hcst 12 _ _ (by kernel_rfl) rfl rfl
                            have e198 : y 198 = .int .i64 (k : Nat) := hcst 13 _ _ (by kernel_rfl) rfl rfl
                            refine rstep_value rfl (v := .pointer (some ⟨bx, ox + k, none⟩)) (w' := wx) ?_ ⟨rfl, rfl⟩
                            · simp only [hole, List.foldl_cons, List.foldl_nil, List.setIfInBounds_toArray, List.set_cons_zero, List.set_cons_succ]
                              go_simp
                          | 15, ho, hv, hdi =>
                            obtain rfl := Option.some.inj ho
                            obtain rfl : .int .i64 (xk : Nat) = v := Option.some.inj hv
                            have e199 : y 199 = .pointer (some ⟨bx, ox + k, none⟩) := hcst 14 _ _ (by kernel_rfl) rfl rfl
                            have n16 : dn 16 = false := Bool.eq_false_iff.2 fun h => by have h2 := hcl 16 15 (by kernel_rfl) h; rw [hdi] at h2; cases h2
                            have n17 : dn 17 = false := Bool.eq_false_iff.2 fun h => by have h2 := hcl 17 16 (by kernel_rfl) h; rw [n16] at h2; cases h2
                            have n18 : dn 18 = false := Bool.eq_false_iff.2 fun h => by have h2 := hcl 18 17 (by kernel_rfl) h; rw [n17] at h2; cases h2
                            have n19 : dn 19 = false := Bool.eq_false_iff.2 fun h => by have h2 := hcl 19 18 (by kernel_rfl) h; rw [n18] at h2; cases h2
                            have n20 : dn 20 = false := Bool.eq_false_iff.2 fun h => by have h2 := hcl 20 19 (by kernel_rfl) h; rw [n19] at h2; cases h2
                            have n21 : dn 21 = false := Bool.eq_false_iff.2 fun h => by have h2 := hcl 21 15 (by kernel_rfl) h; rw [hdi] at h2; cases h2
                            have hq := (hM.1 n20).a
                            have c1 := hq.c1
                            have c2 := hq.c2
                            have c3 := hq.c3
                            have c4 := hq.c4
                            have c5 := hq.box.at (i := 0) rfl
                            refine rstep_value rfl (v := .int .i64 (xk : Nat)) (w' := wx) ?_ ⟨rfl, rfl⟩
                            · simp only [hole, List.foldl_cons, List.foldl_nil, List.setIfInBounds_toArray, List.set_cons_zero, List.set_cons_succ]
                              go_simp
                          | 16, ho, hv, _ =>
                            obtain rfl := Option.some.inj ho
                            obtain rfl : .pointer (some ⟨by', oy + xk, none⟩) = v := Option.some.inj hv
                            have e196 : y 196 = .slice (some ⟨by', oy, none⟩) d cJ := hcst 11 _ _ (by kernel_rfl) rfl rfl
                            have e200 : y 200 = .int .i64 (xk : Nat) := hcst 15 _ _ (by kernel_rfl) rfl rfl
                            refine rstep_value rfl (v := .pointer (some ⟨by', oy + xk, none⟩)) (w' := wx) ?_ ⟨rfl, rfl⟩
                            · simp only [hole, List.foldl_cons, List.foldl_nil, List.setIfInBounds_toArray, List.set_cons_zero, List.set_cons_succ]
                              go_simp
                          | 17, ho, hv, hdi =>
                            obtain rfl := Option.some.inj ho
                            obtain rfl : .int .i64 (yx : Nat) = v := Option.some.inj hv
                            have e201 : y 201 = .pointer (some ⟨by', oy + xk, none⟩) := hcst 16 _ _ (by kernel_rfl) rfl rfl
                            have n18 : dn 18 = false := Bool.eq_false_iff.2 fun h => by have h2 := hcl 18 17 (by kernel_rfl) h; rw [hdi] at h2; cases h2
                            have n19 : dn 19 = false := Bool.eq_false_iff.2 fun h => by have h2 := hcl 19 18 (by kernel_rfl) h; rw [n18] at h2; cases h2
                            have n20 : dn 20 = false := Bool.eq_false_iff.2 fun h => by have h2 := hcl 20 19 (by kernel_rfl) h; rw [n19] at h2; cases h2
                            have n21 : dn 21 = false := Bool.eq_false_iff.2 fun h => by have h2 := hcl 21 17 (by kernel_rfl) h; rw [hdi] at h2; cases h2
                            have hq := (hM.1 n20).a
                            have c1 := hq.c1
                            have c2 := hq.c2
                            have c3 := hq.c3
                            have c4 := hq.c4
                            have c5 := hq.box.at (i := 0) rfl
                            refine rstep_value rfl (v := .int .i64 (yx : Nat)) (w' := wx) ?_ ⟨rfl, rfl⟩
                            · simp only [hole, List.foldl_cons, List.foldl_nil, List.setIfInBounds_toArray, List.set_cons_zero, List.set_cons_succ]
                              go_simp
                          | 18, _, hv, _ => exact absurd hv (by simp)
                          | 19, _, hv, _ => exact absurd hv (by simp)
                          | 20, _, hv, _ => exact absurd hv (by simp)
                          | 21, _, hv, _ => exact absurd hv (by simp)
                          | _ + 22, ho, _, _ => exact absurd ho (by simp)
                        · intro i o v ho hv dn y wx hM
                          match i, ho, hv with
                          | 0, ho, _ =>
                            obtain rfl := Option.some.inj ho
                            exact hM
                          | 1, ho, _ =>
                            obtain rfl := Option.some.inj ho
                            exact hM
                          | 2, ho, _ =>
                            obtain rfl := Option.some.inj ho
                            exact hM
                          | 3, ho, _ =>
                            obtain rfl := Option.some.inj ho
                            exact hM
                          | 4, ho, _ =>
                            obtain rfl := Option.some.inj ho
                            exact hM
                          | 5, ho, _ =>
                            obtain rfl := Option.some.inj ho
                            exact hM
                          | 6, ho, _ =>
                            obtain rfl := Option.some.inj ho
                            exact hM
                          | 7, ho, _ =>
                            obtain rfl := Option.some.inj ho
                            exact hM
                          | 8, _, hv => exact absurd hv (by simp)
                          | 9, _, hv => exact absurd hv (by simp)
                          | 10, ho, _ =>
                            obtain rfl := Option.some.inj ho
                            exact hM
                          | 11, ho, _ =>
                            obtain rfl := Option.some.inj ho
                            exact hM
                          | 12, ho, _ =>
                            obtain rfl := Option.some.inj ho
                            exact hM
                          | 13, ho, _ =>
                            obtain rfl := Option.some.inj ho
                            exact hM
                          | 14, ho, _ =>
                            obtain rfl := Option.some.inj ho
                            exact hM
                          | 15, ho, _ =>
                            obtain rfl := Option.some.inj ho
                            exact hM
                          | 16, ho, _ =>
                            obtain rfl := Option.some.inj ho
                            exact hM
                          | 17, ho, _ =>
                            obtain rfl := Option.some.inj ho
                            exact hM
                          | 18, _, hv => exact absurd hv (by simp)
                          | 19, _, hv => exact absurd hv (by simp)
                          | 20, _, hv => exact absurd hv (by simp)
                          | 21, _, hv => exact absurd hv (by simp)
                          | _ + 22, ho, _ => exact absurd ho (by simp)
                        · intro i o ho hv dn y wx hdi hcl hd hcst hM
                          match i, ho, hv, hdi with
                          | 0, _, hv, _ => exact absurd hv (by simp)
                          | 1, _, hv, _ => exact absurd hv (by simp)
                          | 2, _, hv, _ => exact absurd hv (by simp)
                          | 3, _, hv, _ => exact absurd hv (by simp)
                          | 4, _, hv, _ => exact absurd hv (by simp)
                          | 5, _, hv, _ => exact absurd hv (by simp)
                          | 6, _, hv, _ => exact absurd hv (by simp)
                          | 7, _, hv, _ => exact absurd hv (by simp)
                          | 8, ho, _, hdi =>
                            obtain rfl := Option.some.inj ho
                            have e192 : y 192 = .int .i64 (xy : Nat) := hcst 7 _ _ (by kernel_rfl) rfl rfl
                            have n9 : dn 9 = false := Bool.eq_false_iff.2 fun h => by have h2 := hcl 9 8 (by kernel_rfl) h; rw [hdi] at h2; cases h2
                            have n20 : dn 20 = false := Bool.eq_false_iff.2 fun h => by have h2 := hcl 20 8 (by kernel_rfl) h; rw [hdi] at h2; cases h2
                            have n21 : dn 21 = false := Bool.eq_false_iff.2 fun h => by have h2 := hcl 21 8 (by kernel_rfl) h; rw [hdi] at h2; cases h2
                            refine rstep_value rfl (v := .slice (some ⟨wx.heap.size, 0, none⟩) 1 1) (w' := wx.alloc (.cells #[.int .i64 (xy : Nat)] 3)) ?_ ⟨fun _ => (hM.1 n20).tx n9, fun h => absurd (show dn 20 = true from h) (by rw [n20]; simp), fun _ => hM.2.2.1 n21, fun h => absurd (show dn 21 = true from h) (by rw [n21]; simp)⟩
                            · simp only [hole, List.foldl_cons, List.foldl_nil, List.setIfInBounds_toArray, List.set_cons_zero, List.set_cons_succ]
                              go_simp
                          | 9, ho, _, hdi =>
                            obtain rfl := Option.some.inj ho
                            have e185 : y 185 = .slice ax nx cx := hcst 0 _ _ (by kernel_rfl) rfl rfl
                            have d8 : dn 8 = true := hd 8 (by kernel_rfl)
                            have n20 : dn 20 = false := Bool.eq_false_iff.2 fun h => by have h2 := hcl 20 9 (by kernel_rfl) h; rw [hdi] at h2; cases h2
                            have n21 : dn 21 = false := Bool.eq_false_iff.2 fun h => by have h2 := hcl 21 9 (by kernel_rfl) h; rw [hdi] at h2; cases h2
                            have hm := hM.1 n20
                            obtain ⟨t, e193, hct, htl⟩ := hm.x d8 hdi
                            have hox := hm.ox hdi
                            have hsz := hm.a.szz
                            obtain ⟨v', w', hrun, ho', hg', hl'⟩ := run_app1_at (ty := 28) hox hct HL1.out hsz
                            refine rstep_value rfl (v := v') (w' := w') ?_ ⟨fun _ => hm.px hdi ho' hg' hl', fun h => absurd (show dn 20 = true from h) (by rw [n20]; simp), fun _ => hM.2.2.1 n21, fun h => absurd (show dn 21 = true from h) (by rw [n21]; simp)⟩
                            · simp only [hole, List.foldl_cons, List.foldl_nil, List.setIfInBounds_toArray, List.set_cons_zero, List.set_cons_succ]
                              simp [execOp, resolve, invoke, builtin, Act.eval, e185, e193, Result.andThen]
                              rw [hrun]
                          | 10, _, hv, _ => exact absurd hv (by simp)
                          | 11, _, hv, _ => exact absurd hv (by simp)
                          | 12, _, hv, _ => exact absurd hv (by simp)
                          | 13, _, hv, _ => exact absurd hv (by simp)
                          | 14, _, hv, _ => exact absurd hv (by simp)
                          | 15, _, hv, _ => exact absurd hv (by simp)
                          | 16, _, hv, _ => exact absurd hv (by simp)
                          | 17, _, hv, _ => exact absurd hv (by simp)
                          | 18, ho, _, hdi =>
                            obtain rfl := Option.some.inj ho
                            have e202 : y 202 = .int .i64 (yx : Nat) := hcst 17 _ _ (by kernel_rfl) rfl rfl
                            have n19 : dn 19 = false := Bool.eq_false_iff.2 fun h => by have h2 := hcl 19 18 (by kernel_rfl) h; rw [hdi] at h2; cases h2
                            have n20 : dn 20 = false := Bool.eq_false_iff.2 fun h => by have h2 := hcl 20 19 (by kernel_rfl) h; rw [n19] at h2; cases h2
                            have n21 : dn 21 = false := Bool.eq_false_iff.2 fun h => by have h2 := hcl 21 18 (by kernel_rfl) h; rw [hdi] at h2; cases h2
                            refine rstep_value rfl (v := .slice (some ⟨wx.heap.size, 0, none⟩) 1 1) (w' := wx.alloc (.cells #[.int .i64 (yx : Nat)] 3)) ?_ ⟨fun _ => (hM.1 n20).ty n19, fun h => absurd (show dn 20 = true from h) (by rw [n20]; simp), fun _ => hM.2.2.1 n21, fun h => absurd (show dn 21 = true from h) (by rw [n21]; simp)⟩
                            · simp only [hole, List.foldl_cons, List.foldl_nil, List.setIfInBounds_toArray, List.set_cons_zero, List.set_cons_succ]
                              go_simp
                          | 19, ho, _, hdi =>
                            obtain rfl := Option.some.inj ho
                            have e195 : y 195 = .slice ay ny cy := hcst 10 _ _ (by kernel_rfl) rfl rfl
                            have d18 : dn 18 = true := hd 18 (by kernel_rfl)
                            have n20 : dn 20 = false := Bool.eq_false_iff.2 fun h => by have h2 := hcl 20 19 (by kernel_rfl) h; rw [hdi] at h2; cases h2
                            have n21 : dn 21 = false := Bool.eq_false_iff.2 fun h => by have h2 := hcl 21 19 (by kernel_rfl) h; rw [hdi] at h2; cases h2
                            have hm := hM.1 n20
                            obtain ⟨t, e203, hct, htl⟩ := hm.y d18 hdi
                            have hoy := hm.oy hdi
                            have hsz := hm.a.szz
                            obtain ⟨v', w', hrun, ho', hg', hl'⟩ := run_app1_at (ty := 28) hoy hct HL2.out hsz
                            refine rstep_value rfl (v := v') (w' := w') ?_ ⟨fun _ => hm.py hdi ho' hg' hl', fun h => absurd (show dn 20 = true from h) (by rw [n20]; simp), fun _ => hM.2.2.1 n21, fun h => absurd (show dn 21 = true from h) (by rw [n21]; simp)⟩
                            · simp only [hole, List.foldl_cons, List.foldl_nil, List.setIfInBounds_toArray, List.set_cons_zero, List.set_cons_succ]
                              simp [execOp, resolve, invoke, builtin, Act.eval, e195, e203, Result.andThen]
                              rw [hrun]
                          | 20, ho, _, hdi =>
                            obtain rfl := Option.some.inj ho
                            have d9 : dn 9 = true := hd 9 (by kernel_rfl)
                            have d19 : dn 19 = true := hd 19 (by kernel_rfl)
                            have d18 : dn 18 = true := hcl 19 18 (by kernel_rfl) d19
                            have d8 : dn 8 = true := hcl 9 8 (by kernel_rfl) d9
                            have hm := hM.1 hdi
                            rw [d8, d9, d18, d19] at hm
                            have hb := hm.a.box
                            have c0 := hb.at (i := 0) rfl
                            have f0 := hb.free 0
                            obtain ⟨a94, n94, c94, e194⟩ := own_form hm.a.ox
                            refine rstep_skip rfl (w' := wx.setCell ⟨p, 0, none⟩ (y 194)) ?_ ⟨fun h => absurd (show (true || dn 20) = false from h) (by simp), fun _ => ⟨wx, hm, rfl⟩, hM.2.2.1, hM.2.2.2⟩
                            · simp only [hole, List.foldl_cons, List.foldl_nil, List.setIfInBounds_toArray, List.set_cons_zero, List.set_cons_succ]
                              have e194' : y 194 = .slice a94 n94 c94 := e194
                              rw [e194']
                              go_simp
                          | 21, ho, _, hdi =>
                            obtain rfl := Option.some.inj ho
                            have d19 : dn 19 = true := hd 19 (by kernel_rfl)
                            refine rstep_value rfl (v := y 204) (w' := wx) ?_ ⟨hM.1, hM.2.1, fun h => absurd (show (true || dn 21) = false from h) (by simp), fun _ => rfl⟩
                            · simp only [hole, List.foldl_cons, List.foldl_nil, List.setIfInBounds_toArray, List.set_cons_zero, List.set_cons_succ]
                              go_simp
                          | _ + 22, ho, _, _ => exact absurd ho (by simp)
                        · intro dn y wx hd hcst hM
                          have e185 : y 185 = .slice ax nx cx := hcst 0 _ _ (by decide) rfl rfl
                          have e186 : y 186 = .slice (some ⟨bx, ox, none⟩) d cI := hcst 1 _ _ (by decide) rfl rfl
                          have e187 : y 187 = .slice (some ⟨by', oy, none⟩) d cJ := hcst 2 _ _ (by decide) rfl rfl
                          have e188 : y 188 = .int .i64 (k : Nat) := hcst 3 _ _ (by decide) rfl rfl
                          have e189 : y 189 = .pointer (some ⟨by', oy + k, none⟩) := hcst 4 _ _ (by decide) rfl rfl
                          have e190 : y 190 = .int .i64 (yk : Nat) := hcst 5 _ _ (by decide) rfl rfl
                          have e191 : y 191 = .pointer (some ⟨bx, ox + yk, none⟩) := hcst 6 _ _ (by decide) rfl rfl
                          have e192 : y 192 = .int .i64 (xy : Nat) := hcst 7 _ _ (by decide) rfl rfl
                          have d8 : dn 8 = true := hd 8 (by decide)
                          have d9 : dn 9 = true := hd 9 (by decide)
                          have e195 : y 195 = .slice ay ny cy := hcst 10 _ _ (by decide) rfl rfl
                          have e196 : y 196 = .slice (some ⟨by', oy, none⟩) d cJ := hcst 11 _ _ (by decide) rfl rfl
                          have e197 : y 197 = .slice (some ⟨bx, ox, none⟩) d cI := hcst 12 _ _ (by decide) rfl rfl
                          have e198 : y 198 = .int .i64 (k : Nat) := hcst 13 _ _ (by decide) rfl rfl
                          have e199 : y 199 = .pointer (some ⟨bx, ox + k, none⟩) := hcst 14 _ _ (by decide) rfl rfl
                          have e200 : y 200 = .int .i64 (xk : Nat) := hcst 15 _ _ (by decide) rfl rfl
                          have e201 : y 201 = .pointer (some ⟨by', oy + xk, none⟩) := hcst 16 _ _ (by decide) rfl rfl
                          have e202 : y 202 = .int .i64 (yx : Nat) := hcst 17 _ _ (by decide) rfl rfl
                          have d18 : dn 18 = true := hd 18 (by decide)
                          have d19 : dn 19 = true := hd 19 (by decide)
                          have d20 : dn 20 = true := hd 20 (by decide)
                          have d21 : dn 21 = true := hd 21 (by decide)
                          obtain ⟨w0, hm, rfl⟩ := hM.2.1 d20
                          have e22 := hM.2.2.2 d21
                          obtain ⟨z193, hz193⟩ : ∃ z, y 193 = z := ⟨_, rfl⟩
                          obtain ⟨z194, hz194⟩ : ∃ z, y 194 = z := ⟨_, rfl⟩
                          obtain ⟨z203, hz203⟩ : ∃ z, y 203 = z := ⟨_, rfl⟩
                          obtain ⟨z204, hz204⟩ : ∃ z, y 204 = z := ⟨_, rfl⟩
                          rw [hz204] at e22
                          rw [hz193, hz194, hz203, hz204] at hm
                          rw [hz194]
                          simp only [hole, List.foldl_cons, List.foldl_nil, List.setIfInBounds_toArray, List.set_cons_zero, List.set_cons_succ, e185, e186, e187, e188, e189, e190, e191, e192, e195, e196, e197, e198, e199, e200, e201, e202, e22, hz193, hz194, hz203, hz204]
                          clear hd hcst hM e185 e186 e187 e188 e189 e190 e191 e192 e195 e196 e197 e198 e199 e200 e201 e202 e22 hz193 hz194 hz203 hz204 d8 d9 d18 d19 d20 d21
                          have HM4 := Lib.hid hm
                          clear hm
                          obtain ⟨w4, hw4⟩ : ∃ z, w0.setCell ⟨p, 0, none⟩ z194 = z := ⟨_, rfl⟩
                          have HA4 := Lib.hid (show AbI p w4 z194 z204 (toI ((mulP x yp).take (k + 1))) (toI ((mulP yp x).take (k + 1))) from by rw [← hw4, HT1.out, HT2.out]; exact HM4.out.done)
                          have HB4 := Lib.hid (show Below p wJ w4 from by rw [← hw4]; exact (HBQ.out.trans (HM4.out.low.mono (Nat.le_succ _))).setCell (p := ⟨p, 0, none⟩) (Nat.le_refl _) _)
                          rw [hw4]
                          clear hw4 HM4
                          go_wp2
                          go_roundw
                          case rel => exact ⟨k + 1, z194, hkl, by go_num, HA4.out, HB4.out⟩
                          case measure => simp [intOf]; omega
                      · obtain rfl : d = k := by omega
                        have hki : ¬ (d : Int) < (d : Int) := by omega
                        have HE1 := Lib.hid (show (mulP x yp).take d = mulP x yp from List.take_of_length_le (by rw [mulP_len, HPY.out.len]; exact Nat.le_refl _))
                        have HE2 := Lib.hid (show (mulP yp x).take d = mulP yp x from List.take_of_length_le (by rw [mulP_len, HPX.out.len]; exact Nat.le_refl _))
                        have HA5 := Lib.hid (show AbI p wr (.slice ax nx cx) (.slice ay ny cy) (toI (mulP x yp)) (toI (mulP yp x)) from by have := HAB.out; rw [HE1.out, HE2.out] at this; exact this)
                        have HIX := Lib.hid (HA5.out.ox.ints (by rw [toI_length, mulP_len, HPY.out.len]; omega))
                        have HIY := Lib.hid (HA5.out.oy.ints (by rw [toI_length, mulP_len, HPX.out.len]; omega))
                        have HCP := Lib.hid (show CapX wr p (.slice ax nx cx) (toI (mulP x yp)) from ⟨HA5.out.box.at (i := 0) rfl, HA5.out.box.lt, HIX.out⟩)
                        have HRX := Lib.hid (show RowsF S2 B2 wr (.slice (some ⟨gE, 0, none⟩) n cE) E from HXE.out.below (HXT0.out.trans (HBE.out.mono HXT0.out.size)))
                        have HNL := Lib.hid (show E.length ≤ 1000000 by rw [HN.out]; omega)
                        have hleP := HBE.out.size
                        cases hbb : (cm && cr) with
                        | true =>
                          have EQ := Lib.hid (EqualN_any _ _ _ _ wr HIX.out HIY.out)
                          have HRN := Lib.hid (and_dec HRJ.out hbb)
                          have hcp := HA5.out.box.at (i := 0) rfl
                          obtain ⟨dc, hdc⟩ : ∃ dc, decide (mulP x yp = mulP yp x) = dc := ⟨_, rfl⟩
                          rw [hdc] at EQ HRN
                          clear hbb hdc
                          cases dc with
                          | true =>
                            go_wp2_with (first
                              | (go_at_call 12; refine EQ.out.mono ?_; rintro e w2 ⟨rfl, hb2⟩; have HB2 := Lib.hid hb2; clear hb2)
                              | (go_at_call 13; refine (ContainsX_any _ _ E (mulP x yp) _ (HRX.out.below HB2.out) (HCP.out.below HB2.out) HMXY.out HNL.out).mono ?_; rintro e w3 ⟨rfl, hb3⟩; have HB3 := Lib.hid (HBE.out.trans ((HB2.out.trans (hb3.mono HB2.out.size)).mono hleP)); clear hb3))
                            go_roundw
                            case rel => exact ⟨j + 1, hjl, by go_num, by rw [HRN.out], HB3.out⟩
                            case measure => simp [intOf]; omega
                          | false =>
                            go_wp2_with (first
                              | (go_at_call 12; refine EQ.out.mono ?_; rintro e w2 ⟨rfl, hb2⟩; have HB2 := Lib.hid hb2; clear hb2)
                              | (go_at_call 13; refine (ContainsX_any _ _ E (mulP x yp) _ (HRX.out.below HB2.out) (HCP.out.below HB2.out) HMXY.out HNL.out).mono ?_; rintro e w3 ⟨rfl, hb3⟩; have HB3 := Lib.hid (HBE.out.trans ((HB2.out.trans (hb3.mono HB2.out.size)).mono hleP)); clear hb3))
                            go_roundw
                            case rel => exact ⟨j + 1, hjl, by go_num, by rw [HRN.out], HB3.out⟩
                            case measure => simp [intOf]; omega
                        | false =>
                          have HRN := Lib.hid (and_dec0 HRJ.out hbb)
                          clear hbb
                          go_wp2_with (go_at_call 13; refine (ContainsX_any _ _ E (mulP x yp) _ HRX.out HCP.out HMXY.out HNL.out).mono ?_; rintro e w3 ⟨rfl, hb3⟩; have HB3 := Lib.hid (HBE.out.trans (hb3.mono hleP)); clear hb3)
                          go_roundw
                          case rel => exact ⟨j + 1, hjl, by go_num, by rw [HRN.out], HB3.out⟩
                          case measure => simp [intOf]; omega
                  · obtain rfl : j = n := by omega
                    have hji : ¬ (j : Int) < (j : Int) := by omega
                    have HSJ := Lib.hid (show comTo E (i + 1) = (cm && comR E x j) by rw [HSI.out, HN.out])
                    rw [← HSJ.out]
                    go_wp2
                    go_roundw
                    case rel => exact ⟨i + 1, hil, by go_num, rfl, HBJ.out⟩
                    case measure => simp [intOf]; omega
            · obtain rfl : i = n := by omega
              have hii : ¬ (i : Int) < (i : Int) := by omega
              have HP4 := Lib.hid (show comTo E i = b by rw [← HN.out]; exact H3.out)
              rw [HP4.out]
              cases b with
              | true =>
                go_wp2_with (go_at_call 10; refine (AW.out _).mono ?_; rintro e wa ⟨rfl, hb⟩; have HBW := Lib.hid (HB.out.trans ((HBI.out.trans (hb.mono hleI)).mono HB.out.size)); clear hb)
                go_ret
                exact ⟨rfl, HBW.out⟩
              | false =>
                go_wp2_with (go_at_call 10; refine (AW.out _).mono ?_; rintro e wa ⟨rfl, hb⟩; have HBW := Lib.hid (HB.out.trans ((HBI.out.trans (hb.mono hleI)).mono HB.out.size)); clear hb)
                go_ret
                exact ⟨rfl, HBW.out⟩
end Go.Proofs.Ytdackakjcnnofaa
