/- Qr, Qs, Qt, Qk, Qj, Qv, Ag of the seat's texts, in this order. -/
import Derived.Test.YtmlhecfhhhebnaaP1
import Derived.Test.YtmlhecfhhhebnaaN2
import Derived.Deep.RegionWith
import Derived.Test.YtmlhecfhhhebnaaQh1M
import Derived.Test.YtmlhecfhhhebnaaQh2M
import Derived.Test.YtmlhecfhhhebnaaMs
import Derived.Test.YtmlhecfhhhebnaaRows
import Derived.ProofKit
import Derived.OpenShut
import Derived.SizedLaws
import Derived.Carry
import Derived.Lib.SmallJoins
import Derived.Stop.Joined

/- Polynomials: the walk of the reference's R. -/
namespace Go.Proofs.Ytmlhecfhhhebnaa
open Go.RowKit
attribute [local go_sem] Oper.semAt_some

/-- The cells of the table's rows that a step of R reads. -/
theorem rt_word {m N : Nat} {W X : List (List Nat)} {vW vP vX : Value} {w : World} (ht : RT W X w (.agg #[vW, vP, vX])) (hk : Tk m N W X) (hl : lstB W X = true) {x : Nat} (hx : x < N) (h0 : x ≠ 0) :
    ∃ g cap b off c, vW = .slice (some ⟨g, 0, none⟩) N cap ∧ w.cell? ⟨g, x, none⟩ = some (.slice (some ⟨b, off, none⟩) (lenX W x) c) ∧ w.cell? ⟨b, off + (lenX W x - 1), none⟩ = some (.int .i64 ((lastX W x : Nat) : Int)) := by
  have hxW : x < W.length := by rw [hk.lw]; exact hx
  obtain ⟨vW', vP', vX', P, e, hW, hP, hX⟩ := ht
  obtain ⟨rfl, rfl, rfl⟩ : vW = vW' ∧ vP = vP' ∧ vX = vX' := by
    injection e with e
    have := congrArg (fun a : Array Value => a.toList) e
    simpa using this
  obtain ⟨gW, capW, wa, wc, eW, hgW, hwc, hInW, hrowW⟩ := hW.cells x hxW
  have h1 := (lst_at hl hxW h0).1
  have hlW : lenX W x = (W[x]).length := by unfold lenX; rw [getDL hxW]
  obtain ⟨bW, offW, rfl, hcW⟩ := hrowW (by omega)
  have hlm : lenX W x - 1 < (W[x]).length := by omega
  refine ⟨gW, capW, bW, offW, wc, by rw [eW, hk.lw], by rw [hlW]; exact hgW, ?_⟩
  rw [hcW _ hlm]
  unfold lastX
  rw [getDL hxW, getDN hlm]
theorem rt_next {m N : Nat} {W X : List (List Nat)} {vW vP vX : Value} {w : World} (ht : RT W X w (.agg #[vW, vP, vX])) (hk : Tk m N W X) (hm : 0 < m) {u s : Nat} (hu : u < N) (hs : s < m) :
    ∃ g cap b off c, vX = .slice (some ⟨g, 0, none⟩) N cap ∧ w.cell? ⟨g, u, none⟩ = some (.slice (some ⟨b, off, none⟩) m c) ∧ w.cell? ⟨b, off + s, none⟩ = some (.int .i64 ((stepX X u s : Nat) : Int)) ∧ stepX X u s < N := by
  have huX : u < X.length := by rw [hk.lx]; exact hu
  obtain ⟨vW', vP', vX', P, e, hW, hP, hX⟩ := ht
  obtain ⟨rfl, rfl, rfl⟩ : vW = vW' ∧ vP = vP' ∧ vX = vX' := by
    injection e with e
    have := congrArg (fun a : Array Value => a.toList) e
    simpa using this
  obtain ⟨q, hr1, hr2, hr3, hr4⟩ := hk.rowAt hu
  obtain ⟨gX, capX, ya, yc, eX, hgY, hyc, hInY, hrowY⟩ := hX.cells u huX
  rw [hr1] at hgY hyc hrowY
  rw [hr3] at hgY hyc
  obtain ⟨bY, offY, rfl, hcY⟩ := hrowY (by omega)
  have hsr : s < q.length := by omega
  have hY1 : stepX X u s = q[s] := by unfold stepX; rw [hr2, getDN hsr]
  refine ⟨gX, capX, bY, offY, yc, by rw [eX, hk.lx], hgY, ?_, ?_⟩
  · rw [hcY s (by omega), hY1]
  · rw [hY1]; exact hr4 _ (List.getElem_mem hsr)
theorem rt_next2 {m N : Nat} {W X : List (List Nat)} {vW vP vX : Value} {w : World} (ht : RT W X w (.agg #[vW, vP, vX])) (hk : Tk m N W X) {u x s : Nat} (hu : u < N) (hx : x < N) (hs : s < m) :
    ∃ g cap b off c b' off' c', vX = .slice (some ⟨g, 0, none⟩) N cap ∧ w.cell? ⟨g, u, none⟩ = some (.slice (some ⟨b, off, none⟩) m c) ∧ w.cell? ⟨b, off + s, none⟩ = some (.int .i64 ((stepX X u s : Nat) : Int)) ∧
      w.cell? ⟨g, x, none⟩ = some (.slice (some ⟨b', off', none⟩) m c') ∧ w.cell? ⟨b', off' + s, none⟩ = some (.int .i64 ((stepX X x s : Nat) : Int)) ∧ stepX X u s < N ∧ stepX X x s < N := by
  obtain ⟨g, cap, b, off, c, h1, h2, h3, h4⟩ := rt_next ht hk (by omega) hu hs
  obtain ⟨g', cap', b', off', c', k1, k2, k3, k4⟩ := rt_next ht hk (by omega) hx hs
  obtain ⟨e1, _, e3⟩ := Value.slice.inj (h1.symm.trans k1)
  cases e1
  exact ⟨g, cap, b, off, c, b', off', c', h1, h2, h3, k2, k3, h4, k4⟩
theorem bel_at {w w1 : World} {a : Addr} {u : Value} (h : w.cell? a = some u) (hb : Below w.heap.size w w1) (q : BelW w1) : q.v.cell? a = some u :=
  ((hb.trans (q.h.mono hb.size)).cell (World.block_lt_of_cell? _ _ h)).trans h
theorem rlength_bel {m N : Nat} {W X : List (List Nat)} {vt : Value} {w w1 : World} (ht : RT W X w vt) (hk : Tk m N W X) (hb : Below w.heap.size w w1) {y l : Nat} (hy : y < N) (hl : lenX W y = l) (q : BelW w1) :
    Calls Try.prog 29 #[vt, .int .i64 (y : Nat)] q.v fun e w' => e = .returned (.int .i64 ((l : Nat) : Int)) ∧ Below q.v.heap.size q.v w' := by
  refine (RLength_any vt y q.v (ht.below (hb.trans (q.h.mono hb.size))) hk hy).mono ?_
  rintro e w' ⟨rfl, hb'⟩
  exact ⟨by rw [hl], hb'⟩
theorem addA (vg : Value) (g : List Int) (w : World) (hg : Ints w vg g) (lg : g.length ≤ 1000) : Calls Try.prog 73 #[.slice none 0 0, vg, .int .i64 (-1), .int .i64 0] w (PolOut (plusL [] (-1) 0 g) w) := add_any _ vg [] g (-1) 0 w (Ints.nil _) hg (by simp) lg (by omega)
theorem addB (vf vg : Value) (f g : List Int) (w : World) (hf : Ints w vf f) (hg : Ints w vg g) (lf : f.length ≤ 1000) (lg : g.length ≤ 1000) : Calls Try.prog 73 #[vf, vg, .int .i64 1, .int .i64 1] w (PolOut (plusL f 1 1 g) w) := add_any vf vg f g 1 1 w hf hg lf lg (by omega)
theorem one_pol {w : World} {B : Nat} (hB : B ≤ w.heap.size) : Fz (fun q => B ≤ q) (w.alloc (.cells #[.int .i64 1] 3)) (.slice (some ⟨w.heap.size, 0, none⟩) 1 1) [1] := by
  have h : OwnI 3 w.heap.size (w.alloc (.cells #[.int .i64 1] 3)) (.slice (some ⟨w.heap.size, 0, none⟩) 1 1) [1] := own_fresh w 3 [1] (Nat.le_refl _) (by simp [maxLen])
  exact h.fz (by simp) (fun k hk => by cases hk; exact hB)
theorem fz_up {B B' : Nat} {w : World} {v : Value} {l : List Int} (h : Fz (fun q => B ≤ q) w v l) (hB : B' ≤ B) : Fz (fun q => B' ≤ q) w v l := h.mono fun _ hq => Nat.le_trans hB hq

/-- A new polynomial that lies from block B on. -/
def PolAt (B : Nat) (l : List Int) (w : World) (e : Ending) (w' : World) : Prop := ∃ v', e = .returned v' ∧ Fz (fun q => B ≤ q) w' v' l ∧ Below w.heap.size w w'
theorem PolOut.up {B : Nat} {l : List Int} {w : World} (hB : B ≤ w.heap.size) (e : Ending) (w' : World) (h : PolOut l w e w') : PolAt B l w e w' := by
  obtain ⟨v, rfl, hf, hb⟩ := h
  exact ⟨v, rfl, fz_up hf hB, hb⟩
section
variable {w9 : World}
theorem pa_any {va : Value} {g g1 : List Int} (hf : Fz (fun _ => True) w9 va g) (lg : g.length ≤ 100) (h1 : plusL [] (-1) 0 g = g1) (w' : World) (hc : Below w9.heap.size w9 w') : Calls Try.prog 73 #[.slice none 0 0, va, .int .i64 (-1), .int .i64 0] w' (PolAt w9.heap.size g1 w') := by
  subst h1
  exact (addA va g w' (hf.kept (Sm.of_below hc)).ints (by omega)).mono (PolOut.up hc.size)
theorem pb_any {va : Value} {g g1 g2 : List Int} (hf : Fz (fun _ => True) w9 va g) (lg : g.length ≤ 100) (l1 : g1.length ≤ 300) (h2 : plusL g1 1 1 g = g2) (w' : World) (v : Value) (hc : Below w9.heap.size w9 w') (hv : Fz (fun q => w9.heap.size ≤ q) w' v g1) :
    Calls Try.prog 73 #[v, va, .int .i64 1, .int .i64 1] w' (PolAt w9.heap.size g2 w') := by
  subst h2
  exact (addB v va g1 g w' hv.ints (hf.kept (Sm.of_below hc)).ints (by omega) (by omega)).mono (PolOut.up hc.size)
theorem pc_any {h g2 g3 : List Int} (l2 : g2.length ≤ 500) (lh : h.length ≤ 100) (h3 : plusL g2 1 1 h = g3) (w' : World) (v v' : Value) (hc : Below w9.heap.size w9 w') (hv : Fz (fun q => w9.heap.size ≤ q) w' v g2) (hv' : Fz (fun q => w9.heap.size ≤ q) w' v' h) :
    Calls Try.prog 73 #[v, v', .int .i64 1, .int .i64 1] w' (PolAt w9.heap.size g3 w') := by
  subst h3
  exact (addB v v' g2 h w' hv.ints hv'.ints (by omega) (by omega)).mono (PolOut.up hc.size)
end

def LowOut (N lo : Nat) (w : World) (e : Ending) (w' : World) : Prop := ∃ g cap, e = .returned (.slice (some ⟨g, 0, none⟩) N cap) ∧ OwnB w.heap.size w' (.slice (some ⟨g, 0, none⟩) N cap) (bitL N lo) ∧ Below w.heap.size w w'
theorem wp_call_w {P : Program} {Q : Exit → Act → World → Prop} {o : Oper} {a : Act} {w w' : World} {f : FuncId} {args : Array Value} {R : Ending → World → Prop} {K : Act → World → Prop} (hr : (execOp a.eval o).run P w = .ok (.enter f args) w')
    (hc : Calls P f args w' R) (hp : ∀ e w'', R e w'' → ∃ v, e = .returned v ∧ K (a.put o.dst v) w'') : Oper.wp P o a w K Q := by
  unfold Oper.wp
  rw [hr]
  refine Calls.mono hc fun e w'' hR => ?_
  obtain ⟨v, rfl, hv⟩ := hp e w'' hR
  exact hv
def VRr3 (vW vP vX : Value) (u x lu lx N lo : Nat) (bb : Bool) : Nat → (Nat → Value) → World → Prop
  | 0, y, _ => y 15 = .agg #[vW, vP, vX]
  | 1, y, _ => y 16 = .int .i64 (u : Nat)
  | 2, y, _ => y 17 = .int .i64 (lu : Nat)
  | 3, y, _ => y 18 = .agg #[vW, vP, vX]
  | 4, y, _ => y 19 = .int .i64 (x : Nat)
  | 5, y, _ => y 20 = .int .i64 (lx : Nat)
  | 6, y, _ => y 21 = .bool false
  | 7, y, _ => y 22 = .bool false
  | 8, y, _ => y 23 = .agg #[vW, vP, vX]
  | 9, y, _ => y 24 = .int .i64 (x : Nat)
  | 10, y, w => ∃ g cap, y 25 = .slice (some ⟨g, 0, none⟩) N cap ∧ OwnB 0 w (.slice (some ⟨g, 0, none⟩) N cap) (bitL N lo)
  | 11, y, _ => y 26 = .int .i64 (u : Nat)
  | 12, y, w => ∃ g, y 27 = .pointer (some ⟨g, u, none⟩) ∧ w.cell? ⟨g, u, none⟩ = some (.bool bb)
  | 13, y, _ => y 28 = .bool bb
  | 14, y, _ => y 29 = .bool (!bb)
  | 15, y, _ => y 30 = .bool (!bb)
  | _, _, _ => True

def VRr10 (va vt : Value) (us xs B : Nat) (g1 g2 g4 g3 : List Int) : Nat → (Nat → Value) → World → Prop
  | 0, y, _ => y 73 = va
  | 1, y, w => Fz (fun q => B ≤ q) w (y 74) g1
  | 2, y, _ => y 75 = va
  | 3, y, w => Fz (fun q => B ≤ q) w (y 76) g2
  | 4, y, _ => y 77 = vt
  | 5, y, _ => y 78 = .int .i64 (us : Nat)
  | 6, y, _ => y 79 = .int .i64 (xs : Nat)
  | 7, y, w => Fz (fun q => B ≤ q) w (y 80) g4
  | 8, y, w => Fz (fun q => B ≤ q) w (y 81) g3
  | 9, y, w => Fz (fun q => B ≤ q) w (y 6) g3
  | _, _, _ => True

set_option maxRecDepth 20000 in
set_option maxHeartbeats 8000000 in
theorem RR_step {m N : Nat} {W X : List (List Nat)} {r : Nat → Nat → List Int} (hk : Tk m N W X) (hl : lstB W X = true) (hlow : ∀ i j, i < N → j < N → Nat.testBit (lowW X N (W.getD i [])) j = belG W X j i)
    (hr : ∀ u x, u < N → x < N → r u x = stepR W X (belG W X) r u x) (hlen : ∀ u x, (r u x).length ≤ 100) (hord : ∀ a b, a < N → b < N → belG W X a b = true → a ≠ b → lenX W a < lenX W b) (hrefl : ∀ a, a < N → belG W X a a = true) (h00 : lenX W 0 = 0)
    (vt : Value) (u x : Nat) (w : World) (ht : RT W X w vt) (hu : u < N) (hx : x < N)
    (ih : ∀ u' x' w', lenX W x' < lenX W x → u' < N → x' < N → RT W X w' vt → Calls Try.prog 39 #[vt, .int .i64 (u' : Nat), .int .i64 (x' : Nat)] w' (PolOut (r u' x') w')) :
    Calls Try.prog 39 #[vt, .int .i64 (u : Nat), .int .i64 (x : Nat)] w (PolOut (r u x) w) := by
  have hN := hk.small
  have HMX := Lib.hid (show Try.prog.follows .mixedOrders = true by kernel_rfl)
  have hre := hr u x hu hx
  unfold stepR at hre
  have htt := ht
  obtain ⟨vW, vP, vX, P, rfl, _, _, _⟩ := ht
  have HBX := Lib.hid (BoxI.made vW vP vX w)
  have HT := Lib.hid htt
  by_cases hux : u = x
  · have HRE := Lib.hid (show r u x = [1] by
      rw [hre, hux, if_neg (by rw [hrefl x hx]; simp), if_pos rfl])
    have he : ((u : Int) == (x : Int)) = true := by simp [hux]
    clear hre hux ih hr hord hlow
    go_enter Try.func39, Try.ntmps39
    go_wp2
    go_ret
    refine ⟨_, rfl, ?_, ((Below.refl _ _).alloc (Nat.le_refl _) _).alloc (by simp) _⟩
    rw [HRE.out]
    have := one_pol (w := w.alloc (.cells #[vW, vP, vX] 36)) (B := w.heap.size) (by simp)
    simpa using this
  · have he : ((u : Int) == (x : Int)) = false := by simp; omega
    rw [if_neg hux] at hre
    obtain ⟨lx, hlxE⟩ : ∃ lx, lenX W x = lx := ⟨_, rfl⟩
    obtain ⟨lu, hluE⟩ : ∃ lu, lenX W u = lu := ⟨_, rfl⟩
    have LX := Lib.hid (fun (w1 : World) (hb : Below w.heap.size w w1) (q : BelW w1) => rlength_bel htt hk hb hx hlxE q)
    have LU := Lib.hid (fun (w1 : World) (hb : Below w.heap.size w w1) (q : BelW w1) => rlength_bel htt hk hb hu hluE q)
    have LXC := Lib.hid (fun (w1 : World) (hb : Below w.heap.size w w1) => show Calls Try.prog 29 #[.agg #[vW, vP, vX], .int .i64 (x : Nat)] w1 fun e w' => e = .returned (.int .i64 ((lx : Nat) : Int)) ∧ Below w1.heap.size w1 w' from by rw [← hlxE]; exact RLength_any _ x w1 (htt.below hb) hk hx)
    have LUC := Lib.hid (fun (w1 : World) (hb : Below w.heap.size w w1) => show Calls Try.prog 29 #[.agg #[vW, vP, vX], .int .i64 (u : Nat)] w1 fun e w' => e = .returned (.int .i64 ((lu : Nat) : Int)) ∧ Below w1.heap.size w1 w' from by rw [← hluE]; exact RLength_any _ u w1 (htt.below hb) hk hu)
    have hq0 := HBX.out.hh.at (i := 0) rfl
    have hq1 := HBX.out.hh.at (i := 1) rfl
    have hq2 := HBX.out.hh.at (i := 2) rfl
    by_cases hll : lu < lx
    · have hli : ¬ (lx : Int) ≤ (lu : Int) := by omega
      have hld : decide ((lx : Int) ≤ (lu : Int)) = false := decide_eq_false hli
      have hld2 : decide (lx ≤ lu) = false := decide_eq_false (by omega)
      have hui : (u : Int) < (N : Int) := by omega
      have LOW := Lib.hid (fun (w1 : World) (hb : Below w.heap.size w w1) => RLower_any (.agg #[vW, vP, vX]) x w1 (htt.below hb) hk hx)
      have HBL := Lib.hid (hlow x u hx hu)
      obtain ⟨lo, hlo⟩ : ∃ lo, lowW X N (W.getD x []) = lo := ⟨_, rfl⟩
      rw [hlo] at LOW HBL
      obtain ⟨bb, hbb⟩ : ∃ bb, belG W X u x = bb := ⟨_, rfl⟩
      rw [hbb] at HBL hre
      have HUN := Lib.hid hu
      have h0 : x ≠ 0 := by
        intro e
        subst e
        rw [h00] at hlxE
        omega
      have hxW : x < W.length := by rw [hk.lw]; exact hx
      have hl2 := lst_at hl hxW h0
      have hsm := lastX_m hk hl hx h0
      obtain ⟨gW, capW, bW, offW, cW, eW, cwx, cwl⟩ := rt_word htt hk hl hx h0
      obtain ⟨gX, capX, bu, ofu, cu, bx, ofx, cx, eX, cu1, cu2, cx1, cx2, husN, hxsN⟩ := rt_next2 htt hk hu hx hsm
      obtain ⟨s, hs⟩ : ∃ s, lastX W x = s := ⟨_, rfl⟩
      rw [hs] at hl2 hsm cwl cu2 cx2 husN hxsN hre
      obtain ⟨us, hus⟩ : ∃ us, stepX X u s = us := ⟨_, rfl⟩
      obtain ⟨xs, hxs⟩ : ∃ xs, stepX X x s = xs := ⟨_, rfl⟩
      rw [hus] at cu2 husN hre
      rw [hxs] at cx2 hxsN hre hl2
      have hl12 : lenX W x ≤ 12 := by unfold lenX; rw [getDL hxW]; exact hk.short _ (List.getElem_mem hxW)
      have hlxs := hl2.2
      have hl0 := hl2.1
      obtain ⟨lus, hlusE⟩ : ∃ lus, lenX W us = lus := ⟨_, rfl⟩
      rw [hluE, hlusE] at hre
      have LUS := Lib.hid (fun (w1 : World) (hb : Below w.heap.size w w1) (q : BelW w1) => rlength_bel htt hk hb husN hlusE q)
      have IHA := Lib.hid (fun (w' : World) (hb : Below w.heap.size w w') => ih us xs w' hlxs husN hxsN (htt.below hb))
      have IHB := Lib.hid (fun (w' : World) (hb : Below w.heap.size w w') => ih u xs w' hlxs hu hxsN (htt.below hb))
      rw [hlxE] at cwx cwl hl12 hl0
      have C2 := Lib.hid (fun (w1 : World) (hb : Below w.heap.size w w1) (q : BelW w1) => bel_at cwx hb q)
      have C3 := Lib.hid (fun (w1 : World) (hb : Below w.heap.size w w1) (q : BelW w1) => bel_at cwl hb q)
      have D1 := Lib.hid (fun (w1 : World) (hb : Below w.heap.size w w1) (q : BelW w1) => bel_at cu1 hb q)
      have D2 := Lib.hid (fun (w1 : World) (hb : Below w.heap.size w w1) (q : BelW w1) => bel_at cu2 hb q)
      have D3 := Lib.hid (fun (w1 : World) (hb : Below w.heap.size w w1) (q : BelW w1) => bel_at cx1 hb q)
      have D4 := Lib.hid (fun (w1 : World) (hb : Below w.heap.size w w1) (q : BelW w1) => bel_at cx2 hb q)
      have HEW := Lib.hid eW
      have HEX := Lib.hid eX
      have HLEN := Lib.hid hlen
      have hwl : IntKind.i64.wrap ((lx : Int) - 1) = ((lx - 1 : Nat) : Int) := by rw [IntWalk.i64_in _ (by omega)]; omega
      have hlk : ((lx - 1 : Nat) : Int) < (lx : Int) := by omega
      have hxi : (x : Int) < (N : Int) := by omega
      have hsi : (s : Int) < (m : Int) := by omega
      clear cwx cwl cu1 cu2 cx1 cx2 eW eX hs hus hxs hlusE hl2 hlxs husN hxsN hlen h0 hxW hsm h00 hrefl hord hlow hr hl
      have HBE := Lib.hid hbb
      have HRE := Lib.hid hre
      have HLL := Lib.hid hll
      clear hu hx hk hlxE hluE htt ih hux
      clear hre hlo hbb hll
      go_enter Try.func39, Try.ntmps39
      go_upto_region 3 with (fail)
      obtain ⟨w1, hw1⟩ : ∃ w1, w.alloc (.cells #[vW, vP, vX] 36) = w1 := ⟨_, rfl⟩
      rw [hw1] at HBX hq0 hq1 hq2 ⊢
      clear hw1
      refine wp_region_flow (by kernel_rfl) [15, 16, 17, 18, 19, 20, 21, 22, 23, 24, 25, 26, 27, 28, 29, 30] (by kernel_rfl) (by kernel_rfl) (by kernel_rfl) ExtB ExtB.refl (fun _ _ _ => ExtB.trans) (VRr3 vW vP vX u x lu lx N lo bb) ?_ ?_ ?_ ?_
      · intro j y wa wb hx hv
        match j, hv with
        | 0, hv => exact hv
        | 1, hv => exact hv
        | 2, hv => exact hv
        | 3, hv => exact hv
        | 4, hv => exact hv
        | 5, hv => exact hv
        | 6, hv => exact hv
        | 7, hv => exact hv
        | 8, hv => exact hv
        | 9, hv => exact hv
        | 10, hv =>
          have hv' : VRr3 vW vP vX u x lu lx N lo bb 10 y wa := hv
          obtain ⟨g, cap, e, ho⟩ := hv'
          exact ⟨g, cap, e, ho.below hx⟩
        | 11, hv => exact hv
        | 12, hv =>
          have hv' : VRr3 vW vP vX u x lu lx N lo bb 12 y wa := hv
          obtain ⟨g, e, hc⟩ := hv'
          exact ⟨g, e, (hx.cell (p := ⟨g, u, none⟩) (World.block_lt_of_cell? _ _ hc)).trans hc⟩
        | 13, hv => exact hv
        | 14, hv => exact hv
        | 15, hv => exact hv
        | _ + 16, _ => trivial
      · intro j y y' wx hj h hv
        match j, hj, h, hv with
        | 0, _, h, hv =>
          have e15 : y 15 = y' 15 := h 0 15 (.inr rfl) (by kernel_rfl)
          have hv' : VRr3 vW vP vX u x lu lx N lo bb 0 y wx := hv
          simp only [VRr3] at hv' ⊢
          rw [← e15]
          exact hv'
        | 1, _, h, hv =>
          have e16 : y 16 = y' 16 := h 1 16 (.inr rfl) (by kernel_rfl)
          have hv' : VRr3 vW vP vX u x lu lx N lo bb 1 y wx := hv
          simp only [VRr3] at hv' ⊢
          rw [← e16]
          exact hv'
        | 2, _, h, hv =>
          have e17 : y 17 = y' 17 := h 2 17 (.inr rfl) (by kernel_rfl)
          have hv' : VRr3 vW vP vX u x lu lx N lo bb 2 y wx := hv
          simp only [VRr3] at hv' ⊢
          rw [← e17]
          exact hv'
        | 3, _, h, hv =>
          have e18 : y 18 = y' 18 := h 3 18 (.inr rfl) (by kernel_rfl)
          have hv' : VRr3 vW vP vX u x lu lx N lo bb 3 y wx := hv
          simp only [VRr3] at hv' ⊢
          rw [← e18]
          exact hv'
        | 4, _, h, hv =>
          have e19 : y 19 = y' 19 := h 4 19 (.inr rfl) (by kernel_rfl)
          have hv' : VRr3 vW vP vX u x lu lx N lo bb 4 y wx := hv
          simp only [VRr3] at hv' ⊢
          rw [← e19]
          exact hv'
        | 5, _, h, hv =>
          have e20 : y 20 = y' 20 := h 5 20 (.inr rfl) (by kernel_rfl)
          have hv' : VRr3 vW vP vX u x lu lx N lo bb 5 y wx := hv
          simp only [VRr3] at hv' ⊢
          rw [← e20]
          exact hv'
        | 6, _, h, hv =>
          have e21 : y 21 = y' 21 := h 6 21 (.inr rfl) (by kernel_rfl)
          have hv' : VRr3 vW vP vX u x lu lx N lo bb 6 y wx := hv
          simp only [VRr3] at hv' ⊢
          rw [← e21]
          exact hv'
        | 7, _, h, hv =>
          have e22 : y 22 = y' 22 := h 7 22 (.inr rfl) (by kernel_rfl)
          have hv' : VRr3 vW vP vX u x lu lx N lo bb 7 y wx := hv
          simp only [VRr3] at hv' ⊢
          rw [← e22]
          exact hv'
        | 8, _, h, hv =>
          have e23 : y 23 = y' 23 := h 8 23 (.inr rfl) (by kernel_rfl)
          have hv' : VRr3 vW vP vX u x lu lx N lo bb 8 y wx := hv
          simp only [VRr3] at hv' ⊢
          rw [← e23]
          exact hv'
        | 9, _, h, hv =>
          have e24 : y 24 = y' 24 := h 9 24 (.inr rfl) (by kernel_rfl)
          have hv' : VRr3 vW vP vX u x lu lx N lo bb 9 y wx := hv
          simp only [VRr3] at hv' ⊢
          rw [← e24]
          exact hv'
        | 10, _, h, hv =>
          have e25 : y 25 = y' 25 := h 10 25 (.inr rfl) (by kernel_rfl)
          have hv' : VRr3 vW vP vX u x lu lx N lo bb 10 y wx := hv
          simp only [VRr3] at hv' ⊢
          rw [← e25]
          exact hv'
        | 11, _, h, hv =>
          have e26 : y 26 = y' 26 := h 11 26 (.inr rfl) (by kernel_rfl)
          have hv' : VRr3 vW vP vX u x lu lx N lo bb 11 y wx := hv
          simp only [VRr3] at hv' ⊢
          rw [← e26]
          exact hv'
        | 12, _, h, hv =>
          have e27 : y 27 = y' 27 := h 12 27 (.inr rfl) (by kernel_rfl)
          have hv' : VRr3 vW vP vX u x lu lx N lo bb 12 y wx := hv
          simp only [VRr3] at hv' ⊢
          rw [← e27]
          exact hv'
        | 13, _, h, hv =>
          have e28 : y 28 = y' 28 := h 13 28 (.inr rfl) (by kernel_rfl)
          have hv' : VRr3 vW vP vX u x lu lx N lo bb 13 y wx := hv
          simp only [VRr3] at hv' ⊢
          rw [← e28]
          exact hv'
        | 14, _, h, hv =>
          have e29 : y 29 = y' 29 := h 14 29 (.inr rfl) (by kernel_rfl)
          have hv' : VRr3 vW vP vX u x lu lx N lo bb 14 y wx := hv
          simp only [VRr3] at hv' ⊢
          rw [← e29]
          exact hv'
        | 15, _, h, hv =>
          have e30 : y 30 = y' 30 := h 15 30 (.inr rfl) (by kernel_rfl)
          have hv' : VRr3 vW vP vX u x lu lx N lo bb 15 y wx := hv
          simp only [VRr3] at hv' ⊢
          rw [← e30]
          exact hv'
        | j + 16, hj, _, _ => exact absurd hj (by simp)
      · intro i o ho y wx hx hd hini
        match i, ho with
        | 0, ho =>
          obtain rfl := Option.some.inj ho
          have hbq := (HBX.out.below (((Below.refl _ _).drew).trans hx)).hh
          have c0 := hbq.at (i := 0) rfl
          have c1 := hbq.at (i := 1) rfl
          have c2 := hbq.at (i := 2) rfl
          refine rstep_value rfl (v := .agg #[vW, vP, vX]) (w' := wx) ?_ ⟨ExtB.refl _, rfl⟩
          · simp only [hole, List.foldl_cons, List.foldl_nil, List.setIfInBounds_toArray, List.set_cons_zero, List.set_cons_succ]
            go_simp
        | 1, ho =>
          obtain rfl := Option.some.inj ho
          refine rstep_value rfl (v := .int .i64 (u : Nat)) (w' := wx) ?_ ⟨ExtB.refl _, rfl⟩
          · simp only [hole, List.foldl_cons, List.foldl_nil, List.setIfInBounds_toArray, List.set_cons_zero, List.set_cons_succ]
            go_simp
        | 2, ho =>
          obtain rfl := Option.some.inj ho
          have e15 : y 15 = .agg #[vW, vP, vX] := hd 0 (by kernel_rfl) (by decide)
          have e16 : y 16 = .int .i64 (u : Nat) := hd 1 (by kernel_rfl) (by decide)
          refine rstep_call rfl (f := 29) (args := #[.agg #[vW, vP, vX], .int .i64 (u : Nat)]) (w' := wx) ?_ (LUC.out wx (HBX.out.hb.trans ((((Below.refl _ _).drew).trans hx).mono HBX.out.hb.size))) ?_
          · simp only [hole, List.foldl_cons, List.foldl_nil, List.setIfInBounds_toArray, List.set_cons_zero, List.set_cons_succ]
            go_simp
          · rintro e w'' ⟨rfl, hb⟩
            exact ⟨_, rfl, hb, rfl⟩
        | 3, ho =>
          obtain rfl := Option.some.inj ho
          have hbq := (HBX.out.below (((Below.refl _ _).drew).trans hx)).hh
          have c0 := hbq.at (i := 0) rfl
          have c1 := hbq.at (i := 1) rfl
          have c2 := hbq.at (i := 2) rfl
          refine rstep_value rfl (v := .agg #[vW, vP, vX]) (w' := wx) ?_ ⟨ExtB.refl _, rfl⟩
          · simp only [hole, List.foldl_cons, List.foldl_nil, List.setIfInBounds_toArray, List.set_cons_zero, List.set_cons_succ]
            go_simp
        | 4, ho =>
          obtain rfl := Option.some.inj ho
          refine rstep_value rfl (v := .int .i64 (x : Nat)) (w' := wx) ?_ ⟨ExtB.refl _, rfl⟩
          · simp only [hole, List.foldl_cons, List.foldl_nil, List.setIfInBounds_toArray, List.set_cons_zero, List.set_cons_succ]
            go_simp
        | 5, ho =>
          obtain rfl := Option.some.inj ho
          have e18 : y 18 = .agg #[vW, vP, vX] := hd 3 (by kernel_rfl) (by decide)
          have e19 : y 19 = .int .i64 (x : Nat) := hd 4 (by kernel_rfl) (by decide)
          refine rstep_call rfl (f := 29) (args := #[.agg #[vW, vP, vX], .int .i64 (x : Nat)]) (w' := wx) ?_ (LXC.out wx (HBX.out.hb.trans ((((Below.refl _ _).drew).trans hx).mono HBX.out.hb.size))) ?_
          · simp only [hole, List.foldl_cons, List.foldl_nil, List.setIfInBounds_toArray, List.set_cons_zero, List.set_cons_succ]
            go_simp
          · rintro e w'' ⟨rfl, hb⟩
            exact ⟨_, rfl, hb, rfl⟩
        | 6, ho =>
          obtain rfl := Option.some.inj ho
          have e17 : y 17 = .int .i64 (lu : Nat) := hd 2 (by kernel_rfl) (by decide)
          have e20 : y 20 = .int .i64 (lx : Nat) := hd 5 (by kernel_rfl) (by decide)
          refine rstep_value rfl (v := .bool false) (w' := wx) ?_ ⟨ExtB.refl _, rfl⟩
          · simp only [hole, List.foldl_cons, List.foldl_nil, List.setIfInBounds_toArray, List.set_cons_zero, List.set_cons_succ]
            go_simp
        | 7, ho =>
          obtain rfl := Option.some.inj ho
          have e21 : y 21 = .bool false := hd 6 (by kernel_rfl) (by decide)
          refine rstep_value rfl (v := .bool false) (w' := wx) ?_ ⟨ExtB.refl _, rfl⟩
          · simp only [hole, List.foldl_cons, List.foldl_nil, List.setIfInBounds_toArray, List.set_cons_zero, List.set_cons_succ]
            go_simp
        | 8, ho =>
          obtain rfl := Option.some.inj ho
          have e22 : y 22 = .bool false := hd 7 (by kernel_rfl) (by decide)
          have hbq := (HBX.out.below (((Below.refl _ _).drew).trans hx)).hh
          have c0 := hbq.at (i := 0) rfl
          have c1 := hbq.at (i := 1) rfl
          have c2 := hbq.at (i := 2) rfl
          refine rstep_value_w (v := .agg #[vW, vP, vX]) (w' := wx) ?_ ?_ ?_
          · simp only [hole, List.foldl_cons, List.foldl_nil, List.setIfInBounds_toArray, List.set_cons_zero, List.set_cons_succ, e22]
            rfl
          · simp only [hole, List.foldl_cons, List.foldl_nil, List.setIfInBounds_toArray, List.set_cons_zero, List.set_cons_succ]
            go_simp
          · exact ⟨ExtB.refl _, rfl⟩
        | 9, ho =>
          obtain rfl := Option.some.inj ho
          have e22 : y 22 = .bool false := hd 7 (by kernel_rfl) (by decide)
          refine rstep_value_w (v := .int .i64 (x : Nat)) (w' := wx) ?_ ?_ ?_
          · simp only [hole, List.foldl_cons, List.foldl_nil, List.setIfInBounds_toArray, List.set_cons_zero, List.set_cons_succ, e22]
            rfl
          · simp only [hole, List.foldl_cons, List.foldl_nil, List.setIfInBounds_toArray, List.set_cons_zero, List.set_cons_succ]
            go_simp
          · exact ⟨ExtB.refl _, rfl⟩
        | 10, ho =>
          obtain rfl := Option.some.inj ho
          have e22 : y 22 = .bool false := hd 7 (by kernel_rfl) (by decide)
          have e23 : y 23 = .agg #[vW, vP, vX] := hd 8 (by kernel_rfl) (by decide)
          have e24 : y 24 = .int .i64 (x : Nat) := hd 9 (by kernel_rfl) (by decide)
          intro K hK
          rw [if_pos (by simp only [hole, List.foldl_cons, List.foldl_nil, List.setIfInBounds_toArray, List.set_cons_zero, List.set_cons_succ, e22]; rfl)]
          refine .inl ?_
          refine wp_call_w (f := 58) (args := #[.agg #[vW, vP, vX], .int .i64 (x : Nat)]) (w' := wx) (R := LowOut N lo wx) ?_ ?_ ?_
          · simp only [hole, List.foldl_cons, List.foldl_nil, List.setIfInBounds_toArray, List.set_cons_zero, List.set_cons_succ]
            go_simp
          · exact LOW.out wx (HBX.out.hb.trans ((((Below.refl _ _).drew).trans hx).mono HBX.out.hb.size))
          · rintro e w'' ⟨g, cap, rfl, ho, hb⟩
            exact ⟨_, rfl, hK _ _ ⟨hb, g, cap, rfl, ho.mono (Nat.zero_le _)⟩⟩
        | 11, ho =>
          obtain rfl := Option.some.inj ho
          have e22 : y 22 = .bool false := hd 7 (by kernel_rfl) (by decide)
          refine rstep_value_w (v := .int .i64 (u : Nat)) (w' := wx) ?_ ?_ ?_
          · simp only [hole, List.foldl_cons, List.foldl_nil, List.setIfInBounds_toArray, List.set_cons_zero, List.set_cons_succ, e22]
            rfl
          · simp only [hole, List.foldl_cons, List.foldl_nil, List.setIfInBounds_toArray, List.set_cons_zero, List.set_cons_succ]
            go_simp
          · exact ⟨ExtB.refl _, rfl⟩
        | 12, ho =>
          obtain rfl := Option.some.inj ho
          have e22 : y 22 = .bool false := hd 7 (by kernel_rfl) (by decide)
          have v10 : ∃ g cap, y 25 = .slice (some ⟨g, 0, none⟩) N cap ∧ OwnB 0 wx (.slice (some ⟨g, 0, none⟩) N cap) (bitL N lo) := hd 10 (by kernel_rfl) (by decide)
          have e26 : y 26 = .int .i64 (u : Nat) := hd 11 (by kernel_rfl) (by decide)
          obtain ⟨g, cap, e25, ho25⟩ := v10
          refine rstep_value_w (v := .pointer (some ⟨g, u, none⟩)) (w' := wx) ?_ ?_ ?_
          · simp only [hole, List.foldl_cons, List.foldl_nil, List.setIfInBounds_toArray, List.set_cons_zero, List.set_cons_succ, e22]
            rfl
          · simp only [hole, List.foldl_cons, List.foldl_nil, List.setIfInBounds_toArray, List.set_cons_zero, List.set_cons_succ]
            go_simp
          · exact ⟨ExtB.refl _, g, rfl, by rw [ho25.cell u (by rw [bitL_len]; exact HUN.out), bitL_get, HBL.out]⟩
        | 13, ho =>
          obtain rfl := Option.some.inj ho
          have e22 : y 22 = .bool false := hd 7 (by kernel_rfl) (by decide)
          have v12 : ∃ g, y 27 = .pointer (some ⟨g, u, none⟩) ∧ wx.cell? ⟨g, u, none⟩ = some (.bool bb) := hd 12 (by kernel_rfl) (by decide)
          obtain ⟨g, e27, hc⟩ := v12
          refine rstep_value_w (v := .bool bb) (w' := wx) ?_ ?_ ?_
          · simp only [hole, List.foldl_cons, List.foldl_nil, List.setIfInBounds_toArray, List.set_cons_zero, List.set_cons_succ, e22]
            rfl
          · simp only [hole, List.foldl_cons, List.foldl_nil, List.setIfInBounds_toArray, List.set_cons_zero, List.set_cons_succ]
            go_simp
          · exact ⟨ExtB.refl _, rfl⟩
        | 14, ho =>
          obtain rfl := Option.some.inj ho
          have e22 : y 22 = .bool false := hd 7 (by kernel_rfl) (by decide)
          have e28 : y 28 = .bool bb := hd 13 (by kernel_rfl) (by decide)
          refine rstep_value_w (v := .bool (!bb)) (w' := wx) ?_ ?_ ?_
          · simp only [hole, List.foldl_cons, List.foldl_nil, List.setIfInBounds_toArray, List.set_cons_zero, List.set_cons_succ, e22]
            rfl
          · simp only [hole, List.foldl_cons, List.foldl_nil, List.setIfInBounds_toArray, List.set_cons_zero, List.set_cons_succ]
            go_simp
          · exact ⟨ExtB.refl _, rfl⟩
        | 15, ho =>
          obtain rfl := Option.some.inj ho
          have e22 : y 22 = .bool false := hd 7 (by kernel_rfl) (by decide)
          have e29 : y 29 = .bool (!bb) := hd 14 (by kernel_rfl) (by decide)
          refine rstep_value rfl (v := .bool (!bb)) (w' := wx) ?_ ⟨ExtB.refl _, rfl⟩
          · simp only [hole, List.foldl_cons, List.foldl_nil, List.setIfInBounds_toArray, List.set_cons_zero, List.set_cons_succ]
            go_simp
        | _ + 16, ho => exact absurd ho (by simp)
      · intro y wx hx hd
        have e15 : y 15 = .agg #[vW, vP, vX] := hd 0 (by decide)
        have e16 : y 16 = .int .i64 (u : Nat) := hd 1 (by decide)
        have e17 : y 17 = .int .i64 (lu : Nat) := hd 2 (by decide)
        have e18 : y 18 = .agg #[vW, vP, vX] := hd 3 (by decide)
        have e19 : y 19 = .int .i64 (x : Nat) := hd 4 (by decide)
        have e20 : y 20 = .int .i64 (lx : Nat) := hd 5 (by decide)
        have e21 : y 21 = .bool false := hd 6 (by decide)
        have e22 : y 22 = .bool false := hd 7 (by decide)
        have e23 : y 23 = .agg #[vW, vP, vX] := hd 8 (by decide)
        have e24 : y 24 = .int .i64 (x : Nat) := hd 9 (by decide)
        have v10 : ∃ g cap, y 25 = .slice (some ⟨g, 0, none⟩) N cap ∧ OwnB 0 wx (.slice (some ⟨g, 0, none⟩) N cap) (bitL N lo) := hd 10 (by decide)
        have e26 : y 26 = .int .i64 (u : Nat) := hd 11 (by decide)
        have v12 : ∃ g, y 27 = .pointer (some ⟨g, u, none⟩) ∧ wx.cell? ⟨g, u, none⟩ = some (.bool bb) := hd 12 (by decide)
        have e28 : y 28 = .bool bb := hd 13 (by decide)
        have e29 : y 29 = .bool (!bb) := hd 14 (by decide)
        have e30 : y 30 = .bool (!bb) := hd 15 (by decide)
        clear hd
        simp only [hole, List.foldl_cons, List.foldl_nil, List.setIfInBounds_toArray, List.set_cons_zero, List.set_cons_succ, e30]
        clear e15 e16 e17 e18 e19 e20 e21 e22 e23 e24 e26 e28 e29 e30 v10 v12
        have HBD := Lib.hid (((Below.refl w1.heap.size w1).drew).trans hx)
        clear hx
        cases bb with
        | false =>
          have HRX := Lib.hid (show r u x = [] by rw [HRE.out]; rfl)
          go_wp2
          go_ret
          exact ⟨_, rfl, by rw [HRX.out]; exact fz_nilP _ _, HBX.out.hb.trans (HBD.out.mono HBX.out.hb.size)⟩
        | true =>
          have hre := HRE.out
          rw [if_neg (by simp)] at hre
          have HRX0 := Lib.hid hre
          clear hre HRE
          obtain rfl := HEW.out
          obtain rfl := HEX.out
          have HB1 := Lib.hid (HBX.out.below HBD.out)
          clear HEW HEX hq0 hq1 hq2 HBD
          go_upto_region 5 with (fail)
          have BQ := Lib.hid (fun (wa : World) (hb : BoxI w.heap.size (.slice (some ⟨gW, 0, none⟩) N capW) vP (.slice (some ⟨gX, 0, none⟩) N capX) w wa) (q : BelW wa) => (hb.below q.h).hh)
          have Q0 := Lib.hid (fun (wa : World) (hb : BoxI w.heap.size (.slice (some ⟨gW, 0, none⟩) N capW) vP (.slice (some ⟨gX, 0, none⟩) N capX) w wa) (q : BelW wa) => (BQ.out wa hb q).at (i := 0) rfl)
          have Q1 := Lib.hid (fun (wa : World) (hb : BoxI w.heap.size (.slice (some ⟨gW, 0, none⟩) N capW) vP (.slice (some ⟨gX, 0, none⟩) N capX) w wa) (q : BelW wa) => (BQ.out wa hb q).at (i := 1) rfl)
          have Q2 := Lib.hid (fun (wa : World) (hb : BoxI w.heap.size (.slice (some ⟨gW, 0, none⟩) N capW) vP (.slice (some ⟨gX, 0, none⟩) N capX) w wa) (q : BelW wa) => (BQ.out wa hb q).at (i := 2) rfl)
          have q0 := Q0.out wx HB1.out
          have q1 := Q1.out wx HB1.out
          have q2 := Q2.out wx HB1.out
          have q3 := C2.out wx HB1.out.hb
          have q4 := C3.out wx HB1.out.hb
          have LX1 := Lib.hid (LX.out wx HB1.out.hb)
          refine wp_region_bel HMX.out (by kernel_rfl) ?_
          repeat (first
            | go_big_quiet_step ((go_at_call 29; (with_reducible refine Calls.bel_of (LX1.out _))))
            | quiet_step ((go_at_call 29; (with_reducible refine Calls.bel_of (LX1.out _)))))
          refine wpQuiet_nil ?_
          intro w2 hw'
          have HB2 := Lib.hid (HB1.out.below (BelW.of hw'))
          clear hw' q0 q1 q2 q3 q4 LX1
          go_upto_region 6 with (fail)
          have q2 := Q2.out w2 HB2.out
          have q3 := D1.out w2 HB2.out.hb
          have q4 := D2.out w2 HB2.out.hb
          have q5 := D3.out w2 HB2.out.hb
          have q6 := D4.out w2 HB2.out.hb
          refine wp_region_bel HMX.out (by kernel_rfl) ?_
          repeat (first | go_big_quiet_step (fail) | quiet_step (fail))
          refine wpQuiet_nil ?_
          intro w3 hw'
          have HB3 := Lib.hid (HB2.out.below (BelW.of hw'))
          clear hw' q2 q3 q4 q5 q6
          go_upto_region 7 with (fail)
          have q0 := Q0.out w3 HB3.out
          have q1 := Q1.out w3 HB3.out
          have q2 := Q2.out w3 HB3.out
          have LU3 := Lib.hid (LU.out w3 HB3.out.hb)
          have LS3 := Lib.hid (LUS.out w3 HB3.out.hb)
          refine wp_region_bel HMX.out (by kernel_rfl) ?_
          repeat (first
            | go_big_quiet_step (first | (go_at_call 29; (with_reducible refine Calls.bel_of (LS3.out _))) | (go_at_call 29; (with_reducible refine Calls.bel_of (LU3.out _))))
            | quiet_step (first | (go_at_call 29; (with_reducible refine Calls.bel_of (LS3.out _))) | (go_at_call 29; (with_reducible refine Calls.bel_of (LU3.out _)))))
          refine wpQuiet_nil ?_
          intro w4 hw'
          have HB4 := Lib.hid (HB3.out.below (BelW.of hw'))
          clear hw' q0 q1 q2 LU3 LS3
          have q0 := HB4.out.hh.at (i := 0) rfl
          have q1 := HB4.out.hh.at (i := 1) rfl
          have q2 := HB4.out.hh.at (i := 2) rfl
          by_cases hlt : lus < lu
          · have hli2 : (lus : Int) < (lu : Int) := by omega
            have HRX := Lib.hid (show r u x = r us xs by rw [HRX0.out, if_pos hlt])
            clear hlt
            go_wp2_with (go_at_call 39; refine (IHA.out _ HB4.out.hb).mono ?_; rintro e w5 ⟨v5, rfl, hf5, hb5⟩)
            go_ret
            exact ⟨_, rfl, by rw [HRX.out]; exact fz_up hf5 HB4.out.hb.size, HB4.out.hb.trans (hb5.mono HB4.out.hb.size)⟩
          · have hli2 : ¬ (lus : Int) < (lu : Int) := by omega
            have HRX := Lib.hid (show r u x = plusL (plusL (plusL [] (-1) 0 (r u xs)) 1 1 (r u xs)) 1 1 (r us xs) by rw [HRX0.out, if_neg hlt, plus_swap])
            clear hlt HRX0
            go_upto_region 10 with (go_at_call 39; refine (IHB.out _ HB4.out.hb).mono ?_; rintro e w9 ⟨v9, rfl, hf9, hb9⟩)
            have HB9 := Lib.hid (HB4.out.below hb9)
            obtain ⟨g, hg⟩ : ∃ g, r u xs = g := ⟨_, rfl⟩
            obtain ⟨g4, hh⟩ : ∃ g4, r us xs = g4 := ⟨_, rfl⟩
            rw [hg] at hf9 HRX
            rw [hh] at HRX IHA
            have lg : g.length ≤ 100 := by rw [← hg]; exact HLEN.out u xs
            have lh : g4.length ≤ 100 := by rw [← hh]; exact HLEN.out us xs
            obtain ⟨g1, hg1⟩ : ∃ g1, plusL [] (-1) 0 g = g1 := ⟨_, rfl⟩
            obtain ⟨g2, hg2⟩ : ∃ g2, plusL g1 1 1 g = g2 := ⟨_, rfl⟩
            have lg1 : g1.length ≤ 300 := by rw [← hg1]; exact plusL_len _ _ _ _ (by simp) (by omega)
            have lg2 : g2.length ≤ 500 := by rw [← hg2]; exact plusL_len _ _ _ _ (by omega) (by omega)
            rw [hg1, hg2] at HRX
            have hf9' := hf9.mono (S' := fun _ => True) (fun _ _ => trivial)
            obtain ⟨g3, hg3⟩ : ∃ g3, r u x = g3 := ⟨_, rfl⟩
            have HG3 := Lib.hid hg3
            rw [hg3] at HRX
            have PA := Lib.hid (pa_any hf9' lg hg1)
            have PB := Lib.hid (pb_any hf9' lg lg1 hg2)
            have PC := Lib.hid (pc_any (w9 := w9) lg2 lh HRX.out.symm)
            have PR := Lib.hid (fun (w' : World) (hc : Below w9.heap.size w9 w') => (IHA.out w' (HB9.out.hb.trans (hc.mono HB9.out.hb.size))).mono (PolOut.up hc.size))
            clear hf9 hf9' hg hh hg1 hg2 hg3 lg lh lg1 lg2 hb9 q0 q1 q2
            refine wp_region_flow (by kernel_rfl) [6, 73, 74, 75, 76, 77, 78, 79, 80, 81] (by kernel_rfl) (by kernel_rfl) (by kernel_rfl) ExtB ExtB.refl (fun _ _ _ => ExtB.trans) (VRr10 v9 (.agg #[.slice (some ⟨gW, 0, none⟩) N capW, vP, .slice (some ⟨gX, 0, none⟩) N capX]) us xs w9.heap.size g1 g2 g4 g3) ?_ ?_ ?_ ?_
            · intro j y wa wb hx hv
              match j, hv with
              | 0, hv => exact hv
              | 1, hv =>
                have hv' : VRr10 v9 (.agg #[.slice (some ⟨gW, 0, none⟩) N capW, vP, .slice (some ⟨gX, 0, none⟩) N capX]) us xs w9.heap.size g1 g2 g4 g3 1 y wa := hv
                exact hv'.kept (Sm.of_below hx)
              | 2, hv => exact hv
              | 3, hv =>
                have hv' : VRr10 v9 (.agg #[.slice (some ⟨gW, 0, none⟩) N capW, vP, .slice (some ⟨gX, 0, none⟩) N capX]) us xs w9.heap.size g1 g2 g4 g3 3 y wa := hv
                exact hv'.kept (Sm.of_below hx)
              | 4, hv => exact hv
              | 5, hv => exact hv
              | 6, hv => exact hv
              | 7, hv =>
                have hv' : VRr10 v9 (.agg #[.slice (some ⟨gW, 0, none⟩) N capW, vP, .slice (some ⟨gX, 0, none⟩) N capX]) us xs w9.heap.size g1 g2 g4 g3 7 y wa := hv
                exact hv'.kept (Sm.of_below hx)
              | 8, hv =>
                have hv' : VRr10 v9 (.agg #[.slice (some ⟨gW, 0, none⟩) N capW, vP, .slice (some ⟨gX, 0, none⟩) N capX]) us xs w9.heap.size g1 g2 g4 g3 8 y wa := hv
                exact hv'.kept (Sm.of_below hx)
              | 9, hv =>
                have hv' : VRr10 v9 (.agg #[.slice (some ⟨gW, 0, none⟩) N capW, vP, .slice (some ⟨gX, 0, none⟩) N capX]) us xs w9.heap.size g1 g2 g4 g3 9 y wa := hv
                exact hv'.kept (Sm.of_below hx)
              | _ + 10, _ => trivial
            · intro j y y' wx hj h hv
              match j, hj, h, hv with
              | 0, _, h, hv =>
                have e73 : y 73 = y' 73 := h 0 73 (.inr rfl) (by kernel_rfl)
                have hv' : VRr10 v9 (.agg #[.slice (some ⟨gW, 0, none⟩) N capW, vP, .slice (some ⟨gX, 0, none⟩) N capX]) us xs w9.heap.size g1 g2 g4 g3 0 y wx := hv
                simp only [VRr10] at hv' ⊢
                rw [← e73]
                exact hv'
              | 1, _, h, hv =>
                have e74 : y 74 = y' 74 := h 1 74 (.inr rfl) (by kernel_rfl)
                have hv' : VRr10 v9 (.agg #[.slice (some ⟨gW, 0, none⟩) N capW, vP, .slice (some ⟨gX, 0, none⟩) N capX]) us xs w9.heap.size g1 g2 g4 g3 1 y wx := hv
                simp only [VRr10] at hv' ⊢
                rw [← e74]
                exact hv'
              | 2, _, h, hv =>
                have e75 : y 75 = y' 75 := h 2 75 (.inr rfl) (by kernel_rfl)
                have hv' : VRr10 v9 (.agg #[.slice (some ⟨gW, 0, none⟩) N capW, vP, .slice (some ⟨gX, 0, none⟩) N capX]) us xs w9.heap.size g1 g2 g4 g3 2 y wx := hv
                simp only [VRr10] at hv' ⊢
                rw [← e75]
                exact hv'
              | 3, _, h, hv =>
                have e76 : y 76 = y' 76 := h 3 76 (.inr rfl) (by kernel_rfl)
                have hv' : VRr10 v9 (.agg #[.slice (some ⟨gW, 0, none⟩) N capW, vP, .slice (some ⟨gX, 0, none⟩) N capX]) us xs w9.heap.size g1 g2 g4 g3 3 y wx := hv
                simp only [VRr10] at hv' ⊢
                rw [← e76]
                exact hv'
              | 4, _, h, hv =>
                have e77 : y 77 = y' 77 := h 4 77 (.inr rfl) (by kernel_rfl)
                have hv' : VRr10 v9 (.agg #[.slice (some ⟨gW, 0, none⟩) N capW, vP, .slice (some ⟨gX, 0, none⟩) N capX]) us xs w9.heap.size g1 g2 g4 g3 4 y wx := hv
                simp only [VRr10] at hv' ⊢
                rw [← e77]
                exact hv'
              | 5, _, h, hv =>
                have e78 : y 78 = y' 78 := h 5 78 (.inr rfl) (by kernel_rfl)
                have hv' : VRr10 v9 (.agg #[.slice (some ⟨gW, 0, none⟩) N capW, vP, .slice (some ⟨gX, 0, none⟩) N capX]) us xs w9.heap.size g1 g2 g4 g3 5 y wx := hv
                simp only [VRr10] at hv' ⊢
                rw [← e78]
                exact hv'
              | 6, _, h, hv =>
                have e79 : y 79 = y' 79 := h 6 79 (.inr rfl) (by kernel_rfl)
                have hv' : VRr10 v9 (.agg #[.slice (some ⟨gW, 0, none⟩) N capW, vP, .slice (some ⟨gX, 0, none⟩) N capX]) us xs w9.heap.size g1 g2 g4 g3 6 y wx := hv
                simp only [VRr10] at hv' ⊢
                rw [← e79]
                exact hv'
              | 7, _, h, hv =>
                have e80 : y 80 = y' 80 := h 7 80 (.inr rfl) (by kernel_rfl)
                have hv' : VRr10 v9 (.agg #[.slice (some ⟨gW, 0, none⟩) N capW, vP, .slice (some ⟨gX, 0, none⟩) N capX]) us xs w9.heap.size g1 g2 g4 g3 7 y wx := hv
                simp only [VRr10] at hv' ⊢
                rw [← e80]
                exact hv'
              | 8, _, h, hv =>
                have e81 : y 81 = y' 81 := h 8 81 (.inr rfl) (by kernel_rfl)
                have hv' : VRr10 v9 (.agg #[.slice (some ⟨gW, 0, none⟩) N capW, vP, .slice (some ⟨gX, 0, none⟩) N capX]) us xs w9.heap.size g1 g2 g4 g3 8 y wx := hv
                simp only [VRr10] at hv' ⊢
                rw [← e81]
                exact hv'
              | 9, _, h, hv =>
                have e6 : y 6 = y' 6 := h 9 6 (.inr rfl) (by kernel_rfl)
                have hv' : VRr10 v9 (.agg #[.slice (some ⟨gW, 0, none⟩) N capW, vP, .slice (some ⟨gX, 0, none⟩) N capX]) us xs w9.heap.size g1 g2 g4 g3 9 y wx := hv
                simp only [VRr10] at hv' ⊢
                rw [← e6]
                exact hv'
              | j + 10, hj, _, _ => exact absurd hj (by simp)
            · intro i o ho y wx hx hd hini
              match i, ho with
              | 0, ho =>
                obtain rfl := Option.some.inj ho
                refine rstep_value rfl (v := v9) (w' := wx) ?_ ⟨ExtB.refl _, rfl⟩
                · simp only [hole, List.foldl_cons, List.foldl_nil, List.setIfInBounds_toArray, List.set_cons_zero, List.set_cons_succ]
                  go_simp
              | 1, ho =>
                obtain rfl := Option.some.inj ho
                have e73 : y 73 = v9 := hd 0 (by kernel_rfl) (by decide)
                refine rstep_call rfl (f := 73) (args := #[.slice none 0 0, v9, .int .i64 (-1), .int .i64 0]) (w' := wx) ?_ (PA.out wx (((Below.refl _ _).drew).trans hx)) ?_
                · simp only [hole, List.foldl_cons, List.foldl_nil, List.setIfInBounds_toArray, List.set_cons_zero, List.set_cons_succ]
                  go_simp
                · rintro e w'' ⟨v, rfl, hf, hb⟩
                  exact ⟨_, rfl, hb, hf⟩
              | 2, ho =>
                obtain rfl := Option.some.inj ho
                refine rstep_value rfl (v := v9) (w' := wx) ?_ ⟨ExtB.refl _, rfl⟩
                · simp only [hole, List.foldl_cons, List.foldl_nil, List.setIfInBounds_toArray, List.set_cons_zero, List.set_cons_succ]
                  go_simp
              | 3, ho =>
                obtain rfl := Option.some.inj ho
                have v1 : Fz (fun q => w9.heap.size ≤ q) wx (y 74) g1 := hd 1 (by kernel_rfl) (by decide)
                have e75 : y 75 = v9 := hd 2 (by kernel_rfl) (by decide)
                refine rstep_call rfl (f := 73) (args := #[y 74, v9, .int .i64 1, .int .i64 1]) (w' := wx) ?_ (PB.out wx (y 74) (((Below.refl _ _).drew).trans hx) v1) ?_
                · simp only [hole, List.foldl_cons, List.foldl_nil, List.setIfInBounds_toArray, List.set_cons_zero, List.set_cons_succ]
                  go_simp
                · rintro e w'' ⟨v, rfl, hf, hb⟩
                  exact ⟨_, rfl, hb, hf⟩
              | 4, ho =>
                obtain rfl := Option.some.inj ho
                have hbq := (HB9.out.below (((Below.refl _ _).drew).trans hx)).hh
                have c0 := hbq.at (i := 0) rfl
                have c1 := hbq.at (i := 1) rfl
                have c2 := hbq.at (i := 2) rfl
                refine rstep_value rfl (v := .agg #[.slice (some ⟨gW, 0, none⟩) N capW, vP, .slice (some ⟨gX, 0, none⟩) N capX]) (w' := wx) ?_ ⟨ExtB.refl _, rfl⟩
                · simp only [hole, List.foldl_cons, List.foldl_nil, List.setIfInBounds_toArray, List.set_cons_zero, List.set_cons_succ]
                  go_simp
              | 5, ho =>
                obtain rfl := Option.some.inj ho
                refine rstep_value rfl (v := .int .i64 (us : Nat)) (w' := wx) ?_ ⟨ExtB.refl _, rfl⟩
                · simp only [hole, List.foldl_cons, List.foldl_nil, List.setIfInBounds_toArray, List.set_cons_zero, List.set_cons_succ]
                  go_simp
              | 6, ho =>
                obtain rfl := Option.some.inj ho
                refine rstep_value rfl (v := .int .i64 (xs : Nat)) (w' := wx) ?_ ⟨ExtB.refl _, rfl⟩
                · simp only [hole, List.foldl_cons, List.foldl_nil, List.setIfInBounds_toArray, List.set_cons_zero, List.set_cons_succ]
                  go_simp
              | 7, ho =>
                obtain rfl := Option.some.inj ho
                have e77 : y 77 = .agg #[.slice (some ⟨gW, 0, none⟩) N capW, vP, .slice (some ⟨gX, 0, none⟩) N capX] := hd 4 (by kernel_rfl) (by decide)
                have e78 : y 78 = .int .i64 (us : Nat) := hd 5 (by kernel_rfl) (by decide)
                have e79 : y 79 = .int .i64 (xs : Nat) := hd 6 (by kernel_rfl) (by decide)
                refine rstep_call rfl (f := 39) (args := #[.agg #[.slice (some ⟨gW, 0, none⟩) N capW, vP, .slice (some ⟨gX, 0, none⟩) N capX], .int .i64 (us : Nat), .int .i64 (xs : Nat)]) (w' := wx) ?_ (PR.out wx (((Below.refl _ _).drew).trans hx)) ?_
                · simp only [hole, List.foldl_cons, List.foldl_nil, List.setIfInBounds_toArray, List.set_cons_zero, List.set_cons_succ]
                  go_simp
                · rintro e w'' ⟨v, rfl, hf, hb⟩
                  exact ⟨_, rfl, hb, hf⟩
              | 8, ho =>
                obtain rfl := Option.some.inj ho
                have v3 : Fz (fun q => w9.heap.size ≤ q) wx (y 76) g2 := hd 3 (by kernel_rfl) (by decide)
                have v7 : Fz (fun q => w9.heap.size ≤ q) wx (y 80) g4 := hd 7 (by kernel_rfl) (by decide)
                refine rstep_call rfl (f := 73) (args := #[y 76, y 80, .int .i64 1, .int .i64 1]) (w' := wx) ?_ (PC.out wx (y 76) (y 80) (((Below.refl _ _).drew).trans hx) v3 v7) ?_
                · simp only [hole, List.foldl_cons, List.foldl_nil, List.setIfInBounds_toArray, List.set_cons_zero, List.set_cons_succ]
                  go_simp
                · rintro e w'' ⟨v, rfl, hf, hb⟩
                  exact ⟨_, rfl, hb, hf⟩
              | 9, ho =>
                obtain rfl := Option.some.inj ho
                have v8 : Fz (fun q => w9.heap.size ≤ q) wx (y 81) g3 := hd 8 (by kernel_rfl) (by decide)
                refine rstep_value rfl (v := y 81) (w' := wx) ?_ ⟨ExtB.refl _, v8⟩
                · simp only [hole, List.foldl_cons, List.foldl_nil, List.setIfInBounds_toArray, List.set_cons_zero, List.set_cons_succ]
                  go_simp
              | _ + 10, ho => exact absurd ho (by simp)
            · intro y wx hx hd
              have e73 : y 73 = v9 := hd 0 (by decide)
              have v1 : Fz (fun q => w9.heap.size ≤ q) wx (y 74) g1 := hd 1 (by decide)
              have e75 : y 75 = v9 := hd 2 (by decide)
              have v3 : Fz (fun q => w9.heap.size ≤ q) wx (y 76) g2 := hd 3 (by decide)
              have e77 : y 77 = .agg #[.slice (some ⟨gW, 0, none⟩) N capW, vP, .slice (some ⟨gX, 0, none⟩) N capX] := hd 4 (by decide)
              have e78 : y 78 = .int .i64 (us : Nat) := hd 5 (by decide)
              have e79 : y 79 = .int .i64 (xs : Nat) := hd 6 (by decide)
              have v7 : Fz (fun q => w9.heap.size ≤ q) wx (y 80) g4 := hd 7 (by decide)
              have v8 : Fz (fun q => w9.heap.size ≤ q) wx (y 81) g3 := hd 8 (by decide)
              have v9 : Fz (fun q => w9.heap.size ≤ q) wx (y 6) g3 := hd 9 (by decide)
              clear hd
              simp only [hole, List.foldl_cons, List.foldl_nil, List.setIfInBounds_toArray, List.set_cons_zero, List.set_cons_succ]
              have HFE := Lib.hid (fz_up v9 HB9.out.hb.size)
              have HBE2 := Lib.hid (HB9.out.hb.trans ((((Below.refl w9.heap.size w9).drew).trans hx).mono HB9.out.hb.size))
              clear e73 e75 e77 e78 e79 v1 v3 v7 v8 v9 hx
              go_wp2
              go_ret
              exact ⟨_, rfl, by rw [HG3.out]; exact HFE.out, HBE2.out⟩
    · have hli : (lx : Int) ≤ (lu : Int) := by omega
      have hld : decide ((lx : Int) ≤ (lu : Int)) = true := decide_eq_true hli
      have hld2 : decide (lx ≤ lu) = true := decide_eq_true (by omega)
      have HRX := Lib.hid (show r u x = [] by
        rw [hre, if_pos]
        cases hb : belG W X u x with
        | false => rfl
        | true => exact absurd (hord u x hu hx hb hux) (by omega))
      clear hre hux ih hr hord hlow hll hrefl h00
      go_enter Try.func39, Try.ntmps39
      go_upto_region 3 with (fail)
      obtain ⟨w1, hw1⟩ : ∃ w1, w.alloc (.cells #[vW, vP, vX] 36) = w1 := ⟨_, rfl⟩
      rw [hw1] at HBX hq0 hq1 hq2 ⊢
      clear hw1
      have q0 : ∀ q : BelW w1, q.v.cell? ⟨w.heap.size, 0, none⟩ = some vW := fun q => bel_at hq0 (Below.refl _ _) q
      have q1 : ∀ q : BelW w1, q.v.cell? ⟨w.heap.size, 1, none⟩ = some vP := fun q => bel_at hq1 (Below.refl _ _) q
      have q2 : ∀ q : BelW w1, q.v.cell? ⟨w.heap.size, 2, none⟩ = some vX := fun q => bel_at hq2 (Below.refl _ _) q
      have LX1 := Lib.hid (LX.out w1 HBX.out.hb)
      have LU1 := Lib.hid (LU.out w1 HBX.out.hb)
      clear hq0 hq1 hq2
      refine wp_region_bel HMX.out (by kernel_rfl) ?_
      repeat (first
        | go_big_quiet_step (first | (go_at_call 29; (with_reducible refine Calls.bel_of (LX1.out _))) | (go_at_call 29; (with_reducible refine Calls.bel_of (LU1.out _))))
        | quiet_step (first | (go_at_call 29; (with_reducible refine Calls.bel_of (LX1.out _))) | (go_at_call 29; (with_reducible refine Calls.bel_of (LU1.out _)))))
      refine wpQuiet_nil ?_
      intro w2 hw'
      have hb2 := BelW.of hw'
      clear hw'
      have HB2 := Lib.hid (HBX.out.hb.trans (hb2.mono HBX.out.hb.size))
      clear hb2
      go_wp2
      go_ret
      exact ⟨_, rfl, by rw [HRX.out]; exact fz_nilP _ _, HB2.out⟩
end Go.Proofs.Ytmlhecfhhhebnaa

/- Polynomials: the walk of the reference's P. -/
namespace Go.Proofs.Ytmlhecfhhhebnaa
open Go.RowKit
attribute [local go_sem] Oper.semAt_some

theorem RR_any {m N : Nat} {W X : List (List Nat)} {r : Nat → Nat → List Int} (hk : Tk m N W X) (hl : lstB W X = true) (hlow : ∀ i j, i < N → j < N → Nat.testBit (lowW X N (W.getD i [])) j = belG W X j i)
    (hr : ∀ u x, u < N → x < N → r u x = stepR W X (belG W X) r u x) (hlen : ∀ u x, (r u x).length ≤ 100) (hord : ∀ a b, a < N → b < N → belG W X a b = true → a ≠ b → lenX W a < lenX W b) (hrefl : ∀ a, a < N → belG W X a a = true) (h00 : lenX W 0 = 0) :
    ∀ (f : Nat) (vt : Value) (u x : Nat) (w : World), lenX W x < f → RT W X w vt → u < N → x < N → Calls Try.prog 39 #[vt, .int .i64 (u : Nat), .int .i64 (x : Nat)] w (PolOut (r u x) w)
  | 0, _, _, _, _, h, _, _, _ => absurd h (Nat.not_lt_zero _)
  | f + 1, vt, u, x, w, h, ht, hu, hx => RR_step hk hl hlow hr hlen hord hrefl h00 vt u x w ht hu hx fun u' x' w' hlt hu' hx' ht' => RR_any hk hl hlow hr hlen hord hrefl h00 f vt u' x' w' (by omega) ht' hu' hx'
/-! plain: the sum in the reference's order -/
section
variable {bel : Nat → Nat → Bool} {r p : Nat → Nat → List Int}
theorem sumTo_in (u x : Nat) : ∀ k, InR (sumTo bel r p u x k)
  | 0 => InR.nil
  | k + 1 => by
    rw [sumTo]
    split
    · exact plusL_in (sumTo_in u x k) _ _ _
    · exact sumTo_in u x k
theorem sumTo_trim (u x : Nat) : ∀ k, trimL (sumTo bel r p u x k) = sumTo bel r p u x k
  | 0 => rfl
  | k + 1 => by
    rw [sumTo]
    split
    · exact plusL_trim _ _ _ _
    · exact sumTo_trim u x k
theorem sumTo_low {N u x : Nat} (hnum : ∀ a b, a < N → b < N → bel a b = true → a ≤ b) (hu : u < N) : ∀ k, k ≤ u + 1 → sumTo bel r p u x k = []
  | 0, _ => rfl
  | k + 1, hk => by
    rw [sumTo, sumTo_low hnum hu k (by omega), if_neg]
    intro h
    simp only [Bool.and_eq_true, Bool.not_eq_true', beq_eq_false_iff_ne, ne_eq] at h
    have := hnum u k hu (by omega) h.1.2
    omega
theorem sumTo_high {N u x : Nat} (hnum : ∀ a b, a < N → b < N → bel a b = true → a ≤ b) (hx : x < N) : ∀ k, x + 1 ≤ k → k ≤ N → sumTo bel r p u x k = sumTo bel r p u x (x + 1)
  | 0, h, _ => by omega
  | k + 1, h, hk => by
    by_cases e : k + 1 = x + 1
    · rw [e]
    · rw [sumTo, if_neg, sumTo_high hnum hx k (by omega) (by omega)]
      intro h'
      simp only [Bool.and_eq_true] at h'
      have := hnum k x (by omega) hx h'.2
      omega
theorem accTo_len (f g s : List Int) {m : Nat} (hs : s.length ≤ m) (hm : f.length + g.length ≤ m) : ∀ k, k ≤ f.length → (accTo f g s k).length ≤ m
  | 0, _ => hs
  | k + 1, hk => plusL_len _ _ _ _ (accTo_len f g s hs hm k (by omega)) (by omega)
end
/-- The row of the polynomials under way: those of the elements from c on. -/
structure AlI (N x c gA B : Nat) (ok : Nat → Prop) (q : Nat → List Int) (wr : World) (vs : List Value) : Prop where
  held : Held wr gA 24 vs
  len : vs.length = N
  at' : ∀ j, c ≤ j → j ≤ x → ok j → ∃ v, vs[j]? = some v ∧ Fz (fun k => B ≤ k ∧ k ≠ gA) wr v (q j)
section
variable {N x c gA B : Nat} {ok : Nat → Prop} {q : Nat → List Int} {wr w' : World} {vs : List Value}
theorem AlI.below (h : AlI N x c gA B ok q wr vs) (hb : Below wr.heap.size wr w') : AlI N x c gA B ok q w' vs :=
  ⟨h.held.below hb h.held.lt, h.len, fun j h1 h2 h3 => by obtain ⟨v, e, hf⟩ := h.at' j h1 h2 h3; exact ⟨v, e, hf.kept (Sm.of_below hb)⟩⟩
theorem AlI.skip (h : AlI N x (c + 1) gA B ok q wr vs) (hno : ¬ ok c) : AlI N x c gA B ok q wr vs :=
  ⟨h.held, h.len, fun j h1 h2 h3 => by
    by_cases e : j = c
    · subst e; exact absurd h3 hno
    · exact h.at' j (by omega) h2 h3⟩
theorem sm_put2 {S : Nat → Prop} {w : World} (g j : Nat) (x : Value) (h : ∀ k, S k → k ≠ g) : Sm S w (w.setCell ⟨g, j, none⟩ x) := ⟨rfl, rfl, rfl, by simp [World.setCell], fun k hk _ => Below.heap_setCell w ⟨g, j, none⟩ _ k (h k hk)⟩
theorem AlI.put (h : AlI N x (c + 1) gA B ok q wr vs) (hc : c < N) {v : Value} (hv : Fz (fun k => B ≤ k ∧ k ≠ gA) wr v (q c)) : AlI N x c gA B ok q (wr.setCell ⟨gA, c, none⟩ v) (vs.set c v) := by
  have hs : Sm (fun k => B ≤ k ∧ k ≠ gA) wr (wr.setCell ⟨gA, c, none⟩ v) := sm_put2 gA c v fun k hk => hk.2
  refine ⟨h.held.put c v, by rw [List.length_set]; exact h.len, fun j h1 h2 h3 => ?_⟩
  by_cases e : j = c
  · subst e
    exact ⟨v, by rw [List.getElem?_set_self (by rw [h.len]; exact hc)], hv.kept hs⟩
  · obtain ⟨v', e', hf⟩ := h.at' j (by omega) h2 h3
    exact ⟨v', by rw [List.getElem?_set_ne (Ne.symm e)]; exact e', hf.kept hs⟩
/-- The cell of an element, whatever lies there. -/
theorem AlI.cell (h : AlI N x c gA B ok q wr vs) {j : Nat} (hj : j < N) : ∃ v, wr.cell? ⟨gA, j, none⟩ = some v ∧ wr.frozen? ⟨gA, j, none⟩ = false :=
  ⟨vs[j]'(by rw [h.len]; exact hj), h.held.at (List.getElem?_eq_getElem (by rw [h.len]; exact hj)), h.held.free j⟩
theorem AlI.val (h : AlI N x c gA B ok q wr vs) {j : Nat} (h1 : c ≤ j) (h2 : j ≤ x) (h3 : ok j) : ∃ v, wr.cell? ⟨gA, j, none⟩ = some v ∧ Fz (fun k => B ≤ k ∧ k ≠ gA) wr v (q j) := by
  obtain ⟨v, e, hf⟩ := h.at' j h1 h2 h3
  exact ⟨v, h.held.at e, hf⟩
end
def mkR (N : Nat) (w : World) : World := w.alloc (.cells (List.replicate N (.slice none 0 0)).toArray 24)
theorem make_R (n : Nat) (hn : n ≤ 1000000) (w : World) : (Instr.makeSlice 34 (.int .i64 (n : Int)) (.int .i64 (n : Int))).run Try.prog w = .ok (.slice (some ⟨w.heap.size, 0, none⟩) n n) (mkR n w) := by
  rw [run_make_row' (P := Try.prog) 34 24 (.slice none 0 0) 24 Try.underlying34 infoR rfl .i64 .i64 n (by omega) (by omega) w, madeCells_replicate]
  rfl
theorem mkR_start {N x gA B : Nat} {ok : Nat → Prop} {q : Nat → List Int} {w : World} (hg : w.heap.size = gA) : AlI N x (x + 1) gA B ok q (mkR N w) (List.replicate N (.slice none 0 0)) :=
  ⟨Held.made hg, by simp, fun j h1 h2 _ => by omega⟩
theorem mkR_below (N : Nat) (w : World) : Below w.heap.size w (mkR N w) := (Below.refl _ _).alloc (Nat.le_refl _) _
end Go.Proofs.Ytmlhecfhhhebnaa

/- Polynomials: the walk of the reference's P. -/
namespace Go.Proofs.Ytmlhecfhhhebnaa
open Go.RowKit
attribute [local go_sem] Oper.semAt_some

/-- What Lower returns, read by its cells. -/
def LowR (W X : List (List Nat)) (N y : Nat) (w : World) (e : Ending) (w' : World) : Prop := ∃ g cap, e = .returned (.slice (some ⟨g, 0, none⟩) N cap) ∧ (∀ j, j < N → w'.cell? ⟨g, j, none⟩ = some (.bool (belG W X j y))) ∧ Below w.heap.size w w'
theorem rlow_any {m N : Nat} {W X : List (List Nat)} (hk : Tk m N W X) (hlow : ∀ i j, i < N → j < N → Nat.testBit (lowW X N (W.getD i [])) j = belG W X j i) (vt : Value) (y : Nat) (w : World) (ht : RT W X w vt) (hy : y < N) :
    Calls Try.prog 58 #[vt, .int .i64 (y : Nat)] w (LowR W X N y w) := by
  refine (RLower_any vt y w ht hk hy).mono ?_
  rintro e w' ⟨g, cap, rfl, ho, hb⟩
  refine ⟨g, cap, rfl, fun j hj => ?_, hb⟩
  rw [ho.cell j (by rw [bitL_len]; exact hj), bitL_get, hlow y j hy hj]
theorem cell_up {w w' : World} {a : Addr} {u : Value} (h : w.cell? a = some u) (hb : Below w.heap.size w w') : w'.cell? a = some u := (hb.cell (World.block_lt_of_cell? _ _ h)).trans h
def OkP (W X : List (List Nat)) (u x j : Nat) : Prop := belG W X j x = true ∧ belG W X u j = true
def SP (B gA : Nat) : Nat → Prop := fun k => B ≤ k ∧ k ≠ gA
theorem pol_sp {B gA : Nat} {w w' : World} {v : Value} {l : List Int} (hB : B ≤ w.heap.size) (hg : gA < w.heap.size) (h : Fz (fun q => w.heap.size ≤ q) w' v l) : Fz (SP B gA) w' v l := h.mono fun q hq => ⟨Nat.le_trans hB hq, by omega⟩
theorem sum_step {bel : Nat → Nat → Bool} {r p : Nat → Nat → List Int} {i x k : Nat} (h : i < k) {b c : Bool} (h1 : bel k x = b) (h2 : bel i k = c) : sumTo bel r p i x (k + 1) = if (b && c) = true then plusL (sumTo bel r p i x k) 1 0 (timesL (r i k) (p k x)) else sumTo bel r p i x k := by
  have e : (k == i) = false := by simp; omega
  rw [sumTo, h1, h2, e]
  cases b <;> cases c <;> rfl

set_option maxRecDepth 20000 in
set_option maxHeartbeats 16000000 in
theorem RP_any {m N : Nat} {W X : List (List Nat)} {r p : Nat → Nat → List Int} (hk : Tk m N W X) (hlow : ∀ i j, i < N → j < N → Nat.testBit (lowW X N (W.getD i [])) j = belG W X j i)
    (hlen : ∀ u x, (r u x).length ≤ 100) (hplen : ∀ u x, (p u x).length ≤ 100) (hp : ∀ u x, u < N → x < N → p u x = stepP W (belG W X) r p u x)
    (hord : ∀ a b, a < N → b < N → belG W X a b = true → a ≠ b → lenX W a < lenX W b) (hrefl : ∀ a, a < N → belG W X a a = true) (hnum : ∀ a b, a < N → b < N → belG W X a b = true → a ≤ b)
    (htr : ∀ a b c, a < N → b < N → c < N → belG W X a b = true → belG W X b c = true → belG W X a c = true)
    (RR : ∀ (vt : Value) (u x : Nat) (w : World), RT W X w vt → u < N → x < N → Calls Try.prog 39 #[vt, .int .i64 (u : Nat), .int .i64 (x : Nat)] w (PolOut (r u x) w))
    (vt : Value) (u x : Nat) (w : World) (ht : RT W X w vt) (hu : u < N) (hx : x < N) :
    Calls Try.prog 40 #[vt, .int .i64 (u : Nat), .int .i64 (x : Nat)] w (PolOut (p u x) w) := by
  have hN := hk.small
  have HMX := Lib.hid (show Try.prog.follows .mixedOrders = true by kernel_rfl)
  have htt := ht
  obtain ⟨vW, vP, vX, P, rfl, hWr, _, _⟩ := ht
  have HBX := Lib.hid (BoxI.made vW vP vX w)
  have LOW := Lib.hid (fun (y : Nat) (hy : y < N) (w' : World) (hb : Below w.heap.size w w') => rlow_any hk hlow (.agg #[vW, vP, vX]) y w' (htt.below hb) hy)
  have RRA := Lib.hid (fun (a b : Nat) (ha : a < N) (hb' : b < N) (w' : World) (hb : Below w.heap.size w w') => RR (.agg #[vW, vP, vX]) a b w' (htt.below hb) ha hb')
  have LN := Lib.hid (fun (y l : Nat) (hy : y < N) (hl : lenX W y = l) (w1 : World) (hb : Below w.heap.size w w1) (q : BelW w1) => rlength_bel htt hk hb hy hl q)
  obtain ⟨aW, cW, eW⟩ := hWr.form
  rw [hk.lw] at eW
  subst eW
  have hlx12 : lenX W x ≤ 12 := by
    have hxW : x < W.length := by rw [hk.lw]; exact hx
    unfold lenX; rw [getDL hxW]; exact hk.short _ (List.getElem_mem hxW)
  have HLX := Lib.hid hlx12
  have hq0 := HBX.out.hh.at (i := 0) rfl
  have hq1 := HBX.out.hh.at (i := 1) rfl
  have hq2 := HBX.out.hh.at (i := 2) rfl
  have hui : (u : Int) < (N : Int) := by omega
  have hxi : (x : Int) < (N : Int) := by omega
  have HP := Lib.hid hp
  have HKW := Lib.hid hk.lw
  have HPL := Lib.hid hplen
  have HRL := Lib.hid hlen
  have HORD := Lib.hid hord
  have HREF := Lib.hid hrefl
  have HNUM := Lib.hid hnum
  have HTR := Lib.hid htr
  have HU := Lib.hid hu
  have HX := Lib.hid hx
  have HNN := Lib.hid hN
  clear hp hplen hlen hord hrefl hnum htr RR htt hWr hlow hk hlx12
  go_enter Try.func40, Try.ntmps40
  go_upto_region 2 with (go_at_call 58; refine (LOW.out x HX.out _ HBX.out.hb).mono ?_; rintro e w1 ⟨gL, cL, rfl, hlc, hb1⟩)
  have HB1 := Lib.hid (HBX.out.below hb1)
  have HLC := Lib.hid (fun (wa : World) (hb : Below w1.heap.size w1 wa) (j : Nat) (hj : j < N) => cell_up (hlc j hj) hb)
  have hcu := hlc u HU.out
  clear hq0 hq1 hq2 hb1 hlc
  have hq0 := HB1.out.hh.at (i := 0) rfl
  cases hbel : belG W X u x with
  | false =>
    have HRE := Lib.hid (show p u x = [] by rw [HP.out u x HU.out HX.out, stepP, if_pos hbel])
    rw [hbel] at hcu
    clear hbel
    go_wp2
    go_ret
    exact ⟨_, rfl, by rw [HRE.out]; exact fz_nilP _ _, HB1.out.hb⟩
  | true =>
    rw [hbel] at hcu
    have HBEL := Lib.hid hbel
    clear hbel
    have hmk := make_R N (by omega) w1
    go_upto_region 6 with (fail)
    obtain ⟨w2, hw2⟩ : ∃ w2, mkR N w1 = w2 := ⟨_, rfl⟩
    have HA2 := Lib.hid (show AlI N x (x + 1) w1.heap.size w1.heap.size (OkP W X u x) (fun j => p j x) w2 (List.replicate N (.slice none 0 0)) by rw [← hw2]; exact mkR_start rfl)
    have HBM := Lib.hid (show Below w1.heap.size w1 w2 by rw [← hw2]; exact mkR_below N w1)
    rw [hw2]
    clear hmk hw2 hcu hq0
    obtain ⟨gA, hgA⟩ : ∃ gA, w1.heap.size = gA := ⟨_, rfl⟩
    have HGA := Lib.hid hgA
    rw [hgA] at HA2 ⊢
    clear hgA
    go_loopw [9] (fun ix wr => ∃ (c : Nat) (z : Int) (vs : List Value), ix = .int .i64 z ∧ z + 1 = (c : Int) ∧ u ≤ c ∧ c ≤ x + 1 ∧ AlI N x c gA gA (OkP W X u x) (fun j => p j x) wr vs ∧ Below w1.heap.size w1 wr) (fun ix _ => (intOf ix + 1).toNat)
    case atStart => exact ⟨x + 1, (x : Int), _, rfl, by omega, by have := HNUM.out u x HU.out HX.out HBEL.out; omega, Nat.le_refl _, HA2.out, HBM.out⟩
    case round =>
      obtain ⟨c, z, vs, rfl, hz, huc, hcx, hA, hb⟩ := hrel
      have HBR := Lib.hid hb
      by_cases huz : u < c
      · obtain ⟨i, rfl⟩ : ∃ i, c = i + 1 := ⟨c - 1, by omega⟩
        obtain rfl : z = (i : Int) := by omega
        have hge : (u : Int) ≤ (i : Int) := by omega
        have hiN : i < N := by omega
        have hii : (i : Int) < (N : Int) := by omega
        have hi0 : (0 : Int) ≤ (i : Int) := by omega
        have wdec : IntKind.i64.wrap ((i : Int) - 1) = (i : Int) - 1 := IntWalk.i64_in _ (by omega)
        have HA := Lib.hid hA
        have HIN := Lib.hid hiN
        have hgsz := hA.held.lt
        have HGS := Lib.hid hgsz
        clear hz hA hb huz
        by_cases hix : i = x
        · have he : ((i : Int) == (x : Int)) = true := by simp [hix]
          have HIX := Lib.hid (show p i x = [1] by rw [HP.out i x HIN.out HX.out, stepP, hix, HREF.out x HX.out, if_neg (by simp), if_pos rfl])
          have HAA := Lib.hid (HA.out.below ((Below.refl _ _).alloc (Nat.le_refl _) (.cells #[.int .i64 1] 3)))
          obtain ⟨v0, hc0, hz0⟩ := HAA.out.cell HIN.out
          have HPT := Lib.hid (HAA.out.put HIN.out (v := .slice (some ⟨wr.heap.size, 0, none⟩) 1 1) (by rw [HIX.out]; exact one_fz wr ⟨by have := HGA.out; have := HBR.out.size; omega, by have := HGS.out; omega⟩))
          have HBT := Lib.hid ((HBR.out.alloc HBR.out.size (.cells #[.int .i64 1] 3)).setCell (p := ⟨gA, i, none⟩) (Nat.le_of_eq HGA.out) (.slice (some ⟨wr.heap.size, 0, none⟩) 1 1))
          clear hgsz hix
          go_wp2
          go_roundw
          case rel => exact ⟨i, (i : Int) - 1, _, by go_num, by omega, by omega, by omega, HPT.out, HBT.out⟩
          case measure => simp [intOf]
        · have he : ((i : Int) == (x : Int)) = false := by simp; omega
          have hlx : i < x := by omega
          have hcl := HLC.out wr HBR.out i HIN.out
          have HB1R := Lib.hid (HB1.out.below HBR.out)
          obtain ⟨b1, hb1⟩ : ∃ b1, belG W X i x = b1 := ⟨_, rfl⟩
          obtain ⟨b2, hb2⟩ : ∃ b2, belG W X u i = b2 := ⟨_, rfl⟩
          rw [hb1] at hcl
          have HV1 := Lib.hid hb1
          have HV2 := Lib.hid hb2
          have hq0 := HB1R.out.hh.at (i := 0) rfl
          have hq1 := HB1R.out.hh.at (i := 1) rfl
          have hq2 := HB1R.out.hh.at (i := 2) rfl
          clear hb1 hb2
          go_upto_region 10 with (fail)
          go_cut [59] from 41 to 59 (fun v wq => v = .bool (!(b1 && b2)) ∧ Below wr.heap.size wr wq)
          case first =>
            cases b1 with
            | false =>
              go_wp2_with fail
              go_meet
              exact ⟨rfl, Below.refl _ _⟩
            | true =>
              by_cases hiu : i = u
              · have hne : ((i : Int) != (u : Int)) = false := by simp [hiu]
                have HE2 := Lib.hid (show b2 = true by rw [← HV2.out, hiu]; exact HREF.out u HU.out)
                clear hiu
                go_wp2_with fail
                go_meet
                exact ⟨by rw [HE2.out]; rfl, Below.refl _ _⟩
              · have hne : ((i : Int) != (u : Int)) = true := by simp; omega
                clear hiu
                go_wp2_with (go_at_call 58; refine (LOW.out i HIN.out _ HB1R.out.hb).mono ?_; rintro e w3 ⟨gM, cM, rfl, hmc, hb3⟩; have hcm := hmc u HU.out; rw [HV2.out] at hcm; clear hmc)
                go_meet
                exact ⟨rfl, hb3⟩
          case rest =>
            rename_i wc
            obtain ⟨rfl, hbq⟩ := hcut
            have HBQ := Lib.hid hbq
            have HAC := Lib.hid (HA.out.below hbq)
            have HBC := Lib.hid (HBR.out.trans (hbq.mono HBR.out.size))
            clear hbq hcl hq0 hq1 hq2
            cases b1 with
            | false =>
              have HSK := Lib.hid (HAC.out.skip (fun h => by rw [h.1] at HV1; exact absurd HV1.out (by simp)))
              go_wp2
              go_roundw
              case rel => exact ⟨i, (i : Int) - 1, vs, by go_num, by omega, by omega, by omega, HSK.out, HBC.out⟩
              case measure => simp [intOf]
            | true =>
              cases b2 with
              | false =>
                have HSK := Lib.hid (HAC.out.skip (fun h => by rw [h.2] at HV2; exact absurd HV2.out (by simp)))
                go_wp2
                go_roundw
                case rel => exact ⟨i, (i : Int) - 1, vs, by go_num, by omega, by omega, by omega, HSK.out, HBC.out⟩
                case measure => simp [intOf]
              | true =>
                have winc : IntKind.i64.wrap ((i : Int) + 1) = (i : Int) + 1 := IntWalk.i64_in _ (by omega)
                go_upto_region 13 with (fail)
                go_loopw [10, 11] (fun s10 s11 wx => ∃ k : Nat, s11 = .int .i64 ((k : Nat) : Int) ∧ i + 1 ≤ k ∧ k ≤ x + 1 ∧ Fz (SP gA gA) wx s10 (sumTo (belG W X) r p i x k) ∧ AlI N x (i + 1) gA gA (OkP W X u x) (fun j => p j x) wx vs ∧ Below w1.heap.size w1 wx) (fun _ s11 _ => x + 1 - (intOf s11).toNat)
                case atStart => exact ⟨i + 1, by go_num, Nat.le_refl _, by omega, by rw [sumTo_low HNUM.out HIN.out (i + 1) (Nat.le_refl _)]; exact fz_nilP _ _, HAC.out, HBC.out⟩
                case round =>
                  obtain ⟨k, rfl, hik, hkx1, hfs, hA2, hb2⟩ := hrel
                  have HFS := Lib.hid hfs
                  have HAK := Lib.hid hA2
                  have HBK := Lib.hid hb2
                  have HIK := Lib.hid hik
                  clear hA2
                  by_cases hkx : k ≤ x
                  · have hki : (k : Int) ≤ (x : Int) := by omega
                    have hkN : k < N := by omega
                    have hkNi : (k : Int) < (N : Int) := by omega
                    have HKN := Lib.hid hkN
                    have HKX := Lib.hid hkx
                    have hck := HLC.out wr hb2 k hkN
                    have HB1K := Lib.hid (HB1.out.below hb2)
                    obtain ⟨c1, hc1⟩ : ∃ c1, belG W X k x = c1 := ⟨_, rfl⟩
                    obtain ⟨c2, hc2⟩ : ∃ c2, belG W X i k = c2 := ⟨_, rfl⟩
                    rw [hc1] at hck
                    have HC1 := Lib.hid hc1
                    have HC2 := Lib.hid hc2
                    have HSS := Lib.hid (sum_step (r := r) (p := p) (show i < k by omega) hc1 hc2)
                    have hq0 := HB1K.out.hh.at (i := 0) rfl
                    have hq1 := HB1K.out.hh.at (i := 1) rfl
                    have hq2 := HB1K.out.hh.at (i := 2) rfl
                    have wk1 : IntKind.i64.wrap ((k : Int) + 1) = (k : Int) + 1 := IntWalk.i64_in _ (by omega)
                    clear hc1 hc2 hfs hb2
                    go_upto_region 15 with (fail)
                    go_cut [78] from 67 to 78 (fun v wq => v = .bool (c1 && c2) ∧ Below wr.heap.size wr wq)
                    case first =>
                      cases c1 with
                      | false =>
                        go_wp2_with fail
                        go_meet
                        exact ⟨rfl, Below.refl _ _⟩
                      | true =>
                        go_wp2_with (go_at_call 58; refine (LOW.out k HKN.out _ HB1K.out.hb).mono ?_; rintro e w3 ⟨gM, cM, rfl, hmc, hb3⟩; have hcm := hmc i HIN.out; rw [HC2.out] at hcm; clear hmc)
                        go_meet
                        exact ⟨rfl, hb3⟩
                    case rest =>
                      rename_i wd
                      obtain ⟨rfl, hbq⟩ := hcut
                      have HFD := Lib.hid (HFS.out.kept (Sm.of_below hbq))
                      have HAD := Lib.hid (HAK.out.below hbq)
                      have HBD := Lib.hid (HBK.out.trans (hbq.mono HBK.out.size))
                      clear hbq hck hq0 hq1 hq2
                      cases hcc : (c1 && c2) with
                      | false =>
                        rw [hcc, if_neg (by simp)] at HSS
                        clear hcc
                        go_wp2
                        go_roundw
                        case rel => exact ⟨k + 1, by go_num, by omega, by omega, by rw [HSS.out]; exact HFD.out, HAD.out, HBD.out⟩
                        case measure => simp [intOf]; omega
                      | true =>
                        rw [hcc, if_pos rfl] at HSS
                        have hct : c1 = true ∧ c2 = true := by simpa using hcc
                        have HOK := Lib.hid (show OkP W X u x k from ⟨HC1.out.trans hct.1, HTR.out u i k HU.out HIN.out HKN.out HV2.out (HC2.out.trans hct.2)⟩)
                        obtain ⟨rk, hrk⟩ : ∃ rk, r i k = rk := ⟨_, rfl⟩
                        obtain ⟨pk, hpk⟩ : ∃ pk, p k x = pk := ⟨_, rfl⟩
                        obtain ⟨sk, hsk⟩ : ∃ sk, sumTo (belG W X) r p i x k = sk := ⟨_, rfl⟩
                        have HLK := Lib.hid (show rk.length ≤ 100 ∧ pk.length ≤ 100 ∧ sk.length ≤ 200 from ⟨by rw [← hrk]; exact HRL.out i k, by rw [← hpk]; exact HPL.out k x, by rw [← hsk]; exact sumTo_len HRL.out HPL.out i x k⟩)
                        have HAC2 := Lib.hid (show accTo rk pk sk rk.length = plusL sk 1 0 (timesL rk pk) from acc_times rk pk (by rw [← hsk]; exact sumTo_in i x k) (by rw [← hsk]; exact sumTo_trim i x k))
                        have RRK := Lib.hid (RRA.out i k HIN.out HKN.out)
                        have HPK := Lib.hid hpk
                        rw [hrk, hpk, hsk] at HSS
                        rw [hsk] at HFD
                        rw [hrk] at RRK
                        have hq0 := (HB1.out.below HBD.out).hh.at (i := 0) rfl
                        have hq1 := (HB1.out.below HBD.out).hh.at (i := 1) rfl
                        have hq2 := (HB1.out.below HBD.out).hh.at (i := 2) rfl
                        clear hcc hct hrk hpk hsk
                        go_upto_region 17 with (go_at_call 39; refine (RRK.out _ (HB1.out.below HBD.out).hb).mono ?_; rintro e w5 ⟨v5, rfl, hf5, hb5⟩)
                        have HF5 := Lib.hid hf5
                        obtain ⟨a5, c5, rfl, _⟩ := id hf5
                        obtain ⟨lr, hlr⟩ : ∃ lr, rk.length = lr := ⟨_, rfl⟩
                        have HLR := Lib.hid hlr
                        have hlr1 : lr ≤ 100 := by rw [← hlr]; exact HLK.out.1
                        have HFE := Lib.hid (HFD.out.kept (Sm.of_below hb5))
                        have HAE := Lib.hid (HAD.out.below hb5)
                        have HBE := Lib.hid (HBD.out.trans (hb5.mono HBD.out.size))
                        rw [hlr] at HF5 HAC2 ⊢
                        clear hf5 hb5 hlr hq0 hq1 hq2
                        go_upto_region 18 with (fail)
                        go_loopw [10, 85] (fun s10 s85 wy => ∃ a : Nat, s85 = .int .i64 a ∧ a ≤ lr ∧ Fz (SP gA gA) wy s10 (accTo rk pk sk a) ∧ Below w5.heap.size w5 wy) (fun _ s85 _ => lr - (intOf s85).toNat)
                        case atStart => exact ⟨0, rfl, Nat.zero_le _, HFE.out, Below.refl _ _⟩
                        case round =>
                          obtain ⟨a, rfl, ha, hfa, hba⟩ := hrel
                          have HFA := Lib.hid hfa
                          have HBA := Lib.hid hba
                          have HAA := Lib.hid (HAE.out.below hba)
                          by_cases hal : a < lr
                          · obtain ⟨b, off, rfl, hbl, hcell⟩ := ints_at ((HF5.out.kept (Sm.of_below hba)).ints) (by rw [HLR.out]; omega)
                            have hrc := hcell a (by rw [HLR.out]; exact hal)
                            obtain ⟨cf, hcf⟩ : ∃ cf, rk.getD a 0 = cf := ⟨_, rfl⟩
                            rw [hcf] at hrc
                            have HAN := Lib.hid (show accTo rk pk sk (a + 1) = plusL (accTo rk pk sk a) cf a pk by rw [accTo, hcf])
                            obtain ⟨vk, hvk, hfk⟩ := HAA.out.val (j := k) HIK.out HKX.out HOK.out
                            have hai : (a : Int) < (lr : Int) := by omega
                            have AD := Lib.hid (add_any _ vk (accTo rk pk sk a) pk cf a wr hfa.ints (by rw [← HPK.out]; exact hfk.ints) (accTo_len rk pk sk (by have := HLK.out; omega) (by have := HLK.out; omega) a (by rw [HLR.out]; omega)) (by have := HLK.out; omega) (by omega))
                            rw [← HAN.out] at AD
                            clear hfa hba hbl hcell hcf hfk
                            go_wp2_with (go_at_call 73; refine AD.out.mono ?_; rintro e w6 ⟨v6, rfl, hf6, hb6⟩; have HF6 := Lib.hid (pol_sp (B := gA) (gA := gA) (Nat.le_of_lt HAA.out.held.lt) HAA.out.held.lt hf6); have HB6 := Lib.hid (HBA.out.trans (hb6.mono HBA.out.size)); clear hf6 hb6)
                            go_roundw
                            case rel => exact ⟨a + 1, by go_num, by omega, HF6.out, HB6.out⟩
                            case measure => simp [intOf]; omega
                          · have hae : a = lr := by omega
                            have hai : ¬ (a : Int) < (lr : Int) := by omega
                            rw [hae] at hfa
                            have HFN := Lib.hid (show Fz (SP gA gA) wr _ (sumTo (belG W X) r p i x (k + 1)) by rw [HSS.out, ← HAC2.out]; exact hfa)
                            have HBN := Lib.hid (HBE.out.trans (hba.mono HBE.out.size))
                            clear hfa hba hae hal
                            go_wp2
                            go_roundw
                            case rel => exact ⟨k + 1, by go_num, by omega, by omega, HFN.out, HAA.out, HBN.out⟩
                            case measure => simp [intOf]; omega
                  · have hke : k = x + 1 := by omega
                    have hki : ¬ (k : Int) ≤ (x : Int) := by omega
                    have hse : sumTo (belG W X) r p i x k = sumTo (belG W X) r p i x N := by rw [hke]; exact (sumTo_high HNUM.out HX.out N (by have := HX.out; omega) (Nat.le_refl _)).symm
                    obtain ⟨sa, hsa⟩ : ∃ sa, sumTo (belG W X) r p i x N = sa := ⟨_, rfl⟩
                    rw [hse, hsa] at hfs
                    have hpi := HP.out i x HIN.out HX.out
                    rw [stepP, HV1.out, if_neg (by simp), if_neg (by omega), HKW.out, hsa] at hpi
                    have hls200 : sa.length ≤ 200 := by rw [← hsa]; exact sumTo_len HRL.out HPL.out i x N
                    obtain ⟨a9, c9, rfl, hr9⟩ := id hfs
                    obtain ⟨ls, hls⟩ : ∃ ls, sa.length = ls := ⟨_, rfl⟩
                    have HLS := Lib.hid hls
                    have HFS2 := Lib.hid hfs
                    have hcap : ls ≤ c9 := by rw [← hls]; exact hr9.2.1
                    have hli := HORD.out i x HIN.out HX.out HV1.out (by omega)
                    have hlx12 := HLX.out
                    obtain ⟨lx, hlxE⟩ : ∃ lx, lenX W x = lx := ⟨_, rfl⟩
                    obtain ⟨li, hliE⟩ : ∃ li, lenX W i = li := ⟨_, rfl⟩
                    rw [hlxE, hliE] at hpi hli
                    rw [hlxE] at hlx12
                    rw [hls] at hpi hls200 HFS2 ⊢
                    have HB1K := Lib.hid (HB1.out.below hb2)
                    have LXR := Lib.hid (LN.out x lx HX.out hlxE wr HB1K.out.hb)
                    have LIR := Lib.hid (LN.out i li HIN.out hliE wr HB1K.out.hb)
                    have q0 : ∀ q : BelW wr, q.v.cell? ⟨w.heap.size, 0, none⟩ = some (.slice aW N cW) := fun q => bel_at (HB1K.out.hh.at (i := 0) rfl) (Below.refl _ _) q
                    have q1 : ∀ q : BelW wr, q.v.cell? ⟨w.heap.size, 1, none⟩ = some vP := fun q => bel_at (HB1K.out.hh.at (i := 1) rfl) (Below.refl _ _) q
                    have q2 : ∀ q : BelW wr, q.v.cell? ⟨w.heap.size, 2, none⟩ = some vX := fun q => bel_at (HB1K.out.hh.at (i := 2) rfl) (Below.refl _ _) q
                    obtain ⟨d, hd⟩ : ∃ d, lx - li = d := ⟨_, rfl⟩
                    have hlw : IntKind.i64.wrap ((lx : Int) - (li : Int)) = (d : Int) := by rw [IntWalk.i64_in _ (by omega)]; omega
                    have hd1 : 0 < d := by omega
                    have hd2 : d ≤ 12 := by omega
                    rw [hd] at hpi
                    obtain ⟨h, hh⟩ : ∃ h, (d - 1) / 2 = h := ⟨_, rfl⟩
                    have hh2 : h ≤ 12 := by omega
                    rw [hh] at hpi
                    have hw1 : IntKind.i64.wrap ((d : Int) - 1) = ((d - 1 : Nat) : Int) := by rw [IntWalk.i64_in _ (by omega)]; omega
                    have hqq1 : (((d - 1 : Nat) : Int)).tdiv 2 = (h : Int) := by rw [Int.tdiv_eq_ediv_of_nonneg (by omega)]; omega
                    have hqq2 : (((d - 1 : Nat) : Int)) / 2 = (h : Int) := by omega
                    have hw2 : IntKind.i64.wrap (h : Int) = (h : Int) := IntWalk.i64_in _ (by omega)
                    have hw3 : IntKind.i64.wrap ((h : Int) + 1) = (h : Int) + 1 := IntWalk.i64_in _ (by omega)
                    obtain ⟨kk, hkk⟩ : ∃ kk, min ls (h + 1) = kk := ⟨_, rfl⟩
                    have hmn : min ((h : Int) + 1) (ls : Int) = (kk : Int) := by omega
                    have hkl : kk ≤ ls := by omega
                    have hkc : kk ≤ c9 := by omega
                    have hkci : (kk : Int) ≤ (c9 : Int) := by omega
                    rw [hkk] at hpi
                    have HPI := Lib.hid hpi
                    have HKL := Lib.hid (show (sa.take kk).length = kk by rw [List.length_take, hls]; omega)
                    have HLOW := Lib.hid (show plusL [] (-1) 0 (trimL (sa.take kk)) = lowTo sa kk from low_ref sa kk (by omega))
                    have HTL := Lib.hid (show (trimL (sa.take kk)).length ≤ 1000 from Nat.le_trans (trimL_len _) (by rw [List.length_take]; omega))
                    have HKS := Lib.hid (show kk ≤ sa.length by omega)
                    clear hse hsa hfs hpi hr9 hlxE hliE hls hd hh hkk hke hkx hb2 hik hli hkx1
                    go_upto_region 22 with (fail)
                    refine wp_region_bel HMX.out (by kernel_rfl) ?_
                    repeat (first
                      | go_big_quiet_step (first | (go_at_call 29; (with_reducible refine Calls.bel_of (LXR.out _))) | (go_at_call 29; (with_reducible refine Calls.bel_of (LIR.out _))))
                      | quiet_step (first | (go_at_call 29; (with_reducible refine Calls.bel_of (LXR.out _))) | (go_at_call 29; (with_reducible refine Calls.bel_of (LIR.out _)))))
                    refine wpQuiet_nil ?_
                    intro w8 hw'
                    have hb8 := BelW.of hw'
                    clear hw' q0 q1 q2 hlw hw1 hqq1 hqq2 hw2
                    have HF8 := Lib.hid (fz_take (HFS2.out.kept (Sm.of_below hb8)) HKS.out rfl)
                    have HA8 := Lib.hid (HAK.out.below hb8)
                    have HB8 := Lib.hid (HBK.out.trans (hb8.mono HBK.out.size))
                    have TR := Lib.hid (show Calls Try.prog 74 #[.slice a9 kk c9] w8 (TrimOut a9 c9 (sa.take kk) w8) from by have := trimR_any a9 c9 (sa.take kk) w8 (by rw [HKL.out]; exact HF8.out.ints); rw [HKL.out] at this; exact this)
                    clear hb8
                    go_wp2_with (first
                      | (go_at_call 73; refine (addA (.slice a9 k2 c9) (trimL (sa.take kk)) w8 (fz_take HF8.out hk2 ht2).ints HTL.out).mono ?_; rintro e w9 ⟨v9, rfl, hf9, hb9⟩; rw [HLOW.out, ← HPI.out] at hf9; obtain ⟨a10, c10, rfl, hr10⟩ := id hf9; clear hr10; have HA9 := Lib.hid (HA8.out.below hb9); have HB9 := Lib.hid (HB8.out.trans (hb9.mono HB8.out.size)); have HF9 := Lib.hid (pol_sp (B := gA) (gA := gA) (Nat.le_of_lt HA8.out.held.lt) HA8.out.held.lt hf9); obtain ⟨v0, hc0, hz0⟩ := HA9.out.cell HIN.out; clear hf9 hb9 hk2 ht2)
                      | (go_at_call 74; refine TR.out.mono ?_; rintro e w7 ⟨k2, rfl, ht2, hk2, rfl⟩))
                    have HPT := Lib.hid (HA9.out.put HIN.out HF9.out)
                    have HBT := Lib.hid (HB9.out.setCell (p := ⟨gA, i, none⟩) (Nat.le_of_eq HGA.out) (.slice a10 (p i x).length c10))
                    go_roundw
                    case rel => exact ⟨i, (i : Int) - 1, _, by go_num, by omega, by omega, by omega, HPT.out, HBT.out⟩
                    case measure => simp [intOf]
      · have hzu : ¬ (u : Int) ≤ z := by omega
        obtain rfl : c = u := by omega
        obtain ⟨v, hcv, hfv⟩ := hA.val (j := c) (Nat.le_refl _) (HNUM.out c x HU.out HX.out HBEL.out) ⟨HBEL.out, HREF.out c HU.out⟩
        have HFV := Lib.hid hfv
        clear hA hb hfv huc hcx hz huz
        go_wp2
        go_ret
        refine ⟨_, rfl, HFV.out.mono (fun q hq => ?_), HB1.out.hb.trans (HBR.out.mono HB1.out.hb.size)⟩
        have h1 := hq.1
        have h2 := HGA.out
        have h3 := HB1.out.hb.size
        omega
end Go.Proofs.Ytmlhecfhhhebnaa

/- Polynomials: the reference's R and P at a group. -/
namespace Go.Proofs.Ytmlhecfhhhebnaa

section
variable {K n : Nat}
def ckNum (W : List (List Nat)) (R : List Nat) : Bool := (List.range W.length).all fun y => Nat.testBit (gN R y) y && (List.range W.length).all fun x => !Nat.testBit (gN R y) x || (decide (x ≤ y) && (gN R x &&& gN R y == gN R x))
theorem ckNum_all : (allGroups.all fun g => ckNum (litW g.1 g.2) (oRT g.1 g.2)) = true := by decide +kernel
theorem ckNumG (hv : validB K n = true) : ckNum (wordsG K n) (oRT K n) = true := by
  rw [(lit_of hv).1]
  exact List.all_eq_true.1 ckNum_all _ (valid_in hv)
theorem bel_refl (hv : validB K n = true) (a : Nat) (ha : a < (wordsG K n).length) : belG (wordsG K n) (nextG K n) a a = true := by
  rw [← bit_bel hv ha ha]
  have h := List.all_eq_true.1 (ckNumG hv) a (List.mem_range.2 ha)
  rw [Bool.and_eq_true] at h
  exact h.1
theorem bel_row (hv : validB K n = true) {a b : Nat} (ha : a < (wordsG K n).length) (hb : b < (wordsG K n).length) (h : belG (wordsG K n) (nextG K n) a b = true) : a ≤ b ∧ gN (oRT K n) a &&& gN (oRT K n) b = gN (oRT K n) a := by
  have h1 := List.all_eq_true.1 (ckNumG hv) b (List.mem_range.2 hb)
  rw [Bool.and_eq_true] at h1
  have h2 := List.all_eq_true.1 h1.2 a (List.mem_range.2 ha)
  have h3 : Nat.testBit (gN (oRT K n) b) a = true := by rw [← h, ← bit_bel hv ha hb]; rfl
  rw [h3] at h2
  simpa using h2
theorem bel_num (hv : validB K n = true) (a b : Nat) (ha : a < (wordsG K n).length) (hb : b < (wordsG K n).length) (h : belG (wordsG K n) (nextG K n) a b = true) : a ≤ b := (bel_row hv ha hb h).1
theorem bel_tr (hv : validB K n = true) (a b c : Nat) (ha : a < (wordsG K n).length) (hb : b < (wordsG K n).length) (hc : c < (wordsG K n).length) (h : belG (wordsG K n) (nextG K n) a b = true) (h' : belG (wordsG K n) (nextG K n) b c = true) : belG (wordsG K n) (nextG K n) a c = true := by
  have e := (bel_row hv hb hc h').2
  have h1 : Nat.testBit (gN (oRT K n) b) a = true := by rw [← h, ← bit_bel hv ha hb]; rfl
  rw [← e, Nat.testBit_and, Bool.and_eq_true] at h1
  rw [← bit_bel hv ha hc]
  exact h1.2
theorem len0_all : (allGroups.all fun g => lenX (litW g.1 g.2) 0 == 0) = true := by decide +kernel
theorem len0G (hv : validB K n = true) : lenX (wordsG K n) 0 = 0 := by
  rw [(lit_of hv).1]
  simpa using List.all_eq_true.1 len0_all _ (valid_in hv)
theorem RR_group (hv : validB K n = true) (hs : ¬ (K = 65 ∧ n = 4)) (vt : Value) (u x : Nat) (w : World) (ht : RT (wordsG K n) (nextG K n) w vt) (hu : u < (wordsG K n).length) (hx : x < (wordsG K n).length) :
    Calls Try.prog 39 #[vt, .int .i64 (u : Nat), .int .i64 (x : Nat)] w (PolOut (rT K n u x) w) :=
  RR_any (tkG hv) (lstG hv) (fun _ _ hi hj => low_bel hv hi hj) (kr_at hv hs) (rT_len hv hs) (bel_len hv) (bel_refl hv) (len0G hv) _ vt u x w (Nat.lt_succ_self _) ht hu hx
theorem RP_group (hv : validB K n = true) (hs : ¬ (K = 65 ∧ n = 4)) (vt : Value) (u x : Nat) (w : World) (ht : RT (wordsG K n) (nextG K n) w vt) (hu : u < (wordsG K n).length) (hx : x < (wordsG K n).length) :
    Calls Try.prog 40 #[vt, .int .i64 (u : Nat), .int .i64 (x : Nat)] w (PolOut (pT K n u x) w) :=
  RP_any (tkG hv) (fun _ _ hi hj => low_bel hv hi hj) (rT_len hv hs) (pT_len hv hs) (kp_at hv hs) (bel_len hv) (bel_refl hv) (bel_num hv) (bel_tr hv) (fun vt' u' x' w' ht' hu' hx' => RR_group hv hs vt' u' x' w' ht' hu' hx') vt u x w ht hu hx
end
end Go.Proofs.Ytmlhecfhhhebnaa

/- Polynomials: measure's errors; R and P of the program. -/
namespace Go.Proofs.Ytmlhecfhhhebnaa
open Go.RowKit
attribute [local go_sem] Oper.semAt_some

set_option maxRecDepth 20000 in
set_option maxHeartbeats 1000000 in
theorem measureR_no (K : Nat) (n : Int) (u v : Value) (xs ys : List Int) (w : World) (hK : K < 256) (hx : Ints w u xs) (hy : Ints w v ys) (h : okI K n [xs, ys] = false) :
    Calls Try.prog 70 #[grpI K n, u, v, .func (.func 71) #[] #[]] w (PolyErr 2 w) := by
  have RD := Lib.hid (fun w' v' (ha : Args w' v' [xs, ys]) => read_no K n v' [xs, ys] w' hK ha h)
  have HX := Lib.hid (fun o : Obj => hx.below ((Below.refl _ _).alloc (Nat.le_refl _) o))
  have HY := Lib.hid (fun o : Obj => hy.below ((Below.refl _ _).alloc (Nat.le_refl _) o))
  obtain ⟨a, c, rfl, hx1⟩ := hx
  obtain ⟨a2, c2, rfl, hy1⟩ := hy
  unfold grpI at *
  clear h hx1 hy1
  go_enter Try.func70, Try.ntmps70
  go_wp2_with (go_at_call 59; refine (RD.out _ _ (args2 (HX.out _) (HY.out _) _ (by simp))).mono ?_; rintro e w1 ⟨rfl, hb1⟩)
  go_ret2
  exact ⟨rfl, below_al2 (Nat.le_refl _) hb1⟩
set_option maxRecDepth 20000 in
set_option maxHeartbeats 1000000 in
theorem measureR_big (K n : Nat) (u v : Value) (xs ys : List Int) (w : World) (hv : validB K n = true) (hx : Ints w u xs) (hy : Ints w v ys) (h : wordB (mirs K n) xs = true) (h2 : wordB (mirs K n) ys = true) (hs : K = 65 ∧ n = 4) :
    Calls Try.prog 70 #[.agg #[.int .u8 (K : Nat), .int .i64 (n : Nat)], u, v, .func (.func 71) #[] #[]] w (PolyErr 6 w) := by
  have RD := Lib.hid (fun w' v' (ha : Args w' v' [xs, ys]) => read_yes K n v' [xs, ys] w' hv ha (all_two h h2))
  have HX := Lib.hid (fun o : Obj => hx.below ((Below.refl _ _).alloc (Nat.le_refl _) o))
  have HY := Lib.hid (fun o : Obj => hy.below ((Below.refl _ _).alloc (Nat.le_refl _) o))
  have hN := len_big hv hs
  have TW := Lib.hid (fun (bT : Nat) (w' : World) (ht : TabIs K n (wordsG K n) (nextG K n) w' bT) => tab_words ht (tkG hv))
  rw [hN] at TW
  obtain ⟨a, c, rfl, hx1⟩ := hx
  obtain ⟨a2, c2, rfl, hy1⟩ := hy
  clear h h2 hx1 hy1 hv hs hN
  go_enter Try.func70, Try.ntmps70
  go_upto_region 4 with (go_at_call 59; refine (RD.out _ _ (args2 (HX.out _) (HY.out _) _ (by simp))).mono ?_; rintro e w1 ⟨bT, v1, rfl, ht1, ho1, hb1⟩; obtain ⟨g1, c1, rfl, hc1, hc1'⟩ := own_two ho1)
  have HB1 := Lib.hid (below_al2 (Nat.le_refl _) hb1)
  obtain ⟨aW, cW, hcW⟩ := TW.out bT w1 ht1
  clear hb1 ht1 ho1
  go_wp2
  go_ret2
  exact ⟨rfl, HB1.out⟩
set_option maxRecDepth 20000 in
set_option maxHeartbeats 1000000 in
theorem R_no (K : Nat) (n : Int) (u v : Value) (xs ys : List Int) (w : World) (hK : K < 256) (hx : Ints w u xs) (hy : Ints w v ys) (h : okI K n [xs, ys] = false) :
    Calls Try.prog 37 #[grpI K n, u, v] w (PolyErr 2 w) := by
  have ME := Lib.hid (fun (w' : World) (hb : Below w.heap.size w w') => measureR_no K n u v xs ys w' hK (hx.below hb) (hy.below hb) h)
  obtain ⟨a, c, rfl, hx1⟩ := hx
  obtain ⟨a2, c2, rfl, hy1⟩ := hy
  unfold grpI at *
  clear h hx1 hy1
  go_enter Try.func37, Try.ntmps37
  go_wp2_with (go_at_call 70; refine (ME.out _ ((Below.refl _ _).alloc (Nat.le_refl _) _)).mono ?_; rintro e w1 ⟨rfl, hb1⟩)
  go_ret2
  exact ⟨rfl, below_al (Nat.le_refl _) hb1⟩
set_option maxRecDepth 20000 in
set_option maxHeartbeats 1000000 in
theorem R_big (K n : Nat) (u v : Value) (xs ys : List Int) (w : World) (hv : validB K n = true) (hx : Ints w u xs) (hy : Ints w v ys) (h : wordB (mirs K n) xs = true) (h2 : wordB (mirs K n) ys = true) (hs : K = 65 ∧ n = 4) :
    Calls Try.prog 37 #[.agg #[.int .u8 (K : Nat), .int .i64 (n : Nat)], u, v] w (PolyErr 6 w) := by
  have ME := Lib.hid (fun (w' : World) (hb : Below w.heap.size w w') => measureR_big K n u v xs ys w' hv (hx.below hb) (hy.below hb) h h2 hs)
  obtain ⟨a, c, rfl, hx1⟩ := hx
  obtain ⟨a2, c2, rfl, hy1⟩ := hy
  clear h h2 hs hv hx1 hy1
  go_enter Try.func37, Try.ntmps37
  go_wp2_with (go_at_call 70; refine (ME.out _ ((Below.refl _ _).alloc (Nat.le_refl _) _)).mono ?_; rintro e w1 ⟨rfl, hb1⟩)
  go_ret2
  exact ⟨rfl, below_al (Nat.le_refl _) hb1⟩
set_option maxRecDepth 20000 in
set_option maxHeartbeats 1000000 in
theorem R_yes (K n : Nat) (u v : Value) (xs ys : List Int) (w : World) (hv : validB K n = true) (hx : Ints w u xs) (hy : Ints w v ys) (h : wordB (mirs K n) xs = true) (h2 : wordB (mirs K n) ys = true) (hs : ¬ (K = 65 ∧ n = 4)) :
    Calls Try.prog 37 #[.agg #[.int .u8 (K : Nat), .int .i64 (n : Nat)], u, v] w (PolyOut (rT K n (ix K n xs) (ix K n ys)) w) := by
  have ME := Lib.hid (fun (w' : World) (hb : Below w.heap.size w w') => measureR_yes K n u v xs ys w' hv (hx.below hb) (hy.below hb) h h2 hs)
  obtain ⟨a, c, rfl, hx1⟩ := hx
  obtain ⟨a2, c2, rfl, hy1⟩ := hy
  clear h h2 hs hv hx1 hy1
  go_enter Try.func37, Try.ntmps37
  go_wp2_with (go_at_call 70; refine (ME.out _ ((Below.refl _ _).alloc (Nat.le_refl _) _)).mono ?_; rintro e w1 ⟨v1, rfl, ho1, hb1⟩)
  go_ret2
  exact ⟨_, rfl, OwnI.mono ho1 (by simp), below_al (Nat.le_refl _) hb1⟩
set_option maxRecDepth 20000 in
set_option maxHeartbeats 1000000 in
theorem measureP_no (K : Nat) (n : Int) (u v : Value) (xs ys : List Int) (w : World) (hK : K < 256) (hx : Ints w u xs) (hy : Ints w v ys) (h : okI K n [xs, ys] = false) :
    Calls Try.prog 70 #[grpI K n, u, v, .func (.func 72) #[] #[]] w (PolyErr 2 w) := by
  have RD := Lib.hid (fun w' v' (ha : Args w' v' [xs, ys]) => read_no K n v' [xs, ys] w' hK ha h)
  have HX := Lib.hid (fun o : Obj => hx.below ((Below.refl _ _).alloc (Nat.le_refl _) o))
  have HY := Lib.hid (fun o : Obj => hy.below ((Below.refl _ _).alloc (Nat.le_refl _) o))
  obtain ⟨a, c, rfl, hx1⟩ := hx
  obtain ⟨a2, c2, rfl, hy1⟩ := hy
  unfold grpI at *
  clear h hx1 hy1
  go_enter Try.func70, Try.ntmps70
  go_wp2_with (go_at_call 59; refine (RD.out _ _ (args2 (HX.out _) (HY.out _) _ (by simp))).mono ?_; rintro e w1 ⟨rfl, hb1⟩)
  go_ret2
  exact ⟨rfl, below_al2 (Nat.le_refl _) hb1⟩
set_option maxRecDepth 20000 in
set_option maxHeartbeats 1000000 in
theorem measureP_big (K n : Nat) (u v : Value) (xs ys : List Int) (w : World) (hv : validB K n = true) (hx : Ints w u xs) (hy : Ints w v ys) (h : wordB (mirs K n) xs = true) (h2 : wordB (mirs K n) ys = true) (hs : K = 65 ∧ n = 4) :
    Calls Try.prog 70 #[.agg #[.int .u8 (K : Nat), .int .i64 (n : Nat)], u, v, .func (.func 72) #[] #[]] w (PolyErr 6 w) := by
  have RD := Lib.hid (fun w' v' (ha : Args w' v' [xs, ys]) => read_yes K n v' [xs, ys] w' hv ha (all_two h h2))
  have HX := Lib.hid (fun o : Obj => hx.below ((Below.refl _ _).alloc (Nat.le_refl _) o))
  have HY := Lib.hid (fun o : Obj => hy.below ((Below.refl _ _).alloc (Nat.le_refl _) o))
  have hN := len_big hv hs
  have TW := Lib.hid (fun (bT : Nat) (w' : World) (ht : TabIs K n (wordsG K n) (nextG K n) w' bT) => tab_words ht (tkG hv))
  rw [hN] at TW
  obtain ⟨a, c, rfl, hx1⟩ := hx
  obtain ⟨a2, c2, rfl, hy1⟩ := hy
  clear h h2 hx1 hy1 hv hs hN
  go_enter Try.func70, Try.ntmps70
  go_upto_region 4 with (go_at_call 59; refine (RD.out _ _ (args2 (HX.out _) (HY.out _) _ (by simp))).mono ?_; rintro e w1 ⟨bT, v1, rfl, ht1, ho1, hb1⟩; obtain ⟨g1, c1, rfl, hc1, hc1'⟩ := own_two ho1)
  have HB1 := Lib.hid (below_al2 (Nat.le_refl _) hb1)
  obtain ⟨aW, cW, hcW⟩ := TW.out bT w1 ht1
  clear hb1 ht1 ho1
  go_wp2
  go_ret2
  exact ⟨rfl, HB1.out⟩
set_option maxRecDepth 20000 in
set_option maxHeartbeats 1000000 in
theorem P_no (K : Nat) (n : Int) (u v : Value) (xs ys : List Int) (w : World) (hK : K < 256) (hx : Ints w u xs) (hy : Ints w v ys) (h : okI K n [xs, ys] = false) :
    Calls Try.prog 38 #[grpI K n, u, v] w (PolyErr 2 w) := by
  have ME := Lib.hid (fun (w' : World) (hb : Below w.heap.size w w') => measureP_no K n u v xs ys w' hK (hx.below hb) (hy.below hb) h)
  obtain ⟨a, c, rfl, hx1⟩ := hx
  obtain ⟨a2, c2, rfl, hy1⟩ := hy
  unfold grpI at *
  clear h hx1 hy1
  go_enter Try.func38, Try.ntmps38
  go_wp2_with (go_at_call 70; refine (ME.out _ ((Below.refl _ _).alloc (Nat.le_refl _) _)).mono ?_; rintro e w1 ⟨rfl, hb1⟩)
  go_ret2
  exact ⟨rfl, below_al (Nat.le_refl _) hb1⟩
set_option maxRecDepth 20000 in
set_option maxHeartbeats 1000000 in
theorem P_big (K n : Nat) (u v : Value) (xs ys : List Int) (w : World) (hv : validB K n = true) (hx : Ints w u xs) (hy : Ints w v ys) (h : wordB (mirs K n) xs = true) (h2 : wordB (mirs K n) ys = true) (hs : K = 65 ∧ n = 4) :
    Calls Try.prog 38 #[.agg #[.int .u8 (K : Nat), .int .i64 (n : Nat)], u, v] w (PolyErr 6 w) := by
  have ME := Lib.hid (fun (w' : World) (hb : Below w.heap.size w w') => measureP_big K n u v xs ys w' hv (hx.below hb) (hy.below hb) h h2 hs)
  obtain ⟨a, c, rfl, hx1⟩ := hx
  obtain ⟨a2, c2, rfl, hy1⟩ := hy
  clear h h2 hs hv hx1 hy1
  go_enter Try.func38, Try.ntmps38
  go_wp2_with (go_at_call 70; refine (ME.out _ ((Below.refl _ _).alloc (Nat.le_refl _) _)).mono ?_; rintro e w1 ⟨rfl, hb1⟩)
  go_ret2
  exact ⟨rfl, below_al (Nat.le_refl _) hb1⟩
set_option maxRecDepth 20000 in
set_option maxHeartbeats 1000000 in
theorem P_yes (K n : Nat) (u v : Value) (xs ys : List Int) (w : World) (hv : validB K n = true) (hx : Ints w u xs) (hy : Ints w v ys) (h : wordB (mirs K n) xs = true) (h2 : wordB (mirs K n) ys = true) (hs : ¬ (K = 65 ∧ n = 4)) :
    Calls Try.prog 38 #[.agg #[.int .u8 (K : Nat), .int .i64 (n : Nat)], u, v] w (PolyOut (pT K n (ix K n xs) (ix K n ys)) w) := by
  have ME := Lib.hid (fun (w' : World) (hb : Below w.heap.size w w') => measureP_yes K n u v xs ys w' hv (hx.below hb) (hy.below hb) h h2 hs)
  obtain ⟨a, c, rfl, hx1⟩ := hx
  obtain ⟨a2, c2, rfl, hy1⟩ := hy
  clear h h2 hs hv hx1 hy1
  go_enter Try.func38, Try.ntmps38
  go_wp2_with (go_at_call 70; refine (ME.out _ ((Below.refl _ _).alloc (Nat.le_refl _) _)).mono ?_; rintro e w1 ⟨v1, rfl, ho1, hb1⟩)
  go_ret2
  exact ⟨_, rfl, OwnI.mono ho1 (by simp), below_al (Nat.le_refl _) hb1⟩
end Go.Proofs.Ytmlhecfhhhebnaa

/- MirrorPolynomials: the walks. -/
namespace Go.Proofs.Ytmlhecfhhhebnaa
open Go.RowKit
attribute [local go_sem] Oper.semAt_some

theorem rnum_bel {m N : Nat} {W X : List (List Nat)} {vt v : Value} {w w1 : World} (ht : RT W X w vt) (hk : Tk m N W X) (hb : Below w.heap.size w w1) {xs : List Int} {i : Nat} (hv : Ints w v xs) (h1 : toI (natW xs) = xs) (h2 : ∀ s ∈ natW xs, s < m) (hi : walkX X 0 (natW xs) = i) (q : BelW w1) :
    Calls Try.prog 22 #[vt, .int .i64 0, v] q.v fun e w' => e = .returned (.int .i64 ((i : Nat) : Int)) ∧ Below q.v.heap.size q.v w' := by
  have hbq := hb.trans (q.h.mono hb.size)
  have := RNumber_any vt 0 v (natW xs) q.v (ht.below hbq) hk (by rw [h1]; exact hv.below hbq) hk.pos h2
  rw [hi] at this
  exact this
theorem kind_no {K n : Nat} (hs : ¬ (K = 65 ∧ n = 4)) : ((K : Int) == 65) = false ∨ (((K : Int) == 65) = true ∧ ((n : Int) == 4) = false) := by
  by_cases h : K = 65
  · refine .inr ⟨by simp [h], ?_⟩
    have : n ≠ 4 := fun e => hs ⟨h, e⟩
    simp; omega
  · exact .inl (by simp; omega)
theorem poly_form {e : TypeId} {B : Nat} {w : World} {v : Value} {l : List Int} (h : OwnI e B w v l) : ∃ a c, v = .slice a l.length c := h.form

set_option maxRecDepth 20000 in
set_option maxHeartbeats 4000000 in
theorem PolL_no (K : Nat) (n : Int) (vu vw : Value) (xs ys : List Int) (w : World) (hK : K < 256) (hx : Ints w vu xs) (hy : Ints w vw ys) (h : okI K n [xs, ys] = false) :
    Calls Try.prog 6 #[grpI K n, vu, vw] w (TrueM w) := by
  have FN := Lib.hid (fun w' v' (ha : Args w' v' [xs, ys]) => by have := fine_any K n v' [xs, ys] w' hK ha; rw [h] at this; exact this)
  have AW := Lib.hid (fun w' => awake_any w')
  have OF := Lib.hid (fun w' => Of_any K n w')
  have LU := Lib.hid (fun w' (hb : Below (w.heap.size + 1) (w.alloc (.cells #[.int .u8 (K : Nat), .int .i64 n] 23)) w') => list_any vu xs w' (intsS hx hb))
  have LW := Lib.hid (fun w' (hb : Below (w.heap.size + 1) (w.alloc (.cells #[.int .u8 (K : Nat), .int .i64 n] 23)) w') => list_any vw ys w' (intsS hy hb))
  have HU := Lib.hid (fun w' (hb : Below (w.heap.size + 1) (w.alloc (.cells #[.int .u8 (K : Nat), .int .i64 n] 23)) w') => intsS hx hb)
  have HW := Lib.hid (fun w' (hb : Below (w.heap.size + 1) (w.alloc (.cells #[.int .u8 (K : Nat), .int .i64 n] 23)) w') => intsS hy hb)
  have MR := Lib.hid (fun u' v' w' (hi : Ints w' u' (xs.take 34)) (hj : Ints w' v' (ys.take 34)) => R_no K n u' v' _ _ w' hK hi hj (by rw [okI_take2]; exact h))
  have MP := Lib.hid (fun u' v' w' (hi : Ints w' u' (xs.take 34)) (hj : Ints w' v' (ys.take 34)) => P_no K n u' v' _ _ w' hK hi hj (by rw [okI_take2]; exact h))
  have hlu : (xs.take 34).length ≤ 17592186044416 := by rw [List.length_take]; omega
  have hlw : (ys.take 34).length ≤ 17592186044416 := by rw [List.length_take]; omega
  obtain ⟨a, c, rfl, hx1⟩ := hx
  obtain ⟨a2, c2, rfl, hy1⟩ := hy
  unfold grpI at *
  clear hx1 hy1 h
  go_enter Try.func6, Try.ntmps6
  go_wp2_with (first
      | (go_at_call 20; refine (AW.out _).mono ?_; rintro e w10 ⟨rfl, hb10'⟩; have hb10 := chainS hb9 hb10')
      | (go_at_call 19; refine (FN.out _ _ (args2 (HU.out w8 hb8) (HW.out w8 hb8) _ rfl)).mono ?_; rintro e w9 ⟨rfl, hb9q⟩; have hb9' := below_al (Nat.le_refl _) hb9q; have hb9 := chainS hb8 hb9'; have g90 := (heldS hb9).at (i := 0) rfl; have g91 := (heldS hb9).at (i := 1) rfl)
      | (go_at_call 38; refine (MP.out v6 v7 w7 ((ho6.below hb7').ints hlu) (ho7.ints hlw)).mono ?_; rintro e w8 ⟨rfl, hb8'⟩; have hb8 := chainS hb7 hb8'; have g80 := (heldS hb8).at (i := 0) rfl; have g81 := (heldS hb8).at (i := 1) rfl)
      | (go_at_call 17; refine (LW.out w6 hb6).mono ?_; rintro e w7 ⟨v7, rfl, ho7, hb7'⟩; have hb7 := chainS hb6 hb7')
      | (go_at_call 17; refine (LU.out w5 hb5).mono ?_; rintro e w6 ⟨v6, rfl, ho6, hb6'⟩; have hb6 := chainS hb5 hb6')
      | (go_at_call 16; refine (OF.out _).mono ?_; rintro e w5 ⟨rfl, hb5'⟩; have hb5 := chainS hb4 hb5')
      | (go_at_call 37; refine (MR.out v2 v3 w3 ((ho2.below hb3').ints hlu) (ho3.ints hlw)).mono ?_; rintro e w4 ⟨rfl, hb4'⟩; have hb4 := chainS hb3 hb4'; have g40 := (heldS hb4).at (i := 0) rfl; have g41 := (heldS hb4).at (i := 1) rfl)
      | (go_at_call 17; refine (LW.out w2 hb2).mono ?_; rintro e w3 ⟨v3, rfl, ho3, hb3'⟩; have hb3 := chainS hb2 hb3')
      | (go_at_call 17; refine (LU.out w1 hb1).mono ?_; rintro e w2 ⟨v2, rfl, ho2, hb2'⟩; have hb2 := chainS hb1 hb2')
      | (go_at_call 16; refine (OF.out _).mono ?_; rintro e w1 ⟨rfl, hb1q⟩; have hb1 := hb1q.mono (show w.heap.size + 1 ≤ _ by simp)))
  go_ret
  exact ⟨rfl, chainE hb10⟩

set_option maxRecDepth 20000 in
set_option maxHeartbeats 8000000 in
theorem PolL_big (K n : Nat) (vu vw : Value) (xs ys : List Int) (w : World) (hv : validB K n = true) (hx : Ints w vu xs) (hy : Ints w vw ys) (q1 : wordB (mirs K n) xs = true) (q2 : wordB (mirs K n) ys = true) (hs : K = 65 ∧ n = 4) :
    Calls Try.prog 6 #[.agg #[.int .u8 (K : Nat), .int .i64 (n : Nat)], vu, vw] w (TrueM w) := by
  have hK := K_lt hv
  have hok : okI K (n : Int) [xs, ys] = true := by rw [okI_cast hv]; simp [q1, q2]
  have FN := Lib.hid (fun w' v' (ha : Args w' v' [xs, ys]) => by have := fine_any K (n : Int) v' [xs, ys] w' hK ha; rw [hok] at this; exact this)
  have AW := Lib.hid (fun w' => awake_any w')
  have OF := Lib.hid (fun w' => Of_any K (n : Int) w')
  have n1 := word_nat q1
  have n2 := word_nat q2
  have LU := Lib.hid (fun w' (hb : Below (w.heap.size + 1) (w.alloc (.cells #[.int .u8 (K : Nat), .int .i64 (n : Nat)] 23)) w') => by have := list_any vu xs w' (intsS hx hb); rw [List.take_of_length_le (by omega)] at this; exact this)
  have LW := Lib.hid (fun w' (hb : Below (w.heap.size + 1) (w.alloc (.cells #[.int .u8 (K : Nat), .int .i64 (n : Nat)] 23)) w') => by have := list_any vw ys w' (intsS hy hb); rw [List.take_of_length_le (by omega)] at this; exact this)
  have HU := Lib.hid (fun w' (hb : Below (w.heap.size + 1) (w.alloc (.cells #[.int .u8 (K : Nat), .int .i64 (n : Nat)] 23)) w') => intsS hx hb)
  have HW := Lib.hid (fun w' (hb : Below (w.heap.size + 1) (w.alloc (.cells #[.int .u8 (K : Nat), .int .i64 (n : Nat)] 23)) w') => intsS hy hb)
  have hlu := word_len q1
  have hlw := word_len q2
  have MR := Lib.hid (fun u' v' w' (hi : Ints w' u' xs) (hj : Ints w' v' ys) => R_big K n u' v' xs ys w' hv hi hj q1 q2 hs)
  have MP := Lib.hid (fun u' v' w' (hi : Ints w' u' xs) (hj : Ints w' v' ys) => P_big K n u' v' xs ys w' hv hi hj q1 q2 hs)
  have hk65 : ((K : Int) == 65) = true := by simp [hs.1]
  have hk4 : ((n : Int) == 4) = true := by simp [hs.2]
  obtain ⟨a, c, rfl, hx1⟩ := hx
  obtain ⟨a2, c2, rfl, hy1⟩ := hy
  unfold grpI at *
  clear hx1 hy1 hv hs hok q1 q2 n1 n2
  go_enter Try.func6, Try.ntmps6
  go_wp2_with (first
      | (go_at_call 20; refine (AW.out _).mono ?_; rintro e w10 ⟨rfl, hb10'⟩; have hb10 := chainS hb9 hb10')
      | (go_at_call 19; refine (FN.out _ _ (args2 (HU.out w8 hb8) (HW.out w8 hb8) _ rfl)).mono ?_; rintro e w9 ⟨rfl, hb9q⟩; have hb9' := below_al (Nat.le_refl _) hb9q; have hb9 := chainS hb8 hb9'; have g90 := (heldS hb9).at (i := 0) rfl; have g91 := (heldS hb9).at (i := 1) rfl)
      | (go_at_call 38; refine (MP.out v6 v7 w7 ((ho6.below hb7').ints hlu) (ho7.ints hlw)).mono ?_; rintro e w8 ⟨rfl, hb8'⟩; have hb8 := chainS hb7 hb8'; have g80 := (heldS hb8).at (i := 0) rfl; have g81 := (heldS hb8).at (i := 1) rfl)
      | (go_at_call 17; refine (LW.out w6 hb6).mono ?_; rintro e w7 ⟨v7, rfl, ho7, hb7'⟩; have hb7 := chainS hb6 hb7')
      | (go_at_call 17; refine (LU.out w5 hb5).mono ?_; rintro e w6 ⟨v6, rfl, ho6, hb6'⟩; have hb6 := chainS hb5 hb6')
      | (go_at_call 16; refine (OF.out _).mono ?_; rintro e w5 ⟨rfl, hb5'⟩; have hb5 := chainS hb4 hb5')
      | (go_at_call 37; refine (MR.out v2 v3 w3 ((ho2.below hb3').ints hlu) (ho3.ints hlw)).mono ?_; rintro e w4 ⟨rfl, hb4'⟩; have hb4 := chainS hb3 hb4'; have g40 := (heldS hb4).at (i := 0) rfl; have g41 := (heldS hb4).at (i := 1) rfl)
      | (go_at_call 17; refine (LW.out w2 hb2).mono ?_; rintro e w3 ⟨v3, rfl, ho3, hb3'⟩; have hb3 := chainS hb2 hb3')
      | (go_at_call 17; refine (LU.out w1 hb1).mono ?_; rintro e w2 ⟨v2, rfl, ho2, hb2'⟩; have hb2 := chainS hb1 hb2')
      | (go_at_call 16; refine (OF.out _).mono ?_; rintro e w1 ⟨rfl, hb1q⟩; have hb1 := hb1q.mono (show w.heap.size + 1 ≤ _ by simp)))
  go_ret
  exact ⟨rfl, chainE hb10⟩

set_option maxRecDepth 20000 in
set_option maxHeartbeats 8000000 in
theorem PolL_yes (K n : Nat) (vu vw : Value) (xs ys : List Int) (w : World) (hv : validB K n = true) (hx : Ints w vu xs) (hy : Ints w vw ys) (q1 : wordB (mirs K n) xs = true) (q2 : wordB (mirs K n) ys = true) (hs : ¬ (K = 65 ∧ n = 4)) :
    Calls Try.prog 6 #[.agg #[.int .u8 (K : Nat), .int .i64 (n : Nat)], vu, vw] w (TrueM w) := by
  have hK := K_lt hv
  have hok : okI K (n : Int) [xs, ys] = true := by rw [okI_cast hv]; simp [q1, q2]
  have FN := Lib.hid (fun w' v' (ha : Args w' v' [xs, ys]) => by have := fine_any K (n : Int) v' [xs, ys] w' hK ha; rw [hok] at this; exact this)
  have AW := Lib.hid (fun w' => awake_any w')
  have OF := Lib.hid (fun w' => Of_any K (n : Int) w')
  have n1 := word_nat q1
  have n2 := word_nat q2
  have LU := Lib.hid (fun w' (hb : Below (w.heap.size + 1) (w.alloc (.cells #[.int .u8 (K : Nat), .int .i64 (n : Nat)] 23)) w') => by have := list_any vu xs w' (intsS hx hb); rw [List.take_of_length_le (by omega)] at this; exact this)
  have LW := Lib.hid (fun w' (hb : Below (w.heap.size + 1) (w.alloc (.cells #[.int .u8 (K : Nat), .int .i64 (n : Nat)] 23)) w') => by have := list_any vw ys w' (intsS hy hb); rw [List.take_of_length_le (by omega)] at this; exact this)
  have HU := Lib.hid (fun w' (hb : Below (w.heap.size + 1) (w.alloc (.cells #[.int .u8 (K : Nat), .int .i64 (n : Nat)] 23)) w') => intsS hx hb)
  have HW := Lib.hid (fun w' (hb : Below (w.heap.size + 1) (w.alloc (.cells #[.int .u8 (K : Nat), .int .i64 (n : Nat)] 23)) w') => intsS hy hb)
  have hlu := word_len q1
  have hlw := word_len q2
  have EL := Lib.hid (fun w' => Elements_any K n w' hv)
  have HPOS := Lib.hid (tkG hv).pos
  have HMX := Lib.hid (show Try.prog.follows .mixedOrders = true by kernel_rfl)
  have hi1 := ix_lt hv q1
  have hi2 := ix_lt hv q2
  have hk65 := kind_no hs
  have lr := rT_len hv hs (ix K n xs) (ix K n ys)
  have lp := pT_len hv hs (ix K n xs) (ix K n ys)
  have MR := Lib.hid (fun u' v' w' (hi : Ints w' u' xs) (hj : Ints w' v' ys) => R_yes K n u' v' xs ys w' hv hi hj q1 q2 hs)
  have MP := Lib.hid (fun u' v' w' (hi : Ints w' u' xs) (hj : Ints w' v' ys) => P_yes K n u' v' xs ys w' hv hi hj q1 q2 hs)
  have RR := Lib.hid (fun (vt : Value) (w' : World) (ht : RT (wordsG K n) (nextG K n) w' vt) => RR_group hv hs vt (ix K n xs) (ix K n ys) w' ht hi1 hi2)
  have RP := Lib.hid (fun (vt : Value) (w' : World) (ht : RT (wordsG K n) (nextG K n) w' vt) => RP_group hv hs vt (ix K n xs) (ix K n ys) w' ht hi1 hi2)
  have RNU := Lib.hid (fun (vt : Value) (w' : World) (ht : RT (wordsG K n) (nextG K n) w' vt) (hb : Below (w.heap.size + 1) (w.alloc (.cells #[.int .u8 (K : Nat), .int .i64 (n : Nat)] 23)) w') => rnum_bel (i := ix K n xs) ht (tkG hv) (Below.refl w'.heap.size w') (intsS hx hb) n1.1 n1.2.1 rfl)
  have RNW := Lib.hid (fun (vt : Value) (w' : World) (ht : RT (wordsG K n) (nextG K n) w' vt) (hb : Below (w.heap.size + 1) (w.alloc (.cells #[.int .u8 (K : Nat), .int .i64 (n : Nat)] 23)) w') => rnum_bel (i := ix K n ys) ht (tkG hv) (Below.refl w'.heap.size w') (intsS hy hb) n2.1 n2.2.1 rfl)
  obtain ⟨N, hNe⟩ : ∃ N, (wordsG K n).length = N := ⟨_, rfl⟩
  have HNE := Lib.hid hNe
  obtain ⟨i1, e1⟩ : ∃ i1, ix K n xs = i1 := ⟨_, rfl⟩
  obtain ⟨i2, e2⟩ : ∃ i2, ix K n ys = i2 := ⟨_, rfl⟩
  rw [e1, e2] at MR MP RR RP lr lp
  rw [e1] at RNU
  rw [e2] at RNW
  obtain ⟨gr, er⟩ : ∃ gr, rT K n i1 i2 = gr := ⟨_, rfl⟩
  obtain ⟨gp, ep⟩ : ∃ gp, pT K n i1 i2 = gp := ⟨_, rfl⟩
  rw [er] at MR RR lr
  rw [ep] at MP RP lp
  have HLR := Lib.hid (show gr.length ≤ 17592186044416 by omega)
  have HLP := Lib.hid (show gp.length ≤ 17592186044416 by omega)
  have HU0 := Lib.hid hx
  have HW0 := Lib.hid hy
  obtain ⟨a, c, rfl, hx1⟩ := hx
  obtain ⟨a2, c2, rfl, hy1⟩ := hy
  unfold grpI at *
  clear hx1 hy1 hv hs hok q1 q2 n1 n2 hNe e1 e2 er ep hi1 hi2 lr lp
  rcases hk65 with hk65 | ⟨hk65, hk4⟩
  all_goals
    go_enter Try.func6, Try.ntmps6
    go_upto_region 8 with (first
        | ((with_reducible refine is_store 36 ?_); refine wpl_store_rt (by rfl) _ _ (by rfl) w10.heap.size (.slice (some ⟨gW, 0, none⟩) N cW) (.slice aP lP cP) (.slice aX lX cX) [.slice none 0 0, .slice none 0 0, .slice none 0 0] rfl (by rfl) (by rfl) (by rfl) (by rfl) (by rfl) (Held.made (by simp)) ?_; intro w11 hT11 hsm11 hsz11; have hb11' : Below w10.heap.size w10 w11 := hsm11.below ((Below.refl _ _).alloc (Nat.le_refl _) _) (Nat.le_refl _) (by simp); have hb11 := chainS hb10 hb11'; have t0 := hT11.at (i := 0) rfl; have t1 := hT11.at (i := 1) rfl; have t2 := hT11.at (i := 2) rfl; clear hsm11 hsz11)
        | (go_at_call 21; refine (EL.out w9).mono ?_; rintro e w10 ⟨v10, rfl, hrt10, hb10'⟩; have hb10 := chainS hb9 hb10'; have hq10 := hrt10.rt; clear hrt10; obtain ⟨gW, cW, aP, lP, cP, aX, lX, cX, rfl⟩ := RT.made hq10 HPOS.out; rw [HNE.out] at hq10; rw [HNE.out])
        | (go_at_call 19; refine (FN.out _ _ (args2 (HU.out w8 hb8) (HW.out w8 hb8) _ rfl)).mono ?_; rintro e w9 ⟨rfl, hb9q⟩; have hb9' := below_al (Nat.le_refl _) hb9q; have hb9 := chainS hb8 hb9'; have g90 := (heldS hb9).at (i := 0) rfl; have g91 := (heldS hb9).at (i := 1) rfl)
        | (go_at_call 38; refine (MP.out v6 v7 w7 ((ho6.below hb7').ints hlu) (ho7.ints hlw)).mono ?_; rintro e w8 ⟨v8, rfl, ho8, hb8'⟩; have hb8 := chainS hb7 hb8'; have g80 := (heldS hb8).at (i := 0) rfl; have g81 := (heldS hb8).at (i := 1) rfl; obtain ⟨a8, c8, rfl⟩ := poly_form ho8)
        | (go_at_call 17; refine (LW.out w6 hb6).mono ?_; rintro e w7 ⟨v7, rfl, ho7, hb7'⟩; have hb7 := chainS hb6 hb7')
        | (go_at_call 17; refine (LU.out w5 hb5).mono ?_; rintro e w6 ⟨v6, rfl, ho6, hb6'⟩; have hb6 := chainS hb5 hb6')
        | (go_at_call 16; refine (OF.out _).mono ?_; rintro e w5 ⟨rfl, hb5'⟩; have hb5 := chainS hb4 hb5')
        | (go_at_call 37; refine (MR.out v2 v3 w3 ((ho2.below hb3').ints hlu) (ho3.ints hlw)).mono ?_; rintro e w4 ⟨v4, rfl, ho4, hb4'⟩; have hb4 := chainS hb3 hb4'; have g40 := (heldS hb4).at (i := 0) rfl; have g41 := (heldS hb4).at (i := 1) rfl; obtain ⟨a4, c4, rfl⟩ := poly_form ho4)
        | (go_at_call 17; refine (LW.out w2 hb2).mono ?_; rintro e w3 ⟨v3, rfl, ho3, hb3'⟩; have hb3 := chainS hb2 hb3')
        | (go_at_call 17; refine (LU.out w1 hb1).mono ?_; rintro e w2 ⟨v2, rfl, ho2, hb2'⟩; have hb2 := chainS hb1 hb2')
        | (go_at_call 16; refine (OF.out _).mono ?_; rintro e w1 ⟨rfl, hb1q⟩; have hb1 := hb1q.mono (show w.heap.size + 1 ≤ _ by simp)))
    have HR11 := Lib.hid (hq10.below hb11')
    have HT11 := Lib.hid hT11
    have HB11 := Lib.hid hb11
    have HO4 := Lib.hid (((((((ho4.below hb5').below hb6').below hb7').below hb8').below hb9').below hb10').below hb11')
    have HO8 := Lib.hid (((ho8.below hb9').below hb10').below hb11')
    clear hb2' hb3' hb4' hb5' hb6' hb7' hb8' hb9' hb10' hb11' hb1 hb2 hb3 hb4 hb5 hb6 hb7 hb8 hb9 hb10 hb11 hb1q hb9q hq10 hT11 ho2 ho3 ho4 ho6 ho7 ho8 g40 g41 g80 g81 g90 g91 t0 t1 t2
    have NU := Lib.hid (RNU.out (.agg #[.slice (some ⟨gW, 0, none⟩) N cW, .slice aP lP cP, .slice aX lX cX]) w11 HR11.out HB11.out)
    have NW := Lib.hid (RNW.out (.agg #[.slice (some ⟨gW, 0, none⟩) N cW, .slice aP lP cP, .slice aX lX cX]) w11 HR11.out HB11.out)
    have q0 : ∀ q : BelW w11, q.v.cell? ⟨w10.heap.size, 0, none⟩ = some (.slice (some ⟨gW, 0, none⟩) N cW) := fun q => bel_at (HT11.out.at (i := 0) rfl) (Below.refl _ _) q
    have q1 : ∀ q : BelW w11, q.v.cell? ⟨w10.heap.size, 1, none⟩ = some (.slice aP lP cP) := fun q => bel_at (HT11.out.at (i := 1) rfl) (Below.refl _ _) q
    have q2 : ∀ q : BelW w11, q.v.cell? ⟨w10.heap.size, 2, none⟩ = some (.slice aX lX cX) := fun q => bel_at (HT11.out.at (i := 2) rfl) (Below.refl _ _) q
    refine wp_region_bel HMX.out (by kernel_rfl) ?_
    repeat (first
      | go_big_quiet_step (first | (go_at_call 22; (with_reducible refine Calls.bel_of (NU.out _))) | (go_at_call 22; (with_reducible refine Calls.bel_of (NW.out _))))
      | quiet_step (first | (go_at_call 22; (with_reducible refine Calls.bel_of (NU.out _))) | (go_at_call 22; (with_reducible refine Calls.bel_of (NW.out _)))))
    refine wpQuiet_nil ?_
    intro w12 hw'
    have hb12' := BelW.of hw'
    clear hw' q0 q1 q2
    have hb12 := chainS HB11.out hb12'
    have HO4q := Lib.hid (HO4.out.below hb12')
    have HO8q := Lib.hid (HO8.out.below hb12')
    have hq12 := HR11.out.below hb12'
    have hT12 := HT11.out.below hb12' HT11.out.lt
    have t0 := hT12.at (i := 0) rfl
    have t1 := hT12.at (i := 1) rfl
    have t2 := hT12.at (i := 2) rfl
    go_wp2_with (first
      | (go_at_call 20; refine (AW.out _).mono ?_; rintro e w17 ⟨rfl, hb17'⟩; have hb17 := chainS hb16 hb17')
      | (go_at_call 23; refine (EqualM_any _ _ _ _ w15 ((((HO8q.out.below hb13').below hb14').below hb15').ints HLP.out) hf15.ints true (by simp)).mono ?_; rintro e w16 ⟨rfl, hb16'⟩; have hb16 := chainS hb15 hb16')
      | (go_at_call 40; refine (RP.out _ w14 ((hq12.below hb13').below hb14')).mono ?_; rintro e w15 ⟨v15, rfl, hf15, hb15'⟩; have hb15 := chainS hb14 hb15')
      | (go_at_call 23; refine (EqualM_any _ _ _ _ w13 ((HO4q.out.below hb13').ints HLR.out) hf13.ints true (by simp)).mono ?_; rintro e w14 ⟨rfl, hb14'⟩; have hb14 := chainS hb13 hb14'; have hT14 := (hT12.below hb13' hT12.lt).below hb14' (hT12.below hb13' hT12.lt).lt; have u0 := hT14.at (i := 0) rfl; have u1 := hT14.at (i := 1) rfl; have u2 := hT14.at (i := 2) rfl)
      | (go_at_call 39; refine (RR.out _ w12 hq12).mono ?_; rintro e w13 ⟨v13, rfl, hf13, hb13'⟩; have hb13 := chainS hb12 hb13'))
    go_ret
    exact ⟨rfl, chainE hb17⟩

theorem mirrorPolynomials_true (K : Nat) (n : Int) (vu : Value) (xs : List Int) (vw : Value) (ys : List Int) (w : World) (hK : K < 256) (hx : Ints w vu xs) (hy : Ints w vw ys) :
    Calls Try.prog 6 #[grpI K n, vu, vw] w (TrueM w) := by
  cases hok : okI K n [xs, ys] with
  | false => exact PolL_no K n vu vw xs ys w hK hx hy hok
  | true =>
    obtain ⟨m, rfl, hv, hall⟩ := okI_nat hok
    simp only [List.all_cons, List.all_nil, Bool.and_true, Bool.and_eq_true] at hall
    unfold grpI
    by_cases hs : K = 65 ∧ m = 4
    · exact PolL_big K m vu vw xs ys w hv hx hy hall.1 hall.2 hs
    · exact PolL_yes K m vu vw xs ys w hv hx hy hall.1 hall.2 hs
end Go.Proofs.Ytmlhecfhhhebnaa

/- What every law's statement asks beside its walk: a witness, the arguments opened, the form closed. -/
namespace Go.Proofs.Ytmlhecfhhhebnaa
open Go.RowKit Go.ChangeShapes Go.WideShapes Go.ChangeAt Go.WideElems Go.Joins Go.Deep

theorem ownK : ownKnob Try.prog.godebug = none := by kernel_rfl
theorem cellsInt : Try.prog.cellsOf 3 = 1 := by kernel_rfl
theorem bytesInt : Try.prog.bytesOf 3 = 8 := by kernel_rfl
theorem laidOut : laidOutB Try.prog = true := by kernel_rfl
set_option maxRecDepth 100000 in
theorem groupFields : ∃ f0 f1, Try.prog.underlying 23 = some (.struct #[f0, f1]) ∧ oneCellFields Try.prog #[f0, f1] = true ∧ f0.type = 5 ∧ f1.type = 3 :=
  ⟨_, _, Try.underlying23, by kernel_rfl, rfl, rfl⟩
theorem groupCells : Try.prog.cellsOf 23 = 2 := by kernel_rfl

section
variable {H : Type} {enc : TypeId × Value → H}

set_option maxRecDepth 100000 in
theorem group_arg {W : World} {base : Nat} {v0 : Value} {d0 : DataW H} {p0 : List MemPlace} (hok : Value.okWide Try.prog W .any base 23 v0) (h0 : DataW.Trod enc Try.prog W 0 (fun _ => true) true 23 v0 d0 p0) :
    ∃ (K : Nat) (n : Int), v0 = grpI K n ∧ K < 256 := by
  obtain ⟨f0, f1, hs, hone, e0, e1⟩ := groupFields
  obtain ⟨c0, c1, y0, y1, nn, rfl, _, _, t0, t1⟩ := open_agg2 hs hone groupCells hok h0
  rw [e0] at t0
  rw [e1] at t1
  obtain ⟨a, ha, _, hw⟩ := DataW.trod_int Try.underlying5 t0
  obtain ⟨b, hb, _, _⟩ := DataW.trod_int Try.underlying3 t1
  simp only [List.cons.injEq, and_true] at ha hb
  subst ha
  subst hb
  simp [Lit.wf, IntKind.min, IntKind.max, IntKind.signed, IntKind.bits] at hw
  exact ⟨a.toNat, b, by unfold grpI; rw [show ((a.toNat : Nat) : Int) = a by omega], by omega⟩

set_option maxRecDepth 100000 in
theorem slice_arg {W : World} {base : Nat} {v0 : Value} {d0 : DataW H} {p0 : List MemPlace} (hok : Value.okWide Try.prog W .any base 24 v0) (h0 : DataW.Trod enc Try.prog W 0 (fun _ => true) true 24 v0 d0 p0)
    (hs : ∀ elems spare, d0 = .slice elems spare → (elems.length + spare.length) * 8 ≤ reachBytes) (hlt : ∀ x ∈ p0, x.block < W.heap.size) : ∃ xs, Ints W v0 xs := by
  obtain ⟨a0, len, cap, rfl⟩ := okWide_slice Try.underlying24 hok
  obtain ⟨fuel0, hf⟩ := h0
  rcases open_ints Try.underlying24 Try.underlying3 cellsInt hf with ⟨hcs, hx⟩ | ⟨a, len', cap', zs, hcs, _, hl, hm, hz, hx, hcell, hwz⟩
  · simp [Value.cells] at hcs
    obtain ⟨rfl, rfl, rfl⟩ := hcs
    exact ⟨[], Ints.nil W⟩
  · simp [Value.cells] at hcs
    obtain ⟨rfl, rfl, rfl⟩ := hcs
    simp only [Prod.mk.injEq] at hx
    obtain ⟨rfl, rfl⟩ := hx
    simp only [if_true] at hz
    have hlen : (zs.take len).length = len := by simp; omega
    have hreach := hs _ _ rfl
    simp only [lits, List.length_map, List.length_take, List.length_drop, reachBytes] at hreach
    refine ⟨zs.take len, some a, cap, by rw [hlen], by rw [hlen]; omega, by rw [hlen]; exact hl, fun hne => ?_⟩
    have h0l : 0 < len := by rw [← hlen]; exact List.length_pos_iff.2 hne
    obtain ⟨b, off, spot⟩ := a
    have hspot : spot = none := by simpa [Addr.add] using World.cell?_spot (hcell 0 (by omega))
    subst hspot
    refine ⟨b, off, rfl, World.block_lt_of_cell? W _ (hcell 0 (by omega)), fun i hi => ?_⟩
    rw [hlen] at hi
    have := hcell i (by omega)
    rw [add_plain] at this
    rw [this]
    simp [List.getD, List.getElem?_eq_getElem (show i < zs.length by omega)]

set_option maxRecDepth 100000 in
theorem below_trodAll {W W' : World} (hb : Below W.heap.size W W') : ∀ {ts : List TypeId} {vs : List Value} {ds : List (DataW H)} {p : List MemPlace}, (∀ t ∈ ts, Try.prog.readableRec t = true ∧ t < Try.prog.types.size) →
    (∀ x ∈ p, x.block < W.heap.size) → DataW.TrodAll enc Try.prog W 0 (fun _ => true) true ts vs ds p → DataW.TrodAll enc Try.prog W' 0 (fun b => decide (b < W.heap.size)) true ts vs ds p
  | [], _, _, _, _, _, h => by
    obtain ⟨rfl, rfl, rfl⟩ := trodAll_nil h
    exact rfl
  | t :: ts, _, _, _, ht, hlt, h => by
    obtain ⟨v, vs1, d, ds1, a, b, rfl, rfl, rfl, h1, h2⟩ := trodAll_cons h
    refine trodAll_cons_mk (Below.trod laidOut (ht t List.mem_cons_self).1 (ht t List.mem_cons_self).2 h1 hb (fun x hx => hlt x (List.mem_append_left _ hx))) ?_
    exact below_trodAll hb (fun u hu => ht u (List.mem_cons_of_mem _ hu)) (fun x hx => hlt x (List.mem_append_right _ hx)) h2

set_option maxRecDepth 100000 in
/-- A law that answered true and left what lay before. -/
theorem post_law {spec : ChangeSpec} {fn : Func} {W W' : World} {args : Array Value} {ds : List (DataW H)} {p : List MemPlace} (hv : spec.vars = [])
    (hW : DataW.Whole enc Try.prog fn.params.toList spec.vars false W args.toList ds [] p)
    (hfn : spec.fn H (ds ++ []) = { results := [.lit (.bool true)], args := ds }) (hres : fn.resultTypes = #[4]) (hr : ∀ t ∈ fn.params.toList, Try.prog.readableRec t = true ∧ t < Try.prog.types.size)
    (hB : Below W.heap.size W W') : spec.post enc Try.prog fn false true false false W args (.bool true) W' := by
  have hlt : ∀ x ∈ p, x.block < W.heap.size := fun x hx => by simpa using hW.lt x hx
  refine ⟨ds, [], p, [], p, [], hW, ?_, ?_, ?_, hB.frame _, fun h => by cases h⟩
  · rw [hfn, hres]; exact trodAll_mk1 (shut_bool Try.underlying4 true)
  · rw [hfn]
    obtain ⟨p', q, hA, hV, rfl, _, _⟩ := hW
    rw [hv] at hV
    obtain ⟨_, rfl⟩ := trodVars_none hV
    rw [List.append_nil] at hlt ⊢
    exact below_trodAll hB hr hlt hA
  · rw [hfn, hv]; rfl
end
end Go.Proofs.Ytmlhecfhhhebnaa
