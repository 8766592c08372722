/- below, Below: the walks. -/
import Derived.Test.YtmlhecfhhhebnaaPt
import Derived.StillTailTactics
namespace Go.Proofs.Ytmlhecfhhhebnaa
open Go.RowKit

def lastX (W : List (List Nat)) (y : Nat) : Nat := (W.getD y []).getD (lenX W y - 1) 0
def belX (W X : List (List Nat)) : Nat → Nat → Nat → Bool
  | 0, x, _ => x == 0
  | f + 1, x, y =>
    if y = 0 then x == 0 else if lenX W y < lenX W x then false else
      belX W X f (if lenX W (stepX X x (lastX W y)) < lenX W x then stepX X x (lastX W y) else x) (stepX X y (lastX W y))
def belG (W X : List (List Nat)) (x y : Nat) : Bool := belX W X 12 x y
/-- Every word but the first is not empty, and its last letter makes it shorter. -/
def lstB (W X : List (List Nat)) : Bool := (List.range W.length).all fun y => y == 0 || (decide (0 < lenX W y) && decide (lenX W (stepX X y (lastX W y)) < lenX W y))
theorem lst_all : (allGroups.all fun g => lstB (litW g.1 g.2) (litX g.1 g.2)) = true := by decide +kernel
theorem lstG {K n : Nat} (hv : validB K n = true) : lstB (wordsG K n) (nextG K n) = true := by
  obtain ⟨e1, e2⟩ := lit_of hv
  rw [e1, e2]
  exact List.all_eq_true.1 lst_all _ (valid_in hv)
theorem lst_at {W X : List (List Nat)} (h : lstB W X = true) {y : Nat} (hy : y < W.length) (h0 : y ≠ 0) : 0 < lenX W y ∧ lenX W (stepX X y (lastX W y)) < lenX W y := by
  have := List.all_eq_true.1 h y (List.mem_range.mpr hy)
  simpa [h0] using this
theorem TabIs.drewN {K n bT : Nat} {W X : List (List Nat)} {w : World} (h : TabIs K n W X w bT) (q : Nat) : TabIs K n W X (w.drewN q) bT := h.below ⟨rfl, rfl, rfl, Nat.le_refl _, fun _ _ => rfl⟩
theorem eqz (x : Nat) : ((x : Int) == 0) = (x == 0) := by
  by_cases h : x = 0
  · subst h; rfl
  · have h2 : ¬ ((x : Int) = 0) := by omega
    rw [beq_false_of_ne h2, beq_false_of_ne h]
theorem below_drewM {B : Nat} {a w : World} (h : Below B a w) (q : Nat) : Below B a (w.drewN q) := ⟨h.os, h.tape, h.output, h.size, h.block⟩

set_option maxRecDepth 20000 in
set_option maxHeartbeats 4000000 in
theorem below_any {K n m N : Nat} {W X : List (List Nat)} (bT x0 y0 : Nat) (w : World) (ht : TabIs K n W X w bT) (hk : Tk m N W X) (hl : lstB W X = true) (hx : x0 < N) (hy : y0 < N) :
    Calls Try.prog 68 #[.pointer (some ⟨bT, 0, none⟩), .int .i64 (x0 : Nat), .int .i64 (y0 : Nat)] w fun e w' => e = .returned (.bool (belG W X x0 y0)) ∧ Below w.heap.size w w' := by
  have hN := hk.small
  have HK := Lib.hid hk
  have HT := Lib.hid ht
  have HL := Lib.hid hl
  have LN := Lib.hid (fun (wq : World) (h : TabIs K n W X wq bT) (y : Nat) (hy : y < N) => length_any bT y wq h hk hy)
  have LQ := Lib.hid (fun (wq : World) (h : TabIs K n W X wq bT) (y : Nat) (hy : y < N) => (length_any bT y wq h hk hy).mono (fun e w' (hh : e = .returned (.int .i64 ((lenX W y : Nat) : Int)) ∧ wq = w') => (⟨hh.1, hh.2.symm⟩ : e = .returned (.int .i64 ((lenX W y : Nat) : Int)) ∧ w' = wq)))
  have h12 : lenX W y0 ≤ 12 := by
    have := hk.lw
    unfold lenX; rw [getDL (by omega)]; exact hk.short _ (List.getElem_mem _)
  have H12 := Lib.hid h12
  clear ht hk hl h12
  go_enter Try.func68, Try.ntmps68
  go_wp2
  go_loopw [1, 2] (fun p q wr => ∃ f x y : Nat, p = .int .i64 (x : Nat) ∧ q = .int .i64 (y : Nat) ∧ x < N ∧ y < N ∧ lenX W y ≤ f ∧ belG W X x0 y0 = belX W X f x y ∧ Below w.heap.size w wr) (fun _ q _ => lenX W (intOf q).toNat)
  case atStart => exact ⟨12, x0, y0, rfl, rfl, hx, hy, H12.out, rfl, Below.refl _ _⟩
  case round =>
    obtain ⟨f, x, y, rfl, rfl, hxN, hyN, hf, he, hb⟩ := hrel
    have HB := Lib.hid hb
    have HTR := Lib.hid (HT.out.below hb)
    by_cases hy0 : y = 0
    · subst hy0
      have HF := Lib.hid (show belG W X x0 y0 = (x == 0) by rw [he]; cases f <;> simp [belX])
      clear he hb hf
      go_wp2
      go_ret
      exact ⟨ret_bool (by rw [HF.out]; exact eqz x), HB.out⟩
    · obtain ⟨hl0, hl1⟩ := lst_at HL.out (y := y) (by rw [HK.out.lw]; exact hyN) hy0
      obtain ⟨f', rfl⟩ : ∃ f', f = f' + 1 := ⟨f - 1, by omega⟩
      have hyb : ((y : Int) != 0) = true := by simp; omega
      have hyz : ¬ (y : Int) = 0 := by omega
      by_cases hlen : lenX W y < lenX W x
      · have HF := Lib.hid (show belG W X x0 y0 = false by rw [he, belX, if_neg hy0, if_pos hlen])
        have hli : ((lenX W y : Nat) : Int) < ((lenX W x : Nat) : Int) := by omega
        clear he hb hf hl0 hl1 hlen hy0
        go_wp2_with (go_at_call 67; refine (LN.out _ HTR.out _ (by omega)).mono ?_; rintro e w9 ⟨rfl, rfl⟩)
        go_ret
        exact ⟨ret_bool HF.out.symm, HB.out⟩
      · have hli : ¬ ((lenX W y : Nat) : Int) < ((lenX W x : Nat) : Int) := by omega
        have hyW : y < W.length := by rw [HK.out.lw]; exact hyN
        have hyX : y < X.length := by rw [HK.out.lx]; exact hyN
        have hxX : x < X.length := by rw [HK.out.lx]; exact hxN
        obtain ⟨vW, vX, vM, hh, hW, hX⟩ := HTR.out
        obtain ⟨gW, capW, wa, wc, eW, hgW, hwc, hInW, hrowW⟩ := hW.cells y hyW
        have hlW : lenX W y = (W[y]).length := by unfold lenX; rw [getDL hyW]
        obtain ⟨bW, offW, rfl, hcW⟩ := hrowW (by omega)
        have hlm : (W[y]).length - 1 < (W[y]).length := by omega
        have clast := hcW _ hlm
        have hsl := HK.out.letter _ (List.getElem_mem hyW) _ (List.getElem_mem hlm)
        have hlast : lastX W y = (W[y])[(W[y]).length - 1] := by unfold lastX; rw [getDL hyW, hlW, getDN hlm]
        obtain ⟨s, hs⟩ : ∃ s, (W[y])[(W[y]).length - 1] = s := ⟨_, rfl⟩
        rw [hs] at clast hsl hlast
        obtain ⟨l, hl⟩ : ∃ l, (W[y]).length = l := ⟨_, rfl⟩
        rw [hl] at hgW hwc clast hlW
        obtain ⟨r, hr1, hr2, hr3, hr4⟩ := HK.out.rowAt hyN
        obtain ⟨gX, capX, ya, yc, eX, hgY, hyc, hInY, hrowY⟩ := hX.cells y hyX
        rw [hr1] at hgY hyc hrowY
        rw [hr3] at hgY hyc
        obtain ⟨bY, offY, rfl, hcY⟩ := hrowY (by omega)
        have hsr : s < r.length := by omega
        have cY := hcY s (by omega)
        have hY1 : stepX X y s = r[s] := by unfold stepX; rw [hr2, getDN hsr]
        have hy1N := hr4 _ (List.getElem_mem hsr)
        obtain ⟨q, hq1, hq2, hq3, hq4⟩ := HK.out.rowAt hxN
        obtain ⟨gX2, capX2, xa, xc, eX2, hgX, hxc, hInX, hrowX⟩ := hX.cells x hxX
        obtain ⟨e1, e2, e3⟩ := Value.slice.inj (eX.symm.trans eX2)
        obtain rfl : gX = gX2 := by simpa using e1
        obtain rfl := e3
        rw [hq1] at hgX hxc hrowX
        rw [hq3] at hgX hxc
        obtain ⟨bX, offX, rfl, hcX⟩ := hrowX (by omega)
        have hsq : s < q.length := by omega
        have cX := hcX s (by omega)
        have hX1 : stepX X x s = q[s] := by unfold stepX; rw [hq2, getDN hsq]
        have hx1N := hq4 _ (List.getElem_mem hsq)
        obtain ⟨y1, hy1⟩ : ∃ y1, r[s] = y1 := ⟨_, rfl⟩
        obtain ⟨x1, hx1⟩ : ∃ x1, q[s] = x1 := ⟨_, rfl⟩
        rw [hy1] at cY hY1 hy1N
        rw [hx1] at cX hX1 hx1N
        have HEE := Lib.hid (show belG W X x0 y0 = belX W X f' (if lenX W x1 < lenX W x then x1 else x) y1 by rw [he, belX, if_neg hy0, if_neg hlen, hlast, hX1, hY1])
        have HF1 := Lib.hid (show lenX W y1 ≤ f' by rw [hlast, hY1] at hl1; omega)
        have HME := Lib.hid (show lenX W (intOf (.int .i64 (y1 : Nat))).toNat < lenX W (intOf (.int .i64 (y : Nat))).toNat by rw [hlast, hY1] at hl1; simpa [intOf] using hl1)
        have ctW := hh.at (i := 2) rfl
        have ctX := hh.at (i := 3) rfl
        subst eW
        subst eX
        have hl12 : l ≤ 12 := by rw [← hl]; exact HK.out.short _ (List.getElem_mem hyW)
        have hwl : IntKind.i64.wrap ((l : Int) - 1) = ((l - 1 : Nat) : Int) := by rw [IntWalk.i64_in _ (by omega)]; omega
        have hlk : ((l - 1 : Nat) : Int) < (l : Int) := by omega
        have hyWi : (y : Int) < (W.length : Int) := by omega
        have hyXi : (y : Int) < (X.length : Int) := by omega
        have hxXi : (x : Int) < (X.length : Int) := by omega
        have hsm : (s : Int) < (m : Int) := by omega
        by_cases hv : lenX W x1 < lenX W x
        all_goals clear hh hW hX hInW hInX hInY hrowW hrowX hrowY hcW hcX hcY hlm hsl hlast hs hl hr1 hr2 hr3 hr4 hq1 hq2 hq3 hq4 hsr hsq hY1 hX1 hy1 hx1 he hb hf hl0 hl1 hlen hy0 hyW hyX hxX e2 eX2
        · have hvi : ((lenX W x1 : Nat) : Int) < ((lenX W x : Nat) : Int) := by omega
          have HE := Lib.hid (show belG W X x0 y0 = belX W X f' x1 y1 by rw [HEE.out, if_pos hv])
          clear hv
          go_upto_region 4 with (go_at_call 67; refine (LN.out _ HTR.out _ (by omega)).mono ?_; rintro e w9 ⟨rfl, rfl⟩)
          go_quiet (first | (go_at_call 67; exact Calls.quiet_of_same (LQ.out _ (by first | exact HTR.out | exact HTR.out.drewN _) _ (by omega))))
          go_wp2_with (go_at_call 67; refine (LN.out _ (by first | exact HTR.out.drewN _ | exact HTR.out) _ (by omega)).mono ?_; rintro e w9 ⟨rfl, rfl⟩)
          go_roundw
          case rel => exact ⟨f', x1, y1, rfl, rfl, hx1N, hy1N, HF1.out, HE.out, below_drewM HB.out _⟩
          case measure => exact HME.out
        · have hvi : ¬ ((lenX W x1 : Nat) : Int) < ((lenX W x : Nat) : Int) := by omega
          have HE := Lib.hid (show belG W X x0 y0 = belX W X f' x y1 by rw [HEE.out, if_neg hv])
          clear hv
          go_upto_region 4 with (go_at_call 67; refine (LN.out _ HTR.out _ (by omega)).mono ?_; rintro e w9 ⟨rfl, rfl⟩)
          go_quiet (first | (go_at_call 67; exact Calls.quiet_of_same (LQ.out _ (by first | exact HTR.out | exact HTR.out.drewN _) _ (by omega))))
          go_wp2_with (go_at_call 67; refine (LN.out _ (by first | exact HTR.out.drewN _ | exact HTR.out) _ (by omega)).mono ?_; rintro e w9 ⟨rfl, rfl⟩)
          go_roundw
          case rel => exact ⟨f', x, y1, rfl, rfl, hxN, hy1N, HF1.out, HE.out, below_drewM HB.out _⟩
          case measure => exact HME.out

/-- What a function that gives a truth value returns. -/
def TruthOut (b : Bool) (w : World) (e : Ending) (w' : World) : Prop := e = .returned (.tuple #[.bool b, .int .i64 0]) ∧ Below w.heap.size w w'
def TruthErr (w : World) (e : Ending) (w' : World) : Prop := e = .returned (.tuple #[.bool false, .int .i64 2]) ∧ Below w.heap.size w w'

set_option maxRecDepth 20000 in
set_option maxHeartbeats 1000000 in
theorem Below_no (K : Nat) (n : Int) (u v : Value) (xs ys : List Int) (w : World) (hK : K < 256) (hx : Ints w u xs) (hy : Ints w v ys) (h : okI K n [xs, ys] = false) :
    Calls Try.prog 33 #[grpI K n, u, v] w (TruthErr w) := by
  have RD := Lib.hid (fun w' v' (ha : Args w' v' [xs, ys]) => read_no K n v' [xs, ys] w' hK ha h)
  have HX := Lib.hid (fun o : Obj => hx.below ((Below.refl _ _).alloc (Nat.le_refl _) o))
  have HY := Lib.hid (fun o : Obj => hy.below ((Below.refl _ _).alloc (Nat.le_refl _) o))
  obtain ⟨a, c, rfl, hx1⟩ := hx
  obtain ⟨a2, c2, rfl, hy1⟩ := hy
  unfold grpI at *
  clear h hx1 hy1
  go_enter Try.func33, Try.ntmps33
  go_wp2_with (go_at_call 59; refine (RD.out _ _ (args2 (HX.out _) (HY.out _) _ (by simp))).mono ?_; rintro e w1 ⟨rfl, hb1⟩)
  go_ret2
  exact ⟨rfl, below_al2 (Nat.le_refl _) hb1⟩

set_option maxRecDepth 20000 in
set_option maxHeartbeats 1000000 in
theorem Below_yes (K n : Nat) (u v : Value) (xs ys : List Int) (w : World) (hv : validB K n = true) (hx : Ints w u xs) (hy : Ints w v ys) (h : wordB (mirs K n) xs = true) (h2 : wordB (mirs K n) ys = true) :
    Calls Try.prog 33 #[.agg #[.int .u8 (K : Nat), .int .i64 (n : Nat)], u, v] w (TruthOut (belG (wordsG K n) (nextG K n) (ix K n xs) (ix K n ys)) w) := by
  have RD := Lib.hid (fun w' v' (ha : Args w' v' [xs, ys]) => read_yes K n v' [xs, ys] w' hv ha (all_two h h2))
  have HX := Lib.hid (fun o : Obj => hx.below ((Below.refl _ _).alloc (Nat.le_refl _) o))
  have HY := Lib.hid (fun o : Obj => hy.below ((Below.refl _ _).alloc (Nat.le_refl _) o))
  have BW := Lib.hid (fun (bT : Nat) (w' : World) (ht : TabIs K n (wordsG K n) (nextG K n) w' bT) => below_any bT (ix K n xs) (ix K n ys) w' ht (tkG hv) (lstG hv) (ix_lt hv h) (ix_lt hv h2))
  obtain ⟨a, c, rfl, hx1⟩ := hx
  obtain ⟨a2, c2, rfl, hy1⟩ := hy
  clear h h2 hx1 hy1 hv
  go_enter Try.func33, Try.ntmps33
  go_upto_region 4 with (go_at_call 59; refine (RD.out _ _ (args2 (HX.out _) (HY.out _) _ (by simp))).mono ?_; rintro e w1 ⟨bT, v1, rfl, ht1, ho1, hb1⟩; obtain ⟨g1, c1, rfl, hc1, hc1'⟩ := own_two ho1)
  have HB1 := Lib.hid (below_al2 (Nat.le_refl _) hb1)
  have HT1 := Lib.hid ht1
  clear hb1 ht1 ho1
  go_still_tail 7, (by kernel_rfl)
  go_wp2_with (go_at_call 68; refine (BW.out bT _ (by first | exact HT1.out | exact HT1.out.drewN 1)).mono ?_; rintro e w2 ⟨rfl, hb2⟩)
  go_ret2
  have hB := HB1.out.drew
  exact ⟨rfl, hB.trans (hb2.mono hB.size)⟩
end Go.Proofs.Ytmlhecfhhhebnaa
