/- below with the world told; Covers of the program: the walks. -/
import Derived.Test.YtmlhecfhhhebnaaN1
import Derived.Shelf.SlicesE.DeleteFunc
namespace Go.Proofs.Ytmlhecfhhhebnaa
open Go.RowKit

def DrawnOn (w w' : World) : Prop := ∃ q, w' = w.drewN q
theorem DrawnOn.below {w w' : World} (h : DrawnOn w w') : Below w.heap.size w w' := by
  obtain ⟨q, rfl⟩ := h
  exact below_drewM (Below.refl _ _) q
theorem DrawnOn.more {w w' : World} (h : DrawnOn w w') (q : Nat) : DrawnOn w (w'.drewN q) := by
  obtain ⟨p, rfl⟩ := h
  exact ⟨p + q, by rw [World.drewN_drewN]⟩

set_option maxRecDepth 20000 in
set_option maxHeartbeats 4000000 in
theorem belowq_any {K n m N : Nat} {W X : List (List Nat)} (bT x0 y0 : Nat) (w : World) (ht : TabIs K n W X w bT) (hk : Tk m N W X) (hl : lstB W X = true) (hx : x0 < N) (hy : y0 < N) :
    Calls Try.prog 68 #[.pointer (some ⟨bT, 0, none⟩), .int .i64 (x0 : Nat), .int .i64 (y0 : Nat)] w fun e w' => e = .returned (.bool (belG W X x0 y0)) ∧ ∃ q, w' = w.drewN q := by
  have hN := hk.small
  have HK := Lib.hid hk
  have HT := Lib.hid ht
  have HL := Lib.hid hl
  have LN := Lib.hid (fun (wq : World) (h : TabIs K n W X wq bT) (y : Nat) (hy : y < N) => length_any bT y wq h hk hy)
  have LQ := Lib.hid (fun (wq : World) (h : TabIs K n W X wq bT) (y : Nat) (hy : y < N) => (length_any bT y wq h hk hy).mono (fun e w' (hh : e = .returned (.int .i64 ((lenX W y : Nat) : Int)) ∧ wq = w') => (⟨hh.1, hh.2.symm⟩ : e = .returned (.int .i64 ((lenX W y : Nat) : Int)) ∧ w' = wq)))
  have h12 : lenX W y0 ≤ 12 := by
    have := hk.lw
    unfold lenX; rw [getDL (by omega)]; exact hk.short _ (List.getElem_mem _)
  have H12 := Lib.hid h12
  clear ht hk hl h12
  go_enter Try.func68, Try.ntmps68
  go_wp2
  go_loopw [1, 2] (fun p q wr => ∃ f x y : Nat, p = .int .i64 (x : Nat) ∧ q = .int .i64 (y : Nat) ∧ x < N ∧ y < N ∧ lenX W y ≤ f ∧ belG W X x0 y0 = belX W X f x y ∧ DrawnOn w wr) (fun _ q _ => lenX W (intOf q).toNat)
  case atStart => exact ⟨12, x0, y0, rfl, rfl, hx, hy, H12.out, rfl, ⟨0, rfl⟩⟩
  case round =>
    obtain ⟨f, x, y, rfl, rfl, hxN, hyN, hf, he, hb⟩ := hrel
    have HB := Lib.hid hb
    have HTR := Lib.hid (HT.out.below (DrawnOn.below hb))
    by_cases hy0 : y = 0
    · subst hy0
      have HF := Lib.hid (show belG W X x0 y0 = (x == 0) by rw [he]; cases f <;> simp [belX])
      clear he hb hf
      go_wp2
      go_ret
      exact ⟨ret_bool (by rw [HF.out]; exact eqz x), HB.out⟩
    · obtain ⟨hl0, hl1⟩ := lst_at HL.out (y := y) (by rw [HK.out.lw]; exact hyN) hy0
      obtain ⟨f', rfl⟩ : ∃ f', f = f' + 1 := ⟨f - 1, by omega⟩
      have hyb : ((y : Int) != 0) = true := by simp; omega
      have hyz : ¬ (y : Int) = 0 := by omega
      by_cases hlen : lenX W y < lenX W x
      · have HF := Lib.hid (show belG W X x0 y0 = false by rw [he, belX, if_neg hy0, if_pos hlen])
        have hli : ((lenX W y : Nat) : Int) < ((lenX W x : Nat) : Int) := by omega
        clear he hb hf hl0 hl1 hlen hy0
        go_wp2_with (go_at_call 67; refine (LN.out _ HTR.out _ (by omega)).mono ?_; rintro e w9 ⟨rfl, rfl⟩)
        go_ret
        exact ⟨ret_bool HF.out.symm, HB.out⟩
      · have hli : ¬ ((lenX W y : Nat) : Int) < ((lenX W x : Nat) : Int) := by omega
        have hyW : y < W.length := by rw [HK.out.lw]; exact hyN
        have hyX : y < X.length := by rw [HK.out.lx]; exact hyN
        have hxX : x < X.length := by rw [HK.out.lx]; exact hxN
        obtain ⟨vW, vX, vM, hh, hW, hX⟩ := HTR.out
        obtain ⟨gW, capW, wa, wc, eW, hgW, hwc, hInW, hrowW⟩ := hW.cells y hyW
        have hlW : lenX W y = (W[y]).length := by unfold lenX; rw [getDL hyW]
        obtain ⟨bW, offW, rfl, hcW⟩ := hrowW (by omega)
        have hlm : (W[y]).length - 1 < (W[y]).length := by omega
        have clast := hcW _ hlm
        have hsl := HK.out.letter _ (List.getElem_mem hyW) _ (List.getElem_mem hlm)
        have hlast : lastX W y = (W[y])[(W[y]).length - 1] := by unfold lastX; rw [getDL hyW, hlW, getDN hlm]
        obtain ⟨s, hs⟩ : ∃ s, (W[y])[(W[y]).length - 1] = s := ⟨_, rfl⟩
        rw [hs] at clast hsl hlast
        obtain ⟨l, hl⟩ : ∃ l, (W[y]).length = l := ⟨_, rfl⟩
        rw [hl] at hgW hwc clast hlW
        obtain ⟨r, hr1, hr2, hr3, hr4⟩ := HK.out.rowAt hyN
        obtain ⟨gX, capX, ya, yc, eX, hgY, hyc, hInY, hrowY⟩ := hX.cells y hyX
        rw [hr1] at hgY hyc hrowY
        rw [hr3] at hgY hyc
        obtain ⟨bY, offY, rfl, hcY⟩ := hrowY (by omega)
        have hsr : s < r.length := by omega
        have cY := hcY s (by omega)
        have hY1 : stepX X y s = r[s] := by unfold stepX; rw [hr2, getDN hsr]
        have hy1N := hr4 _ (List.getElem_mem hsr)
        obtain ⟨q, hq1, hq2, hq3, hq4⟩ := HK.out.rowAt hxN
        obtain ⟨gX2, capX2, xa, xc, eX2, hgX, hxc, hInX, hrowX⟩ := hX.cells x hxX
        obtain ⟨e1, e2, e3⟩ := Value.slice.inj (eX.symm.trans eX2)
        obtain rfl : gX = gX2 := by simpa using e1
        obtain rfl := e3
        rw [hq1] at hgX hxc hrowX
        rw [hq3] at hgX hxc
        obtain ⟨bX, offX, rfl, hcX⟩ := hrowX (by omega)
        have hsq : s < q.length := by omega
        have cX := hcX s (by omega)
        have hX1 : stepX X x s = q[s] := by unfold stepX; rw [hq2, getDN hsq]
        have hx1N := hq4 _ (List.getElem_mem hsq)
        obtain ⟨y1, hy1⟩ : ∃ y1, r[s] = y1 := ⟨_, rfl⟩
        obtain ⟨x1, hx1⟩ : ∃ x1, q[s] = x1 := ⟨_, rfl⟩
        rw [hy1] at cY hY1 hy1N
        rw [hx1] at cX hX1 hx1N
        have HEE := Lib.hid (show belG W X x0 y0 = belX W X f' (if lenX W x1 < lenX W x then x1 else x) y1 by rw [he, belX, if_neg hy0, if_neg hlen, hlast, hX1, hY1])
        have HF1 := Lib.hid (show lenX W y1 ≤ f' by rw [hlast, hY1] at hl1; omega)
        have HME := Lib.hid (show lenX W (intOf (.int .i64 (y1 : Nat))).toNat < lenX W (intOf (.int .i64 (y : Nat))).toNat by rw [hlast, hY1] at hl1; simpa [intOf] using hl1)
        have ctW := hh.at (i := 2) rfl
        have ctX := hh.at (i := 3) rfl
        subst eW
        subst eX
        have hl12 : l ≤ 12 := by rw [← hl]; exact HK.out.short _ (List.getElem_mem hyW)
        have hwl : IntKind.i64.wrap ((l : Int) - 1) = ((l - 1 : Nat) : Int) := by rw [IntWalk.i64_in _ (by omega)]; omega
        have hlk : ((l - 1 : Nat) : Int) < (l : Int) := by omega
        have hyWi : (y : Int) < (W.length : Int) := by omega
        have hyXi : (y : Int) < (X.length : Int) := by omega
        have hxXi : (x : Int) < (X.length : Int) := by omega
        have hsm : (s : Int) < (m : Int) := by omega
        by_cases hv : lenX W x1 < lenX W x
        all_goals clear hh hW hX hInW hInX hInY hrowW hrowX hrowY hcW hcX hcY hlm hsl hlast hs hl hr1 hr2 hr3 hr4 hq1 hq2 hq3 hq4 hsr hsq hY1 hX1 hy1 hx1 he hb hf hl0 hl1 hlen hy0 hyW hyX hxX e2 eX2
        · have hvi : ((lenX W x1 : Nat) : Int) < ((lenX W x : Nat) : Int) := by omega
          have HE := Lib.hid (show belG W X x0 y0 = belX W X f' x1 y1 by rw [HEE.out, if_pos hv])
          clear hv
          go_upto_region 4 with (go_at_call 67; refine (LN.out _ HTR.out _ (by omega)).mono ?_; rintro e w9 ⟨rfl, rfl⟩)
          go_quiet (first | (go_at_call 67; exact Calls.quiet_of_same (LQ.out _ (by first | exact HTR.out | exact HTR.out.drewN _) _ (by omega))))
          go_wp2_with (go_at_call 67; refine (LN.out _ (by first | exact HTR.out.drewN _ | exact HTR.out) _ (by omega)).mono ?_; rintro e w9 ⟨rfl, rfl⟩)
          go_roundw
          case rel => exact ⟨f', x1, y1, rfl, rfl, hx1N, hy1N, HF1.out, HE.out, DrawnOn.more HB.out _⟩
          case measure => exact HME.out
        · have hvi : ¬ ((lenX W x1 : Nat) : Int) < ((lenX W x : Nat) : Int) := by omega
          have HE := Lib.hid (show belG W X x0 y0 = belX W X f' x y1 by rw [HEE.out, if_neg hv])
          clear hv
          go_upto_region 4 with (go_at_call 67; refine (LN.out _ HTR.out _ (by omega)).mono ?_; rintro e w9 ⟨rfl, rfl⟩)
          go_quiet (first | (go_at_call 67; exact Calls.quiet_of_same (LQ.out _ (by first | exact HTR.out | exact HTR.out.drewN _) _ (by omega))))
          go_wp2_with (go_at_call 67; refine (LN.out _ (by first | exact HTR.out.drewN _ | exact HTR.out) _ (by omega)).mono ?_; rintro e w9 ⟨rfl, rfl⟩)
          go_roundw
          case rel => exact ⟨f', x, y1, rfl, rfl, hxN, hy1N, HF1.out, HE.out, DrawnOn.more HB.out _⟩
          case measure => exact HME.out

/-- What Covers keeps. -/
def covB (W X : List (List Nat)) (i u : Nat) : Bool := decide (lenX W u + 1 = lenX W i) && belG W X u i
def covL (W X : List (List Nat)) (i : Nat) : List Nat := (List.range W.length).filter (covB W X i)

set_option maxRecDepth 20000 in
set_option maxHeartbeats 2000000 in
theorem covF_any {K n m N : Nat} {W X : List (List Nat)} (bT b6 b7 g c i u : Nat) (w : World) (ht : TabIs K n W X w bT) (hk : Tk m N W X) (hl : lstB W X = true) (h6 : w.cell? ⟨b6, 0, none⟩ = some (.pointer (some ⟨bT, 0, none⟩)))
    (h7 : w.cell? ⟨b7, 0, none⟩ = some (.slice (some ⟨g, 0, none⟩) 1 c)) (hg : w.cell? ⟨g, 0, none⟩ = some (.int .i64 (i : Nat))) (hi : i < N) (hu : u < N) :
    Calls Try.prog 84 #[.int .i64 (u : Nat), .pointer (some ⟨b6, 0, none⟩), .pointer (some ⟨b7, 0, none⟩)] w fun e w' => e = .returned (.bool (!covB W X i u)) ∧ ∃ q, w' = w.drewN q := by
  have hN := hk.small
  have h12 : ∀ y, y < N → lenX W y ≤ 12 := fun y hy => by
    have hyl : y < W.length := by rw [hk.lw]; exact hy
    unfold lenX; rw [getDL hyl]; exact hk.short _ (List.getElem_mem hyl)
  have hli := h12 i hi
  have hlu := h12 u hu
  have LQ := Lib.hid (fun (wq : World) (h : TabIs K n W X wq bT) (y : Nat) (hy : y < N) => (length_any bT y wq h hk hy).mono (fun e w' (hh : e = .returned (.int .i64 ((lenX W y : Nat) : Int)) ∧ wq = w') => (⟨hh.1, hh.2.symm⟩ : e = .returned (.int .i64 ((lenX W y : Nat) : Int)) ∧ w' = wq)))
  have BQ := Lib.hid (fun (wq : World) (h : TabIs K n W X wq bT) => belowq_any bT u i wq h hk hl hu hi)
  have HT := Lib.hid ht
  have HC := Lib.hid (show covB W X i u = (decide (lenX W u + 1 = lenX W i) && belG W X u i) from rfl)
  have hwr : IntKind.i64.wrap (((lenX W i : Nat) : Int) - 1) = ((lenX W i : Nat) : Int) - 1 := IntWalk.i64_in _ (by omega)
  obtain ⟨a, ha⟩ : ∃ a, lenX W u = a := ⟨_, rfl⟩
  obtain ⟨b, hb⟩ : ∃ b, lenX W i = b := ⟨_, rfl⟩
  obtain ⟨r, hr⟩ : ∃ r, belG W X u i = r := ⟨_, rfl⟩
  have LU := Lib.hid (fun (wq : World) (h : TabIs K n W X wq bT) => by have := LQ.out wq h u hu; rw [ha] at this; exact this)
  have LI := Lib.hid (fun (wq : World) (h : TabIs K n W X wq bT) => by have := LQ.out wq h i hi; rw [hb] at this; exact this)
  rw [ha, hb, hr] at HC
  rw [hr] at BQ
  rw [hb] at hwr hli
  rw [ha] at hlu
  clear ht hk hl h12 ha hb hr
  by_cases he : a + 1 = b
  · have hne : ((a : Int) != (b : Int) - 1) = false := by simp; omega
    have HE := Lib.hid (show covB W X i u = r by rw [HC.out, decide_eq_true he]; rfl)
    clear he
    go_enter Try.func84, Try.ntmps84
    go_upto_region 1 with (fail)
    go_quiet (first
      | (go_at_call 68; ((with_reducible refine Calls.quiet_of (BQ.out _ ?_)); first | exact HT.out.drewN _ | exact HT.out))
      | (go_at_call 67; ((with_reducible refine Calls.quiet_of_same (LU.out _ ?_)); first | exact HT.out.drewN _ | exact HT.out))
      | (go_at_call 67; ((with_reducible refine Calls.quiet_of_same (LI.out _ ?_)); first | exact HT.out.drewN _ | exact HT.out)))
    go_wp2
    go_ret
    exact ⟨ret_bool (by rw [HE.out]), _, rfl⟩
  · have hne : ((a : Int) != (b : Int) - 1) = true := by simp; omega
    have HE := Lib.hid (show covB W X i u = false by rw [HC.out, decide_eq_false he]; rfl)
    clear he
    go_enter Try.func84, Try.ntmps84
    go_upto_region 1 with (fail)
    go_quiet (first
      | (go_at_call 67; ((with_reducible refine Calls.quiet_of_same (LU.out _ ?_)); first | exact HT.out.drewN _ | exact HT.out))
      | (go_at_call 67; ((with_reducible refine Calls.quiet_of_same (LI.out _ ?_)); first | exact HT.out.drewN _ | exact HT.out)))
    go_wp2
    go_ret
    exact ⟨ret_bool (by rw [HE.out]; rfl), _, rfl⟩
end Go.Proofs.Ytmlhecfhhhebnaa
