/- Vn of the seat's texts, in this order. -/
import Derived.Test.YtdackakjcnnofaaA11
import Derived.Test.YtdackakjcnnofaaA7
import Derived.Test.YtdackakjcnnofaaA1

/- function: the walk. -/
namespace Go.Proofs.Ytdackakjcnnofaa
open Go.RowKit
attribute [local go_sem] Oper.semAt_some

/-- What of a group in memory the table is made of. -/
structure GD (w : World) (bg q nE : Nat) (cl : List (List Nat)) (bk : List Nat) : Prop where
  p : PrimeAt w bg q
  e : ∃ a c, w.cell? ⟨bg, 1, none⟩ = some (.slice a nE c)
  c : ∃ S H v, w.cell? ⟨bg, 3, none⟩ = some v ∧ RowsF S H w v cl
  b : ∃ H v, w.cell? ⟨bg, 5, none⟩ = some v ∧ OwnI 3 H w v (toI bk)
theorem GD.below {w w' : World} {bg q nE : Nat} {cl : List (List Nat)} {bk : List Nat} (h : GD w bg q nE cl bk) (hb : Below w.heap.size w w') : GD w' bg q nE cl bk := by
  refine ⟨h.p.below hb, ?_, ?_, ?_⟩
  · obtain ⟨a, c, h1⟩ := h.e
    exact ⟨a, c, (hb.cell (p := ⟨bg, 1, none⟩) h.p.1).trans h1⟩
  · obtain ⟨S, H, v, h1, h2⟩ := h.c
    exact ⟨S, H, v, (hb.cell (p := ⟨bg, 3, none⟩) h.p.1).trans h1, h2.below hb⟩
  · obtain ⟨H, v, h1, h2⟩ := h.b
    exact ⟨H, v, (hb.cell (p := ⟨bg, 5, none⟩) h.p.1).trans h1, h2.below hb⟩
theorem PG.gd {d : Nat} {E : List (List Nat)} {w : World} {bg : Nat} (h : PG d E w bg) : GD w bg (primeN E d) E.length (classesN E) (backC E) := by
  obtain ⟨H, S, vE, bM, vC, vO, vB, hs⟩ := h
  refine ⟨⟨hs.box.lt, hs.box.at (i := 6) rfl⟩, ?_, ⟨S, H, vC, hs.box.at (i := 3) rfl, hs.c⟩, ⟨H, vB, hs.box.at (i := 5) rfl, hs.b⟩⟩
  obtain ⟨g, cap, rfl, -, -, -⟩ := hs.els
  have := hs.box.at (i := 1) rfl
  rw [elsI_length] at this
  exact ⟨_, _, this⟩

theorem sumTo_succ (q : Nat) (sz bk : List Nat) (v : List Int) (by' c : Nat) : sumTo q sz bk v by' (c + 1) = sumTo q sz bk v by' c + (((v.getD c 0).toNat * by' % q) * ((v.getD (bk.getD c 0) 0).toNat * by' % q) % q) * overN q (sz.getD c 0) := rfl
theorem sumTo_le {q : Nat} (hq : 0 < q) (hq2 : q < 62) {sz bk : List Nat} {v : List Int} {by' : Nat} (h : ∀ n ∈ sz, okOver q n = true) : ∀ c, c ≤ sz.length → sumTo q sz bk v by' c ≤ c * 4000
  | 0, _ => Nat.le_refl _
  | c + 1, hc => by
    have ih := sumTo_le hq hq2 (bk := bk) (v := v) (by' := by') h c (by omega)
    have h1 : (sz.getD c 0) ∈ sz := by rw [List.getD_eq_getElem?_getD, List.getElem?_eq_getElem (by omega)]; exact List.getElem_mem _
    have h2 := over_lt hq (h _ h1)
    have h3 : ((v.getD c 0).toNat * by' % q) * ((v.getD (bk.getD c 0) 0).toNat * by' % q) % q < q := Nat.mod_lt _ hq
    have h4 : (((v.getD c 0).toNat * by' % q) * ((v.getD (bk.getD c 0) 0).toNat * by' % q) % q) * overN q (sz.getD c 0) ≤ 62 * 62 := Nat.mul_le_mul (by omega) (by omega)
    rw [sumTo_succ]
    omega
theorem funTo_succ (q : Nat) (sz : List Nat) (v : List Int) (by' deg c : Nat) : funTo q sz v by' deg (c + 1) = funTo q sz v by' deg c ++ [(((((v.getD c 0).toNat * by' % q) * deg % q) * overN q (sz.getD c 0) % q : Nat) : Int)] := by
  unfold funTo
  rw [List.range_succ, List.map_append]; rfl
theorem funTo_length (q : Nat) (sz : List Nat) (v : List Int) (by' deg c : Nat) : (funTo q sz v by' deg c).length = c := by simp [funTo]
structure FunOk (q nE : Nat) (sz bk : List Nat) (v : List Int) : Prop where
  len : v.length = sz.length
  vl : ∀ x ∈ v, 0 ≤ x ∧ x < (q : Int)
  first : okOver q (v.getD 0 0).toNat = true
  szs : ∀ n ∈ sz, okOver q n = true
  sum : okOver q (sumTo q sz bk v (overN q (v.getD 0 0).toNat) sz.length) = true
  root : okRoot q (sqN q nE sz bk v) = true
theorem funOk_iff {q nE : Nat} {sz bk : List Nat} {v : List Int} (h : funOk q nE sz bk v = true) : FunOk q nE sz bk v := by
  unfold funOk at h
  simp only [Bool.and_eq_true, beq_iff_eq, List.all_eq_true, decide_eq_true_eq] at h
  obtain ⟨⟨⟨⟨⟨h1, h2⟩, h3⟩, h4⟩, h5⟩, h6⟩ := h
  exact ⟨h1, h2, h3, h4, h5, h6⟩
theorem cast_rem (a q : Nat) : Int.tmod (a : Int) (q : Int) = ((a % q : Nat) : Int) := by rw [Int.ofNat_tmod]
theorem wrapN {a b : Nat} (ha : a ≤ 100000) (hb : b ≤ 100000) : IntKind.i64.wrap ((a : Int) * (b : Int)) = (a : Int) * (b : Int) := IntWalk.i64_in _ (by
  have h1 : (a : Int) * (b : Int) ≤ 100000 * 100000 := Int.mul_le_mul (by omega) (by omega) (by omega) (by omega)
  have h2 : 0 ≤ (a : Int) * (b : Int) := Int.mul_nonneg (by omega) (by omega)
  omega)
theorem remN (a b q : Nat) : Int.tmod ((a : Int) * (b : Int)) (q : Int) = ((a * b % q : Nat) : Int) := by rw [← Int.natCast_mul, Int.ofNat_tmod]
def Fn16 (vo vv : Value) (bg bv ov i d q xa y0 A X O Y ln cu H : Nat) (au : Option Addr) (L : List Int) (w0 : World) : Bool → Nat → (Nat → Value) → World → Prop
  | _, 0, y, _ => y 98 = vo
  | _, 1, y, _ => y 99 = .pointer (some ⟨bg, 0, none⟩)
  | _, 2, y, _ => y 100 = vv
  | _, 3, y, _ => y 101 = .int .i64 (i : Nat)
  | _, 4, y, _ => y 102 = .pointer (some ⟨bv, ov + i, none⟩)
  | _, 5, y, _ => y 103 = .int .i64 (xa : Nat)
  | _, 6, y, _ => y 104 = .int .i64 (y0 : Nat)
  | _, 7, y, _ => y 105 = .int .i64 ((xa : Int) * (y0 : Int))
  | _, 8, y, _ => y 106 = .pointer (some ⟨bg, 0, none⟩)
  | _, 9, y, _ => y 107 = .pointer (some ⟨bg, 0, none⟩)
  | _, 10, y, _ => y 108 = .pointer (some ⟨bg, 6, none⟩)
  | _, 11, y, _ => y 109 = .int .i64 (q : Nat)
  | _, 12, y, _ => y 110 = .int .i64 (A : Nat)
  | _, 13, y, _ => y 111 = .int .i64 (d : Nat)
  | _, 14, y, _ => y 112 = .int .i64 ((A : Int) * (d : Int))
  | _, 15, y, _ => y 113 = .pointer (some ⟨bg, 0, none⟩)
  | _, 16, y, _ => y 114 = .pointer (some ⟨bg, 0, none⟩)
  | _, 17, y, _ => y 115 = .pointer (some ⟨bg, 6, none⟩)
  | _, 18, y, _ => y 116 = .int .i64 (q : Nat)
  | _, 19, y, _ => y 117 = .int .i64 (X : Nat)
  | _, 20, y, _ => y 118 = .pointer (some ⟨bg, 0, none⟩)
  | _, 21, y, _ => y 119 = .slice au ln cu
  | _, 22, y, _ => y 120 = .int .i64 (ln : Nat)
  | _, 23, y, _ => y 121 = .int .i64 (O : Nat)
  | _, 24, y, _ => y 122 = .int .i64 ((X : Int) * (O : Int))
  | _, 25, y, _ => y 123 = .int .i64 (Y : Nat)
  | f, 26, y, w => f = false → ∃ b, y 124 = .slice (some ⟨b, 0, none⟩) 1 1 ∧ Held w b 3 [.int .i64 (Y : Nat)]
  | _, 27, y, w => OwnI 3 H w (y 125) (L ++ [((Y : Nat) : Int)]) ∧ Below H w0 w ∧ H = w0.heap.size
  | _, _, _, _ => True
theorem Fn16_keep (vo vv : Value) (bg bv ov i d q xa y0 A X O Y ln cu H : Nat) (au : Option Addr) (L : List Int) (w0 : World) : ∀ (f : Bool) (j : Nat) (y : Nat → Value) (wa wb : World), Below wa.heap.size wa wb → Fn16 vo vv bg bv ov i d q xa y0 A X O Y ln cu H au L w0 f j y wa → Fn16 vo vv bg bv ov i d q xa y0 A X O Y ln cu H au L w0 f j y wb := by
  intro f j y wa wb hx hv
  match j, hv with
  | 0, hv => exact hv
  | 1, hv => exact hv
  | 2, hv => exact hv
  | 3, hv => exact hv
  | 4, hv => exact hv
  | 5, hv => exact hv
  | 6, hv => exact hv
  | 7, hv => exact hv
  | 8, hv => exact hv
  | 9, hv => exact hv
  | 10, hv => exact hv
  | 11, hv => exact hv
  | 12, hv => exact hv
  | 13, hv => exact hv
  | 14, hv => exact hv
  | 15, hv => exact hv
  | 16, hv => exact hv
  | 17, hv => exact hv
  | 18, hv => exact hv
  | 19, hv => exact hv
  | 20, hv => exact hv
  | 21, hv => exact hv
  | 22, hv => exact hv
  | 23, hv => exact hv
  | 24, hv => exact hv
  | 25, hv => exact hv
  | 26, hv =>
    have hv' : Fn16 vo vv bg bv ov i d q xa y0 A X O Y ln cu H au L w0 f 26 y wa := hv
    intro hf
    obtain ⟨b, e, hm⟩ := hv' hf
    exact ⟨b, e, hm.below hx hm.lt⟩
  | 27, hv =>
    have hv' : Fn16 vo vv bg bv ov i d q xa y0 A X O Y ln cu H au L w0 f 27 y wa := hv
    exact ⟨OwnI.below hv'.1 hx, hv'.2.1.trans (hx.mono (hv'.2.2 ▸ hv'.2.1.size)), hv'.2.2⟩
  | _ + 28, _ => trivial
theorem Fn16_turn (vo vv : Value) (bg bv ov i d q xa y0 A X O Y ln cu H : Nat) (au : Option Addr) (L : List Int) (w0 : World) {wa wb : World} : ∀ (j : Nat) (y : Nat → Value), j ≠ 27 → Fn16 vo vv bg bv ov i d q xa y0 A X O Y ln cu H au L w0 false j y wa → Fn16 vo vv bg bv ov i d q xa y0 A X O Y ln cu H au L w0 true j y wb := by
  intro j y hj hv
  match j, hj, hv with
  | 0, _, hv => exact hv
  | 1, _, hv => exact hv
  | 2, _, hv => exact hv
  | 3, _, hv => exact hv
  | 4, _, hv => exact hv
  | 5, _, hv => exact hv
  | 6, _, hv => exact hv
  | 7, _, hv => exact hv
  | 8, _, hv => exact hv
  | 9, _, hv => exact hv
  | 10, _, hv => exact hv
  | 11, _, hv => exact hv
  | 12, _, hv => exact hv
  | 13, _, hv => exact hv
  | 14, _, hv => exact hv
  | 15, _, hv => exact hv
  | 16, _, hv => exact hv
  | 17, _, hv => exact hv
  | 18, _, hv => exact hv
  | 19, _, hv => exact hv
  | 20, _, hv => exact hv
  | 21, _, hv => exact hv
  | 22, _, hv => exact hv
  | 23, _, hv => exact hv
  | 24, _, hv => exact hv
  | 25, _, hv => exact hv
  | 26, _, hv =>
    have hv' : Fn16 vo vv bg bv ov i d q xa y0 A X O Y ln cu H au L w0 false 26 y wa := hv
    intro hf
    cases hf
  | 27, hj, _ => exact absurd rfl hj
  | _ + 28, _, _ => trivial
set_option maxRecDepth 20000 in
set_option maxHeartbeats 2000000 in
theorem function_any (bg q nE : Nat) (vv : Value) (cl : List (List Nat)) (bk : List Nat) (v : List Int) (w : World) (hg : GD w bg q nE cl bk) (hq : 1 < q) (hq2 : q < 62) (hv : Ints w vv v) (hok : funOk q nE (cl.map List.length) bk v = true)
    (hbl : bk.length = cl.length) (hbk : ∀ b ∈ bk, b < cl.length) (hsz : ∀ l ∈ cl, l.length ≤ 24) (hcl : cl.length ≤ 24) (hc0 : 0 < cl.length) (hnE : nE ≤ 24) :
    Calls Try.prog 41 #[.pointer (some ⟨bg, 0, none⟩), vv] w fun e w' => ∃ v', e = .returned v' ∧ OwnI 3 w.heap.size w' v' (funL q nE (cl.map List.length) bk v) ∧ Below w.heap.size w w' := by
  have HF := Lib.hid (funOk_iff hok)
  have HG := Lib.hid hg
  have HV := Lib.hid hv
  obtain ⟨sz, hszz⟩ : ∃ s, cl.map List.length = s := ⟨_, rfl⟩
  rw [hszz] at HF ⊢
  have HSL := Lib.hid (show sz.length = cl.length by rw [← hszz]; simp)
  have HSZ := Lib.hid (fun c (hc : c < cl.length) => show sz.getD c 0 = (cl[c]).length by rw [← hszz, List.getD_eq_getElem?_getD, List.getElem?_map, List.getElem?_eq_getElem hc]; rfl)
  have HCL := Lib.hid hsz
  have HBK := Lib.hid hbk
  have HBL := Lib.hid hbl
  obtain ⟨m, hm⟩ : ∃ m, cl.length = m := ⟨_, rfl⟩
  have HM := Lib.hid hm
  have hvl : v.length = m := by rw [HF.out.len, HSL.out, hm]
  have HVL := Lib.hid hvl
  obtain ⟨av, cv, rfl, -, -, hcv⟩ := hv
  obtain ⟨bv, ov, rfl, hbv, hcellv⟩ := hcv (ne_nil_of_lt (k := 0) (by omega))
  have HCV := Lib.hid (fun c (hc : c < v.length) (W : World) (hb : Below w.heap.size w W) => ((hb.cell (p := ⟨bv, ov + c, none⟩) hbv).trans (hcellv c hc) : W.cell? ⟨bv, ov + c, none⟩ = some (.int .i64 v[c])))
  have HVD := Lib.hid (fun c (hc : c < v.length) => show (v[c] : Int) = ((v.getD c 0).toNat : Int) by
    have h0 := HF.out.vl _ (List.getElem_mem hc)
    rw [List.getD_eq_getElem?_getD, List.getElem?_eq_getElem hc]
    show v[c] = ((v[c]).toNat : Int)
    omega)
  have HVQ := Lib.hid (fun c (hc : c < v.length) => show (v.getD c 0).toNat < q by
    have h0 := HF.out.vl _ (getD_in hc)
    omega)
  obtain ⟨S, H, vC, hcC, hrC⟩ := hg.c
  obtain ⟨H2, vB, hcB, hoB⟩ := hg.b
  obtain ⟨aE, cE, hcE⟩ := hg.e
  obtain ⟨aC, cC, rfl⟩ := hrC.form
  rw [hm] at hcC hc0 hcl
  have HRC := Lib.hid hrC
  have HOB := Lib.hid hoB
  obtain ⟨gB, cB, rfl, hgB1, hgB⟩ := hoB.block (by rw [toI_length, hbl, hm]; exact hc0)
  rw [toI_length, hbl, hm] at hcB HOB
  have HP := Lib.hid hg.p
  have hbgl := hg.p.1
  rw [hvl] at HV ⊢
  have c6 := hg.p.2
  have OV := Lib.hid (fun (n : Nat) (W : World) (hW : Below w.heap.size w W) (hn : n < 1000000) (ho : okOver q n = true) => over_any bg q n W (hg.p.below hW) (by omega) hq2 (by omega) ho)
  have MM := Lib.hid (fun (a b : Nat) (W : World) (hW : Below w.heap.size w W) => mod_mul a b bg q W (hg.p.below hW) (by omega) hq2)
  clear hg hok hbl hbk hsz hszz hm hvl hcv hcellv hrC hoB
  have hx0 : (0 : Nat) < v.length := by rw [HVL.out]; exact hc0
  have hc00 := HCV.out 0 hx0 w (Below.refl _ _)
  rw [HVD.out 0 hx0, Nat.add_zero] at hc00
  have hv0q := HVQ.out 0 hx0
  obtain ⟨v0, hv0⟩ : ∃ x, (v.getD 0 0).toNat = x := ⟨_, rfl⟩
  have HV0 := Lib.hid hv0
  rw [hv0] at hc00 hv0q
  have HF1 := Lib.hid (show okOver q v0 = true by rw [← hv0]; exact HF.out.first)
  have hby := over_lt (q := q) (n := v0) (by omega) HF1.out
  obtain ⟨by', hby'⟩ : ∃ y, overN q v0 = y := ⟨_, rfl⟩
  have HBY := Lib.hid hby'
  have OV0 := Lib.hid (OV.out v0 w (Below.refl _ _) (by omega) HF1.out)
  rw [hby'] at hby OV0
  have HSB := Lib.hid (fun c (hc : c ≤ m) => sumTo_le (q := q) (sz := sz) (bk := bk) (v := v) (by' := by') (by omega) hq2 HF.out.szs c (by rw [HSL.out, HM.out]; exact hc))
  have hmi : (0 : Int) < (m : Int) := by omega
  clear hx0 hv0 hby'
  go_enter Try.func41, Try.ntmps41
  go_wp2_with (go_at_call 51; refine OV0.out.mono ?_; rintro e w1 ⟨rfl, hb1⟩; have HB1 := Lib.hid hb1; have hcC1 := (hb1.cell (p := ⟨bg, 3, none⟩) hbgl).trans hcC; clear hb1)
  go_loopw [6, 24] (fun s ix wr => ∃ c : Nat, c ≤ m ∧ ix = .int .i64 c ∧ s = .int .i64 (sumTo q sz bk v by' c : Nat) ∧ Below w.heap.size w wr) (fun _ ix _ => m - (intOf ix).toNat)
  case atStart => exact ⟨0, Nat.zero_le _, rfl, rfl, HB1.out⟩
  case round =>
    obtain ⟨c, hc, rfl, rfl, hb⟩ := hrel
    have HB := Lib.hid hb
    have hsb := HSB.out c hc
    by_cases hlt : c < m
    · have hci : (c : Int) < (m : Int) := by omega
      have hc0' : (0 : Int) ≤ (c : Int) := by omega
      have hcl' : c < cl.length := by rw [HM.out]; exact hlt
      have hcv' : c < v.length := by rw [HVL.out]; exact hlt
      have hcb' : c < bk.length := by rw [HBL.out, HM.out]; exact hlt
      obtain ⟨gC, cC', u, e1, _, hgC, hcu, hu⟩ := (HRC.out.below hb).at c hcl'
      obtain rfl : aC = some ⟨gC, 0, none⟩ := (Value.slice.inj e1).1
      obtain ⟨au, cu, rfl, -, -, -⟩ := hu
      rw [toI_length, ← HSZ.out c hcl'] at hcu
      have hon : okOver q (sz.getD c 0) = true := HF.out.szs _ (by rw [List.getD_eq_getElem?_getD, List.getElem?_eq_getElem (by rw [HSL.out]; exact hcl')]; exact List.getElem_mem _)
      have hl24 : sz.getD c 0 ≤ 24 := by rw [HSZ.out c hcl']; exact HCL.out _ (List.getElem_mem hcl')
      have hstp := sumTo_succ q sz bk v by' c
      have hbd : bk.getD c 0 = bk[c] := by rw [List.getD_eq_getElem?_getD, List.getElem?_eq_getElem hcb']; rfl
      have hbb : bk.getD c 0 < m := by rw [hbd, ← HM.out]; exact HBK.out _ (List.getElem_mem hcb')
      have hcB2 := (HOB.out.below hb).cellN (j := c) (by rw [toI_length, HBL.out, HM.out]) (by rw [toI_length]; exact hcb')
      rw [toI_getElem, ← hbd] at hcB2
      obtain ⟨ln, hln⟩ : ∃ x, sz.getD c 0 = x := ⟨_, rfl⟩
      rw [hln] at hcu hon hl24 hstp
      obtain ⟨bb, hbbe⟩ : ∃ x, bk.getD c 0 = x := ⟨_, rfl⟩
      rw [hbbe] at hbb hcB2 hstp
      have hbv' : bb < v.length := by rw [HVL.out]; exact hbb
      have hca := HCV.out c hcv' wr hb
      have hcb := HCV.out bb hbv' wr hb
      rw [HVD.out c hcv'] at hca
      rw [HVD.out bb hbv'] at hcb
      have hqa := HVQ.out c hcv'
      have hqb := HVQ.out bb hbv'
      obtain ⟨xa, hxa⟩ : ∃ x, (v.getD c 0).toNat = x := ⟨_, rfl⟩
      obtain ⟨xb, hxb⟩ : ∃ x, (v.getD bb 0).toNat = x := ⟨_, rfl⟩
      rw [hxa] at hca hqa hstp
      rw [hxb] at hcb hqb hstp
      have HOV := Lib.hid hon
      have ho := over_lt (q := q) (n := ln) (by omega) hon
      have M1 := Lib.hid (fun (p : BelW wr) => MM.out xa by' p.v (HB.out.trans (p.h.mono HB.out.size)))
      have M2 := Lib.hid (fun (p : BelW wr) => MM.out xb by' p.v (HB.out.trans (p.h.mono HB.out.size)))
      have O1 := Lib.hid (fun (p : BelW wr) => OV.out ln p.v (HB.out.trans (p.h.mono HB.out.size)) (by omega) HOV.out)
      have hmA : xa * by' % q < q := Nat.mod_lt _ (by omega)
      have hmB : xb * by' % q < q := Nat.mod_lt _ (by omega)
      have hwA := wrapN (a := xa) (b := by') (by omega) (by omega)
      have hwB := wrapN (a := xb) (b := by') (by omega) (by omega)
      obtain ⟨A, hA⟩ : ∃ x, xa * by' % q = x := ⟨_, rfl⟩
      obtain ⟨A2, hA2⟩ : ∃ x, xb * by' % q = x := ⟨_, rfl⟩
      rw [hA] at M1 hmA hstp
      rw [hA2] at M2 hmB hstp
      have hwX := wrapN (a := A) (b := A2) (by omega) (by omega)
      have hrX := remN A A2 q
      have hmX : A * A2 % q < q := Nat.mod_lt _ (by omega)
      obtain ⟨X, hX⟩ : ∃ x, A * A2 % q = x := ⟨_, rfl⟩
      rw [hX] at hrX hmX hstp
      obtain ⟨O, hO⟩ : ∃ x, overN q ln = x := ⟨_, rfl⟩
      rw [hO] at O1 ho hstp
      have hwY := wrapN (a := X) (b := O) (by omega) (by omega)
      obtain ⟨s, hs⟩ : ∃ s, sumTo q sz bk v by' c = s := ⟨_, rfl⟩
      rw [hs] at hstp hsb ⊢
      have hXO : (X : Int) * (O : Int) ≤ 62 * 62 ∧ 0 ≤ (X : Int) * (O : Int) := ⟨Int.mul_le_mul (by omega) (by omega) (by omega) (by omega), Int.mul_nonneg (by omega) (by omega)⟩
      have hwS : IntKind.i64.wrap ((s : Int) + (X : Int) * (O : Int)) = (s : Int) + (X : Int) * (O : Int) := IntWalk.i64_in _ (by omega)
      have HST := Lib.hid (show (sumTo q sz bk v by' (c + 1) : Int) = (s : Int) + (X : Int) * (O : Int) by rw [hstp]; simp)
      have hq0 : ¬ (q : Int) = 0 := by omega
      have hq0' : ((q : Int) == 0) = false := by simp; omega
      have d1 : ∀ p : BelW wr, p.v.cell? ⟨bv, ov + c, none⟩ = some (.int .i64 (xa : Nat)) := fun p => (p.h.cell (p := ⟨bv, ov + c, none⟩) (Nat.lt_of_lt_of_le hbv HB.out.size)).trans hca
      have d2 : ∀ p : BelW wr, p.v.cell? ⟨bv, ov + bb, none⟩ = some (.int .i64 (xb : Nat)) := fun p => (p.h.cell (p := ⟨bv, ov + bb, none⟩) (Nat.lt_of_lt_of_le hbv HB.out.size)).trans hcb
      have d3 : ∀ p : BelW wr, p.v.cell? ⟨bg, 5, none⟩ = some (.slice (some ⟨gB, 0, none⟩) m cB) := fun p => ((HB.out.trans (p.h.mono HB.out.size)).cell (p := ⟨bg, 5, none⟩) hbgl).trans hcB
      have d4 : ∀ p : BelW wr, p.v.cell? ⟨bg, 6, none⟩ = some (.int .i64 (q : Nat)) := fun p => ((HB.out.trans (p.h.mono HB.out.size)).cell (p := ⟨bg, 6, none⟩) hbgl).trans c6
      have d5 : ∀ p : BelW wr, p.v.cell? ⟨gB, c, none⟩ = some (.int .i64 (bb : Nat)) := fun p => (p.h.cell (p := ⟨gB, c, none⟩) (World.ownsRow.lt (HOB.out.below HB.out) gB rfl).2).trans hcB2
      have hbi : (bb : Int) < (m : Int) := by omega
      have hb0 : (0 : Int) ≤ (bb : Int) := by omega
      have HMX := Lib.hid mixed
      clear hb hcl' hcv' hcb' e1 hon hstp hbd hbbe hbv' hca hcb hxa hxb hA hA2 hX hO hs hcB2 hln
      go_upto_region 6 with (fail)
      refine wp_region_bel HMX.out (by kernel_rfl) ?_
      repeat (first
        | go_big_quiet_step ((first | (go_at_call 50; (with_reducible refine Calls.bel_of (M1.out _))) | (go_at_call 50; (with_reducible refine Calls.bel_of (M2.out _))) | (go_at_call 51; (with_reducible refine Calls.bel_of (O1.out _)))))
        | quiet_step ((first | (go_at_call 50; (with_reducible refine Calls.bel_of (M1.out _))) | (go_at_call 50; (with_reducible refine Calls.bel_of (M2.out _))) | (go_at_call 51; (with_reducible refine Calls.bel_of (O1.out _))))))
      refine wpQuiet_nil ?_
      intro wq hw'
      have HBQ := Lib.hid (HB.out.trans ((BelW.of hw').mono HB.out.size))
      clear hw' d1 d2 d3 d4 d5
      go_wp2
      go_roundw
      case rel => exact ⟨c + 1, hlt, by go_num, by rw [HST.out], HBQ.out⟩
      case measure => simp [intOf]; omega
    · obtain rfl : c = m := by omega
      have hci : ¬ (c : Int) < (c : Int) := by omega
      obtain ⟨wa, hwa⟩ : ∃ x, x = wr := ⟨_, rfl⟩
      rw [← hwa] at HB hb ⊢
      clear hwa
      have HS5 := Lib.hid (show okOver q (sumTo q sz bk v by' c) = true by
        have h := HF.out.sum
        rw [HV0.out, HBY.out, HSL.out, HM.out] at h
        exact h)
      have HSQ := Lib.hid (show sqN q nE sz bk v = nE * overN q (sumTo q sz bk v by' c) % q by unfold sqN; rw [HV0.out, HBY.out, HSL.out, HM.out])
      have HFL := Lib.hid (show funL q nE sz bk v = funTo q sz v by' (rootN q (sqN q nE sz bk v)) c by unfold funL; rw [HV0.out, HBY.out, HSL.out, HM.out])
      have HRT := Lib.hid (okRoot_iff.1 HF.out.root)
      have HRN := Lib.hid (fun x h1 h2 => root_no (q := q) (n := sqN q nE sz bk v) (x := x) h1 h2)
      have hR1 := root_pos q (sqN q nE sz bk v)
      have hR2 := root_le q (sqN q nE sz bk v)
      obtain ⟨s, hs⟩ : ∃ s, sumTo q sz bk v by' c = s := ⟨_, rfl⟩
      rw [hs] at hsb HS5 HSQ ⊢
      have ho := over_lt (q := q) (n := s) (by omega) HS5.out
      have O1 := Lib.hid (fun (p : BelW wa) => OV.out s p.v (HB.out.trans (p.h.mono HB.out.size)) (by omega) HS5.out)
      obtain ⟨O, hO⟩ : ∃ x, overN q s = x := ⟨_, rfl⟩
      rw [hO] at O1 ho HSQ
      have hwO := wrapN (a := nE) (b := O) (by omega) (by omega)
      have M1 := Lib.hid (fun (p : BelW wa) => MM.out nE O p.v (HB.out.trans (p.h.mono HB.out.size)))
      have hsql : nE * O % q < q := Nat.mod_lt _ (by omega)
      obtain ⟨sq, hsq⟩ : ∃ x, nE * O % q = x := ⟨_, rfl⟩
      rw [hsq] at M1 HSQ hsql
      rw [HSQ.out] at HFL HRT HRN hR1 hR2
      obtain ⟨R, hR⟩ : ∃ x, rootN q sq = x := ⟨_, rfl⟩
      rw [hR] at HFL HRT HRN hR1 hR2
      have d1 : ∀ p : BelW wa, p.v.cell? ⟨bg, 1, none⟩ = some (.slice aE nE cE) := fun p => ((HB.out.trans (p.h.mono HB.out.size)).cell (p := ⟨bg, 1, none⟩) hbgl).trans hcE
      have HMX := Lib.hid mixed
      have hsw := HB.out.size
      have hq0 : ¬ (q : Int) = 0 := by omega
      have hq0' : ((q : Int) == 0) = false := by simp; omega
      clear hb hs hO hsq hR
      go_upto_region 8 with (fail)
      refine wp_region_bel HMX.out (by kernel_rfl) ?_
      repeat (first
        | go_big_quiet_step ((first | (go_at_call 50; (with_reducible refine Calls.bel_of (M1.out _))) | (go_at_call 51; (with_reducible refine Calls.bel_of (O1.out _)))))
        | quiet_step ((first | (go_at_call 50; (with_reducible refine Calls.bel_of (M1.out _))) | (go_at_call 51; (with_reducible refine Calls.bel_of (O1.out _))))))
      refine wpQuiet_nil ?_
      intro wb hw'
      have HBB := Lib.hid (HB.out.trans ((BelW.of hw').mono hsw))
      clear hw' d1
      go_wp2_with fail
      go_loopw [10] (fun dx wr => ∃ d : Nat, 1 ≤ d ∧ d ≤ R ∧ dx = .int .i64 d ∧ Below w.heap.size w wr) (fun dx _ => R - (intOf dx).toNat)
      case atStart => exact ⟨1, by omega, hR1, rfl, HBB.out⟩
      case round =>
        obtain ⟨d, hd1, hd, rfl, hb⟩ := hrel
        have HD := Lib.hid hb
        have c6r := (hb.cell (p := ⟨bg, 6, none⟩) hbgl).trans c6
        have hwd := wrapN (a := d) (b := d) (by omega) (by omega)
        have hrd := remN d d q
        clear hb
        by_cases hdR : d = R
        · subst hdR
          rw [HRT.out] at hrd
          have hcC2 := (HD.out.cell (p := ⟨bg, 3, none⟩) hbgl).trans hcC
          obtain ⟨we, hwe⟩ : ∃ x, x = wr := ⟨_, rfl⟩
          rw [← hwe] at HD c6r hcC2 ⊢
          clear hwe
          go_wp2_with fail
          go_loopw [11, 93] (fun vo ix wr => ∃ i : Nat, i ≤ c ∧ ix = .int .i64 i ∧ OwnI 3 w.heap.size wr vo (funTo q sz v by' d i) ∧ Below w.heap.size w wr) (fun _ ix _ => c - (intOf ix).toNat)
          case atStart => exact ⟨0, Nat.zero_le _, rfl, OwnI.nil _ _ _, HD.out⟩
          case round =>
            obtain ⟨i, hi, rfl, hof, hbf⟩ := hrel
            have HOF := Lib.hid hof
            have HBF := Lib.hid hbf
            have hszf := hbf.size
            by_cases hlt : i < c
            · have hii : (i : Int) < (c : Int) := by omega
              have hi0 : (0 : Int) ≤ (i : Int) := by omega
              have hcl' : i < cl.length := by rw [HM.out]; exact hlt
              have hcv' : i < v.length := by rw [HVL.out]; exact hlt
              obtain ⟨gC, cC', u, e1, _, hgC, hcu, hu⟩ := (HRC.out.below hbf).at i hcl'
              obtain rfl : aC = some ⟨gC, 0, none⟩ := (Value.slice.inj e1).1
              obtain ⟨au, cu, rfl, -, -, -⟩ := hu
              rw [toI_length, ← HSZ.out i hcl'] at hcu
              have hon : okOver q (sz.getD i 0) = true := HF.out.szs _ (by rw [List.getD_eq_getElem?_getD, List.getElem?_eq_getElem (by rw [HSL.out]; exact hcl')]; exact List.getElem_mem _)
              have hl24 : sz.getD i 0 ≤ 24 := by rw [HSZ.out i hcl']; exact HCL.out _ (List.getElem_mem hcl')
              have hstp := funTo_succ q sz v by' d i
              obtain ⟨ln, hln⟩ : ∃ x, sz.getD i 0 = x := ⟨_, rfl⟩
              rw [hln] at hcu hon hl24 hstp
              have hca := HCV.out i hcv' wr hbf
              rw [HVD.out i hcv'] at hca
              have hqa := HVQ.out i hcv'
              obtain ⟨xa, hxa⟩ : ∃ x, (v.getD i 0).toNat = x := ⟨_, rfl⟩
              rw [hxa] at hca hqa hstp
              have HOV := Lib.hid hon
              have ho2 := over_lt (q := q) (n := ln) (by omega) hon
              have O2 := Lib.hid (fun (W : World) (hW : Below wr.heap.size wr W) => OV.out ln W (HBF.out.trans (hW.mono HBF.out.size)) (by omega) HOV.out)
              have hmA : xa * by' % q < q := Nat.mod_lt _ (by omega)
              have hwA := wrapN (a := xa) (b := by') (by omega) (by omega)
              have hrA := remN xa by' q
              obtain ⟨A, hA⟩ : ∃ x, xa * by' % q = x := ⟨_, rfl⟩
              rw [hA] at hrA hmA hstp
              have hmX : A * d % q < q := Nat.mod_lt _ (by omega)
              have hwX := wrapN (a := A) (b := d) (by omega) (by omega)
              have hrX := remN A d q
              obtain ⟨X, hX⟩ : ∃ x, A * d % q = x := ⟨_, rfl⟩
              rw [hX] at hrX hmX hstp
              obtain ⟨O', hO'⟩ : ∃ x, overN q ln = x := ⟨_, rfl⟩
              rw [hO'] at O2 ho2 hstp
              have hwY := wrapN (a := X) (b := O') (by omega) (by omega)
              have M2 := Lib.hid (fun (W : World) (hW : Below wr.heap.size wr W) => MM.out X O' W (HBF.out.trans (hW.mono HBF.out.size)))
              obtain ⟨Y, hY⟩ : ∃ x, X * O' % q = x := ⟨_, rfl⟩
              rw [hY] at M2 hstp
              have HST := Lib.hid hstp
              have HK := Lib.hid (fun (W : World) (hW : Below wr.heap.size wr W) => show W.cell? ⟨bg, 6, none⟩ = some (.int .i64 (q : Nat)) ∧ W.cell? ⟨bv, ov + i, none⟩ = some (.int .i64 (xa : Nat)) from
                ⟨((HBF.out.trans (hW.mono HBF.out.size)).cell (p := ⟨bg, 6, none⟩) hbgl).trans c6, (hW.cell (p := ⟨bv, ov + i, none⟩) (Nat.lt_of_lt_of_le hbv HBF.out.size)).trans hca⟩)
              have hc6w := (HK.out wr (Below.refl _ _)).1
              have HLF := Lib.hid (show (funTo q sz v by' d i).length < 17592186044416 by rw [funTo_length]; omega)
              have hqn0 : ¬ q = 0 := by omega
              clear hof hbf hcl' hcv' e1 hon hstp hln hxa hA hX hO' hY
              go_upto_region 16 with (fail)
              refine wp_region_inv (by kernel_rfl) [11, 98, 99, 100, 101, 102, 103, 104, 105, 106, 107, 108, 109, 110, 111, 112, 113, 114, 115, 116, 117, 118, 119, 120, 121, 122, 123, 124, 125] (by kernel_rfl) (by kernel_rfl) (by kernel_rfl) 28 27 (by decide) rfl (by kernel_rfl) (fun f W => f = false → Below wr.heap.size wr W) (fun _ => (Below.refl _ _).drew) (Fn16 (u11) (.slice (some ⟨bv, ov, none⟩) c cv) bg bv ov i d q xa by' A X O' Y ln cu w.heap.size au (funTo q sz v by' d i) w) ?_ ?_ ?_
              · intro f j y y' wx hj h hv
                match j, hj, h, hv with
                | 0, _, h, hv =>
                  have e98 : y 98 = y' 98 := h 0 98 (.inr rfl) (by kernel_rfl)
                  have hv' : Fn16 (u11) (.slice (some ⟨bv, ov, none⟩) c cv) bg bv ov i d q xa by' A X O' Y ln cu w.heap.size au (funTo q sz v by' d i) w f 0 y wx := hv
                  simp only [Fn16] at hv' ⊢
                  rw [← e98]
                  exact hv'
                | 1, _, h, hv =>
                  have e99 : y 99 = y' 99 := h 1 99 (.inr rfl) (by kernel_rfl)
                  have hv' : Fn16 (u11) (.slice (some ⟨bv, ov, none⟩) c cv) bg bv ov i d q xa by' A X O' Y ln cu w.heap.size au (funTo q sz v by' d i) w f 1 y wx := hv
                  simp only [Fn16] at hv' ⊢
                  rw [← e99]
                  exact hv'
                | 2, _, h, hv =>
                  have e100 : y 100 = y' 100 := h 2 100 (.inr rfl) (by kernel_rfl)
                  have hv' : Fn16 (u11) (.slice (some ⟨bv, ov, none⟩) c cv) bg bv ov i d q xa by' A X O' Y ln cu w.heap.size au (funTo q sz v by' d i) w f 2 y wx := hv
                  simp only [Fn16] at hv' ⊢
                  rw [← e100]
                  exact hv'
                | 3, _, h, hv =>
                  have e101 : y 101 = y' 101 := h 3 101 (.inr rfl) (by kernel_rfl)
                  have hv' : Fn16 (u11) (.slice (some ⟨bv, ov, none⟩) c cv) bg bv ov i d q xa by' A X O' Y ln cu w.heap.size au (funTo q sz v by' d i) w f 3 y wx := hv
                  simp only [Fn16] at hv' ⊢
                  rw [← e101]
                  exact hv'
                | 4, _, h, hv =>
                  have e102 : y 102 = y' 102 := h 4 102 (.inr rfl) (by kernel_rfl)
                  have hv' : Fn16 (u11) (.slice (some ⟨bv, ov, none⟩) c cv) bg bv ov i d q xa by' A X O' Y ln cu w.heap.size au (funTo q sz v by' d i) w f 4 y wx := hv
                  simp only [Fn16] at hv' ⊢
                  rw [← e102]
                  exact hv'
                | 5, _, h, hv =>
                  have e103 : y 103 = y' 103 := h 5 103 (.inr rfl) (by kernel_rfl)
                  have hv' : Fn16 (u11) (.slice (some ⟨bv, ov, none⟩) c cv) bg bv ov i d q xa by' A X O' Y ln cu w.heap.size au (funTo q sz v by' d i) w f 5 y wx := hv
                  simp only [Fn16] at hv' ⊢
                  rw [← e103]
                  exact hv'
                | 6, _, h, hv =>
                  have e104 : y 104 = y' 104 := h 6 104 (.inr rfl) (by kernel_rfl)
                  have hv' : Fn16 (u11) (.slice (some ⟨bv, ov, none⟩) c cv) bg bv ov i d q xa by' A X O' Y ln cu w.heap.size au (funTo q sz v by' d i) w f 6 y wx := hv
                  simp only [Fn16] at hv' ⊢
                  rw [← e104]
                  exact hv'
                | 7, _, h, hv =>
                  have e105 : y 105 = y' 105 := h 7 105 (.inr rfl) (by kernel_rfl)
                  have hv' : Fn16 (u11) (.slice (some ⟨bv, ov, none⟩) c cv) bg bv ov i d q xa by' A X O' Y ln cu w.heap.size au (funTo q sz v by' d i) w f 7 y wx := hv
                  simp only [Fn16] at hv' ⊢
                  rw [← e105]
                  exact hv'
                | 8, _, h, hv =>
                  have e106 : y 106 = y' 106 := h 8 106 (.inr rfl) (by kernel_rfl)
                  have hv' : Fn16 (u11) (.slice (some ⟨bv, ov, none⟩) c cv) bg bv ov i d q xa by' A X O' Y ln cu w.heap.size au (funTo q sz v by' d i) w f 8 y wx := hv
                  simp only [Fn16] at hv' ⊢
                  rw [← e106]
                  exact hv'
                | 9, _, h, hv =>
                  have e107 : y 107 = y' 107 := h 9 107 (.inr rfl) (by kernel_rfl)
                  have hv' : Fn16 (u11) (.slice (some ⟨bv, ov, none⟩) c cv) bg bv ov i d q xa by' A X O' Y ln cu w.heap.size au (funTo q sz v by' d i) w f 9 y wx := hv
                  simp only [Fn16] at hv' ⊢
                  rw [← e107]
                  exact hv'
                | 10, _, h, hv =>
                  have e108 : y 108 = y' 108 := h 10 108 (.inr rfl) (by kernel_rfl)
                  have hv' : Fn16 (u11) (.slice (some ⟨bv, ov, none⟩) c cv) bg bv ov i d q xa by' A X O' Y ln cu w.heap.size au (funTo q sz v by' d i) w f 10 y wx := hv
                  simp only [Fn16] at hv' ⊢
                  rw [← e108]
                  exact hv'
                | 11, _, h, hv =>
                  have e109 : y 109 = y' 109 := h 11 109 (.inr rfl) (by kernel_rfl)
                  have hv' : Fn16 (u11) (.slice (some ⟨bv, ov, none⟩) c cv) bg bv ov i d q xa by' A X O' Y ln cu w.heap.size au (funTo q sz v by' d i) w f 11 y wx := hv
                  simp only [Fn16] at hv' ⊢
                  rw [← e109]
                  exact hv'
                | 12, _, h, hv =>
                  have e110 : y 110 = y' 110 := h 12 110 (.inr rfl) (by kernel_rfl)
                  have hv' : Fn16 (u11) (.slice (some ⟨bv, ov, none⟩) c cv) bg bv ov i d q xa by' A X O' Y ln cu w.heap.size au (funTo q sz v by' d i) w f 12 y wx := hv
                  simp only [Fn16] at hv' ⊢
                  rw [← e110]
                  exact hv'
                | 13, _, h, hv =>
                  have e111 : y 111 = y' 111 := h 13 111 (.inr rfl) (by kernel_rfl)
                  have hv' : Fn16 (u11) (.slice (some ⟨bv, ov, none⟩) c cv) bg bv ov i d q xa by' A X O' Y ln cu w.heap.size au (funTo q sz v by' d i) w f 13 y wx := hv
                  simp only [Fn16] at hv' ⊢
                  rw [← e111]
                  exact hv'
                | 14, _, h, hv =>
                  have e112 : y 112 = y' 112 := h 14 112 (.inr rfl) (by kernel_rfl)
                  have hv' : Fn16 (u11) (.slice (some ⟨bv, ov, none⟩) c cv) bg bv ov i d q xa by' A X O' Y ln cu w.heap.size au (funTo q sz v by' d i) w f 14 y wx := hv
                  simp only [Fn16] at hv' ⊢
                  rw [← e112]
                  exact hv'
                | 15, _, h, hv =>
                  have e113 : y 113 = y' 113 := h 15 113 (.inr rfl) (by kernel_rfl)
                  have hv' : Fn16 (u11) (.slice (some ⟨bv, ov, none⟩) c cv) bg bv ov i d q xa by' A X O' Y ln cu w.heap.size au (funTo q sz v by' d i) w f 15 y wx := hv
                  simp only [Fn16] at hv' ⊢
                  rw [← e113]
                  exact hv'
                | 16, _, h, hv =>
                  have e114 : y 114 = y' 114 := h 16 114 (.inr rfl) (by kernel_rfl)
                  have hv' : Fn16 (u11) (.slice (some ⟨bv, ov, none⟩) c cv) bg bv ov i d q xa by' A X O' Y ln cu w.heap.size au (funTo q sz v by' d i) w f 16 y wx := hv
                  simp only [Fn16] at hv' ⊢
                  rw [← e114]
                  exact hv'
                | 17, _, h, hv =>
                  have e115 : y 115 = y' 115 := h 17 115 (.inr rfl) (by kernel_rfl)
                  have hv' : Fn16 (u11) (.slice (some ⟨bv, ov, none⟩) c cv) bg bv ov i d q xa by' A X O' Y ln cu w.heap.size au (funTo q sz v by' d i) w f 17 y wx := hv
                  simp only [Fn16] at hv' ⊢
                  rw [← e115]
                  exact hv'
                | 18, _, h, hv =>
                  have e116 : y 116 = y' 116 := h 18 116 (.inr rfl) (by kernel_rfl)
                  have hv' : Fn16 (u11) (.slice (some ⟨bv, ov, none⟩) c cv) bg bv ov i d q xa by' A X O' Y ln cu w.heap.size au (funTo q sz v by' d i) w f 18 y wx := hv
                  simp only [Fn16] at hv' ⊢
                  rw [← e116]
                  exact hv'
                | 19, _, h, hv =>
                  have e117 : y 117 = y' 117 := h 19 117 (.inr rfl) (by kernel_rfl)
                  have hv' : Fn16 (u11) (.slice (some ⟨bv, ov, none⟩) c cv) bg bv ov i d q xa by' A X O' Y ln cu w.heap.size au (funTo q sz v by' d i) w f 19 y wx := hv
                  simp only [Fn16] at hv' ⊢
                  rw [← e117]
                  exact hv'
                | 20, _, h, hv =>
                  have e118 : y 118 = y' 118 := h 20 118 (.inr rfl) (by kernel_rfl)
                  have hv' : Fn16 (u11) (.slice (some ⟨bv, ov, none⟩) c cv) bg bv ov i d q xa by' A X O' Y ln cu w.heap.size au (funTo q sz v by' d i) w f 20 y wx := hv
                  simp only [Fn16] at hv' ⊢
                  rw [← e118]
                  exact hv'
                | 21, _, h, hv =>
                  have e119 : y 119 = y' 119 := h 21 119 (.inr rfl) (by kernel_rfl)
                  have hv' : Fn16 (u11) (.slice (some ⟨bv, ov, none⟩) c cv) bg bv ov i d q xa by' A X O' Y ln cu w.heap.size au (funTo q sz v by' d i) w f 21 y wx := hv
                  simp only [Fn16] at hv' ⊢
                  rw [← e119]
                  exact hv'
                | 22, _, h, hv =>
                  have e120 : y 120 = y' 120 := h 22 120 (.inr rfl) (by kernel_rfl)
                  have hv' : Fn16 (u11) (.slice (some ⟨bv, ov, none⟩) c cv) bg bv ov i d q xa by' A X O' Y ln cu w.heap.size au (funTo q sz v by' d i) w f 22 y wx := hv
                  simp only [Fn16] at hv' ⊢
                  rw [← e120]
                  exact hv'
                | 23, _, h, hv =>
                  have e121 : y 121 = y' 121 := h 23 121 (.inr rfl) (by kernel_rfl)
                  have hv' : Fn16 (u11) (.slice (some ⟨bv, ov, none⟩) c cv) bg bv ov i d q xa by' A X O' Y ln cu w.heap.size au (funTo q sz v by' d i) w f 23 y wx := hv
                  simp only [Fn16] at hv' ⊢
                  rw [← e121]
                  exact hv'
                | 24, _, h, hv =>
                  have e122 : y 122 = y' 122 := h 24 122 (.inr rfl) (by kernel_rfl)
                  have hv' : Fn16 (u11) (.slice (some ⟨bv, ov, none⟩) c cv) bg bv ov i d q xa by' A X O' Y ln cu w.heap.size au (funTo q sz v by' d i) w f 24 y wx := hv
                  simp only [Fn16] at hv' ⊢
                  rw [← e122]
                  exact hv'
                | 25, _, h, hv =>
                  have e123 : y 123 = y' 123 := h 25 123 (.inr rfl) (by kernel_rfl)
                  have hv' : Fn16 (u11) (.slice (some ⟨bv, ov, none⟩) c cv) bg bv ov i d q xa by' A X O' Y ln cu w.heap.size au (funTo q sz v by' d i) w f 25 y wx := hv
                  simp only [Fn16] at hv' ⊢
                  rw [← e123]
                  exact hv'
                | 26, _, h, hv =>
                  have e124 : y 124 = y' 124 := h 26 124 (.inr rfl) (by kernel_rfl)
                  have hv' : Fn16 (u11) (.slice (some ⟨bv, ov, none⟩) c cv) bg bv ov i d q xa by' A X O' Y ln cu w.heap.size au (funTo q sz v by' d i) w f 26 y wx := hv
                  simp only [Fn16] at hv' ⊢
                  rw [← e124]
                  exact hv'
                | 27, _, h, hv =>
                  have e125 : y 125 = y' 125 := h 27 125 (.inr rfl) (by kernel_rfl)
                  have hv' : Fn16 (u11) (.slice (some ⟨bv, ov, none⟩) c cv) bg bv ov i d q xa by' A X O' Y ln cu w.heap.size au (funTo q sz v by' d i) w f 27 y wx := hv
                  simp only [Fn16] at hv' ⊢
                  rw [← e125]
                  exact hv'
                | j + 28, hj, _, _ => exact absurd hj (by omega)
              · intro io o him ho f y wx hx hf hd hini
                match io, him, ho, hf with
                | 0, _, ho, hf =>
                  obtain rfl := Option.some.inj ho
                  obtain rfl : f = false := hf (.inl (by kernel_rfl))
                  have e11 : y 11 = u11 := hini 28 11 (.inl (by kernel_rfl)) (by decide) (by kernel_rfl)
                  refine rstep_value rfl (v := u11) (w' := wx) ?_ ⟨by simpa using hx, rfl, by intro j hj _ _ h; simpa using h⟩
                  · simp only [hole, List.foldl_cons, List.foldl_nil, List.setIfInBounds_toArray, List.set_cons_zero, List.set_cons_succ]
                    rw [e11]
                    go_simp
                | 1, _, ho, hf =>
                  obtain rfl := Option.some.inj ho
                  obtain rfl : f = false := hf (.inl (by kernel_rfl))
                  refine rstep_value rfl (v := .pointer (some ⟨bg, 0, none⟩)) (w' := wx) ?_ ⟨by simpa using hx, rfl, by intro j hj _ _ h; simpa using h⟩
                  · simp only [hole, List.foldl_cons, List.foldl_nil, List.setIfInBounds_toArray, List.set_cons_zero, List.set_cons_succ]
                    go_simp
                | 2, _, ho, hf =>
                  obtain rfl := Option.some.inj ho
                  obtain rfl : f = false := hf (.inl (by kernel_rfl))
                  refine rstep_value rfl (v := .slice (some ⟨bv, ov, none⟩) c cv) (w' := wx) ?_ ⟨by simpa using hx, rfl, by intro j hj _ _ h; simpa using h⟩
                  · simp only [hole, List.foldl_cons, List.foldl_nil, List.setIfInBounds_toArray, List.set_cons_zero, List.set_cons_succ]
                    go_simp
                | 3, _, ho, hf =>
                  obtain rfl := Option.some.inj ho
                  obtain rfl : f = false := hf (.inl (by kernel_rfl))
                  refine rstep_value rfl (v := .int .i64 (i : Nat)) (w' := wx) ?_ ⟨by simpa using hx, rfl, by intro j hj _ _ h; simpa using h⟩
                  · simp only [hole, List.foldl_cons, List.foldl_nil, List.setIfInBounds_toArray, List.set_cons_zero, List.set_cons_succ]
                    go_simp
                | 4, _, ho, hf =>
                  obtain rfl := Option.some.inj ho
                  obtain rfl : f = false := hf (.inl (by kernel_rfl))
                  have e100 : y 100 = .slice (some ⟨bv, ov, none⟩) c cv := hd 2 (by kernel_rfl) (by decide)
                  have e101 : y 101 = .int .i64 (i : Nat) := hd 3 (by kernel_rfl) (by decide)
                  refine rstep_value rfl (v := .pointer (some ⟨bv, ov + i, none⟩)) (w' := wx) ?_ ⟨by simpa using hx, rfl, by intro j hj _ _ h; simpa using h⟩
                  · simp only [hole, List.foldl_cons, List.foldl_nil, List.setIfInBounds_toArray, List.set_cons_zero, List.set_cons_succ]
                    go_simp
                | 5, _, ho, hf =>
                  obtain rfl := Option.some.inj ho
                  obtain rfl : f = false := hf (.inl (by kernel_rfl))
                  have e102 : y 102 = .pointer (some ⟨bv, ov + i, none⟩) := hd 4 (by kernel_rfl) (by decide)
                  have cx := (HK.out wx (hx rfl)).2
                  refine rstep_value rfl (v := .int .i64 (xa : Nat)) (w' := wx) ?_ ⟨by simpa using hx, rfl, by intro j hj _ _ h; simpa using h⟩
                  · simp only [hole, List.foldl_cons, List.foldl_nil, List.setIfInBounds_toArray, List.set_cons_zero, List.set_cons_succ]
                    go_simp
                | 6, _, ho, hf =>
                  obtain rfl := Option.some.inj ho
                  obtain rfl : f = false := hf (.inl (by kernel_rfl))
                  refine rstep_value rfl (v := .int .i64 (by' : Nat)) (w' := wx) ?_ ⟨by simpa using hx, rfl, by intro j hj _ _ h; simpa using h⟩
                  · simp only [hole, List.foldl_cons, List.foldl_nil, List.setIfInBounds_toArray, List.set_cons_zero, List.set_cons_succ]
                    go_simp
                | 7, _, ho, hf =>
                  obtain rfl := Option.some.inj ho
                  obtain rfl : f = false := hf (.inl (by kernel_rfl))
                  have e103 : y 103 = .int .i64 (xa : Nat) := hd 5 (by kernel_rfl) (by decide)
                  have e104 : y 104 = .int .i64 (by' : Nat) := hd 6 (by kernel_rfl) (by decide)
                  refine rstep_value rfl (v := .int .i64 ((xa : Int) * (by' : Int))) (w' := wx) ?_ ⟨by simpa using hx, rfl, by intro j hj _ _ h; simpa using h⟩
                  · simp only [hole, List.foldl_cons, List.foldl_nil, List.setIfInBounds_toArray, List.set_cons_zero, List.set_cons_succ]
                    go_simp
                | 8, _, ho, hf =>
                  obtain rfl := Option.some.inj ho
                  obtain rfl : f = false := hf (.inl (by kernel_rfl))
                  refine rstep_value rfl (v := .pointer (some ⟨bg, 0, none⟩)) (w' := wx) ?_ ⟨by simpa using hx, rfl, by intro j hj _ _ h; simpa using h⟩
                  · simp only [hole, List.foldl_cons, List.foldl_nil, List.setIfInBounds_toArray, List.set_cons_zero, List.set_cons_succ]
                    go_simp
                | 9, _, ho, hf =>
                  obtain rfl := Option.some.inj ho
                  obtain rfl : f = false := hf (.inl (by kernel_rfl))
                  have e106 : y 106 = .pointer (some ⟨bg, 0, none⟩) := hd 8 (by kernel_rfl) (by decide)
                  refine rstep_value rfl (v := .pointer (some ⟨bg, 0, none⟩)) (w' := wx) ?_ ⟨by simpa using hx, rfl, by intro j hj _ _ h; simpa using h⟩
                  · simp only [hole, List.foldl_cons, List.foldl_nil, List.setIfInBounds_toArray, List.set_cons_zero, List.set_cons_succ]
                    go_simp
                | 10, _, ho, hf =>
                  obtain rfl := Option.some.inj ho
                  obtain rfl : f = false := hf (.inl (by kernel_rfl))
                  have e107 : y 107 = .pointer (some ⟨bg, 0, none⟩) := hd 9 (by kernel_rfl) (by decide)
                  refine rstep_value rfl (v := .pointer (some ⟨bg, 6, none⟩)) (w' := wx) ?_ ⟨by simpa using hx, rfl, by intro j hj _ _ h; simpa using h⟩
                  · simp only [hole, List.foldl_cons, List.foldl_nil, List.setIfInBounds_toArray, List.set_cons_zero, List.set_cons_succ]
                    go_simp
                | 11, _, ho, hf =>
                  obtain rfl := Option.some.inj ho
                  obtain rfl : f = false := hf (.inl (by kernel_rfl))
                  have e108 : y 108 = .pointer (some ⟨bg, 6, none⟩) := hd 10 (by kernel_rfl) (by decide)
                  have cx := (HK.out wx (hx rfl)).1
                  refine rstep_value rfl (v := .int .i64 (q : Nat)) (w' := wx) ?_ ⟨by simpa using hx, rfl, by intro j hj _ _ h; simpa using h⟩
                  · simp only [hole, List.foldl_cons, List.foldl_nil, List.setIfInBounds_toArray, List.set_cons_zero, List.set_cons_succ]
                    go_simp
                | 12, _, ho, hf =>
                  obtain rfl := Option.some.inj ho
                  obtain rfl : f = false := hf (.inl (by kernel_rfl))
                  have e105 : y 105 = .int .i64 ((xa : Int) * (by' : Int)) := hd 7 (by kernel_rfl) (by decide)
                  have e109 : y 109 = .int .i64 (q : Nat) := hd 11 (by kernel_rfl) (by decide)
                  refine rstep_value rfl (v := .int .i64 (A : Nat)) (w' := wx) ?_ ⟨by simpa using hx, rfl, by intro j hj _ _ h; simpa using h⟩
                  · simp only [hole, List.foldl_cons, List.foldl_nil, List.setIfInBounds_toArray, List.set_cons_zero, List.set_cons_succ]
                    go_simp
                | 13, _, ho, hf =>
                  obtain rfl := Option.some.inj ho
                  obtain rfl : f = false := hf (.inl (by kernel_rfl))
                  refine rstep_value rfl (v := .int .i64 (d : Nat)) (w' := wx) ?_ ⟨by simpa using hx, rfl, by intro j hj _ _ h; simpa using h⟩
                  · simp only [hole, List.foldl_cons, List.foldl_nil, List.setIfInBounds_toArray, List.set_cons_zero, List.set_cons_succ]
                    go_simp
                | 14, _, ho, hf =>
                  obtain rfl := Option.some.inj ho
                  obtain rfl : f = false := hf (.inl (by kernel_rfl))
                  have e110 : y 110 = .int .i64 (A : Nat) := hd 12 (by kernel_rfl) (by decide)
                  have e111 : y 111 = .int .i64 (d : Nat) := hd 13 (by kernel_rfl) (by decide)
                  refine rstep_value rfl (v := .int .i64 ((A : Int) * (d : Int))) (w' := wx) ?_ ⟨by simpa using hx, rfl, by intro j hj _ _ h; simpa using h⟩
                  · simp only [hole, List.foldl_cons, List.foldl_nil, List.setIfInBounds_toArray, List.set_cons_zero, List.set_cons_succ]
                    go_simp
                | 15, _, ho, hf =>
                  obtain rfl := Option.some.inj ho
                  obtain rfl : f = false := hf (.inl (by kernel_rfl))
                  refine rstep_value rfl (v := .pointer (some ⟨bg, 0, none⟩)) (w' := wx) ?_ ⟨by simpa using hx, rfl, by intro j hj _ _ h; simpa using h⟩
                  · simp only [hole, List.foldl_cons, List.foldl_nil, List.setIfInBounds_toArray, List.set_cons_zero, List.set_cons_succ]
                    go_simp
                | 16, _, ho, hf =>
                  obtain rfl := Option.some.inj ho
                  obtain rfl : f = false := hf (.inl (by kernel_rfl))
                  have e113 : y 113 = .pointer (some ⟨bg, 0, none⟩) := hd 15 (by kernel_rfl) (by decide)
                  refine rstep_value rfl (v := .pointer (some ⟨bg, 0, none⟩)) (w' := wx) ?_ ⟨by simpa using hx, rfl, by intro j hj _ _ h; simpa using h⟩
                  · simp only [hole, List.foldl_cons, List.foldl_nil, List.setIfInBounds_toArray, List.set_cons_zero, List.set_cons_succ]
                    go_simp
                | 17, _, ho, hf =>
                  obtain rfl := Option.some.inj ho
                  obtain rfl : f = false := hf (.inl (by kernel_rfl))
                  have e114 : y 114 = .pointer (some ⟨bg, 0, none⟩) := hd 16 (by kernel_rfl) (by decide)
                  refine rstep_value rfl (v := .pointer (some ⟨bg, 6, none⟩)) (w' := wx) ?_ ⟨by simpa using hx, rfl, by intro j hj _ _ h; simpa using h⟩
                  · simp only [hole, List.foldl_cons, List.foldl_nil, List.setIfInBounds_toArray, List.set_cons_zero, List.set_cons_succ]
                    go_simp
                | 18, _, ho, hf =>
                  obtain rfl := Option.some.inj ho
                  obtain rfl : f = false := hf (.inl (by kernel_rfl))
                  have e115 : y 115 = .pointer (some ⟨bg, 6, none⟩) := hd 17 (by kernel_rfl) (by decide)
                  have cx := (HK.out wx (hx rfl)).1
                  refine rstep_value rfl (v := .int .i64 (q : Nat)) (w' := wx) ?_ ⟨by simpa using hx, rfl, by intro j hj _ _ h; simpa using h⟩
                  · simp only [hole, List.foldl_cons, List.foldl_nil, List.setIfInBounds_toArray, List.set_cons_zero, List.set_cons_succ]
                    go_simp
                | 19, _, ho, hf =>
                  obtain rfl := Option.some.inj ho
                  obtain rfl : f = false := hf (.inl (by kernel_rfl))
                  have e112 : y 112 = .int .i64 ((A : Int) * (d : Int)) := hd 14 (by kernel_rfl) (by decide)
                  have e116 : y 116 = .int .i64 (q : Nat) := hd 18 (by kernel_rfl) (by decide)
                  refine rstep_value rfl (v := .int .i64 (X : Nat)) (w' := wx) ?_ ⟨by simpa using hx, rfl, by intro j hj _ _ h; simpa using h⟩
                  · simp only [hole, List.foldl_cons, List.foldl_nil, List.setIfInBounds_toArray, List.set_cons_zero, List.set_cons_succ]
                    go_simp
                | 20, _, ho, hf =>
                  obtain rfl := Option.some.inj ho
                  obtain rfl : f = false := hf (.inl (by kernel_rfl))
                  refine rstep_value rfl (v := .pointer (some ⟨bg, 0, none⟩)) (w' := wx) ?_ ⟨by simpa using hx, rfl, by intro j hj _ _ h; simpa using h⟩
                  · simp only [hole, List.foldl_cons, List.foldl_nil, List.setIfInBounds_toArray, List.set_cons_zero, List.set_cons_succ]
                    go_simp
                | 21, _, ho, hf =>
                  obtain rfl := Option.some.inj ho
                  obtain rfl : f = false := hf (.inl (by kernel_rfl))
                  refine rstep_value rfl (v := .slice au ln cu) (w' := wx) ?_ ⟨by simpa using hx, rfl, by intro j hj _ _ h; simpa using h⟩
                  · simp only [hole, List.foldl_cons, List.foldl_nil, List.setIfInBounds_toArray, List.set_cons_zero, List.set_cons_succ]
                    go_simp
                | 22, _, ho, hf =>
                  obtain rfl := Option.some.inj ho
                  obtain rfl : f = false := hf (.inl (by kernel_rfl))
                  have e119 : y 119 = .slice au ln cu := hd 21 (by kernel_rfl) (by decide)
                  refine rstep_value rfl (v := .int .i64 (ln : Nat)) (w' := wx) ?_ ⟨by simpa using hx, rfl, by intro j hj _ _ h; simpa using h⟩
                  · simp only [hole, List.foldl_cons, List.foldl_nil, List.setIfInBounds_toArray, List.set_cons_zero, List.set_cons_succ]
                    go_simp
                | 23, _, ho, hf =>
                  obtain rfl := Option.some.inj ho
                  obtain rfl : f = false := hf (.inl (by kernel_rfl))
                  have e118 : y 118 = .pointer (some ⟨bg, 0, none⟩) := hd 20 (by kernel_rfl) (by decide)
                  have e120 : y 120 = .int .i64 (ln : Nat) := hd 22 (by kernel_rfl) (by decide)
                  refine rstep_call rfl (f := 51) (args := #[.pointer (some ⟨bg, 0, none⟩), .int .i64 (ln : Nat)]) (w' := wx) ?_ (O2.out wx (hx rfl)) ?_
                  · simp only [hole, List.foldl_cons, List.foldl_nil, List.setIfInBounds_toArray, List.set_cons_zero, List.set_cons_succ]
                    go_simp
                  · rintro e w'' ⟨rfl, hb⟩
                    exact ⟨_, rfl, fun _ => (hx rfl).trans (hb.mono (hx rfl).size), rfl, (fun j _ _ _ h => Fn16_keep u11 (.slice (some ⟨bv, ov, none⟩) c cv) bg bv ov i d q xa by' A X O' Y ln cu w.heap.size au (funTo q sz v by' d i) w _ j y _ _ (hb) (by simpa using h))⟩
                | 24, _, ho, hf =>
                  obtain rfl := Option.some.inj ho
                  obtain rfl : f = false := hf (.inl (by kernel_rfl))
                  have e117 : y 117 = .int .i64 (X : Nat) := hd 19 (by kernel_rfl) (by decide)
                  have e121 : y 121 = .int .i64 (O' : Nat) := hd 23 (by kernel_rfl) (by decide)
                  refine rstep_value rfl (v := .int .i64 ((X : Int) * (O' : Int))) (w' := wx) ?_ ⟨by simpa using hx, rfl, by intro j hj _ _ h; simpa using h⟩
                  · simp only [hole, List.foldl_cons, List.foldl_nil, List.setIfInBounds_toArray, List.set_cons_zero, List.set_cons_succ]
                    go_simp
                | 25, _, ho, hf =>
                  obtain rfl := Option.some.inj ho
                  obtain rfl : f = false := hf (.inl (by kernel_rfl))
                  have e99 : y 99 = .pointer (some ⟨bg, 0, none⟩) := hd 1 (by kernel_rfl) (by decide)
                  have e122 : y 122 = .int .i64 ((X : Int) * (O' : Int)) := hd 24 (by kernel_rfl) (by decide)
                  refine rstep_call rfl (f := 50) (args := #[.pointer (some ⟨bg, 0, none⟩), .int .i64 ((X : Int) * (O' : Int))]) (w' := wx) ?_ (M2.out wx (hx rfl)) ?_
                  · simp only [hole, List.foldl_cons, List.foldl_nil, List.setIfInBounds_toArray, List.set_cons_zero, List.set_cons_succ]
                    go_simp
                  · rintro e w'' ⟨rfl, hb⟩
                    exact ⟨_, rfl, fun _ => (hx rfl).trans (hb.mono (hx rfl).size), rfl, (fun j _ _ _ h => Fn16_keep u11 (.slice (some ⟨bv, ov, none⟩) c cv) bg bv ov i d q xa by' A X O' Y ln cu w.heap.size au (funTo q sz v by' d i) w _ j y _ _ (hb) (by simpa using h))⟩
                | 26, _, ho, hf =>
                  obtain rfl := Option.some.inj ho
                  obtain rfl : f = false := hf (.inl (by kernel_rfl))
                  have e123 : y 123 = .int .i64 (Y : Nat) := hd 25 (by kernel_rfl) (by decide)
                  have hbl := (Below.refl wx.heap.size wx).alloc (Nat.le_refl _) (.cells #[.int .i64 (Y : Nat)] 3)
                  refine rstep_value rfl (v := .slice (some ⟨wx.heap.size, 0, none⟩) 1 1) (w' := wx.alloc (.cells #[.int .i64 (Y : Nat)] 3)) ?_ ⟨fun _ => (hx rfl).trans (hbl.mono (hx rfl).size), fun _ => ⟨_, rfl, Held.new _ _ [_]⟩, (fun j _ _ _ h => Fn16_keep u11 (.slice (some ⟨bv, ov, none⟩) c cv) bg bv ov i d q xa by' A X O' Y ln cu w.heap.size au (funTo q sz v by' d i) w _ j y _ _ (hbl) (by simpa using h))⟩
                  · simp only [hole, List.foldl_cons, List.foldl_nil, List.setIfInBounds_toArray, List.set_cons_zero, List.set_cons_succ]
                    go_simp
                | 27, _, ho, hf =>
                  obtain rfl := Option.some.inj ho
                  obtain rfl : f = false := hf (.inr rfl)
                  have e98 : y 98 = u11 := hd 0 (by kernel_rfl) (by decide)
                  have v26 : false = false → ∃ b, y 124 = .slice (some ⟨b, 0, none⟩) 1 1 ∧ Held wx b 3 [.int .i64 (Y : Nat)] := hd 26 (by kernel_rfl) (by decide)
                  obtain ⟨b26, e124, hh⟩ := v26 rfl
                  have hb0 := hx rfl
                  have hz0 := hb0.size
                  have hz1 := HBF.out.size
                  obtain ⟨v', w', hrun, ho', hg', -⟩ := run_app1 (P := Try.prog) (t := 48) (ty := 48) Try.underlying48 info3 (HOF.out.below hb0) (hh.at (i := 0) rfl) HLF.out (B := w.heap.size) (by omega)
                  refine rstep_value rfl (v := v') (w' := w') ?_ ⟨(fun h => by cases h), ⟨ho', (HBF.out.trans (hb0.mono hszf)).grown hg' (by omega) (fun k hk => (World.ownsRow.lt HOF.out k hk).1), rfl⟩, (fun j _ hj _ h => Fn16_turn u11 (.slice (some ⟨bv, ov, none⟩) c cv) bg bv ov i d q xa by' A X O' Y ln cu w.heap.size au (funTo q sz v by' d i) w j y hj h)⟩
                  · simp only [hole, List.foldl_cons, List.foldl_nil, List.setIfInBounds_toArray, List.set_cons_zero, List.set_cons_succ]
                    simp [execOp, resolve, invoke, builtin, Act.eval, e98, e124, Result.andThen]
                    rw [hrun]
                | _ + 28, him, _, _ => exact absurd him (by omega)
              · intro o ho y wx hx hd hini
                obtain rfl := Option.some.inj ho
                have e98 : y 98 = u11 := hd 0 (by decide)
                have e99 : y 99 = .pointer (some ⟨bg, 0, none⟩) := hd 1 (by decide)
                have e100 : y 100 = .slice (some ⟨bv, ov, none⟩) c cv := hd 2 (by decide)
                have e101 : y 101 = .int .i64 (i : Nat) := hd 3 (by decide)
                have e102 : y 102 = .pointer (some ⟨bv, ov + i, none⟩) := hd 4 (by decide)
                have e103 : y 103 = .int .i64 (xa : Nat) := hd 5 (by decide)
                have e104 : y 104 = .int .i64 (by' : Nat) := hd 6 (by decide)
                have e105 : y 105 = .int .i64 ((xa : Int) * (by' : Int)) := hd 7 (by decide)
                have e106 : y 106 = .pointer (some ⟨bg, 0, none⟩) := hd 8 (by decide)
                have e107 : y 107 = .pointer (some ⟨bg, 0, none⟩) := hd 9 (by decide)
                have e108 : y 108 = .pointer (some ⟨bg, 6, none⟩) := hd 10 (by decide)
                have e109 : y 109 = .int .i64 (q : Nat) := hd 11 (by decide)
                have e110 : y 110 = .int .i64 (A : Nat) := hd 12 (by decide)
                have e111 : y 111 = .int .i64 (d : Nat) := hd 13 (by decide)
                have e112 : y 112 = .int .i64 ((A : Int) * (d : Int)) := hd 14 (by decide)
                have e113 : y 113 = .pointer (some ⟨bg, 0, none⟩) := hd 15 (by decide)
                have e114 : y 114 = .pointer (some ⟨bg, 0, none⟩) := hd 16 (by decide)
                have e115 : y 115 = .pointer (some ⟨bg, 6, none⟩) := hd 17 (by decide)
                have e116 : y 116 = .int .i64 (q : Nat) := hd 18 (by decide)
                have e117 : y 117 = .int .i64 (X : Nat) := hd 19 (by decide)
                have e118 : y 118 = .pointer (some ⟨bg, 0, none⟩) := hd 20 (by decide)
                have e119 : y 119 = .slice au ln cu := hd 21 (by decide)
                have e120 : y 120 = .int .i64 (ln : Nat) := hd 22 (by decide)
                have e121 : y 121 = .int .i64 (O' : Nat) := hd 23 (by decide)
                have e122 : y 122 = .int .i64 ((X : Int) * (O' : Int)) := hd 24 (by decide)
                have e123 : y 123 = .int .i64 (Y : Nat) := hd 25 (by decide)
                have v27 : OwnI 3 w.heap.size wx (y 125) (funTo q sz v by' d i ++ [((Y : Nat) : Int)]) ∧ Below w.heap.size w wx ∧ w.heap.size = w.heap.size := hd 27 (by decide)
                clear hd
                obtain ⟨v9, hv9⟩ : ∃ v9, y 125 = v9 := ⟨_, rfl⟩
                rw [hv9] at v27
                obtain ⟨a9, n9, c9, rfl⟩ := own_form v27.1
                refine rstep_value rfl (v := .slice a9 n9 c9) (w' := wx) ?_ ?_
                · simp only [hole, List.foldl_cons, List.foldl_nil, List.setIfInBounds_toArray, List.set_cons_zero, List.set_cons_succ]
                  rw [hv9]
                  go_simp
                have HO9 := Lib.hid v27.1
                have HB9 := Lib.hid v27.2.1
                rw [updO_at_some y _ (.slice a9 n9 c9) 11 rfl]
                have u11' : upd y 11 (.slice a9 n9 c9) 11 = .slice a9 n9 c9 := rfl
                have u98 : upd y 11 (.slice a9 n9 c9) 98 = y 98 := rfl
                have u99 : upd y 11 (.slice a9 n9 c9) 99 = y 99 := rfl
                have u100 : upd y 11 (.slice a9 n9 c9) 100 = y 100 := rfl
                have u101 : upd y 11 (.slice a9 n9 c9) 101 = y 101 := rfl
                have u102 : upd y 11 (.slice a9 n9 c9) 102 = y 102 := rfl
                have u103 : upd y 11 (.slice a9 n9 c9) 103 = y 103 := rfl
                have u104 : upd y 11 (.slice a9 n9 c9) 104 = y 104 := rfl
                have u105 : upd y 11 (.slice a9 n9 c9) 105 = y 105 := rfl
                have u106 : upd y 11 (.slice a9 n9 c9) 106 = y 106 := rfl
                have u107 : upd y 11 (.slice a9 n9 c9) 107 = y 107 := rfl
                have u108 : upd y 11 (.slice a9 n9 c9) 108 = y 108 := rfl
                have u109 : upd y 11 (.slice a9 n9 c9) 109 = y 109 := rfl
                have u110 : upd y 11 (.slice a9 n9 c9) 110 = y 110 := rfl
                have u111 : upd y 11 (.slice a9 n9 c9) 111 = y 111 := rfl
                have u112 : upd y 11 (.slice a9 n9 c9) 112 = y 112 := rfl
                have u113 : upd y 11 (.slice a9 n9 c9) 113 = y 113 := rfl
                have u114 : upd y 11 (.slice a9 n9 c9) 114 = y 114 := rfl
                have u115 : upd y 11 (.slice a9 n9 c9) 115 = y 115 := rfl
                have u116 : upd y 11 (.slice a9 n9 c9) 116 = y 116 := rfl
                have u117 : upd y 11 (.slice a9 n9 c9) 117 = y 117 := rfl
                have u118 : upd y 11 (.slice a9 n9 c9) 118 = y 118 := rfl
                have u119 : upd y 11 (.slice a9 n9 c9) 119 = y 119 := rfl
                have u120 : upd y 11 (.slice a9 n9 c9) 120 = y 120 := rfl
                have u121 : upd y 11 (.slice a9 n9 c9) 121 = y 121 := rfl
                have u122 : upd y 11 (.slice a9 n9 c9) 122 = y 122 := rfl
                have u123 : upd y 11 (.slice a9 n9 c9) 123 = y 123 := rfl
                have u124 : upd y 11 (.slice a9 n9 c9) 124 = y 124 := rfl
                have u125 : upd y 11 (.slice a9 n9 c9) 125 = y 125 := rfl
                simp only [hole, List.foldl_cons, List.foldl_nil, List.setIfInBounds_toArray, List.set_cons_zero, List.set_cons_succ, u11', u98, u99, u100, u101, u102, u103, u104, u105, u106, u107, u108, u109, u110, u111, u112, u113, u114, u115, u116, u117, u118, u119, u120, u121, u122, u123, u124, u125, hv9, e98, e99, e100, e101, e102, e103, e104, e105, e106, e107, e108, e109, e110, e111, e112, e113, e114, e115, e116, e117, e118, e119, e120, e121, e122, e123]
                clear e98 e99 e100 e101 e102 e103 e104 e105 e106 e107 e108 e109 e110 e111 e112 e113 e114 e115 e116 e117 e118 e119 e120 e121 e122 e123 u11' u98 u99 u100 u101 u102 u103 u104 u105 u106 u107 u108 u109 u110 u111 u112 u113 u114 u115 u116 u117 u118 u119 u120 u121 u122 u123 u124 u125 v27 hini hx
                go_wp2
                go_roundw
                case rel => exact ⟨i + 1, hlt, by go_num, by rw [HST.out]; exact HO9.out, HB9.out⟩
                case measure => simp [intOf]; omega
            · obtain rfl : i = c := by omega
              have hii : ¬ (i : Int) < (i : Int) := by omega
              clear hof hbf
              go_wp2
              go_ret
              exact ⟨_, rfl, by rw [HFL.out]; exact HOF.out, HBF.out⟩
        · have hne := HRN.out d hd1 (by omega)
          obtain ⟨y, hy⟩ : ∃ y, d * d % q = y := ⟨_, rfl⟩
          rw [hy] at hrd hne
          have hne' : (((y : Nat) : Int) != (sq : Int)) = true := by simp; omega
          have hne2 : ¬ ((y : Nat) : Int) = (sq : Int) := by omega
          have hdl : d + 1 ≤ R := by omega
          clear hy hne
          go_wp2
          go_roundw
          case rel => exact ⟨d + 1, by omega, hdl, by go_num, HD.out⟩
          case measure => simp [intOf]; omega
end Go.Proofs.Ytdackakjcnnofaa
