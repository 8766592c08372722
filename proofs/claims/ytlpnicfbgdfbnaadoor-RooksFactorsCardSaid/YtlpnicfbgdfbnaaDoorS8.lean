/- RooksFactors: the walk. -/
import Derived.Test.YtlpnicfbgdfbnaaDoorS6
import Derived.Test.YtlpnicfbgdfbnaaDoorS7
namespace Go.Proofs.YtlpnicfbgdfbnaaDoor
open Go.RowKit Go.Shelf
attribute [local go_sem] Oper.semAt_some

theorem ht_all : ((List.range 6).all fun n => (strs (n + 1) (n + 1) 0).all fun hs => resHt (stairL hs) == (hs, 0)) = true := by decide +kernel
theorem ht_of {hs : List Nat} (h : Stp hs) : resHt (stairL hs) = (hs, 0) := by
  have h1 := h.pos
  have h6 := h.le
  have := List.all_eq_true.1 (List.all_eq_true.1 ht_all (hs.length - 1) (by simp; omega)) hs (by rw [show hs.length - 1 + 1 = hs.length by omega]; exact stp_mem h)
  exact eq_of_beq this
theorem HeightsS_any (v : Value) (hs : List Nat) (w : World) (hv : Ints w v (toI (stairL hs))) (h : Stp hs) :
    Calls Tryd.prog 36 #[v] w fun e w' => ∃ v', e = .returned (.tuple #[v', .int .i64 0]) ∧ OwnI 3 w.heap.size w' v' (toI hs) ∧ Below w.heap.size w w' := by
  have := Heights_yes v _ w hv (stairL_board h)
  unfold HtIs at this
  rw [ht_of h] at this
  exact this
theorem own_drewN {e : TypeId} {B : Nat} {w : World} {v : Value} {xs : List Int} (h : OwnI e B w v xs) (q : Nat) : OwnI e B (w.drewN q) v xs := h.kept0 ⟨rfl, rfl, rfl, Nat.le_refl _, fun _ _ _ => rfl⟩
theorem own_rowS {B : Nat} {w : World} {v : Value} {s : List Int} {n : Nat} (h : OwnI 3 B w v s) (hl : s.length = n) (h0 : 1 ≤ n) : ∃ g c, v = .slice (some ⟨g, 0, none⟩) n c := by
  obtain ⟨g, c, _, rfl, _⟩ := own_open h (by omega)
  exact ⟨g, c, by rw [hl]⟩
theorem EqualB_any (v1 v2 : Value) (xs ys : List Int) (w : World) (h1 : Ints w v1 xs) (h2 : Ints w v2 ys) (b : Bool) (hb : decide (xs = ys) = b) :
    Calls Tryd.prog 20 #[v1, v2] w fun e w' => e = .returned (.bool b) ∧ Below w.heap.size w w' := hb ▸ Equal_any v1 v2 xs ys w h1 h2
theorem steep_mem {hs : List Nat} {s : List Int} (hst : Steep hs s) : ∀ y ∈ s, 0 ≤ y ∧ y ≤ 11 := fun y hy => ⟨chB_nonneg s (-1) (by omega) hst.ch y hy, hst.top y hy⟩
theorem chB_asc : ∀ (l : List Int) (p : Int), chB p l = true → ∀ i, i + 1 < l.length → l.getD i 0 < l.getD (i + 1) 0 ∨ (l.getD i 0 = 0 ∧ l.getD (i + 1) 0 = 0)
  | [], _, _, i, h => by simp at h
  | [x], _, _, i, h => by simp at h
  | x :: y :: l, p, hc, i, h => by
    rw [chB_cons] at hc
    cases i with
    | zero =>
      have := chB_cons.mp hc.2
      simpa using this.1
    | succ i => simpa using chB_asc (y :: l) x hc.2 i (by simpa using h)
theorem prodS {hs : List Nat} {s : List Int} (h : Stp hs) (hst : Steep hs s) (x : Int) : prodK x s hs.length = facT hs x := by
  rw [← hst.len, prodK_full, hst.dif, facT_prod h]
theorem prodH {hs : List Nat} (h : Stp hs) (x : Int) : prodK x (toI hs) hs.length = facT hs x := by
  have := prodK_full x (toI hs)
  rw [toI_length] at this
  rw [this, facT_prod h]
theorem prod_in {x : Int} {l : List Int} {n : Nat} (hx : 0 ≤ x ∧ x ≤ 10) (hl : ∀ y ∈ l, 0 ≤ y ∧ y ≤ 11) (hn : l.length = n) (h6 : n ≤ 6) (k : Nat) (hk : k ≤ n) : -729000000 ≤ prodK x l k ∧ prodK x l k ≤ 729000000 := by
  have h := prodK_le x l hx hl (by omega) k (by omega)
  have hp : 30 ^ k ≤ 30 ^ 6 := Nat.pow_le_pow_right (by omega) (by omega)
  omega
theorem toI_top {hs : List Nat} (h : Stp hs) : ∀ y ∈ toI hs, 0 ≤ y ∧ y ≤ 11 := by
  intro y hy
  obtain ⟨n, hn, rfl⟩ := List.mem_map.mp hy
  have := h.top n hn
  have := h.le
  exact ⟨by omega, by omega⟩

theorem same_bool {hs ms : List Nat} {s t : List Int} (h : Stp hs) (hm : Stp ms) (hst : Steep hs s) (hmt : Steep ms t) (hl : hs.length = ms.length) :
    decide (DifZ (toI hs) = DifZ (toI ms)) = decide (toI (numL (stairL hs) 0) = toI (numL (stairL ms) 0)) ∧ decide (s = t) = decide (toI (numL (stairL hs) 0) = toI (numL (stairL ms) 0)) := by
  have e1 : DifZ (toI hs) = DifZ (toI ms) ↔ toI (numL (stairL hs) 0) = toI (numL (stairL ms) 0) := ⟨fun e => by rw [num_of_dif h hm e], fun e => dif_of_num h hm (toI_inj e)⟩
  have e2 : s = t ↔ DifZ (toI hs) = DifZ (toI ms) := ⟨fun e => by rw [← hst.dif, ← hmt.dif, e], fun e => steep_unique hst.ch hmt.ch (by rw [hst.len, hmt.len, hl]) (by rw [hst.dif, hmt.dif, e])⟩
  exact ⟨decide_eq_decide.mpr e1, decide_eq_decide.mpr (e2.trans e1)⟩

set_option maxRecDepth 20000 in
set_option maxHeartbeats 8000000 in
theorem FactorsL_A (v u : Value) (xs : List Int) (ys : List Int) (x : Int) (w : World) (hv : Ints w v (xs)) (hu : Ints w u (ys)) (ht : Tab w) (hl : stairB xs = false) :
    Calls Tryd.prog 13 #[v, u, .int .i64 x] w (True1 w) := by
  have C18 := Lib.hid (fun w' (hb : Below w.heap.size w w') => awake_any w' (ht.below hb))
  have C15 := Lib.hid (fun w' (hb : Below w.heap.size w w') => list_any v xs w' (hv.below hb))
  have C41 := Lib.hid (fun v' w' (hb : Ints w' v' (xs.take 9)) => SteepBad_any v' _ w' hb (by rw [stairB_take]; exact hl))
  have C42 := Lib.hid (fun v' w' (hb : Ints w' v' (xs.take 9)) (hw : Below w.heap.size w w') => FactorBad_any v' _ x w' hb (.inl (by rw [stairB_take]; exact hl)))
  have hl9 : (xs.take 9).length ≤ 17592186044416 := by simp; omega
  obtain ⟨a, c, rfl, hlen, hcl, hc⟩ := hv
  obtain ⟨a2, c2, rfl, hlen2, hcl2, hc2⟩ := hu
  have hb0 := Below.refl w.heap.size w
  clear hc hc2 ht hl
  go_enter Tryd.func13, Tryd.ntmps13
  go_wp2_with (first
        | (go_at_call 18; refine (C18.out w4 hb4).mono ?_; rintro e w5 ⟨rfl, hb5'⟩; have hb5 := hb4.trans (hb5'.mono hb4.size))
        | (go_at_call 41; refine (C41.out v3 w3 (ho3.ints hl9)).mono ?_; rintro e w4 ⟨rfl, hb4'⟩; have hb4 := hb3.trans (hb4'.mono hb3.size))
        | (go_at_call 15; refine (C15.out w2 hb2).mono ?_; rintro e w3 ⟨v3, rfl, ho3, hb3'⟩; have hb3 := hb2.trans (hb3'.mono hb2.size))
        | (go_at_call 42; refine (C42.out v1 w1 (ho1.ints hl9) hb1).mono ?_; rintro e w2 ⟨rfl, hb2'⟩; have hb2 := hb1.trans (hb2'.mono hb1.size))
        | (go_at_call 15; refine (C15.out w hb0).mono ?_; rintro e w1 ⟨v1, rfl, ho1, hb1'⟩; have hb1 := hb0.trans (hb1'.mono hb0.size)))
  go_ret
  exact ⟨rfl, hb5⟩

set_option maxRecDepth 20000 in
set_option maxHeartbeats 8000000 in
theorem FactorsL_B (v u : Value) (hs : List Nat) (s : List Int) (ys : List Int) (x : Int) (w : World) (hv : Ints w v (toI hs)) (hu : Ints w u (ys)) (ht : Tab w) (hl : Stp hs) (hst : Steep hs s) (hx : x < 0 ∨ 10 < x) :
    Calls Tryd.prog 13 #[v, u, .int .i64 x] w (True1 w) := by
  have C18 := Lib.hid (fun w' (hb : Below w.heap.size w w') => awake_any w' (ht.below hb))
  have C15 := Lib.hid (fun w' (hb : Below w.heap.size w w') => by have := list_any v _ w' (hv.below hb); rw [take_stair hl] at this; exact this)
  have C41 := Lib.hid (fun v' w' (hb : Ints w' v' (toI hs)) => Steep_any v' hs s w' hb hl hst)
  have C37 := Lib.hid (fun w' (hb : Below w.heap.size w w') => by have := Steps_any v _ w' (hv.below hb); rw [stairB_of hl] at this; exact this)
  have hl9 : (toI hs).length ≤ 17592186044416 := hv.len
  have C42 := Lib.hid (fun v' w' (hb : Ints w' v' (toI hs)) (hw : Below w.heap.size w w') => FactorBad_any v' _ x w' hb (.inr hx))
  obtain ⟨a, c, rfl, hlen, hcl, hc⟩ := hv
  obtain ⟨a2, c2, rfl, hlen2, hcl2, hc2⟩ := hu
  have hb0 := Below.refl w.heap.size w
  have HXX := Lib.hid hx
  clear hc hc2 ht hl hst hx
  by_cases hx0 : x < 0
  · go_enter Tryd.func13, Tryd.ntmps13
    go_wp2_with (first
          | (go_at_call 18; refine (C18.out w4 hb4).mono ?_; rintro e w5 ⟨rfl, hb5'⟩; have hb5 := hb4.trans (hb5'.mono hb4.size))
          | (go_at_call 41; refine (C41.out v3 w3 (ho3.ints hl9)).mono ?_; rintro e w4 ⟨v4, rfl, ho4, hb4'⟩; have hb4 := hb3.trans (hb4'.mono hb3.size))
          | (go_at_call 15; refine (C15.out w2 hb2).mono ?_; rintro e w3 ⟨v3, rfl, ho3, hb3'⟩; have hb3 := hb2.trans (hb3'.mono hb2.size))
          | (go_at_call 42; refine (C42.out v1 w1 (ho1.ints hl9) hb1).mono ?_; rintro e w2 ⟨rfl, hb2'⟩; have hb2 := hb1.trans (hb2'.mono hb1.size))
          | (go_at_call 15; refine (C15.out w hb0).mono ?_; rintro e w1 ⟨v1, rfl, ho1, hb1'⟩; have hb1 := hb0.trans (hb1'.mono hb0.size)))
    go_ret
    exact ⟨rfl, hb5⟩
  · have hx1 : 10 < x := by have := HXX.out; omega
    go_enter Tryd.func13, Tryd.ntmps13
    go_wp2_with (first
          | (go_at_call 18; refine (C18.out w4 hb4).mono ?_; rintro e w5 ⟨rfl, hb5'⟩; have hb5 := hb4.trans (hb5'.mono hb4.size))
          | (go_at_call 41; refine (C41.out v3 w3 (ho3.ints hl9)).mono ?_; rintro e w4 ⟨v4, rfl, ho4, hb4'⟩; have hb4 := hb3.trans (hb4'.mono hb3.size))
          | (go_at_call 15; refine (C15.out w2 hb2).mono ?_; rintro e w3 ⟨v3, rfl, ho3, hb3'⟩; have hb3 := hb2.trans (hb3'.mono hb2.size))
          | (go_at_call 42; refine (C42.out v1 w1 (ho1.ints hl9) hb1).mono ?_; rintro e w2 ⟨rfl, hb2'⟩; have hb2 := hb1.trans (hb2'.mono hb1.size))
          | (go_at_call 15; refine (C15.out w hb0).mono ?_; rintro e w1 ⟨v1, rfl, ho1, hb1'⟩; have hb1 := hb0.trans (hb1'.mono hb0.size)))
    go_ret
    exact ⟨rfl, hb5⟩

set_option maxRecDepth 20000 in
set_option maxHeartbeats 8000000 in
theorem FactorsL_N (v u : Value) (hs : List Nat) (s : List Int) (ys : List Int) (x : Int) (w : World) (hv : Ints w v (toI hs)) (hu : Ints w u (ys)) (ht : Tab w) (hl : Stp hs) (hst : Steep hs s) (hx : 0 ≤ x ∧ x ≤ 10) (hm : stairB ys = false) :
    Calls Tryd.prog 13 #[v, u, .int .i64 x] w (True1 w) := by
  have C18 := Lib.hid (fun w' (hb : Below w.heap.size w w') => awake_any w' (ht.below hb))
  have C15 := Lib.hid (fun w' (hb : Below w.heap.size w w') => by have := list_any v _ w' (hv.below hb); rw [take_stair hl] at this; exact this)
  have C41 := Lib.hid (fun v' w' (hb : Ints w' v' (toI hs)) => Steep_any v' hs s w' hb hl hst)
  have C37 := Lib.hid (fun w' (hb : Below w.heap.size w w') => by have := Steps_any v _ w' (hv.below hb); rw [stairB_of hl] at this; exact this)
  have hl9 : (toI hs).length ≤ 17592186044416 := hv.len
  obtain ⟨F, hF⟩ : ∃ F, facT hs x = F := ⟨_, rfl⟩
  have C42 := Lib.hid (fun v' w' (hb : Ints w' v' (toI hs)) (hw : Below w.heap.size w w') => FactorGood_any v' hs x w' hb hl hx (ht.below hw) F hF)
  have C35 := Lib.hid (fun v' w' (hb : Ints w' v' (toI hs)) => Stair_yes v' hs w' hb hl)
  have HPA := Lib.hid ((prodH hl x).trans hF)
  have HPB := Lib.hid ((prodS hl hst x).trans hF)
  have HLS := Lib.hid hst.len
  have HTOP := Lib.hid (steep_mem hst)
  have HTOI := Lib.hid (toI_top hl)
  have HASC := Lib.hid (chB_asc s (-1) hst.ch)
  have h1 := hl.pos
  have h6 := hl.le
  have HIA := Lib.hid (prod_in hx (toI_top hl) (toI_length hs) h6)
  have HIB := Lib.hid (prod_in hx (steep_mem hst) hst.len h6)
  have hlS := steep_len hl hst
  have hlH : (toI (stairL hs)).length ≤ 17592186044416 := by rw [toI_length, stairL_length]; omega
  have D15 := Lib.hid (fun w' (hb : Below w.heap.size w w') => list_any u ys w' (hu.below hb))
  have D35 := Lib.hid (fun v' w' (hb : Ints w' v' (ys.take 9)) => Stair_no v' _ w' hb (by rw [stairB_take]; exact hm))
  have hm9 : (ys.take 9).length ≤ 17592186044416 := by simp; omega
  have hFF : (F != F) = false := by simp
  have HVW := Lib.hid hv
  obtain ⟨a, c, rfl, hlen, hcl, hc⟩ := hv.openN
  obtain ⟨a2, c2, rfl, hlen2, hcl2, hc2⟩ := hu
  have HCC := Lib.hid hc
  have hb0 := Below.refl w.heap.size w
  obtain ⟨hx0, hx1⟩ := hx
  have hx2 : ¬ x < 0 := by omega
  have hx3 : ¬ 10 < x := by omega
  clear hc hc2 ht hl hst hv hF hm
  go_enter Tryd.func13, Tryd.ntmps13
  go_wp2_with (first
      | (go_at_call 37; refine (C37.out w4 hb4).mono ?_; rintro e w5 ⟨rfl, rfl⟩; have tok5 : True := trivial)
      | (go_at_call 41; refine (C41.out v3 w3 (ho3.ints hl9)).mono ?_; rintro e w4 ⟨v4, rfl, ho4, hb4'⟩; have hb4 := hb3.trans (hb4'.mono hb3.size); obtain ⟨g4, c4, rfl⟩ := own_rowS ho4 HLS.out h1)
      | (go_at_call 15; refine (C15.out w2 hb2).mono ?_; rintro e w3 ⟨v3, rfl, ho3, hb3'⟩; have hb3 := hb2.trans (hb3'.mono hb2.size))
      | (go_at_call 42; refine (C42.out v1 w1 (ho1.ints hl9) hb1).mono ?_; rintro e w2 ⟨rfl, hb2'⟩; have hb2 := hb1.trans (hb2'.mono hb1.size))
      | (go_at_call 15; refine (C15.out w hb0).mono ?_; rintro e w1 ⟨v1, rfl, ho1, hb1'⟩; have hb1 := hb0.trans (hb1'.mono hb0.size)))
  go_loopw [11, 12, 74] (fun p q ix wr => ∃ k : Nat, k ≤ hs.length ∧ ix = .int .i64 k ∧ p = .int .i64 (prodK x (toI hs) k) ∧ q = .int .i64 (prodK x s k) ∧ OwnI 3 w3.heap.size wr (.slice (some ⟨g4, 0, none⟩) hs.length c4) s ∧ Below w.heap.size w wr) (fun _ _ ix _ => hs.length - (intOf ix).toNat)
  case atStart => exact ⟨0, Nat.zero_le _, rfl, rfl, rfl, ho4, hb4⟩
  case round =>
    obtain ⟨k, hk, rfl, rfl, rfl, hso, hbw⟩ := hrel
    clear ho4
    by_cases hlt : k < hs.length
    · obtain ⟨b, off, rfl, hbl, hcell⟩ := HCC.out (ne_nil_of_lt hlt)
      have hki : (k : Int) < (hs.length : Int) := by omega
      have hcx := (hbw.cell (p := ⟨b, off + k, none⟩) hbl).trans (hcell k hlt)
      have hls := HLS.out
      have HKS := Lib.hid (show k < s.length by omega)
      have hcs := hso.cellI k HKS.out
      have HG := Lib.hid (getD_atZ HKS.out)
      have HH := Lib.hid (show (toI hs).getD k 0 = (hs[k] : Nat) from by rw [toI_getD, getD_at hlt])
      have ht1 := HTOP.out _ (List.getElem_mem HKS.out)
      have ht2 := HTOI.out ((hs[k] : Nat) : Int) (List.mem_map.mpr ⟨_, List.getElem_mem hlt, rfl⟩)
      obtain ⟨y, hy⟩ : ∃ y, s[k]'HKS.out = y := ⟨_, rfl⟩
      obtain ⟨h, hh⟩ : ∃ h, ((hs[k] : Nat) : Int) = h := ⟨_, rfl⟩
      rw [hy] at hcs HG ht1
      rw [hh] at hcx HH ht2
      obtain ⟨ty0, ty1⟩ := ht1
      obtain ⟨th0, th1⟩ := ht2
      have HSO := Lib.hid hso
      have HBW := Lib.hid hbw
      have HA1 := Lib.hid (show prodK x (toI hs) (k + 1) = prodK x (toI hs) k * (x + h - k) by rw [prodK, HH.out])
      have HB1 := Lib.hid (show prodK x s (k + 1) = prodK x s k * (x + y - k) by rw [prodK, HG.out])
      obtain ⟨pa1, pa2⟩ := HIA.out k hk
      obtain ⟨pb1, pb2⟩ := HIB.out k hk
      obtain ⟨qa1, qa2⟩ := HIA.out (k + 1) hlt
      obtain ⟨qb1, qb2⟩ := HIB.out (k + 1) hlt
      rw [HA1.out] at qa1 qa2
      rw [HB1.out] at qb1 qb2
      obtain ⟨P, hP⟩ : ∃ P, prodK x (toI hs) k = P := ⟨_, rfl⟩
      obtain ⟨Q, hQ⟩ : ∃ Q, prodK x s k = Q := ⟨_, rfl⟩
      rw [hP] at pa1 pa2 qa1 qa2 HA1 ⊢
      rw [hQ] at pb1 pb2 qb1 qb2 HB1 ⊢
      have hny : ¬ y < 0 := by omega
      have hny2 : ¬ 20 < y := by omega
      have HKP := Lib.hid (fun (h0 : 0 < k) => HASC.out (k - 1) (by omega))
      have HY := Lib.hid hy
      have HCL := Lib.hid ((hcell k hlt).trans (by rw [hh]) : w.cell? ⟨b, off + k, none⟩ = some (.int .i64 h))
      have HBL := Lib.hid hbl
      clear hy hh hcell hls hso hbw hP hQ
      go_upto_region 11 with (fail)
      go_cut [123] from 77 to 123 (fun z wq => z = .bool false ∧ OwnI 3 w3.heap.size wq (.slice (some ⟨g4, 0, none⟩) hs.length c4) s ∧ Below w.heap.size w wq)
      case first =>
        clear pa1 pa2 pb1 pb2 qa1 qa2 qb1 qb2
        by_cases hk0 : 0 < k
        · have hk0i : (0 : Int) < (k : Int) := by omega
          have HK1 := Lib.hid (show k - 1 < s.length by have := HLS.out; omega)
          have c2 := HSO.out.cellI (k - 1) HK1.out
          have HG2 := Lib.hid (getD_atZ HK1.out)
          have hor := HKP.out hk0
          rw [show k - 1 + 1 = k by omega, HG.out, HG2.out] at hor
          have ht3 := HTOP.out _ (List.getElem_mem HK1.out)
          obtain ⟨q, hq⟩ : ∃ q, s[k - 1]'HK1.out = q := ⟨_, rfl⟩
          rw [hq] at c2 hor ht3
          have hwk : IntKind.i64.wrap ((k : Int) - 1) = ((k - 1 : Nat) : Int) := by rw [IntWalk.i64_in _ (by omega)]; omega
          have hkl2 : ((k - 1 : Nat) : Int) < (hs.length : Int) := by omega
          have hqy : ¬ y < q := by omega
          have hd1 : decide ((0 : Int) < (k : Int)) = true := by simp; omega
          have hd1n : decide (0 < k) = true := by simp; omega
          have hd2 : decide (y < q) = false := by simp; omega
          by_cases hy0 : 0 < y
          · have hqe : (q == y) = false := by simp; omega
            have hd3 : decide (0 < y) = true := by simp; omega
            clear hq hor ht3 hk0
            go_quiet (fail)
            (go_wp2_with fail; go_meet)
            exact ⟨rfl, own_drewN HSO.out _, below_drewN HBW.out _⟩
          · have hd3 : decide (0 < y) = false := by simp; omega
            clear hq hor ht3 hk0
            go_quiet (fail)
            (go_wp2_with fail; go_meet)
            exact ⟨rfl, own_drewN HSO.out _, below_drewN HBW.out _⟩
        · have hk0i : ¬ (0 : Int) < (k : Int) := by omega
          have hd1 : decide ((0 : Int) < (k : Int)) = false := by simp; omega
          have hd1n : decide (0 < k) = false := by simp; omega
          clear hk0
          go_quiet (fail)
          (go_wp2_with fail; go_meet)
          exact ⟨rfl, own_drewN HSO.out _, below_drewN HBW.out _⟩
      case rest =>
        obtain ⟨rfl, hso, hbw⟩ := hcut
        have hcs2 := hso.cellI k HKS.out
        rw [HY.out] at hcs2
        have hcx2 := (hbw.cell (p := ⟨b, off + k, none⟩) HBL.out).trans HCL.out
        obtain ⟨A, hA⟩ : ∃ A, x + h - (k : Int) = A := ⟨_, rfl⟩
        obtain ⟨B, hB⟩ : ∃ B, x + y - (k : Int) = B := ⟨_, rfl⟩
        have hA1 : -30 ≤ A ∧ A ≤ 30 := by omega
        have hB1 : -30 ≤ B ∧ B ≤ 30 := by omega
        obtain ⟨hA1, hA2⟩ := hA1
        obtain ⟨hB1, hB2⟩ := hB1
        rw [hA] at qa1 qa2 HA1
        rw [hB] at qb1 qb2 HB1
        obtain ⟨PA, hPA⟩ : ∃ PA, P * A = PA := ⟨_, rfl⟩
        obtain ⟨QB, hQB⟩ : ∃ QB, Q * B = QB := ⟨_, rfl⟩
        rw [hPA] at qa1 qa2 HA1
        rw [hQB] at qb1 qb2 HB1
        have HSO2 := Lib.hid hso
        have HBW2 := Lib.hid hbw
        clear hcx hcs hso hbw
        go_wp2
        go_roundw
        case rel => exact ⟨k + 1, by omega, by go_num, by rw [HA1.out], by rw [HB1.out], HSO2.out, HBW2.out⟩
        case measure => simp [intOf]; omega
    · obtain rfl : k = hs.length := by omega
      rw [HPA.out, HPB.out]
      go_wp2_with (first
        | (go_at_call 18; refine (C18.out w9 hb9).mono ?_; rintro e w10 ⟨rfl, hb10'⟩; have hb10 := hb9.trans (hb10'.mono hb9.size))
        | (go_at_call 35; refine (D35.out v8 w8 (ho8.ints hm9)).mono ?_; rintro e w9 ⟨rfl, hb9'⟩; have hb9 := hb8.trans (hb9'.mono hb8.size))
        | (go_at_call 15; refine (D15.out w7 hb7).mono ?_; rintro e w8 ⟨v8, rfl, ho8, hb8'⟩; have hb8 := hb7.trans (hb8'.mono hb7.size))
        | (go_at_call 35; refine (C35.out v6 w6 (ho6.ints hl9)).mono ?_; rintro e w7 ⟨v7, rfl, ho7, hb7'⟩; have hb7 := hb6.trans (hb7'.mono hb6.size))
        | (go_at_call 15; refine (C15.out wr hbw).mono ?_; rintro e w6 ⟨v6, rfl, ho6, hb6'⟩; have hb6 := hbw.trans (hb6'.mono hbw.size)))
      go_ret
      exact ⟨rfl, hb10⟩

set_option maxRecDepth 20000 in
set_option maxHeartbeats 8000000 in
theorem FactorsL_L (v u : Value) (hs : List Nat) (s : List Int) (ms : List Nat) (x : Int) (w : World) (hv : Ints w v (toI hs)) (hu : Ints w u (toI ms)) (ht : Tab w) (hl : Stp hs) (hst : Steep hs s) (hx : 0 ≤ x ∧ x ≤ 10) (hm : Stp ms) (hne : hs.length ≠ ms.length) :
    Calls Tryd.prog 13 #[v, u, .int .i64 x] w (True1 w) := by
  have C18 := Lib.hid (fun w' (hb : Below w.heap.size w w') => awake_any w' (ht.below hb))
  have C15 := Lib.hid (fun w' (hb : Below w.heap.size w w') => by have := list_any v _ w' (hv.below hb); rw [take_stair hl] at this; exact this)
  have C41 := Lib.hid (fun v' w' (hb : Ints w' v' (toI hs)) => Steep_any v' hs s w' hb hl hst)
  have C37 := Lib.hid (fun w' (hb : Below w.heap.size w w') => by have := Steps_any v _ w' (hv.below hb); rw [stairB_of hl] at this; exact this)
  have hl9 : (toI hs).length ≤ 17592186044416 := hv.len
  obtain ⟨F, hF⟩ : ∃ F, facT hs x = F := ⟨_, rfl⟩
  have C42 := Lib.hid (fun v' w' (hb : Ints w' v' (toI hs)) (hw : Below w.heap.size w w') => FactorGood_any v' hs x w' hb hl hx (ht.below hw) F hF)
  have C35 := Lib.hid (fun v' w' (hb : Ints w' v' (toI hs)) => Stair_yes v' hs w' hb hl)
  have HPA := Lib.hid ((prodH hl x).trans hF)
  have HPB := Lib.hid ((prodS hl hst x).trans hF)
  have HLS := Lib.hid hst.len
  have HTOP := Lib.hid (steep_mem hst)
  have HTOI := Lib.hid (toI_top hl)
  have HASC := Lib.hid (chB_asc s (-1) hst.ch)
  have h1 := hl.pos
  have h6 := hl.le
  have HIA := Lib.hid (prod_in hx (toI_top hl) (toI_length hs) h6)
  have HIB := Lib.hid (prod_in hx (steep_mem hst) hst.len h6)
  have hlS := steep_len hl hst
  have hlH : (toI (stairL hs)).length ≤ 17592186044416 := by rw [toI_length, stairL_length]; omega
  have D15 := Lib.hid (fun w' (hb : Below w.heap.size w w') => by have := list_any u _ w' (hu.below hb); rw [take_stair hm] at this; exact this)
  have D35 := Lib.hid (fun v' w' (hb : Ints w' v' (toI ms)) => Stair_yes v' ms w' hb hm)
  have hm9 : (toI ms).length ≤ 17592186044416 := hu.len
  have hnl : ((hs.length : Int) != (ms.length : Int)) = true := by simp; omega
  have hFF : (F != F) = false := by simp
  have HVW := Lib.hid hv
  obtain ⟨a, c, rfl, hlen, hcl, hc⟩ := hv.openN
  obtain ⟨a2, c2, rfl, hlen2, hcl2, hc2⟩ := hu.openN
  have HCC := Lib.hid hc
  have hb0 := Below.refl w.heap.size w
  obtain ⟨hx0, hx1⟩ := hx
  have hx2 : ¬ x < 0 := by omega
  have hx3 : ¬ 10 < x := by omega
  clear hc hc2 ht hl hst hv hu hF hm hne
  go_enter Tryd.func13, Tryd.ntmps13
  go_wp2_with (first
      | (go_at_call 37; refine (C37.out w4 hb4).mono ?_; rintro e w5 ⟨rfl, rfl⟩; have tok5 : True := trivial)
      | (go_at_call 41; refine (C41.out v3 w3 (ho3.ints hl9)).mono ?_; rintro e w4 ⟨v4, rfl, ho4, hb4'⟩; have hb4 := hb3.trans (hb4'.mono hb3.size); obtain ⟨g4, c4, rfl⟩ := own_rowS ho4 HLS.out h1)
      | (go_at_call 15; refine (C15.out w2 hb2).mono ?_; rintro e w3 ⟨v3, rfl, ho3, hb3'⟩; have hb3 := hb2.trans (hb3'.mono hb2.size))
      | (go_at_call 42; refine (C42.out v1 w1 (ho1.ints hl9) hb1).mono ?_; rintro e w2 ⟨rfl, hb2'⟩; have hb2 := hb1.trans (hb2'.mono hb1.size))
      | (go_at_call 15; refine (C15.out w hb0).mono ?_; rintro e w1 ⟨v1, rfl, ho1, hb1'⟩; have hb1 := hb0.trans (hb1'.mono hb0.size)))
  go_loopw [11, 12, 74] (fun p q ix wr => ∃ k : Nat, k ≤ hs.length ∧ ix = .int .i64 k ∧ p = .int .i64 (prodK x (toI hs) k) ∧ q = .int .i64 (prodK x s k) ∧ OwnI 3 w3.heap.size wr (.slice (some ⟨g4, 0, none⟩) hs.length c4) s ∧ Below w.heap.size w wr) (fun _ _ ix _ => hs.length - (intOf ix).toNat)
  case atStart => exact ⟨0, Nat.zero_le _, rfl, rfl, rfl, ho4, hb4⟩
  case round =>
    obtain ⟨k, hk, rfl, rfl, rfl, hso, hbw⟩ := hrel
    clear ho4
    by_cases hlt : k < hs.length
    · obtain ⟨b, off, rfl, hbl, hcell⟩ := HCC.out (ne_nil_of_lt hlt)
      have hki : (k : Int) < (hs.length : Int) := by omega
      have hcx := (hbw.cell (p := ⟨b, off + k, none⟩) hbl).trans (hcell k hlt)
      have hls := HLS.out
      have HKS := Lib.hid (show k < s.length by omega)
      have hcs := hso.cellI k HKS.out
      have HG := Lib.hid (getD_atZ HKS.out)
      have HH := Lib.hid (show (toI hs).getD k 0 = (hs[k] : Nat) from by rw [toI_getD, getD_at hlt])
      have ht1 := HTOP.out _ (List.getElem_mem HKS.out)
      have ht2 := HTOI.out ((hs[k] : Nat) : Int) (List.mem_map.mpr ⟨_, List.getElem_mem hlt, rfl⟩)
      obtain ⟨y, hy⟩ : ∃ y, s[k]'HKS.out = y := ⟨_, rfl⟩
      obtain ⟨h, hh⟩ : ∃ h, ((hs[k] : Nat) : Int) = h := ⟨_, rfl⟩
      rw [hy] at hcs HG ht1
      rw [hh] at hcx HH ht2
      obtain ⟨ty0, ty1⟩ := ht1
      obtain ⟨th0, th1⟩ := ht2
      have HSO := Lib.hid hso
      have HBW := Lib.hid hbw
      have HA1 := Lib.hid (show prodK x (toI hs) (k + 1) = prodK x (toI hs) k * (x + h - k) by rw [prodK, HH.out])
      have HB1 := Lib.hid (show prodK x s (k + 1) = prodK x s k * (x + y - k) by rw [prodK, HG.out])
      obtain ⟨pa1, pa2⟩ := HIA.out k hk
      obtain ⟨pb1, pb2⟩ := HIB.out k hk
      obtain ⟨qa1, qa2⟩ := HIA.out (k + 1) hlt
      obtain ⟨qb1, qb2⟩ := HIB.out (k + 1) hlt
      rw [HA1.out] at qa1 qa2
      rw [HB1.out] at qb1 qb2
      obtain ⟨P, hP⟩ : ∃ P, prodK x (toI hs) k = P := ⟨_, rfl⟩
      obtain ⟨Q, hQ⟩ : ∃ Q, prodK x s k = Q := ⟨_, rfl⟩
      rw [hP] at pa1 pa2 qa1 qa2 HA1 ⊢
      rw [hQ] at pb1 pb2 qb1 qb2 HB1 ⊢
      have hny : ¬ y < 0 := by omega
      have hny2 : ¬ 20 < y := by omega
      have HKP := Lib.hid (fun (h0 : 0 < k) => HASC.out (k - 1) (by omega))
      have HY := Lib.hid hy
      have HCL := Lib.hid ((hcell k hlt).trans (by rw [hh]) : w.cell? ⟨b, off + k, none⟩ = some (.int .i64 h))
      have HBL := Lib.hid hbl
      clear hy hh hcell hls hso hbw hP hQ
      go_upto_region 11 with (fail)
      go_cut [123] from 77 to 123 (fun z wq => z = .bool false ∧ OwnI 3 w3.heap.size wq (.slice (some ⟨g4, 0, none⟩) hs.length c4) s ∧ Below w.heap.size w wq)
      case first =>
        clear pa1 pa2 pb1 pb2 qa1 qa2 qb1 qb2
        by_cases hk0 : 0 < k
        · have hk0i : (0 : Int) < (k : Int) := by omega
          have HK1 := Lib.hid (show k - 1 < s.length by have := HLS.out; omega)
          have c2 := HSO.out.cellI (k - 1) HK1.out
          have HG2 := Lib.hid (getD_atZ HK1.out)
          have hor := HKP.out hk0
          rw [show k - 1 + 1 = k by omega, HG.out, HG2.out] at hor
          have ht3 := HTOP.out _ (List.getElem_mem HK1.out)
          obtain ⟨q, hq⟩ : ∃ q, s[k - 1]'HK1.out = q := ⟨_, rfl⟩
          rw [hq] at c2 hor ht3
          have hwk : IntKind.i64.wrap ((k : Int) - 1) = ((k - 1 : Nat) : Int) := by rw [IntWalk.i64_in _ (by omega)]; omega
          have hkl2 : ((k - 1 : Nat) : Int) < (hs.length : Int) := by omega
          have hqy : ¬ y < q := by omega
          have hd1 : decide ((0 : Int) < (k : Int)) = true := by simp; omega
          have hd1n : decide (0 < k) = true := by simp; omega
          have hd2 : decide (y < q) = false := by simp; omega
          by_cases hy0 : 0 < y
          · have hqe : (q == y) = false := by simp; omega
            have hd3 : decide (0 < y) = true := by simp; omega
            clear hq hor ht3 hk0
            go_quiet (fail)
            (go_wp2_with fail; go_meet)
            exact ⟨rfl, own_drewN HSO.out _, below_drewN HBW.out _⟩
          · have hd3 : decide (0 < y) = false := by simp; omega
            clear hq hor ht3 hk0
            go_quiet (fail)
            (go_wp2_with fail; go_meet)
            exact ⟨rfl, own_drewN HSO.out _, below_drewN HBW.out _⟩
        · have hk0i : ¬ (0 : Int) < (k : Int) := by omega
          have hd1 : decide ((0 : Int) < (k : Int)) = false := by simp; omega
          have hd1n : decide (0 < k) = false := by simp; omega
          clear hk0
          go_quiet (fail)
          (go_wp2_with fail; go_meet)
          exact ⟨rfl, own_drewN HSO.out _, below_drewN HBW.out _⟩
      case rest =>
        obtain ⟨rfl, hso, hbw⟩ := hcut
        have hcs2 := hso.cellI k HKS.out
        rw [HY.out] at hcs2
        have hcx2 := (hbw.cell (p := ⟨b, off + k, none⟩) HBL.out).trans HCL.out
        obtain ⟨A, hA⟩ : ∃ A, x + h - (k : Int) = A := ⟨_, rfl⟩
        obtain ⟨B, hB⟩ : ∃ B, x + y - (k : Int) = B := ⟨_, rfl⟩
        have hA1 : -30 ≤ A ∧ A ≤ 30 := by omega
        have hB1 : -30 ≤ B ∧ B ≤ 30 := by omega
        obtain ⟨hA1, hA2⟩ := hA1
        obtain ⟨hB1, hB2⟩ := hB1
        rw [hA] at qa1 qa2 HA1
        rw [hB] at qb1 qb2 HB1
        obtain ⟨PA, hPA⟩ : ∃ PA, P * A = PA := ⟨_, rfl⟩
        obtain ⟨QB, hQB⟩ : ∃ QB, Q * B = QB := ⟨_, rfl⟩
        rw [hPA] at qa1 qa2 HA1
        rw [hQB] at qb1 qb2 HB1
        have HSO2 := Lib.hid hso
        have HBW2 := Lib.hid hbw
        clear hcx hcs hso hbw
        go_wp2
        go_roundw
        case rel => exact ⟨k + 1, by omega, by go_num, by rw [HA1.out], by rw [HB1.out], HSO2.out, HBW2.out⟩
        case measure => simp [intOf]; omega
    · obtain rfl : k = hs.length := by omega
      rw [HPA.out, HPB.out]
      go_wp2_with (first
        | (go_at_call 18; refine (C18.out w9 hb9).mono ?_; rintro e w10 ⟨rfl, hb10'⟩; have hb10 := hb9.trans (hb10'.mono hb9.size))
        | (go_at_call 35; refine (D35.out v8 w8 (ho8.ints hm9)).mono ?_; rintro e w9 ⟨v9, rfl, ho9, hb9'⟩; have hb9 := hb8.trans (hb9'.mono hb8.size))
        | (go_at_call 15; refine (D15.out w7 hb7).mono ?_; rintro e w8 ⟨v8, rfl, ho8, hb8'⟩; have hb8 := hb7.trans (hb8'.mono hb7.size))
        | (go_at_call 35; refine (C35.out v6 w6 (ho6.ints hl9)).mono ?_; rintro e w7 ⟨v7, rfl, ho7, hb7'⟩; have hb7 := hb6.trans (hb7'.mono hb6.size))
        | (go_at_call 15; refine (C15.out wr hbw).mono ?_; rintro e w6 ⟨v6, rfl, ho6, hb6'⟩; have hb6 := hbw.trans (hb6'.mono hbw.size)))
      go_ret
      exact ⟨rfl, hb10⟩

set_option maxRecDepth 20000 in
set_option maxHeartbeats 8000000 in
theorem FactorsL_E (v u : Value) (hs : List Nat) (s : List Int) (ms : List Nat) (t : List Int) (x : Int) (w : World) (hv : Ints w v (toI hs)) (hu : Ints w u (toI ms)) (ht : Tab w) (hl : Stp hs) (hst : Steep hs s) (hx : 0 ≤ x ∧ x ≤ 10) (hm : Stp ms) (hmt : Steep ms t) (hne : hs.length = ms.length) :
    Calls Tryd.prog 13 #[v, u, .int .i64 x] w (True1 w) := by
  have C18 := Lib.hid (fun w' (hb : Below w.heap.size w w') => awake_any w' (ht.below hb))
  have C15 := Lib.hid (fun w' (hb : Below w.heap.size w w') => by have := list_any v _ w' (hv.below hb); rw [take_stair hl] at this; exact this)
  have C41 := Lib.hid (fun v' w' (hb : Ints w' v' (toI hs)) => Steep_any v' hs s w' hb hl hst)
  have C37 := Lib.hid (fun w' (hb : Below w.heap.size w w') => by have := Steps_any v _ w' (hv.below hb); rw [stairB_of hl] at this; exact this)
  have hl9 : (toI hs).length ≤ 17592186044416 := hv.len
  obtain ⟨F, hF⟩ : ∃ F, facT hs x = F := ⟨_, rfl⟩
  have C42 := Lib.hid (fun v' w' (hb : Ints w' v' (toI hs)) (hw : Below w.heap.size w w') => FactorGood_any v' hs x w' hb hl hx (ht.below hw) F hF)
  have C35 := Lib.hid (fun v' w' (hb : Ints w' v' (toI hs)) => Stair_yes v' hs w' hb hl)
  have HPA := Lib.hid ((prodH hl x).trans hF)
  have HPB := Lib.hid ((prodS hl hst x).trans hF)
  have HLS := Lib.hid hst.len
  have HTOP := Lib.hid (steep_mem hst)
  have HTOI := Lib.hid (toI_top hl)
  have HASC := Lib.hid (chB_asc s (-1) hst.ch)
  have h1 := hl.pos
  have h6 := hl.le
  have HIA := Lib.hid (prod_in hx (toI_top hl) (toI_length hs) h6)
  have HIB := Lib.hid (prod_in hx (steep_mem hst) hst.len h6)
  have hlS := steep_len hl hst
  have hlH : (toI (stairL hs)).length ≤ 17592186044416 := by rw [toI_length, stairL_length]; omega
  have D15 := Lib.hid (fun w' (hb : Below w.heap.size w w') => by have := list_any u _ w' (hu.below hb); rw [take_stair hm] at this; exact this)
  have D35 := Lib.hid (fun v' w' (hb : Ints w' v' (toI ms)) => Stair_yes v' ms w' hb hm)
  have hm9 : (toI ms).length ≤ 17592186044416 := hu.len
  have hlM : (toI (stairL ms)).length ≤ 17592186044416 := by rw [toI_length, stairL_length]; have := hm.le; omega
  have C40 := Lib.hid (fun v' w' (hb : Ints w' v' (toI (stairL hs))) => Clone_any v' _ w' hb)
  have C14 := Lib.hid (fun v' w' (hb : Ints w' v' (toI (stairL hs))) (hw : Below w.heap.size w w') => Rooks_yes v' _ w' hb (stairL_board hl) (ht.below hw))
  have D14 := Lib.hid (fun v' w' (hb : Ints w' v' (toI (stairL ms))) (hw : Below w.heap.size w w') => Rooks_yes v' _ w' hb (stairL_board hm) (ht.below hw))
  have D41 := Lib.hid (fun v' w' (hb : Ints w' v' (toI ms)) => Steep_any v' ms t w' hb hm hmt)
  have C36 := Lib.hid (fun v' w' (hb : Ints w' v' (toI (stairL hs))) => HeightsS_any v' hs w' hb hl)
  have C45 := Lib.hid (fun w' (hb : Below w.heap.size w w') => Differences_any v (toI hs) w' (hv.below hb) (by rw [toI_length]; omega) (fun y hy => by have := toI_top hl y hy; omega))
  have D45 := Lib.hid (fun w' (hb : Below w.heap.size w w') => Differences_any u (toI ms) w' (hu.below hb) (by rw [toI_length]; have := hm.le; omega) (fun y hy => by have := toI_top hm y hy; omega))
  have HV := Lib.hid (fun w' (hb : Below w.heap.size w w') => hv.below hb)
  have C20h := Lib.hid (fun v1 v2 w' (h1 : Ints w' v1 (toI hs)) (h2 : Ints w' v2 (toI hs)) => EqualB_any v1 v2 _ _ w' h1 h2 true (by simp))
  obtain ⟨bb, hbb⟩ : ∃ bb, decide (toI (numL (stairL hs) 0) = toI (numL (stairL ms) 0)) = bb := ⟨_, rfl⟩
  obtain ⟨sb1, sb2⟩ := same_bool hl hm hst hmt hne
  rw [hbb] at sb1 sb2
  have C20n := Lib.hid (fun v1 v2 w' (h1 : Ints w' v1 (toI (numL (stairL hs) 0))) (h2 : Ints w' v2 (toI (numL (stairL ms) 0))) => EqualB_any v1 v2 _ _ w' h1 h2 bb hbb)
  have C20d := Lib.hid (fun v1 v2 w' (h1 : Ints w' v1 (DifZ (toI hs))) (h2 : Ints w' v2 (DifZ (toI ms))) => EqualB_any v1 v2 _ _ w' h1 h2 bb sb1)
  have C20s := Lib.hid (fun v1 v2 w' (h1 : Ints w' v1 s) (h2 : Ints w' v2 t) => EqualB_any v1 v2 _ _ w' h1 h2 bb sb2)
  have hlT := steep_len hm hmt
  have hlN : (toI (numL (stairL hs) 0)).length ≤ 17592186044416 := by rw [toI_length, numN_len]; omega
  have hlNm : (toI (numL (stairL ms) 0)).length ≤ 17592186044416 := by rw [toI_length, numN_len]; have := hm.le; omega
  have hlD : (DifZ (toI hs)).length ≤ 17592186044416 := by rw [DifZ_length]; exact hl9
  have hlDm : (DifZ (toI ms)).length ≤ 17592186044416 := by rw [DifZ_length]; exact hm9
  have hnl : ((hs.length : Int) != (ms.length : Int)) = false := by simp; omega
  have hbe : (bb == bb) = true := by simp
  have hFF : (F != F) = false := by simp
  have HVW := Lib.hid hv
  obtain ⟨a, c, rfl, hlen, hcl, hc⟩ := hv.openN
  obtain ⟨a2, c2, rfl, hlen2, hcl2, hc2⟩ := hu.openN
  have HCC := Lib.hid hc
  have hb0 := Below.refl w.heap.size w
  obtain ⟨hx0, hx1⟩ := hx
  have hx2 : ¬ x < 0 := by omega
  have hx3 : ¬ 10 < x := by omega
  clear hc hc2 ht hl hst hv hu hF hm hmt hne hbb sb1 sb2
  go_enter Tryd.func13, Tryd.ntmps13
  go_wp2_with (first
      | (go_at_call 37; refine (C37.out w4 hb4).mono ?_; rintro e w5 ⟨rfl, rfl⟩; have tok5 : True := trivial)
      | (go_at_call 41; refine (C41.out v3 w3 (ho3.ints hl9)).mono ?_; rintro e w4 ⟨v4, rfl, ho4, hb4'⟩; have hb4 := hb3.trans (hb4'.mono hb3.size); obtain ⟨g4, c4, rfl⟩ := own_rowS ho4 HLS.out h1)
      | (go_at_call 15; refine (C15.out w2 hb2).mono ?_; rintro e w3 ⟨v3, rfl, ho3, hb3'⟩; have hb3 := hb2.trans (hb3'.mono hb2.size))
      | (go_at_call 42; refine (C42.out v1 w1 (ho1.ints hl9) hb1).mono ?_; rintro e w2 ⟨rfl, hb2'⟩; have hb2 := hb1.trans (hb2'.mono hb1.size))
      | (go_at_call 15; refine (C15.out w hb0).mono ?_; rintro e w1 ⟨v1, rfl, ho1, hb1'⟩; have hb1 := hb0.trans (hb1'.mono hb0.size)))
  go_loopw [11, 12, 74] (fun p q ix wr => ∃ k : Nat, k ≤ hs.length ∧ ix = .int .i64 k ∧ p = .int .i64 (prodK x (toI hs) k) ∧ q = .int .i64 (prodK x s k) ∧ OwnI 3 w3.heap.size wr (.slice (some ⟨g4, 0, none⟩) hs.length c4) s ∧ Below w.heap.size w wr) (fun _ _ ix _ => hs.length - (intOf ix).toNat)
  case atStart => exact ⟨0, Nat.zero_le _, rfl, rfl, rfl, ho4, hb4⟩
  case round =>
    obtain ⟨k, hk, rfl, rfl, rfl, hso, hbw⟩ := hrel
    clear ho4
    by_cases hlt : k < hs.length
    · obtain ⟨b, off, rfl, hbl, hcell⟩ := HCC.out (ne_nil_of_lt hlt)
      have hki : (k : Int) < (hs.length : Int) := by omega
      have hcx := (hbw.cell (p := ⟨b, off + k, none⟩) hbl).trans (hcell k hlt)
      have hls := HLS.out
      have HKS := Lib.hid (show k < s.length by omega)
      have hcs := hso.cellI k HKS.out
      have HG := Lib.hid (getD_atZ HKS.out)
      have HH := Lib.hid (show (toI hs).getD k 0 = (hs[k] : Nat) from by rw [toI_getD, getD_at hlt])
      have ht1 := HTOP.out _ (List.getElem_mem HKS.out)
      have ht2 := HTOI.out ((hs[k] : Nat) : Int) (List.mem_map.mpr ⟨_, List.getElem_mem hlt, rfl⟩)
      obtain ⟨y, hy⟩ : ∃ y, s[k]'HKS.out = y := ⟨_, rfl⟩
      obtain ⟨h, hh⟩ : ∃ h, ((hs[k] : Nat) : Int) = h := ⟨_, rfl⟩
      rw [hy] at hcs HG ht1
      rw [hh] at hcx HH ht2
      obtain ⟨ty0, ty1⟩ := ht1
      obtain ⟨th0, th1⟩ := ht2
      have HSO := Lib.hid hso
      have HBW := Lib.hid hbw
      have HA1 := Lib.hid (show prodK x (toI hs) (k + 1) = prodK x (toI hs) k * (x + h - k) by rw [prodK, HH.out])
      have HB1 := Lib.hid (show prodK x s (k + 1) = prodK x s k * (x + y - k) by rw [prodK, HG.out])
      obtain ⟨pa1, pa2⟩ := HIA.out k hk
      obtain ⟨pb1, pb2⟩ := HIB.out k hk
      obtain ⟨qa1, qa2⟩ := HIA.out (k + 1) hlt
      obtain ⟨qb1, qb2⟩ := HIB.out (k + 1) hlt
      rw [HA1.out] at qa1 qa2
      rw [HB1.out] at qb1 qb2
      obtain ⟨P, hP⟩ : ∃ P, prodK x (toI hs) k = P := ⟨_, rfl⟩
      obtain ⟨Q, hQ⟩ : ∃ Q, prodK x s k = Q := ⟨_, rfl⟩
      rw [hP] at pa1 pa2 qa1 qa2 HA1 ⊢
      rw [hQ] at pb1 pb2 qb1 qb2 HB1 ⊢
      have hny : ¬ y < 0 := by omega
      have hny2 : ¬ 20 < y := by omega
      have HKP := Lib.hid (fun (h0 : 0 < k) => HASC.out (k - 1) (by omega))
      have HY := Lib.hid hy
      have HCL := Lib.hid ((hcell k hlt).trans (by rw [hh]) : w.cell? ⟨b, off + k, none⟩ = some (.int .i64 h))
      have HBL := Lib.hid hbl
      clear hy hh hcell hls hso hbw hP hQ
      go_upto_region 11 with (fail)
      go_cut [123] from 77 to 123 (fun z wq => z = .bool false ∧ OwnI 3 w3.heap.size wq (.slice (some ⟨g4, 0, none⟩) hs.length c4) s ∧ Below w.heap.size w wq)
      case first =>
        clear pa1 pa2 pb1 pb2 qa1 qa2 qb1 qb2
        by_cases hk0 : 0 < k
        · have hk0i : (0 : Int) < (k : Int) := by omega
          have HK1 := Lib.hid (show k - 1 < s.length by have := HLS.out; omega)
          have c2 := HSO.out.cellI (k - 1) HK1.out
          have HG2 := Lib.hid (getD_atZ HK1.out)
          have hor := HKP.out hk0
          rw [show k - 1 + 1 = k by omega, HG.out, HG2.out] at hor
          have ht3 := HTOP.out _ (List.getElem_mem HK1.out)
          obtain ⟨q, hq⟩ : ∃ q, s[k - 1]'HK1.out = q := ⟨_, rfl⟩
          rw [hq] at c2 hor ht3
          have hwk : IntKind.i64.wrap ((k : Int) - 1) = ((k - 1 : Nat) : Int) := by rw [IntWalk.i64_in _ (by omega)]; omega
          have hkl2 : ((k - 1 : Nat) : Int) < (hs.length : Int) := by omega
          have hqy : ¬ y < q := by omega
          have hd1 : decide ((0 : Int) < (k : Int)) = true := by simp; omega
          have hd1n : decide (0 < k) = true := by simp; omega
          have hd2 : decide (y < q) = false := by simp; omega
          by_cases hy0 : 0 < y
          · have hqe : (q == y) = false := by simp; omega
            have hd3 : decide (0 < y) = true := by simp; omega
            clear hq hor ht3 hk0
            go_quiet (fail)
            (go_wp2_with fail; go_meet)
            exact ⟨rfl, own_drewN HSO.out _, below_drewN HBW.out _⟩
          · have hd3 : decide (0 < y) = false := by simp; omega
            clear hq hor ht3 hk0
            go_quiet (fail)
            (go_wp2_with fail; go_meet)
            exact ⟨rfl, own_drewN HSO.out _, below_drewN HBW.out _⟩
        · have hk0i : ¬ (0 : Int) < (k : Int) := by omega
          have hd1 : decide ((0 : Int) < (k : Int)) = false := by simp; omega
          have hd1n : decide (0 < k) = false := by simp; omega
          clear hk0
          go_quiet (fail)
          (go_wp2_with fail; go_meet)
          exact ⟨rfl, own_drewN HSO.out _, below_drewN HBW.out _⟩
      case rest =>
        obtain ⟨rfl, hso, hbw⟩ := hcut
        have hcs2 := hso.cellI k HKS.out
        rw [HY.out] at hcs2
        have hcx2 := (hbw.cell (p := ⟨b, off + k, none⟩) HBL.out).trans HCL.out
        obtain ⟨A, hA⟩ : ∃ A, x + h - (k : Int) = A := ⟨_, rfl⟩
        obtain ⟨B, hB⟩ : ∃ B, x + y - (k : Int) = B := ⟨_, rfl⟩
        have hA1 : -30 ≤ A ∧ A ≤ 30 := by omega
        have hB1 : -30 ≤ B ∧ B ≤ 30 := by omega
        obtain ⟨hA1, hA2⟩ := hA1
        obtain ⟨hB1, hB2⟩ := hB1
        rw [hA] at qa1 qa2 HA1
        rw [hB] at qb1 qb2 HB1
        obtain ⟨PA, hPA⟩ : ∃ PA, P * A = PA := ⟨_, rfl⟩
        obtain ⟨QB, hQB⟩ : ∃ QB, Q * B = QB := ⟨_, rfl⟩
        rw [hPA] at qa1 qa2 HA1
        rw [hQB] at qb1 qb2 HB1
        have HSO2 := Lib.hid hso
        have HBW2 := Lib.hid hbw
        clear hcx hcs hso hbw
        go_wp2
        go_roundw
        case rel => exact ⟨k + 1, by omega, by go_num, by rw [HA1.out], by rw [HB1.out], HSO2.out, HBW2.out⟩
        case measure => simp [intOf]; omega
    · obtain rfl : k = hs.length := by omega
      rw [HPA.out, HPB.out]
      go_wp2_with (first
        | (go_at_call 18; refine (C18.out w22 hb22).mono ?_; rintro e w23 ⟨rfl, hb23'⟩; have hb23 := hb22.trans (hb23'.mono hb22.size))
        | (go_at_call 20; refine (C20n.out v11 v12 w21 (((((((((((ho11.below hb12').below hb13').below hb14').below hb15').below hb16').below hb17').below hb18').below hb19').below hb20').below hb21').ints hlN) ((((((((((ho12.below hb13').below hb14').below hb15').below hb16').below hb17').below hb18').below hb19').below hb20').below hb21').ints hlNm)).mono ?_; rintro e w22 ⟨rfl, hb22'⟩; have hb22 := hb21.trans (hb22'.mono hb21.size))
        | (go_at_call 20; refine (C20s.out _ v14 w20 ((((((((((((((((hso.below hb6').below hb7').below hb8').below hb9').below hb10').below hb11').below hb12').below hb13').below hb14').below hb15').below hb16').below hb17').below hb18').below hb19').below hb20').ints hlS) (((((((ho14.below hb15').below hb16').below hb17').below hb18').below hb19').below hb20').ints hlT)).mono ?_; rintro e w21 ⟨rfl, hb21'⟩; have hb21 := hb20.trans (hb21'.mono hb20.size))
        | (go_at_call 20; refine (C20d.out v18 v19 w19 ((ho18.below hb19').ints hlD) (ho19.ints hlDm)).mono ?_; rintro e w20 ⟨rfl, hb20'⟩; have hb20 := hb19.trans (hb20'.mono hb19.size))
        | (go_at_call 45; refine (D45.out w18 hb18).mono ?_; rintro e w19 ⟨v19, rfl, ho19, hb19'⟩; have hb19 := hb18.trans (hb19'.mono hb18.size))
        | (go_at_call 45; refine (C45.out w17 hb17).mono ?_; rintro e w18 ⟨v18, rfl, ho18, hb18'⟩; have hb18 := hb17.trans (hb18'.mono hb17.size))
        | (go_at_call 20; refine (C20n.out v11 v12 w16 ((((((ho11.below hb12').below hb13').below hb14').below hb15').below hb16').ints hlN) (((((ho12.below hb13').below hb14').below hb15').below hb16').ints hlNm)).mono ?_; rintro e w17 ⟨rfl, hb17'⟩; have hb17 := hb16.trans (hb17'.mono hb16.size))
        | (go_at_call 20; refine (C20h.out v15 _ w15 (ho15.ints hl9) (HV.out w15 hb15)).mono ?_; rintro e w16 ⟨rfl, hb16'⟩; have hb16 := hb15.trans (hb16'.mono hb15.size))
        | (go_at_call 36; refine (C36.out v7 w14 ((((((((ho7.below hb8').below hb9').below hb10').below hb11').below hb12').below hb13').below hb14').ints hlH)).mono ?_; rintro e w15 ⟨v15, rfl, ho15, hb15'⟩; have hb15 := hb14.trans (hb15'.mono hb14.size))
        | (go_at_call 41; refine (D41.out v13 w13 (ho13.ints hm9)).mono ?_; rintro e w14 ⟨v14, rfl, ho14, hb14'⟩; have hb14 := hb13.trans (hb14'.mono hb13.size))
        | (go_at_call 15; refine (D15.out w12 hb12).mono ?_; rintro e w13 ⟨v13, rfl, ho13, hb13'⟩; have hb13 := hb12.trans (hb13'.mono hb12.size))
        | (go_at_call 14; refine (D14.out v9 w11 (((ho9.below hb10').below hb11').ints hlM) hb11).mono ?_; rintro e w12 ⟨v12, rfl, ho12, hb12'⟩; have hb12 := hb11.trans (hb12'.mono hb11.size))
        | (go_at_call 14; refine (C14.out v10 w10 (ho10.ints hlH) hb10).mono ?_; rintro e w11 ⟨v11, rfl, ho11, hb11'⟩; have hb11 := hb10.trans (hb11'.mono hb10.size))
        | (go_at_call 40; refine (C40.out v7 w9 (((ho7.below hb8').below hb9').ints hlH)).mono ?_; rintro e w10 ⟨v10, rfl, ho10, hb10'⟩; have hb10 := hb9.trans (hb10'.mono hb9.size))
        | (go_at_call 35; refine (D35.out v8 w8 (ho8.ints hm9)).mono ?_; rintro e w9 ⟨v9, rfl, ho9, hb9'⟩; have hb9 := hb8.trans (hb9'.mono hb8.size))
        | (go_at_call 15; refine (D15.out w7 hb7).mono ?_; rintro e w8 ⟨v8, rfl, ho8, hb8'⟩; have hb8 := hb7.trans (hb8'.mono hb7.size))
        | (go_at_call 35; refine (C35.out v6 w6 (ho6.ints hl9)).mono ?_; rintro e w7 ⟨v7, rfl, ho7, hb7'⟩; have hb7 := hb6.trans (hb7'.mono hb6.size))
        | (go_at_call 15; refine (C15.out wr hbw).mono ?_; rintro e w6 ⟨v6, rfl, ho6, hb6'⟩; have hb6 := hbw.trans (hb6'.mono hbw.size)))
      go_ret
      exact ⟨rfl, hb23⟩

theorem rooksFactors_true (v : Value) (xs : List Int) (u : Value) (ys : List Int) (x : Int) (w : World) (hv : Ints w v xs) (hu : Ints w u ys) (_ : -9223372036854775808 ≤ x ∧ x ≤ 9223372036854775807) (ht : Tab w) :
    Calls Tryd.prog 13 #[v, u, .int .i64 x] w (True1 w) := by
  cases hl : stairB xs with
  | false => exact FactorsL_A v u xs ys x w hv hu ht hl
  | true =>
    obtain ⟨hs, rfl, hs'⟩ := stair_of hl
    obtain ⟨s, hst⟩ := steep_of hs'
    by_cases hx : 0 ≤ x ∧ x ≤ 10
    · cases hm : stairB ys with
      | false => exact FactorsL_N v u hs s ys x w hv hu ht hs' hst hx hm
      | true =>
        obtain ⟨ms, rfl, hm'⟩ := stair_of hm
        obtain ⟨t, hmt⟩ := steep_of hm'
        by_cases hne : hs.length = ms.length
        · exact FactorsL_E v u hs s ms t x w hv hu ht hs' hst hx hm' hmt hne
        · exact FactorsL_L v u hs s ms x w hv hu ht hs' hst hx hm' hne
    · exact FactorsL_B v u hs s ys x w hv hu ht hs' hst (by omega)
end Go.Proofs.YtlpnicfbgdfbnaaDoor
