/- Vk of the seat's texts, in this order. -/
import Derived.Test.YtdackakjcnnofaaA9
import Derived.BigRegion
import Derived.Deep.CutRange

/- kernel: the walk. -/
namespace Go.Proofs.Ytdackakjcnnofaa
open Go.RowKit
attribute [local go_sem] Oper.semAt_some

theorem kerStep_no {q c a : Nat} {B I : List (List Int)} (h : ¬ pivI c (I.drop a) < (I.drop a).length) : kerStep q c ((B, I), a) = ((B, I), a) := by
  unfold kerStep; simp only; rw [if_neg h]
theorem kerStep_yes {q c a k : Nat} {B I : List (List Int)} (h : pivI c (I.drop a) < (I.drop a).length) (hk : pivI c (I.drop a) = k) : kerStep q c ((B, I), a) =
    (elimN q c a (overN q (entI (swapI I a (a + k)) a c).toNat) (swapI B a (a + k), swapI I a (a + k)) (B.length - (a + 1)), a + 1) := by
  unfold kerStep; simp only; rw [if_pos h, hk, swapI_length]
theorem piv_at {c k : Nat} {L : List (List Int)} (h : pivI c L = k) (hk : k < L.length) : (L.getD k []).getD c 0 ≠ 0 := by
  subst h
  have h1 := List.findIdx_getElem (p := fun v : List Int => v.getD c 0 != 0) (xs := L) (w := hk)
  have e : L.getD (pivI c L) [] = L[pivI c L] := by rw [List.getD_eq_getElem?_getD, List.getElem?_eq_getElem hk]; rfl
  rw [e]
  intro e0
  have h2 : ((L[pivI c L]).getD c 0 != 0) = true := h1
  rw [e0] at h2
  simp at h2
theorem swapI_left {L : List (List Int)} {i j : Nat} (hi : i < L.length) : (swapI L i j).getD i [] = L.getD j [] := by
  unfold swapI
  rw [List.getD_eq_getElem?_getD, List.getElem?_set]
  split
  · rename_i e; subst e; rw [if_pos (by simpa using hi)]; rfl
  · rw [List.getElem?_set_self hi]; rfl
theorem drop_getD (L : List (List Int)) (a k : Nat) : (L.drop a).getD k [] = L.getD (a + k) [] := by
  rw [List.getD_eq_getElem?_getD, List.getElem?_drop, ← List.getD_eq_getElem?_getD]
theorem getD_in {v : List Int} {c : Nat} (h : c < v.length) : v.getD c 0 ∈ v := by
  rw [List.getD_eq_getElem?_getD, List.getElem?_eq_getElem h]; exact List.getElem_mem _
/-- A number of a vector. -/
theorem SlR.num {w : World} {u : Value} {v : List Int} (h : Vec w u v) {c : Nat} (hc : c < v.length) : ∃ b o cp, u = .slice (some ⟨b, o, none⟩) v.length cp ∧ b < w.heap.size ∧ w.cell? ⟨b, o + c, none⟩ = some (.int .i64 (v.getD c 0)) := by
  obtain ⟨b, o, cp, x, rfl, hb, -, hx, rfl⟩ := h.at c hc
  refine ⟨b, o, cp, rfl, hb, ?_⟩
  rw [List.getD_eq_getElem?_getD, List.getElem?_eq_getElem hc]
  exact hx
set_option maxRecDepth 20000 in
set_option maxHeartbeats 2000000 in
theorem kernel_any (bg q m n : Nat) (vb vi : Value) (B I : List (List Int)) (w : World) (hp : PrimeAt w bg q) (hq : 1 < q) (hq2 : q < 62) (hov : ∀ x, 0 < x → x < q → okOver q x = true) (hvb : Vecs w vb B) (hvi : Vecs w vi I) (hB : VL q m B) (hI : VL q m I)
    (hb : B.length = n) (hi : I.length = n) (hn : 0 < n) (hn2 : n ≤ 100) (hm2 : m ≤ 100) :
    Calls Try.prog 63 #[.pointer (some ⟨bg, 0, none⟩), vb, vi] w fun e w' => ∃ v', e = .returned v' ∧ Vecs w' v' (kernelL q m B I) ∧ Below w.heap.size w w' := by
  have HP := Lib.hid hp
  have HOV := Lib.hid hov
  have C1 := Lib.hid (CloneVs_any vb B w hvb (ne_nil_of_lt (k := 0) (by omega)) (by omega))
  have C2 := Lib.hid (fun w1 (hb1 : Below w.heap.size w w1) => CloneVs_any vi I w1 (hvi.below hb1) (ne_nil_of_lt (k := 0) (by omega)) (by omega))
  have HOK := Lib.hid (kerTo_ok (q := q) (by omega) hB hI hb hi)
  have HID := Lib.hid (fun c h => ker_idle (q := q) (B := B) (I := I) (n := n) (c := c) h ((HOK.out c).2.1))
  have HVI := Lib.hid hI
  obtain ⟨ab, cb, rfl⟩ := hvb.form
  obtain ⟨ai, ci, rfl⟩ := hvi.form
  rw [hb] at C1 ⊢
  rw [hi] at C2 ⊢
  have HBN := Lib.hid hb
  have HIN := Lib.hid hi
  clear hp hov hvb hvi hB hI hb hi
  go_enter Try.func63, Try.ntmps63
  go_wp2_with (first
    | (go_at_call 86; refine C1.out.mono ?_; rintro e w1 ⟨v1, rfl, ho1, hb1⟩; obtain ⟨g1, c1, u1, rfl, hg1, hg1l, -, -, -⟩ := ho1.at 0 (by rw [HBN.out]; exact hn); rw [HBN.out] at ho1 ⊢; have HO1 := Lib.hid ho1; have HB1 := Lib.hid hb1; clear ho1 hb1 C1)
    | (go_at_call 86; refine (C2.out w1 HB1.out).mono ?_; rintro e w2 ⟨v2, rfl, ho2, hb2⟩; obtain ⟨g2, c2, u2, rfl, hg2, hg2l, -, hcu, hu2⟩ := ho2.at 0 (by rw [HIN.out]; exact hn); rw [HIN.out] at ho2 ⊢; have HK2 := Lib.hid (show KerS n g1 c1 g2 c2 w w2 B I from ⟨HO1.out.below hb2 vec_keep0, ho2.mono HB1.out.size, by omega, HB1.out.trans (hb2.mono HB1.out.size)⟩); have hul := (HVI.out _ (List.getElem_mem (by rw [HIN.out]; exact hn))).1; obtain ⟨au, cu, rfl⟩ := hu2.form; rw [hul] at hcu; clear ho2 hb2 C2 hu2 hul))
  go_loopw [7, 21] (fun at' ix wr => ∃ c : Nat, c ≤ m ∧ ix = .int .i64 c ∧ at' = .int .i64 ((kerTo q B I c).2 : Nat) ∧ KerS n g1 c1 g2 c2 w wr (kerTo q B I c).1.1 (kerTo q B I c).1.2 ∧ (kerTo q B I c).2 < n) (fun _ ix _ => m - (intOf ix).toNat)
  case atStart => exact ⟨0, Nat.zero_le _, rfl, rfl, HK2.out, hn⟩
  case round =>
    obtain ⟨c, hc, rfl, rfl, hk, han⟩ := hrel
    by_cases hlt : c < m
    · have hci : (c : Int) < (m : Int) := by omega
      have hok := HOK.out c
      have HST := Lib.hid (show kerTo q B I (c + 1) = kerStep q c (kerTo q B I c) from rfl)
      have HDN := Lib.hid (HID.out c)
      have HDN2 := Lib.hid (HID.out (c + 1))
      obtain ⟨⟨⟨B1, I1⟩, a⟩, hs⟩ : ∃ s, kerTo q B I c = s := ⟨_, rfl⟩
      rw [hs] at hk hok HST han ⊢
      obtain ⟨hbl, hil, -, hvb, hvi⟩ := hok
      have HBL := Lib.hid hbl
      have HIL := Lib.hid hil
      have HVB := Lib.hid hvb
      have HVI1 := Lib.hid hvi
      have HK := Lib.hid hk
      simp only at hk hbl hil ⊢
      replace han : a < n := han
      clear hk hs hvb hvi hbl hil
      go_upto_region 6 with (fail)
      obtain ⟨bx, hbx⟩ : ∃ x, wr.heap.size = x := ⟨_, rfl⟩
      have HK5 := Lib.hid (HK.out.below ((Below.refl _ _).alloc (Nat.le_refl _) (.cells #[.int .i64 (c : Nat)] 3)))
      have HX5 := Lib.hid (show Held (wr.alloc (.cells #[.int .i64 (c : Nat)] 3)) bx 3 [.int .i64 (c : Nat)] from Held.made hbx)
      rw [hbx]
      clear hbx
      obtain ⟨W5, hW5⟩ : ∃ x, wr.alloc (.cells #[.int .i64 (c : Nat)] 3) = x := ⟨_, rfl⟩
      rw [hW5] at HK5 HX5 ⊢
      clear hW5 HK
      have hc2 := HK5.out.i.cap
      have hai : (a : Int) ≤ (n : Int) := by omega
      have hcx5 := HX5.out.at (i := 0) rfl
      have hca : ¬ c2 = a := by omega
      have CI := Lib.hid (IndexV_any bx c (.slice (some ⟨g2, a, none⟩) (n - a) (c2 - a)) (I1.drop a) W5 HX5.out.lt hcx5 (by have := (HK5.out.i.slr (by rw [HIL.out]; omega)).drop (Nat.le_of_lt han); rw [if_neg hca] at this; exact this) (fun v hv => by rw [(HVI1.out v (List.mem_of_mem_drop hv)).1]; exact hlt) (by rw [List.length_drop, HIL.out]; omega))
      by_cases hpv : pivI c (I1.drop a) < (I1.drop a).length
      · rw [if_pos hpv] at CI
        have hkn := hpv
        rw [List.length_drop, HIL.out] at hkn
        obtain ⟨k, hk⟩ : ∃ k, pivI c (I1.drop a) = k := ⟨_, rfl⟩
        have HST2 := Lib.hid (HST.out.trans (kerStep_yes (B := B1) hpv hk))
        rw [hk] at CI hkn
        have HKV := Lib.hid hk
        clear hpv hk
        have hk0 : ¬ (k : Int) < 0 := by omega
        go_upto_region 8 with (go_at_call 87; refine CI.out.mono ?_; rintro e w6 ⟨rfl, hb6⟩; have HK6 := Lib.hid (HK5.out.below hb6); have HX6 := Lib.hid (HX5.out.below hb6 HX5.out.lt); clear hb6)
        obtain ⟨ua, hca1, hva1⟩ := HK6.out.b.vec (j := a) (by rw [HBL.out]; exact han)
        obtain ⟨uk, hck1, hvk1⟩ := HK6.out.b.vec (j := a + k) (by rw [HBL.out]; omega)
        have hfz : ∀ j, w6.frozen? ⟨g1, j, none⟩ = false := fun j => HK6.out.b.free j
        have haki : (a : Int) + (k : Int) < (n : Int) := by omega
        have hani : (a : Int) < (n : Int) := by omega
        have hwk : IntKind.i64.wrap ((a : Int) + (k : Int)) = ((a + k : Nat) : Int) := by rw [IntWalk.i64_in _ (by omega)]; omega
        have HVA := Lib.hid hva1
        have HVK := Lib.hid hvk1
        obtain ⟨aa, ca, rfl⟩ := hva1.form
        obtain ⟨ak, ck, rfl⟩ := hvk1.form
        have hln1 := (HVB.out.getD (i := a) (by rw [HBL.out]; exact han)).1
        have hln2 := (HVB.out.getD (i := a + k) (by rw [HBL.out]; omega)).1
        rw [hln1] at hca1
        rw [hln2] at hck1
        rw [hln1] at HVA
        rw [hln2] at HVK
        clear hva1 hvk1 hln1 hln2
        have hak0 : (0 : Int) ≤ (a : Int) + (k : Int) := by omega
        have htn : ((a : Int) + (k : Int)).toNat = a + k := by omega
        have HKA := Lib.hid (HK6.out.setB HVK.out a)
        obtain ⟨z, hz, -⟩ := HKA.out.b.vec (j := a + k) (by rw [List.length_set, HBL.out]; omega)
        have hfz2 := HKA.out.b.free (a + k)
        have HKB := Lib.hid (HKA.out.setB (KeepX.vec_put HVA.out (HK6.out.b.own rfl).2.2) (a + k))
        go_region
        have HK7 := Lib.hid (show KerS n g1 c1 g2 c2 w (((w6.setCell ⟨g1, a, none⟩ (.slice ak m ck)).setCell ⟨g1, a + k, none⟩ (.slice aa m ca)).drew) (swapI B1 a (a + k)) I1 from HKB.out.below ((Below.refl _ _).drew))
        have hbg : bx ≠ g1 := fun e => by have h1 := HX6.out.ty; rw [e, (HK6.out.b.own rfl).2.2] at h1; exact absurd h1 (by decide)
        have hbg2 : bx ≠ g2 := fun e => by have h1 := HX6.out.ty; rw [e, (HK6.out.i.own rfl).2.2] at h1; exact absurd h1 (by decide)
        have HBG := Lib.hid hbg
        have HBG2 := Lib.hid hbg2
        have HX7 := Lib.hid (show Held (((w6.setCell ⟨g1, a, none⟩ (.slice ak m ck)).setCell ⟨g1, a + k, none⟩ (.slice aa m ca)).drew) bx 3 [.int .i64 (c : Nat)] from ((HX6.out.far hbg _ _).far hbg _ _).drew)
        clear HKA HKB hz hfz2 hfz hca1 hck1 HVA HVK hbg hbg2 HK6 HX6
        obtain ⟨w7, hw7⟩ : ∃ x, ((w6.setCell ⟨g1, a, none⟩ (.slice ak m ck)).setCell ⟨g1, a + k, none⟩ (.slice aa m ca)).drew = x := ⟨_, rfl⟩
        rw [hw7] at HK7 HX7 ⊢
        clear hw7
        obtain ⟨va, hca1, hva1⟩ := HK7.out.i.vec (j := a) (by rw [HIL.out]; exact han)
        obtain ⟨vk, hck1, hvk1⟩ := HK7.out.i.vec (j := a + k) (by rw [HIL.out]; omega)
        have hfz : ∀ j, w7.frozen? ⟨g2, j, none⟩ = false := fun j => HK7.out.i.free j
        have HVA := Lib.hid hva1
        have HVK := Lib.hid hvk1
        obtain ⟨ba, da, rfl⟩ := hva1.form
        obtain ⟨bk, dk, rfl⟩ := hvk1.form
        have hln1 := (HVI1.out.getD (i := a) (by rw [HIL.out]; exact han)).1
        have hln2 := (HVI1.out.getD (i := a + k) (by rw [HIL.out]; omega)).1
        rw [hln1] at hca1
        rw [hln2] at hck1
        rw [hln1] at HVA
        rw [hln2] at HVK
        clear hva1 hvk1 hln1 hln2
        have HKA := Lib.hid (HK7.out.setI HVK.out a)
        obtain ⟨z, hz, -⟩ := HKA.out.i.vec (j := a + k) (by rw [List.length_set, HIL.out]; omega)
        have hfz2 := HKA.out.i.free (a + k)
        have HKB := Lib.hid (HKA.out.setI (KeepX.vec_put HVA.out (HK7.out.i.own rfl).2.2) (a + k))
        go_upto_region 9 with (fail)
        go_region
        have HK8 := Lib.hid (show KerS n g1 c1 g2 c2 w (((w7.setCell ⟨g2, a, none⟩ (.slice bk m dk)).setCell ⟨g2, a + k, none⟩ (.slice ba m da)).drew) (swapI B1 a (a + k)) (swapI I1 a (a + k)) from HKB.out.below ((Below.refl _ _).drew))
        have HX8 := Lib.hid (show Held (((w7.setCell ⟨g2, a, none⟩ (.slice bk m dk)).setCell ⟨g2, a + k, none⟩ (.slice ba m da)).drew) bx 3 [.int .i64 (c : Nat)] from ((HX7.out.far HBG2.out _ _).far HBG2.out _ _).drew)
        clear HKA HKB hz hfz2 hfz hca1 hck1 HVA HVK HK7 HX7
        obtain ⟨w8, hw8⟩ : ∃ x, ((w7.setCell ⟨g2, a, none⟩ (.slice bk m dk)).setCell ⟨g2, a + k, none⟩ (.slice ba m da)).drew = x := ⟨_, rfl⟩
        rw [hw8] at HK8 HX8 ⊢
        clear hw8
        have hp2 := piv_at (c := c) HKV.out (by rw [List.length_drop, HIL.out]; exact hkn)
        rw [drop_getD, ← swapI_left (L := I1) (i := a) (j := a + k) (by rw [HIL.out]; exact han)] at hp2
        have HVB2 := Lib.hid (HVB.out.swap (i := a) (j := a + k) (by rw [HBL.out]; exact han) (by rw [HBL.out]; omega))
        have HVI2 := Lib.hid (HVI1.out.swap (i := a) (j := a + k) (by rw [HIL.out]; exact han) (by rw [HIL.out]; omega))
        have HBL2 := Lib.hid ((swapI_length B1 a (a + k)).trans HBL.out)
        have HIL2 := Lib.hid ((swapI_length I1 a (a + k)).trans HIL.out)
        rw [HBL.out] at HST2
        obtain ⟨B2, hB2⟩ : ∃ x, swapI B1 a (a + k) = x := ⟨_, rfl⟩
        obtain ⟨I2, hI2⟩ : ∃ x, swapI I1 a (a + k) = x := ⟨_, rfl⟩
        rw [hB2] at HK8 HVB2 HBL2 HST2
        rw [hI2] at HK8 HVI2 HIL2 HST2 hp2
        clear hB2 hI2 HKV HVB HVI1 HBL HIL HST
        have hva2 := HVI2.out.getD (i := a) (by rw [HIL2.out]; exact han)
        have hxr := hva2.2 ((I2.getD a []).getD c 0) (getD_in (by rw [hva2.1]; exact hlt))
        obtain ⟨ua, hcu, hvu⟩ := HK8.out.i.vec (j := a) (by rw [HIL2.out]; exact han)
        obtain ⟨b, o, cp, rfl, hbl, hcell⟩ := hvu.num (c := c) (by rw [hva2.1]; exact hlt)
        rw [hva2.1] at hcu
        obtain ⟨xn, hxn⟩ : ∃ xn : Nat, (I2.getD a []).getD c 0 = (xn : Int) := ⟨((I2.getD a []).getD c 0).toNat, by omega⟩
        have HEN := Lib.hid (show (entI I2 a c).toNat = xn by unfold entI; rw [hxn]; rfl)
        rw [hxn] at hcell hxr hp2
        have hx0 : 0 < xn := by omega
        have hxq : xn < q := by omega
        have HOX := Lib.hid (HOV.out xn hx0 hxq)
        rw [HEN.out] at HST2
        have O1 := Lib.hid (fun (p : BelW w8) => over_any bg q xn p.v (HP.out.below (HK8.out.low.trans (p.h.mono HK8.out.low.size))) (by omega) hq2 (by omega) HOX.out)
        have d1 : ∀ p : BelW w8, p.v.cell? ⟨g2, a, none⟩ = some (.slice (some ⟨b, o, none⟩) m cp) := fun p => BelW.cell (a := ⟨g2, a, none⟩) (HK8.out.i.own rfl).2.1 hcu p
        have d2 : ∀ p : BelW w8, p.v.cell? ⟨bx, 0, none⟩ = some (.int .i64 (c : Nat)) := fun p => BelW.cell HX8.out.lt (HX8.out.at (i := 0) rfl) p
        have d3 : ∀ p : BelW w8, p.v.cell? ⟨b, o + c, none⟩ = some (.int .i64 (xn : Nat)) := fun p => BelW.cell hbl hcell p
        have hby := over_lt (q := q) (n := xn) (by omega) HOX.out
        obtain ⟨by', hby'⟩ : ∃ y, overN q xn = y := ⟨_, rfl⟩
        rw [hby'] at O1 HST2 hby
        have HMX := Lib.hid mixed
        have hcm : (c : Int) < (m : Int) := by omega
        have hc0 : (0 : Int) ≤ (c : Int) := by omega
        clear hva2 hxr hcu hvu hcell hxn hby' hp2 HEN HOX hx0 hxq
        go_upto_region 10 with (fail)
        refine wp_region_bel HMX.out (by kernel_rfl) ?_
        repeat (first
          | go_big_quiet_step ((go_at_call 51; (with_reducible refine Calls.bel_of (O1.out _))))
          | quiet_step ((go_at_call 51; (with_reducible refine Calls.bel_of (O1.out _)))))
        refine wpQuiet_nil ?_
        intro w9 hw'
        have HK9 := Lib.hid (HK8.out.below (BelW.of hw'))
        have HX9 := Lib.hid (HX8.out.below (BelW.of hw') HX8.out.lt)
        clear hw' HK8 HX8 O1 d1 d2 d3 hbl
        go_wp2_with fail
        have HOKN := Lib.hid (fun t (h : a + t < n) => elimN_ok (q := q) (m := m) (c := c) (a := a) (by' := by') (by omega) HVB2.out HVI2.out (by rw [HIL2.out, HBL2.out]) (by rw [HBL2.out]; exact han) t (by rw [HBL2.out]; exact h))
        rw [HBL2.out] at HOKN
        go_loopw [11] (fun ix wr => ∃ t : Nat, t ≤ n - (a + 1) ∧ ix = .int .i64 ((a + 1 + t : Nat) : Int) ∧ KerS n g1 c1 g2 c2 w wr (elimN q c a by' (B2, I2) t).1 (elimN q c a by' (B2, I2) t).2 ∧ Held wr bx 3 [.int .i64 (c : Nat)]) (fun ix _ => n - (intOf ix).toNat)
        case atStart => exact ⟨0, Nat.zero_le _, by go_num, HK9.out, HX9.out⟩
        case round =>
          obtain ⟨t, ht, rfl, hk3, hx3⟩ := hrel
          obtain ⟨i, hi⟩ : ∃ i, a + 1 + t = i := ⟨_, rfl⟩
          have HII := Lib.hid hi
          rw [hi]
          have hai' : a < i := by omega
          have hokn := fun h => HOKN.out t h
          have HSN := Lib.hid (show elimN q c a by' (B2, I2) (t + 1) = elim1 q c a by' (elimN q c a by' (B2, I2) t) (a + 1 + t) from rfl)
          rw [hi] at HSN
          have hait : a + t < n ↔ i < n + 1 := by omega
          rw [hait] at hokn
          clear hi hait
          obtain ⟨⟨B3, I3⟩, hs3⟩ : ∃ s, elimN q c a by' (B2, I2) t = s := ⟨_, rfl⟩
          rw [hs3] at hk3 hokn HSN
          have HS3 := Lib.hid hs3
          clear hs3
          have HK3 := Lib.hid (show KerS n g1 c1 g2 c2 w wr B3 I3 from hk3)
          have HX3 := Lib.hid hx3
          clear hk3 hx3
          by_cases hil : i < n
          · obtain ⟨hb3, hi3, hvb3, hvi3⟩ := hokn (by omega)
            have HBL3 := Lib.hid (show B3.length = n from hb3)
            have HIL3 := Lib.hid (show I3.length = n from hi3)
            have HVB3 := Lib.hid (show VL q m B3 from hvb3)
            have HVI3 := Lib.hid (show VL q m I3 from hvi3)
            clear hb3 hi3 hvb3 hvi3 hokn
            have hiin : (i : Int) < (n : Int) := by omega
            have hain : (a : Int) < (n : Int) := by omega
            have hbi := HVB3.out.getD (i := i) (by rw [HBL3.out]; exact hil)
            have hba := HVB3.out.getD (i := a) (by rw [HBL3.out]; exact han)
            have hii := HVI3.out.getD (i := i) (by rw [HIL3.out]; exact hil)
            have hia := HVI3.out.getD (i := a) (by rw [HIL3.out]; exact han)
            have hxr := hii.2 _ (getD_in (c := c) (by rw [hii.1]; exact hlt))
            obtain ⟨x, hx⟩ : ∃ x, (I3.getD i []).getD c 0 = x := ⟨_, rfl⟩
            have HEX := Lib.hid (show entI I3 i c = x from hx)
            rw [hx] at hxr
            have hf1 : -(4000 : Int) < -x * (by' : Int) := by
              have h1 : x * (by' : Int) ≤ 61 * 62 := Int.mul_le_mul (by omega) (by omega) (by omega) (by omega)
              rw [Int.neg_mul]; omega
            have hf2 : -x * (by' : Int) ≤ 0 := by
              have h1 : 0 ≤ x * (by' : Int) := Int.mul_nonneg (by omega) (by omega)
              rw [Int.neg_mul]; omega
            have hwn : IntKind.i64.wrap (-x) = -x := IntWalk.i64_in _ (by omega)
            have hwf : IntKind.i64.wrap (-x * (by' : Int)) = -x * (by' : Int) := IntWalk.i64_in _ (by omega)
            obtain ⟨u, hcu, hvu⟩ := HK3.out.i.vec (j := i) (by rw [HIL3.out]; exact hil)
            obtain ⟨b, o, cp, rfl, hbl, hcell⟩ := hvu.num (c := c) (by rw [hii.1]; exact hlt)
            rw [hii.1] at hcu
            rw [hx] at hcell
            clear hvu hx
            have hcbx := HX3.out.at (i := 0) rfl
            obtain ⟨f, hf⟩ : ∃ f, -x * (by' : Int) = f := ⟨_, rfl⟩
            have HF := Lib.hid hf
            have HE1 := Lib.hid (show elim1 q c a by' (B3, I3) i = (B3.set i (plusL q (B3.getD i []) f (B3.getD a [])), I3.set i (plusL q (I3.getD i []) f (I3.getD a []))) by unfold elim1; simp only [HEX.out, HF.out])
            rw [hf] at hf1 hf2 hwf
            have hmulf : -x * (by' : Int) = f := hf
            clear hf
            go_upto_region 15 with (go_quiet (fail))
            have HK10 := Lib.hid (HK3.out.below (below_drewN (Below.refl wr.heap.size wr) nq))
            have HX10 := Lib.hid (HX3.out.drewN nq)
            clear hcu hcell hbl HK3 HX3 hcbx hmulf
            obtain ⟨w10, hw10⟩ : ∃ x, wr.drewN nq = x := ⟨_, rfl⟩
            rw [hw10] at HK10 HX10 ⊢
            clear hw10
            obtain ⟨p1, hc1, hv1⟩ := HK10.out.b.vec (j := i) (by rw [HBL3.out]; exact hil)
            obtain ⟨p2, hc2', hv2⟩ := HK10.out.b.vec (j := a) (by rw [HBL3.out]; exact han)
            have P1 := Lib.hid (fun (W : World) (hb : Below w10.heap.size w10 W) => plus_any bg q p1 p2 (B3.getD i []) (B3.getD a []) f W (HP.out.below (HK10.out.low.trans (hb.mono HK10.out.low.size))) (by omega) hq2 (hv1.below hb).ints (hv2.below hb).ints (by rw [hbi.1, hba.1]) (by rw [hbi.1]; omega) (by rw [hbi.1]; omega) (fun y hy => by have := hbi.2 y hy; omega) (fun y hy => by have := hba.2 y hy; omega) (by omega))
            have HPL := Lib.hid (show (plusL q (B3.getD i []) f (B3.getD a [])).length ≤ 1000000 by rw [plusL_length (by rw [hbi.1, hba.1]), hbi.1]; omega)
            obtain ⟨a1, e1, rfl⟩ := hv1.form
            obtain ⟨a2, e2, rfl⟩ := hv2.form
            rw [hbi.1] at hc1 P1
            rw [hba.1] at hc2' P1
            clear hv1 hv2
            go_cut [] from 94 to 108 (fun wq => KerS n g1 c1 g2 c2 w wq (B3.set i (plusL q (B3.getD i []) f (B3.getD a []))) I3 ∧ Held wq bx 3 [.int .i64 (c : Nat)])
            case first =>
              go_region_law (first
                | (refine step_call (by rfl) 61 #[.pointer (some ⟨bg, 0, none⟩), .slice a1 m e1, .int .i64 f, .slice a2 m e2] ?hr (P1.out _ (Below.refl _ _).drew) ?_; (case hr => go_simp); rintro e w11 ⟨v11, rfl, ho11, hb11⟩; refine ⟨_, rfl, ?_⟩; have HB11 := Lib.hid (show Below w10.heap.size w10 w11 from ((Below.refl _ _).drew).trans hb11); have HK11 := Lib.hid (HK10.out.below HB11.out); have HV11 := Lib.hid (ho11.vec HPL.out); have hf11 := HK11.out.b.free i; have hc11 := (HB11.out.cell (p := ⟨g1, i, none⟩) (HK10.out.b.own rfl).2.1).trans hc1; obtain ⟨a11, n11, c11, rfl⟩ := own_form ho11; clear ho11 hb11))
              all_goals (go_wp2_with fail; go_meet)
              all_goals exact ⟨HK11.out.setB HV11.out i, (HX10.out.below HB11.out HX10.out.lt).far HBG.out _ _⟩
            case rest =>
              obtain ⟨hk12, hx12⟩ := hcut
              clear P1 HPL hc1 hc2' HK10 HX10
              obtain ⟨w12, hw12⟩ : ∃ x, x = wc := ⟨_, rfl⟩
              rw [← hw12] at hk12 hx12 ⊢
              clear hw12
              have HK12 := Lib.hid hk12
              have HX12 := Lib.hid hx12
              clear hk12 hx12
              go_upto_region 16 with (fail)
              obtain ⟨p1, hc1, hv1⟩ := HK12.out.i.vec (j := i) (by rw [HIL3.out]; exact hil)
              obtain ⟨p2, hc2', hv2⟩ := HK12.out.i.vec (j := a) (by rw [HIL3.out]; exact han)
              have P1 := Lib.hid (fun (W : World) (hb : Below w12.heap.size w12 W) => plus_any bg q p1 p2 (I3.getD i []) (I3.getD a []) f W (HP.out.below (HK12.out.low.trans (hb.mono HK12.out.low.size))) (by omega) hq2 (hv1.below hb).ints (hv2.below hb).ints (by rw [hii.1, hia.1]) (by rw [hii.1]; omega) (by rw [hii.1]; omega) (fun y hy => by have := hii.2 y hy; omega) (fun y hy => by have := hia.2 y hy; omega) (by omega))
              have HPL := Lib.hid (show (plusL q (I3.getD i []) f (I3.getD a [])).length ≤ 1000000 by rw [plusL_length (by rw [hii.1, hia.1]), hii.1]; omega)
              obtain ⟨a1, e1, rfl⟩ := hv1.form
              obtain ⟨a2, e2, rfl⟩ := hv2.form
              rw [hii.1] at hc1 P1
              rw [hia.1] at hc2' P1
              clear hv1 hv2
              go_region_law (first
                | (refine step_call (by rfl) 61 #[.pointer (some ⟨bg, 0, none⟩), .slice a1 m e1, .int .i64 f, .slice a2 m e2] ?hr (P1.out _ (Below.refl _ _).drew) ?_; (case hr => go_simp); rintro e w11 ⟨v11, rfl, ho11, hb11⟩; refine ⟨_, rfl, ?_⟩; have HB11 := Lib.hid (show Below w12.heap.size w12 w11 from ((Below.refl _ _).drew).trans hb11); have HK11 := Lib.hid (HK12.out.below HB11.out); have HV11 := Lib.hid (ho11.vec HPL.out); have hf11 := HK11.out.i.free i; have hc11 := (HB11.out.cell (p := ⟨g2, i, none⟩) (HK12.out.i.own rfl).2.1).trans hc1; obtain ⟨a11, n11, c11, rfl⟩ := own_form ho11; clear ho11 hb11))
              all_goals have HK13 := Lib.hid (HK11.out.setI HV11.out i)
              all_goals have HX13 := Lib.hid ((HX12.out.below HB11.out HX12.out.lt).far HBG2.out i (Value.slice a11 n11 c11))
              all_goals clear P1 HPL hc1 hc2' HK12 HX12 hbi hba hii hia hf11 hc11 HK11 HV11 HB11
              all_goals have HI1 := Lib.hid (show i + 1 = a + 1 + (t + 1) by have := HII.out; omega)
              all_goals have HT1 := Lib.hid (show t + 1 ≤ n - (a + 1) by have := HII.out; omega)
              all_goals rw [HE1.out] at HSN
              all_goals go_wp2
              all_goals go_roundw
              all_goals first
                | exact ⟨t + 1, HT1.out, by rw [← HI1.out]; go_num, by rw [HSN.out]; exact HK13.out, HX13.out⟩
                | (simp [intOf]; omega)
          · have HTE := Lib.hid (show t = n - (a + 1) by have := HII.out; omega)
            obtain rfl : i = n := by have := HII.out; omega
            have hiin : ¬ (i : Int) < (i : Int) := by omega
            have HFIN := Lib.hid (show kerTo q B I (c + 1) = ((B3, I3), a + 1) by rw [HST2.out, ← HTE.out, HS3.out])
            have HEQ := Lib.hid (HFIN.out ▸ HDN2.out : ((((B3, I3), a + 1) : (List (List Int) × List (List Int)) × Nat)).2 = i → ∀ t, kerTo q B I (c + 1 + t) = ((B3, I3), a + 1))
            have hci2 := HK3.out.b.cap
            by_cases hend : a + 1 = i
            · have HND := Lib.hid hend
              have hbe : (((a : Int) + 1) == (i : Int)) = true := by simp; omega
              have hbe2 : (a : Int) + 1 = (i : Int) := by omega
              have HKL := Lib.hid (show kernelL q m B I = [] by
                have h1 := HEQ.out HND.out (m - (c + 1))
                rw [show c + 1 + (m - (c + 1)) = m by omega] at h1
                unfold kernelL
                rw [h1]
                exact List.drop_of_length_le (by
                  have h2 := (HOK.out (c + 1)).1
                  rw [HFIN.out] at h2
                  have h3 : B3.length = i := h2
                  show B3.length ≤ a + 1
                  omega))
              clear hend
              go_wp2
              all_goals go_ret
              all_goals refine ⟨_, rfl, ?_, HK3.out.low⟩
              all_goals rw [HKL.out]
              all_goals exact ⟨_, _, rfl, by simp, by simp, fun h => absurd rfl h⟩
            · have hbe : (((a : Int) + 1) == (i : Int)) = false := by simp; omega
              have hbe2 : ¬ (a : Int) + 1 = (i : Int) := by omega
              go_wp2
              go_roundw
              case rel => exact ⟨c + 1, hlt, by go_num, by rw [HFIN.out]; go_num, by rw [HFIN.out]; exact HK3.out, by rw [HFIN.out]; show a + 1 < i; omega⟩
              case measure => simp [intOf]; omega
      · rw [if_neg hpv] at CI
        rw [kerStep_no hpv] at HST
        clear hpv
        go_wp2_with (go_at_call 87; refine CI.out.mono ?_; rintro e w6 ⟨rfl, hb6⟩; have HK6 := Lib.hid (HK5.out.below hb6); clear hb6)
        go_roundw
        case rel => exact ⟨c + 1, hlt, by go_num, by rw [HST.out], by rw [HST.out]; exact HK6.out, by rw [HST.out]; exact han⟩
        case measure => simp [intOf]; omega
    · obtain rfl : c = m := by omega
      have hci : ¬ (c : Int) < (c : Int) := by omega
      obtain ⟨a, ha⟩ : ∃ a, (kerTo q B I c).2 = a := ⟨_, rfl⟩
      have HA := Lib.hid ha
      rw [ha] at han ⊢
      have HKE := Lib.hid hk
      have hc1 := hk.b.cap
      have hok := HOK.out c
      have HBE := Lib.hid hok.1
      have hai : (a : Int) ≤ (n : Int) := by omega
      have hca : ¬ c1 = a := by omega
      clear ha hk hok
      go_wp2
      go_ret
      refine ⟨_, rfl, ?_, HKE.out.low⟩
      have h := (HKE.out.b.slr (by rw [HBE.out]; omega)).drop (Nat.le_of_lt han)
      rw [if_neg hca] at h
      unfold kernelL
      rw [HA.out]
      exact h
end Go.Proofs.Ytdackakjcnnofaa
