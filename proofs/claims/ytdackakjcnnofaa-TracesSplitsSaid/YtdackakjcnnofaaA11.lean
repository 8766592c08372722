/- Vm of the seat's texts, in this order. -/
import Derived.Test.YtdackakjcnnofaaA10
import Derived.Test.YtdackakjcnnofaaA9

/- split: the walk. -/
namespace Go.Proofs.Ytdackakjcnnofaa
open Go.RowKit
attribute [local go_sem] Oper.semAt_some

theorem imagesL_length (q : Nat) (M B : List (List Int)) (x : Nat) : (imagesL q M B x).length = B.length := by simp [imagesL]
theorem imagesL_take (q : Nat) (M B : List (List Int)) (x : Nat) (j : Nat) (h : j < B.length) : (imagesL q M B x).take (j + 1) = (imagesL q M B x).take j ++ [plusL q (imageL q M B[j]) (-(x : Int)) B[j]] := by
  rw [List.take_succ_eq_append_getElem (by rw [imagesL_length]; exact h)]; simp [imagesL]
theorem imagesL_vl {q m : Nat} (hq : 0 < q) {M B : List (List Int)} (hM : M.length = m) (hB : VL q m B) (x : Nat) : VL q m (imagesL q M B x) := by
  intro v hv
  obtain ⟨b, hb, rfl⟩ := List.mem_map.1 hv
  have := plusL_vl (q := q) hq (v := imageL q M b) (x := b) (k := -(x : Int)) (by rw [imageL_length, hM, (hB b hb).1])
  exact ⟨by rw [this.1, imageL_length, hM], this.2⟩
theorem imageL_mem {q : Nat} (hq : 0 < q) {M : List (List Int)} {v : List Int} : ∀ a ∈ imageL q M v, 0 ≤ a ∧ a < (q : Int) := by
  intro a ha
  obtain ⟨r, _, rfl⟩ := List.mem_map.1 ha
  exact ⟨Int.emod_nonneg _ (by omega), Int.emod_lt_of_pos _ (by omega)⟩
theorem splitTo_no {q m : Nat} {M B : List (List Int)} {x : Nat} (h : (kernelL q m B (imagesL q M B x)).length = 0) : splitTo q m M B (x + 1) = splitTo q m M B x := by rw [splitTo, if_pos h]
theorem splitTo_yes {q m : Nat} {M B : List (List Int)} {x : Nat} (h : ¬ (kernelL q m B (imagesL q M B x)).length = 0) : splitTo q m M B (x + 1) = splitTo q m M B x ++ [kernelL q m B (imagesL q M B x)] := by rw [splitTo, if_neg h]
theorem splitTo_len (q m : Nat) (M B : List (List Int)) : ∀ x, (splitTo q m M B x).length ≤ x
  | 0 => Nat.le_refl _
  | x + 1 => by
    have := splitTo_len q m M B x
    rw [splitTo]
    split
    · omega
    · simp; omega
/-- One new cell of a type. -/
theorem slr_lit {α : Type} {t : TypeId} {R : World → Value → α → Prop} {w : World} {u : Value} {x : α} (h : R (w.alloc (.cells #[u] t)) u x) : SlR t R (w.alloc (.cells #[u] t)) (.slice (some ⟨w.heap.size, 0, none⟩) 1 1) [x] :=
  ⟨_, 1, rfl, by simp, by simp, fun _ => ⟨w.heap.size, 0, rfl, (Held.new w t [u]).ty, fun i hi => by
    obtain rfl : i = 0 := by simpa using hi
    exact ⟨u, by rw [Nat.zero_add]; exact (Held.new w t [u]).at (i := 0) rfl, h⟩⟩⟩
theorem vecs_keep0 : KeepR (α := List (List Int)) 1000000 Vecs := Vecs.keep (by decide) (by decide)
set_option maxRecDepth 20000 in
set_option maxHeartbeats 2000000 in
theorem split_any (bg q m n : Nat) (vm vb : Value) (M B : List (List Int)) (w : World) (hp : PrimeAt w bg q) (hq : 1 < q) (hq2 : q < 62) (hov : ∀ x, 0 < x → x < q → okOver q x = true) (hm : Args w vm M) (hM : M.length = m) (hrow : ∀ r ∈ M, r.length = m)
    (hbm : ∀ r ∈ M, ∀ x ∈ r, 0 ≤ x ∧ x ≤ 1000) (hvb : Vecs w vb B) (hB : VL q m B) (hb : B.length = n) (hn : 0 < n) (hn2 : n ≤ 100) (hm1 : 0 < m) (hm2 : m ≤ 100) :
    Calls Try.prog 40 #[.pointer (some ⟨bg, 0, none⟩), vm, vb] w fun e w' => ∃ v', e = .returned v' ∧ Spcs w' v' (splitL q m M B) ∧ Below w.heap.size w w' := by
  have HBN := Lib.hid hb
  have HVB := Lib.hid hvb
  obtain ⟨ab, cb, rfl⟩ := hvb.form
  obtain ⟨am, cm, rfl⟩ := hm.form
  rw [hb] at HVB ⊢
  rw [hM]
  by_cases h1 : n = 1
  · have HE := Lib.hid (show splitL q m M B = [B] by unfold splitL; rw [if_pos (by rw [hb, h1])])
    subst h1
    clear hov hm hM hrow hbm hvb hB hb
    go_enter Try.func40, Try.ntmps40
    go_wp2
    go_ret
    refine ⟨_, rfl, ?_, (Below.refl _ _).alloc (Nat.le_refl _) _⟩
    rw [HE.out]
    exact slr_lit (HVB.out.below ((Below.refl _ _).alloc (Nat.le_refl _) _))
  · have HE := Lib.hid (show splitL q m M B = splitTo q m M B q by unfold splitL; rw [if_neg (by rw [hb]; exact h1)])
    have h1i : ((n : Int) == 1) = false := by simp; omega
    have h1i2 : ¬ (n : Int) = 1 := by omega
    have HP := Lib.hid hp
    have HVL := Lib.hid hB
    have hpc := hp.2
    have hbgl := hp.1
    have IM := Lib.hid (fun (u : Value) (v : List Int) (W : World) (hW : Below w.heap.size w W) (hu : Ints W u v) (hv : v.length = m ∧ ∀ a ∈ v, 0 ≤ a ∧ a < (q : Int)) => image_any bg q (.slice am M.length cm) u M v W (hp.below hW) (by omega) hq2 (hm.below hW) hu (fun r hr => by rw [hrow r hr, hv.1]) hbm (fun x hx => by have := hv.2 x hx; omega) (by omega) (by rw [hv.1]; omega))
    have PL := Lib.hid (fun (u1 u2 : Value) (v : List Int) (k : Nat) (W : World) (hW : Below w.heap.size w W) (hk : k < q) (hv : v.length = m ∧ ∀ a ∈ v, 0 ≤ a ∧ a < (q : Int)) (hu1 : Ints W u1 (imageL q M v)) (hu2 : Ints W u2 v) =>
      plus_any bg q u1 u2 (imageL q M v) v (-(k : Int)) W (hp.below hW) (by omega) hq2 hu1 hu2 (by rw [imageL_length, hM, hv.1]) (by rw [imageL_length, hM]; omega) (by rw [imageL_length, hM]; omega) (fun a ha => by have := imageL_mem (q := q) (by omega) a ha; omega) (fun a ha => by have := hv.2 a ha; omega) (by omega))
    have HPL := Lib.hid (fun (v : List Int) (k : Nat) (hv : v.length = m) => show (plusL q (imageL q M v) (-(k : Int)) v).length ≤ 1000000 by rw [plusL_length (by rw [imageL_length, hM, hv]), imageL_length, hM]; omega)
    have HML := Lib.hid (fun (v : List Int) => show (imageL q M v).length ≤ 17592186044416 by rw [imageL_length, hM]; omega)
    have KN := Lib.hid (fun (vi : Value) (x : Nat) (W : World) (hW : Below w.heap.size w W) (hvi : Vecs W vi (imagesL q M B x)) => kernel_any bg q m n (.slice ab n cb) vi B (imagesL q M B x) W (hp.below hW) hq hq2 hov (HVB.out.below hW) hvi hB (imagesL_vl (by omega) hM hB x) hb (by rw [imagesL_length, hb]) hn hn2 hm2)
    have HIL := Lib.hid (fun x => (imagesL_length q M B x).trans hb)
    have HIT := Lib.hid (fun x j h => imagesL_take q M B x j h)
    rw [hM] at IM
    clear hov hm hM hrow hbm hvb hB hb hp h1
    go_enter Try.func40, Try.ntmps40
    go_wp2
    go_loopw [7, 22] (fun vo ix wr => ∃ x : Nat, x ≤ q ∧ ix = .int .i64 x ∧ OwnG 46 Vecs w.heap.size wr vo (splitTo q m M B x) ∧ Below w.heap.size w wr) (fun _ ix _ => q - (intOf ix).toNat)
    case atStart => exact ⟨0, Nat.zero_le _, rfl, OwnG.nil _ _ _ _, Below.refl _ _⟩
    case round =>
      obtain ⟨x, hx, rfl, ho, hbr⟩ := hrel
      have HO := Lib.hid ho
      have HB := Lib.hid hbr
      have hsz := hbr.size
      clear ho hbr
      by_cases hlt : x < q
      · have hxi : (x : Int) < (q : Int) := by omega
        have hwn : IntKind.i64.wrap (-(x : Int)) = -(x : Int) := IntWalk.i64_in _ (by omega)
        have hwo := HO.out
        obtain ⟨wo, hwo'⟩ : ∃ y, y = wr := ⟨_, rfl⟩
        rw [← hwo'] at HO HB hsz ⊢
        clear hwo' hwo
        go_wp2_with fail
        go_loopw [9, 27] (fun vi jx wq => ∃ j : Nat, j ≤ n ∧ jx = .int .i64 j ∧ OwnG 48 Vec wo.heap.size wq vi ((imagesL q M B x).take j) ∧ Below wo.heap.size wo wq) (fun _ jx _ => n - (intOf jx).toNat)
        case atStart => exact ⟨0, Nat.zero_le _, rfl, OwnG.nil _ _ _ _, Below.refl _ _⟩
        case round =>
          obtain ⟨j, hj, rfl, hi, hb2⟩ := hrel
          have HI := Lib.hid hi
          have HB2 := Lib.hid hb2
          have HBW := Lib.hid (HB.out.trans (hb2.mono hsz))
          have hsz2 := HBW.out.size
          by_cases hjl : j < n
          · have hji : (j : Int) < (n : Int) := by omega
            have hjB : j < B.length := by rw [HBN.out]; exact hjl
            obtain ⟨b1, o1, cc, u, e1, hb1, -, hcu, hu⟩ := (HVB.out.below HBW.out).at j hjB
            obtain rfl : ab = some ⟨b1, o1, none⟩ := (Value.slice.inj e1).1
            have hvl := HVL.out _ (List.getElem_mem hjB)
            have HT := Lib.hid (HIT.out x j hjB)
            obtain ⟨v, hv⟩ : ∃ v, B[j] = v := ⟨_, rfl⟩
            rw [hv] at hu hvl HT
            have HU := Lib.hid hu
            have HVV := Lib.hid hvl
            obtain ⟨au, cu, rfl⟩ := hu.form
            rw [hvl.1] at hcu HU
            have HLT := Lib.hid (show ((imagesL q M B x).take j).length + 1 < 1000000 by rw [List.length_take, HIL.out]; omega)
            have HIB := Lib.hid (fun (W : World) (h : Below wr.heap.size wr W) => HI.out.below h vec_keep0)
            clear hi hb2 e1 hv hvl hu hjB
            go_wp2_with (first
              | (go_at_call 62; refine (IM.out _ _ wr HBW.out HU.out.ints HVV.out).mono ?_; rintro e w3 ⟨v3, rfl, ho3, hb3⟩; have HO3 := Lib.hid ho3; have HB3 := Lib.hid hb3; have HBW3 := Lib.hid (HBW.out.trans (hb3.mono hsz2)); obtain ⟨a3, n3, c3, rfl⟩ := own_form ho3; clear ho3 hb3)
              | (go_at_call 61; refine (PL.out _ _ v x w3 HBW3.out hlt HVV.out (HO3.out.ints (HML.out v)) (HU.out.below HB3.out).ints).mono ?_; rintro e w4 ⟨v4, rfl, ho4, hb4⟩; have HV4 := Lib.hid (ho4.vec (HPL.out v x HVV.out.1)); have HB4 := Lib.hid (HB3.out.trans (hb4.mono HB3.out.size)); obtain ⟨a4, n4, c4, rfl⟩ := own_form ho4; clear ho4 hb4)
              | (at_builtin; refine wpl_appG (t := 48) (R := Vec) (B := wo.heap.size) rfl _ _ 46 rfl Try.underlying46 info_v (Vec.keep ne_vi) (fun _ _ _ h => h.one) rfl ((HIB.out _ HB4.out).below ((Below.refl _ _).alloc (Nat.le_refl _) _) vec_keep0) rfl (Held.new _ _ [_]) (HV4.out.below ((Below.refl _ _).alloc (Nat.le_refl _) _)) HLT.out (by have := HB2.out.size; have := HB4.out.size; simp; omega) ?_; intro v5 w5 ho5 hg5 hl5; have HO5 := Lib.hid ho5; have HB5 := Lib.hid ((((HB2.out.trans (HB4.out.mono HB2.out.size)).alloc (by have := HB2.out.size; have := HB4.out.size; omega) _)).grown hg5 (by have := HB2.out.size; have := HB4.out.size; simp; omega) (fun k hk => (HI.out.own hk).1)); clear ho5 hg5 hl5))
            go_roundw
            case rel => exact ⟨j + 1, hjl, by go_num, by rw [HT.out]; exact HO5.out, HB5.out⟩
            case measure => simp [intOf]; omega
          · obtain rfl : j = n := by omega
            have hji : ¬ (j : Int) < (j : Int) := by omega
            have HI2 := Lib.hid (show OwnG 48 Vec wo.heap.size wr u9 (imagesL q M B x) by rw [List.take_of_length_le (by rw [HIL.out]; exact Nat.le_refl _)] at hi; exact hi)
            obtain ⟨avi, cvi, hvf⟩ := HI2.out.form
            rw [HIL.out] at hvf
            subst hvf
            have K := Lib.hid (KN.out _ x wr HBW.out (HI2.out.slr (by rw [HIL.out]; omega)))
            have HOW := Lib.hid (HO.out.below HB2.out vecs_keep0)
            have hstl := splitTo_len q m M B x
            have HSL := Lib.hid (show (splitTo q m M B x).length + 1 < 1000000 by omega)
            clear hi hb2 hstl
            by_cases hz : (kernelL q m B (imagesL q M B x)).length = 0
            · have HS := Lib.hid (splitTo_no hz)
              have HZ := Lib.hid hz
              clear hz
              go_wp2_with (go_at_call 63; refine K.out.mono ?_; rintro e w6 ⟨v6, rfl, hv6, hb6⟩; obtain ⟨a6, c6, rfl⟩ := hv6.form; rw [HZ.out]; have HB6 := Lib.hid (HB2.out.trans (hb6.mono HB2.out.size)); have HO6 := Lib.hid (HOW.out.below hb6 vecs_keep0); clear hv6 hb6)
              go_roundw
              case rel => exact ⟨x + 1, hlt, by go_num, by rw [HS.out]; exact HO6.out, HB.out.trans (HB6.out.mono hsz)⟩
              case measure => simp [intOf]; omega
            · have HS := Lib.hid (splitTo_yes hz)
              obtain ⟨KL, hKL⟩ : ∃ y, kernelL q m B (imagesL q M B x) = y := ⟨_, rfl⟩
              rw [hKL] at hz K HS
              obtain ⟨kl, hkl⟩ : ∃ y, KL.length = y := ⟨_, rfl⟩
              have HKL := Lib.hid hkl
              rw [hkl] at hz
              have hki : (0 : Int) < (kl : Int) := by omega
              clear hKL hkl hz
              go_wp2_with (first
                | (go_at_call 63; refine K.out.mono ?_; rintro e w6 ⟨v6, rfl, hv6, hb6⟩; have HV6 := Lib.hid hv6; obtain ⟨a6, c6, rfl⟩ := hv6.form; rw [HKL.out] at HV6 ⊢; have HB6 := Lib.hid (HB2.out.trans (hb6.mono HB2.out.size)); have HO6 := Lib.hid (HOW.out.below hb6 vecs_keep0); have HBW6 := Lib.hid (HB.out.trans (HB6.out.mono hsz)); have hs6 := HBW6.out.size; clear hv6 hb6)
                | (at_builtin; refine wpl_appG (t := 46) (R := Vecs) (B := w.heap.size) rfl _ _ 66 rfl Try.underlying66 info_vs (Vecs.keep ne_si ne_sv) (fun _ _ _ h => h.one) rfl (HO6.out.below ((Below.refl _ _).alloc (Nat.le_refl _) _) vecs_keep0) rfl (Held.new _ _ [_]) (HV6.out.below ((Below.refl _ _).alloc (Nat.le_refl _) _)) HSL.out (by simp; omega) ?_; intro v7 w7 ho7 hg7 hl7; have HO7 := Lib.hid ho7; have HB7 := Lib.hid ((HBW6.out.alloc hs6 (.cells #[.slice a6 kl c6] 46)).grown hg7 (by simp; omega) (fun k hk => (HO6.out.own hk).1)); clear ho7 hg7 hl7))
              go_roundw
              case rel => exact ⟨x + 1, hlt, by go_num, by rw [HS.out]; exact HO7.out, HB7.out⟩
              case measure => simp [intOf]; omega
      · obtain rfl : x = q := by omega
        have hxi : ¬ (x : Int) < (x : Int) := by omega
        go_wp2
        go_ret
        refine ⟨_, rfl, ?_, HB.out⟩
        rw [HE.out]
        exact HO.out.slr (by have := splitTo_len x m M B x; omega)
end Go.Proofs.Ytdackakjcnnofaa
