/- MirrorCosets: the walks. -/
import Derived.Test.YtmlhecfhhhebnaaDoorDr
import Derived.Test.YtmlhecfhhhebnaaDoorEm
namespace Go.Proofs.YtmlhecfhhhebnaaDoor
open Go.RowKit
attribute [local go_sem] Oper.semAt_some

theorem Held.bel {w w' : World} {g : Nat} {t : TypeId} {l : List Value} (h : Held w g t l) (hb : Below w.heap.size w w') : Held w' g t l := h.below hb h.lt
theorem cos_lt {m N : Nat} {W X : List (List Nat)} (hk : Tk m N W X) (M : Nat) : ∀ (f u : Nat), u < N → cosX W X m M f u < N
  | 0, _, h => h
  | f + 1, u, h => by
    rw [cosX]
    cases hl : lowS W X m M u with
    | none => exact h
    | some s =>
      have hs : s < m := by
        unfold lowS at hl
        exact List.mem_range.1 (List.mem_of_find?_eq_some hl)
      exact cos_lt hk M f _ (hk.step h hs)

set_option maxRecDepth 20000 in
set_option maxHeartbeats 4000000 in
theorem CosetsL_no (K : Nat) (n : Int) (vu : Value) (xs : List Int) (M : Int) (w : World) (hK : K < 256) (hx : Ints w vu xs) (h : okI K n [xs] = false) :
    Calls Tryd.prog 3 #[grpI K n, vu, .int .i64 M] w (TrueM w) := by
  have FN := Lib.hid (fun w' v' (ha : Args w' v' [xs]) => by have := fine_any K n v' [xs] w' hK ha; rw [h] at this; exact this)
  have OF := Lib.hid (fun w' => Of_any K n w')
  have LU := Lib.hid (fun w' (hb : Below (w.heap.size + 1) (w.alloc (.cells #[.int .u8 (K : Nat), .int .i64 n] 23)) w') => list_any vu xs w' (intsS hx hb))
  have CO := Lib.hid (fun v' w' (hi : Ints w' v' (xs.take 34)) => Coset_no K n v' _ M w' hK hi (by rw [okI_take1]; exact h))
  have hlu : (xs.take 34).length ≤ 17592186044416 := by rw [List.length_take]; omega
  have AW := Lib.hid (fun w' => awake_any w')
  have HU := Lib.hid (fun w' (hb : Below (w.heap.size + 1) (w.alloc (.cells #[.int .u8 (K : Nat), .int .i64 n] 23)) w') => intsS hx hb)
  obtain ⟨a, c, rfl, hx1⟩ := hx
  unfold grpI at *
  clear hx1 h
  go_enter Tryd.func3, Tryd.ntmps3
  go_wp2_with (first
      | (go_at_call 10; refine (AW.out _).mono ?_; rintro e w5 ⟨rfl, hb5'⟩; have hb5 := chainS hb4 hb5')
      | (go_at_call 8; refine (FN.out _ _ (args1 (HU.out w3 hb3) _ rfl)).mono ?_; rintro e w4 ⟨rfl, hb4q⟩; have hb4' := below_al (Nat.le_refl _) hb4q; have hb4 := chainS hb3 hb4'; have g40 := (heldS hb4).at (i := 0) rfl; have g41 := (heldS hb4).at (i := 1) rfl)
      | (go_at_call 5; refine (CO.out v2 w2 (ho2.ints hlu)).mono ?_; rintro e w3 ⟨rfl, hb3'⟩; have hb3 := chainS hb2 hb3'; have g30 := (heldS hb3).at (i := 0) rfl; have g31 := (heldS hb3).at (i := 1) rfl)
      | (go_at_call 7; refine (LU.out w1 hb1).mono ?_; rintro e w2 ⟨v2, rfl, ho2, hb2'⟩; have hb2 := chainS hb1 hb2')
      | (go_at_call 6; refine (OF.out _).mono ?_; rintro e w1 ⟨rfl, hb1q⟩; have hb1 := hb1q.mono (show w.heap.size + 1 ≤ _ by simp)))
  go_ret
  exact ⟨rfl, chainE hb5⟩

set_option maxRecDepth 20000 in
set_option maxHeartbeats 4000000 in
theorem CosetsL_neg (K n : Nat) (vu : Value) (xs : List Int) (M : Int) (w : World) (hv : validB K n = true) (hx : Ints w vu xs) (q1 : wordB (mirs K n) xs = true) (hc : M < 0) :
    Calls Tryd.prog 3 #[.agg #[.int .u8 (K : Nat), .int .i64 (n : Nat)], vu, .int .i64 M] w (TrueM w) := by
  have hK := K_lt hv
  have hok : okI K (n : Int) [xs] = true := by rw [okI_cast hv]; simp [q1]
  have FN := Lib.hid (fun w' v' (ha : Args w' v' [xs]) => by have := fine_any K (n : Int) v' [xs] w' hK ha; rw [hok] at this; exact this)
  have OF := Lib.hid (fun w' => Of_any K (n : Int) w')
  have n1 := word_nat q1
  have LU := Lib.hid (fun w' (hb : Below (w.heap.size + 1) (w.alloc (.cells #[.int .u8 (K : Nat), .int .i64 (n : Nat)] 23)) w') => by have := list_any vu xs w' (intsS hx hb); rw [List.take_of_length_le (by omega)] at this; exact this)
  have hlu := word_len q1
  have hm4 := mirs_le hv
  have MR := Lib.hid (fun w' => RMirrors_any K n w' hv)
  have AW := Lib.hid (fun w' => awake_any w')
  have HU := Lib.hid (fun w' (hb : Below (w.heap.size + 1) (w.alloc (.cells #[.int .u8 (K : Nat), .int .i64 (n : Nat)] 23)) w') => intsS hx hb)
  have CO := Lib.hid (fun v' w' (hi : Ints w' v' xs) => Coset_bad K n v' xs M w' hv hi q1 (.inl hc))
  have d0 : decide (M < 0) = true := by simpa using hc
  clear hc
  obtain ⟨a, c, rfl, hx1⟩ := hx
  unfold grpI at *
  clear hx1 hok hK n1 q1 hv
  go_enter Tryd.func3, Tryd.ntmps3
  go_wp2_with (first
      | (go_at_call 10; refine (AW.out _).mono ?_; rintro e w5 ⟨rfl, hb5'⟩; have hb5 := chainS hb4 hb5')
      | (go_at_call 8; refine (FN.out _ _ (args1 (HU.out w3 hb3) _ rfl)).mono ?_; rintro e w4 ⟨rfl, hb4q⟩; have hb4' := below_al (Nat.le_refl _) hb4q; have hb4 := chainS hb3 hb4'; have g40 := (heldS hb4).at (i := 0) rfl; have g41 := (heldS hb4).at (i := 1) rfl)
      | (go_at_call 5; refine (CO.out v2 w2 (ho2.ints hlu)).mono ?_; rintro e w3 ⟨rfl, hb3'⟩; have hb3 := chainS hb2 hb3'; have g30 := (heldS hb3).at (i := 0) rfl; have g31 := (heldS hb3).at (i := 1) rfl)
      | (go_at_call 7; refine (LU.out w1 hb1).mono ?_; rintro e w2 ⟨v2, rfl, ho2, hb2'⟩; have hb2 := chainS hb1 hb2')
      | (go_at_call 6; refine (OF.out _).mono ?_; rintro e w1 ⟨rfl, hb1q⟩; have hb1 := hb1q.mono (show w.heap.size + 1 ≤ _ by simp)))
  go_ret
  exact ⟨rfl, chainE hb5⟩

set_option maxRecDepth 20000 in
set_option maxHeartbeats 4000000 in
theorem CosetsL_big (K n : Nat) (vu : Value) (xs : List Int) (M : Int) (w : World) (hv : validB K n = true) (hx : Ints w vu xs) (q1 : wordB (mirs K n) xs = true) (hc0 : ¬ M < 0) (hc : (2 : Int) ^ mirs K n ≤ M) :
    Calls Tryd.prog 3 #[.agg #[.int .u8 (K : Nat), .int .i64 (n : Nat)], vu, .int .i64 M] w (TrueM w) := by
  have hK := K_lt hv
  have hok : okI K (n : Int) [xs] = true := by rw [okI_cast hv]; simp [q1]
  have FN := Lib.hid (fun w' v' (ha : Args w' v' [xs]) => by have := fine_any K (n : Int) v' [xs] w' hK ha; rw [hok] at this; exact this)
  have OF := Lib.hid (fun w' => Of_any K (n : Int) w')
  have n1 := word_nat q1
  have LU := Lib.hid (fun w' (hb : Below (w.heap.size + 1) (w.alloc (.cells #[.int .u8 (K : Nat), .int .i64 (n : Nat)] 23)) w') => by have := list_any vu xs w' (intsS hx hb); rw [List.take_of_length_le (by omega)] at this; exact this)
  have hlu := word_len q1
  have hm4 := mirs_le hv
  have MR := Lib.hid (fun w' => RMirrors_any K n w' hv)
  have AW := Lib.hid (fun w' => awake_any w')
  have HU := Lib.hid (fun w' (hb : Below (w.heap.size + 1) (w.alloc (.cells #[.int .u8 (K : Nat), .int .i64 (n : Nat)] 23)) w') => intsS hx hb)
  have CO := Lib.hid (fun v' w' (hi : Ints w' v' xs) => Coset_bad K n v' xs M w' hv hi q1 (.inr hc))
  have d0 : decide (M < 0) = false := by simpa using hc0
  obtain ⟨m, hm⟩ : ∃ m, mirs K n = m := ⟨_, rfl⟩
  rw [hm] at MR hc hm4
  have d1 : decide ((2 : Int) ^ m ≤ M) = true := by simpa using hc
  have p1 := pow_inM m (by omega)
  have p2 := pow_inM64 m (by omega)
  clear hc hc0 hm
  obtain ⟨a, c, rfl, hx1⟩ := hx
  unfold grpI at *
  clear hx1 hok hK n1 q1 hv
  go_enter Tryd.func3, Tryd.ntmps3
  go_wp2_with (first
      | (go_at_call 10; refine (AW.out _).mono ?_; rintro e w6 ⟨rfl, hb6'⟩; have hb6 := chainS hb5 hb6')
      | (go_at_call 9; refine (MR.out w4).mono ?_; rintro e w5 ⟨rfl, hb5'⟩; have hb5 := chainS hb4 hb5')
      | (go_at_call 8; refine (FN.out _ _ (args1 (HU.out w3 hb3) _ rfl)).mono ?_; rintro e w4 ⟨rfl, hb4q⟩; have hb4' := below_al (Nat.le_refl _) hb4q; have hb4 := chainS hb3 hb4'; have g40 := (heldS hb4).at (i := 0) rfl; have g41 := (heldS hb4).at (i := 1) rfl)
      | (go_at_call 5; refine (CO.out v2 w2 (ho2.ints hlu)).mono ?_; rintro e w3 ⟨rfl, hb3'⟩; have hb3 := chainS hb2 hb3'; have g30 := (heldS hb3).at (i := 0) rfl; have g31 := (heldS hb3).at (i := 1) rfl)
      | (go_at_call 7; refine (LU.out w1 hb1).mono ?_; rintro e w2 ⟨v2, rfl, ho2, hb2'⟩; have hb2 := chainS hb1 hb2')
      | (go_at_call 6; refine (OF.out _).mono ?_; rintro e w1 ⟨rfl, hb1q⟩; have hb1 := hb1q.mono (show w.heap.size + 1 ≤ _ by simp)))
  go_ret
  exact ⟨rfl, chainE hb6⟩

set_option maxRecDepth 20000 in
set_option maxHeartbeats 4000000 in
theorem CosetsL_yes (K n : Nat) (vu : Value) (xs : List Int) (M : Nat) (w : World) (hv : validB K n = true) (hx : Ints w vu xs) (q1 : wordB (mirs K n) xs = true) (hM : M < 2 ^ mirs K n) (htab : Tab w) :
    Calls Tryd.prog 3 #[.agg #[.int .u8 (K : Nat), .int .i64 (n : Nat)], vu, .int .i64 (M : Nat)] w (TrueM w) := by
  have hK := K_lt hv
  have hok : okI K (n : Int) [xs] = true := by rw [okI_cast hv]; simp [q1]
  have FN := Lib.hid (fun w' v' (ha : Args w' v' [xs]) => by have := fine_any K (n : Int) v' [xs] w' hK ha; rw [hok] at this; exact this)
  have OF := Lib.hid (fun w' => Of_any K (n : Int) w')
  have n1 := word_nat q1
  have LU := Lib.hid (fun w' (hb : Below (w.heap.size + 1) (w.alloc (.cells #[.int .u8 (K : Nat), .int .i64 (n : Nat)] 23)) w') => by have := list_any vu xs w' (intsS hx hb); rw [List.take_of_length_le (by omega)] at this; exact this)
  have hlu := word_len q1
  have hm4 := mirs_le hv
  have MR := Lib.hid (fun w' => RMirrors_any K n w' hv)
  have AW := Lib.hid (fun w' => awake_any w')
  have HU := Lib.hid (fun w' (hb : Below (w.heap.size + 1) (w.alloc (.cells #[.int .u8 (K : Nat), .int .i64 (n : Nat)] 23)) w') => intsS hx hb)
  have hM16 : M < 16 := Nat.lt_of_lt_of_le hM (pow_le16 hm4)
  have CO := Lib.hid (fun v' w' (hi : Ints w' v' xs) (ht : Tab w') => Coset_yes K n v' xs M w' hv hi q1 hM ht)
  have HTB := Lib.hid (fun w' (hb : Below (w.heap.size + 1) (w.alloc (.cells #[.int .u8 (K : Nat), .int .i64 (n : Nat)] 23)) w') => htab.below (chainE hb))
  have EL := Lib.hid (fun w' => Elements_any K n w' hv)
  have HPOS := Lib.hid (tkG hv).pos
  have RN := Lib.hid (fun w' v' (ht : RT (wordsG K n) (nextG K n) w' v') (hi : Ints w' vu xs) => show Calls Tryd.prog 14 #[v', .int .i64 ((0 : Nat) : Int), vu] w' fun e w'' => e = .returned (.int .i64 ((ix K n xs : Nat) : Int)) ∧ Below w'.heap.size w' w'' from RNumber_any v' 0 vu (natW xs) w' ht (tkG hv) (by rw [n1.1]; exact hi) (tkG hv).pos n1.2.1)
  have RC := Lib.hid (fun w' v' (ht : RT (wordsG K n) (nextG K n) w' v') => RCoset_any v' (ix K n xs) M w' ht (tkG hv) (ix_lt hv q1) hM16 (mirs_pos hv))
  have HCL := Lib.hid (show cosX (wordsG K n) (nextG K n) (mirs K n) M 12 (ix K n xs) < (wordsG K n).length from cos_lt (tkG hv) M 12 _ (ix_lt hv q1))
  have HCE : cosG K n M (ix K n xs) = cosX (wordsG K n) (nextG K n) (mirs K n) M 12 (ix K n xs) := rfl
  rw [HCE] at CO
  obtain ⟨C, hC⟩ : ∃ C, cosX (wordsG K n) (nextG K n) (mirs K n) M 12 (ix K n xs) = C := ⟨_, rfl⟩
  rw [hC] at CO RC HCL
  have HLC := Lib.hid (word_len ((tabW hv).wd C HCL.out))
  have hCi : (C : Int) < ((wordsG K n).length : Int) := by have := HCL.out; omega
  obtain ⟨m, hm⟩ : ∃ m, mirs K n = m := ⟨_, rfl⟩
  rw [hm] at MR hM hm4
  have d0 : decide ((M : Int) < 0) = false := by simp
  have hMi : ¬ (2 : Int) ^ m ≤ (M : Int) := by rw [pow_castM]; omega
  have d1 : decide ((2 : Int) ^ m ≤ (M : Int)) = false := by simpa using hMi
  have p1 := pow_inM m (by omega)
  have p2 := pow_inM64 m (by omega)
  obtain ⟨iu, hiu⟩ : ∃ iu, ix K n xs = iu := ⟨_, rfl⟩
  rw [hiu] at RN RC
  clear hm hM hM16 htab hC HCE hiu
  obtain ⟨a, c, rfl, hx1⟩ := hx
  unfold grpI at *
  clear hx1 hok hK n1 q1 hv
  go_enter Tryd.func3, Tryd.ntmps3
  go_upto_region 5 with (first
      | ((with_reducible refine is_store 36 ?_); refine wpl_store_rt (by rfl) _ _ (by rfl) w6.heap.size (.slice (some ⟨gW, 0, none⟩) (wordsG K n).length cW) (.slice aP lP cP) (.slice aX lX cX) [.slice none 0 0, .slice none 0 0, .slice none 0 0] rfl (by rfl) (by rfl) (by rfl) (by rfl) (by rfl) (Held.made (by simp)) ?_; intro w7 hT7 hsm7 hsz7; have hb7' : Below w6.heap.size w6 w7 := hsm7.below ((Below.refl _ _).alloc (Nat.le_refl _) _) (Nat.le_refl _) (by simp); have hb7 := chainS hb6 hb7'; clear hsm7 hsz7)
      | (go_at_call 11; refine (EL.out w5).mono ?_; rintro e w6 ⟨v6, rfl, hrt6, hb6'⟩; have hb6 := chainS hb5 hb6'; have hr6 := hrt6.rt; clear hrt6; obtain ⟨gW, cW, aP, lP, cP, aX, lX, cX, rfl⟩ := RT.made hr6 HPOS.out)
      | (go_at_call 9; refine (MR.out w4).mono ?_; rintro e w5 ⟨rfl, hb5'⟩; have hb5 := chainS hb4 hb5'; have g50 := (heldS hb5).at (i := 0) rfl; have g51 := (heldS hb5).at (i := 1) rfl)
      | (go_at_call 8; refine (FN.out _ _ (args1 (HU.out w3 hb3) _ rfl)).mono ?_; rintro e w4 ⟨rfl, hb4q⟩; have hb4' := below_al (Nat.le_refl _) hb4q; have hb4 := chainS hb3 hb4'; have g40 := (heldS hb4).at (i := 0) rfl; have g41 := (heldS hb4).at (i := 1) rfl)
      | (go_at_call 5; refine (CO.out v2 w2 (ho2.ints hlu) (HTB.out w2 hb2)).mono ?_; rintro e w3 ⟨v3, rfl, ho3, hb3'⟩; have hb3 := chainS hb2 hb3'; have g30 := (heldS hb3).at (i := 0) rfl; have g31 := (heldS hb3).at (i := 1) rfl; obtain ⟨a3, c3, rfl⟩ := own_lenX ho3)
      | (go_at_call 7; refine (LU.out w1 hb1).mono ?_; rintro e w2 ⟨v2, rfl, ho2, hb2'⟩; have hb2 := chainS hb1 hb2')
      | (go_at_call 6; refine (OF.out _).mono ?_; rintro e w1 ⟨rfl, hb1q⟩; have hb1 := hb1q.mono (show w.heap.size + 1 ≤ _ by simp)))
  have s0 := hT7.at (i := 0) rfl
  have s1 := hT7.at (i := 1) rfl
  have s2 := hT7.at (i := 2) rfl
  have HR7 := Lib.hid (hr6.below hb7')
  have HT7 := Lib.hid hT7
  have HB7 := Lib.hid hb7
  have HO3 := Lib.hid ((((ho3.below hb4').below hb5').below hb6').below hb7')
  clear hb2' hb3' hb4' hb5' hb6' hb7' hb1 hb2 hb3 hb4 hb5 hb6 hb7 hr6 hT7 ho2 ho3 hb1q hb4q g30 g31 g40 g41 g50 g51 d0 d1 hMi p1 p2
  go_region_with (first
    | (go_at_call 10; refine (AW.out _).mono ?_; rintro e wD ⟨rfl, hbD'⟩; have hbD := chainT hbC hbD')
    | (go_at_call 12; refine (EqualM_any _ _ _ _ wB ((HO3.out.below hbB).ints HLC.out) hinB true (by simp)).mono ?_; rintro e wC ⟨rfl, hbC'⟩; have hbC := chainT hbB hbC')
    | (go_at_call 13; refine (RC.out _ _ (HR7.out.below hbA)).mono ?_; rintro e wB ⟨rfl, hbB'⟩; have hbB := chainT hbA hbB'; have b0 := (HT7.out.bel hbB).at (i := 0) rfl; obtain ⟨rb, rcB, hgcB, hinB⟩ := rows_at (HR7.out.below hbB) HCL.out)
    | (go_at_call 14; refine (RN.out _ _ (by first | exact HR7.out | exact HR7.out.below ((Below.refl _ _).drew)) (HU.out _ (by first | exact HB7.out | exact HB7.out.drew))).mono ?_; rintro e wA ⟨rfl, hbA'⟩; have hbA : Below w7.heap.size w7 wA := (by first | exact hbA' | exact ((Below.refl _ _).drew).trans hbA'); have a0 := (HT7.out.bel hbA).at (i := 0) rfl; have a1 := (HT7.out.bel hbA).at (i := 1) rfl; have a2 := (HT7.out.bel hbA).at (i := 2) rfl))
  all_goals
    go_wp2_with fail
    go_ret
    exact ⟨rfl, chainE (chainS HB7.out hbD)⟩

theorem mirrorCosets_true (K : Nat) (n : Int) (vu : Value) (xs : List Int) (M : Int) (w : World) (hK : K < 256) (hx : Ints w vu xs) (_ : -9223372036854775808 ≤ M ∧ M ≤ 9223372036854775807) (ht : Tab w) :
    Calls Tryd.prog 3 #[grpI K n, vu, .int .i64 M] w (TrueM w) := by
  cases hok : okI K n [xs] with
  | false => exact CosetsL_no K n vu xs M w hK hx hok
  | true =>
    obtain ⟨m, rfl, hv, hall⟩ := okI_nat hok
    simp only [List.all_cons, List.all_nil, Bool.and_true] at hall
    unfold grpI
    by_cases h0 : M < 0
    · exact CosetsL_neg K m vu xs M w hv hx hall h0
    · by_cases h1 : (2 : Int) ^ mirs K m ≤ M
      · exact CosetsL_big K m vu xs M w hv hx hall h0 h1
      · obtain ⟨t, rfl⟩ := Int.eq_ofNat_of_zero_le (Int.not_lt.1 h0)
        have h2 : t < 2 ^ mirs K m := by
          rw [pow_castM] at h1
          omega
        exact CosetsL_yes K m vu xs t w hv hx hall h2 ht
end Go.Proofs.YtmlhecfhhhebnaaDoor
