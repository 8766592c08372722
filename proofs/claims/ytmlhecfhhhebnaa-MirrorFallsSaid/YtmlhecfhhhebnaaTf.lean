/- MirrorFalls: the walks. -/
import Derived.Test.YtmlhecfhhhebnaaRe
import Derived.Test.YtmlhecfhhhebnaaEm
namespace Go.Proofs.Ytmlhecfhhhebnaa
open Go.RowKit
attribute [local go_sem] Oper.semAt_some

theorem Held.bel {w w' : World} {g : Nat} {t : TypeId} {l : List Value} (h : Held w g t l) (hb : Below w.heap.size w w') : Held w' g t l := h.below hb h.lt
theorem falls_bit (W X : List (List Nat)) (u s : Nat) : ∀ k, s < k → (fallsTo W X u k).testBit s = fallB W X u s
  | 0, h => by omega
  | k + 1, h => by
    have hlt := fallsTo_lt W X u k
    rw [fallsTo]
    by_cases e : s = k
    · subst e
      have h0 : (fallsTo W X u s).testBit s = false := Nat.testBit_lt_two_pow hlt
      cases hf : fallB W X u s with
      | true => rw [if_pos rfl, Nat.testBit_or, h0, Nat.testBit_two_pow_self]; rfl
      | false => rw [if_neg (by decide), h0]
    · have ih := falls_bit W X u s k (by omega)
      split
      · rw [Nat.testBit_or, ih, Nat.testBit_two_pow]
        have : ¬ k = s := fun h => e h.symm
        simp [this]
      · exact ih
def ckLen (m : Nat) (W X : List (List Nat)) : Bool := lenX W 0 == 0 && (List.range W.length).all fun i => (List.range m).all fun s => decide (lenX W (stepX X i s) ≤ lenX W i + 1)
theorem ckLen_all : (allGroups.all fun g => ckLen (mirs g.1 g.2) (litW g.1 g.2) (litX g.1 g.2)) = true := by decide +kernel
theorem ckLenG {K n : Nat} (hv : validB K n = true) : ckLen (mirs K n) (wordsG K n) (nextG K n) = true := by
  obtain ⟨e1, e2⟩ := lit_of hv
  rw [e1, e2]
  exact List.all_eq_true.1 ckLen_all _ (valid_in hv)
theorem len_walk {K n : Nat} (hv : validB K n = true) : ∀ (ws : List Nat) (u : Nat), u < (wordsG K n).length → (∀ s ∈ ws, s < mirs K n) → lenX (wordsG K n) (walkX (nextG K n) u ws) ≤ lenX (wordsG K n) u + ws.length
  | [], u, _, _ => by simp [walkX]
  | s :: ws, u, hu, hs => by
    have hc := ckLenG hv
    unfold ckLen at hc
    simp only [Bool.and_eq_true, List.all_eq_true, List.mem_range, decide_eq_true_eq] at hc
    have h1 := hc.2 u hu s (hs s List.mem_cons_self)
    have h2 := len_walk hv ws (stepX (nextG K n) u s) ((tkG hv).step hu (hs s List.mem_cons_self)) (fun x hx => hs x (List.mem_cons_of_mem _ hx))
    rw [walk_cons, List.length_cons]
    omega
theorem leave_same {K n : Nat} (hv : validB K n = true) (ws : List Nat) (hw : ∀ s ∈ ws, s < mirs K n) (s : Nat) (hs : s < mirs K n) (hl : lenX (wordsG K n) (walkX (nextG K n) 0 ws) = ws.length) :
    (if (fallsTo (wordsG K n) (nextG K n) (walkX (nextG K n) 0 ws) (mirs K n)).testBit s = true then leaveAt (nextG K n) ws (stepX (nextG K n) (walkX (nextG K n) 0 ws) s) else none) = leaveAt (nextG K n) ws (stepX (nextG K n) (walkX (nextG K n) 0 ws) s) := by
  split
  · rfl
  · rename_i hb
    rw [falls_bit _ _ _ _ _ hs] at hb
    have hge : ws.length ≤ lenX (wordsG K n) (stepX (nextG K n) (walkX (nextG K n) 0 ws) s) := by
      unfold fallB at hb
      simp only [decide_eq_true_eq] at hb
      omega
    refine (leave_none fun j hj he => ?_).symm
    have h0 : lenX (wordsG K n) 0 = 0 := by
      have hc := ckLenG hv
      unfold ckLen at hc
      simp only [Bool.and_eq_true, beq_iff_eq] at hc
      exact hc.1
    have h1 := len_walk hv (ws.take j) 0 (tkG hv).pos (fun x hx => hw x (List.mem_of_mem_take hx))
    have h2 := len_walk hv (ws.drop (j + 1)) _ ((tkG hv).walk (ws.take j) 0 (tkG hv).pos (fun x hx => hw x (List.mem_of_mem_take hx))) (fun x hx => hw x (List.mem_of_mem_drop hx))
    unfold delX at he
    rw [he] at h2
    rw [List.length_take] at h1
    rw [List.length_drop] at h2
    omega

set_option maxRecDepth 20000 in
set_option maxHeartbeats 4000000 in
theorem FallsL_no (K : Nat) (n : Int) (vu : Value) (xs : List Int) (s : Int) (w : World) (hK : K < 256) (hx : Ints w vu xs) (h : okI K n [xs] = false) :
    Calls Try.prog 4 #[grpI K n, vu, .int .i64 s] w (TrueM w) := by
  have FN := Lib.hid (fun w' v' (ha : Args w' v' [xs]) => by have := fine_any K n v' [xs] w' hK ha; rw [h] at this; exact this)
  have AW := Lib.hid (fun w' => awake_any w')
  have OF := Lib.hid (fun w' => Of_any K n w')
  have LU := Lib.hid (fun w' (hb : Below (w.heap.size + 1) (w.alloc (.cells #[.int .u8 (K : Nat), .int .i64 n] 23)) w') => list_any vu xs w' (intsS hx hb))
  have HU := Lib.hid (fun w' (hb : Below (w.heap.size + 1) (w.alloc (.cells #[.int .u8 (K : Nat), .int .i64 n] 23)) w') => intsS hx hb)
  have FA := Lib.hid (fun v' w' (hi : Ints w' v' (xs.take 34)) => Falls_no K n v' _ w' hK hi (by rw [okI_take1]; exact h))
  have LE := Lib.hid (fun v' w' (hi : Ints w' v' (xs.take 34)) => Leave_no K n v' _ s w' hK hi (by rw [okI_take1]; exact h))
  have hlu : (xs.take 34).length ≤ 17592186044416 := by rw [List.length_take]; omega
  obtain ⟨a, c, rfl, hx1⟩ := hx
  unfold grpI at *
  clear hx1 h
  go_enter Try.func4, Try.ntmps4
  go_wp2_with (first
      | (go_at_call 20; refine (AW.out _).mono ?_; rintro e w8 ⟨rfl, hb8'⟩; have hb8 := chainS hb7 hb8')
      | (go_at_call 19; refine (FN.out _ _ (args1 (HU.out w6 hb6) _ rfl)).mono ?_; rintro e w7 ⟨rfl, hb7q⟩; have hb7' := below_al (Nat.le_refl _) hb7q; have hb7 := chainS hb6 hb7'; have g70 := (heldS hb7).at (i := 0) rfl; have g71 := (heldS hb7).at (i := 1) rfl)
      | (go_at_call 27; refine (LE.out v5 w5 (ho5.ints hlu)).mono ?_; rintro e w6 ⟨rfl, hb6'⟩; have hb6 := chainS hb5 hb6'; have g60 := (heldS hb6).at (i := 0) rfl; have g61 := (heldS hb6).at (i := 1) rfl)
      | (go_at_call 17; refine (LU.out w4 hb4).mono ?_; rintro e w5 ⟨v5, rfl, ho5, hb5'⟩; have hb5 := chainS hb4 hb5')
      | (go_at_call 16; refine (OF.out _).mono ?_; rintro e w4 ⟨rfl, hb4'⟩; have hb4 := chainS hb3 hb4')
      | (go_at_call 26; refine (FA.out v2 w2 (ho2.ints hlu)).mono ?_; rintro e w3 ⟨rfl, hb3'⟩; have hb3 := chainS hb2 hb3'; have g30 := (heldS hb3).at (i := 0) rfl; have g31 := (heldS hb3).at (i := 1) rfl)
      | (go_at_call 17; refine (LU.out w1 hb1).mono ?_; rintro e w2 ⟨v2, rfl, ho2, hb2'⟩; have hb2 := chainS hb1 hb2')
      | (go_at_call 16; refine (OF.out _).mono ?_; rintro e w1 ⟨rfl, hb1q⟩; have hb1 := hb1q.mono (show w.heap.size + 1 ≤ _ by simp)))
  go_ret
  exact ⟨rfl, chainE hb8⟩

set_option maxRecDepth 20000 in
set_option maxHeartbeats 8000000 in
theorem FallsL_len (K n : Nat) (vu : Value) (xs : List Int) (s : Int) (w : World) (hv : validB K n = true) (hx : Ints w vu xs) (q1 : wordB (mirs K n) xs = true) (hc : lenX (wordsG K n) (ix K n xs) ≠ xs.length) :
    Calls Try.prog 4 #[.agg #[.int .u8 (K : Nat), .int .i64 (n : Nat)], vu, .int .i64 s] w (TrueM w) := by
  have hK := K_lt hv
  have hok : okI K (n : Int) [xs] = true := by rw [okI_cast hv]; simp [q1]
  have FN := Lib.hid (fun w' v' (ha : Args w' v' [xs]) => by have := fine_any K (n : Int) v' [xs] w' hK ha; rw [hok] at this; exact this)
  have AW := Lib.hid (fun w' => awake_any w')
  have OF := Lib.hid (fun w' => Of_any K (n : Int) w')
  have EL := Lib.hid (fun w' => Elements_any K n w' hv)
  have HPOS := Lib.hid (tkG hv).pos
  have n1 := word_nat q1
  have hnl := natW_length xs
  have LU := Lib.hid (fun w' (hb : Below (w.heap.size + 1) (w.alloc (.cells #[.int .u8 (K : Nat), .int .i64 (n : Nat)] 23)) w') => by have := list_any vu xs w' (intsS hx hb); rw [List.take_of_length_le (by omega)] at this; exact this)
  have HU := Lib.hid (fun w' (hb : Below (w.heap.size + 1) (w.alloc (.cells #[.int .u8 (K : Nat), .int .i64 (n : Nat)] 23)) w') => intsS hx hb)
  have hlu := word_len q1
  have hm4 := mirs_le hv
  have FA := Lib.hid (fun v' w' (hi : Ints w' v' xs) => Falls_yes K n v' xs w' hv hi q1)
  have RN := Lib.hid (fun w' v' (ht : RT (wordsG K n) (nextG K n) w' v') (hi : Ints w' vu xs) => show Calls Try.prog 22 #[v', .int .i64 ((0 : Nat) : Int), vu] w' fun e w'' => e = .returned (.int .i64 ((ix K n xs : Nat) : Int)) ∧ Below w'.heap.size w' w'' from RNumber_any v' 0 vu (natW xs) w' ht (tkG hv) (by rw [n1.1]; exact hi) (tkG hv).pos n1.2.1)
  have RF := Lib.hid (fun w' v' (ht : RT (wordsG K n) (nextG K n) w' v') => RFalls_any v' (ix K n xs) w' ht (tkG hv) (ix_lt hv q1))
  have RL := Lib.hid (fun w' v' (ht : RT (wordsG K n) (nextG K n) w' v') => RLength_any v' (ix K n xs) w' ht (tkG hv) (ix_lt hv q1))
  have MR := Lib.hid (fun w' => RMirrors_any K n w' hv)
  have LE := Lib.hid (fun v' w' (hi : Ints w' v' xs) => Leave_bad K n v' xs s w' hv hi q1 (.inr (.inr hc)))
  obtain ⟨FV, hFV⟩ : ∃ FV, fallsTo (wordsG K n) (nextG K n) (ix K n xs) (mirs K n) = FV := ⟨_, rfl⟩
  rw [hFV] at FA RF
  obtain ⟨lx, hlx⟩ : ∃ lx, lenX (wordsG K n) (ix K n xs) = lx := ⟨_, rfl⟩
  rw [hlx] at RL hc
  have d2 : ((lx : Int) != (xs.length : Int)) = true := by simp; omega
  clear hc
  obtain ⟨a, c, rfl, hx1⟩ := hx
  obtain ⟨iu, hiu⟩ : ∃ iu, ix K n xs = iu := ⟨_, rfl⟩
  rw [hiu] at *
  unfold grpI at *
  clear hx1 hok hK n1 q1 hv hnl hFV hlx
  go_enter Try.func4, Try.ntmps4
  go_wp2_with (first
      | (go_at_call 29; refine (RL.out w12 _ ((((hr8.below hb9').below hb10').below hb11').below hb12')).mono ?_; rintro e w13 ⟨rfl, hb13'⟩; have hb13 := chainS hb12 hb13'; have g130 := (heldS hb13).at (i := 0) rfl; have g131 := (heldS hb13).at (i := 1) rfl; have t130 := ((((hT9.bel hb10').bel hb11').bel hb12').bel hb13').at (i := 0) rfl; have t131 := ((((hT9.bel hb10').bel hb11').bel hb12').bel hb13').at (i := 1) rfl; have t132 := ((((hT9.bel hb10').bel hb11').bel hb12').bel hb13').at (i := 2) rfl)
      | (go_at_call 20; refine (AW.out _).mono ?_; rintro e w12 ⟨rfl, hb12'⟩; have hb12 := chainS hb11 hb12'; have t120 := (((hT9.bel hb10').bel hb11').bel hb12').at (i := 0) rfl; have t121 := (((hT9.bel hb10').bel hb11').bel hb12').at (i := 1) rfl; have t122 := (((hT9.bel hb10').bel hb11').bel hb12').at (i := 2) rfl)
      | (go_at_call 28; refine (RF.out w10 _ ((hr8.below hb9').below hb10')).mono ?_; rintro e w11 ⟨rfl, hb11'⟩; have hb11 := chainS hb10 hb11')
      | (go_at_call 22; refine (RN.out w9 _ (hr8.below hb9') (HU.out w9 hb9)).mono ?_; rintro e w10 ⟨rfl, hb10'⟩; have hb10 := chainS hb9 hb10'; have t100 := (hT9.bel hb10').at (i := 0) rfl; have t101 := (hT9.bel hb10').at (i := 1) rfl; have t102 := (hT9.bel hb10').at (i := 2) rfl)
      | ((with_reducible refine is_store 36 ?_); refine wpl_store_rt (by rfl) _ _ (by rfl) w8.heap.size (.slice (some ⟨gW, 0, none⟩) (wordsG K n).length cW) (.slice aP lP cP) (.slice aX lX cX) [.slice none 0 0, .slice none 0 0, .slice none 0 0] rfl (by rfl) (by rfl) (by rfl) (by rfl) (by rfl) (Held.made (by simp)) ?_; intro w9 hT9 hsm9 hsz9; have hb9' : Below w8.heap.size w8 w9 := hsm9.below ((Below.refl _ _).alloc (Nat.le_refl _) _) (Nat.le_refl _) (by simp); have hb9 := chainS hb8 hb9'; have t0 := hT9.at (i := 0) rfl; have t1 := hT9.at (i := 1) rfl; have t2 := hT9.at (i := 2) rfl; clear hsm9 hsz9)
      | (go_at_call 21; refine (EL.out w7).mono ?_; rintro e w8 ⟨v8, rfl, hrt8, hb8'⟩; have hb8 := chainS hb7 hb8'; have hr8 := hrt8.rt; clear hrt8; obtain ⟨gW, cW, aP, lP, cP, aX, lX, cX, rfl⟩ := RT.made hr8 HPOS.out)
      | (go_at_call 19; refine (FN.out _ _ (args1 (HU.out w6 hb6) _ rfl)).mono ?_; rintro e w7 ⟨rfl, hb7q⟩; have hb7' := below_al (Nat.le_refl _) hb7q; have hb7 := chainS hb6 hb7'; have g70 := (heldS hb7).at (i := 0) rfl; have g71 := (heldS hb7).at (i := 1) rfl)
      | (go_at_call 27; refine (LE.out v5 w5 (ho5.ints hlu)).mono ?_; rintro e w6 ⟨rfl, hb6'⟩; have hb6 := chainS hb5 hb6'; have g60 := (heldS hb6).at (i := 0) rfl; have g61 := (heldS hb6).at (i := 1) rfl)
      | (go_at_call 17; refine (LU.out w4 hb4).mono ?_; rintro e w5 ⟨v5, rfl, ho5, hb5'⟩; have hb5 := chainS hb4 hb5')
      | (go_at_call 16; refine (OF.out _).mono ?_; rintro e w4 ⟨rfl, hb4'⟩; have hb4 := chainS hb3 hb4')
      | (go_at_call 26; refine (FA.out v2 w2 (ho2.ints hlu)).mono ?_; rintro e w3 ⟨rfl, hb3'⟩; have hb3 := chainS hb2 hb3'; have g30 := (heldS hb3).at (i := 0) rfl; have g31 := (heldS hb3).at (i := 1) rfl)
      | (go_at_call 17; refine (LU.out w1 hb1).mono ?_; rintro e w2 ⟨v2, rfl, ho2, hb2'⟩; have hb2 := chainS hb1 hb2')
      | (go_at_call 16; refine (OF.out _).mono ?_; rintro e w1 ⟨rfl, hb1q⟩; have hb1 := hb1q.mono (show w.heap.size + 1 ≤ _ by simp)))
  go_ret
  exact ⟨rfl, chainE hb13⟩

set_option maxRecDepth 20000 in
set_option maxHeartbeats 8000000 in
theorem FallsL_neg (K n : Nat) (vu : Value) (xs : List Int) (s : Int) (w : World) (hv : validB K n = true) (hx : Ints w vu xs) (q1 : wordB (mirs K n) xs = true) (hl : lenX (wordsG K n) (ix K n xs) = xs.length) (hc : s < 0) :
    Calls Try.prog 4 #[.agg #[.int .u8 (K : Nat), .int .i64 (n : Nat)], vu, .int .i64 s] w (TrueM w) := by
  have hK := K_lt hv
  have hok : okI K (n : Int) [xs] = true := by rw [okI_cast hv]; simp [q1]
  have FN := Lib.hid (fun w' v' (ha : Args w' v' [xs]) => by have := fine_any K (n : Int) v' [xs] w' hK ha; rw [hok] at this; exact this)
  have AW := Lib.hid (fun w' => awake_any w')
  have OF := Lib.hid (fun w' => Of_any K (n : Int) w')
  have EL := Lib.hid (fun w' => Elements_any K n w' hv)
  have HPOS := Lib.hid (tkG hv).pos
  have n1 := word_nat q1
  have hnl := natW_length xs
  have LU := Lib.hid (fun w' (hb : Below (w.heap.size + 1) (w.alloc (.cells #[.int .u8 (K : Nat), .int .i64 (n : Nat)] 23)) w') => by have := list_any vu xs w' (intsS hx hb); rw [List.take_of_length_le (by omega)] at this; exact this)
  have HU := Lib.hid (fun w' (hb : Below (w.heap.size + 1) (w.alloc (.cells #[.int .u8 (K : Nat), .int .i64 (n : Nat)] 23)) w') => intsS hx hb)
  have hlu := word_len q1
  have hm4 := mirs_le hv
  have FA := Lib.hid (fun v' w' (hi : Ints w' v' xs) => Falls_yes K n v' xs w' hv hi q1)
  have RN := Lib.hid (fun w' v' (ht : RT (wordsG K n) (nextG K n) w' v') (hi : Ints w' vu xs) => show Calls Try.prog 22 #[v', .int .i64 ((0 : Nat) : Int), vu] w' fun e w'' => e = .returned (.int .i64 ((ix K n xs : Nat) : Int)) ∧ Below w'.heap.size w' w'' from RNumber_any v' 0 vu (natW xs) w' ht (tkG hv) (by rw [n1.1]; exact hi) (tkG hv).pos n1.2.1)
  have RF := Lib.hid (fun w' v' (ht : RT (wordsG K n) (nextG K n) w' v') => RFalls_any v' (ix K n xs) w' ht (tkG hv) (ix_lt hv q1))
  have RL := Lib.hid (fun w' v' (ht : RT (wordsG K n) (nextG K n) w' v') => RLength_any v' (ix K n xs) w' ht (tkG hv) (ix_lt hv q1))
  have MR := Lib.hid (fun w' => RMirrors_any K n w' hv)
  have LE := Lib.hid (fun v' w' (hi : Ints w' v' xs) => Leave_bad K n v' xs s w' hv hi q1 (.inl hc))
  obtain ⟨FV, hFV⟩ : ∃ FV, fallsTo (wordsG K n) (nextG K n) (ix K n xs) (mirs K n) = FV := ⟨_, rfl⟩
  rw [hFV] at FA RF
  obtain ⟨lx, hlx⟩ : ∃ lx, lenX (wordsG K n) (ix K n xs) = lx := ⟨_, rfl⟩
  rw [hl] at RL
  have d0 : decide (s < 0) = true := by simpa using hc
  clear hc hl
  obtain ⟨a, c, rfl, hx1⟩ := hx
  obtain ⟨iu, hiu⟩ : ∃ iu, ix K n xs = iu := ⟨_, rfl⟩
  rw [hiu] at *
  unfold grpI at *
  clear hx1 hok hK n1 q1 hv hnl hFV hlx
  go_enter Try.func4, Try.ntmps4
  go_wp2_with (first
      | (go_at_call 29; refine (RL.out w12 _ ((((hr8.below hb9').below hb10').below hb11').below hb12')).mono ?_; rintro e w13 ⟨rfl, hb13'⟩; have hb13 := chainS hb12 hb13'; have g130 := (heldS hb13).at (i := 0) rfl; have g131 := (heldS hb13).at (i := 1) rfl; have t130 := ((((hT9.bel hb10').bel hb11').bel hb12').bel hb13').at (i := 0) rfl; have t131 := ((((hT9.bel hb10').bel hb11').bel hb12').bel hb13').at (i := 1) rfl; have t132 := ((((hT9.bel hb10').bel hb11').bel hb12').bel hb13').at (i := 2) rfl)
      | (go_at_call 20; refine (AW.out _).mono ?_; rintro e w12 ⟨rfl, hb12'⟩; have hb12 := chainS hb11 hb12'; have t120 := (((hT9.bel hb10').bel hb11').bel hb12').at (i := 0) rfl; have t121 := (((hT9.bel hb10').bel hb11').bel hb12').at (i := 1) rfl; have t122 := (((hT9.bel hb10').bel hb11').bel hb12').at (i := 2) rfl)
      | (go_at_call 28; refine (RF.out w10 _ ((hr8.below hb9').below hb10')).mono ?_; rintro e w11 ⟨rfl, hb11'⟩; have hb11 := chainS hb10 hb11')
      | (go_at_call 22; refine (RN.out w9 _ (hr8.below hb9') (HU.out w9 hb9)).mono ?_; rintro e w10 ⟨rfl, hb10'⟩; have hb10 := chainS hb9 hb10'; have t100 := (hT9.bel hb10').at (i := 0) rfl; have t101 := (hT9.bel hb10').at (i := 1) rfl; have t102 := (hT9.bel hb10').at (i := 2) rfl)
      | ((with_reducible refine is_store 36 ?_); refine wpl_store_rt (by rfl) _ _ (by rfl) w8.heap.size (.slice (some ⟨gW, 0, none⟩) (wordsG K n).length cW) (.slice aP lP cP) (.slice aX lX cX) [.slice none 0 0, .slice none 0 0, .slice none 0 0] rfl (by rfl) (by rfl) (by rfl) (by rfl) (by rfl) (Held.made (by simp)) ?_; intro w9 hT9 hsm9 hsz9; have hb9' : Below w8.heap.size w8 w9 := hsm9.below ((Below.refl _ _).alloc (Nat.le_refl _) _) (Nat.le_refl _) (by simp); have hb9 := chainS hb8 hb9'; have t0 := hT9.at (i := 0) rfl; have t1 := hT9.at (i := 1) rfl; have t2 := hT9.at (i := 2) rfl; clear hsm9 hsz9)
      | (go_at_call 21; refine (EL.out w7).mono ?_; rintro e w8 ⟨v8, rfl, hrt8, hb8'⟩; have hb8 := chainS hb7 hb8'; have hr8 := hrt8.rt; clear hrt8; obtain ⟨gW, cW, aP, lP, cP, aX, lX, cX, rfl⟩ := RT.made hr8 HPOS.out)
      | (go_at_call 19; refine (FN.out _ _ (args1 (HU.out w6 hb6) _ rfl)).mono ?_; rintro e w7 ⟨rfl, hb7q⟩; have hb7' := below_al (Nat.le_refl _) hb7q; have hb7 := chainS hb6 hb7'; have g70 := (heldS hb7).at (i := 0) rfl; have g71 := (heldS hb7).at (i := 1) rfl)
      | (go_at_call 27; refine (LE.out v5 w5 (ho5.ints hlu)).mono ?_; rintro e w6 ⟨rfl, hb6'⟩; have hb6 := chainS hb5 hb6'; have g60 := (heldS hb6).at (i := 0) rfl; have g61 := (heldS hb6).at (i := 1) rfl)
      | (go_at_call 17; refine (LU.out w4 hb4).mono ?_; rintro e w5 ⟨v5, rfl, ho5, hb5'⟩; have hb5 := chainS hb4 hb5')
      | (go_at_call 16; refine (OF.out _).mono ?_; rintro e w4 ⟨rfl, hb4'⟩; have hb4 := chainS hb3 hb4')
      | (go_at_call 26; refine (FA.out v2 w2 (ho2.ints hlu)).mono ?_; rintro e w3 ⟨rfl, hb3'⟩; have hb3 := chainS hb2 hb3'; have g30 := (heldS hb3).at (i := 0) rfl; have g31 := (heldS hb3).at (i := 1) rfl)
      | (go_at_call 17; refine (LU.out w1 hb1).mono ?_; rintro e w2 ⟨v2, rfl, ho2, hb2'⟩; have hb2 := chainS hb1 hb2')
      | (go_at_call 16; refine (OF.out _).mono ?_; rintro e w1 ⟨rfl, hb1q⟩; have hb1 := hb1q.mono (show w.heap.size + 1 ≤ _ by simp)))
  go_ret
  exact ⟨rfl, chainE hb13⟩

set_option maxRecDepth 20000 in
set_option maxHeartbeats 8000000 in
theorem FallsL_big (K n : Nat) (vu : Value) (xs : List Int) (s : Int) (w : World) (hv : validB K n = true) (hx : Ints w vu xs) (q1 : wordB (mirs K n) xs = true) (hl : lenX (wordsG K n) (ix K n xs) = xs.length) (hc0 : ¬ s < 0) (hc : (mirs K n : Int) ≤ s) :
    Calls Try.prog 4 #[.agg #[.int .u8 (K : Nat), .int .i64 (n : Nat)], vu, .int .i64 s] w (TrueM w) := by
  have hK := K_lt hv
  have hok : okI K (n : Int) [xs] = true := by rw [okI_cast hv]; simp [q1]
  have FN := Lib.hid (fun w' v' (ha : Args w' v' [xs]) => by have := fine_any K (n : Int) v' [xs] w' hK ha; rw [hok] at this; exact this)
  have AW := Lib.hid (fun w' => awake_any w')
  have OF := Lib.hid (fun w' => Of_any K (n : Int) w')
  have EL := Lib.hid (fun w' => Elements_any K n w' hv)
  have HPOS := Lib.hid (tkG hv).pos
  have n1 := word_nat q1
  have hnl := natW_length xs
  have LU := Lib.hid (fun w' (hb : Below (w.heap.size + 1) (w.alloc (.cells #[.int .u8 (K : Nat), .int .i64 (n : Nat)] 23)) w') => by have := list_any vu xs w' (intsS hx hb); rw [List.take_of_length_le (by omega)] at this; exact this)
  have HU := Lib.hid (fun w' (hb : Below (w.heap.size + 1) (w.alloc (.cells #[.int .u8 (K : Nat), .int .i64 (n : Nat)] 23)) w') => intsS hx hb)
  have hlu := word_len q1
  have hm4 := mirs_le hv
  have FA := Lib.hid (fun v' w' (hi : Ints w' v' xs) => Falls_yes K n v' xs w' hv hi q1)
  have RN := Lib.hid (fun w' v' (ht : RT (wordsG K n) (nextG K n) w' v') (hi : Ints w' vu xs) => show Calls Try.prog 22 #[v', .int .i64 ((0 : Nat) : Int), vu] w' fun e w'' => e = .returned (.int .i64 ((ix K n xs : Nat) : Int)) ∧ Below w'.heap.size w' w'' from RNumber_any v' 0 vu (natW xs) w' ht (tkG hv) (by rw [n1.1]; exact hi) (tkG hv).pos n1.2.1)
  have RF := Lib.hid (fun w' v' (ht : RT (wordsG K n) (nextG K n) w' v') => RFalls_any v' (ix K n xs) w' ht (tkG hv) (ix_lt hv q1))
  have RL := Lib.hid (fun w' v' (ht : RT (wordsG K n) (nextG K n) w' v') => RLength_any v' (ix K n xs) w' ht (tkG hv) (ix_lt hv q1))
  have MR := Lib.hid (fun w' => RMirrors_any K n w' hv)
  have LE := Lib.hid (fun v' w' (hi : Ints w' v' xs) => Leave_bad K n v' xs s w' hv hi q1 (.inr (.inl hc)))
  obtain ⟨FV, hFV⟩ : ∃ FV, fallsTo (wordsG K n) (nextG K n) (ix K n xs) (mirs K n) = FV := ⟨_, rfl⟩
  rw [hFV] at FA RF
  obtain ⟨lx, hlx⟩ : ∃ lx, lenX (wordsG K n) (ix K n xs) = lx := ⟨_, rfl⟩
  rw [hl] at RL
  have d0 : decide (s < 0) = false := by simpa using hc0
  obtain ⟨m, hm⟩ : ∃ m, mirs K n = m := ⟨_, rfl⟩
  rw [hm] at MR hc hm4
  have d1 : decide ((m : Int) ≤ s) = true := by simpa using hc
  clear hc hc0 hl hm
  obtain ⟨a, c, rfl, hx1⟩ := hx
  obtain ⟨iu, hiu⟩ : ∃ iu, ix K n xs = iu := ⟨_, rfl⟩
  rw [hiu] at *
  unfold grpI at *
  clear hx1 hok hK n1 q1 hv hnl hFV hlx
  go_enter Try.func4, Try.ntmps4
  go_wp2_with (first
      | (go_at_call 30; refine (MR.out w13).mono ?_; rintro e w14 ⟨rfl, hb14'⟩; have hb14 := chainS hb13 hb14'; have t140 := (((((hT9.bel hb10').bel hb11').bel hb12').bel hb13').bel hb14').at (i := 0) rfl; have t141 := (((((hT9.bel hb10').bel hb11').bel hb12').bel hb13').bel hb14').at (i := 1) rfl; have t142 := (((((hT9.bel hb10').bel hb11').bel hb12').bel hb13').bel hb14').at (i := 2) rfl)
      | (go_at_call 29; refine (RL.out w12 _ ((((hr8.below hb9').below hb10').below hb11').below hb12')).mono ?_; rintro e w13 ⟨rfl, hb13'⟩; have hb13 := chainS hb12 hb13'; have g130 := (heldS hb13).at (i := 0) rfl; have g131 := (heldS hb13).at (i := 1) rfl; have t130 := ((((hT9.bel hb10').bel hb11').bel hb12').bel hb13').at (i := 0) rfl; have t131 := ((((hT9.bel hb10').bel hb11').bel hb12').bel hb13').at (i := 1) rfl; have t132 := ((((hT9.bel hb10').bel hb11').bel hb12').bel hb13').at (i := 2) rfl)
      | (go_at_call 20; refine (AW.out _).mono ?_; rintro e w12 ⟨rfl, hb12'⟩; have hb12 := chainS hb11 hb12'; have t120 := (((hT9.bel hb10').bel hb11').bel hb12').at (i := 0) rfl; have t121 := (((hT9.bel hb10').bel hb11').bel hb12').at (i := 1) rfl; have t122 := (((hT9.bel hb10').bel hb11').bel hb12').at (i := 2) rfl)
      | (go_at_call 28; refine (RF.out w10 _ ((hr8.below hb9').below hb10')).mono ?_; rintro e w11 ⟨rfl, hb11'⟩; have hb11 := chainS hb10 hb11')
      | (go_at_call 22; refine (RN.out w9 _ (hr8.below hb9') (HU.out w9 hb9)).mono ?_; rintro e w10 ⟨rfl, hb10'⟩; have hb10 := chainS hb9 hb10'; have t100 := (hT9.bel hb10').at (i := 0) rfl; have t101 := (hT9.bel hb10').at (i := 1) rfl; have t102 := (hT9.bel hb10').at (i := 2) rfl)
      | ((with_reducible refine is_store 36 ?_); refine wpl_store_rt (by rfl) _ _ (by rfl) w8.heap.size (.slice (some ⟨gW, 0, none⟩) (wordsG K n).length cW) (.slice aP lP cP) (.slice aX lX cX) [.slice none 0 0, .slice none 0 0, .slice none 0 0] rfl (by rfl) (by rfl) (by rfl) (by rfl) (by rfl) (Held.made (by simp)) ?_; intro w9 hT9 hsm9 hsz9; have hb9' : Below w8.heap.size w8 w9 := hsm9.below ((Below.refl _ _).alloc (Nat.le_refl _) _) (Nat.le_refl _) (by simp); have hb9 := chainS hb8 hb9'; have t0 := hT9.at (i := 0) rfl; have t1 := hT9.at (i := 1) rfl; have t2 := hT9.at (i := 2) rfl; clear hsm9 hsz9)
      | (go_at_call 21; refine (EL.out w7).mono ?_; rintro e w8 ⟨v8, rfl, hrt8, hb8'⟩; have hb8 := chainS hb7 hb8'; have hr8 := hrt8.rt; clear hrt8; obtain ⟨gW, cW, aP, lP, cP, aX, lX, cX, rfl⟩ := RT.made hr8 HPOS.out)
      | (go_at_call 19; refine (FN.out _ _ (args1 (HU.out w6 hb6) _ rfl)).mono ?_; rintro e w7 ⟨rfl, hb7q⟩; have hb7' := below_al (Nat.le_refl _) hb7q; have hb7 := chainS hb6 hb7'; have g70 := (heldS hb7).at (i := 0) rfl; have g71 := (heldS hb7).at (i := 1) rfl)
      | (go_at_call 27; refine (LE.out v5 w5 (ho5.ints hlu)).mono ?_; rintro e w6 ⟨rfl, hb6'⟩; have hb6 := chainS hb5 hb6'; have g60 := (heldS hb6).at (i := 0) rfl; have g61 := (heldS hb6).at (i := 1) rfl)
      | (go_at_call 17; refine (LU.out w4 hb4).mono ?_; rintro e w5 ⟨v5, rfl, ho5, hb5'⟩; have hb5 := chainS hb4 hb5')
      | (go_at_call 16; refine (OF.out _).mono ?_; rintro e w4 ⟨rfl, hb4'⟩; have hb4 := chainS hb3 hb4')
      | (go_at_call 26; refine (FA.out v2 w2 (ho2.ints hlu)).mono ?_; rintro e w3 ⟨rfl, hb3'⟩; have hb3 := chainS hb2 hb3'; have g30 := (heldS hb3).at (i := 0) rfl; have g31 := (heldS hb3).at (i := 1) rfl)
      | (go_at_call 17; refine (LU.out w1 hb1).mono ?_; rintro e w2 ⟨v2, rfl, ho2, hb2'⟩; have hb2 := chainS hb1 hb2')
      | (go_at_call 16; refine (OF.out _).mono ?_; rintro e w1 ⟨rfl, hb1q⟩; have hb1 := hb1q.mono (show w.heap.size + 1 ≤ _ by simp)))
  go_ret
  exact ⟨rfl, chainE hb14⟩

end Go.Proofs.Ytmlhecfhhhebnaa
