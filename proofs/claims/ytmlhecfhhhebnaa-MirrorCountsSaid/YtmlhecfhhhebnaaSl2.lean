/- MirrorCounts: the walks. -/
import Derived.Test.YtmlhecfhhhebnaaSk
import Derived.Test.YtmlhecfhhhebnaaSj
namespace Go.Proofs.Ytmlhecfhhhebnaa
open Go.RowKit
attribute [local go_sem] Oper.semAt_some

theorem make_intsA (a b : Nat) (hn : a + b ≤ 35184372088832) (w : World) : (Instr.makeSlice 24 (.int .i64 ((a : Int) + (b : Int))) (.int .i64 ((a : Int) + (b : Int)))).run Try.prog w = .ok (.slice (some ⟨w.heap.size, 0, none⟩) (a + b) (a + b)) (w.alloc (.cells ((toI (List.replicate (a + b) 0)).map (Value.int .i64)).toArray 3)) := by
  have := make_ints (a + b) hn w
  push_cast at this
  exact this
set_option maxRecDepth 20000 in
set_option maxHeartbeats 4000000 in
theorem CountsL_no (K : Nat) (n : Int) (w : World) (hK : K < 256) (h : validI K n = false) :
    Calls Try.prog 9 #[grpI K n] w (TrueM w) := by
  have OF := Lib.hid (fun w' => Of_any K n w')
  have CN := Lib.hid (fun w' => Counts_no K n w' hK (by rw [okI_nil]; exact h))
  have AW := Lib.hid (fun w' => awake_any w')
  unfold grpI at *
  clear h
  go_enter Try.func9, Try.ntmps9
  go_wp2_with (first
      | (go_at_call 20; refine (AW.out _).mono ?_; rintro e w3 ⟨rfl, hb3'⟩; have hb3 := chainS hb2 hb3')
      | (go_at_call 45; refine (CN.out _).mono ?_; rintro e w2 ⟨rfl, hb2'⟩; have hb2 := chainS hb1 hb2'; have g20 := (heldS hb2).at (i := 0) rfl; have g21 := (heldS hb2).at (i := 1) rfl)
      | (go_at_call 16; refine (OF.out _).mono ?_; rintro e w1 ⟨rfl, hb1q⟩; have hb1 := hb1q.mono (show w.heap.size + 1 ≤ _ by simp)))
  go_ret
  exact ⟨rfl, chainE hb3⟩

set_option maxRecDepth 20000 in
set_option maxHeartbeats 8000000 in
theorem CountsL_65 (n : Nat) (w : World) (hv : validB 65 n = true) (hn1 : 1 ≤ n) (hn : n ≤ 12) :
    Calls Try.prog 9 #[.agg #[.int .u8 (65 : Nat), .int .i64 (n : Nat)]] w (TrueM w) := by
  have OF := Lib.hid (fun w' => Of_any 65 (n : Int) w')
  have CN := Lib.hid (fun w' => Counts_yes 65 n w' hv)
  have VA := Lib.hid (fun w' => by have := Valid_any 65 (n : Int) w' (by decide); rw [validI_cast, hv] at this; exact this)
  have AW := Lib.hid (fun w' => awake_any w')
  obtain ⟨hP, hW, hR⟩ := polG hv
  have hC1 := cnt_pos hv
  have hC2 := cnt_len (wordsG 65 n) _ (Nat.le_refl _)
  have hC3 := (tkG hv).small
  obtain ⟨C, hC⟩ : ∃ C, cntTo (wordsG 65 n) (wordsG 65 n).length = C := ⟨_, rfl⟩
  rw [hC] at CN hW hR hC1 hC2
  have RV := Lib.hid (fun (B g cap : Nat) (w' : World) (ho : OwnI 3 B w' (.slice (some ⟨g, 0, none⟩) C.length cap) (toI C)) => by have := Reverse_any C B g cap w' ho hC1 (by omega); rw [hR] at this; exact this)
  have hlC : (toI C).length ≤ 17592186044416 := by rw [toI_length]; omega
  have HPO := Lib.hid hP
  have HW := Lib.hid hW
  have hC120 : C.length ≤ 120 := by omega
  unfold grpI at *
  clear hv hP hW hR hC hC2 hC3
  go_enter Try.func9, Try.ntmps9
  go_wp2_with (first
      | (go_at_call 47; refine (RV.out _ _ _ w4 ho4).mono ?_; rintro e w5 ⟨rfl, ho5, hs5⟩; have hb5' : Below w3.heap.size w3 w5 := hs5.below hb4' (ho4.lt g4 rfl).1 hb4'.size; have hb5 := chainS hb3 hb5')
      | (go_at_call 35; refine (Clone_any _ _ w3 ((ho2.below hb3').ints hlC)).mono ?_; rintro e w4 ⟨v4, rfl, ho4, hb4'⟩; have hb4 := chainS hb3 hb4'; obtain ⟨g4, c4, rfl⟩ := ho4.row1 hC1)
      | (go_at_call 46; refine (VA.out _).mono ?_; rintro e w3 ⟨rfl, hb3'⟩; have hb3 := chainS hb2 hb3'; have g30 := (heldS hb3).at (i := 0) rfl; have g31 := (heldS hb3).at (i := 1) rfl)
      | (go_at_call 45; refine (CN.out _).mono ?_; rintro e w2 ⟨v2, rfl, ho2, hb2'⟩; have hb2 := chainS hb1 hb2'; have g20 := (heldS hb2).at (i := 0) rfl; have g21 := (heldS hb2).at (i := 1) rfl; obtain ⟨a2, n2, c2, rfl⟩ := own_form ho2)
      | (go_at_call 16; refine (OF.out _).mono ?_; rintro e w1 ⟨rfl, hb1q⟩; have hb1 := hb1q.mono (show w.heap.size + 1 ≤ _ by simp)))
  have HB5 := Lib.hid hb5
  have HO2 := Lib.hid (((ho2.below hb3').below hb5'))
  have HO5 := Lib.hid ho5
  clear hb1q hb1 hb2' hb2 hb3' hb3 hb4' hb4 hb5' hb5 hs5 ho2 ho4 ho5 g20 g21 g30 g31
  go_loopw [6, 7] (fun s6 s7 wr => ∃ k : Nat, k ≤ n ∧ s7 = .int .i64 ((k : Int) + 1) ∧ OwnI 3 w5.heap.size wr s6 (toI ((List.range k).map fun k => k + 1)) ∧ Below w5.heap.size w5 wr) (fun _ s7 _ => (n + 1 - intOf s7).toNat)
  case atStart => exact ⟨0, Nat.zero_le _, by simp, OwnI.nil _ _ _, Below.refl _ _⟩
  case round =>
    obtain ⟨k, hk, rfl, ho, hb⟩ := hrel
    have hbr := chainS HB5.out hb
    have q0 := (heldS hbr).at (i := 0) rfl
    have q1 := (heldS hbr).at (i := 1) rfl
    by_cases hlt : k < n
    · have hki : (k : Int) < (n : Int) := by omega
      have hki2 : (k : Int) + 1 ≤ (n : Int) := by omega
      have hle := hb.size
      have HR := Lib.hid (show toI ((List.range (k + 1)).map fun k => k + 1) = toI ((List.range k).map fun k => k + 1) ++ [(k : Int) + 1] by rw [List.range_succ, List.map_append, toI_append]; simp [toI])
      have HB := Lib.hid hb
      clear hb hbr
      go_wp2_with (at_builtin; refine wpList_app1_at rfl _ _ rfl w5.heap.size _ (toI ((List.range k).map fun k => k + 1)) ((k : Int) + 1) rfl (ho.alloc _) ⟨_, 0, none⟩ 1 rfl (cell_new1 _ _ _) (by rw [toI_length, List.length_map, List.length_range]; omega) (by simp; omega) ?_; intro v9 w9 ho9 hg9 hl9; have HO9 := Lib.hid ho9; have HG9 := Lib.hid hg9; clear ho9 hg9 hl9)
      go_roundw
      case rel => exact ⟨k + 1, by omega, by go_num, by rw [HR.out]; exact HO9.out, (HB.out.alloc hle _).grown HG9.out (by simp; omega) (fun j hj => (ho.lt j hj).1)⟩
      case measure => simp [intOf]; omega
    · obtain rfl : k = n := by omega
      have hki : ¬ (k : Int) < (k : Int) := by omega
      have hki2 : ¬ (k : Int) + 1 ≤ (k : Int) := by omega
      have ho' : OwnI 3 w5.heap.size wr u6 (toI (topsN 65 k)) := ho
      have HBT := Lib.hid hb
      obtain ⟨wt, rfl⟩ : ∃ wt : World, wt = wr := ⟨_, rfl⟩
      have hTl : 1 ≤ (topsN 65 k).length := by simp [topsN]; omega
      obtain ⟨T, hT⟩ : ∃ T, topsN 65 k = T := ⟨_, rfl⟩
      rw [hT] at ho' hTl HPO HW
      have HOT := Lib.hid ho'
      obtain ⟨gT, cT, hTf⟩ := ho'.row1 hTl
      subst hTf
      clear ho ho' hb hbr hT
      go_wp2
      have hTl12 := pol_len HPO.out
      go_loopw [8, 69] (fun s8 s69 wr => ∃ t : Nat, t ≤ T.length ∧ s69 = .int .i64 t ∧ OwnI 3 wt.heap.size wr s8 (toI (wantTo T t)) ∧ Below wt.heap.size wt wr) (fun _ i _ => T.length - (intOf i).toNat)
      case atStart => exact ⟨0, Nat.zero_le _, rfl, own_fresh wt _ [1] (Nat.le_refl _) (by decide), (Below.refl _ _).alloc (Nat.le_refl _) _⟩
      case round =>
        obtain ⟨t, htl, rfl, ho, hb⟩ := hrel
        obtain ⟨wa, rfl⟩ : ∃ wa : World, wa = wr := ⟨_, rfl⟩
        by_cases hlt : t < T.length
        · have hti : (t : Int) < (T.length : Int) := by omega
          have cT0 := (HOT.out.below hb).cellN t hlt
          have HP := Lib.hid (pol_at HPO.out hlt)
          have HS := Lib.hid (show wantTo T (t + 1) = nxI (wantTo T t) (T.getD t 0) (wantTo T t).length from rfl)
          have h40 := HP.out.l40
          have h12 := HP.out.k12
          have HX := Lib.hid HP.out.x
          have HC := Lib.hid HP.out.c
          have hgd := getDN (l := T) (i := t) hlt
          obtain ⟨k, hk⟩ : ∃ k, T[t] = k := ⟨_, rfl⟩
          rw [hk] at cT0 hgd
          rw [hgd] at HS h12 HC
          obtain ⟨wv, hwv⟩ : ∃ wv, wantTo T t = wv := ⟨_, rfl⟩
          rw [hwv] at HS h40 HX HC ho
          have hmk := make_intsA wv.length k (by omega)
          have HO := Lib.hid ho
          have HB := Lib.hid hb
          obtain ⟨aw, cw, hwf⟩ := HO.out.form
          rw [toI_length] at hwf
          subst hwf
          have hle := hb.size
          have hza := own_zeros (B := wa.heap.size) wa (wv.length + k) (Nat.le_refl _) (by unfold maxLen; omega)
          have HZA := Lib.hid hza
          clear HP hgd hk hwv ho hb hza
          go_wp2
          go_loopw [80] (fun s80 wr => ∃ i : Nat, i ≤ wv.length ∧ s80 = .int .i64 i ∧ OwnI 3 wa.heap.size wr (.slice (some ⟨wa.heap.size, 0, none⟩) (wv.length + k) (wv.length + k)) (toI (nxI wv k i)) ∧ Below wa.heap.size wa wr) (fun i _ => wv.length - (intOf i).toNat)
          case atStart => exact ⟨0, Nat.zero_le _, rfl, HZA.out, (Below.refl _ _).alloc (Nat.le_refl _) _⟩
          case round =>
            obtain ⟨i, hil, rfl, hoi, hbi⟩ := hrel
            obtain ⟨wb, rfl⟩ : ∃ wb : World, wb = wr := ⟨_, rfl⟩
            by_cases hli : i < wv.length
            · have hii : (i : Int) < (wv.length : Int) := by omega
              obtain ⟨gw, cw2, ew⟩ := HO.out.ne_nil hli
              obtain ⟨ew1, _, ew2⟩ := Value.slice.inj ew
              subst ew1
              subst ew2
              have cx := (HO.out.below hbi).cellN i hli
              have HXi := Lib.hid (HX.out i hli)
              have HCi := Lib.hid (HC.out i hli)
              have HN := Lib.hid (show nxI wv k (i + 1) = nxJ (wv.getD i 0) i (nxI wv k i) (k + 1) from rfl)
              have hgx := getDN (l := wv) (i := i) hli
              obtain ⟨x, hx⟩ : ∃ x, wv[i] = x := ⟨_, rfl⟩
              rw [hx] at cx hgx
              rw [hgx] at HXi HCi HN
              have hx1 := HXi.out
              have HLN := Lib.hid (nxI_len wv k i)
              have HOI := Lib.hid hoi
              have HBI := Lib.hid hbi
              clear hgx hx hoi hbi ew
              go_wp2
              go_loopw [87] (fun s87 wr => ∃ j : Nat, j ≤ k + 1 ∧ s87 = .int .i64 j ∧ OwnI 3 wa.heap.size wr (.slice (some ⟨wa.heap.size, 0, none⟩) (wv.length + k) (wv.length + k)) (toI (nxJ x i (nxI wv k i) j)) ∧ Below wa.heap.size wa wr) (fun j _ => k + 1 - (intOf j).toNat)
              case atStart => exact ⟨0, Nat.zero_le _, rfl, HOI.out, HBI.out⟩
              case round =>
                obtain ⟨j, hjl, rfl, hoj, hbj⟩ := hrel
                by_cases hlj : j < k + 1
                · have hji : (j : Int) < (k : Int) + 1 := by omega
                  have hlen : i + j < (nxJ x i (nxI wv k i) j).length := by rw [nxJ_len, HLN.out]; omega
                  have cc := hoj.cellN (i + j) hlen
                  have fc := hoj.frozenN (i + j)
                  have hc1 := HCi.out j hlj _ (List.getElem_mem hlen)
                  have HM := Lib.hid (show nxJ x i (nxI wv k i) (j + 1) = (nxJ x i (nxI wv k i) j).set (i + j) ((nxJ x i (nxI wv k i) j)[i + j] + x) from modify_setX x _ _ hlen)
                  obtain ⟨z, hz⟩ : ∃ z, (nxJ x i (nxI wv k i) j)[i + j] = z := ⟨_, rfl⟩
                  rw [hz] at cc hc1 HM
                  have HOJ := Lib.hid hoj
                  have HBJ := Lib.hid hbj
                  have hij : (i : Int) + (j : Int) < (wv.length : Int) + (k : Int) := by omega
                  clear hz hlen hoj hbj
                  go_wp2
                  go_roundw
                  case rel => exact ⟨j + 1, by omega, by go_num, by rw [HM.out]; have := HOJ.out.storedN (i + j) (z + x); simpa using this, HBJ.out.setCell (Nat.le_refl _) _⟩
                  case measure => simp [intOf]; omega
                · obtain rfl : j = k + 1 := by omega
                  have hji : ¬ ((k + 1 : Nat) : Int) < (k : Int) + 1 := by omega
                  have hji2 : ¬ (k : Int) + 1 < (k : Int) + 1 := by omega
                  have HOJ := Lib.hid hoj
                  have HBJ := Lib.hid hbj
                  clear hoj hbj
                  go_wp2
                  go_roundw
                  case rel => exact ⟨i + 1, by omega, by go_num, by rw [HN.out]; exact HOJ.out, HBJ.out⟩
                  case measure => simp [intOf]; omega
            · obtain rfl : i = wv.length := by omega
              have hii : ¬ ((wv.length : Nat) : Int) < (wv.length : Int) := by omega
              have HOI := Lib.hid hoi
              have HBI := Lib.hid hbi
              clear hoi hbi
              go_wp2
              go_roundw
              case rel => exact ⟨t + 1, by omega, by go_num, by rw [HS.out]; have := HOI.out.mono hle; unfold OwnI at this ⊢; simpa using this, HB.out.trans (HBI.out.mono hle)⟩
              case measure => simp [intOf]; omega
        · obtain rfl : t = T.length := by omega
          have hti : ¬ ((T.length : Nat) : Int) < (T.length : Int) := by omega
          rw [HW.out] at ho
          have hb5r : Below w5.heap.size w5 wa := HBT.out.trans (hb.mono HBT.out.size)
          have HO2r := Lib.hid (HO2.out.below hb5r)
          have HO5r := Lib.hid (HO5.out.below hb5r)
          have HO8 := Lib.hid ho
          have HBR := Lib.hid (chainS HB5.out hb5r)
          obtain ⟨a8, n8, c8, hf8⟩ := own_form ho
          subst hf8
          clear ho hb hb5r
          go_wp2_with (first
            | (go_at_call 20; refine (AW.out _).mono ?_; rintro e w8 ⟨rfl, hb8'⟩)
            | (go_at_call 23; refine (EqualM_any _ _ _ _ w6 ((HO2r.out.below hb6').ints hlC) ((HO8.out.below hb6').ints hlC) true (by simp)).mono ?_; rintro e w7 ⟨rfl, hb7'⟩)
            | (go_at_call 23; refine (EqualM_any _ _ _ _ wa (HO2r.out.ints hlC) (HO5r.out.ints hlC) true (by simp)).mono ?_; rintro e w6 ⟨rfl, hb6'⟩))
          go_ret
          exact ⟨rfl, chainE (chainS (chainS (chainS HBR.out hb6') hb7') hb8')⟩

set_option maxRecDepth 20000 in
set_option maxHeartbeats 8000000 in
theorem CountsL_66 (n : Nat) (w : World) (hv : validB 66 n = true) (hn1 : 1 ≤ n) (hn : n ≤ 12) :
    Calls Try.prog 9 #[.agg #[.int .u8 (66 : Nat), .int .i64 (n : Nat)]] w (TrueM w) := by
  have OF := Lib.hid (fun w' => Of_any 66 (n : Int) w')
  have CN := Lib.hid (fun w' => Counts_yes 66 n w' hv)
  have VA := Lib.hid (fun w' => by have := Valid_any 66 (n : Int) w' (by decide); rw [validI_cast, hv] at this; exact this)
  have AW := Lib.hid (fun w' => awake_any w')
  obtain ⟨hP, hW, hR⟩ := polG hv
  have hC1 := cnt_pos hv
  have hC2 := cnt_len (wordsG 66 n) _ (Nat.le_refl _)
  have hC3 := (tkG hv).small
  obtain ⟨C, hC⟩ : ∃ C, cntTo (wordsG 66 n) (wordsG 66 n).length = C := ⟨_, rfl⟩
  rw [hC] at CN hW hR hC1 hC2
  have RV := Lib.hid (fun (B g cap : Nat) (w' : World) (ho : OwnI 3 B w' (.slice (some ⟨g, 0, none⟩) C.length cap) (toI C)) => by have := Reverse_any C B g cap w' ho hC1 (by omega); rw [hR] at this; exact this)
  have hlC : (toI C).length ≤ 17592186044416 := by rw [toI_length]; omega
  have HPO := Lib.hid hP
  have HW := Lib.hid hW
  have hC120 : C.length ≤ 120 := by omega
  unfold grpI at *
  clear hv hP hW hR hC hC2 hC3
  go_enter Try.func9, Try.ntmps9
  go_wp2_with (first
      | (go_at_call 47; refine (RV.out _ _ _ w4 ho4).mono ?_; rintro e w5 ⟨rfl, ho5, hs5⟩; have hb5' : Below w3.heap.size w3 w5 := hs5.below hb4' (ho4.lt g4 rfl).1 hb4'.size; have hb5 := chainS hb3 hb5')
      | (go_at_call 35; refine (Clone_any _ _ w3 ((ho2.below hb3').ints hlC)).mono ?_; rintro e w4 ⟨v4, rfl, ho4, hb4'⟩; have hb4 := chainS hb3 hb4'; obtain ⟨g4, c4, rfl⟩ := ho4.row1 hC1)
      | (go_at_call 46; refine (VA.out _).mono ?_; rintro e w3 ⟨rfl, hb3'⟩; have hb3 := chainS hb2 hb3'; have g30 := (heldS hb3).at (i := 0) rfl; have g31 := (heldS hb3).at (i := 1) rfl)
      | (go_at_call 45; refine (CN.out _).mono ?_; rintro e w2 ⟨v2, rfl, ho2, hb2'⟩; have hb2 := chainS hb1 hb2'; have g20 := (heldS hb2).at (i := 0) rfl; have g21 := (heldS hb2).at (i := 1) rfl; obtain ⟨a2, n2, c2, rfl⟩ := own_form ho2)
      | (go_at_call 16; refine (OF.out _).mono ?_; rintro e w1 ⟨rfl, hb1q⟩; have hb1 := hb1q.mono (show w.heap.size + 1 ≤ _ by simp)))
  have HB5 := Lib.hid hb5
  have HO2 := Lib.hid (((ho2.below hb3').below hb5'))
  have HO5 := Lib.hid ho5
  clear hb1q hb1 hb2' hb2 hb3' hb3 hb4' hb4 hb5' hb5 hs5 ho2 ho4 ho5 g20 g21 g30 g31
  go_loopw [6, 7] (fun s6 s7 wr => ∃ k : Nat, k ≤ n ∧ s7 = .int .i64 ((k : Int) + 1) ∧ OwnI 3 w5.heap.size wr s6 (toI ((List.range k).map fun k => 2 * k + 1)) ∧ Below w5.heap.size w5 wr) (fun _ s7 _ => (n + 1 - intOf s7).toNat)
  case atStart => exact ⟨0, Nat.zero_le _, by simp, OwnI.nil _ _ _, Below.refl _ _⟩
  case round =>
    obtain ⟨k, hk, rfl, ho, hb⟩ := hrel
    have hbr := chainS HB5.out hb
    have q0 := (heldS hbr).at (i := 0) rfl
    have q1 := (heldS hbr).at (i := 1) rfl
    by_cases hlt : k < n
    · have hki : (k : Int) < (n : Int) := by omega
      have hki2 : (k : Int) + 1 ≤ (n : Int) := by omega
      have hle := hb.size
      have HR := Lib.hid (show toI ((List.range (k + 1)).map fun k => 2 * k + 1) = toI ((List.range k).map fun k => 2 * k + 1) ++ [2 * ((k : Int) + 1) - 1] by rw [List.range_succ, List.map_append, toI_append]; simp [toI]; omega)
      have HB := Lib.hid hb
      clear hb hbr
      go_wp2_with (at_builtin; refine wpList_app1_at rfl _ _ rfl w5.heap.size _ (toI ((List.range k).map fun k => 2 * k + 1)) (2 * ((k : Int) + 1) - 1) rfl (ho.alloc _) ⟨_, 0, none⟩ 1 rfl (cell_new1 _ _ _) (by rw [toI_length, List.length_map, List.length_range]; omega) (by simp; omega) ?_; intro v9 w9 ho9 hg9 hl9; have HO9 := Lib.hid ho9; have HG9 := Lib.hid hg9; clear ho9 hg9 hl9)
      go_roundw
      case rel => exact ⟨k + 1, by omega, by go_num, by rw [HR.out]; exact HO9.out, (HB.out.alloc hle _).grown HG9.out (by simp; omega) (fun j hj => (ho.lt j hj).1)⟩
      case measure => simp [intOf]; omega
    · obtain rfl : k = n := by omega
      have hki : ¬ (k : Int) < (k : Int) := by omega
      have hki2 : ¬ (k : Int) + 1 ≤ (k : Int) := by omega
      have ho' : OwnI 3 w5.heap.size wr u6 (toI (topsN 66 k)) := ho
      have HBT := Lib.hid hb
      obtain ⟨wt, rfl⟩ : ∃ wt : World, wt = wr := ⟨_, rfl⟩
      have hTl : 1 ≤ (topsN 66 k).length := by simp [topsN]; omega
      obtain ⟨T, hT⟩ : ∃ T, topsN 66 k = T := ⟨_, rfl⟩
      rw [hT] at ho' hTl HPO HW
      have HOT := Lib.hid ho'
      obtain ⟨gT, cT, hTf⟩ := ho'.row1 hTl
      subst hTf
      clear ho ho' hb hbr hT
      go_wp2
      have hTl12 := pol_len HPO.out
      go_loopw [8, 69] (fun s8 s69 wr => ∃ t : Nat, t ≤ T.length ∧ s69 = .int .i64 t ∧ OwnI 3 wt.heap.size wr s8 (toI (wantTo T t)) ∧ Below wt.heap.size wt wr) (fun _ i _ => T.length - (intOf i).toNat)
      case atStart => exact ⟨0, Nat.zero_le _, rfl, own_fresh wt _ [1] (Nat.le_refl _) (by decide), (Below.refl _ _).alloc (Nat.le_refl _) _⟩
      case round =>
        obtain ⟨t, htl, rfl, ho, hb⟩ := hrel
        obtain ⟨wa, rfl⟩ : ∃ wa : World, wa = wr := ⟨_, rfl⟩
        by_cases hlt : t < T.length
        · have hti : (t : Int) < (T.length : Int) := by omega
          have cT0 := (HOT.out.below hb).cellN t hlt
          have HP := Lib.hid (pol_at HPO.out hlt)
          have HS := Lib.hid (show wantTo T (t + 1) = nxI (wantTo T t) (T.getD t 0) (wantTo T t).length from rfl)
          have h40 := HP.out.l40
          have h12 := HP.out.k12
          have HX := Lib.hid HP.out.x
          have HC := Lib.hid HP.out.c
          have hgd := getDN (l := T) (i := t) hlt
          obtain ⟨k, hk⟩ : ∃ k, T[t] = k := ⟨_, rfl⟩
          rw [hk] at cT0 hgd
          rw [hgd] at HS h12 HC
          obtain ⟨wv, hwv⟩ : ∃ wv, wantTo T t = wv := ⟨_, rfl⟩
          rw [hwv] at HS h40 HX HC ho
          have hmk := make_intsA wv.length k (by omega)
          have HO := Lib.hid ho
          have HB := Lib.hid hb
          obtain ⟨aw, cw, hwf⟩ := HO.out.form
          rw [toI_length] at hwf
          subst hwf
          have hle := hb.size
          have hza := own_zeros (B := wa.heap.size) wa (wv.length + k) (Nat.le_refl _) (by unfold maxLen; omega)
          have HZA := Lib.hid hza
          clear HP hgd hk hwv ho hb hza
          go_wp2
          go_loopw [80] (fun s80 wr => ∃ i : Nat, i ≤ wv.length ∧ s80 = .int .i64 i ∧ OwnI 3 wa.heap.size wr (.slice (some ⟨wa.heap.size, 0, none⟩) (wv.length + k) (wv.length + k)) (toI (nxI wv k i)) ∧ Below wa.heap.size wa wr) (fun i _ => wv.length - (intOf i).toNat)
          case atStart => exact ⟨0, Nat.zero_le _, rfl, HZA.out, (Below.refl _ _).alloc (Nat.le_refl _) _⟩
          case round =>
            obtain ⟨i, hil, rfl, hoi, hbi⟩ := hrel
            obtain ⟨wb, rfl⟩ : ∃ wb : World, wb = wr := ⟨_, rfl⟩
            by_cases hli : i < wv.length
            · have hii : (i : Int) < (wv.length : Int) := by omega
              obtain ⟨gw, cw2, ew⟩ := HO.out.ne_nil hli
              obtain ⟨ew1, _, ew2⟩ := Value.slice.inj ew
              subst ew1
              subst ew2
              have cx := (HO.out.below hbi).cellN i hli
              have HXi := Lib.hid (HX.out i hli)
              have HCi := Lib.hid (HC.out i hli)
              have HN := Lib.hid (show nxI wv k (i + 1) = nxJ (wv.getD i 0) i (nxI wv k i) (k + 1) from rfl)
              have hgx := getDN (l := wv) (i := i) hli
              obtain ⟨x, hx⟩ : ∃ x, wv[i] = x := ⟨_, rfl⟩
              rw [hx] at cx hgx
              rw [hgx] at HXi HCi HN
              have hx1 := HXi.out
              have HLN := Lib.hid (nxI_len wv k i)
              have HOI := Lib.hid hoi
              have HBI := Lib.hid hbi
              clear hgx hx hoi hbi ew
              go_wp2
              go_loopw [87] (fun s87 wr => ∃ j : Nat, j ≤ k + 1 ∧ s87 = .int .i64 j ∧ OwnI 3 wa.heap.size wr (.slice (some ⟨wa.heap.size, 0, none⟩) (wv.length + k) (wv.length + k)) (toI (nxJ x i (nxI wv k i) j)) ∧ Below wa.heap.size wa wr) (fun j _ => k + 1 - (intOf j).toNat)
              case atStart => exact ⟨0, Nat.zero_le _, rfl, HOI.out, HBI.out⟩
              case round =>
                obtain ⟨j, hjl, rfl, hoj, hbj⟩ := hrel
                by_cases hlj : j < k + 1
                · have hji : (j : Int) < (k : Int) + 1 := by omega
                  have hlen : i + j < (nxJ x i (nxI wv k i) j).length := by rw [nxJ_len, HLN.out]; omega
                  have cc := hoj.cellN (i + j) hlen
                  have fc := hoj.frozenN (i + j)
                  have hc1 := HCi.out j hlj _ (List.getElem_mem hlen)
                  have HM := Lib.hid (show nxJ x i (nxI wv k i) (j + 1) = (nxJ x i (nxI wv k i) j).set (i + j) ((nxJ x i (nxI wv k i) j)[i + j] + x) from modify_setX x _ _ hlen)
                  obtain ⟨z, hz⟩ : ∃ z, (nxJ x i (nxI wv k i) j)[i + j] = z := ⟨_, rfl⟩
                  rw [hz] at cc hc1 HM
                  have HOJ := Lib.hid hoj
                  have HBJ := Lib.hid hbj
                  have hij : (i : Int) + (j : Int) < (wv.length : Int) + (k : Int) := by omega
                  clear hz hlen hoj hbj
                  go_wp2
                  go_roundw
                  case rel => exact ⟨j + 1, by omega, by go_num, by rw [HM.out]; have := HOJ.out.storedN (i + j) (z + x); simpa using this, HBJ.out.setCell (Nat.le_refl _) _⟩
                  case measure => simp [intOf]; omega
                · obtain rfl : j = k + 1 := by omega
                  have hji : ¬ ((k + 1 : Nat) : Int) < (k : Int) + 1 := by omega
                  have hji2 : ¬ (k : Int) + 1 < (k : Int) + 1 := by omega
                  have HOJ := Lib.hid hoj
                  have HBJ := Lib.hid hbj
                  clear hoj hbj
                  go_wp2
                  go_roundw
                  case rel => exact ⟨i + 1, by omega, by go_num, by rw [HN.out]; exact HOJ.out, HBJ.out⟩
                  case measure => simp [intOf]; omega
            · obtain rfl : i = wv.length := by omega
              have hii : ¬ ((wv.length : Nat) : Int) < (wv.length : Int) := by omega
              have HOI := Lib.hid hoi
              have HBI := Lib.hid hbi
              clear hoi hbi
              go_wp2
              go_roundw
              case rel => exact ⟨t + 1, by omega, by go_num, by rw [HS.out]; have := HOI.out.mono hle; unfold OwnI at this ⊢; simpa using this, HB.out.trans (HBI.out.mono hle)⟩
              case measure => simp [intOf]; omega
        · obtain rfl : t = T.length := by omega
          have hti : ¬ ((T.length : Nat) : Int) < (T.length : Int) := by omega
          rw [HW.out] at ho
          have hb5r : Below w5.heap.size w5 wa := HBT.out.trans (hb.mono HBT.out.size)
          have HO2r := Lib.hid (HO2.out.below hb5r)
          have HO5r := Lib.hid (HO5.out.below hb5r)
          have HO8 := Lib.hid ho
          have HBR := Lib.hid (chainS HB5.out hb5r)
          obtain ⟨a8, n8, c8, hf8⟩ := own_form ho
          subst hf8
          clear ho hb hb5r
          go_wp2_with (first
            | (go_at_call 20; refine (AW.out _).mono ?_; rintro e w8 ⟨rfl, hb8'⟩)
            | (go_at_call 23; refine (EqualM_any _ _ _ _ w6 ((HO2r.out.below hb6').ints hlC) ((HO8.out.below hb6').ints hlC) true (by simp)).mono ?_; rintro e w7 ⟨rfl, hb7'⟩)
            | (go_at_call 23; refine (EqualM_any _ _ _ _ wa (HO2r.out.ints hlC) (HO5r.out.ints hlC) true (by simp)).mono ?_; rintro e w6 ⟨rfl, hb6'⟩))
          go_ret
          exact ⟨rfl, chainE (chainS (chainS (chainS HBR.out hb6') hb7') hb8')⟩

set_option maxRecDepth 20000 in
set_option maxHeartbeats 8000000 in
theorem CountsL_73 (n : Nat) (w : World) (hv : validB 73 n = true) (hn1 : 1 ≤ n) (hn : n ≤ 12) :
    Calls Try.prog 9 #[.agg #[.int .u8 (73 : Nat), .int .i64 (n : Nat)]] w (TrueM w) := by
  have OF := Lib.hid (fun w' => Of_any 73 (n : Int) w')
  have CN := Lib.hid (fun w' => Counts_yes 73 n w' hv)
  have VA := Lib.hid (fun w' => by have := Valid_any 73 (n : Int) w' (by decide); rw [validI_cast, hv] at this; exact this)
  have AW := Lib.hid (fun w' => awake_any w')
  obtain ⟨hP, hW, hR⟩ := polG hv
  have hC1 := cnt_pos hv
  have hC2 := cnt_len (wordsG 73 n) _ (Nat.le_refl _)
  have hC3 := (tkG hv).small
  obtain ⟨C, hC⟩ : ∃ C, cntTo (wordsG 73 n) (wordsG 73 n).length = C := ⟨_, rfl⟩
  rw [hC] at CN hW hR hC1 hC2
  have RV := Lib.hid (fun (B g cap : Nat) (w' : World) (ho : OwnI 3 B w' (.slice (some ⟨g, 0, none⟩) C.length cap) (toI C)) => by have := Reverse_any C B g cap w' ho hC1 (by omega); rw [hR] at this; exact this)
  have hlC : (toI C).length ≤ 17592186044416 := by rw [toI_length]; omega
  have HPO := Lib.hid hP
  have HW := Lib.hid hW
  have hC120 : C.length ≤ 120 := by omega
  unfold grpI at *
  clear hv hP hW hR hC hC2 hC3
  go_enter Try.func9, Try.ntmps9
  go_wp2_with (first
      | (go_at_call 47; refine (RV.out _ _ _ w4 ho4).mono ?_; rintro e w5 ⟨rfl, ho5, hs5⟩; have hb5' : Below w3.heap.size w3 w5 := hs5.below hb4' (ho4.lt g4 rfl).1 hb4'.size; have hb5 := chainS hb3 hb5')
      | (go_at_call 35; refine (Clone_any _ _ w3 ((ho2.below hb3').ints hlC)).mono ?_; rintro e w4 ⟨v4, rfl, ho4, hb4'⟩; have hb4 := chainS hb3 hb4'; obtain ⟨g4, c4, rfl⟩ := ho4.row1 hC1)
      | (go_at_call 46; refine (VA.out _).mono ?_; rintro e w3 ⟨rfl, hb3'⟩; have hb3 := chainS hb2 hb3'; have g30 := (heldS hb3).at (i := 0) rfl; have g31 := (heldS hb3).at (i := 1) rfl)
      | (go_at_call 45; refine (CN.out _).mono ?_; rintro e w2 ⟨v2, rfl, ho2, hb2'⟩; have hb2 := chainS hb1 hb2'; have g20 := (heldS hb2).at (i := 0) rfl; have g21 := (heldS hb2).at (i := 1) rfl; obtain ⟨a2, n2, c2, rfl⟩ := own_form ho2)
      | (go_at_call 16; refine (OF.out _).mono ?_; rintro e w1 ⟨rfl, hb1q⟩; have hb1 := hb1q.mono (show w.heap.size + 1 ≤ _ by simp)))
  have HB5 := Lib.hid hb5
  have HO2 := Lib.hid (((ho2.below hb3').below hb5'))
  have HO5 := Lib.hid ho5
  clear hb1q hb1 hb2' hb2 hb3' hb3 hb4' hb4 hb5' hb5 hs5 ho2 ho4 ho5 g20 g21 g30 g31
  go_loopw [7] (fun s7 wr => ∃ k : Nat, k ≤ n ∧ s7 = .int .i64 ((k : Int) + 1) ∧ Below w5.heap.size w5 wr) (fun s7 _ => (n + 1 - intOf s7).toNat)
  case atStart => exact ⟨0, Nat.zero_le _, by simp, Below.refl _ _⟩
  case round =>
    obtain ⟨k, hk, rfl, hb⟩ := hrel
    have hbr := chainS HB5.out hb
    have q0 := (heldS hbr).at (i := 0) rfl
    have q1 := (heldS hbr).at (i := 1) rfl
    by_cases hlt : k < n
    · have hki : (k : Int) < (n : Int) := by omega
      have hki2 : (k : Int) + 1 ≤ (n : Int) := by omega
      have HB := Lib.hid hb
      clear hb hbr
      go_wp2
      go_roundw
      case rel => exact ⟨k + 1, by omega, by go_num, HB.out⟩
      case measure => simp [intOf]; omega
    · obtain rfl : k = n := by omega
      have hki : ¬ (k : Int) < (k : Int) := by omega
      have hki2 : ¬ (k : Int) + 1 ≤ (k : Int) := by omega
      have hl5 := hb.size
      have ho' : OwnI 3 w5.heap.size (wr.alloc (.cells #[.int .i64 1, .int .i64 ((k : Int) - 1)] 3)) (.slice (some ⟨wr.heap.size, 0, none⟩) 2 2) (toI (topsN 73 k)) := by
        have := own_fresh (B := w5.heap.size) wr 3 [1, (k : Int) - 1] hl5 (by unfold maxLen; simp)
        rw [show toI (topsN 73 k) = [1, (k : Int) - 1] by simp [topsN, toI]; omega]
        exact this
      have hTl : (topsN 73 k).length = 2 := by simp [topsN]
      have hbt : Below w5.heap.size w5 (wr.alloc (.cells #[.int .i64 1, .int .i64 ((k : Int) - 1)] 3)) := hb.alloc hl5 _
      obtain ⟨T, hT⟩ : ∃ T, topsN 73 k = T := ⟨_, rfl⟩
      rw [hT] at ho' hTl HPO HW
      clear hb hbr hT
      go_wp2
      obtain ⟨wt, hwt⟩ : ∃ wt, wr.alloc (.cells #[.int .i64 1, .int .i64 ((k : Int) - 1)] 3) = wt := ⟨_, rfl⟩
      have hws : wr.heap.size + 1 = wt.heap.size := by rw [← hwt]; simp
      rw [hwt] at ho' hbt ⊢
      rw [hws]
      obtain ⟨gT, hgT⟩ : ∃ gT, wr.heap.size = gT := ⟨_, rfl⟩
      obtain ⟨cT, hcT⟩ : ∃ cT, 2 = cT := ⟨_, rfl⟩
      rw [hgT] at ho' ⊢
      have HOT := Lib.hid (show OwnI 3 w5.heap.size wt (.slice (some ⟨gT, 0, none⟩) T.length 2) (toI T) by rw [hTl]; exact ho')
      have HBT := Lib.hid hbt
      have HTL := Lib.hid hTl
      have hTi : (2 : Int) = (T.length : Int) := by omega
      rw [hTi]
      clear ho' hbt hwt hws hgT hcT hTl hTi q0 q1
      have hTl12 := pol_len HPO.out
      go_loopw [8, 69] (fun s8 s69 wr => ∃ t : Nat, t ≤ T.length ∧ s69 = .int .i64 t ∧ OwnI 3 wt.heap.size wr s8 (toI (wantTo T t)) ∧ Below wt.heap.size wt wr) (fun _ i _ => T.length - (intOf i).toNat)
      case atStart => exact ⟨0, Nat.zero_le _, rfl, own_fresh wt _ [1] (Nat.le_refl _) (by decide), (Below.refl _ _).alloc (Nat.le_refl _) _⟩
      case round =>
        obtain ⟨t, htl, rfl, ho, hb⟩ := hrel
        obtain ⟨wa, rfl⟩ : ∃ wa : World, wa = wr := ⟨_, rfl⟩
        by_cases hlt : t < T.length
        · have hti : (t : Int) < (T.length : Int) := by omega
          have hti2 : (t : Int) < 2 := by have := HTL.out; omega
          have cT0 := (HOT.out.below hb).cellN t hlt
          have HP := Lib.hid (pol_at HPO.out hlt)
          have HS := Lib.hid (show wantTo T (t + 1) = nxI (wantTo T t) (T.getD t 0) (wantTo T t).length from rfl)
          have h40 := HP.out.l40
          have h12 := HP.out.k12
          have HX := Lib.hid HP.out.x
          have HC := Lib.hid HP.out.c
          have hgd := getDN (l := T) (i := t) hlt
          obtain ⟨k, hk⟩ : ∃ k, T[t] = k := ⟨_, rfl⟩
          rw [hk] at cT0 hgd
          rw [hgd] at HS h12 HC
          obtain ⟨wv, hwv⟩ : ∃ wv, wantTo T t = wv := ⟨_, rfl⟩
          rw [hwv] at HS h40 HX HC ho
          have hmk := make_intsA wv.length k (by omega)
          have HO := Lib.hid ho
          have HB := Lib.hid hb
          obtain ⟨aw, cw, hwf⟩ := HO.out.form
          rw [toI_length] at hwf
          subst hwf
          have hle := hb.size
          have hza := own_zeros (B := wa.heap.size) wa (wv.length + k) (Nat.le_refl _) (by unfold maxLen; omega)
          have HZA := Lib.hid hza
          clear HP hgd hk hwv ho hb hza
          go_wp2
          go_loopw [80] (fun s80 wr => ∃ i : Nat, i ≤ wv.length ∧ s80 = .int .i64 i ∧ OwnI 3 wa.heap.size wr (.slice (some ⟨wa.heap.size, 0, none⟩) (wv.length + k) (wv.length + k)) (toI (nxI wv k i)) ∧ Below wa.heap.size wa wr) (fun i _ => wv.length - (intOf i).toNat)
          case atStart => exact ⟨0, Nat.zero_le _, rfl, HZA.out, (Below.refl _ _).alloc (Nat.le_refl _) _⟩
          case round =>
            obtain ⟨i, hil, rfl, hoi, hbi⟩ := hrel
            obtain ⟨wb, rfl⟩ : ∃ wb : World, wb = wr := ⟨_, rfl⟩
            by_cases hli : i < wv.length
            · have hii : (i : Int) < (wv.length : Int) := by omega
              obtain ⟨gw, cw2, ew⟩ := HO.out.ne_nil hli
              obtain ⟨ew1, _, ew2⟩ := Value.slice.inj ew
              subst ew1
              subst ew2
              have cx := (HO.out.below hbi).cellN i hli
              have HXi := Lib.hid (HX.out i hli)
              have HCi := Lib.hid (HC.out i hli)
              have HN := Lib.hid (show nxI wv k (i + 1) = nxJ (wv.getD i 0) i (nxI wv k i) (k + 1) from rfl)
              have hgx := getDN (l := wv) (i := i) hli
              obtain ⟨x, hx⟩ : ∃ x, wv[i] = x := ⟨_, rfl⟩
              rw [hx] at cx hgx
              rw [hgx] at HXi HCi HN
              have hx1 := HXi.out
              have HLN := Lib.hid (nxI_len wv k i)
              have HOI := Lib.hid hoi
              have HBI := Lib.hid hbi
              clear hgx hx hoi hbi ew
              go_wp2
              go_loopw [87] (fun s87 wr => ∃ j : Nat, j ≤ k + 1 ∧ s87 = .int .i64 j ∧ OwnI 3 wa.heap.size wr (.slice (some ⟨wa.heap.size, 0, none⟩) (wv.length + k) (wv.length + k)) (toI (nxJ x i (nxI wv k i) j)) ∧ Below wa.heap.size wa wr) (fun j _ => k + 1 - (intOf j).toNat)
              case atStart => exact ⟨0, Nat.zero_le _, rfl, HOI.out, HBI.out⟩
              case round =>
                obtain ⟨j, hjl, rfl, hoj, hbj⟩ := hrel
                by_cases hlj : j < k + 1
                · have hji : (j : Int) < (k : Int) + 1 := by omega
                  have hlen : i + j < (nxJ x i (nxI wv k i) j).length := by rw [nxJ_len, HLN.out]; omega
                  have cc := hoj.cellN (i + j) hlen
                  have fc := hoj.frozenN (i + j)
                  have hc1 := HCi.out j hlj _ (List.getElem_mem hlen)
                  have HM := Lib.hid (show nxJ x i (nxI wv k i) (j + 1) = (nxJ x i (nxI wv k i) j).set (i + j) ((nxJ x i (nxI wv k i) j)[i + j] + x) from modify_setX x _ _ hlen)
                  obtain ⟨z, hz⟩ : ∃ z, (nxJ x i (nxI wv k i) j)[i + j] = z := ⟨_, rfl⟩
                  rw [hz] at cc hc1 HM
                  have HOJ := Lib.hid hoj
                  have HBJ := Lib.hid hbj
                  have hij : (i : Int) + (j : Int) < (wv.length : Int) + (k : Int) := by omega
                  clear hz hlen hoj hbj
                  go_wp2
                  go_roundw
                  case rel => exact ⟨j + 1, by omega, by go_num, by rw [HM.out]; have := HOJ.out.storedN (i + j) (z + x); simpa using this, HBJ.out.setCell (Nat.le_refl _) _⟩
                  case measure => simp [intOf]; omega
                · obtain rfl : j = k + 1 := by omega
                  have hji : ¬ ((k + 1 : Nat) : Int) < (k : Int) + 1 := by omega
                  have hji2 : ¬ (k : Int) + 1 < (k : Int) + 1 := by omega
                  have HOJ := Lib.hid hoj
                  have HBJ := Lib.hid hbj
                  clear hoj hbj
                  go_wp2
                  go_roundw
                  case rel => exact ⟨i + 1, by omega, by go_num, by rw [HN.out]; exact HOJ.out, HBJ.out⟩
                  case measure => simp [intOf]; omega
            · obtain rfl : i = wv.length := by omega
              have hii : ¬ ((wv.length : Nat) : Int) < (wv.length : Int) := by omega
              have HOI := Lib.hid hoi
              have HBI := Lib.hid hbi
              clear hoi hbi
              go_wp2
              go_roundw
              case rel => exact ⟨t + 1, by omega, by go_num, by rw [HS.out]; have := HOI.out.mono hle; unfold OwnI at this ⊢; simpa using this, HB.out.trans (HBI.out.mono hle)⟩
              case measure => simp [intOf]; omega
        · obtain rfl : t = T.length := by omega
          have hti : ¬ ((T.length : Nat) : Int) < (T.length : Int) := by omega
          rw [HW.out] at ho
          have hb5r : Below w5.heap.size w5 wa := HBT.out.trans (hb.mono HBT.out.size)
          have HO2r := Lib.hid (HO2.out.below hb5r)
          have HO5r := Lib.hid (HO5.out.below hb5r)
          have HO8 := Lib.hid ho
          have HBR := Lib.hid (chainS HB5.out hb5r)
          obtain ⟨a8, n8, c8, hf8⟩ := own_form ho
          subst hf8
          clear ho hb hb5r
          go_wp2_with (first
            | (go_at_call 20; refine (AW.out _).mono ?_; rintro e w8 ⟨rfl, hb8'⟩)
            | (go_at_call 23; refine (EqualM_any _ _ _ _ w6 ((HO2r.out.below hb6').ints hlC) ((HO8.out.below hb6').ints hlC) true (by simp)).mono ?_; rintro e w7 ⟨rfl, hb7'⟩)
            | (go_at_call 23; refine (EqualM_any _ _ _ _ wa (HO2r.out.ints hlC) (HO5r.out.ints hlC) true (by simp)).mono ?_; rintro e w6 ⟨rfl, hb6'⟩))
          go_ret
          exact ⟨rfl, chainE (chainS (chainS (chainS HBR.out hb6') hb7') hb8')⟩

theorem mirrorCounts_true (K : Nat) (n : Int) (w : World) (hK : K < 256) :
    Calls Try.prog 9 #[grpI K n] w (TrueM w) := by
  cases hv : validI K n with
  | false => exact CountsL_no K n w hK hv
  | true =>
    obtain ⟨m, rfl, hm⟩ := validI_nat hv
    unfold grpI
    have h := hm
    unfold validB at h
    simp only [Bool.or_eq_true, Bool.and_eq_true, beq_iff_eq, decide_eq_true_eq] at h
    rcases h with (⟨⟨rfl, h1⟩, h2⟩ | ⟨⟨rfl, h1⟩, h2⟩) | ⟨⟨rfl, h1⟩, h2⟩
    · exact CountsL_65 m w hm (by omega) (by omega)
    · exact CountsL_66 m w hm (by omega) (by omega)
    · exact CountsL_73 m w hm (by omega) (by omega)
end Go.Proofs.Ytmlhecfhhhebnaa
