/- TracesSplits' walk. -/
import Derived.Test.YtdackakjcnnofaaPs
import Derived.Test.YtdackakjcnnofaaAx
import Derived.Test.YtdackakjcnnofaaOb
import Derived.Test.YtdackakjcnnofaaB1
namespace Go.Proofs.Ytdackakjcnnofaa
open Go.RowKit
attribute [local go_sem] Oper.semAt_some

set_option maxRecDepth 100000 in
set_option maxHeartbeats 4000000 in
theorem splits_err (v vf : Value) (L : List (List Int)) (F : List Int) (w : World) (h : Args w v L) (hf : Ints w vf F) (k : Int) (hk : k = 2 ∨ k = 6)
    (hT : ∀ u w', Args w' u (tabA L) → Calls Try.prog 6 #[u] w' fun e w2 => ∃ a n cp, e = .returned (.tuple #[.slice a n cp, .int .i64 k]) ∧ Below w'.heap.size w' w2)
    (hP : ∀ u w', Args w' u (tabA L) → Calls Try.prog 16 #[u] w' fun e w2 => e = .returned (.tuple #[.int .i64 0, .int .i64 k]) ∧ Below w'.heap.size w' w2) :
    Calls Try.prog 5 #[v, vf] w fun e w' => e = .returned (.bool true) ∧ Below w.heap.size w w' := by
  have TA := Lib.hid (fun w' (hb : Below w.heap.size w w') => table_any v L w' (h.below hb))
  have PT := Lib.hid hT
  have PP := Lib.hid hP
  have AW := Lib.hid awake_any
  have HB := Lib.hid (Below.refl w.heap.size w)
  have HTL := Lib.hid (show (tabA L).length ≤ 1000000 by have := tabA_len L; omega)
  obtain ⟨af, cf, rfl, -, -, -⟩ := id hf
  clear h hT hP hf
  rcases hk with rfl | rfl
  all_goals go_enter Try.func5, Try.ntmps5
  all_goals go_wp2_with (first
    | (go_at_call 7; refine (TA.out _ HB.out).mono ?_; rintro e wt ⟨u, S, rfl, hg, hb⟩; have HT := Lib.hid (hg.1.args HTL.out); have HB := Lib.hid (HB.out.trans (hb.mono HB.out.size)); clear hg hb)
    | (go_at_call 6; refine (PT.out _ _ HT.out).mono ?_; rintro e we ⟨ax, nx, cx, rfl, hb⟩; have HB := Lib.hid (HB.out.trans (hb.mono HB.out.size)); clear hb)
    | (go_at_call 16; refine (PP.out _ _ HT.out).mono ?_; rintro e we ⟨rfl, hb⟩; have HB := Lib.hid (HB.out.trans (hb.mono HB.out.size)); clear hb)
    | (go_at_call 10; refine (AW.out _).mono ?_; rintro e wa ⟨rfl, hb⟩; have HB := Lib.hid (HB.out.trans (hb.mono HB.out.size)); clear hb))
  all_goals go_ret
  all_goals exact ⟨rfl, HB.out⟩
/-- The sum of the first rows at a class, each as often as told. -/
def bkI (S : List Int) (T : List (List Int)) (k : Nat) : Nat → Int
  | 0 => 0
  | j + 1 => bkI S T k j + S.getD j 0 * (T.getD j []).getD k 0
/-- The product of two functions, value by value. -/
def mulI (q : Nat) (x y : List Int) (k : Nat) : List Int := (List.range k).map fun i => (x.getD i 0 * y.getD i 0).tmod (q : Int)
theorem mulI_succ (q : Nat) (x y : List Int) (k : Nat) : mulI q x y (k + 1) = mulI q x y k ++ [(x.getD k 0 * y.getD k 0).tmod (q : Int)] := by simp [mulI, List.range_succ]
theorem mulI_len (q : Nat) (x y : List Int) (k : Nat) : (mulI q x y k).length = k := by simp [mulI]
/-- Whether the first values are 1. -/
def oneB (x : List Int) (k : Nat) : Bool := (x.take k).all fun y => y == 1
theorem oneB_succ {x : List Int} {k : Nat} (h : k < x.length) : oneB x (k + 1) = (oneB x k && (x[k] == 1)) := by
  unfold oneB
  rw [List.take_succ_eq_append_getElem h, List.all_append]; simp
theorem getD_atS {l : List Int} {i : Nat} (h : i < l.length) : l.getD i 0 = l[i] := by rw [List.getD_eq_getElem?_getD, List.getElem?_eq_getElem h]; rfl
/-- What the law asks of a table. -/
structure SplF (q m : Nat) (T : List (List Int)) (FX : List Int) (o : Nat) (SF : List Int) (SP : Nat → Nat → List Int) : Prop where
  q2 : 2 ≤ q
  q62 : q < 62
  m0 : 0 < m
  m24 : m ≤ 24
  tl : T.length ≤ 24
  t0 : 0 < T.length
  rl : ∀ r ∈ T, funB q m r = true
  spl : ∀ i j, i < T.length → j < T.length → (SP i j).length = T.length
  spb : ∀ i j (hi : i < T.length) (hj : j < T.length), ∀ n ∈ SP i j, 0 ≤ n ∧ n ≤ min ((T[i]).getD 0 0) ((T[j]).getD 0 0)
  fx : FX.length ≤ 24
  sf : SF.length = T.length
  sfo : ∀ k (h : k < T.length), oneB T[k] m = true → SF.getD k 0 = (o : Nat)
  o24 : o ≤ 24
set_option maxRecDepth 100000 in
set_option maxHeartbeats 8000000 in
theorem splits_bad {q m o : Nat} {T : List (List Int)} {FX SF : List Int} {SP : Nat → Nat → List Int} (v vf : Value) (L : List (List Int)) (F : List Int) (w : World) (h : Args w v L) (hf : Ints w vf F) (hF : SplF q m T FX o SF SP)
    (hT : ∀ u w', Args w' u (tabA L) → Calls Try.prog 6 #[u] w' fun e w2 => ∃ x, e = .returned (.tuple #[x, .int .i64 0]) ∧ Args w2 x T ∧ Below w'.heap.size w' w2)
    (hP : ∀ u w', Args w' u (tabA L) → Calls Try.prog 16 #[u] w' fun e w2 => e = .returned (.tuple #[.int .i64 (q : Nat), .int .i64 0]) ∧ Below w'.heap.size w' w2)
    (hS : ∀ i j (hi : i < T.length) (hj : j < T.length) u x w', Args w' u (tabA L) → Ints w' x (mulI q T[i] T[j] m) → Calls Try.prog 17 #[u, x] w' fun e w2 => ∃ s, e = .returned (.tuple #[s, .int .i64 0]) ∧ Ints w2 s (SP i j) ∧ Below w'.heap.size w' w2)
    (hFX : ∀ u w', Args w' u (tabA L) → Calls Try.prog 19 #[u] w' fun e w2 => ∃ s, e = .returned (.tuple #[s, .int .i64 0]) ∧ Ints w2 s FX ∧ Below w'.heap.size w' w2)
    (hOR : ∀ u w', Args w' u (tabA L) → Calls Try.prog 20 #[u] w' fun e w2 => ∃ a c, e = .returned (.tuple #[.slice a o c, .int .i64 0]) ∧ Below w'.heap.size w' w2)
    (hSF : ∀ u x w', Args w' u (tabA L) → Ints w' x FX → Calls Try.prog 17 #[u, x] w' fun e w2 => ∃ s, e = .returned (.tuple #[s, .int .i64 0]) ∧ Ints w2 s SF ∧ Below w'.heap.size w' w2)
    (hSB : ∀ u x w', Args w' u (tabA L) → Ints w' x (F.take 30) → Calls Try.prog 17 #[u, x] w' fun e w2 => e = .returned (.tuple #[.slice none 0 0, .int .i64 2]) ∧ Below w'.heap.size w' w2) :
    Calls Try.prog 5 #[v, vf] w fun e w' => e = .returned (.bool true) ∧ Below w.heap.size w w' := by
  have TA := Lib.hid (fun w' (hb : Below w.heap.size w w') => table_any v L w' (h.below hb))
  have LF := Lib.hid (fun w' (hb : Below w.heap.size w w') => list_any vf F w' (hf.below hb))
  have PT := Lib.hid hT
  have PP := Lib.hid hP
  have PS := Lib.hid hS
  have PFX := Lib.hid hFX
  have POR := Lib.hid hOR
  have PSF := Lib.hid hSF
  have AW := Lib.hid awake_any
  have HB := Lib.hid (Below.refl w.heap.size w)
  have HTL := Lib.hid (show (tabA L).length ≤ 1000000 by have := tabA_len L; omega)
  have HF := Lib.hid hF
  have HFW := Lib.hid hf
  have hq2 := hF.q2
  have hq62 := hF.q62
  have hm0 := hF.m0
  have hm24 := hF.m24
  have htl := hF.tl
  have ht0 := hF.t0
  have ho24 := hF.o24
  have HSL := Lib.hid hF.sf
  obtain ⟨af, cf, rfl, -, -, -⟩ := id hf
  obtain ⟨lf, hlf⟩ : ∃ x, F.length = x := ⟨_, rfl⟩
  have HLF := Lib.hid hlf
  obtain ⟨t, ht⟩ : ∃ x, T.length = x := ⟨_, rfl⟩
  have HR := Lib.hid ht
  rw [ht] at htl ht0 HSL
  rw [hlf] at LF HFW ⊢
  have hqi : ¬ (q : Int) < 2 := by omega
  have hqi' : decide ((q : Int) < 2) = false := by simp; omega
  have hqd : decide (q < 2) = false := by simp; omega
  have hmm : ((m : Int) != (m : Int)) = false := by simp
  have hm00 : ((m : Int) == 0) = false := by simp; omega
  have PSL := Lib.hid hSB
  clear h hf hT hP hS hFX hOR hSF hSB hF ht hlf
  go_enter Try.func5, Try.ntmps5
  go_wp2_with (first
    | (go_at_call 7; refine (TA.out _ HB.out).mono ?_; rintro e wt ⟨u, S, rfl, hg, hb⟩; have HT := Lib.hid (hg.1.args HTL.out); have HB := Lib.hid (HB.out.trans (hb.mono HB.out.size)); (try (have HXT := Lib.hid (HXT.out.below hb))); clear hg hb)
    | (go_at_call 6; refine (PT.out _ _ HT.out).mono ?_; rintro e we ⟨x1, rfl, hx, hb⟩; obtain ⟨aT, cT, rfl⟩ := hx.form; have HXT := Lib.hid hx; rw [HR.out] at HXT ⊢; have HB := Lib.hid (HB.out.trans (hb.mono HB.out.size)); clear hb hx)
    | (go_at_call 16; refine (PP.out _ _ HT.out).mono ?_; rintro e we ⟨rfl, hb⟩; have HXT := Lib.hid (HXT.out.below hb); have HB := Lib.hid (HB.out.trans (hb.mono HB.out.size)); clear hb))
  try simp only [hqd]
  obtain ⟨gT, oT, cT2, e1, hgT⟩ := args_fix HXT.out (by rw [HR.out]; exact ht0)
  obtain ⟨rfl, -, rfl⟩ := Value.slice.inj e1
  have HRT := Lib.hid (show ∀ i (hi : i < T.length), ∃ aU cU, ∀ W, Below we.heap.size we W → W.cell? ⟨gT, oT + i, none⟩ = some (.slice aU m cU) ∧ Ints W (.slice aU m cU) T[i] from fun i hi => by
    obtain ⟨aU, cU, hr⟩ := hgT i hi
    rw [(funB_iff.1 (HF.out.rl _ (List.getElem_mem hi))).1] at hr
    exact ⟨aU, cU, hr⟩)
  have hg0 := (hgT 0 (by rw [HR.out]; exact ht0))
  obtain ⟨a0, c0, hg0⟩ := HRT.out 0 (by rw [HR.out]; exact ht0)
  have HG0 := Lib.hid (fun W (hb : Below we.heap.size we W) => show W.cell? ⟨gT, oT, none⟩ = some (.slice a0 m c0) from (hg0 W hb).1)
  have HTR := Lib.hid (fun i (hi : i < T.length) => show (T[i]).length = m from (funB_iff.1 (HF.out.rl _ (List.getElem_mem hi))).1)
  have HTB := Lib.hid (fun i (hi : i < T.length) k => getD_bound (show 0 < q by omega) (funB_iff.1 (HF.out.rl _ (List.getElem_mem hi))).2 k)
  clear e1 hgT hg0
  go_loopw [73] (fun ix wr => ∃ k : Nat, k ≤ t ∧ ix = .int .i64 k ∧ Below we.heap.size we wr) (fun ix _ => t - (intOf ix).toNat)
  case atStart => exact ⟨0, Nat.zero_le _, rfl, Below.refl _ _⟩
  case round =>
    obtain ⟨k, hk, rfl, hb⟩ := hrel
    have HB1 := Lib.hid hb
    by_cases hlt : k < t
    · have hki : (k : Int) < (t : Int) := by omega
      have ht0i : (0 : Int) < (t : Int) := by omega
      have hkT : k < T.length := by rw [HR.out]; exact hlt
      obtain ⟨aU, cU, hrow⟩ := HRT.out k hkT
      have hcu := (hrow wr hb).1
      have hc0 := HG0.out wr hb
      clear hb hrow
      go_wp2
      go_roundw
      case rel => exact ⟨k + 1, hlt, by go_num, HB1.out⟩
      case measure => simp [intOf]; omega
    · obtain rfl : t = k := by omega
      have hki : ¬ (t : Int) < (t : Int) := by omega
      clear hb
      go_wp2_with (first
        | (go_at_call 7; refine (TA.out _ (HB.out.trans (HB1.out.mono HB.out.size))).mono ?_; rintro e wt ⟨u, S, rfl, hg, hb⟩; have HT := Lib.hid (hg.1.args HTL.out); have HB1 := Lib.hid (HB1.out.trans (hb.mono HB1.out.size)); clear hg hb)
        | (go_at_call 18; refine (LF.out _ (HB.out.trans (HB1.out.mono HB.out.size))).mono ?_; rintro e wl ⟨vl, rfl, ho, hb⟩; have HT := Lib.hid (HT.out.below hb); have HLI := Lib.hid (ho.ints (by rw [List.length_take]; omega)); have HB1 := Lib.hid (HB1.out.trans (hb.mono HB1.out.size)); clear ho hb)
        | (go_at_call 17; refine (PSL.out _ _ _ HT.out HLI.out).mono ?_; rintro e ws ⟨rfl, hb⟩; have HB1 := Lib.hid (HB1.out.trans (hb.mono HB1.out.size)); clear hb))
      go_wp2
      go_loopw [146] (fun ix wr => ∃ i : Nat, i ≤ t ∧ ix = .int .i64 i ∧ Below we.heap.size we wr) (fun ix _ => t - (intOf ix).toNat)
      case atStart => exact ⟨0, Nat.zero_le _, rfl, HB1.out⟩
      case round =>
        obtain ⟨i, hi, rfl, hb⟩ := hrel
        have HB4 := Lib.hid hb
        by_cases hli : i < t
        · have hii : (i : Int) < (t : Int) := by omega
          have hiT : i < T.length := by rw [HR.out]; exact hli
          obtain ⟨aX, cX, hrow⟩ := HRT.out i hiT
          have hcx := (hrow wr hb).1
          have HRX := Lib.hid (show ∃ bX oX, aX = some ⟨bX, oX, none⟩ ∧ ∀ W, Below we.heap.size we W → ∀ k, k < m → W.cell? ⟨bX, oX + k, none⟩ = some (.int .i64 ((T[i]).getD k 0)) from by
            obtain ⟨b2, o2, rfl, h2⟩ := ints_at (hrow wr hb).2 (by rw [HTR.out i hiT]; exact hm0)
            refine ⟨b2, o2, rfl, fun W hW k hk => ?_⟩
            obtain ⟨b3, o3, e3, h3⟩ := ints_at (hrow W hW).2 (by rw [HTR.out i hiT]; exact hm0)
            obtain ⟨rfl, rfl⟩ : b2 = b3 ∧ o2 = o3 := by simpa using e3
            exact h3 k (by rw [HTR.out i hiT]; exact hk))
          obtain ⟨bX, oX, rfl, hX⟩ := HRX.out
          have HX := Lib.hid hX
          clear hb hrow HRX hX
          go_wp2
          go_loopw [152] (fun ix wr => ∃ j : Nat, j ≤ t ∧ ix = .int .i64 j ∧ Below we.heap.size we wr) (fun ix _ => t - (intOf ix).toNat)
          case atStart => exact ⟨0, Nat.zero_le _, rfl, HB4.out⟩
          case round =>
            obtain ⟨j, hj, rfl, hb⟩ := hrel
            have HB5 := Lib.hid hb
            clear hcx
            by_cases hlj : j < t
            · have hji : (j : Int) < (t : Int) := by omega
              have hjT : j < T.length := by rw [HR.out]; exact hlj
              obtain ⟨aY, cY, hrow⟩ := HRT.out j hjT
              have hcy := (hrow wr hb).1
              have HRY := Lib.hid (show ∃ bY oY, aY = some ⟨bY, oY, none⟩ ∧ ∀ W, Below we.heap.size we W → ∀ k, k < m → W.cell? ⟨bY, oY + k, none⟩ = some (.int .i64 ((T[j]).getD k 0)) from by
                obtain ⟨b2, o2, rfl, h2⟩ := ints_at (hrow wr hb).2 (by rw [HTR.out j hjT]; exact hm0)
                refine ⟨b2, o2, rfl, fun W hW k hk => ?_⟩
                obtain ⟨b3, o3, e3, h3⟩ := ints_at (hrow W hW).2 (by rw [HTR.out j hjT]; exact hm0)
                obtain ⟨rfl, rfl⟩ : b2 = b3 ∧ o2 = o3 := by simpa using e3
                exact h3 k (by rw [HTR.out j hjT]; exact hk))
              obtain ⟨bY, oY, rfl, hY⟩ := HRY.out
              have HY := Lib.hid hY
              have PSS := Lib.hid (PS.out i j hiT hjT)
              have HSL2 := Lib.hid (HF.out.spl i j hiT hjT)
              have HSB2 := Lib.hid (HF.out.spb i j hiT hjT)
              have HTI := Lib.hid (HTB.out i hiT)
              have HTJ := Lib.hid (HTB.out j hjT)
              rw [HR.out] at HSL2
              obtain ⟨X, hXe⟩ : ∃ X, T[i] = X := ⟨_, rfl⟩
              obtain ⟨Y, hYe⟩ : ∃ Y, T[j] = Y := ⟨_, rfl⟩
              obtain ⟨P, hPe⟩ : ∃ P, SP i j = P := ⟨_, rfl⟩
              rw [hXe] at PSS HSB2 HTI
              rw [hYe] at PSS HSB2 HTJ HY
              rw [hPe] at PSS HSB2 HSL2
              have HXX := Lib.hid HX.out
              rw [hXe] at HXX
              clear hb hrow HRY hY hXe hYe hPe
              obtain ⟨wA, hwA⟩ : ∃ x, x = wr := ⟨_, rfl⟩
              have HB6 := Lib.hid HB5.out
              rw [← hwA] at HB6 hcy ⊢
              clear hwA
              go_wp2
              go_loopw [22, 158] (fun vp ix wq => ∃ k : Nat, k ≤ m ∧ ix = .int .i64 k ∧ OwnI 3 wA.heap.size wq vp (mulI q X Y k) ∧ Below wA.heap.size wA wq) (fun _ ix _ => m - (intOf ix).toNat)
              case atStart => exact ⟨0, Nat.zero_le _, rfl, OwnI.nil _ _ _, Below.refl _ _⟩
              case round =>
                obtain ⟨k, hk, rfl, ho, hb⟩ := hrel
                have HO := Lib.hid ho
                have HB7 := Lib.hid hb
                have HBW7 := Lib.hid (HB6.out.trans (hb.mono HB6.out.size))
                have hle7 := hb.size
                obtain ⟨a22, n22, c22, rfl⟩ := own_form ho
                clear ho hb hcy
                by_cases hlk : k < m
                · have hki : (k : Int) < (m : Int) := by omega
                  have hc1 := HXX.out wr HBW7.out k hlk
                  have hc2 := HY.out wr HBW7.out k hlk
                  have hx := HTI.out k
                  have hy := HTJ.out k
                  have HMS := Lib.hid (mulI_succ q X Y k)
                  have HML := Lib.hid (show (mulI q X Y k).length < 1000000 by rw [mulI_len]; omega)
                  obtain ⟨x, hxe⟩ : ∃ x, X.getD k 0 = x := ⟨_, rfl⟩
                  obtain ⟨y, hye⟩ : ∃ y, Y.getD k 0 = y := ⟨_, rfl⟩
                  rw [hxe] at hc1 hx HMS
                  rw [hye] at hc2 hy HMS
                  have hxy : x * y ≤ 61 * 61 := Int.mul_le_mul (by omega) (by omega) (by omega) (by omega)
                  have hxy0 : 0 ≤ x * y := Int.mul_nonneg (by omega) (by omega)
                  have hw1 : IntKind.i64.wrap (x * y) = x * y := IntWalk.i64_in _ (by omega)
                  have hq0 : ¬ (q : Int) = 0 := by omega
                  have hq00 : ¬ q = 0 := by omega
                  obtain ⟨z, hze⟩ : ∃ z, (x * y).tmod (q : Int) = z := ⟨_, rfl⟩
                  rw [hze] at HMS
                  clear hxe hye hx hy hxy hxy0
                  go_upto_region 43 with (fail)
                  obtain ⟨wB, hwB⟩ : ∃ x, x = wr := ⟨_, rfl⟩
                  go_region_law (refine step_app1_at (by rfl) (.tmp 161) (.tmp 173) (by rfl) wA.heap.size (.slice a22 n22 c22) (mulI q X Y k) z (by rfl) (HO.out.drew.alloc _) ⟨wr.heap.size, 0, none⟩ 1 (by rfl) (cell_new1 _ _ _) HML.out (by have := hle7; simp; omega) ?_; intro v8 w8 ho8 hg8 hl8)
                  all_goals
                    have HO8 := Lib.hid ho8
                    have HB8 := Lib.hid ((((below_drewN HB7.out 1)).alloc (by simp; omega) (.cells #[.int .i64 z] 3)).grown hg8 (by simp; omega) (fun j hj => (HO.out.lt j hj).1))
                    clear ho8 hg8 hl8
                    go_wp2
                    go_roundw
                    case rel => exact ⟨k + 1, hlk, by go_num, by rw [HMS.out]; exact HO8.out, HB8.out⟩
                    case measure => simp [intOf]; omega
                · obtain rfl : m = k := by omega
                  have hki : ¬ (m : Int) < (m : Int) := by omega
                  have HIP := Lib.hid (HO.out.ints (by rw [mulI_len]; omega))
                  have HB8 := Lib.hid HBW7.out
                  go_upto_region 48 with (first
                    | (go_at_call 7; refine (TA.out _ (HB.out.trans (HB8.out.mono HB.out.size))).mono ?_; rintro e wt ⟨u, S, rfl, hg, hb⟩; have HT := Lib.hid (hg.1.args HTL.out); have HIP := Lib.hid (HIP.out.below hb); have HB8 := Lib.hid (HB8.out.trans (hb.mono HB8.out.size)); clear hg hb)
                    | (go_at_call 17; refine (PSS.out _ _ _ HT.out HIP.out).mono ?_; rintro e ws ⟨s1, rfl, hs1, hb⟩; have HSX := Lib.hid hs1; obtain ⟨aS, cS, rfl, -, -, -⟩ := id hs1; rw [HSL2.out] at HSX ⊢; have HB8 := Lib.hid (HB8.out.trans (hb.mono HB8.out.size)); clear hs1 hb))
                  obtain ⟨bS, oS, rfl, hcS⟩ := ints_at HSX.out (by rw [HSL2.out]; exact ht0)
                  have HCS := Lib.hid (fun W (hb : Below ws.heap.size ws W) j (hj : j < t) => show W.cell? ⟨bS, oS + j, none⟩ = some (.int .i64 (P.getD j 0)) from by
                    obtain ⟨b2, o2, e2, h2⟩ := ints_at (HSX.out.below hb) (by rw [HSL2.out]; exact ht0)
                    obtain ⟨rfl, rfl⟩ : bS = b2 ∧ oS = o2 := by simpa using e2
                    exact h2 j (by rw [HSL2.out]; exact hj))
                  clear hcS
                  go_wp2
                  go_loopw [187] (fun ix wq => ∃ s : Nat, s ≤ t ∧ ix = .int .i64 s ∧ Below ws.heap.size ws wq) (fun ix _ => t - (intOf ix).toNat)
                  case atStart => exact ⟨0, Nat.zero_le _, rfl, Below.refl _ _⟩
                  case round =>
                    obtain ⟨s, hs, rfl, hb⟩ := hrel
                    have HB9 := Lib.hid hb
                    have HBW9 := Lib.hid (HB8.out.trans (hb.mono HB8.out.size))
                    by_cases hls : s < t
                    · have hsi : (s : Int) < (t : Int) := by omega
                      have hcs := HCS.out wr hb s hls
                      have hm0i : (0 : Int) < (m : Int) := by omega
                      have hc1 := HXX.out wr HBW9.out 0 hm0
                      have hc2 := HY.out wr HBW9.out 0 hm0
                      rw [Nat.add_zero] at hc1 hc2
                      have hsP : s < P.length := by rw [HSL2.out]; exact hls
                      have hbd := HSB2.out _ (List.getElem_mem hsP)
                      rw [getD_atS hsP] at hcs
                      obtain ⟨n, hne⟩ : ∃ n, P[s] = n := ⟨_, rfl⟩
                      obtain ⟨x, hxe⟩ : ∃ x, X.getD 0 0 = x := ⟨_, rfl⟩
                      obtain ⟨y, hye⟩ : ∃ y, Y.getD 0 0 = y := ⟨_, rfl⟩
                      rw [hne] at hcs hbd
                      rw [hxe] at hc1 hbd
                      rw [hye] at hc2 hbd
                      have hn0 : decide (n < 0) = false := by simp; omega
                      have hn1 : decide (min x y < n) = false := by simp; omega
                      have hn2 : ¬ min x y < n := by omega
                      clear hb hsP hbd hne hxe hye
                      go_wp2
                      go_quiet (fail)
                      go_wp2
                      go_roundw
                      case rel => exact ⟨s + 1, hls, by go_num, below_drewN HB9.out _⟩
                      case measure => simp [intOf]; omega
                    · obtain rfl : t = s := by omega
                      have hsi : ¬ (t : Int) < (t : Int) := by omega
                      clear hb
                      go_wp2
                      go_roundw
                      case rel => exact ⟨j + 1, hlj, by go_num, HBW9.out⟩
                      case measure => simp [intOf]; omega
            · obtain rfl : t = j := by omega
              have hji : ¬ (t : Int) < (t : Int) := by omega
              clear hb
              go_wp2
              go_roundw
              case rel => exact ⟨i + 1, hli, by go_num, HB5.out⟩
              case measure => simp [intOf]; omega
        · obtain rfl : t = i := by omega
          have hii : ¬ (t : Int) < (t : Int) := by omega
          clear hb
          go_upto_region 61 with (first
            | (go_at_call 7; refine (TA.out _ (HB.out.trans (HB4.out.mono HB.out.size))).mono ?_; rintro e wt ⟨u, S, rfl, hg, hb⟩; have HT := Lib.hid (hg.1.args HTL.out); (try (have HFI := Lib.hid (HFI.out.below hb))); have HB4 := Lib.hid (HB4.out.trans (hb.mono HB4.out.size)); clear hg hb)
            | (go_at_call 19; refine (PFX.out _ _ HT.out).mono ?_; rintro e wf ⟨s1, rfl, hs1, hb⟩; have HFI := Lib.hid hs1; obtain ⟨aG, cG, rfl, -, -, -⟩ := id hs1; have HB4 := Lib.hid (HB4.out.trans (hb.mono HB4.out.size)); clear hs1 hb)
            | (go_at_call 20; refine (POR.out _ _ HT.out).mono ?_; rintro e wo ⟨aO, cO, rfl, hb⟩; have HFI := Lib.hid (HFI.out.below hb); have HB4 := Lib.hid (HB4.out.trans (hb.mono HB4.out.size)); clear hb)
            | (go_at_call 17; refine (PSF.out _ _ _ HT.out HFI.out).mono ?_; rintro e ws ⟨s1, rfl, hs1, hb⟩; have HSX := Lib.hid hs1; obtain ⟨aS, cS, rfl, -, -, -⟩ := id hs1; rw [HSL.out] at HSX ⊢; have HB4 := Lib.hid (HB4.out.trans (hb.mono HB4.out.size)); clear hs1 hb))
          obtain ⟨bS, oS, rfl, hcS⟩ := ints_at HSX.out (by rw [HSL.out]; exact ht0)
          have HCS := Lib.hid (fun W (hb : Below ws.heap.size ws W) j (hj : j < t) => show W.cell? ⟨bS, oS + j, none⟩ = some (.int .i64 (SF.getD j 0)) from by
            obtain ⟨b2, o2, e2, h2⟩ := ints_at (HSX.out.below hb) (by rw [HSL.out]; exact ht0)
            obtain ⟨rfl, rfl⟩ : bS = b2 ∧ oS = o2 := by simpa using e2
            exact h2 j (by rw [HSL.out]; exact hj))
          clear hcS
          go_wp2
          go_loopw [238] (fun ix wq => ∃ i : Nat, i ≤ t ∧ ix = .int .i64 i ∧ Below ws.heap.size ws wq) (fun ix _ => t - (intOf ix).toNat)
          case atStart => exact ⟨0, Nat.zero_le _, rfl, Below.refl _ _⟩
          case round =>
            obtain ⟨i, hi, rfl, hb⟩ := hrel
            have HB5 := Lib.hid hb
            have HBW5 := Lib.hid (HB4.out.trans (hb.mono HB4.out.size))
            by_cases hli : i < t
            · have hii2 : (i : Int) < (t : Int) := by omega
              have hiT : i < T.length := by rw [HR.out]; exact hli
              obtain ⟨aX, cX, hrow⟩ := HRT.out i hiT
              have hrw := hrow wr HBW5.out
              have hcx := hrw.1
              obtain ⟨bX, oX, rfl, hce⟩ := ints_at hrw.2 (by rw [HTR.out i hiT]; exact hm0)
              have HX := Lib.hid (fun W (hb : Below we.heap.size we W) k (hk : k < m) => show W.cell? ⟨bX, oX + k, none⟩ = some (.int .i64 ((T[i]).getD k 0)) from by
                obtain ⟨b3, o3, e3, h3⟩ := ints_at (hrow W hb).2 (by rw [HTR.out i hiT]; exact hm0)
                obtain ⟨rfl, rfl⟩ : bX = b3 ∧ oX = o3 := by simpa using e3
                exact h3 k (by rw [HTR.out i hiT]; exact hk))
              have HSO := Lib.hid (HF.out.sfo i hiT)
              have HXL := Lib.hid (HTR.out i hiT)
              obtain ⟨X, hXe⟩ : ∃ X, T[i] = X := ⟨_, rfl⟩
              rw [hXe] at HX HSO HXL
              clear hb hrow hrw hce hXe
              go_wp2
              go_loopw [34, 245] (fun on ix wq => ∃ k : Nat, k ≤ m ∧ ix = .int .i64 k ∧ on = .bool (oneB X k) ∧ Below ws.heap.size ws wq) (fun _ ix _ => m - (intOf ix).toNat)
              case atStart => exact ⟨0, Nat.zero_le _, rfl, rfl, HB5.out⟩
              case round =>
                obtain ⟨k, hk, rfl, rfl, hb⟩ := hrel
                have HB6 := Lib.hid hb
                have HBW6 := Lib.hid (HB4.out.trans (hb.mono HB4.out.size))
                clear hcx
                by_cases hlk : k < m
                · have hki : (k : Int) < (m : Int) := by omega
                  have hc1 := HX.out wr HBW6.out k hlk
                  have hkX : k < X.length := by rw [HXL.out]; exact hlk
                  have HOS := Lib.hid (oneB_succ hkX)
                  rw [getD_atS hkX] at hc1
                  obtain ⟨x, hxe⟩ : ∃ x, X[k] = x := ⟨_, rfl⟩
                  rw [hxe] at hc1 HOS
                  obtain ⟨B, hB⟩ : ∃ B, oneB X k = B := ⟨_, rfl⟩
                  rw [hB] at HOS ⊢
                  clear hb hkX hxe hB
                  cases B with
                  | false =>
                    go_wp2
                    go_roundw
                    case rel => exact ⟨k + 1, hlk, by go_num, by rw [HOS.out]; rfl, HB6.out⟩
                    case measure => simp [intOf]; omega
                  | true =>
                    go_wp2
                    go_roundw
                    case rel => exact ⟨k + 1, hlk, by go_num, by rw [HOS.out]; rfl, HB6.out⟩
                    case measure => simp [intOf]; omega
                · obtain rfl : m = k := by omega
                  have hki : ¬ (m : Int) < (m : Int) := by omega
                  have hcs := HCS.out wr hb i hli
                  obtain ⟨B, hB⟩ : ∃ B, oneB X m = B := ⟨_, rfl⟩
                  rw [hB] at HSO ⊢
                  clear hb hB
                  cases B with
                  | false =>
                    go_wp2
                    go_roundw
                    case rel => exact ⟨i + 1, hli, by go_num, HB6.out⟩
                    case measure => simp [intOf]; omega
                  | true =>
                    rw [HSO.out rfl] at hcs
                    have hoo : ((o : Int) != (o : Int)) = false := by simp
                    have hti : decide ((t : Int) ≤ (i : Int)) = false := by simp; omega
                    have htd : decide (t ≤ i) = false := by simp; omega
                    go_wp2
                    go_roundw
                    case rel => exact ⟨i + 1, hli, by go_num, HB6.out⟩
                    case measure => simp [intOf]; omega
            · obtain rfl : t = i := by omega
              have hii2 : ¬ (t : Int) < (t : Int) := by omega
              clear hb
              go_wp2_with (go_at_call 10; refine (AW.out _).mono ?_; rintro e wa ⟨rfl, hb⟩; have HBF := Lib.hid (HBW5.out.trans (hb.mono HBW5.out.size)); clear hb)
              go_ret
              exact ⟨rfl, HB.out.trans (HBF.out.mono HB.out.size)⟩
set_option maxRecDepth 100000 in
set_option maxHeartbeats 8000000 in
theorem splits_yes {q m o : Nat} {T : List (List Int)} {FX SF : List Int} {SP : Nat → Nat → List Int} (v vf : Value) (L : List (List Int)) (F : List Int) (w : World) (h : Args w v L) (hf : Ints w vf F) (hF : SplF q m T FX o SF SP)
    (hT : ∀ u w', Args w' u (tabA L) → Calls Try.prog 6 #[u] w' fun e w2 => ∃ x, e = .returned (.tuple #[x, .int .i64 0]) ∧ Args w2 x T ∧ Below w'.heap.size w' w2)
    (hP : ∀ u w', Args w' u (tabA L) → Calls Try.prog 16 #[u] w' fun e w2 => e = .returned (.tuple #[.int .i64 (q : Nat), .int .i64 0]) ∧ Below w'.heap.size w' w2)
    (hS : ∀ i j (hi : i < T.length) (hj : j < T.length) u x w', Args w' u (tabA L) → Ints w' x (mulI q T[i] T[j] m) → Calls Try.prog 17 #[u, x] w' fun e w2 => ∃ s, e = .returned (.tuple #[s, .int .i64 0]) ∧ Ints w2 s (SP i j) ∧ Below w'.heap.size w' w2)
    (hFX : ∀ u w', Args w' u (tabA L) → Calls Try.prog 19 #[u] w' fun e w2 => ∃ s, e = .returned (.tuple #[s, .int .i64 0]) ∧ Ints w2 s FX ∧ Below w'.heap.size w' w2)
    (hOR : ∀ u w', Args w' u (tabA L) → Calls Try.prog 20 #[u] w' fun e w2 => ∃ a c, e = .returned (.tuple #[.slice a o c, .int .i64 0]) ∧ Below w'.heap.size w' w2)
    (hSF : ∀ u x w', Args w' u (tabA L) → Ints w' x FX → Calls Try.prog 17 #[u, x] w' fun e w2 => ∃ s, e = .returned (.tuple #[s, .int .i64 0]) ∧ Ints w2 s SF ∧ Below w'.heap.size w' w2)
    (SL : List Int) (hSL : SL.length = T.length) (hFm : F.length = m) (hSn : ∀ j, j < T.length → 0 ≤ SL.getD j 0 ∧ SL.getD j 0 < (q : Int)) (hFn : ∀ k, k < m → 0 ≤ F.getD k 0 ∧ F.getD k 0 < (q : Int))
    (hSe : ∀ k, k < m → (bkI SL T k T.length - F.getD k 0).tmod (q : Int) = 0) (hSb : ∀ k j, k < m → j ≤ T.length → 0 ≤ bkI SL T k j ∧ bkI SL T k j ≤ 1000000)
    (hSB : ∀ u x w', Args w' u (tabA L) → Ints w' x (F.take 30) → Calls Try.prog 17 #[u, x] w' fun e w2 => ∃ s, e = .returned (.tuple #[s, .int .i64 0]) ∧ Ints w2 s SL ∧ Below w'.heap.size w' w2) :
    Calls Try.prog 5 #[v, vf] w fun e w' => e = .returned (.bool true) ∧ Below w.heap.size w w' := by
  have TA := Lib.hid (fun w' (hb : Below w.heap.size w w') => table_any v L w' (h.below hb))
  have LF := Lib.hid (fun w' (hb : Below w.heap.size w w') => list_any vf F w' (hf.below hb))
  have PT := Lib.hid hT
  have PP := Lib.hid hP
  have PS := Lib.hid hS
  have PFX := Lib.hid hFX
  have POR := Lib.hid hOR
  have PSF := Lib.hid hSF
  have AW := Lib.hid awake_any
  have HB := Lib.hid (Below.refl w.heap.size w)
  have HTL := Lib.hid (show (tabA L).length ≤ 1000000 by have := tabA_len L; omega)
  have HF := Lib.hid hF
  have HFW := Lib.hid hf
  have hq2 := hF.q2
  have hq62 := hF.q62
  have hm0 := hF.m0
  have hm24 := hF.m24
  have htl := hF.tl
  have ht0 := hF.t0
  have ho24 := hF.o24
  have HSL := Lib.hid hF.sf
  obtain ⟨af, cf, rfl, -, -, -⟩ := id hf
  obtain ⟨lf, hlf⟩ : ∃ x, F.length = x := ⟨_, rfl⟩
  have HLF := Lib.hid hlf
  obtain ⟨t, ht⟩ : ∃ x, T.length = x := ⟨_, rfl⟩
  have HR := Lib.hid ht
  rw [ht] at htl ht0 HSL
  obtain rfl : m = lf := by rw [← hFm, hlf]
  rw [hlf] at LF HFW ⊢
  have hqi : ¬ (q : Int) < 2 := by omega
  have hqi' : decide ((q : Int) < 2) = false := by simp; omega
  have hqd : decide (q < 2) = false := by simp; omega
  have hmm : ((m : Int) != (m : Int)) = false := by simp
  have hm00 : ((m : Int) == 0) = false := by simp; omega
  have PSL := Lib.hid hSB
  have HSLL := Lib.hid (show SL.length = t by rw [hSL, ht])
  have HSN := Lib.hid (show ∀ j, j < t → 0 ≤ SL.getD j 0 ∧ SL.getD j 0 < (q : Int) by rw [← ht]; exact hSn)
  have HFB := Lib.hid hFn
  have HSE := Lib.hid (show ∀ k, k < m → (bkI SL T k t - F.getD k 0).tmod (q : Int) = 0 by rw [← ht]; exact hSe)
  have HSB := Lib.hid (show ∀ k j, k < m → j ≤ t → 0 ≤ bkI SL T k j ∧ bkI SL T k j ≤ 1000000 by rw [← ht]; exact hSb)
  have htt : ((t : Int) != (t : Int)) = false := by simp
  clear h hf hT hP hS hFX hOR hSF hSB hF ht hlf hSL hFm hSn hFn hSe hSb
  go_enter Try.func5, Try.ntmps5
  go_wp2_with (first
    | (go_at_call 7; refine (TA.out _ HB.out).mono ?_; rintro e wt ⟨u, S, rfl, hg, hb⟩; have HT := Lib.hid (hg.1.args HTL.out); have HB := Lib.hid (HB.out.trans (hb.mono HB.out.size)); (try (have HXT := Lib.hid (HXT.out.below hb))); clear hg hb)
    | (go_at_call 6; refine (PT.out _ _ HT.out).mono ?_; rintro e we ⟨x1, rfl, hx, hb⟩; obtain ⟨aT, cT, rfl⟩ := hx.form; have HXT := Lib.hid hx; rw [HR.out] at HXT ⊢; have HB := Lib.hid (HB.out.trans (hb.mono HB.out.size)); clear hb hx)
    | (go_at_call 16; refine (PP.out _ _ HT.out).mono ?_; rintro e we ⟨rfl, hb⟩; have HXT := Lib.hid (HXT.out.below hb); have HB := Lib.hid (HB.out.trans (hb.mono HB.out.size)); clear hb))
  try simp only [hqd]
  obtain ⟨gT, oT, cT2, e1, hgT⟩ := args_fix HXT.out (by rw [HR.out]; exact ht0)
  obtain ⟨rfl, -, rfl⟩ := Value.slice.inj e1
  have HRT := Lib.hid (show ∀ i (hi : i < T.length), ∃ aU cU, ∀ W, Below we.heap.size we W → W.cell? ⟨gT, oT + i, none⟩ = some (.slice aU m cU) ∧ Ints W (.slice aU m cU) T[i] from fun i hi => by
    obtain ⟨aU, cU, hr⟩ := hgT i hi
    rw [(funB_iff.1 (HF.out.rl _ (List.getElem_mem hi))).1] at hr
    exact ⟨aU, cU, hr⟩)
  have hg0 := (hgT 0 (by rw [HR.out]; exact ht0))
  obtain ⟨a0, c0, hg0⟩ := HRT.out 0 (by rw [HR.out]; exact ht0)
  have HG0 := Lib.hid (fun W (hb : Below we.heap.size we W) => show W.cell? ⟨gT, oT, none⟩ = some (.slice a0 m c0) from (hg0 W hb).1)
  have HTR := Lib.hid (fun i (hi : i < T.length) => show (T[i]).length = m from (funB_iff.1 (HF.out.rl _ (List.getElem_mem hi))).1)
  have HTB := Lib.hid (fun i (hi : i < T.length) k => getD_bound (show 0 < q by omega) (funB_iff.1 (HF.out.rl _ (List.getElem_mem hi))).2 k)
  clear e1 hgT hg0
  go_loopw [73] (fun ix wr => ∃ k : Nat, k ≤ t ∧ ix = .int .i64 k ∧ Below we.heap.size we wr) (fun ix _ => t - (intOf ix).toNat)
  case atStart => exact ⟨0, Nat.zero_le _, rfl, Below.refl _ _⟩
  case round =>
    obtain ⟨k, hk, rfl, hb⟩ := hrel
    have HB1 := Lib.hid hb
    by_cases hlt : k < t
    · have hki : (k : Int) < (t : Int) := by omega
      have ht0i : (0 : Int) < (t : Int) := by omega
      have hkT : k < T.length := by rw [HR.out]; exact hlt
      obtain ⟨aU, cU, hrow⟩ := HRT.out k hkT
      have hcu := (hrow wr hb).1
      have hc0 := HG0.out wr hb
      clear hb hrow
      go_wp2
      go_roundw
      case rel => exact ⟨k + 1, hlt, by go_num, HB1.out⟩
      case measure => simp [intOf]; omega
    · obtain rfl : t = k := by omega
      have hki : ¬ (t : Int) < (t : Int) := by omega
      clear hb
      go_upto_region 17 with (first
        | (go_at_call 7; refine (TA.out _ (HB.out.trans (HB1.out.mono HB.out.size))).mono ?_; rintro e wt ⟨u, S, rfl, hg, hb⟩; have HT := Lib.hid (hg.1.args HTL.out); have HB1 := Lib.hid (HB1.out.trans (hb.mono HB1.out.size)); clear hg hb)
        | (go_at_call 18; refine (LF.out _ (HB.out.trans (HB1.out.mono HB.out.size))).mono ?_; rintro e wl ⟨vl, rfl, ho, hb⟩; have HT := Lib.hid (HT.out.below hb); have HLI := Lib.hid (ho.ints (by rw [List.length_take]; omega)); have HB1 := Lib.hid (HB1.out.trans (hb.mono HB1.out.size)); clear ho hb)
        | (go_at_call 17; refine (PSL.out _ _ _ HT.out HLI.out).mono ?_; rintro e ws ⟨s1, rfl, hs1, hb⟩; have HSX := Lib.hid hs1; obtain ⟨aS, cS, rfl, -, -, -⟩ := id hs1; rw [HSLL.out] at HSX ⊢; have HB1 := Lib.hid (HB1.out.trans (hb.mono HB1.out.size)); clear hs1 hb))
      obtain ⟨bS, oS, rfl, hcS⟩ := ints_at HSX.out (by rw [HSLL.out]; exact ht0)
      obtain ⟨bF, oF, rfl, hcF⟩ := ints_at (HFW.out.below (HB.out.trans (HB1.out.mono HB.out.size))) (by rw [HLF.out]; exact hm0)
      have HCS := Lib.hid (fun W (hb : Below ws.heap.size ws W) j (hj : j < t) => show W.cell? ⟨bS, oS + j, none⟩ = some (.int .i64 (SL.getD j 0)) from by
        obtain ⟨b2, o2, e2, h2⟩ := ints_at (HSX.out.below hb) (by rw [HSLL.out]; exact ht0)
        obtain ⟨rfl, rfl⟩ : bS = b2 ∧ oS = o2 := by simpa using e2
        exact h2 j (by rw [HSLL.out]; exact hj))
      have HCF := Lib.hid (fun W (hb : Below we.heap.size we W) j (hj : j < m) => show W.cell? ⟨bF, oF + j, none⟩ = some (.int .i64 (F.getD j 0)) from by
        obtain ⟨b2, o2, e2, h2⟩ := ints_at (HFW.out.below (HB.out.trans (hb.mono HB.out.size))) (by rw [HLF.out]; exact hm0)
        obtain ⟨rfl, rfl⟩ : bF = b2 ∧ oF = o2 := by simpa using e2
        exact h2 j (by rw [HLF.out]; exact hj))
      clear hcS hcF
      go_wp2
      go_loopw [107] (fun ix wr => ∃ k : Nat, k ≤ m ∧ ix = .int .i64 k ∧ Below ws.heap.size ws wr) (fun ix _ => m - (intOf ix).toNat)
      case atStart => exact ⟨0, Nat.zero_le _, rfl, Below.refl _ _⟩
      case round =>
        obtain ⟨k, hk, rfl, hb⟩ := hrel
        have HB2 := Lib.hid hb
        have HBW2 := Lib.hid (HB1.out.trans (hb.mono HB1.out.size))
        clear hb
        by_cases hlk : k < m
        · have hkm : (k : Int) < (m : Int) := by omega
          have hcf := HCF.out wr HBW2.out k hlk
          have HEN := Lib.hid (HSE.out k hlk)
          have HFK := Lib.hid (HFB.out k hlk)
          obtain ⟨x0, hx0⟩ : ∃ x, F.getD k 0 = x := ⟨_, rfl⟩
          rw [hx0] at hcf HEN HFK
          clear hx0
          have HBD := Lib.hid (fun j (hj : j ≤ t) => HSB.out k j hlk hj)
          go_wp2
          go_loopw [15, 114] (fun sm ix wq => ∃ j : Nat, j ≤ t ∧ ix = .int .i64 j ∧ sm = .int .i64 (bkI SL T k j) ∧ Below ws.heap.size ws wq) (fun _ ix _ => t - (intOf ix).toNat)
          case atStart => exact ⟨0, Nat.zero_le _, rfl, rfl, HB2.out⟩
          case round =>
            obtain ⟨j, hj, rfl, rfl, hb⟩ := hrel
            have HB3 := Lib.hid hb
            have HBW3 := Lib.hid (HB1.out.trans (hb.mono HB1.out.size))
            clear hcf
            by_cases hlj : j < t
            · have hji : (j : Int) < (t : Int) := by omega
              have hjT : j < T.length := by rw [HR.out]; exact hlj
              have hcs := HCS.out wr hb j hlj
              obtain ⟨aU, cU, hrow⟩ := HRT.out j hjT
              have hrw := hrow wr HBW3.out
              obtain ⟨b3, o3, rfl, hce⟩ := ints_at hrw.2 (by rw [HTR.out j hjT]; exact hm0)
              have hck := hce k (by rw [HTR.out j hjT]; exact hlk)
              have hcu := hrw.1
              have HS := Lib.hid (show bkI SL T k (j + 1) = bkI SL T k j + SL.getD j 0 * (T[j]).getD k 0 by rw [show bkI SL T k (j + 1) = bkI SL T k j + SL.getD j 0 * (T.getD j []).getD k 0 from rfl, List.getD_eq_getElem?_getD (l := T), List.getElem?_eq_getElem hjT]; rfl)
              have hb1 := HBD.out j hj
              have hb2 := HBD.out (j + 1) hlj
              have hx := HSN.out j hlj
              have hy := HTB.out j hjT k
              rw [HS.out] at hb2
              obtain ⟨x, hxe⟩ : ∃ x, SL.getD j 0 = x := ⟨_, rfl⟩
              obtain ⟨y, hye⟩ : ∃ y, (T[j]).getD k 0 = y := ⟨_, rfl⟩
              obtain ⟨s, hse⟩ : ∃ s, bkI SL T k j = s := ⟨_, rfl⟩
              rw [hxe] at hcs hx HS hb2
              rw [hye] at hck hy HS hb2
              rw [hse] at hb1 hb2 HS ⊢
              have hxy : x * y ≤ 61 * 61 := Int.mul_le_mul (by omega) (by omega) (by omega) (by omega)
              have hxy0 : 0 ≤ x * y := Int.mul_nonneg (by omega) (by omega)
              have hw1 : IntKind.i64.wrap (x * y) = x * y := IntWalk.i64_in _ (by omega)
              have hw2 : IntKind.i64.wrap (s + x * y) = s + x * y := IntWalk.i64_in _ (by omega)
              have hkg : ¬ (m : Int) ≤ (k : Int) := by omega
              clear hb hrow hrw hce hxe hye hse hx hy hxy hxy0 hb1 hb2
              go_wp2
              go_quiet (fail)
              go_wp2
              go_roundw
              case rel => exact ⟨j + 1, hlj, by go_num, by rw [HS.out], below_drewN HB3.out _⟩
              case measure => simp [intOf]; omega
            · obtain rfl : t = j := by omega
              have hji : ¬ (t : Int) < (t : Int) := by omega
              have hb1 := HBD.out t (Nat.le_refl _)
              have hen := HEN.out
              have hfb := HFK.out
              have hq0 : ¬ (q : Int) = 0 := by omega
              obtain ⟨s, hse⟩ : ∃ s, bkI SL T k t = s := ⟨_, rfl⟩
              rw [hse] at hb1 hen ⊢
              have hw1 : IntKind.i64.wrap (s - x0) = s - x0 := IntWalk.i64_in _ (by omega)
              clear hb hse hb1 hfb
              go_wp2
              go_roundw
              case rel => exact ⟨k + 1, hlk, by go_num, HB3.out⟩
              case measure => simp [intOf]; omega
        · obtain rfl : m = k := by omega
          have hkm : ¬ (m : Int) < (m : Int) := by omega
          have HB1 := Lib.hid HBW2.out
          go_wp2
          go_loopw [146] (fun ix wr => ∃ i : Nat, i ≤ t ∧ ix = .int .i64 i ∧ Below we.heap.size we wr) (fun ix _ => t - (intOf ix).toNat)
          case atStart => exact ⟨0, Nat.zero_le _, rfl, HB1.out⟩
          case round =>
            obtain ⟨i, hi, rfl, hb⟩ := hrel
            have HB4 := Lib.hid hb
            by_cases hli : i < t
            · have hii : (i : Int) < (t : Int) := by omega
              have hiT : i < T.length := by rw [HR.out]; exact hli
              obtain ⟨aX, cX, hrow⟩ := HRT.out i hiT
              have hcx := (hrow wr hb).1
              have HRX := Lib.hid (show ∃ bX oX, aX = some ⟨bX, oX, none⟩ ∧ ∀ W, Below we.heap.size we W → ∀ k, k < m → W.cell? ⟨bX, oX + k, none⟩ = some (.int .i64 ((T[i]).getD k 0)) from by
                obtain ⟨b2, o2, rfl, h2⟩ := ints_at (hrow wr hb).2 (by rw [HTR.out i hiT]; exact hm0)
                refine ⟨b2, o2, rfl, fun W hW k hk => ?_⟩
                obtain ⟨b3, o3, e3, h3⟩ := ints_at (hrow W hW).2 (by rw [HTR.out i hiT]; exact hm0)
                obtain ⟨rfl, rfl⟩ : b2 = b3 ∧ o2 = o3 := by simpa using e3
                exact h3 k (by rw [HTR.out i hiT]; exact hk))
              obtain ⟨bX, oX, rfl, hX⟩ := HRX.out
              have HX := Lib.hid hX
              clear hb hrow HRX hX
              go_wp2
              go_loopw [152] (fun ix wr => ∃ j : Nat, j ≤ t ∧ ix = .int .i64 j ∧ Below we.heap.size we wr) (fun ix _ => t - (intOf ix).toNat)
              case atStart => exact ⟨0, Nat.zero_le _, rfl, HB4.out⟩
              case round =>
                obtain ⟨j, hj, rfl, hb⟩ := hrel
                have HB5 := Lib.hid hb
                clear hcx
                by_cases hlj : j < t
                · have hji : (j : Int) < (t : Int) := by omega
                  have hjT : j < T.length := by rw [HR.out]; exact hlj
                  obtain ⟨aY, cY, hrow⟩ := HRT.out j hjT
                  have hcy := (hrow wr hb).1
                  have HRY := Lib.hid (show ∃ bY oY, aY = some ⟨bY, oY, none⟩ ∧ ∀ W, Below we.heap.size we W → ∀ k, k < m → W.cell? ⟨bY, oY + k, none⟩ = some (.int .i64 ((T[j]).getD k 0)) from by
                    obtain ⟨b2, o2, rfl, h2⟩ := ints_at (hrow wr hb).2 (by rw [HTR.out j hjT]; exact hm0)
                    refine ⟨b2, o2, rfl, fun W hW k hk => ?_⟩
                    obtain ⟨b3, o3, e3, h3⟩ := ints_at (hrow W hW).2 (by rw [HTR.out j hjT]; exact hm0)
                    obtain ⟨rfl, rfl⟩ : b2 = b3 ∧ o2 = o3 := by simpa using e3
                    exact h3 k (by rw [HTR.out j hjT]; exact hk))
                  obtain ⟨bY, oY, rfl, hY⟩ := HRY.out
                  have HY := Lib.hid hY
                  have PSS := Lib.hid (PS.out i j hiT hjT)
                  have HSL2 := Lib.hid (HF.out.spl i j hiT hjT)
                  have HSB2 := Lib.hid (HF.out.spb i j hiT hjT)
                  have HTI := Lib.hid (HTB.out i hiT)
                  have HTJ := Lib.hid (HTB.out j hjT)
                  rw [HR.out] at HSL2
                  obtain ⟨X, hXe⟩ : ∃ X, T[i] = X := ⟨_, rfl⟩
                  obtain ⟨Y, hYe⟩ : ∃ Y, T[j] = Y := ⟨_, rfl⟩
                  obtain ⟨P, hPe⟩ : ∃ P, SP i j = P := ⟨_, rfl⟩
                  rw [hXe] at PSS HSB2 HTI
                  rw [hYe] at PSS HSB2 HTJ HY
                  rw [hPe] at PSS HSB2 HSL2
                  have HXX := Lib.hid HX.out
                  rw [hXe] at HXX
                  clear hb hrow HRY hY hXe hYe hPe
                  obtain ⟨wA, hwA⟩ : ∃ x, x = wr := ⟨_, rfl⟩
                  have HB6 := Lib.hid HB5.out
                  rw [← hwA] at HB6 hcy ⊢
                  clear hwA
                  go_wp2
                  go_loopw [22, 158] (fun vp ix wq => ∃ k : Nat, k ≤ m ∧ ix = .int .i64 k ∧ OwnI 3 wA.heap.size wq vp (mulI q X Y k) ∧ Below wA.heap.size wA wq) (fun _ ix _ => m - (intOf ix).toNat)
                  case atStart => exact ⟨0, Nat.zero_le _, rfl, OwnI.nil _ _ _, Below.refl _ _⟩
                  case round =>
                    obtain ⟨k, hk, rfl, ho, hb⟩ := hrel
                    have HO := Lib.hid ho
                    have HB7 := Lib.hid hb
                    have HBW7 := Lib.hid (HB6.out.trans (hb.mono HB6.out.size))
                    have hle7 := hb.size
                    obtain ⟨a22, n22, c22, rfl⟩ := own_form ho
                    clear ho hb hcy
                    by_cases hlk : k < m
                    · have hki : (k : Int) < (m : Int) := by omega
                      have hc1 := HXX.out wr HBW7.out k hlk
                      have hc2 := HY.out wr HBW7.out k hlk
                      have hx := HTI.out k
                      have hy := HTJ.out k
                      have HMS := Lib.hid (mulI_succ q X Y k)
                      have HML := Lib.hid (show (mulI q X Y k).length < 1000000 by rw [mulI_len]; omega)
                      obtain ⟨x, hxe⟩ : ∃ x, X.getD k 0 = x := ⟨_, rfl⟩
                      obtain ⟨y, hye⟩ : ∃ y, Y.getD k 0 = y := ⟨_, rfl⟩
                      rw [hxe] at hc1 hx HMS
                      rw [hye] at hc2 hy HMS
                      have hxy : x * y ≤ 61 * 61 := Int.mul_le_mul (by omega) (by omega) (by omega) (by omega)
                      have hxy0 : 0 ≤ x * y := Int.mul_nonneg (by omega) (by omega)
                      have hw1 : IntKind.i64.wrap (x * y) = x * y := IntWalk.i64_in _ (by omega)
                      have hq0 : ¬ (q : Int) = 0 := by omega
                      have hq00 : ¬ q = 0 := by omega
                      obtain ⟨z, hze⟩ : ∃ z, (x * y).tmod (q : Int) = z := ⟨_, rfl⟩
                      rw [hze] at HMS
                      clear hxe hye hx hy hxy hxy0
                      go_upto_region 43 with (fail)
                      obtain ⟨wB, hwB⟩ : ∃ x, x = wr := ⟨_, rfl⟩
                      go_region_law (refine step_app1_at (by rfl) (.tmp 161) (.tmp 173) (by rfl) wA.heap.size (.slice a22 n22 c22) (mulI q X Y k) z (by rfl) (HO.out.drew.alloc _) ⟨wr.heap.size, 0, none⟩ 1 (by rfl) (cell_new1 _ _ _) HML.out (by have := hle7; simp; omega) ?_; intro v8 w8 ho8 hg8 hl8)
                      all_goals
                        have HO8 := Lib.hid ho8
                        have HB8 := Lib.hid ((((below_drewN HB7.out 1)).alloc (by simp; omega) (.cells #[.int .i64 z] 3)).grown hg8 (by simp; omega) (fun j hj => (HO.out.lt j hj).1))
                        clear ho8 hg8 hl8
                        go_wp2
                        go_roundw
                        case rel => exact ⟨k + 1, hlk, by go_num, by rw [HMS.out]; exact HO8.out, HB8.out⟩
                        case measure => simp [intOf]; omega
                    · obtain rfl : m = k := by omega
                      have hki : ¬ (m : Int) < (m : Int) := by omega
                      have HIP := Lib.hid (HO.out.ints (by rw [mulI_len]; omega))
                      have HB8 := Lib.hid HBW7.out
                      go_upto_region 48 with (first
                        | (go_at_call 7; refine (TA.out _ (HB.out.trans (HB8.out.mono HB.out.size))).mono ?_; rintro e wt ⟨u, S, rfl, hg, hb⟩; have HT := Lib.hid (hg.1.args HTL.out); have HIP := Lib.hid (HIP.out.below hb); have HB8 := Lib.hid (HB8.out.trans (hb.mono HB8.out.size)); clear hg hb)
                        | (go_at_call 17; refine (PSS.out _ _ _ HT.out HIP.out).mono ?_; rintro e ws ⟨s1, rfl, hs1, hb⟩; have HSX := Lib.hid hs1; obtain ⟨aS, cS, rfl, -, -, -⟩ := id hs1; rw [HSL2.out] at HSX ⊢; have HB8 := Lib.hid (HB8.out.trans (hb.mono HB8.out.size)); clear hs1 hb))
                      obtain ⟨bS, oS, rfl, hcS⟩ := ints_at HSX.out (by rw [HSL2.out]; exact ht0)
                      have HCS := Lib.hid (fun W (hb : Below ws.heap.size ws W) j (hj : j < t) => show W.cell? ⟨bS, oS + j, none⟩ = some (.int .i64 (P.getD j 0)) from by
                        obtain ⟨b2, o2, e2, h2⟩ := ints_at (HSX.out.below hb) (by rw [HSL2.out]; exact ht0)
                        obtain ⟨rfl, rfl⟩ : bS = b2 ∧ oS = o2 := by simpa using e2
                        exact h2 j (by rw [HSL2.out]; exact hj))
                      clear hcS
                      go_wp2
                      go_loopw [187] (fun ix wq => ∃ s : Nat, s ≤ t ∧ ix = .int .i64 s ∧ Below ws.heap.size ws wq) (fun ix _ => t - (intOf ix).toNat)
                      case atStart => exact ⟨0, Nat.zero_le _, rfl, Below.refl _ _⟩
                      case round =>
                        obtain ⟨s, hs, rfl, hb⟩ := hrel
                        have HB9 := Lib.hid hb
                        have HBW9 := Lib.hid (HB8.out.trans (hb.mono HB8.out.size))
                        by_cases hls : s < t
                        · have hsi : (s : Int) < (t : Int) := by omega
                          have hcs := HCS.out wr hb s hls
                          have hm0i : (0 : Int) < (m : Int) := by omega
                          have hc1 := HXX.out wr HBW9.out 0 hm0
                          have hc2 := HY.out wr HBW9.out 0 hm0
                          rw [Nat.add_zero] at hc1 hc2
                          have hsP : s < P.length := by rw [HSL2.out]; exact hls
                          have hbd := HSB2.out _ (List.getElem_mem hsP)
                          rw [getD_atS hsP] at hcs
                          obtain ⟨n, hne⟩ : ∃ n, P[s] = n := ⟨_, rfl⟩
                          obtain ⟨x, hxe⟩ : ∃ x, X.getD 0 0 = x := ⟨_, rfl⟩
                          obtain ⟨y, hye⟩ : ∃ y, Y.getD 0 0 = y := ⟨_, rfl⟩
                          rw [hne] at hcs hbd
                          rw [hxe] at hc1 hbd
                          rw [hye] at hc2 hbd
                          have hn0 : decide (n < 0) = false := by simp; omega
                          have hn1 : decide (min x y < n) = false := by simp; omega
                          have hn2 : ¬ min x y < n := by omega
                          clear hb hsP hbd hne hxe hye
                          go_wp2
                          go_quiet (fail)
                          go_wp2
                          go_roundw
                          case rel => exact ⟨s + 1, hls, by go_num, below_drewN HB9.out _⟩
                          case measure => simp [intOf]; omega
                        · obtain rfl : t = s := by omega
                          have hsi : ¬ (t : Int) < (t : Int) := by omega
                          clear hb
                          go_wp2
                          go_roundw
                          case rel => exact ⟨j + 1, hlj, by go_num, HBW9.out⟩
                          case measure => simp [intOf]; omega
                · obtain rfl : t = j := by omega
                  have hji : ¬ (t : Int) < (t : Int) := by omega
                  clear hb
                  go_wp2
                  go_roundw
                  case rel => exact ⟨i + 1, hli, by go_num, HB5.out⟩
                  case measure => simp [intOf]; omega
            · obtain rfl : t = i := by omega
              have hii : ¬ (t : Int) < (t : Int) := by omega
              clear hb
              go_upto_region 61 with (first
                | (go_at_call 7; refine (TA.out _ (HB.out.trans (HB4.out.mono HB.out.size))).mono ?_; rintro e wt ⟨u, S, rfl, hg, hb⟩; have HT := Lib.hid (hg.1.args HTL.out); (try (have HFI := Lib.hid (HFI.out.below hb))); have HB4 := Lib.hid (HB4.out.trans (hb.mono HB4.out.size)); clear hg hb)
                | (go_at_call 19; refine (PFX.out _ _ HT.out).mono ?_; rintro e wf ⟨s1, rfl, hs1, hb⟩; have HFI := Lib.hid hs1; obtain ⟨aG, cG, rfl, -, -, -⟩ := id hs1; have HB4 := Lib.hid (HB4.out.trans (hb.mono HB4.out.size)); clear hs1 hb)
                | (go_at_call 20; refine (POR.out _ _ HT.out).mono ?_; rintro e wo ⟨aO, cO, rfl, hb⟩; have HFI := Lib.hid (HFI.out.below hb); have HB4 := Lib.hid (HB4.out.trans (hb.mono HB4.out.size)); clear hb)
                | (go_at_call 17; refine (PSF.out _ _ _ HT.out HFI.out).mono ?_; rintro e ws ⟨s1, rfl, hs1, hb⟩; have HSX := Lib.hid hs1; obtain ⟨aS, cS, rfl, -, -, -⟩ := id hs1; rw [HSL.out] at HSX ⊢; have HB4 := Lib.hid (HB4.out.trans (hb.mono HB4.out.size)); clear hs1 hb))
              obtain ⟨bS, oS, rfl, hcS⟩ := ints_at HSX.out (by rw [HSL.out]; exact ht0)
              have HCS := Lib.hid (fun W (hb : Below ws.heap.size ws W) j (hj : j < t) => show W.cell? ⟨bS, oS + j, none⟩ = some (.int .i64 (SF.getD j 0)) from by
                obtain ⟨b2, o2, e2, h2⟩ := ints_at (HSX.out.below hb) (by rw [HSL.out]; exact ht0)
                obtain ⟨rfl, rfl⟩ : bS = b2 ∧ oS = o2 := by simpa using e2
                exact h2 j (by rw [HSL.out]; exact hj))
              clear hcS
              go_wp2
              go_loopw [238] (fun ix wq => ∃ i : Nat, i ≤ t ∧ ix = .int .i64 i ∧ Below ws.heap.size ws wq) (fun ix _ => t - (intOf ix).toNat)
              case atStart => exact ⟨0, Nat.zero_le _, rfl, Below.refl _ _⟩
              case round =>
                obtain ⟨i, hi, rfl, hb⟩ := hrel
                have HB5 := Lib.hid hb
                have HBW5 := Lib.hid (HB4.out.trans (hb.mono HB4.out.size))
                by_cases hli : i < t
                · have hii2 : (i : Int) < (t : Int) := by omega
                  have hiT : i < T.length := by rw [HR.out]; exact hli
                  obtain ⟨aX, cX, hrow⟩ := HRT.out i hiT
                  have hrw := hrow wr HBW5.out
                  have hcx := hrw.1
                  obtain ⟨bX, oX, rfl, hce⟩ := ints_at hrw.2 (by rw [HTR.out i hiT]; exact hm0)
                  have HX := Lib.hid (fun W (hb : Below we.heap.size we W) k (hk : k < m) => show W.cell? ⟨bX, oX + k, none⟩ = some (.int .i64 ((T[i]).getD k 0)) from by
                    obtain ⟨b3, o3, e3, h3⟩ := ints_at (hrow W hb).2 (by rw [HTR.out i hiT]; exact hm0)
                    obtain ⟨rfl, rfl⟩ : bX = b3 ∧ oX = o3 := by simpa using e3
                    exact h3 k (by rw [HTR.out i hiT]; exact hk))
                  have HSO := Lib.hid (HF.out.sfo i hiT)
                  have HXL := Lib.hid (HTR.out i hiT)
                  obtain ⟨X, hXe⟩ : ∃ X, T[i] = X := ⟨_, rfl⟩
                  rw [hXe] at HX HSO HXL
                  clear hb hrow hrw hce hXe
                  go_wp2
                  go_loopw [34, 245] (fun on ix wq => ∃ k : Nat, k ≤ m ∧ ix = .int .i64 k ∧ on = .bool (oneB X k) ∧ Below ws.heap.size ws wq) (fun _ ix _ => m - (intOf ix).toNat)
                  case atStart => exact ⟨0, Nat.zero_le _, rfl, rfl, HB5.out⟩
                  case round =>
                    obtain ⟨k, hk, rfl, rfl, hb⟩ := hrel
                    have HB6 := Lib.hid hb
                    have HBW6 := Lib.hid (HB4.out.trans (hb.mono HB4.out.size))
                    clear hcx
                    by_cases hlk : k < m
                    · have hki : (k : Int) < (m : Int) := by omega
                      have hc1 := HX.out wr HBW6.out k hlk
                      have hkX : k < X.length := by rw [HXL.out]; exact hlk
                      have HOS := Lib.hid (oneB_succ hkX)
                      rw [getD_atS hkX] at hc1
                      obtain ⟨x, hxe⟩ : ∃ x, X[k] = x := ⟨_, rfl⟩
                      rw [hxe] at hc1 HOS
                      obtain ⟨B, hB⟩ : ∃ B, oneB X k = B := ⟨_, rfl⟩
                      rw [hB] at HOS ⊢
                      clear hb hkX hxe hB
                      cases B with
                      | false =>
                        go_wp2
                        go_roundw
                        case rel => exact ⟨k + 1, hlk, by go_num, by rw [HOS.out]; rfl, HB6.out⟩
                        case measure => simp [intOf]; omega
                      | true =>
                        go_wp2
                        go_roundw
                        case rel => exact ⟨k + 1, hlk, by go_num, by rw [HOS.out]; rfl, HB6.out⟩
                        case measure => simp [intOf]; omega
                    · obtain rfl : m = k := by omega
                      have hki : ¬ (m : Int) < (m : Int) := by omega
                      have hcs := HCS.out wr hb i hli
                      obtain ⟨B, hB⟩ : ∃ B, oneB X m = B := ⟨_, rfl⟩
                      rw [hB] at HSO ⊢
                      clear hb hB
                      cases B with
                      | false =>
                        go_wp2
                        go_roundw
                        case rel => exact ⟨i + 1, hli, by go_num, HB6.out⟩
                        case measure => simp [intOf]; omega
                      | true =>
                        rw [HSO.out rfl] at hcs
                        have hoo : ((o : Int) != (o : Int)) = false := by simp
                        have hti : decide ((t : Int) ≤ (i : Int)) = false := by simp; omega
                        have htd : decide (t ≤ i) = false := by simp; omega
                        go_wp2
                        go_roundw
                        case rel => exact ⟨i + 1, hli, by go_num, HB6.out⟩
                        case measure => simp [intOf]; omega
                · obtain rfl : t = i := by omega
                  have hii2 : ¬ (t : Int) < (t : Int) := by omega
                  clear hb
                  go_wp2_with (go_at_call 10; refine (AW.out _).mono ?_; rintro e wa ⟨rfl, hb⟩; have HBF := Lib.hid (HBW5.out.trans (hb.mono HBW5.out.size)); clear hb)
                  go_ret
                  exact ⟨rfl, HB.out.trans (HBF.out.mono HB.out.size)⟩
end Go.Proofs.Ytdackakjcnnofaa
