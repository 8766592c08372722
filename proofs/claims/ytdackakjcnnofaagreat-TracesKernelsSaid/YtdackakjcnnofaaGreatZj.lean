/- TracesKernels' walk. -/
import Derived.Test.YtdackakjcnnofaaGreatNs
import Derived.Test.YtdackakjcnnofaaGreatAx
import Derived.Test.YtdackakjcnnofaaGreatOa
namespace Go.Proofs.YtdackakjcnnofaaGreat
open Go.RowKit
attribute [local go_sem] Oper.semAt_some

theorem closK_any {p : Nat} (u v : Value) (xs ys : List Int) (w : World) (h : CapF w p u xs) (hv : Ints w v ys) :
    Calls Tryz.prog 41 #[v, .pointer (some ⟨p, 0, none⟩)] w fun e w' => e = .returned (.bool (decide (ys = xs))) ∧ Below w.heap.size w w' := by
  have EQ := Lib.hid (Equal_any v u ys xs w hv h.ints)
  have hc := h.cell
  obtain ⟨a, c, rfl, -, -, -⟩ := h.ints
  clear h hv
  go_enter Tryz.func41, Tryz.ntmps41
  go_wp2_with (go_at_call 28; refine EQ.out.mono ?_; rintro e w2 ⟨rfl, hb⟩; have HB := Lib.hid hb; clear hb)
  go_ret
  exact ⟨rfl, HB.out⟩
set_option maxRecDepth 20000 in
set_option maxHeartbeats 1000000 in
theorem indexK_any {p : Nat} (v u : Value) (T : List (List Int)) (x : List Int) (w : World) (h1 : Args w v T) (hp : CapF w p u x) (hl : T.length ≤ 1000000) :
    Calls Tryz.prog 59 #[v, .func (.func 41) #[] #[.pointer (some ⟨p, 0, none⟩)]] w fun e w' => (∃ z : Int, e = .returned (.int .i64 z) ∧ (0 ≤ z ↔ x ∈ T)) ∧ Below w.heap.size w w' := by
  have H1 := Lib.hid (fun (w' : World) (hb : Below w.heap.size w w') => h1.below hb)
  have HP := Lib.hid (fun (w' : World) (hb : Below w.heap.size w w') => hp.below hb)
  obtain ⟨a, c, rfl⟩ := h1.form
  obtain ⟨n, hn⟩ : ∃ n, T.length = n := ⟨_, rfl⟩
  have HN := Lib.hid hn
  rw [hn] at hl ⊢
  clear h1 hp hn
  go_enter Tryz.func59, Tryz.ntmps59
  go_wp2
  go_loopw [8] (fun ix wr => ∃ k : Nat, k ≤ n ∧ ix = .int .i64 k ∧ x ∉ T.take k ∧ Below w.heap.size w wr) (fun ix _ => n - (intOf ix).toNat)
  case atStart => exact ⟨0, Nat.zero_le _, rfl, by simp, Below.refl _ _⟩
  case round =>
    obtain ⟨k, hk, rfl, hx, hb⟩ := hrel
    have HX := Lib.hid hx
    have HB := Lib.hid hb
    by_cases hlt : k < n
    · have hki : (k : Int) < (n : Int) := by omega
      have hkT : k < T.length := by rw [HN.out]; exact hlt
      obtain ⟨g, o, cap, r, e1, _, hc1, hf1⟩ := (H1.out wr hb).at k hkT
      obtain ⟨rfl, _, rfl⟩ := Value.slice.inj e1
      have C := Lib.hid (closK_any u r x T[k] wr (HP.out wr hb) hf1)
      obtain ⟨ua, uc, uf, _⟩ := hf1
      subst uf
      clear hx hb e1
      by_cases hxy : T[k] = x
      · have HD := Lib.hid (show decide (T[k] = x) = true by simpa using hxy)
        have HM := Lib.hid (show x ∈ T by rw [← hxy]; exact List.getElem_mem hkT)
        clear hxy
        go_wp2_with (go_at_call 41; refine C.out.mono ?_; rintro e w2 ⟨rfl, hb2⟩; rw [HD.out])
        go_ret
        exact ⟨⟨k, rfl, ⟨fun _ => HM.out, fun _ => by omega⟩⟩, HB.out.trans (hb2.mono HB.out.size)⟩
      · have HD := Lib.hid (show decide (T[k] = x) = false by simpa using hxy)
        have HX2 := Lib.hid (mem_take_succ hkT HX.out hxy)
        clear hxy
        go_wp2_with (go_at_call 41; refine C.out.mono ?_; rintro e w2 ⟨rfl, hb2⟩; rw [HD.out])
        go_roundw
        case rel => exact ⟨k + 1, hlt, by go_num, HX2.out, HB.out.trans (hb2.mono HB.out.size)⟩
        case measure => simp [intOf]; omega
    · obtain rfl : n = k := by omega
      have hki : ¬ (n : Int) < (n : Int) := by omega
      have HM := Lib.hid (show x ∉ T by have := HX.out; rw [List.take_of_length_le (by rw [HN.out]; exact Nat.le_refl _)] at this; exact this)
      clear hx hb
      go_wp2
      go_ret
      exact ⟨⟨-1, rfl, ⟨fun h => absurd h (by decide), fun h => absurd h HM.out⟩⟩, HB.out⟩
theorem containsK_any {p : Nat} (v u : Value) (T : List (List Int)) (x : List Int) (w : World) (h1 : Args w v T) (hp : CapF w p u x) (hl : T.length ≤ 1000000) :
    Calls Tryz.prog 26 #[v, .func (.func 41) #[] #[.pointer (some ⟨p, 0, none⟩)]] w fun e w' => e = .returned (.bool (decide (x ∈ T))) ∧ Below w.heap.size w w' := by
  have C := Lib.hid (indexK_any v u T x w h1 hp hl)
  obtain ⟨a, c, rfl⟩ := h1.form
  clear h1 hp
  go_enter Tryz.func26, Tryz.ntmps26
  go_wp2_with (go_at_call 59; refine C.out.mono ?_; rintro e w2 ⟨⟨z, rfl, hz⟩, hb2⟩; have HB := Lib.hid hb2; have HZ := Lib.hid hz; clear hb2 hz)
  go_ret
  exact ⟨ret_bool (decide_eq_decide.2 HZ.out), HB.out⟩
set_option maxRecDepth 100000 in
set_option maxHeartbeats 4000000 in
theorem kern_err (v : Value) (L : List (List Int)) (w : World) (h : Args w v L) (k : Int) (hk : k = 2 ∨ k = 6)
    (hT : ∀ u w', Args w' u (tabA L) → Calls Tryz.prog 11 #[u] w' fun e w2 => ∃ a n cp, e = .returned (.tuple #[.slice a n cp, .int .i64 k]) ∧ Below w'.heap.size w' w2)
    (hN : ∀ u w', Args w' u (tabA L) → Calls Tryz.prog 22 #[u] w' fun e w2 => ∃ a n cp, e = .returned (.tuple #[.slice a n cp, .int .i64 k]) ∧ Below w'.heap.size w' w2)
    (hE : ∀ u w', Args w' u (tabA L) → Calls Tryz.prog 17 #[u] w' fun e w2 => ∃ a n cp, e = .returned (.tuple #[.slice a n cp, .int .i64 k]) ∧ Below w'.heap.size w' w2)
    (hC : ∀ u w', Args w' u (tabA L) → Calls Tryz.prog 18 #[u] w' fun e w2 => ∃ a n cp, e = .returned (.tuple #[.slice a n cp, .int .i64 k]) ∧ Below w'.heap.size w' w2) :
    Calls Tryz.prog 10 #[v] w fun e w' => e = .returned (.bool true) ∧ Below w.heap.size w w' := by
  have TA := Lib.hid (fun w' (hb : Below w.heap.size w w') => table_any v L w' (h.below hb))
  have PT := Lib.hid hT
  have PN := Lib.hid hN
  have PE := Lib.hid hE
  have PC := Lib.hid hC
  have AW := Lib.hid awake_any
  have HB := Lib.hid (Below.refl w.heap.size w)
  have HTL := Lib.hid (show (tabA L).length ≤ 1000000 by have := tabA_len L; omega)
  clear h hT hN hE hC
  rcases hk with rfl | rfl
  all_goals go_enter Tryz.func10, Tryz.ntmps10
  all_goals go_wp2_with (first
    | (go_at_call 12; refine (TA.out _ HB.out).mono ?_; rintro e wt ⟨u, S, rfl, hg, hb⟩; have HT := Lib.hid (hg.1.args HTL.out); have HB := Lib.hid (HB.out.trans (hb.mono HB.out.size)); clear hg hb)
    | (go_at_call 11; refine (PT.out _ _ HT.out).mono ?_; rintro e we ⟨ax, nx, cx, rfl, hb⟩; have HB := Lib.hid (HB.out.trans (hb.mono HB.out.size)); clear hb)
    | (go_at_call 22; refine (PN.out _ _ HT.out).mono ?_; rintro e we ⟨ax, nx, cx, rfl, hb⟩; have HB := Lib.hid (HB.out.trans (hb.mono HB.out.size)); clear hb)
    | (go_at_call 17; refine (PE.out _ _ HT.out).mono ?_; rintro e we ⟨ax, nx, cx, rfl, hb⟩; have HB := Lib.hid (HB.out.trans (hb.mono HB.out.size)); clear hb)
    | (go_at_call 18; refine (PC.out _ _ HT.out).mono ?_; rintro e we ⟨ax, nx, cx, rfl, hb⟩; have HB := Lib.hid (HB.out.trans (hb.mono HB.out.size)); clear hb)
    | (go_at_call 14; refine (AW.out _).mono ?_; rintro e wa ⟨rfl, hb⟩; have HB := Lib.hid (HB.out.trans (hb.mono HB.out.size)); clear hb))
  all_goals go_ret
  all_goals exact ⟨rfl, HB.out⟩
/-- Whether a number is in a list. -/
def cB (x : List Int) (y : Int) : Bool := x.any fun z => y == z
/-- How many elements the first classes of a list have. -/
def sizI (C : List (List Int)) (r : List Int) (j : Nat) : Int := ((r.take j).map fun y => ((C.getD y.toNat []).length : Int)).sum
theorem sizI_succ {C : List (List Int)} {r : List Int} {j : Nat} (h : j < r.length) : sizI C r (j + 1) = sizI C r j + ((C.getD (r[j]).toNat []).length : Int) := by
  unfold sizI
  rw [List.take_succ_eq_append_getElem h, List.map_append, List.sum_append]; simp
theorem sizI_bound {C : List (List Int)} {r : List Int} (hc : ∀ c ∈ C, c.length ≤ 24) : ∀ j : Nat, j ≤ r.length → 0 ≤ sizI C r j ∧ sizI C r j ≤ 24 * (j : Int)
  | 0, _ => by simp [sizI]
  | j + 1, h => by
    have := sizI_bound hc j (Nat.le_of_succ_le h)
    rw [sizI_succ h]
    have h2 : (C.getD (r[j]).toNat []).length ≤ 24 := by
      rw [List.getD_eq_getElem?_getD]
      cases hx : C[(r[j]).toNat]? with
      | none => simp
      | some c => exact hc c (List.mem_of_getElem? hx)
    omega
/-- Whether the first numbers of a row are all in a list. -/
def wiB (x r : List Int) (j : Nat) : Bool := (r.take j).all (cB x)
theorem wiB_succ {x r : List Int} {j : Nat} (h : j < r.length) : wiB x r (j + 1) = (wiB x r j && cB x r[j]) := by
  unfold wiB
  rw [List.take_succ_eq_append_getElem h, List.all_append]; simp
/-- Whether a class is in all of the first kernels that contain a row. -/
def alB (K : List (List Int)) (r : List Int) (k : Int) (i : Nat) : Bool := (K.take i).all fun x => !(wiB x r r.length) || cB x k
theorem alB_succ {K : List (List Int)} {r : List Int} {k : Int} {i : Nat} (h : i < K.length) : alB K r k (i + 1) = (alB K r k i && (!(wiB K[i] r r.length) || cB K[i] k)) := by
  unfold alB
  rw [List.take_succ_eq_append_getElem h, List.all_append]; simp
structure KerF (n m : Nat) (T NL KL C : List (List Int)) : Prop where
  mc : C.length = m
  m0 : 0 < m
  m24 : m ≤ 24
  n24 : n ≤ 24
  tl : T.length ≤ 24
  t0 : 0 < T.length
  rl : ∀ r ∈ T, r.length ≤ 24
  kl : KL.length = T.length
  nl : NL.length ≤ 1000
  n0 : 0 < NL.length
  nr : ∀ r ∈ NL, r.length ≤ 24 ∧ 0 < r.length ∧ ∀ y ∈ r, 0 ≤ y ∧ y < (m : Int)
  cl : ∀ c ∈ C, c.length ≤ 24
  siz : ∀ r ∈ NL, 1 ≤ sizI C r r.length ∧ ((n : Nat) : Int).tmod (sizI C r r.length) = 0
  kin : ∀ k (h : k < KL.length), KL[k] ∈ NL
  kn : ∀ x ∈ KL, x.length ≤ 24
  all : ∀ r ∈ NL, ∀ k : Nat, k < m → alB KL r (k : Int) KL.length = cB r (k : Int)
theorem vec_keep1 : KeepR 1000000 Vec := Vec.keep (t := 1000000) (by decide)
set_option maxRecDepth 100000 in
set_option maxHeartbeats 8000000 in
theorem kern_ok {T NL KL C : List (List Int)} {n m : Nat} (v : Value) (L : List (List Int)) (w : World) (h : Args w v L) (hF : KerF n m T NL KL C)
    (hT : ∀ u w', Args w' u (tabA L) → Calls Tryz.prog 11 #[u] w' fun e w2 => ∃ x, e = .returned (.tuple #[x, .int .i64 0]) ∧ Args w2 x T ∧ Below w'.heap.size w' w2)
    (hN : ∀ u w', Args w' u (tabA L) → Calls Tryz.prog 22 #[u] w' fun e w2 => ∃ x, e = .returned (.tuple #[x, .int .i64 0]) ∧ Args w2 x NL ∧ Below w'.heap.size w' w2)
    (hC : ∀ u w', Args w' u (tabA L) → Calls Tryz.prog 18 #[u] w' fun e w2 => ∃ x, e = .returned (.tuple #[x, .int .i64 0]) ∧ Args w2 x C ∧ Below w'.heap.size w' w2)
    (hE : ∀ u w', Args w' u (tabA L) → Calls Tryz.prog 17 #[u] w' fun e w2 => ∃ a c, e = .returned (.tuple #[.slice a n c, .int .i64 0]) ∧ Below w'.heap.size w' w2)
    (hK : ∀ k (hk : k < T.length) (hk2 : k < KL.length) u x w', Args w' u (tabA L) → Ints w' x T[k] → Calls Tryz.prog 23 #[u, x] w' fun e w2 => ∃ s, e = .returned (.tuple #[s, .int .i64 0]) ∧ OwnI 3 w'.heap.size w2 s KL[k] ∧ Below w'.heap.size w' w2) :
    Calls Tryz.prog 10 #[v] w fun e w' => e = .returned (.bool true) ∧ Below w.heap.size w w' := by
  have TA := Lib.hid (fun w' (hb : Below w.heap.size w w') => table_any v L w' (h.below hb))
  have PT := Lib.hid hT
  have PN := Lib.hid hN
  have PE := Lib.hid hE
  have PC := Lib.hid hC
  have PK := Lib.hid hK
  have AW := Lib.hid awake_any
  have HB := Lib.hid (Below.refl w.heap.size w)
  have HTL := Lib.hid (show (tabA L).length ≤ 1000000 by have := tabA_len L; omega)
  have HF := Lib.hid hF
  have hm0 := hF.m0
  have hm24 := hF.m24
  have hn24 := hF.n24
  have htl := hF.tl
  have ht0 := hF.t0
  have hnl := hF.nl
  have hn0 := hF.n0
  have HMC := Lib.hid hF.mc
  obtain ⟨t, ht⟩ : ∃ t, T.length = t := ⟨_, rfl⟩
  have HT2 := Lib.hid ht
  have HKL := Lib.hid (show KL.length = t by rw [hF.kl, ht])
  obtain ⟨z, hz⟩ : ∃ z, NL.length = z := ⟨_, rfl⟩
  have HZ := Lib.hid hz
  rw [ht] at htl ht0
  rw [hz] at hnl hn0
  clear h hT hN hC hE hK hF ht hz
  go_enter Tryz.func10, Tryz.ntmps10
  go_wp2_with (first
    | (go_at_call 12; refine (TA.out _ HB.out).mono ?_; rintro e wt ⟨u, S, rfl, hg, hb⟩; have HT := Lib.hid (hg.1.args HTL.out); have HB := Lib.hid (HB.out.trans (hb.mono HB.out.size)); (try (have HXT := Lib.hid (HXT.out.below hb))); (try (have HXN := Lib.hid (HXN.out.below hb))); (try (have HXC := Lib.hid (HXC.out.below hb))); clear hg hb)
    | (go_at_call 11; refine (PT.out _ _ HT.out).mono ?_; rintro e we ⟨x1, rfl, hx, hb⟩; obtain ⟨aT, cT, rfl⟩ := hx.form; have HXT := Lib.hid hx; rw [HT2.out] at HXT ⊢; have HB := Lib.hid (HB.out.trans (hb.mono HB.out.size)); clear hb hx)
    | (go_at_call 22; refine (PN.out _ _ HT.out).mono ?_; rintro e we ⟨x2, rfl, hx, hb⟩; obtain ⟨aN, cN, rfl⟩ := hx.form; have HXN := Lib.hid hx; rw [HZ.out] at HXN ⊢; have HXT := Lib.hid (HXT.out.below hb); have HB := Lib.hid (HB.out.trans (hb.mono HB.out.size)); clear hb hx)
    | (go_at_call 18; refine (PC.out _ _ HT.out).mono ?_; rintro e we ⟨x3, rfl, hx, hb⟩; obtain ⟨aC, cC, rfl⟩ := hx.form; have HXC := Lib.hid hx; rw [HMC.out] at HXC ⊢; have HXT := Lib.hid (HXT.out.below hb); have HXN := Lib.hid (HXN.out.below hb); have HB := Lib.hid (HB.out.trans (hb.mono HB.out.size)); clear hb hx)
    | (go_at_call 17; refine (PE.out _ _ HT.out).mono ?_; rintro e we ⟨aE, cE, rfl, hb⟩; have HXC := Lib.hid (HXC.out.below hb); have HXT := Lib.hid (HXT.out.below hb); have HXN := Lib.hid (HXN.out.below hb); have HB := Lib.hid (HB.out.trans (hb.mono HB.out.size)); clear hb))
  obtain ⟨gT, oT, cT2, e1, hgT⟩ := args_fix HXT.out (by rw [HT2.out]; exact ht0)
  obtain ⟨rfl, -, rfl⟩ := Value.slice.inj e1
  have HRT := Lib.hid hgT
  clear e1 hgT
  obtain ⟨gN, oN, cN2, e1, hgN⟩ := args_fix HXN.out (by rw [HZ.out]; exact hn0)
  obtain ⟨rfl, -, rfl⟩ := Value.slice.inj e1
  have HRN := Lib.hid hgN
  clear e1 hgN
  obtain ⟨gC, oC, cC2, e1, hgC⟩ := args_fix HXC.out (by rw [HMC.out]; exact hm0)
  obtain ⟨rfl, -, rfl⟩ := Value.slice.inj e1
  have HRC := Lib.hid hgC
  clear e1 hgC
  go_loopw [11, 90] (fun vo ix wr => ∃ k : Nat, k ≤ t ∧ ix = .int .i64 k ∧ OwnG 27 Vec we.heap.size wr vo (KL.take k) ∧ Below we.heap.size we wr) (fun _ ix _ => t - (intOf ix).toNat)
  case atStart => exact ⟨0, Nat.zero_le _, rfl, OwnG.nil _ _ _ _, Below.refl _ _⟩
  case round =>
    obtain ⟨k, hk, rfl, ho, hb⟩ := hrel
    have HO := Lib.hid ho
    have HBW := Lib.hid hb
    have hle := hb.size
    obtain ⟨a11, c11, rfl⟩ := ho.form
    obtain ⟨n11, hn11⟩ : ∃ x, (KL.take k).length = x := ⟨_, rfl⟩
    have HL11 := Lib.hid hn11
    rw [hn11] at HO ⊢
    have hk11 : k = n11 := by rw [← hn11, List.length_take, HKL.out]; omega
    clear ho hn11
    obtain rfl := hk11
    by_cases hlt : k < t
    · have hki : (k : Int) < (t : Int) := by omega
      have hkT : k < T.length := by rw [HT2.out]; exact hlt
      have hkK : k < KL.length := by rw [HKL.out]; exact hlt
      obtain ⟨aU, cU, hrow⟩ := HRT.out k hkT
      have HRU := Lib.hid hrow
      have hcu := (hrow wr hb).1
      have PKK := Lib.hid (PK.out k hkT hkK)
      have hkn := HF.out.kn _ (List.getElem_mem hkK)
      have HKS := Lib.hid (show KL.take (k + 1) = KL.take k ++ [KL[k]] from List.take_succ_eq_append_getElem hkK)
      have HIN := Lib.hid (show decide (KL[k] ∈ NL) = true by rw [decide_eq_true_eq]; exact HF.out.kin k hkK)
      have HRL := Lib.hid (HF.out.rl _ (List.getElem_mem hkT))
      obtain ⟨lu, hlu⟩ : ∃ x, (T[k]).length = x := ⟨_, rfl⟩
      have HLU := Lib.hid hlu
      rw [hlu] at hcu HRU HRL
      obtain ⟨X, hX⟩ : ∃ X, KL[k] = X := ⟨_, rfl⟩
      rw [hX] at PKK hkn HKS HIN
      have HKN := Lib.hid hkn
      obtain ⟨wS, hwS⟩ : ∃ x, x = wr := ⟨_, rfl⟩
      clear hb hrow hlu hX hkn
      go_upto_region 14 with (first
        | (go_at_call 12; refine (TA.out _ (HB.out.trans (HBW.out.mono HB.out.size))).mono ?_; rintro e wt ⟨u, S, rfl, hg, hb⟩; have HT := Lib.hid (hg.1.args HTL.out); have HO := Lib.hid (HO.out.below hb vec_keep1); have HBW := Lib.hid (HBW.out.trans (hb.mono HBW.out.size)); clear hg hb)
        | (go_at_call 39; refine (Clone_any (.slice aU lu cU) T[k] _ (HRU.out _ HBW.out).2).mono ?_; rintro e wc ⟨x1, rfl, hx, hb⟩; have HX1 := Lib.hid (hx.ints (by rw [HLU.out]; have := HRL.out; omega)); have HT := Lib.hid (HT.out.below hb); have HO := Lib.hid (HO.out.below hb vec_keep1); have HBW := Lib.hid (HBW.out.trans (hb.mono HBW.out.size)); clear hx hb)
        | (go_at_call 23; refine (PKK.out _ _ _ HT.out HX1.out).mono ?_; rintro e wk ⟨s, rfl, hs, hb⟩; have HO := Lib.hid (HO.out.below hb vec_keep1); have HBW := Lib.hid (HBW.out.trans (hb.mono HBW.out.size)); have HVX := Lib.hid (hs.vec (by have := HKN.out; omega)); obtain ⟨aS, nS, cS, rfl⟩ := own_form hs; clear hb hs))
      have CN := Lib.hid (fun (p : Nat) (W : World) (hb : Below we.heap.size we W) (hp : CapF W p (.slice aS nS cS) X) => containsK_any (.slice (some ⟨gN, oN, none⟩) z cN) (.slice aS nS cS) NL X W (HXN.out.below hb) hp (by rw [HZ.out]; omega))
      rw [HIN.out] at CN
      obtain ⟨p, hp⟩ : ∃ p, wk.heap.size = p := ⟨_, rfl⟩
      have HP := Lib.hid hp
      obtain ⟨W4, hW4⟩ : ∃ x, wk.alloc (.cells #[.slice aS nS cS] 27) = x := ⟨_, rfl⟩
      have HB4 := Lib.hid (show Below we.heap.size we W4 by rw [← hW4]; exact HBW.out.alloc HBW.out.size _)
      have HBK := Lib.hid (show Below wk.heap.size wk W4 by rw [← hW4]; exact (Below.refl _ _).alloc (Nat.le_refl _) _)
      have HCP := Lib.hid (show CapF W4 p (.slice aS nS cS) X from ⟨by rw [← hW4, ← hp]; exact cell_new1 _ _ _, by rw [← hW4, ← hp]; simp, HVX.out.ints.below HBK.out⟩)
      have HO4 := Lib.hid (HO.out.below HBK.out vec_keep1)
      have HV4 := Lib.hid (HVX.out.below HBK.out)
      have hcp := HCP.out.cell
      rw [hp, hW4]
      clear hp hW4
      go_wp2_with (first
        | (go_at_call 26; refine (CN.out _ _ HB4.out HCP.out).mono ?_; rintro e w5 ⟨rfl, hb⟩; have hcp := (HCP.out.below hb).cell; have HO5 := Lib.hid (HO4.out.below hb vec_keep1); have HV5 := Lib.hid (HV4.out.below hb); have HB5 := Lib.hid (HB4.out.trans (hb.mono HB4.out.size)); clear hb)
        | (at_builtin; refine wpl_appG (t := 27) (R := Vec) (B := we.heap.size) rfl _ _ 22 rfl Tryz.underlying22 infoR (Vec.keep ne_ri) (fun _ _ _ h => h.one) rfl (HO5.out.below ((Below.refl _ _).alloc (Nat.le_refl _) _) vec_keep1) rfl (Held.new _ _ [_]) (HV5.out.below ((Below.refl _ _).alloc (Nat.le_refl _) _)) (by rw [HL11.out]; omega) (by have := HB5.out.size; simp; omega) ?_; intro v7 w7 ho7 hg7 hl7; have HO7 := Lib.hid ho7; have HB7 := Lib.hid ((HB5.out.alloc HB5.out.size (.cells #[.slice aS nS cS] 27)).grown hg7 (by have := HB5.out.size; simp; omega) (fun k hk => (HO5.out.own hk).1)); clear ho7 hg7 hl7))
      go_roundw
      case rel => exact ⟨k + 1, hlt, by go_num, by rw [HKS.out]; exact HO7.out, HB7.out⟩
      case measure => simp [intOf]; omega
    · obtain rfl : t = k := by omega
      have hki : ¬ (t : Int) < (t : Int) := by omega
      have hKF : KL.take t = KL := List.take_of_length_le (by rw [HKL.out]; exact Nat.le_refl _)
      have HXK := Lib.hid (show Args wr (.slice a11 t c11) KL from by
        have h0 := HO.out
        rw [hKF] at h0
        exact rows_args (h0.slr (by rw [HKL.out]; omega)))
      obtain ⟨gK, oK, cK2, e1, hgK⟩ := args_fix HXK.out (by rw [HKL.out]; exact ht0)
      obtain ⟨rfl, -, rfl⟩ := Value.slice.inj e1
      have HRK := Lib.hid hgK
      obtain ⟨wK, hwK⟩ : ∃ x, x = wr := ⟨_, rfl⟩
      have HBK := Lib.hid HBW.out
      clear e1 hgK hKF hb HO HL11
      rw [← hwK] at HXK HRK HBK hle ⊢
      clear hwK
      go_wp2
      go_loopw [117] (fun ix wr => ∃ s : Nat, s ≤ z ∧ ix = .int .i64 s ∧ Below wK.heap.size wK wr) (fun ix _ => z - (intOf ix).toNat)
      case atStart => exact ⟨0, Nat.zero_le _, rfl, Below.refl _ _⟩
      case round =>
        obtain ⟨s, hs, rfl, hb⟩ := hrel
        have HB1 := Lib.hid hb
        clear hb
        by_cases hsl : s < z
        · have hsi : (s : Int) < (z : Int) := by omega
          have hsN : s < NL.length := by rw [HZ.out]; exact hsl
          obtain ⟨aR, cR, hrow⟩ := HRN.out s hsN
          have hnr := HF.out.nr _ (List.getElem_mem hsN)
          have HSZ := Lib.hid (HF.out.siz _ (List.getElem_mem hsN))
          have HAL := Lib.hid (HF.out.all _ (List.getElem_mem hsN))
          obtain ⟨R, hR⟩ : ∃ R, NL[s] = R := ⟨_, rfl⟩
          rw [hR] at hrow hnr HSZ HAL
          have HRY := Lib.hid hnr.2.2
          obtain ⟨lr, hlr⟩ : ∃ x, R.length = x := ⟨_, rfl⟩
          have HLR := Lib.hid hlr
          rw [hlr] at hrow hnr HSZ
          have HRR := Lib.hid hrow
          have hlr24 := hnr.1
          have hlr0 := hnr.2.1
          have hrw := hrow wr (HBK.out.trans (HB1.out.mono HBK.out.size))
          have hcu := hrw.1
          obtain ⟨bR, oR, rfl, hcR⟩ := ints_at hrw.2 (by rw [hlr]; exact hlr0)
          have HCR := Lib.hid (fun W (hb : Below wr.heap.size wr W) j (hj : j < lr) => show W.cell? ⟨bR, oR + j, none⟩ = some (.int .i64 (R.getD j 0)) from by
            obtain ⟨b2, o2, e2, h2⟩ := ints_at (hrow W ((HBK.out.trans (HB1.out.mono HBK.out.size)).trans (hb.mono (Nat.le_trans HBK.out.size HB1.out.size)))).2 (by rw [hlr]; exact hlr0)
            obtain ⟨rfl, rfl⟩ : bR = b2 ∧ oR = o2 := by simpa using e2
            exact h2 j (by rw [hlr]; exact hj))
          obtain ⟨wR, hwR⟩ : ∃ x, x = wr := ⟨_, rfl⟩
          rw [← hwR] at HB1 HCR hcu ⊢
          clear hR hlr hnr hrow hrw hcR hwR
          have HBR := Lib.hid (HBK.out.trans (HB1.out.mono HBK.out.size))
          go_wp2
          go_loopw [18, 123] (fun sm ix wr => ∃ j : Nat, j ≤ lr ∧ ix = .int .i64 j ∧ sm = .int .i64 (sizI C R j) ∧ Below wR.heap.size wR wr) (fun _ ix _ => lr - (intOf ix).toNat)
          case atStart => exact ⟨0, Nat.zero_le _, rfl, rfl, Below.refl _ _⟩
          case round =>
            obtain ⟨j, hj, rfl, rfl, hb⟩ := hrel
            have HB2 := Lib.hid hb
            clear hcu
            by_cases hjl : j < lr
            · have hji : (j : Int) < (lr : Int) := by omega
              have hjR : j < R.length := by rw [HLR.out]; exact hjl
              have hcy := HCR.out wr hb j hjl
              have hy := HRY.out _ (List.getElem_mem hjR)
              have hge : R.getD j 0 = R[j] := getD_atN hjR
              have HSS := Lib.hid (sizI_succ (C := C) hjR)
              have hsb := sizI_bound (C := C) (r := R) HF.out.cl j (Nat.le_of_lt hjR)
              rw [hge] at hcy
              obtain ⟨y, hye⟩ : ∃ y : Nat, R[j] = (y : Int) := ⟨(R[j]).toNat, by omega⟩
              rw [hye] at hcy hy HSS
              rw [Int.toNat_natCast] at HSS
              have hyC : y < C.length := by rw [HMC.out]; omega
              obtain ⟨aY, cY, hrowY⟩ := HRC.out y hyC
              have hcc := (hrowY wr (HBR.out.trans (hb.mono HBR.out.size))).1
              have hcl := HF.out.cl _ (List.getElem_mem hyC)
              have hgd : C.getD y [] = C[y] := by rw [List.getD_eq_getElem?_getD, List.getElem?_eq_getElem hyC]; rfl
              rw [hgd] at HSS
              obtain ⟨q, hq⟩ : ∃ q, (C[y]).length = q := ⟨_, rfl⟩
              rw [hq] at hcc hcl HSS
              obtain ⟨S, hS⟩ : ∃ S, sizI C R j = S := ⟨_, rfl⟩
              rw [hS] at hsb HSS ⊢
              have hym : (y : Int) < (m : Int) := by omega
              have hyg : decide ((m : Int) ≤ (y : Int)) = false := by simp; omega
              have hy0 : decide ((y : Int) < 0) = false := by simp
              have hw1 : IntKind.i64.wrap (S + (q : Int)) = S + (q : Int) := IntWalk.i64_in _ (by omega)
              clear hb hrowY hgd hq hS hye hge hy hjR hyC
              go_wp2
              go_roundw
              case rel => exact ⟨j + 1, hjl, by go_num, by rw [HSS.out], HB2.out⟩
              case measure => simp [intOf]; omega
            · obtain rfl : lr = j := by omega
              have hji : ¬ (lr : Int) < (lr : Int) := by omega
              have hsz := HSZ.out
              have hsb := sizI_bound (C := C) (r := R) HF.out.cl lr (by rw [HLR.out]; exact Nat.le_refl _)
              obtain ⟨S, hS⟩ : ∃ S, sizI C R lr = S := ⟨_, rfl⟩
              rw [hS] at hsz hsb ⊢
              have hs1 : decide (S < 1) = false := by simp; omega
              have hs0 : ¬ S = 0 := by omega
              have hrem := hsz.2
              clear hS hb hsz hsb
              go_wp2
              clear hrem hs1 hs0
              obtain ⟨wS, hwS⟩ : ∃ x, x = wr := ⟨_, rfl⟩
              have HBS := Lib.hid (HBR.out.trans (HB2.out.mono HBR.out.size))
              have HBS2 := Lib.hid HB2.out
              rw [← hwS] at HBS HBS2 ⊢
              clear hwS HB2
              go_loopw [154] (fun ix wr => ∃ k : Nat, k ≤ m ∧ ix = .int .i64 k ∧ Below wS.heap.size wS wr) (fun ix _ => m - (intOf ix).toNat)
              case atStart => exact ⟨0, Nat.zero_le _, rfl, Below.refl _ _⟩
              case round =>
                obtain ⟨k, hk2, rfl, hb⟩ := hrel
                have HB3 := Lib.hid hb
                clear hb
                by_cases hkl : k < m
                · have hki2 : (k : Int) < (m : Int) := by omega
                  have HAK := Lib.hid (HAL.out k hkl)
                  go_wp2
                  go_loopw [22, 159] (fun al ix wr => ∃ i : Nat, i ≤ t ∧ ix = .int .i64 i ∧ al = .bool (alB KL R k i) ∧ Below wS.heap.size wS wr) (fun _ ix _ => t - (intOf ix).toNat)
                  case atStart => exact ⟨0, Nat.zero_le _, rfl, rfl, HB3.out⟩
                  case round =>
                    obtain ⟨i, hi, rfl, rfl, hb⟩ := hrel
                    have HB4 := Lib.hid hb
                    clear hb
                    by_cases hil : i < t
                    · have hii : (i : Int) < (t : Int) := by omega
                      have hiK : i < KL.length := by rw [HKL.out]; exact hil
                      obtain ⟨aX, cX, hrowX⟩ := HRK.out i hiK
                      have HAS := Lib.hid (alB_succ (r := R) (k := (k : Int)) hiK)
                      have hkn := HF.out.kn _ (List.getElem_mem hiK)
                      rw [HLR.out] at HAS
                      obtain ⟨X, hX⟩ : ∃ X, KL[i] = X := ⟨_, rfl⟩
                      rw [hX] at hrowX HAS hkn
                      obtain ⟨lx, hlx⟩ : ∃ x, X.length = x := ⟨_, rfl⟩
                      rw [hlx] at hrowX hkn
                      have HKS := Lib.hid (fun W (hb : Below wS.heap.size wS W) => hrowX W ((HB1.out.trans (HBS2.out.mono HB1.out.size)).trans (hb.mono (Nat.le_trans HB1.out.size HBS2.out.size))))
                      have hcx := (HKS.out wr HB4.out).1
                      obtain ⟨A, hA⟩ : ∃ A, alB KL R (k : Int) i = A := ⟨_, rfl⟩
                      rw [hA] at HAS ⊢
                      clear hrowX hX hlx hA
                      go_wp2
                      go_loopw [25, 165] (fun wi ix wr => ∃ j : Nat, j ≤ lr ∧ ix = .int .i64 j ∧ wi = .bool (wiB X R j) ∧ Below wS.heap.size wS wr) (fun _ ix _ => lr - (intOf ix).toNat)
                      case atStart => exact ⟨0, Nat.zero_le _, rfl, rfl, HB4.out⟩
                      case round =>
                        obtain ⟨j, hj, rfl, rfl, hb⟩ := hrel
                        have HB5 := Lib.hid hb
                        clear hcx
                        by_cases hjl : j < lr
                        · have hji : (j : Int) < (lr : Int) := by omega
                          have hjR : j < R.length := by rw [HLR.out]; exact hjl
                          have hcy := HCR.out wr (HBS2.out.trans (hb.mono HBS2.out.size)) j hjl
                          have hge : R.getD j 0 = R[j] := getD_atN hjR
                          have HWS := Lib.hid (wiB_succ (x := X) hjR)
                          rw [hge] at hcy
                          obtain ⟨y, hye⟩ : ∃ y, R[j] = y := ⟨_, rfl⟩
                          rw [hye] at hcy HWS
                          have CB := Lib.hid (Contains_any (.slice aX lx cX) X y wr (HKS.out wr hb).2)
                          obtain ⟨P, hP⟩ : ∃ P, wiB X R j = P := ⟨_, rfl⟩
                          rw [hP] at HWS ⊢
                          have HCB := Lib.hid (show (X.any fun x => y == x) = cB X y from rfl)
                          rw [HCB.out] at CB
                          obtain ⟨Q, hQ⟩ : ∃ Q, cB X y = Q := ⟨_, rfl⟩
                          rw [hQ] at CB HWS
                          clear hb hge hye hP HCB hQ
                          cases P with
                          | false =>
                            go_wp2
                            go_roundw
                            case rel => exact ⟨j + 1, hjl, by go_num, by rw [HWS.out]; rfl, HB5.out⟩
                            case measure => simp [intOf]; omega
                          | true =>
                            go_wp2_with (go_at_call 42; refine CB.out.mono ?_; rintro e w6 ⟨rfl, rfl⟩)
                            go_roundw
                            case rel => exact ⟨j + 1, hjl, by go_num, by rw [HWS.out]; rfl, HB5.out⟩
                            case measure => simp [intOf]; omega
                        · obtain rfl : lr = j := by omega
                          have hji : ¬ (lr : Int) < (lr : Int) := by omega
                          have CB := Lib.hid (Contains_any (.slice aX lx cX) X (k : Int) wr (HKS.out wr hb).2)
                          have HCB := Lib.hid (show (X.any fun x => (k : Int) == x) = cB X (k : Int) from rfl)
                          rw [HCB.out] at CB
                          obtain ⟨P, hP⟩ : ∃ P, wiB X R lr = P := ⟨_, rfl⟩
                          obtain ⟨Q, hQ⟩ : ∃ Q, cB X (k : Int) = Q := ⟨_, rfl⟩
                          rw [hQ] at CB HAS
                          rw [hP] at HAS ⊢
                          clear hb HCB hQ hP
                          cases A with
                          | false =>
                            go_wp2
                            go_roundw
                            case rel => exact ⟨i + 1, hil, by go_num, by rw [HAS.out]; rfl, HB5.out⟩
                            case measure => simp [intOf]; omega
                          | true =>
                            cases P with
                            | false =>
                              go_wp2
                              go_roundw
                              case rel => exact ⟨i + 1, hil, by go_num, by rw [HAS.out]; rfl, HB5.out⟩
                              case measure => simp [intOf]; omega
                            | true =>
                              go_wp2_with (go_at_call 42; refine CB.out.mono ?_; rintro e w6 ⟨rfl, rfl⟩)
                              go_roundw
                              case rel => exact ⟨i + 1, hil, by go_num, by rw [HAS.out]; rfl, HB5.out⟩
                              case measure => simp [intOf]; omega
                    · obtain rfl : t = i := by omega
                      have hii : ¬ (t : Int) < (t : Int) := by omega
                      rw [HKL.out] at HAK
                      rw [HAK.out]
                      have CB := Lib.hid (Contains_any (.slice (some ⟨bR, oR, none⟩) lr cR) R (k : Int) wr (HRR.out wr (HBS.out.trans (HB4.out.mono HBS.out.size))).2)
                      have HCB := Lib.hid (show (R.any fun x => (k : Int) == x) = cB R (k : Int) from rfl)
                      rw [HCB.out] at CB
                      obtain ⟨Q, hQ⟩ : ∃ Q, cB R (k : Int) = Q := ⟨_, rfl⟩
                      rw [hQ] at CB ⊢
                      have hqq : (Q != Q) = false := by simp
                      clear HCB hQ
                      go_wp2_with (go_at_call 42; refine CB.out.mono ?_; rintro e w6 ⟨rfl, rfl⟩)
                      go_roundw
                      case rel => exact ⟨k + 1, hkl, by go_num, HB4.out⟩
                      case measure => simp [intOf]; omega
                · obtain rfl : m = k := by omega
                  have hki2 : ¬ (m : Int) < (m : Int) := by omega
                  go_wp2
                  go_roundw
                  case rel => exact ⟨s + 1, hsl, by go_num, (HB1.out.trans (HBS2.out.mono HB1.out.size)).trans (HB3.out.mono (Nat.le_trans HB1.out.size HBS2.out.size))⟩
                  case measure => simp [intOf]; omega
        · obtain rfl : z = s := by omega
          have hsi : ¬ (z : Int) < (z : Int) := by omega
          go_wp2_with (go_at_call 14; refine (AW.out _).mono ?_; rintro e wa ⟨rfl, hb⟩; have HBF := Lib.hid (HB1.out.trans (hb.mono HB1.out.size)); clear hb)
          go_ret
          exact ⟨rfl, (HB.out.trans (HBK.out.mono HB.out.size)).trans (HBF.out.mono (Nat.le_trans HB.out.size HBK.out.size))⟩
end Go.Proofs.YtdackakjcnnofaaGreat
