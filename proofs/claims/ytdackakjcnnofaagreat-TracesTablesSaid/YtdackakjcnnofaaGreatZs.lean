/- The reference's power, Bouquets. -/
import Derived.Test.YtdackakjcnnofaaGreatR2
import Derived.Test.YtdackakjcnnofaaGreatA9
namespace Go.Proofs.YtdackakjcnnofaaGreat
open Go.RowKit
attribute [local go_sem] Oper.semAt_some

theorem pow_le8' {c k : Nat} (hc : c ≤ 8) (hk : k ≤ 5) : c ^ k ≤ 32768 := by
  have h1 : c ^ k ≤ 8 ^ k := Nat.pow_le_pow_left hc k
  have h2 : 8 ^ k ≤ 8 ^ 5 := Nat.pow_le_pow_right (by omega) hk
  omega
set_option maxHeartbeats 400000 in
theorem power_any (a k : Nat) (w : World) (ha : a ≤ 8) (hk : k ≤ 5) : Calls Tryz.prog 51 #[.int .i64 (a : Nat), .int .i64 (k : Nat)] w fun e w' => e = .returned (.int .i64 (a ^ k : Nat)) ∧ Below w.heap.size w w' := by
  go_enter Tryz.func51, Tryz.ntmps51
  go_wp2
  go_loopw [5, 7] (fun s ix wr => ∃ j : Nat, j ≤ k ∧ ix = .int .i64 j ∧ s = .int .i64 (a ^ j : Nat) ∧ Below w.heap.size w wr) (fun _ ix _ => k - (intOf ix).toNat)
  case atStart => exact ⟨0, Nat.zero_le _, rfl, by simp, Below.refl _ _⟩
  case round =>
    obtain ⟨j, hj, rfl, rfl, hb⟩ := hrel
    by_cases hlt : j < k
    · have hji : (j : Int) < (k : Int) := by omega
      have hp := pow_le8' (c := a) (k := j) ha (by omega)
      have HS := Lib.hid (show a ^ (j + 1) = a ^ j * a from Nat.pow_succ a j)
      obtain ⟨p, hpp⟩ : ∃ p, a ^ j = p := ⟨_, rfl⟩
      rw [hpp] at hp HS ⊢
      have hw := IntWalk.i64_in ((p : Int) * (a : Int)) (by
        have h1 : (p : Int) * (a : Int) ≤ 32768 * 8 := Int.mul_le_mul (by omega) (by omega) (by omega) (by omega)
        have h2 : 0 ≤ (p : Int) * (a : Int) := Int.mul_nonneg (by omega) (by omega)
        omega)
      clear hpp
      go_wp2
      go_roundw
      case rel => exact ⟨j + 1, hlt, by go_num, by rw [HS.out, Int.natCast_mul], hb⟩
      case measure => simp [intOf]; omega
    · obtain rfl : j = k := by omega
      have hji : ¬ (j : Int) < (j : Int) := by omega
      go_wp2
      go_ret
      exact ⟨rfl, hb⟩
theorem Ints.atN' {W : World} {u : Value} {l : List Nat} (h : Ints W u (toI l)) {i : Nat} (hi : i < l.length) : ∃ b off c, u = .slice (some ⟨b, off, none⟩) l.length c ∧ b < W.heap.size ∧ W.cell? ⟨b, off + i, none⟩ = some (.int .i64 ((l[i] : Nat) : Int)) := by
  obtain ⟨a, c, rfl, _, _, h3⟩ := h.openN
  obtain ⟨b, off, rfl, hb, hc⟩ := h3 (fun e => by rw [e] at hi; simp at hi)
  exact ⟨b, off, c, rfl, hb, hc i hi⟩
theorem cast_rem' (a q : Nat) : Int.tmod (a : Int) (q : Int) = ((a % q : Nat) : Int) := by rw [Int.ofNat_tmod]
/-- A group of the reference in a box. -/
theorem RGI.box {d : Nat} {E : List (List Nat)} {w : World} {gv : Value} (h : RGI d E w gv) : ∃ vL vT vB vC vO, gv = rgV vL vT vB vC vO (primeN E d : Nat) ∧ RowsF (fun _ => True) 0 w vL E ∧ RowsF (fun _ => True) 0 w vC (classesN E) := by
  obtain ⟨vL, vT, vB, vC, vO, e, h1, _, _, h4, _⟩ := h
  exact ⟨vL, vT, vB, vC, vO, e, h1, h4⟩
/-- As far as one element's digits go. -/
theorem numD_snoc (c : Nat) (f : Nat → Nat) (k : Nat) : numD c f (k + 1) = numD c f k + f k * c ^ k := rfl
def firstTo (c d : Nat) (E : List (List Nat)) (x k : Nat) : Bool := (E.take k).all fun p => decide (x ≤ actC c d p x)
theorem firstTo_succ {c d x k : Nat} {E : List (List Nat)} {p : List Nat} (h : E[k]? = some p) : firstTo c d E x (k + 1) = (firstTo c d E x k && decide (x ≤ actC c d p x)) := by
  obtain ⟨hk, rfl⟩ := List.getElem?_eq_some_iff.1 h
  unfold firstTo
  rw [List.take_succ_eq_append_getElem hk, List.all_append]; simp
theorem firstTo_end {c d x : Nat} {E : List (List Nat)} : firstTo c d E x E.length = firstX E (actC c d) x := by unfold firstTo firstX; rw [List.take_length]
def cntTo (c d : Nat) (E : List (List Nat)) (x : Nat) : Nat := (List.range x).countP (firstX E (actC c d))
theorem cntTo_succ (c d : Nat) (E : List (List Nat)) (x : Nat) : cntTo c d E (x + 1) = cntTo c d E x + if firstX E (actC c d) x = true then 1 else 0 := by
  unfold cntTo
  rw [List.range_succ, List.countP_append, List.countP_singleton]
theorem cntTo_le (c d : Nat) (E : List (List Nat)) (x : Nat) : cntTo c d E x ≤ x := by
  unfold cntTo
  refine Nat.le_trans List.countP_le_length (by simp)
theorem divN (a b : Nat) : Int.tdiv (a : Int) (b : Int) = ((a / b : Nat) : Int) := by rw [Int.ofNat_tdiv]
set_option maxRecDepth 100000 in
set_option maxHeartbeats 4000000 in
theorem RBouquets_any {d c : Nat} {E : List (List Nat)} (gv : Value) (w : World) (h : Grp d E) (h1 : 0 < d) (hd : d ≤ 5) (h24 : E.length ≤ 24) (hg : RGI d E w gv) (hc : c ≤ 8) :
    Calls Tryz.prog 21 #[gv, .int .i64 (c : Nat)] w fun e w' => e = .returned (.int .i64 ((List.range (c ^ d)).countP (firstX E (actC c d)) : Nat)) ∧ Below w.heap.size w w' := by
  have PW := Lib.hid (fun (k : Nat) (W : World) (hk : k ≤ 5) => power_any c k W hc hk)
  obtain ⟨vL, vT, vB, vC, vO, rfl, hL, -⟩ := hg.box
  have HL := Lib.hid hL
  have HPM := Lib.hid h.perm
  have hpos := h.pos
  have h0m : E[0]? = some (E[0]) := List.getElem?_eq_getElem hpos
  obtain ⟨gL, capL, u0, rfl, _, hgL, hcu0, hu0⟩ := hL.at 0 hpos
  have hp0 := (h.perm _ (List.getElem_mem hpos)).len
  have hui0 := hu0.ints
  obtain ⟨a0, c0, rfl, -, -, -⟩ := hu0
  rw [toI_length, hp0] at hcu0
  obtain ⟨n, hn⟩ : ∃ n, E.length = n := ⟨_, rfl⟩
  have HN := Lib.hid hn
  rw [hn] at HL h24 hpos ⊢
  clear hL hui0 h0m hn hp0 hg h
  unfold rgV
  go_enter Tryz.func21, Tryz.ntmps21
  have HX0 := Lib.hid (Held.new w 29 [.slice (some ⟨gL, 0, none⟩) n capL, vT, vB, vC, vO, .int .i64 (primeN E d : Nat)])
  have HB0 := Lib.hid (show Below w.heap.size w (w.alloc (.cells #[.slice (some ⟨gL, 0, none⟩) n capL, vT, vB, vC, vO, .int .i64 (primeN E d : Nat)] 29)) from (Below.refl _ _).alloc (Nat.le_refl _) _)
  go_wp2_with fail
  obtain ⟨bx, hbx⟩ : ∃ x, w.heap.size = x := ⟨_, rfl⟩
  rw [hbx] at HX0 ⊢
  clear hbx
  obtain ⟨W0, hW0⟩ : ∃ x, w.alloc (.cells #[.slice (some ⟨gL, 0, none⟩) n capL, vT, vB, vC, vO, .int .i64 (primeN E d : Nat)] 29) = x := ⟨_, rfl⟩
  have HX1 := Lib.hid (show Held W0 bx 29 [.slice (some ⟨gL, 0, none⟩) n capL, vT, vB, vC, vO, .int .i64 (primeN E d : Nat)] by rw [← hW0]; exact HX0.out)
  rw [hW0] at HB0 ⊢
  clear hW0 HX0
  go_loopw [5, 18] (fun a ix wr => ∃ i : Nat, i ≤ d ∧ ix = .int .i64 i ∧ a = .int .i64 (c ^ i : Nat) ∧ Below W0.heap.size W0 wr) (fun _ ix _ => d - (intOf ix).toNat)
  case atStart => exact ⟨0, Nat.zero_le _, rfl, by simp, Below.refl _ _⟩
  case round =>
    obtain ⟨i, hi, rfl, rfl, hb⟩ := hrel
    by_cases hlt : i < d
    · have hii : (i : Int) < (d : Int) := by omega
      have hp := pow_le8' (c := c) (k := i) hc (by omega)
      have HS := Lib.hid (show c ^ (i + 1) = c ^ i * c from Nat.pow_succ c i)
      obtain ⟨p, hpp⟩ : ∃ p, c ^ i = p := ⟨_, rfl⟩
      rw [hpp] at hp HS ⊢
      have hw := IntWalk.i64_in ((p : Int) * (c : Int)) (by
        have h1 : (p : Int) * (c : Int) ≤ 32768 * 8 := Int.mul_le_mul (by omega) (by omega) (by omega) (by omega)
        have h2 : 0 ≤ (p : Int) * (c : Int) := Int.mul_nonneg (by omega) (by omega)
        omega)
      clear hpp
      go_wp2
      go_roundw
      case rel => exact ⟨i + 1, hlt, by go_num, by rw [HS.out, Int.natCast_mul], hb⟩
      case measure => simp [intOf]; omega
    · obtain rfl : i = d := by omega
      have hii : ¬ (i : Int) < (i : Int) := by omega
      have hN := pow_le8' (c := c) (k := i) hc hd
      have HC1 := Lib.hid (show ∀ x, x < c ^ i → 0 < c from fun x hx => by
        rcases Nat.eq_zero_or_pos c with h0 | h0
        · rw [h0, Nat.zero_pow h1] at hx; omega
        · exact h0)
      obtain ⟨N, hNN⟩ : ∃ N, c ^ i = N := ⟨_, rfl⟩
      have HFC := Lib.hid (show cntTo c i E N = (List.range (c ^ i)).countP (firstX E (actC c i)) by rw [← hNN]; rfl)
      rw [hNN] at hN HC1 ⊢
      obtain ⟨w1, hw1⟩ : ∃ x, x = wr := ⟨_, rfl⟩
      rw [← hw1] at hb ⊢
      have HB1 := Lib.hid hb
      clear hw1 hNN hb
      go_wp2_with fail
      go_loopw [6, 25] (fun nn ix wr => ∃ x : Nat, x ≤ N ∧ ix = .int .i64 x ∧ nn = .int .i64 (cntTo c i E x : Nat) ∧ Below W0.heap.size W0 wr) (fun _ ix _ => N - (intOf ix).toNat)
      case atStart => exact ⟨0, Nat.zero_le _, rfl, rfl, HB1.out⟩
      case round =>
        obtain ⟨x, hx, rfl, rfl, hb⟩ := hrel
        have HB := Lib.hid hb
        have hcl := cntTo_le c i E x
        by_cases hlt : x < N
        · have hxi : (x : Int) < (N : Int) := by omega
          have hc1 := HC1.out x hlt
          have hc0 := (HX1.out.below hb HX1.out.lt).at (i := 0) rfl
          have HCS := Lib.hid (cntTo_succ c i E x)
          have HFE := Lib.hid (show firstTo c i E x n = firstX E (actC c i) x by rw [← HN.out]; exact firstTo_end)
          obtain ⟨cn, hcn⟩ : ∃ y, cntTo c i E x = y := ⟨_, rfl⟩
          rw [hcn] at HCS hcl ⊢
          clear hb hcn
          go_wp2_with fail
          go_loopw [8, 31] (fun f ix wq => ∃ k : Nat, k ≤ n ∧ ix = .int .i64 k ∧ f = .bool (firstTo c i E x k) ∧ Below W0.heap.size W0 wq) (fun _ ix _ => n - (intOf ix).toNat)
          case atStart => exact ⟨0, Nat.zero_le _, rfl, rfl, HB.out⟩
          case round =>
            obtain ⟨k, hk, rfl, rfl, hb⟩ := hrel
            have HBK := Lib.hid hb
            by_cases hkl : k < n
            · have hki : (k : Int) < (n : Int) := by omega
              have hkE : k < E.length := by rw [HN.out]; exact hkl
              obtain ⟨gL2, capL2, u, e1, _, _, hcu, hu⟩ := (HL.out.below (HB0.out.trans (hb.mono HB0.out.size))).at k hkE
              obtain rfl : gL = gL2 := by have := (Value.slice.inj e1).1; simpa using this
              have hpm := HPM.out _ (List.getElem_mem hkE)
              have HFS := Lib.hid (firstTo_succ (c := c) (d := i) (x := x) (E := E) (List.getElem?_eq_getElem hkE))
              obtain ⟨p, hp⟩ : ∃ p, E[k] = p := ⟨_, rfl⟩
              rw [hp] at hu hpm HFS
              have HU := Lib.hid (show Ints wr u (toI p) from hu.ints)
              have HP := Lib.hid hpm
              have hpl := hpm.len
              obtain ⟨ap, cp, rfl, -, -, -⟩ := hu
              rw [toI_length, hpl] at hcu
              obtain ⟨ft, hft⟩ : ∃ y, firstTo c i E x k = y := ⟨_, rfl⟩
              rw [hft] at HFS ⊢
              have HPL := Lib.hid hpl
              clear hb hkE e1 hp hpm hpl hft
              obtain ⟨w2, hw2⟩ : ∃ x, x = wr := ⟨_, rfl⟩
              rw [← hw2] at HBK HU hcu ⊢
              clear hw2
              go_wp2_with fail
              go_loopw [11, 37] (fun y jx wq => ∃ j : Nat, j ≤ i ∧ jx = .int .i64 j ∧ y = .int .i64 (numD c (fun i => digC c x (p.getD i 0)) j : Nat) ∧ Below w2.heap.size w2 wq) (fun _ jx _ => i - (intOf jx).toNat)
              case atStart => exact ⟨0, Nat.zero_le _, rfl, rfl, Below.refl _ _⟩
              case round =>
                obtain ⟨j, hj, rfl, rfl, hb⟩ := hrel
                have HBJ := Lib.hid hb
                have hsj := hb.size
                by_cases hjl : j < i
                · have hji : (j : Int) < (i : Int) := by omega
                  have hjp : j < p.length := by rw [HPL.out]; exact hjl
                  obtain ⟨bp, op, cp2, e2, hbp, hcc⟩ := (show Ints wr _ (toI p) from HU.out.below hb).atN' hjp
                  obtain rfl : ap = some ⟨bp, op, none⟩ := (Value.slice.inj e2).1
                  have hpj := perm_getD_lt HP.out hjl
                  have hgd : p[j] = p.getD j 0 := by rw [List.getD_eq_getElem?_getD, List.getElem?_eq_getElem hjp]; rfl
                  rw [hgd] at hcc
                  have HST := Lib.hid (numD_snoc c (fun i => digC c x (p.getD i 0)) j)
                  have hnl := numD_lt (c := c) (f := fun i => digC c x (p.getD i 0)) (k := j) (fun _ _ => dig_lt hc1)
                  have hcj := pow_le8' (c := c) (k := j) hc (by omega)
                  obtain ⟨pj, hpjj⟩ : ∃ y, p.getD j 0 = y := ⟨_, rfl⟩
                  rw [hpjj] at hcc hpj HST
                  have hcp := pow_le8' (c := c) (k := pj) hc (by omega)
                  have P1 := Lib.hid (fun (q : BelW wr) => PW.out pj q.v (by omega))
                  have P2 := Lib.hid (fun (q : BelW wr) => PW.out j q.v (by omega))
                  have hpp : 0 < c ^ pj := Nat.pow_pos hc1
                  have hdl := dig_lt (c := c) (x := x) (k := pj) hc1
                  have hdv := divN x (c ^ pj)
                  have hrm := cast_rem' (x / c ^ pj) c
                  have hdd : x / c ^ pj % c = digC c x pj := rfl
                  rw [hdd] at hrm
                  obtain ⟨g, hg⟩ : ∃ y, digC c x pj = y := ⟨_, rfl⟩
                  rw [hg] at hrm hdl HST
                  obtain ⟨y, hy⟩ : ∃ y, numD c (fun i => digC c x (p.getD i 0)) j = y := ⟨_, rfl⟩
                  rw [hy] at hnl HST ⊢
                  obtain ⟨Q, hQ⟩ : ∃ y, c ^ pj = y := ⟨_, rfl⟩
                  rw [hQ] at hcp P1 hpp hdv hrm
                  obtain ⟨R, hR⟩ : ∃ y, c ^ j = y := ⟨_, rfl⟩
                  rw [hR] at hcj P2 hnl HST
                  obtain ⟨z, hz⟩ : ∃ z, x / Q = z := ⟨_, rfl⟩
                  have hzx : z ≤ 32768 := by rw [← hz]; have := Nat.div_le_self x Q; omega
                  rw [hz] at hdv hrm
                  have hzw : IntKind.i64.wrap (z : Int) = (z : Int) := IntWalk.i64_in _ (by omega)
                  have hgr := IntWalk.i64_in ((g : Int) * (R : Int)) (by
                    have h1 : (g : Int) * (R : Int) ≤ 8 * 32768 := Int.mul_le_mul (by omega) (by omega) (by omega) (by omega)
                    have h2 : 0 ≤ (g : Int) * (R : Int) := Int.mul_nonneg (by omega) (by omega)
                    omega)
                  have hyr := IntWalk.i64_in ((y : Int) + (g : Int) * (R : Int)) (by
                    have h1 : (g : Int) * (R : Int) ≤ 8 * 32768 := Int.mul_le_mul (by omega) (by omega) (by omega) (by omega)
                    have h2 : 0 ≤ (g : Int) * (R : Int) := Int.mul_nonneg (by omega) (by omega)
                    omega)
                  have hq0 : ¬ (Q : Int) = 0 := by omega
                  have hq0' : ((Q : Int) == 0) = false := by simp; omega
                  have hq00 : ¬ Q = 0 := by omega
                  have hcz : ¬ (c : Int) = 0 := by omega
                  have hcz' : ((c : Int) == 0) = false := by simp; omega
                  have hcz0 : ¬ c = 0 := by omega
                  have d1 : ∀ q : BelW wr, q.v.cell? ⟨bp, op + j, none⟩ = some (.int .i64 (pj : Nat)) := fun q => (q.h.cell (p := ⟨bp, op + j, none⟩) hbp).trans hcc
                  have HMX := Lib.hid mixed
                  clear hb hjp e2 hgd hpjj hdd hg hy hQ hR hz hcc
                  go_upto_region 18 with (fail)
                  refine wp_region_bel HMX.out (by kernel_rfl) ?_
                  repeat (first
                    | go_big_quiet_step ((first | (go_at_call 51; (with_reducible refine Calls.bel_of (P1.out _))) | (go_at_call 51; (with_reducible refine Calls.bel_of (P2.out _)))))
                    | quiet_step ((first | (go_at_call 51; (with_reducible refine Calls.bel_of (P1.out _))) | (go_at_call 51; (with_reducible refine Calls.bel_of (P2.out _))))))
                  refine wpQuiet_nil ?_
                  intro wq hw'
                  have HBQ := Lib.hid (HBJ.out.trans ((BelW.of hw').mono hsj))
                  clear hw' d1
                  go_wp2
                  go_roundw
                  case rel => exact ⟨j + 1, hjl, by go_num, by rw [HST.out, Int.natCast_add, Int.natCast_mul], HBQ.out⟩
                  case measure => simp [intOf]; omega
                · obtain rfl : j = i := by omega
                  have hji : ¬ (j : Int) < (j : Int) := by omega
                  have HY := Lib.hid (show numD c (fun i => digC c x (p.getD i 0)) j = actC c j p x from rfl)
                  have HB3 := Lib.hid (HBK.out.trans (hb.mono HBK.out.size))
                  rw [HY.out]
                  obtain ⟨y, hy⟩ : ∃ y, actC c j p x = y := ⟨_, rfl⟩
                  rw [hy] at HFS ⊢
                  clear hb hy
                  cases ft with
                  | false =>
                    have HF1 := Lib.hid (show firstTo c j E x (k + 1) = false by rw [HFS.out]; rfl)
                    go_wp2
                    go_roundw
                    case rel => exact ⟨k + 1, hkl, by go_num, by rw [HF1.out], HB3.out⟩
                    case measure => simp [intOf]; omega
                  | true =>
                    by_cases hyx : x ≤ y
                    · have HF1 := Lib.hid (show firstTo c j E x (k + 1) = true by rw [HFS.out]; simpa using hyx)
                      have hge : (x : Int) ≤ (y : Int) := by omega
                      have hge2 : decide ((x : Int) ≤ (y : Int)) = true := by simpa using hyx
                      have hge3 : decide ((y : Int) ≥ (x : Int)) = true := by simpa using hyx
                      go_wp2
                      go_roundw
                      case rel => exact ⟨k + 1, hkl, by go_num, by rw [HF1.out], HB3.out⟩
                      case measure => simp [intOf]; omega
                    · have HF1 := Lib.hid (show firstTo c j E x (k + 1) = false by rw [HFS.out]; simpa using hyx)
                      have hge : ¬ (x : Int) ≤ (y : Int) := by omega
                      have hge2 : decide ((x : Int) ≤ (y : Int)) = false := by simp; omega
                      have hge3 : decide ((y : Int) ≥ (x : Int)) = false := by simp; omega
                      go_wp2
                      go_roundw
                      case rel => exact ⟨k + 1, hkl, by go_num, by rw [HF1.out], HB3.out⟩
                      case measure => simp [intOf]; omega
            · obtain rfl : k = n := by omega
              have hki : ¬ (k : Int) < (k : Int) := by omega
              rw [HFE.out]
              rw [← HFE.out] at HCS ⊢
              cases hf : firstTo c i E x k with
              | false =>
                rw [hf] at HCS
                have HC2 := Lib.hid (show cntTo c i E (x + 1) = cn by rw [HCS.out]; rfl)
                clear hf
                go_wp2
                go_roundw
                case rel => exact ⟨x + 1, hlt, by go_num, by rw [HC2.out], hb⟩
                case measure => simp [intOf]; omega
              | true =>
                rw [hf] at HCS
                have HC2 := Lib.hid (show cntTo c i E (x + 1) = cn + 1 by rw [HCS.out]; rfl)
                clear hf
                go_wp2
                go_roundw
                case rel => exact ⟨x + 1, hlt, by go_num, by rw [HC2.out]; go_num, hb⟩
                case measure => simp [intOf]; omega
        · obtain rfl : x = N := by omega
          have hxi : ¬ (x : Int) < (x : Int) := by omega
          go_wp2
          go_ret
          exact ⟨ret_int (by rw [HFC.out]), HB0.out.trans (hb.mono HB0.out.size)⟩
end Go.Proofs.YtdackakjcnnofaaGreat
