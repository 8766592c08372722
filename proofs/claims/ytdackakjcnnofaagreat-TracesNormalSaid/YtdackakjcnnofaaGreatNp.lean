/- The program's closed. -/
import Derived.Test.YtdackakjcnnofaaGreatA12
import Derived.Test.YtdackakjcnnofaaGreatNi
namespace Go.Proofs.YtdackakjcnnofaaGreat
open Go.RowKit
attribute [local go_sem] Oper.semAt_some

theorem div_bit6 : ∀ j : Nat, j < 6 → ∀ m : Nat, m < 64 → bits BinOp.and IntKind.i64 ((m : Int) / (2 : Int) ^ j) 1 = if m.testBit j then 1 else 0 := by decide +kernel
set_option maxRecDepth 20000 in
set_option maxHeartbeats 4000000 in
theorem closed_any {d : Nat} {E : List (List Nat)} (bg set : Nat) (w : World) (h : Grp d E) (hd : d ≤ 5) (h24 : E.length ≤ 24) (hp : PG d E w bg) (hm : (repsN E E.length).length ≤ 6) (hset : set < 64) :
    Calls Tryz.prog 52 #[.pointer (some ⟨bg, 0, none⟩), .int .i64 (set : Nat)] w fun e w' => e = .returned (.bool (closB E set)) ∧ Below w.heap.size w w' := by
  obtain ⟨H, S, vE, bM, vC, vO, vB, hs⟩ := hp
  have HG := Lib.hid h
  have TM := Lib.hid (fun (a b : Nat) (w' : World) (hb : Below w.heap.size w w') (ha : a < E.length) (hbl : b < E.length) => gtimes_any bg vE bM a b w' h hd (hs.gt.below hb) ha hbl)
  obtain ⟨aO, cO, rfl⟩ := hs.o.form
  have HOL := Lib.hid (ofL_length (E := E) E.length)
  have HMM := Lib.hid hm
  have hbgl := hs.box.lt
  obtain ⟨gE, cE, rfl, -, -, -⟩ := id hs.els
  have hgO : ∃ gO, aO = some ⟨gO, 0, none⟩ ∧ gO < w.heap.size := by
    obtain ⟨gO, cO', e0, _, hg⟩ := hs.o.block (by rw [HOL.out]; exact HG.out.pos)
    exact ⟨gO, (Value.slice.inj e0).1, hg⟩
  obtain ⟨gO, rfl, hgOl⟩ := hgO
  have hcl1 := hs.box.at (i := 1) rfl
  have hcl4 := hs.box.at (i := 4) rfl
  rw [elsI_length] at hcl1
  rw [HOL.out] at hcl4
  have HOW := Lib.hid (fun (W : World) (hb : Below w.heap.size w W) => hs.o.below hb)
  rw [HOL.out] at HOW
  obtain ⟨n, hn⟩ : ∃ n, E.length = n := ⟨_, rfl⟩
  have HN := Lib.hid hn
  rw [hn] at hcl1 hcl4 h24
  have HC1 := Lib.hid (fun (W : World) (hb : Below w.heap.size w W) => (hb.cell (p := ⟨bg, 1, none⟩) hbgl).trans hcl1)
  have HC4 := Lib.hid (fun (W : World) (hb : Below w.heap.size w W) => (hb.cell (p := ⟨bg, 4, none⟩) hbgl).trans hcl4)
  have HMX := Lib.hid mixed
  have HGO := Lib.hid hgOl
  have hc1 := HC1.out w (Below.refl _ _)
  clear hs h hn hcl1 hcl4 hm
  go_enter Tryz.func52, Tryz.ntmps52
  go_wp2
  go_loopw [12] (fun ix wr => ∃ i : Nat, i ≤ n ∧ ix = .int .i64 i ∧ closTo E set i = true ∧ Below w.heap.size w wr) (fun ix _ => n - (intOf ix).toNat)
  case atStart => exact ⟨0, Nat.zero_le _, rfl, rfl, Below.refl _ _⟩
  case round =>
    obtain ⟨i, hi, rfl, hcl, hb⟩ := hrel
    have HB := Lib.hid hb
    have HCL := Lib.hid hcl
    have hc1 := HC1.out wr hb
    clear hb hcl
    by_cases hlt : i < n
    · have hii : (i : Int) < (n : Int) := by omega
      have hiE : i < E.length := by rw [HN.out]; exact hlt
      go_wp2
      go_loopw [20] (fun jx wq => ∃ j : Nat, j ≤ n ∧ jx = .int .i64 j ∧ closA E set i j = true ∧ Below w.heap.size w wq) (fun jx _ => n - (intOf jx).toNat)
      case atStart => exact ⟨0, Nat.zero_le _, rfl, rfl, HB.out⟩
      case round =>
        obtain ⟨j, hj, rfl, hca, hb⟩ := hrel
        have HB2 := Lib.hid hb
        have HCA := Lib.hid hca
        clear hb hca hc1
        by_cases hlj : j < n
        · have hji : (j : Int) < (n : Int) := by omega
          have hjE : j < E.length := by rw [HN.out]; exact hlj
          have HSC := Lib.hid (closA_succ E set i j)
          have HNO := Lib.hid (closB_no E (set := set) hiE hjE)
          have T1 := Lib.hid (fun (p : BelW wr) => TM.out i j p.v (HB2.out.trans (p.h.mono HB2.out.size)) hiE hjE)
          have htl := HG.out.timesN_lt hiE hjE
          have hcx : ∀ a, a < E.length → ∀ p : BelW wr, p.v.cell? ⟨gO, a, none⟩ = some (.int .i64 (clsOf E a : Nat)) := fun a ha p => by
            have hco := (HOW.out _ (HB2.out.trans (p.h.mono HB2.out.size))).cellN (j := a) (by rw [HOL.out]) (by rw [HOL.out]; exact ha)
            rw [ofL_at, HG.out.clsOf_eq ha] at hco
            exact hco
          have d1 : ∀ p : BelW wr, p.v.cell? ⟨bg, 4, none⟩ = some (.slice (some ⟨gO, 0, none⟩) n cO) := fun p => HC4.out _ (HB2.out.trans (p.h.mono HB2.out.size))
          have d2 := hcx i hiE
          have d3 := hcx j hjE
          have d4 := hcx _ htl
          have k1 := HG.out.cls_lt hiE
          have k2 := HG.out.cls_lt hjE
          have k3 := HG.out.cls_lt htl
          have hm6 := HMM.out
          have b1 := div_bit6 (clsOf E i) (by omega) set hset
          have b2 := div_bit6 (clsOf E j) (by omega) set hset
          have b3 := div_bit6 (clsOf E (timesN E i j)) (by omega) set hset
          have HCR := Lib.hid (show closR E set i j = (!(set.testBit (clsOf E i)) || !(set.testBit (clsOf E j)) || set.testBit (clsOf E (timesN E i j))) from rfl)
          rw [HN.out] at htl
          obtain ⟨t, ht⟩ : ∃ t, timesN E i j = t := ⟨_, rfl⟩
          rw [ht] at T1 d4 b3 htl k3 HCR
          obtain ⟨x1, e1⟩ : ∃ y, clsOf E i = y := ⟨_, rfl⟩
          obtain ⟨x2, e2⟩ : ∃ y, clsOf E j = y := ⟨_, rfl⟩
          obtain ⟨x3, e3⟩ : ∃ y, clsOf E t = y := ⟨_, rfl⟩
          have hti : (t : Int) < (n : Int) := by omega
          have ht0 : (0 : Int) ≤ (t : Int) := by omega
          simp only [e1] at d2 b1 HCR k1
          simp only [e2] at d3 b2 HCR k2
          simp only [e3] at d4 b3 HCR k3
          have m1 : min x1 64 = x1 := by omega
          have m2 : min x2 64 = x2 := by omega
          have m3 : min x3 64 = x3 := by omega
          have h01 : ¬ (x1 : Int) < 0 := by omega
          have h02 : ¬ (x2 : Int) < 0 := by omega
          have h03 : ¬ (x3 : Int) < 0 := by omega
          have g01 : decide ((x1 : Int) < 0) = false := by simp
          have g02 : decide ((x2 : Int) < 0) = false := by simp
          have g03 : decide ((x3 : Int) < 0) = false := by simp
          have g04 : decide ((t : Int) < 0) = false := by simp
          have g05 : decide ((n : Int) ≤ (t : Int)) = false := by simp; omega
          clear hcx ht e1 e2 e3 hm6
          cases hx : set.testBit x1 with
          | false =>
            rw [hx] at b1 HCR
            rw [if_neg (by simp)] at b1
            have HCR := Lib.hid (HCR.out.trans (show _ = true by simp))
            go_upto_region 7 with (fail)
            refine wp_region_bel HMX.out (by kernel_rfl) ?_
            repeat (first
              | go_big_quiet_step ((go_at_call 89; (with_reducible refine Calls.bel_of (T1.out _))))
              | quiet_step ((go_at_call 89; (with_reducible refine Calls.bel_of (T1.out _)))))
            refine wpQuiet_nil ?_
            intro w7 hw'
            have HB7 := Lib.hid (HB2.out.trans ((BelW.of hw').mono HB2.out.size))
            clear hw' d1 d2 d3 d4 T1
            go_wp2
            go_roundw
            case rel => exact ⟨j + 1, hlj, by go_num, by rw [HSC.out, HCA.out, HCR.out]; rfl, HB7.out⟩
            case measure => simp [intOf]; omega
          | true =>
            rw [hx] at b1 HCR
            rw [if_pos rfl] at b1
            cases hy : set.testBit x2 with
            | false =>
              rw [hy] at b2 HCR
              rw [if_neg (by simp)] at b2
              have HCR := Lib.hid (HCR.out.trans (show _ = true by simp))
              go_upto_region 7 with (fail)
              refine wp_region_bel HMX.out (by kernel_rfl) ?_
              repeat (first
                | go_big_quiet_step ((go_at_call 89; (with_reducible refine Calls.bel_of (T1.out _))))
                | quiet_step ((go_at_call 89; (with_reducible refine Calls.bel_of (T1.out _)))))
              refine wpQuiet_nil ?_
              intro w7 hw'
              have HB7 := Lib.hid (HB2.out.trans ((BelW.of hw').mono HB2.out.size))
              clear hw' d1 d2 d3 d4 T1
              go_wp2
              go_roundw
              case rel => exact ⟨j + 1, hlj, by go_num, by rw [HSC.out, HCA.out, HCR.out]; rfl, HB7.out⟩
              case measure => simp [intOf]; omega
            | true =>
              rw [hy] at b2 HCR
              rw [if_pos rfl] at b2
              cases hz : set.testBit x3 with
              | false =>
                rw [hz] at b3 HCR
                rw [if_neg (by simp)] at b3
                have HCR := Lib.hid (HCR.out.trans (show _ = false by simp))
                go_upto_region 7 with (fail)
                refine wp_region_bel HMX.out (by kernel_rfl) ?_
                repeat (first
                  | go_big_quiet_step ((go_at_call 89; (with_reducible refine Calls.bel_of (T1.out _))))
                  | quiet_step ((go_at_call 89; (with_reducible refine Calls.bel_of (T1.out _)))))
                refine wpQuiet_nil ?_
                intro w7 hw'
                have HB7 := Lib.hid (HB2.out.trans ((BelW.of hw').mono HB2.out.size))
                clear hw' d1 d2 d3 d4 T1
                go_wp2
                go_ret
                exact ⟨ret_bool (HNO.out HCR.out).symm, HB7.out⟩
              | true =>
                rw [hz] at b3 HCR
                rw [if_pos rfl] at b3
                have HCR := Lib.hid (HCR.out.trans (show _ = true by simp))
                go_upto_region 7 with (fail)
                refine wp_region_bel HMX.out (by kernel_rfl) ?_
                repeat (first
                  | go_big_quiet_step ((go_at_call 89; (with_reducible refine Calls.bel_of (T1.out _))))
                  | quiet_step ((go_at_call 89; (with_reducible refine Calls.bel_of (T1.out _)))))
                refine wpQuiet_nil ?_
                intro w7 hw'
                have HB7 := Lib.hid (HB2.out.trans ((BelW.of hw').mono HB2.out.size))
                clear hw' d1 d2 d3 d4 T1
                go_wp2
                go_roundw
                case rel => exact ⟨j + 1, hlj, by go_num, by rw [HSC.out, HCA.out, HCR.out]; rfl, HB7.out⟩
                case measure => simp [intOf]; omega
        · obtain rfl : j = n := by omega
          have hji : ¬ (j : Int) < (j : Int) := by omega
          have HSC := Lib.hid (closTo_succ E set i)
          rw [HN.out, HCL.out, HCA.out] at HSC
          go_wp2
          go_roundw
          case rel => exact ⟨i + 1, hlt, by go_num, by rw [HSC.out]; rfl, HB2.out⟩
          case measure => simp [intOf]; omega
    · obtain rfl : i = n := by omega
      have hii : ¬ (i : Int) < (i : Int) := by omega
      have HEN := Lib.hid (show closB E set = true by unfold closB; rw [HN.out]; exact HCL.out)
      go_wp2
      go_ret
      exact ⟨ret_bool HEN.out.symm, HB.out⟩
end Go.Proofs.YtdackakjcnnofaaGreat
