/- isFunction, the product of two functions. -/
import Derived.Test.YtdackakjcnnofaaMm
import Derived.Test.YtdackakjcnnofaaFx
import Derived.Test.YtdackakjcnnofaaFq
namespace Go.Proofs.Ytdackakjcnnofaa
open Go.RowKit
attribute [local go_sem] Oper.semAt_some

theorem funB_min {q m : Nat} {l : List Int} (hl : l ≠ []) (h : ¬ 0 ≤ minL l) : funB q m l = false := Bool.eq_false_iff.2 fun hf => h ((minL_iff hl).2 fun y hy => ((funB_iff.1 hf).2 y hy).1)
theorem funB_max {q m : Nat} {l : List Int} (hl : l ≠ []) (h : ¬ maxL l < (q : Int)) : funB q m l = false := Bool.eq_false_iff.2 fun hf => h ((maxL_iff hl).2 fun y hy => ((funB_iff.1 hf).2 y hy).2)
theorem funB_yes {q m : Nat} {l : List Int} (hm : l.length = m) (hl : l ≠ []) (h1 : 0 ≤ minL l) (h2 : maxL l < (q : Int)) : funB q m l = true := funB_iff.2 ⟨hm, fun x hx => ⟨(minL_iff hl).1 h1 x hx, (maxL_iff hl).1 h2 x hx⟩⟩
set_option maxRecDepth 20000 in
set_option maxHeartbeats 2000000 in
theorem isFunction_any (bg q nE : Nat) (cl : List (List Nat)) (bk : List Nat) (v : Value) (l : List Int) (w : World) (h : GD w bg q nE cl bk) (hv : Ints w v l) (hc0 : 0 < cl.length) (hc : cl.length ≤ 24) (hl : l.length ≤ 1000000) :
    Calls Try.prog 28 #[.pointer (some ⟨bg, 0, none⟩), v] w fun e w' => e = .returned (.bool (funB q cl.length l)) ∧ Below w.heap.size w w' := by
  obtain ⟨S, H, vC, hcc, hrC⟩ := h.c
  obtain ⟨aC, cC, rfl⟩ := hrC.form
  obtain ⟨hbl, hcq⟩ := h.p
  have d0 : ∀ p : BelW w, p.v.cell? ⟨bg, 3, none⟩ = some (.slice aC cl.length cC) := fun p => BelW.cell (a := ⟨bg, 3, none⟩) hbl hcc p
  have d1 : ∀ p : BelW w, p.v.cell? ⟨bg, 6, none⟩ = some (.int .i64 (q : Nat)) := fun p => BelW.cell (a := ⟨bg, 6, none⟩) hbl hcq p
  have MN := Lib.hid (fun (p : BelW w) (h0 : 0 < l.length) => Min_any v l p.v (hv.below p.h) h0 hl)
  have MX := Lib.hid (fun (p : BelW w) (h0 : 0 < l.length) => Max_any v l p.v (hv.below p.h) h0 hl)
  obtain ⟨av, cv, rfl, -, -, -⟩ := hv
  obtain ⟨m, hm⟩ : ∃ m, cl.length = m := ⟨_, rfl⟩
  rw [hm] at d0 hc0 hc ⊢
  have HMX := Lib.hid mixed
  clear h hcc hrC hcq hm
  by_cases hlm : l.length = m
  · have hne : l ≠ [] := fun e => by rw [e] at hlm; simp at hlm; omega
    have h0 : 0 < l.length := by omega
    have HF1 := Lib.hid (fun (h : ¬ 0 ≤ minL l) => funB_min (q := q) (m := m) hne h)
    have HF2 := Lib.hid (fun (h : ¬ maxL l < (q : Int)) => funB_max (q := q) (m := m) hne h)
    have HF3 := Lib.hid (fun (h1 : 0 ≤ minL l) (h2 : maxL l < (q : Int)) => funB_yes hlm hne h1 h2)
    have N1 := Lib.hid (fun p => MN.out p h0)
    have X1 := Lib.hid (fun p => MX.out p h0)
    clear MN MX hne h0
    rw [hlm] at *
    obtain ⟨a, ha⟩ : ∃ a, minL l = a := ⟨_, rfl⟩
    obtain ⟨b, hb⟩ : ∃ b, maxL l = b := ⟨_, rfl⟩
    rw [ha] at N1 HF1 HF3
    rw [hb] at X1 HF2 HF3
    have hmm : ((m : Int) == (m : Int)) = true := by simp
    clear ha hb hlm hl
    by_cases ha0 : 0 ≤ a
    · have ha1 : decide (0 ≤ a) = true := by simpa using ha0
      by_cases hbq : b < (q : Int)
      · have hb1 : decide (b < (q : Int)) = true := by simpa using hbq
        have HR := Lib.hid (HF3.out ha0 hbq)
        clear HF1 HF2 HF3
        go_enter Try.func28, Try.ntmps28
        go_upto_region 1 with (fail)
        refine wp_region_bel HMX.out (by kernel_rfl) ?_
        repeat (first
          | go_big_quiet_step ((first | (go_at_call 48; (with_reducible refine Calls.bel_of_same (N1.out _))) | (go_at_call 49; (with_reducible refine Calls.bel_of_same (X1.out _)))))
          | quiet_step ((first | (go_at_call 48; (with_reducible refine Calls.bel_of_same (N1.out _))) | (go_at_call 49; (with_reducible refine Calls.bel_of_same (X1.out _))))))
        refine wpQuiet_nil ?_
        intro w9 hw'
        have HB9 := Lib.hid (BelW.of hw')
        clear hw' d0 d1 N1 X1
        go_wp2
        go_ret
        exact ⟨ret_bool HR.out.symm, HB9.out⟩
      · have hb1 : decide (b < (q : Int)) = false := by simpa using hbq
        have HR := Lib.hid (HF2.out hbq)
        clear HF1 HF2 HF3
        go_enter Try.func28, Try.ntmps28
        go_upto_region 1 with (fail)
        refine wp_region_bel HMX.out (by kernel_rfl) ?_
        repeat (first
          | go_big_quiet_step ((first | (go_at_call 48; (with_reducible refine Calls.bel_of_same (N1.out _))) | (go_at_call 49; (with_reducible refine Calls.bel_of_same (X1.out _)))))
          | quiet_step ((first | (go_at_call 48; (with_reducible refine Calls.bel_of_same (N1.out _))) | (go_at_call 49; (with_reducible refine Calls.bel_of_same (X1.out _))))))
        refine wpQuiet_nil ?_
        intro w9 hw'
        have HB9 := Lib.hid (BelW.of hw')
        clear hw' d0 d1 N1 X1
        go_wp2
        go_ret
        exact ⟨ret_bool HR.out.symm, HB9.out⟩
    · have ha1 : decide (0 ≤ a) = false := by simpa using ha0
      have HR := Lib.hid (HF1.out ha0)
      clear HF1 HF2 HF3
      go_enter Try.func28, Try.ntmps28
      go_upto_region 1 with (fail)
      refine wp_region_bel HMX.out (by kernel_rfl) ?_
      repeat (first
        | go_big_quiet_step ((first | (go_at_call 48; (with_reducible refine Calls.bel_of_same (N1.out _))) | (go_at_call 49; (with_reducible refine Calls.bel_of_same (X1.out _)))))
        | quiet_step ((first | (go_at_call 48; (with_reducible refine Calls.bel_of_same (N1.out _))) | (go_at_call 49; (with_reducible refine Calls.bel_of_same (X1.out _))))))
      refine wpQuiet_nil ?_
      intro w9 hw'
      have HB9 := Lib.hid (BelW.of hw')
      clear hw' d0 d1 N1 X1
      go_wp2
      go_ret
      exact ⟨ret_bool HR.out.symm, HB9.out⟩
  · have HR := Lib.hid (funB_len (q := q) hlm)
    have hmi : ¬ (l.length : Int) = (m : Int) := by omega
    have hmm : ((l.length : Int) == (m : Int)) = false := by simp; omega
    clear MN MX
    go_enter Try.func28, Try.ntmps28
    go_upto_region 1 with (fail)
    refine wp_region_bel HMX.out (by kernel_rfl) ?_
    repeat (first
      | go_big_quiet_step ((fail))
      | quiet_step ((fail)))
    refine wpQuiet_nil ?_
    intro w9 hw'
    have HB9 := Lib.hid (BelW.of hw')
    clear hw' d0 d1
    go_wp2
    go_ret
    exact ⟨ret_bool HR.out.symm, HB9.out⟩
end Go.Proofs.Ytdackakjcnnofaa
