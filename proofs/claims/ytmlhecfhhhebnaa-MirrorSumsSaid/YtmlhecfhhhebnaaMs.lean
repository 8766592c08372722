/- (Group).mirrors. -/
import Derived.Test.YtmlhecfhhhebnaaMir
namespace Go.Proofs.Ytmlhecfhhhebnaa
open Go.RowKit

def grpI (K : Nat) (n : Int) : Value := .agg #[.int .u8 (K : Nat), .int .i64 n]
def validI (K : Nat) (n : Int) : Bool := decide (0 ≤ n) && validB K n.toNat
theorem validI_nat {K : Nat} {n : Int} (h : validI K n = true) : ∃ m : Nat, n = m ∧ validB K m = true := by
  unfold validI at h
  simp only [Bool.and_eq_true, decide_eq_true_eq] at h
  exact ⟨n.toNat, by omega, h.2⟩
theorem validI_cast (K m : Nat) : validI K (m : Int) = validB K m := by
  unfold validI; simp
/-- What mirrors returns. -/
def msI (K : Nat) (n : Int) : Int := if validI K n = true then (mirs K n.toNat : Nat) else 0
theorem msI_A (n : Int) : msI 65 n = if 1 ≤ n ∧ n ≤ 4 then n else 0 := by
  unfold msI validI validB mirs
  by_cases h : 1 ≤ n ∧ n ≤ 4
  · rw [if_pos h, if_pos (by simp; omega)]; simp; omega
  · rw [if_neg h, if_neg (by simp; omega)]
theorem msI_B (n : Int) : msI 66 n = if 2 ≤ n ∧ n ≤ 3 then n else 0 := by
  unfold msI validI validB mirs
  by_cases h : 2 ≤ n ∧ n ≤ 3
  · rw [if_pos h, if_pos (by simp; omega)]; simp; omega
  · rw [if_neg h, if_neg (by simp; omega)]
theorem msI_I (n : Int) : msI 73 n = if 2 ≤ n ∧ n ≤ 12 then 2 else 0 := by
  unfold msI validI validB mirs
  by_cases h : 2 ≤ n ∧ n ≤ 12
  · rw [if_pos h, if_pos (by simp; omega)]; simp
  · rw [if_neg h, if_neg (by simp; omega)]
theorem msI_no (K : Nat) (n : Int) (h1 : K ≠ 65) (h2 : K ≠ 66) (h3 : K ≠ 73) : msI K n = 0 := by
  unfold msI validI validB
  rw [if_neg (by simp [h1, h2, h3])]

def MsIs (K : Nat) (n : Int) (w : World) (e : Ending) (w' : World) : Prop := e = .returned (.int .i64 (msI K n)) ∧ Below w.heap.size w w'
set_option maxRecDepth 100000 in
set_option maxHeartbeats 1000000 in
theorem mirrors_any (K : Nat) (n : Int) (w : World) (_ : K < 256) :
    Calls Try.prog 66 #[grpI K n] w (MsIs K n w) := by
  have hb := (Below.refl w.heap.size w).alloc (Nat.le_refl _) (.cells #[.int .u8 (K : Nat), .int .i64 n] 28)
  by_cases h1 : K = 65
  · subst h1
    have HM := Lib.hid (msI_A n)
    by_cases a1 : 1 ≤ n
    · by_cases a2 : n ≤ 4
      · have HR := Lib.hid (HM.out.trans (if_pos ⟨a1, a2⟩))
        unfold grpI
        go_enter Try.func66, Try.ntmps66
        go_wp2
        go_ret
        exact ⟨ret_int HR.out.symm, hb⟩
      · have HR := Lib.hid (HM.out.trans (if_neg (by omega)))
        have d2 : decide (n ≤ 4) = false := by simpa using a2
        unfold grpI
        go_enter Try.func66, Try.ntmps66
        go_wp2
        go_ret
        exact ⟨ret_int HR.out.symm, hb⟩
    · have HR := Lib.hid (HM.out.trans (if_neg (by omega)))
      have d1 : decide (1 ≤ n) = false := by simpa using a1
      unfold grpI
      go_enter Try.func66, Try.ntmps66
      go_wp2
      go_ret
      exact ⟨ret_int HR.out.symm, hb⟩
  by_cases h2 : K = 66
  · subst h2
    have HM := Lib.hid (msI_B n)
    by_cases a1 : n = 2
    · subst a1
      have HR := Lib.hid (HM.out.trans (if_pos (by omega)))
      unfold grpI
      go_enter Try.func66, Try.ntmps66
      go_wp2
      go_ret
      exact ⟨ret_int HR.out.symm, hb⟩
    by_cases a2 : n = 3
    · subst a2
      have HR := Lib.hid (HM.out.trans (if_pos (by omega)))
      unfold grpI
      go_enter Try.func66, Try.ntmps66
      go_wp2
      go_ret
      exact ⟨ret_int HR.out.symm, hb⟩
    have HR := Lib.hid (HM.out.trans (if_neg (by omega)))
    have e1 : (n == 2) = false := by simpa using a1
    have e2 : (n == 3) = false := by simpa using a2
    unfold grpI
    go_enter Try.func66, Try.ntmps66
    go_wp2
    go_ret
    exact ⟨ret_int HR.out.symm, hb⟩
  by_cases h3 : K = 73
  · subst h3
    have HM := Lib.hid (msI_I n)
    by_cases a1 : 2 ≤ n
    · by_cases a2 : n ≤ 12
      · have HR := Lib.hid (HM.out.trans (if_pos ⟨a1, a2⟩))
        unfold grpI
        go_enter Try.func66, Try.ntmps66
        go_wp2
        go_ret
        exact ⟨ret_int HR.out.symm, hb⟩
      · have HR := Lib.hid (HM.out.trans (if_neg (by omega)))
        have d2 : decide (n ≤ 12) = false := by simpa using a2
        unfold grpI
        go_enter Try.func66, Try.ntmps66
        go_wp2
        go_ret
        exact ⟨ret_int HR.out.symm, hb⟩
    · have HR := Lib.hid (HM.out.trans (if_neg (by omega)))
      have d1 : decide (2 ≤ n) = false := by simpa using a1
      unfold grpI
      go_enter Try.func66, Try.ntmps66
      go_wp2
      go_ret
      exact ⟨ret_int HR.out.symm, hb⟩
  have HR := Lib.hid (msI_no K n h1 h2 h3)
  have e1 : ((K : Int) == 65) = false := by simp; omega
  have e2 : ((K : Int) == 66) = false := by simp; omega
  have e3 : ((K : Int) == 73) = false := by simp; omega
  have f1 : ¬ (K : Int) = 65 := by omega
  have f2 : ¬ (K : Int) = 66 := by omega
  have f3 : ¬ (K : Int) = 73 := by omega
  unfold grpI
  go_enter Try.func66, Try.ntmps66
  go_wp2
  go_ret
  exact ⟨ret_int HR.out.symm, hb⟩
end Go.Proofs.Ytmlhecfhhhebnaa
