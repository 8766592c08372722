/- The reference's Valid, Mirrors, Word; the law's fine, Of: the walks. -/
import Derived.Test.YtmlhecfhhhebnaaPu
namespace Go.Proofs.Ytmlhecfhhhebnaa
open Go.RowKit
attribute [local go_sem] Oper.semAt_some

set_option maxRecDepth 20000 in
set_option maxHeartbeats 2000000 in
theorem Valid_any (K : Nat) (n : Int) (w : World) (_ : K < 256) :
    Calls Try.prog 46 #[grpI K n] w fun e w' => e = .returned (.bool (validI K n)) ∧ Below w.heap.size w w' := by
  have hb := (Below.refl w.heap.size w).alloc (Nat.le_refl _) (.cells #[.int .u8 (K : Nat), .int .i64 n] 23)
  unfold grpI
  by_cases h1 : K = 65
  · subst h1
    by_cases a1 : 1 ≤ n
    · by_cases a2 : n ≤ 4
      · have HR := Lib.hid (show validI 65 n = true by unfold validI validB; simp; omega)
        have d1 : decide (1 ≤ n) = true := by simpa using a1
        have d2 : decide (n ≤ 4) = true := by simpa using a2
        go_enter Try.func46, Try.ntmps46
        go_wp2
        go_ret
        exact ⟨ret_bool HR.out.symm, hb⟩
      · have HR := Lib.hid (show validI 65 n = false by unfold validI validB; simp; omega)
        have d1 : decide (1 ≤ n) = true := by simpa using a1
        have d2 : decide (n ≤ 4) = false := by simpa using a2
        go_enter Try.func46, Try.ntmps46
        go_wp2
        go_ret
        exact ⟨ret_bool HR.out.symm, hb⟩
    · have HR := Lib.hid (show validI 65 n = false by unfold validI validB; simp; omega)
      have d1 : decide (1 ≤ n) = false := by simpa using a1
      go_enter Try.func46, Try.ntmps46
      go_wp2
      go_ret
      exact ⟨ret_bool HR.out.symm, hb⟩
  by_cases h2 : K = 66
  · subst h2
    by_cases a1 : 2 ≤ n
    · by_cases a2 : n ≤ 3
      · have HR := Lib.hid (show validI 66 n = true by unfold validI validB; simp; omega)
        have d1 : decide (2 ≤ n) = true := by simpa using a1
        have d2 : decide (n ≤ 3) = true := by simpa using a2
        go_enter Try.func46, Try.ntmps46
        go_wp2
        go_ret
        exact ⟨ret_bool HR.out.symm, hb⟩
      · have HR := Lib.hid (show validI 66 n = false by unfold validI validB; simp; omega)
        have d1 : decide (2 ≤ n) = true := by simpa using a1
        have d2 : decide (n ≤ 3) = false := by simpa using a2
        go_enter Try.func46, Try.ntmps46
        go_wp2
        go_ret
        exact ⟨ret_bool HR.out.symm, hb⟩
    · have HR := Lib.hid (show validI 66 n = false by unfold validI validB; simp; omega)
      have d1 : decide (2 ≤ n) = false := by simpa using a1
      go_enter Try.func46, Try.ntmps46
      go_wp2
      go_ret
      exact ⟨ret_bool HR.out.symm, hb⟩
  by_cases h3 : K = 73
  · subst h3
    by_cases a1 : 2 ≤ n
    · by_cases a2 : n ≤ 12
      · have HR := Lib.hid (show validI 73 n = true by unfold validI validB; simp; omega)
        have d1 : decide (2 ≤ n) = true := by simpa using a1
        have d2 : decide (n ≤ 12) = true := by simpa using a2
        go_enter Try.func46, Try.ntmps46
        go_wp2
        go_ret
        exact ⟨ret_bool HR.out.symm, hb⟩
      · have HR := Lib.hid (show validI 73 n = false by unfold validI validB; simp; omega)
        have d1 : decide (2 ≤ n) = true := by simpa using a1
        have d2 : decide (n ≤ 12) = false := by simpa using a2
        go_enter Try.func46, Try.ntmps46
        go_wp2
        go_ret
        exact ⟨ret_bool HR.out.symm, hb⟩
    · have HR := Lib.hid (show validI 73 n = false by unfold validI validB; simp; omega)
      have d1 : decide (2 ≤ n) = false := by simpa using a1
      go_enter Try.func46, Try.ntmps46
      go_wp2
      go_ret
      exact ⟨ret_bool HR.out.symm, hb⟩
  have HR := Lib.hid (show validI K n = false by unfold validI validB; simp [h1, h2, h3])
  have k1 : ((K : Int) == 65) = false := by simp; omega
  have k2 : ((K : Int) == 66) = false := by simp; omega
  have k3 : ((K : Int) == 73) = false := by simp; omega
  clear h1 h2 h3
  go_enter Try.func46, Try.ntmps46
  go_wp2
  go_ret
  exact ⟨ret_bool HR.out.symm, hb⟩

set_option maxRecDepth 20000 in
set_option maxHeartbeats 1000000 in
theorem RMirrors_any (K n : Nat) (w : World) (hv : validB K n = true) :
    Calls Try.prog 30 #[.agg #[.int .u8 (K : Nat), .int .i64 (n : Nat)]] w fun e w' => e = .returned (.int .i64 ((mirs K n : Nat) : Int)) ∧ Below w.heap.size w w' := by
  have hb := (Below.refl w.heap.size w).alloc (Nat.le_refl _) (.cells #[.int .u8 (K : Nat), .int .i64 (n : Nat)] 23)
  by_cases h3 : K = 73
  · have HM := Lib.hid (show mirs K n = 2 by unfold mirs; simp [h3])
    subst h3
    clear hv
    go_enter Try.func30, Try.ntmps30
    go_wp2
    go_ret
    exact ⟨ret_int (by rw [HM.out]; rfl), hb⟩
  · have HM := Lib.hid (show mirs K n = n by unfold mirs; simp [h3])
    have k3 : ((K : Int) == 73) = false := by simp; omega
    clear hv h3
    go_enter Try.func30, Try.ntmps30
    go_wp2
    go_ret
    exact ⟨ret_int (by rw [HM.out]), hb⟩
end Go.Proofs.Ytmlhecfhhhebnaa
