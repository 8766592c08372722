/- The reference's find, moves. -/
import Derived.Test.YtmlhecfhhhebnaaRf
import Derived.Deep.DeepCutAuto
import Derived.Deep.CutBlock
namespace Go.Proofs.Ytmlhecfhhhebnaa
open Go.RowKit

theorem toI_inj' {a b : List Nat} : toI a = toI b ↔ a = b := ⟨toI_inj, fun h => by rw [h]⟩
def findI (P : List (List Nat)) (q : List Nat) : Int := if q ∈ P then ((P.idxOf q : Nat) : Int) else -1
theorem findI_at {P : List (List Nat)} {q : List Nat} {k : Nat} (hk : k < P.length) (h : q = P[k]) (hb : ∀ i, (hi : i < P.length) → i < k → q ≠ P[i]) : findI P q = (k : Int) := by
  have hm : q ∈ P := by rw [h]; exact List.getElem_mem hk
  unfold findI
  rw [if_pos hm]
  congr 1
  have h1 := List.idxOf_lt_length_iff.2 hm
  have h2 : P[P.idxOf q] = q := List.getElem_idxOf h1
  refine Nat.le_antisymm (Nat.le_of_not_lt fun hlt => ?_) (Nat.le_of_not_lt fun hlt => hb _ h1 hlt h2.symm)
  have := List.not_of_lt_findIdx (p := (· == q)) (xs := P) (i := k) hlt
  simp [h] at this
theorem findI_no {P : List (List Nat)} {q : List Nat} (hb : ∀ i, (hi : i < P.length) → q ≠ P[i]) : findI P q = -1 := by
  unfold findI
  rw [if_neg]
  intro hm
  obtain ⟨i, hi, e⟩ := List.mem_iff_getElem.1 hm
  exact hb i hi e.symm

set_option maxRecDepth 20000 in
set_option maxHeartbeats 1000000 in
theorem find_any {S : Nat → Prop} {B : Nat} (vW vP vX vq : Value) (P : List (List Nat)) (q : List Nat) (w : World) (hP : RowsF S B w vP P) (hq : Ints w vq (toI q)) (hl : P.length ≤ 200) :
    Calls Try.prog 64 #[.agg #[vW, vP, vX], vq] w fun e w' => e = .returned (.int .i64 (findI P q)) ∧ Below w.heap.size w w' := by
  obtain ⟨aP, cP, e⟩ := hP.form
  subst e
  have HP := Lib.hid hP
  have HQ := Lib.hid hq
  have hb0 := (Below.refl w.heap.size w).alloc (Nat.le_refl _) (.cells #[vW, .slice aP P.length cP, vX] 36)
  have HB0 := Lib.hid hb0
  clear hP hq hb0
  go_enter Try.func64, Try.ntmps64
  go_wp2
  go_loop [10] (fun ix => ∃ k : Nat, k ≤ P.length ∧ ix = .int .i64 k ∧ ∀ i, (hi : i < P.length) → i < k → q ≠ P[i]) (fun i => P.length - (intOf i).toNat)
  case atStart => exact ⟨0, Nat.zero_le _, rfl, fun i _ h => by omega⟩
  case round =>
    obtain ⟨k, hk, rfl, hbef⟩ := hrel
    have HBF := Lib.hid hbef
    clear hbef
    by_cases hlt : k < P.length
    · obtain ⟨g, cap, ra, rc, e, hgc, hrc, hin, -⟩ := HP.out.cells k hlt
      obtain ⟨rfl, _, rfl⟩ := Value.slice.inj e
      have hcx := (HB0.out.cell (p := ⟨g, k, none⟩) (World.block_lt_of_cell? w _ hgc)).trans hgc
      have C := Lib.hid (rsame_any vq _ (toI q) (toI P[k]) _ (HQ.out.below HB0.out) (hin.below HB0.out))
      have hki : (k : Int) < (P.length : Int) := by omega
      clear e hgc hin
      by_cases he : q = P[k]
      · have HF := Lib.hid (findI_at hlt he HBF.out)
        have hd : decide (toI q = toI P[k]) = true := by rw [decide_eq_true_eq, toI_inj']; exact he
        rw [hd] at C
        clear hd he
        go_wp2_with (go_at_call 89; refine C.out.mono ?_; rintro e w3 ⟨rfl, rfl⟩)
        go_ret
        exact ⟨ret_int HF.out.symm, HB0.out⟩
      · have HNE := Lib.hid he
        have hd : decide (toI q = toI P[k]) = false := by rw [decide_eq_false_iff_not, toI_inj']; exact he
        rw [hd] at C
        clear hd he
        go_wp2_with (go_at_call 89; refine C.out.mono ?_; rintro e w3 ⟨rfl, rfl⟩)
        go_round
        case rel =>
          refine ⟨k + 1, by omega, by go_num, fun i hi hik => ?_⟩
          by_cases e : i = k
          · subst e; exact HNE.out
          · exact HBF.out i hi (by omega)
        case measure => simp [intOf]; omega
    · obtain rfl : k = P.length := by omega
      have HF := Lib.hid (findI_no fun i hi => HBF.out i hi hi)
      have hki : ¬ ((P.length : Nat) : Int) < (P.length : Int) := by omega
      go_wp2
      go_ret
      exact ⟨ret_int HF.out.symm, HB0.out⟩
end Go.Proofs.Ytmlhecfhhhebnaa
