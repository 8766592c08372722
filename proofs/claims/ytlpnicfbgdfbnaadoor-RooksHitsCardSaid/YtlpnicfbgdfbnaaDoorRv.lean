/- slices.Reverse. -/
import Derived.Test.YtlpnicfbgdfbnaaDoorHp
namespace Go.Proofs.YtlpnicfbgdfbnaaDoor
open Go.RowKit Go.Shelf
attribute [local go_sem] Oper.semAt_some

/-- How far the reversal has come. -/
def Rev (L cur : List Nat) (i : Nat) : Prop := cur.length = L.length ∧ ∀ k, k < L.length → cur.getD k 0 = if k < i ∨ L.length ≤ k + i then L.getD (L.length - 1 - k) 0 else L.getD k 0
theorem Rev.zero (L : List Nat) : Rev L L 0 := ⟨rfl, fun k hk => by rw [if_neg (by omega)]⟩
theorem Rev.done {L cur : List Nat} {i : Nat} (h : Rev L cur i) (hi : L.length ≤ 2 * i + 1) : cur = L.reverse := by
  refine getD_ext (by simp [h.1]) fun k hk => ?_
  rw [h.1] at hk
  rw [reverse_getD _ _ hk, h.2 k hk]
  by_cases hc : k < i ∨ L.length ≤ k + i
  · rw [if_pos hc]
  · rw [if_neg hc, show L.length - 1 - k = k by omega]
theorem Rev.step {L cur : List Nat} {i j : Nat} (h : Rev L cur i) (hij : i + j + 1 = L.length) (hlt : i < j) : Rev L ((cur.set i (cur.getD j 0)).set j (cur.getD i 0)) (i + 1) := by
  have hl := h.1
  refine ⟨by simp [hl], fun k hk => ?_⟩
  rw [getD_set (by simp; omega), getD_set (by omega)]
  by_cases h1 : k = j
  · subst h1
    rw [if_pos rfl, if_pos (by omega), h.2 i (by omega), if_neg (by omega), show L.length - 1 - k = i by omega]
  · rw [if_neg h1]
    by_cases h2 : k = i
    · subst h2
      rw [if_pos rfl, if_pos (by omega), h.2 j (by omega), if_neg (by omega), show L.length - 1 - k = j by omega]
    · rw [if_neg h2, h.2 k hk]
      by_cases hc : k < i ∨ L.length ≤ k + i
      · rw [if_pos hc, if_pos (by omega)]
      · rw [if_neg hc, if_neg (by omega)]

set_option maxRecDepth 20000 in
set_option maxHeartbeats 4000000 in
theorem Reverse_any (L : List Nat) (B g cap : Nat) (w : World) (ho : OwnI 3 B w (.slice (some ⟨g, 0, none⟩) L.length cap) (toI L)) (h1 : 1 ≤ L.length) (hl : L.length ≤ 1000) :
    Calls Tryd.prog 30 #[.slice (some ⟨g, 0, none⟩) L.length cap] w fun e w' => e = .returned (.tuple #[]) ∧ OwnI 3 B w' (.slice (some ⟨g, 0, none⟩) L.length cap) (toI L.reverse) ∧ Sm (fun k => k ≠ g) w w' := by
  have hw0 : IntKind.i64.wrap ((L.length : Int) - 1) = ((L.length - 1 : Nat) : Int) := by rw [IntWalk.i64_in _ (by omega)]; omega
  have HO := Lib.hid ho
  clear ho
  go_enter Tryd.func30, Tryd.ntmps30
  go_wp2
  go_loopw [2, 3] (fun p q wr => ∃ (i j : Nat) (cur : List Nat), p = .int .i64 i ∧ q = .int .i64 j ∧ i + j + 1 = L.length ∧ Rev L cur i ∧ OwnI 3 B wr (.slice (some ⟨g, 0, none⟩) L.length cap) (toI cur) ∧ Sm (fun k => k ≠ g) w wr) (fun p _ _ => L.length - (intOf p).toNat)
  case atStart => exact ⟨0, L.length - 1, L, rfl, rfl, by omega, Rev.zero L, HO.out, Sm.refl _ _⟩
  case round =>
    obtain ⟨i, j, cur, rfl, rfl, hij, hr, ho, hs⟩ := hrel
    by_cases hlt : i < j
    · have hcl := hr.1
      have ci := ho.cellN i (by omega)
      have cj := ho.cellN j (by omega)
      have fi := ho.frozenN i
      have fj := ho.frozenN j
      have HR := Lib.hid (hr.step hij hlt)
      rw [getD_at (show i < cur.length by omega), getD_at (show j < cur.length by omega)] at HR
      obtain ⟨x, hx⟩ : ∃ x, cur[i]'(by omega) = x := ⟨_, rfl⟩
      obtain ⟨y, hy⟩ : ∃ y, cur[j]'(by omega) = y := ⟨_, rfl⟩
      rw [hx] at ci HR
      rw [hy] at cj HR
      have h1i : (i : Int) < (L.length : Int) := by omega
      have h1j : (j : Int) < (L.length : Int) := by omega
      have hwi : IntKind.i64.wrap ((i : Int) + 1) = (i : Int) + 1 := IntWalk.i64_in _ (by omega)
      have hwj : IntKind.i64.wrap ((j : Int) - 1) = ((j - 1 : Nat) : Int) := by rw [IntWalk.i64_in _ (by omega)]; omega
      have HO := Lib.hid ho
      have HS := Lib.hid hs
      clear hx hy hr ho hs
      go_upto_region 3 with (fail)
      go_region
      go_wp2
      go_roundw
      case rel =>
        refine ⟨i + 1, j - 1, _, by push_cast; rfl, rfl, by omega, HR.out, ((HO.out.storedN i y).storedN j x).drew, ?_⟩
        exact ((HS.out.trans (Sm.setCell wr g i _ (fun k hk => hk))).trans (Sm.setCell _ g j _ (fun k hk => hk))).trans (Sm.drew _ _)
      case measure => simp [intOf]; omega
    · have HF := Lib.hid (hr.done (by omega))
      go_wp2
      go_end0
      exact ⟨rfl, by rw [← HF.out]; exact ho, hs⟩
end Go.Proofs.YtlpnicfbgdfbnaaDoor
