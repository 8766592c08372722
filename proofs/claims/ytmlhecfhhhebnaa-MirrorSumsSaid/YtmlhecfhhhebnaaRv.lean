/- slices.Reverse of ints: the walk. -/
import Derived.Test.YtmlhecfhhhebnaaPr
namespace Go.Proofs.Ytmlhecfhhhebnaa
open Go.RowKit

/-- Behind i exchanges. -/
def RevI (l cur : List Nat) (i : Nat) : Prop := cur.length = l.length ∧ ∀ k, k < l.length → cur.getD k 0 = if k < i ∨ l.length - 1 - k < i then l.getD (l.length - 1 - k) 0 else l.getD k 0
theorem RevI.start (l : List Nat) : RevI l l 0 := ⟨rfl, fun k _ => by rw [if_neg (by omega)]⟩
theorem getD_setN {l : List Nat} {i k x : Nat} (h : i < l.length) : (l.set i x).getD k 0 = if k = i then x else l.getD k 0 := by
  simp only [List.getD, List.getElem?_set]
  by_cases e : i = k
  · subst e; simp [h]
  · rw [if_neg e, if_neg (Ne.symm e)]
theorem RevI.next {l cur : List Nat} {i j x y : Nat} (h : RevI l cur i) (hij : i < j) (hl : i + j + 1 = l.length) (hx : cur.getD i 0 = x) (hy : cur.getD j 0 = y) : RevI l ((cur.set i y).set j x) (i + 1) := by
  obtain ⟨h1, h2⟩ := h
  refine ⟨by simp [h1], fun k hk => ?_⟩
  have hi := h2 i (by omega)
  have hj := h2 j (by omega)
  rw [if_neg (by omega)] at hi hj
  rw [getD_setN (by simp; omega), getD_setN (by omega)]
  by_cases e1 : k = j
  · subst e1
    rw [if_pos rfl, if_pos (by omega), ← hx, hi]
    congr 1; omega
  · rw [if_neg e1]
    by_cases e2 : k = i
    · subst e2
      rw [if_pos rfl, if_pos (by omega), ← hy, hj]
      congr 1; omega
    · rw [if_neg e2, h2 k hk]
      by_cases e3 : k < i ∨ l.length - 1 - k < i
      · rw [if_pos e3, if_pos (by omega)]
      · rw [if_neg e3, if_neg (by omega)]
theorem RevI.done {l cur : List Nat} {i j : Nat} (h : RevI l cur i) (hij : j ≤ i) (hl : i + j + 1 = l.length) : cur = l.reverse := by
  obtain ⟨h1, h2⟩ := h
  refine List.ext_getElem (by simp [h1]) fun k hk hk2 => ?_
  have hkl : k < l.length := by omega
  have := h2 k hkl
  rw [getDN hk] at this
  rw [this, List.getElem_reverse]
  by_cases e : k < i ∨ l.length - 1 - k < i
  · rw [if_pos e, getDN (by omega)]
  · rw [if_neg e, getDN hkl]
    congr 1
    omega
theorem sm_twoN (g i j q : Nat) (u v : Value) (W : World) : Sm (fun k => k ≠ g) W (((W.drewN q).setCell ⟨g, i, none⟩ u).setCell ⟨g, j, none⟩ v) :=
  ⟨rfl, rfl, rfl, by simp [World.setCell, World.drewN], fun k hk _ => (Below.heap_setCell _ ⟨g, j, none⟩ _ k hk).trans (Below.heap_setCell _ ⟨g, i, none⟩ _ k hk)⟩

set_option maxRecDepth 20000 in
set_option maxHeartbeats 2000000 in
theorem Reverse_any (l : List Nat) (B g cap : Nat) (w : World) (ho : OwnI 3 B w (.slice (some ⟨g, 0, none⟩) l.length cap) (toI l)) (h1 : 1 ≤ l.length) (hm : l.length ≤ 1000) :
    Calls Try.prog 47 #[.slice (some ⟨g, 0, none⟩) l.length cap] w fun e w' =>
      e = .returned (.tuple #[]) ∧ OwnI 3 B w' (.slice (some ⟨g, 0, none⟩) l.length cap) (toI l.reverse) ∧ Sm (fun k => k ≠ g) w w' := by
  have HO := Lib.hid ho
  have hst : IntKind.i64.wrap ((l.length : Int) - 1) = ((l.length - 1 : Nat) : Int) := by rw [IntWalk.i64_in _ (by omega)]; omega
  clear ho
  go_enter Try.func47, Try.ntmps47
  go_wp2
  go_loopw [2, 3] (fun p q wr => ∃ (i j : Nat) (cur : List Nat), p = .int .i64 (i : Nat) ∧ q = .int .i64 (j : Nat) ∧ i + j + 1 = l.length ∧ RevI l cur i ∧ OwnI 3 B wr (.slice (some ⟨g, 0, none⟩) l.length cap) (toI cur) ∧ Sm (fun k => k ≠ g) w wr) (fun _ q _ => (intOf q).toNat)
  case atStart => exact ⟨0, l.length - 1, l, rfl, rfl, by omega, RevI.start l, HO.out, Sm.refl _ _⟩
  case round =>
    obtain ⟨i, j, cur, rfl, rfl, hij, hrev, ho, hs⟩ := hrel
    have hcl := hrev.1
    by_cases hlt : i < j
    · have hlti : (i : Int) < (j : Int) := by omega
      have ci := ho.cellN i (by omega)
      have cj := ho.cellN j (by omega)
      have fi := ho.frozenN i
      have fj := ho.frozenN j
      have e1 := getDN (l := cur) (i := i) (by omega)
      have e2 := getDN (l := cur) (i := j) (by omega)
      obtain ⟨x, hx⟩ : ∃ x, cur[i]'(by omega) = x := ⟨_, rfl⟩
      obtain ⟨y, hy⟩ : ∃ y, cur[j]'(by omega) = y := ⟨_, rfl⟩
      rw [hx] at ci e1
      rw [hy] at cj e2
      have HN := Lib.hid (hrev.next hlt hij e1 e2)
      have hil : (i : Int) < (l.length : Int) := by omega
      have hjl : (j : Int) < (l.length : Int) := by omega
      have hwj : IntKind.i64.wrap ((j : Int) - 1) = ((j - 1 : Nat) : Int) := by rw [IntWalk.i64_in _ (by omega)]; omega
      have hne : ¬ j = i := by omega
      have hne2 : ¬ i = j := by omega
      have HO := Lib.hid ho
      have HW := Lib.hid hs
      have HIJ := Lib.hid hij
      clear hx hy ho hs hcl hrev hij e1 e2
      go_upto_region 3 with (fail)
      go_region
      go_wp2
      refine ⟨⟨i + 1, j - 1, (cur.set i y).set j x, by push_cast; rfl, rfl, by have := HIJ.out; omega, HN.out, ?_, ?_⟩, by simp [intOf]; omega⟩
      · exact OwnI.storedN (OwnI.storedN (w := World.drewN _ _) HO.out i y) j x
      · exact HW.out.trans (sm_twoN _ _ _ _ _ _ _)
    · have HR := Lib.hid (hrev.done (by omega) hij)
      have hlti : ¬ (i : Int) < (j : Int) := by omega
      have HO := Lib.hid ho
      have HW := Lib.hid hs
      clear hcl hrev ho hs hij
      go_wp2
      go_end0
      exact ⟨rfl, by rw [← HR.out]; exact HO.out, HW.out⟩

set_option maxRecDepth 20000 in
set_option maxHeartbeats 1000000 in
theorem Reverse0_any (a : Option Addr) (c : Nat) (w : World) :
    Calls Try.prog 47 #[.slice a 0 c] w fun e w' => e = .returned (.tuple #[]) ∧ w = w' := by
  go_enter Try.func47, Try.ntmps47
  go_wp2
  go_loopw [2, 3] (fun p q wr => p = .int .i64 0 ∧ q = .int .i64 (-1) ∧ wr = w) (fun _ _ _ => 0)
  case atStart => exact ⟨rfl, rfl, rfl⟩
  case round =>
    obtain ⟨rfl, rfl, rfl⟩ := hrel
    go_wp2
    go_end0
    exact ⟨rfl, rfl⟩
end Go.Proofs.Ytmlhecfhhhebnaa
