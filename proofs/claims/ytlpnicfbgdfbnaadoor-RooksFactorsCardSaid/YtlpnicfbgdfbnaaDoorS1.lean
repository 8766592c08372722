/- S1: contracts of slices.Sort, BinarySearch and Delete over rows of the call's own. -/
import Derived.Test.YtlpnicfbgdfbnaaDoorZ1
import Derived.Test.YtlpnicfbgdfbnaaDoorSh
namespace Go.Proofs.YtlpnicfbgdfbnaaDoor
open Go.RowKit Go.Shelf Go.Sort

theorem own_open {e : TypeId} {B : Nat} {w : World} {v : Value} {L : List Int} (h : OwnI e B w v L) (hl : 0 < L.length) :
    ∃ g cap cur, v = .slice (some ⟨g, 0, none⟩) L.length cap ∧ B ≤ g ∧ g < w.heap.size ∧ w.heap[g]? = some (.cells cur e (0, 0)) ∧ L.length ≤ cap ∧ cap ≤ maxLen ∧ cur.size = cap * 1 ∧ cur.toList.take (L.length * 1) = L.map (Value.int .i64) := by
  obtain ⟨h1, h2⟩ := h
  rcases h2 with ⟨_, h2⟩ | ⟨g, cap, cur, h2, hg, hh, r⟩
  · omega
  · exact ⟨g, cap, cur, h2, hg, (Array.getElem?_eq_some_iff.mp hh).1, hh, r⟩

theorem own_holds {e : TypeId} {B : Nat} {w : World} {g n cap : Nat} {L : List Int} (h : OwnI e B w (.slice (some ⟨g, 0, none⟩) n cap) L) : Holds (Value.int .i64) w g 0 L.toArray := by
  intro j hj
  have hj' : j < L.length := by simpa using hj
  rw [Nat.zero_add]
  refine ⟨?_, h.frozenN j⟩
  rw [h.cellI j hj', getElem!_pos _ j hj]
  simp

theorem own_put {e : TypeId} {B : Nat} {w : World} {g n cap : Nat} {L ys zs : List Int} (h : OwnI e B w (.slice (some ⟨g, 0, none⟩) n cap) L) (hl : zs.length = L.length) (hp : ys = zs.take ys.length) (q : Nat) (os : Array Obj) :
    OwnI e B (grow (putRow (Value.int .i64) (Sort.ahead w q) g 0 zs.toArray) os) (.slice (some ⟨g, 0, none⟩) ys.length cap) ys ∧ w.grownBy (grow (putRow (Value.int .i64) (Sort.ahead w q) g 0 zs.toArray) os) (some g) := by
  have hle : ys.length ≤ zs.length := by rw [hp, List.length_take]; exact Nat.min_le_right _ _
  obtain ⟨h1, h2⟩ := h
  rcases h2 with ⟨h2, _⟩ | ⟨g', cap', cur, h2, hg, hh, hnc, hcm, hcs, ht⟩
  · cases h2
  · obtain ⟨e1, rfl, rfl⟩ := Value.slice.inj h2
    obtain rfl : g = g' := by simpa using e1
    have hlt : g < w.heap.size := (Array.getElem?_eq_some_iff.mp hh).1
    have hblk : ∀ k, k < w.heap.size → (grow (putRow (Value.int .i64) (Sort.ahead w q) g 0 zs.toArray) os).heap[k]? = if g = k then (w.heap[k]?).map (onCells (putCells (Value.int .i64) 0 zs.toArray)) else w.heap[k]? := by
      intro k hk
      show (w.heap.modify g _ ++ os)[k]? = _
      rw [Array.getElem?_append_left (by simpa using hk), Array.getElem?_modify]
    refine ⟨⟨by simp, .inr ⟨g, cap, putCells (Value.int .i64) 0 zs.toArray cur, rfl, hg, ?_, by omega, hcm, by simp [putCells, hcs], ?_⟩⟩, ⟨rfl, rfl, rfl, by simp [grow, putRow, mapBlock, Sort.ahead], fun k hk hne => ?_⟩⟩
    · rw [hblk g hlt, if_pos rfl, hh]; rfl
    · apply List.ext_getElem?
      intro k
      rw [List.getElem?_take]
      by_cases hk : k < ys.length
      · have hkz : k < zs.length := by omega
        have hkc : k < cur.size := by omega
        have hz : ys[k] = zs[k] := by
          have := congrArg (fun l : List Int => l[k]?) hp
          simp only [List.getElem?_take, hk, if_true, List.getElem?_eq_getElem hk, List.getElem?_eq_getElem hkz, Option.some.injEq] at this
          exact this
        rw [if_pos (by omega)]
        simp [putCells, hkz, hkc, hk, hz]
      · rw [if_neg (by omega)]
        simp [List.getElem?_eq_none (Nat.le_of_not_lt hk)]
    · rw [hblk k hk, if_neg (by rintro rfl; exact hne rfl)]

theorem own_cutI {e : TypeId} {B : Nat} {w : World} {a : Option Addr} {n c : Nat} {L : List Int} (h : OwnI e B w (.slice a n c) L) (k : Nat) (hk : k ≤ L.length) : OwnI e B w (.slice a k c) (L.take k) := by
  obtain ⟨h1, h2⟩ := h
  have hlk : (L.take k).length = k := by rw [List.length_take]; omega
  refine ⟨by simp, ?_⟩
  rw [hlk]
  rcases h2 with ⟨h2, h3⟩ | ⟨g', cap', cur, h2, hg, hh, hnc, hcm, hcs, ht⟩
  · obtain ⟨rfl, rfl, rfl⟩ := Value.slice.inj h2
    exact .inl ⟨by rw [show k = 0 by omega], by omega⟩
  · obtain ⟨rfl, rfl, rfl⟩ := Value.slice.inj h2
    refine .inr ⟨g', c, cur, rfl, hg, hh, by omega, hcm, hcs, ?_⟩
    rw [List.map_take, ← ht, List.take_take]
    congr 1
    omega

theorem sortI_any {e : TypeId} {B : Nat} {w : World} {v : Value} {L : List Int} (h : OwnI e B w v L) (hl : 0 < L.length) (hb : L.length ≤ 1000000) :
    Calls Tryd.prog 99 #[v] w fun e' w' => e' = .returned (.tuple #[]) ∧ OwnI e B w' v (riseZ L) ∧ w.grownBy w' v.ownBlock := by
  obtain ⟨g, cap, cur, rfl, hg, hlt, hh, r⟩ := own_open h hl
  refine Calls.mono (Tryd.slices_Sort_int g 0 cap L w (own_holds h) hlt (by omega)) ?_
  rintro e' w' ⟨rfl, q, os, rfl⟩
  have hms : L.mergeSort (fun x y => decide (x ≤ y)) = riseZ L := by
    refine sortedZ_unique ((List.mergeSort_perm _ _).trans (riseZ_perm L).symm) ?_ (riseZ_sorted L)
    have := List.pairwise_mergeSort (le := fun x y : Int => decide (x ≤ y)) (fun a b c h1 h2 => by simp at *; omega) (fun a b => by simp; omega) L
    simpa using this
  rw [hms]
  have := own_put (ys := riseZ L) (zs := riseZ L) h (riseZ_len L) (by simp) q os
  rw [riseZ_len] at this
  exact ⟨rfl, this⟩

theorem bsearchI_any {e : TypeId} {B : Nat} {w : World} {v : Value} {L : List Int} (h : OwnI e B w v L) (hl : 0 < L.length) (hb : L.length ≤ 1000000) (hs : L.Pairwise (· ≤ ·)) (x : Int) :
    Calls Tryd.prog 80 #[v, .int .i64 x] w fun e' w' => e' = .returned (.tuple #[.int .i64 (L.countP (· < x) : Nat), .bool (L.contains x)]) ∧ w.grownBy w' none := by
  obtain ⟨g, cap, cur, rfl, hg, hlt, hh, r⟩ := own_open h hl
  refine Calls.mono (Tryd.slices_BinarySearch_int g 0 L.length cap L x w (Nat.le_refl _) (by omega) ?_ (by rw [List.take_length]; exact hs)) ?_
  · intro j hj
    rw [Nat.zero_add, h.cellI j hj, getD_atZ hj]
  · rintro e' w' ⟨rfl, q, rfl⟩
    rw [List.take_length]
    exact ⟨rfl, rfl, rfl, rfl, Nat.le_refl _, fun _ _ _ => rfl⟩

theorem deleteI_any {e : TypeId} {B : Nat} {w : World} {v : Value} {L : List Int} (h : OwnI e B w v L) (p : Nat) (hp : p < L.length) :
    ∀ q r : Int, q = (p : Int) → r = (p : Int) + 1 → Calls Tryd.prog 81 #[v, .int .i64 q, .int .i64 r] w fun e' w' => ∃ v', e' = .returned v' ∧ OwnI e B w' v' (L.eraseIdx p) ∧ v'.ownBlock = v.ownBlock ∧ w.grownBy w' v.ownBlock := by
  rintro q r rfl rfl
  obtain ⟨g, cap, cur, rfl, hg, hlt, hh, hnc, hcm, r⟩ := own_open h (by omega)
  have := Tryd.slices_Delete_int g 0 cap p (p + 1) L w (own_holds h) hnc (by simpa [maxLen] using hcm) (by omega) (by omega)
  rw [show ((p + 1 : Nat) : Int) = (p : Int) + 1 by simp] at this
  refine Calls.mono this ?_
  rintro e' w' ⟨rfl, q, rfl⟩
  have hel : (L.eraseIdx p).length = L.length - (p + 1 - p) := by rw [List.length_eraseIdx_of_lt hp]; omega
  have hzl : (L.take p ++ L.drop (p + 1) ++ List.replicate (p + 1 - p) (0 : Int)).length = L.length := by simp; omega
  have hk := own_put (ys := L.eraseIdx p) (zs := L.take p ++ L.drop (p + 1) ++ List.replicate (p + 1 - p) 0) h hzl
    (by rw [← List.eraseIdx_eq_take_drop_succ, List.take_append_of_le_length (Nat.le_refl _), List.take_length]) q #[]
  rw [grow_empty] at hk
  rw [← hel]
  exact ⟨_, rfl, hk.1, rfl, hk.2⟩

/-- Where a number stands first in a rising row. -/
theorem idx_count : ∀ (L : List Int) (x : Int), L.Pairwise (· ≤ ·) → x ∈ L → L.countP (· < x) = L.idxOf x
  | [], x, _, h => by simp at h
  | y :: l, x, hs, h => by
    rw [List.pairwise_cons] at hs
    by_cases e : y = x
    · subst e
      rw [List.idxOf_cons_self, List.countP_eq_zero]
      intro z hz
      rcases List.mem_cons.mp hz with rfl | hz
      · simp
      · have := hs.1 z hz; simp; omega
    · have hx : x ∈ l := by rcases List.mem_cons.mp h with h | h; exact absurd h.symm e; exact h
      have hlt : y < x := by have := hs.1 x hx; omega
      rw [List.countP_cons_of_pos (by simpa using hlt), idx_count l x hs.2 hx, List.idxOf_cons, beq_false_of_ne e]
      rfl
end Go.Proofs.YtlpnicfbgdfbnaaDoor
