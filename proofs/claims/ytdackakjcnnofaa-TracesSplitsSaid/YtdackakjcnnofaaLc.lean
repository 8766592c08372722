/- slices.Compact over numbers; a set as a sorted list. -/
import Derived.Test.YtdackakjcnnofaaA13
import Derived.Shelf.SlLaysE
import Derived.Shelf.SlicesE.Compact
import Derived.Lib.OwnBridge
namespace Go.Proofs.Ytdackakjcnnofaa
open Go.Shelf
def layC_ren : Go.Shelf.Ren := ⟨fun | 43 => 32 | n => n, fun | 22 => 28 | 23 => 3 | 3 => 3 | 4 => 4 | 0 => 0 | n => n, fun | n => n⟩
theorem layC : Go.Proofs.SlLaysE.n43 Try.prog layC_ren := {
  mixed := by kernel_rfl,
  f43 := ⟨Try.f32.name, by decide, Try.func32.trans (congrArg some (by kernel_rfl))⟩,
  t0 := Try.underlying0,
  a0 := Try.isAgg0,
  z0 := Try.sizeOf0,
  v0 := Try.zeroValue0,
  t3 := Try.underlying3,
  a3 := Try.isAgg3,
  z3 := Try.sizeOf3,
  v3 := Try.zeroValue3,
  t4 := Try.underlying4,
  a4 := Try.isAgg4,
  z4 := Try.sizeOf4,
  v4 := Try.zeroValue4,
  t22 := Try.underlying28,
  a22 := Try.isAgg28,
  z22 := Try.sizeOf28,
  v22 := Try.zeroValue28,
  a23 := Try.isAgg3,
  z23 := Try.sizeOf3 }
end Go.Proofs.Ytdackakjcnnofaa
namespace Go.Proofs.Ytdackakjcnnofaa
open Go.RowKit Go.Shelf Go.Sort

theorem compactI_any {B g cap : Nat} {w : World} {xs : List Int} (h : OwnI 3 B w (.slice (some ⟨g, 0, none⟩) xs.length cap) xs) (hlen : xs.length ≤ 100000) :
    Calls Try.prog 32 #[.slice (some ⟨g, 0, none⟩) xs.length cap] w fun e w' => e = .returned (.slice (some ⟨g, 0, none⟩) (Lib.compact xs).length cap) ∧ OwnI 3 B w' (.slice (some ⟨g, 0, none⟩) (Lib.compact xs).length cap) (Lib.compact xs) ∧ w.grownBy w' (some g) := by
  have hle := Lib.compact_length_le xs
  obtain ⟨g2, cap2, he, _, hg, hcap, _, _, hH⟩ := Lib.holds_of_ownsRow h (by intro e; cases e)
  obtain ⟨e1, -, rfl⟩ := Value.slice.inj he
  obtain rfl : g = g2 := by simpa using e1
  have hS := AnyE.slices_Compact layC (Value.int .i64) (fun _ => rfl) (.intD _ _ _) (.intD _ _ _) 0 Try.zeroValue3 g 0 cap xs.toArray w hH (by simp; omega) (by simpa using hcap)
  change Calls Try.prog 32 _ _ _ at hS
  refine hS.mono fun e w' ⟨he, q, hw⟩ => ?_
  subst hw
  refine ⟨he, ?_, ?_⟩
  · have hc := Lib.ownsRow_putRow (q := q) (k := (Lib.compact xs).length) (ys := Lib.compact xs ++ List.replicate (xs.length - (Lib.compact xs).length) 0) h (by simp; omega) (by omega)
    rw [List.take_left] at hc
    exact hc
  · exact grownBy_sortedI (os := #[]) (n := q) _
theorem comp_inv {d : Array Int} (hs : ∀ i j, i ≤ j → j < d.size → d[i]! ≤ d[j]!) : ∀ m, m ≤ d.size → (Lib.compactUpTo d m).Pairwise (· < ·) ∧ (∀ x ∈ Lib.compactUpTo d m, ∃ j, j < m ∧ x = d[j]!) ∧ ∀ j, j < m → d[j]! ∈ Lib.compactUpTo d m
  | 0, _ => by simp [Lib.compactUpTo]
  | m + 1, hm => by
    obtain ⟨h1, h2, h3⟩ := comp_inv hs m (by omega)
    rw [Lib.compactUpTo_succ]
    by_cases hk : Lib.keeps d m = true
    · rw [if_pos hk]
      have hk' : m = 0 ∨ d[m]! ≠ d[m - 1]! := by simpa [Lib.keeps] using hk
      refine ⟨List.pairwise_append.2 ⟨h1, List.pairwise_singleton _ _, fun x hx y hy => ?_⟩, fun x hx => ?_, fun j hj => ?_⟩
      · obtain rfl := List.mem_singleton.1 hy
        obtain ⟨j, hj, rfl⟩ := h2 x hx
        have h4 := hs j (m - 1) (by omega) (by omega)
        have h5 := hs (m - 1) m (by omega) (by omega)
        omega
      · rcases List.mem_append.1 hx with hx | hx
        · obtain ⟨j, hj, rfl⟩ := h2 x hx
          exact ⟨j, by omega, rfl⟩
        · obtain rfl := List.mem_singleton.1 hx
          exact ⟨m, by omega, rfl⟩
      · by_cases e : j = m
        · subst e; simp
        · exact List.mem_append_left _ (h3 j (by omega))
    · rw [if_neg hk, List.append_nil]
      have hk' : m ≠ 0 ∧ d[m]! = d[m - 1]! := by simpa [Lib.keeps] using hk
      refine ⟨h1, fun x hx => ?_, fun j hj => ?_⟩
      · obtain ⟨j, hj, rfl⟩ := h2 x hx
        exact ⟨j, by omega, rfl⟩
      · by_cases e : j = m
        · subst e; rw [hk'.2]; exact h3 _ (by omega)
        · exact h3 j (by omega)
theorem comp_eq {xs ys : List Int} (hs : xs.Pairwise (· ≤ ·)) (hy : ys.Pairwise (· < ·)) (hm : ∀ x, x ∈ ys ↔ x ∈ xs) : Lib.compact xs = ys := by
  have hd : ∀ i j, i ≤ j → j < xs.toArray.size → xs.toArray[i]! ≤ xs.toArray[j]! := fun i j hij hj => by
    have hj' : j < xs.length := by simpa using hj
    rw [getElem!_pos xs.toArray i (by simp; omega), getElem!_pos xs.toArray j hj]
    simp only [List.getElem_toArray]
    by_cases e : i = j
    · subst e; exact Int.le_refl _
    · exact List.pairwise_iff_getElem.1 hs i j (by omega) hj' (by omega)
  obtain ⟨h1, h2, h3⟩ := comp_inv hd xs.length (by simp)
  have hn1 : (Lib.compact xs).Nodup := h1.imp fun {a b} h e => by omega
  have hn2 : ys.Nodup := hy.imp fun {a b} h e => by omega
  refine List.Perm.eq_of_pairwise (le := (· < ·)) (fun a b _ _ h1 h2 => by omega) h1 hy ((List.perm_ext_iff_of_nodup hn1 hn2).2 fun x => ?_)
  rw [hm x]
  constructor
  · intro hx
    obtain ⟨j, hj, rfl⟩ := h2 x hx
    rw [getElem!_pos xs.toArray j (by simpa using hj)]
    simp
  · intro hx
    obtain ⟨j, hj, rfl⟩ := List.getElem_of_mem hx
    have := h3 j hj
    rw [getElem!_pos xs.toArray j (by simpa using hj)] at this
    rw [List.getElem_toArray] at this
    exact this
theorem orb_sorted (E : List (List Nat)) (d i : Nat) : (orbN E d i).Pairwise (· < ·) := List.Pairwise.filter _ List.pairwise_lt_range
/-- Where the elements take a number, sorted, each once. -/
theorem Grp.orb_comp {d : Nat} {E : List (List Nat)} (h : Grp d E) {i : Nat} (hi : i < d) : Lib.compact (sortL (toI (E.map fun x => x.getD i 0))) = toI (orbN E d i) := by
  refine comp_eq (sortL_sorted _) ?_ fun x => ?_
  · unfold toI
    rw [List.pairwise_map]
    exact (orb_sorted E d i).imp fun {a b} h => by omega
  · rw [(sortL_perm _).mem_iff]
    unfold toI orbN
    simp only [List.mem_map, List.mem_filter, List.mem_range]
    constructor
    · rintro ⟨y, ⟨hy, ho⟩, rfl⟩
      obtain ⟨e, he, rfl⟩ := orbB_iff.1 ho
      exact ⟨_, ⟨e, he, rfl⟩, rfl⟩
    · rintro ⟨_, ⟨e, he, rfl⟩, rfl⟩
      exact ⟨_, ⟨perm_getD_lt (h.perm e he) hi, orbB_iff.2 ⟨e, he, rfl⟩⟩, rfl⟩
end Go.Proofs.Ytdackakjcnnofaa
