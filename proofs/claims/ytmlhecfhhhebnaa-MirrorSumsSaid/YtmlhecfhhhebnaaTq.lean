/- What the laws over the reference's table rest on; the plain parts of MirrorTimes, MirrorFalls. -/
import Derived.Test.YtmlhecfhhhebnaaRn
import Derived.Test.YtmlhecfhhhebnaaPp
import Derived.Test.YtmlhecfhhhebnaaOr
namespace Go.Proofs.Ytmlhecfhhhebnaa
open Go.RowKit

theorem rows_at {W X : List (List Nat)} {w : World} {g l c i : Nat} {vP vX : Value} (h : RT W X w (.agg #[.slice (some ⟨g, 0, none⟩) l c, vP, vX])) (hi : i < W.length) :
    ∃ a c', w.cell? ⟨g, i, none⟩ = some (.slice a (lenX W i) c') ∧ Ints w (.slice a (lenX W i) c') (toI (W.getD i [])) := by
  obtain ⟨vW', vP', vX', P', e', hW, _, _⟩ := h
  obtain ⟨rfl, rfl, rfl⟩ : Value.slice (some ⟨g, 0, none⟩) l c = vW' ∧ vP = vP' ∧ vX = vX' := by simpa using e'
  obtain ⟨g2, cap, ra, rc, e, hgc, hrc, hin, _⟩ := hW.cells i hi
  obtain ⟨e1, _, _⟩ := Value.slice.inj e
  obtain rfl : g = g2 := by simpa using e1
  have e2 : lenX W i = (W[i]).length := by unfold lenX; rw [getDL hi]
  exact ⟨ra, rc, by rw [e2]; exact hgc, by rw [e2, getDL hi]; exact hin⟩
theorem RT.made {W X : List (List Nat)} {w : World} {v : Value} (h : RT W X w v) (h0 : 0 < W.length) : ∃ gW cW aP lP cP aX lX cX, v = .agg #[.slice (some ⟨gW, 0, none⟩) W.length cW, .slice aP lP cP, .slice aX lX cX] := by
  obtain ⟨vW, vP, vX, P, rfl, hW, hP, hX⟩ := h
  obtain ⟨g, cap, ra, rc, rfl, _⟩ := hW.cells 0 h0
  obtain ⟨aP, cP, rfl⟩ := hP.form
  obtain ⟨aX, cX, rfl⟩ := hX.form
  exact ⟨_, _, _, _, _, _, _, _, rfl⟩
theorem chainT {a b c : World} (h : Below a.heap.size a b) (h' : Below b.heap.size b c) : Below a.heap.size a c := h.trans (h'.mono h.size)
theorem wordB_take (m : Nat) (xs : List Int) : wordB m (xs.take 34) = wordB m xs := by
  by_cases h : xs.length ≤ 34
  · rw [List.take_of_length_le h]
  · unfold wordB
    rw [decide_eq_false (by rw [List.length_take]; omega), decide_eq_false (by omega)]
    rfl
theorem okI_take1 (K : Nat) (n : Int) (xs : List Int) : okI K n [xs.take 34] = okI K n [xs] := by unfold okI; simp [wordB_take]
theorem okI_take2 (K : Nat) (n : Int) (xs ys : List Int) : okI K n [xs.take 34, ys.take 34] = okI K n [xs, ys] := by unfold okI; simp [wordB_take]
theorem okI_no1 {K : Nat} {n : Int} {xs ys : List Int} (h : okI K n [xs] = false) : okI K n [xs, ys] = false := by
  unfold okI at *
  simp only [List.all_cons, List.all_nil, Bool.and_true] at *
  cases h1 : validI K n <;> cases h2 : wordB (mirs K n.toNat) xs <;> simp_all
theorem okI_no2 {K n : Nat} {xs ys : List Int} (hv : validB K n = true) (h : wordB (mirs K n) ys = false) : okI K (n : Int) [xs, ys] = false := by
  rw [okI_cast hv]
  simp [h]
theorem K_lt {K n : Nat} (hv : validB K n = true) : K < 256 := by unfold validB at hv; simp only [Bool.or_eq_true, Bool.and_eq_true, beq_iff_eq] at hv; omega
theorem walk_at {K n : Nat} (hv : validB K n = true) {i : Nat} (hi : i < (wordsG K n).length) : walkX (nextG K n) 0 ((wordsG K n).getD i []) = i := by
  have := (tabW hv).at' i hi
  unfold ix at this
  rwa [natW_of] at this
theorem inv_walk {K n : Nat} (hv : validB K n = true) (ws : List Nat) (hw : ∀ x ∈ ws, x < mirs K n) :
    walkX (nextG K n) 0 ws.reverse = walkX (nextG K n) 0 ((wordsG K n).getD (walkX (nextG K n) 0 ws) []).reverse := by
  have hk := tkG hv
  obtain ⟨e1, e2⟩ := lit_of hv
  have hg := valid_in hv
  have k1 : ck1 (mirs K n) (wordsG K n) (nextG K n) (oLT K n) = true := by rw [e1, e2]; exact List.all_eq_true.1 ck1_all _ hg
  have k2 : ck2 (mirs K n) (wordsG K n) (nextG K n) (oLT K n) (oIT K n) = true := by rw [e1, e2]; exact List.all_eq_true.1 ck2_all _ hg
  have hi := hk.walk ws 0 hk.pos hw
  have hw2 : ∀ x ∈ (wordsG K n).getD (walkX (nextG K n) 0 ws) [], x < mirs K n := fun x hx => by
    rw [getDL hi] at hx
    exact hk.letter _ (List.getElem_mem hi) x hx
  rw [walk_inv hk k1 k2 ws hw, walk_inv hk k1 k2 _ hw2, walk_at hv hi]
end Go.Proofs.Ytmlhecfhhhebnaa
