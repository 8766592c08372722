/- MirrorParts: what its walk asks of an element and a set of mirrors. -/
import Derived.Test.YtmlhecfhhhebnaaDoorDl
import Derived.Test.YtmlhecfhhhebnaaDoorDp
namespace Go.Proofs.YtmlhecfhhhebnaaDoor

/-- What the law asks: i the element, C its Coset, B the inverse of that, R the rest. -/
structure PartP (K n M : Nat) (ws : List Nat) (i C B R : Nat) : Prop where
  cC : cosG K n M i = C
  lC : C < (wordsG K n).length
  lB : B < (wordsG K n).length
  lR : R < (wordsG K n).length
  eB : walkX (nextG K n) 0 ((wordsG K n).getD C []).reverse = B
  eR : walkX (nextG K n) B ws = R
  eI : walkX (nextG K n) C ((wordsG K n).getD R []) = i
  eL : lenX (wordsG K n) C + lenX (wordsG K n) R = lenX (wordsG K n) i
  eC : cosG K n M C = C
  eF : fallsTo (wordsG K n) (nextG K n) C (mirs K n) &&& M = 0
  eS : ((wordsG K n).getD R []).all (fun s => M.testBit s) = true
theorem partP {K n M : Nat} (hv : validB K n = true) (hM : M < 2 ^ mirs K n) (ws : List Nat) (hw : ∀ x ∈ ws, x < mirs K n) :
    ∃ C B R, PartP K n M ws (walkX (nextG K n) 0 ws) C B R := by
  have hk := tkG hv
  obtain ⟨e1, e2⟩ := lit_of hv
  have hg := valid_in hv
  have k1 : ck1 (mirs K n) (wordsG K n) (nextG K n) (oLT K n) = true := by rw [e1, e2]; exact List.all_eq_true.1 ck1_all _ hg
  have k2 : ck2 (mirs K n) (wordsG K n) (nextG K n) (oLT K n) (oIT K n) = true := by rw [e1, e2]; exact List.all_eq_true.1 ck2_all _ hg
  have kP : ckParts (mirs K n) (wordsG K n) (nextG K n) (oLT K n) (oIT K n) = true := by rw [e1, e2]; exact List.all_eq_true.1 ckParts_all _ hg
  have hi := hk.walk ws 0 hk.pos hw
  have letters : ∀ j, j < (wordsG K n).length → ∀ x ∈ (wordsG K n).getD j [], x < mirs K n := fun j hj x hx => by
    rw [getDL hj] at hx
    exact hk.letter _ (List.getElem_mem hj) x hx
  obtain ⟨i, hie⟩ : ∃ i, walkX (nextG K n) 0 ws = i := ⟨_, rfl⟩
  rw [hie] at hi
  have hp := List.all_eq_true.1 (List.all_eq_true.1 kP i (List.mem_range.2 hi)) M (List.mem_range.2 hM)
  unfold partB at hp
  simp only [Bool.and_eq_true, beq_iff_eq, decide_eq_true_eq] at hp
  obtain ⟨⟨⟨⟨⟨⟨p1, p2⟩, p3⟩, p4⟩, p5⟩, p6⟩, p7⟩ := hp
  have hC : cosG K n M i = cosX (wordsG K n) (nextG K n) (mirs K n) M 12 i := rfl
  obtain ⟨C, hCe⟩ : ∃ C, cosX (wordsG K n) (nextG K n) (mirs K n) M 12 i = C := ⟨_, rfl⟩
  rw [hCe] at p1 p2 p3 p4 p5 p6 p7 hC
  have hB := ((ck2_at k2).2 C p1).1
  obtain ⟨B, hBe⟩ : ∃ B, gN (oIT K n) C = B := ⟨_, rfl⟩
  rw [hBe] at p2 p3 p4 p5 hB
  obtain ⟨R, hRe⟩ : ∃ R, lfold (oLT K n) ((wordsG K n).getD B []) i = R := ⟨_, rfl⟩
  rw [hRe] at p2 p3 p4 p5
  refine ⟨C, B, R, ?_⟩
  rw [hie]
  refine ⟨hC, p1, hB, p2, ?_, ?_, ?_, p4, p6, p7, p3⟩
  · rw [walk_inv hk k1 k2 _ (letters C p1), walk_at hv p1]
    exact hBe
  · have := walk_fold hk k1 ws hw ((wordsG K n).getD B []) (letters B hB)
    rw [walk_at hv hB, hie, hRe] at this
    exact this
  · have := walk_fold hk k1 ((wordsG K n).getD R []) (letters R p2) ((wordsG K n).getD C []) (letters C p1)
    rw [walk_at hv p1, walk_at hv p2, p5] at this
    exact this
end Go.Proofs.YtmlhecfhhhebnaaDoor
