/- MirrorOrder: the plain law out of its tables. -/
import Derived.Test.YtmlhecfhhhebnaaPo
namespace Go.Proofs.Ytmlhecfhhhebnaa

section
variable {m N : Nat} {W X L : List (List Nat)} {I M R : List Nat}

theorem ck1_at (h : ck1 m W X L = true) {t : Nat} (ht : t < m) : gN (L.getD t []) 0 = stepX X 0 t ∧ ∀ i, i < W.length → gN (L.getD t []) i < W.length ∧ ∀ s, s < m → gN (L.getD t []) (stepX X i s) = stepX X (gN (L.getD t []) i) s := by
  have := List.all_eq_true.1 h t (List.mem_range.mpr ht)
  simp only [Bool.and_eq_true, beq_iff_eq, List.all_eq_true, List.mem_range, decide_eq_true_eq] at this
  exact ⟨this.1, fun i hi => ⟨(this.2 i hi).1, fun s hs => (this.2 i hi).2 s hs⟩⟩
theorem ck2_at (h : ck2 m W X L I = true) : gN I 0 = 0 ∧ ∀ i, i < W.length → gN I i < W.length ∧ ∀ s, s < m → gN I (gN (L.getD s []) i) = stepX X (gN I i) s := by
  unfold ck2 at h
  simp only [Bool.and_eq_true, beq_iff_eq, List.all_eq_true, List.mem_range, decide_eq_true_eq] at h
  exact ⟨h.1, fun i hi => ⟨(h.2 i hi).1, fun s hs => (h.2 i hi).2 s hs⟩⟩
theorem ckM_at (h : ckM m W X M = true) : gN M 0 = W.length - 1 ∧ ∀ i, i < W.length → gN M i < W.length ∧ ∀ s, s < m → gN M (stepX X i s) = stepX X (gN M i) s := by
  unfold ckM at h
  simp only [Bool.and_eq_true, beq_iff_eq, List.all_eq_true, List.mem_range, decide_eq_true_eq] at h
  exact ⟨h.1, fun i hi => ⟨(h.2 i hi).1, fun s hs => (h.2 i hi).2 s hs⟩⟩

theorem walk_cons (X : List (List Nat)) (a s : Nat) (ws : List Nat) : walkX X a (s :: ws) = walkX X (stepX X a s) ws := rfl
theorem walk_snoc (X : List (List Nat)) (a s : Nat) (ws : List Nat) : walkX X a (ws ++ [s]) = stepX X (walkX X a ws) s := by simp [walkX]
/-- A map that commutes with the steps commutes with the walks. -/
theorem walk_comm (hk : Tk m N W X) (f : Nat → Nat) (hf : ∀ i, i < N → ∀ s, s < m → f (stepX X i s) = stepX X (f i) s) : ∀ (ws : List Nat) (a : Nat), a < N → (∀ s ∈ ws, s < m) → f (walkX X a ws) = walkX X (f a) ws
  | [], _, _, _ => rfl
  | s :: ws, a, ha, hs => by
    rw [walk_cons, walk_cons, walk_comm hk f hf ws _ (hk.step ha (hs s List.mem_cons_self)) (fun x hx => hs x (List.mem_cons_of_mem _ hx)), hf a ha s (hs s List.mem_cons_self)]
theorem walk_left (hk : Tk m N W X) (h1 : ck1 m W X L = true) {s : Nat} (hs : s < m) (ws : List Nat) (hw : ∀ x ∈ ws, x < m) : walkX X 0 (s :: ws) = gN (L.getD s []) (walkX X 0 ws) := by
  obtain ⟨e, h⟩ := ck1_at h1 hs
  rw [walk_comm hk (fun i => gN (L.getD s []) i) (fun i hi t ht => (h i (by rw [hk.lw]; exact hi)).2 t ht) ws 0 hk.pos hw, e]
  rfl
theorem walk_inv (hk : Tk m N W X) (h1 : ck1 m W X L = true) (h2 : ck2 m W X L I = true) : ∀ (ws : List Nat), (∀ x ∈ ws, x < m) → walkX X 0 ws.reverse = gN I (walkX X 0 ws)
  | [], _ => (ck2_at h2).1.symm
  | s :: ws, hw => by
    have hs := hw s List.mem_cons_self
    have hw' : ∀ x ∈ ws, x < m := fun x hx => hw x (List.mem_cons_of_mem _ hx)
    rw [List.reverse_cons, walk_snoc, walk_inv hk h1 h2 ws hw', walk_left hk h1 hs ws hw']
    exact (((ck2_at h2).2 _ (by rw [hk.lw]; exact hk.walk ws 0 hk.pos hw')).2 s hs).symm
theorem walk_last (hk : Tk m N W X) (h : ckM m W X M = true) (ws : List Nat) (hw : ∀ x ∈ ws, x < m) : walkX X (W.length - 1) ws = gN M (walkX X 0 ws) := by
  obtain ⟨e, h⟩ := ckM_at h
  rw [walk_comm hk (fun i => gN M i) (fun i hi t ht => (h i (by rw [hk.lw]; exact hi)).2 t ht) ws 0 hk.pos hw, e]

theorem lastX_lt (hk : Tk m N W X) (hl : lstB W X = true) {y : Nat} (hy : y < N) (h0 : y ≠ 0) : lastX W y < m := by
  have hyW : y < W.length := by rw [hk.lw]; exact hy
  have h := (lst_at hl hyW h0).1
  unfold lenX at h
  rw [getDL hyW] at h
  have hlm : (W[y]).length - 1 < (W[y]).length := by omega
  have e : lastX W y = (W[y])[(W[y]).length - 1] := by unfold lastX lenX; rw [getDL hyW, getDN hlm]
  rw [e]
  exact hk.letter _ (List.getElem_mem hyW) _ (List.getElem_mem hlm)
theorem bel_R (hk : Tk m N W X) (hl : lstB W X = true) (hR : ckR W X R = true) : ∀ (f x y : Nat), x < N → y < N → lenX W y ≤ f → belX W X f x y = Nat.testBit (gN R y) x := by
  have hc : ∀ x y, x < N → y < N → Nat.testBit (gN R y) x = (if y = 0 then x == 0 else if lenX W y < lenX W x then false else Nat.testBit (gN R (stepX X y (lastX W y))) (if lenX W (stepX X x (lastX W y)) < lenX W x then stepX X x (lastX W y) else x)) := by
    intro x y hx hy
    have := List.all_eq_true.1 (List.all_eq_true.1 hR y (List.mem_range.mpr (by rw [hk.lw]; exact hy))) x (List.mem_range.mpr (by rw [hk.lw]; exact hx))
    exact eq_of_beq this
  intro f
  induction f with
  | zero =>
    intro x y hx hy hf
    have hy0 : y = 0 := Classical.byContradiction fun h => by have := (lst_at hl (by rw [hk.lw]; exact hy) h).1; omega
    rw [hc x y hx hy, if_pos hy0]; rfl
  | succ f ih =>
    intro x y hx hy hf
    rw [hc x y hx hy, belX]
    by_cases hy0 : y = 0
    · rw [if_pos hy0, if_pos hy0]
    · rw [if_neg hy0, if_neg hy0]
      by_cases hlen : lenX W y < lenX W x
      · rw [if_pos hlen, if_pos hlen]
      · rw [if_neg hlen, if_neg hlen]
        have hs := lastX_lt hk hl hy hy0
        have hd := (lst_at hl (by rw [hk.lw]; exact hy) hy0).2
        refine ih _ _ ?_ (hk.step hy hs) (by omega)
        split
        · exact hk.step hx hs
        · exact hx
theorem len12 (hk : Tk m N W X) {y : Nat} (hy : y < N) : lenX W y ≤ 12 := by
  have hyW : y < W.length := by rw [hk.lw]; exact hy
  unfold lenX; rw [getDL hyW]; exact hk.short _ (List.getElem_mem _)
theorem belG_R (hk : Tk m N W X) (hl : lstB W X = true) (hR : ckR W X R = true) {x y : Nat} (hx : x < N) (hy : y < N) : belG W X x y = Nat.testBit (gN R y) x := bel_R hk hl hR 12 x y hx hy (len12 hk hy)
end

theorem natW_of (l : List Nat) : natW (toI l) = l := by
  unfold natW toI
  rw [List.map_map]
  conv => rhs; rw [← List.map_id l]
  congr 1
theorem letters_all {m : Nat} : ∀ (l : List Nat), (∀ s ∈ l, s < m) → (toI l).all (letB m) = true
  | [], _ => rfl
  | s :: l, h => by
    show (letB m ((s : Nat) : Int) && (toI l).all (letB m)) = true
    rw [letters_all l (fun x hx => h x (List.mem_cons_of_mem _ hx))]
    have := h s List.mem_cons_self
    unfold letB; simp; omega
theorem tabW {K n : Nat} (hv : validB K n = true) : TabW K n := by
  have hk := tkG hv
  refine ⟨fun i hi => ?_, fun i hi => ?_⟩
  · have hm := List.getElem_mem hi
    rw [getDL hi]
    unfold wordB
    rw [toI_length, letters_all _ (fun s hs => hk.letter _ hm s hs)]
    have := hk.short _ hm
    simp; omega
  · have h0 : ck0 (wordsG K n) (nextG K n) = true := by
      obtain ⟨e1, e2⟩ := lit_of hv
      rw [e1, e2]
      exact List.all_eq_true.1 ck0_all _ (valid_in hv)
    unfold ix
    rw [natW_of]
    exact eq_of_beq (List.all_eq_true.1 h0 i (List.mem_range.mpr hi))

theorem ordP {K n : Nat} (hv : validB K n = true) {xs ys zs : List Int} (q1 : wordB (mirs K n) xs = true) (q2 : wordB (mirs K n) ys = true) (q3 : wordB (mirs K n) zs = true) :
    ∃ iU iW cU cW, OrdP K n xs ys zs iU iW cU cW (belG (wordsG K n) (nextG K n) (ix K n xs) (ix K n zs)) := by
  have hk := tkG hv
  have hl := lstG hv
  obtain ⟨e1, e2⟩ := lit_of hv
  have hg := valid_in hv
  have k1 : ck1 (mirs K n) (wordsG K n) (nextG K n) (oLT K n) = true := by rw [e1, e2]; exact List.all_eq_true.1 ck1_all _ hg
  have k2 : ck2 (mirs K n) (wordsG K n) (nextG K n) (oLT K n) (oIT K n) = true := by rw [e1, e2]; exact List.all_eq_true.1 ck2_all _ hg
  have kM : ckM (mirs K n) (wordsG K n) (nextG K n) (oMT K n) = true := by rw [e1, e2]; exact List.all_eq_true.1 ckM_all _ hg
  have kR : ckR (wordsG K n) (nextG K n) (oRT K n) = true := by rw [e1, e2]; exact List.all_eq_true.1 ckR_all _ hg
  have kP : ckP (wordsG K n) (oIT K n) (oMT K n) (oRT K n) = true := by rw [e1]; exact List.all_eq_true.1 ckP_all _ hg
  have hx := ix_lt hv q1
  have hy := ix_lt hv q2
  have hz := ix_lt hv q3
  have nx := (word_nat q1).2.1
  have nz := (word_nat q3).2.1
  have hp := hk.pos
  have B := fun (x y : Nat) (h : x < (wordsG K n).length) (h' : y < (wordsG K n).length) => belG_R hk hl kR h h'
  have PX := List.all_eq_true.1 kP (ix K n xs) (List.mem_range.mpr hx)
  simp only [Bool.and_eq_true, List.all_eq_true, List.mem_range, beq_iff_eq, Bool.or_eq_true, Bool.not_eq_true', decide_eq_true_eq] at PX
  obtain ⟨⟨⟨p1, p2⟩, p3⟩, p4⟩ := PX
  obtain ⟨⟨p5, p6⟩, p7⟩ := p4 _ hz
  have iU := ((ck2_at k2).2 _ hx).1
  have iW := ((ck2_at k2).2 _ hz).1
  have mU := ((ckM_at kM).2 _ hx).1
  have mW := ((ckM_at kM).2 _ hz).1
  have hz0 : (0 : Nat) < (wordsG K n).length := hp
  have PZ := List.all_eq_true.1 kP (ix K n ys) (List.mem_range.mpr hy)
  refine ⟨gN (oIT K n) (ix K n xs), gN (oIT K n) (ix K n zs), gN (oMT K n) (ix K n xs), gN (oMT K n) (ix K n zs), ?_⟩
  rw [B _ _ hx hz]
  have hself : ∀ {b : Bool}, b = true → (!b) = true → False := by intro b h1 h2; rw [h1] at h2; cases h2
  exact {
    h1 := by rw [B _ _ hz0 hx]; exact p1
    h2 := by rw [B _ _ hx (by omega)]; exact p2
    h3 := by rw [B _ _ hx hx]; exact p3
    h4 := by rw [B _ _ iU iW]; exact p5
    h5 := by rw [B _ _ mW mU]; exact p6
    h6 := fun h hb => by
      rw [B _ _ hy hx] at hb
      rw [B _ _ hy hz]
      rcases p7 with p7 | ⟨⟨p8, _⟩, _⟩
      · rw [h] at p7; cases p7
      · have := congrArg (fun q => Nat.testBit q (ix K n ys)) p8
        simp only [Nat.testBit_and, hb, Bool.true_and] at this
        exact this
    h7 := fun h hb => by
      rw [B _ _ hz hx] at hb
      rcases p7 with p7 | ⟨⟨_, p9⟩, _⟩
      · rw [h] at p7; cases p7
      · rcases p9 with p9 | p9
        · rw [hb] at p9; cases p9
        · rw [p9]
    h8 := fun h => by
      rcases p7 with p7 | ⟨_, p10⟩
      · rw [h] at p7; cases p7
      · rcases p10 with p10 | p10
        · exact .inl p10
        · exact .inr (by rw [p10])
    lU := iU
    lW := iW
    mU := mU
    mW := mW
    eU := walk_inv hk k1 k2 _ nx
    eW := walk_inv hk k1 k2 _ nz
    fU := walk_last hk kM _ nx
    fW := walk_last hk kM _ nz }
end Go.Proofs.Ytmlhecfhhhebnaa
