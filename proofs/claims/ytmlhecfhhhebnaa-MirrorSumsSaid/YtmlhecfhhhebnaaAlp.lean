/- (Group).all: what is held while the table is made. -/
import Derived.Test.YtmlhecfhhhebnaaAlo
import Derived.Test.YtmlhecfhhhebnaaMs
namespace Go.Proofs.Ytmlhecfhhhebnaa
open Go.RowKit

/-- The type of a block of cells. -/
def typeAt (w : World) (k : Nat) : Option TypeId := match w.heap[k]? with | some (.cells _ t _) => some t | _ => none
theorem Held.ty {w : World} {g : Nat} {t : TypeId} {l : List Value} (h : Held w g t l) : typeAt w g = some t := by
  have h' : w.heap[g]? = some (.cells l.toArray t (0, 0)) := h
  unfold typeAt; rw [h']
theorem own_ty {w : World} {B : Nat} {e : TypeId} {size n : Nat} {v : Value} {xs : List Value} (h : w.ownsRow B e size v n xs) {k : Nat} (hk : v.ownBlock = some k) : typeAt w k = some e := by
  rcases h.2 with ⟨rfl, _⟩ | ⟨g, cap, cur, rfl, _, hh, _⟩
  · simp [Value.ownBlock] at hk
  · obtain rfl : g = k := by simpa [Value.ownBlock] using hk
    unfold typeAt; rw [hh]
theorem MapE.ty {w : World} {b : Nat} {L : List (List Int)} (h : MapE w b L) : typeAt w b = none := by
  obtain ⟨es, c, hb, _⟩ := h
  unfold typeAt; rw [hb]
theorem ty_ne {w : World} {k k' : Nat} (h : typeAt w k ≠ typeAt w k') : k ≠ k' := fun e => h (by rw [e])
theorem ty_block {w w' : World} {k : Nat} (h : w'.heap[k]? = w.heap[k]?) : typeAt w' k = typeAt w k := by unfold typeAt; rw [h]
theorem ty_lt {w : World} {k : Nat} {t : TypeId} (h : typeAt w k = some t) : k < w.heap.size := by
  refine Nat.lt_of_not_le fun hge => ?_
  unfold typeAt at h
  rw [Array.getElem?_eq_none hge] at h
  cases h

structure AllI (K n H bT bM : Nat) (S : Nat → Prop) (wr : World) (vL vW vX : Value) (L : List (List Int)) (W X : List (List Nat)) : Prop where
  hg : Held wr H 28 [.int .u8 (K : Nat), .int .i64 (n : Nat)]
  ht : Held wr bT 80 [.int .u8 (K : Nat), .int .i64 (n : Nat), vW, vX, .map (some bM)]
  hm : MapE wr bM L
  hl : OwnE H wr vL L
  hw : RowsF S H wr vW W
  hx : RowsF S H wr vX X
  hS : ∀ k, S k → typeAt wr k = some 3
  hne : ∀ k, vW.ownBlock = some k → vX.ownBlock ≠ some k
  lT : H ≤ bT
  lM : H ≤ bM
section
variable {K n H bT bM : Nat} {S : Nat → Prop} {wr wr' : World} {vL vW vX : Value} {L : List (List Int)} {W X : List (List Nat)}
theorem RowsF.ty {v : Value} {ls : List (List Nat)} (h : RowsF S H wr v ls) {k : Nat} (hk : v.ownBlock = some k) : typeAt wr k = some 24 := by
  obtain ⟨vs, ho, _⟩ := h
  exact own_ty ho hk
theorem AllI.kept (h : AllI K n H bT bM S wr vL vW vX L W X) {P : Nat → Prop} (hs : Sm P wr wr') (pH : P H) (pT : P bT) (pM : P bM) (pL : ∀ k, vL.ownBlock = some k → P k) (pW : ∀ k, vW.ownBlock = some k → P k) (pX : ∀ k, vX.ownBlock = some k → P k) (pS : ∀ k, S k → P k) :
    AllI K n H bT bM S wr' vL vW vX L W X :=
  ⟨h.hg.sm hs pH, h.ht.sm hs pT, h.hm.sm hs pM, own_sm h.hl hs pL, h.hw.kept hs pS pW, h.hx.kept hs pS pX, fun k hk => by rw [ty_block (hs.block k (pS k hk) (ty_lt (h.hS k hk)))]; exact h.hS k hk, h.hne, h.lT, h.lM⟩
theorem AllI.below (h : AllI K n H bT bM S wr vL vW vX L W X) (hb : Below wr.heap.size wr wr') : AllI K n H bT bM S wr' vL vW vX L W X :=
  h.kept (P := fun _ => True) (Sm.of_below hb) trivial trivial trivial (fun _ _ => trivial) (fun _ _ => trivial) (fun _ _ => trivial) (fun _ _ => trivial)
theorem AllI.alloc (h : AllI K n H bT bM S wr vL vW vX L W X) (o : Obj) : AllI K n H bT bM S (wr.alloc o) vL vW vX L W X := h.below ((Below.refl _ _).alloc (Nat.le_refl _) _)
theorem AllI.drew (h : AllI K n H bT bM S wr vL vW vX L W X) : AllI K n H bT bM S wr.drew vL vW vX L W X := h.below (Below.refl _ _).drew
/-- An element is put into the map. -/
theorem AllI.mapped (h : AllI K n H bT bM S wr vL vW vX L W X) (hs : Sm (fun k => k ≠ bM) wr wr') :
    Held wr' H 28 [.int .u8 (K : Nat), .int .i64 (n : Nat)] ∧ Held wr' bT 80 [.int .u8 (K : Nat), .int .i64 (n : Nat), vW, vX, .map (some bM)] ∧ OwnE H wr' vL L ∧ RowsF S H wr' vW W ∧ RowsF S H wr' vX X ∧ (∀ k, S k → typeAt wr' k = some 3) := by
  have tm := h.hm.ty
  have ne : ∀ {k : Nat} {t : TypeId}, typeAt wr k = some t → k ≠ bM := fun hk => ty_ne (by rw [hk, tm]; simp)
  have pS : ∀ k, S k → k ≠ bM := fun k hk => ne (h.hS k hk)
  exact ⟨h.hg.sm hs (ne h.hg.ty), h.ht.sm hs (ne h.ht.ty), own_sm h.hl hs (fun k hk => ne (own_ty h.hl hk)), h.hw.kept hs pS (fun k hk => ne (h.hw.ty hk)), h.hx.kept hs pS (fun k hk => ne (h.hx.ty hk)),
    fun k hk => by rw [ty_block (hs.block k (pS k hk) (ty_lt (h.hS k hk)))]; exact h.hS k hk⟩
/-- An element is put into the map and onto the list. -/
theorem AllI.listed (h : AllI K n H bT bM S wr vL vW vX L W X) {w1 w2 w3 : World} {x : List Int} {vL' : Value} (hs : Sm (fun k => k ≠ bM) wr w1) (hm : MapE w1 bM (L ++ [x])) (hb : Below w1.heap.size w1 w2) (hl : OwnE H w3 vL' (L ++ [x])) (hg : w2.grownBy w3 vL.ownBlock) :
    AllI K n H bT bM S w3 vL' vW vX (L ++ [x]) W X := by
  obtain ⟨a1, a2, a3, a4, a5, a6⟩ := h.mapped hs
  have s12 : Sm (fun _ => True) w1 w2 := Sm.of_below hb
  have b1 := a1.sm s12 trivial
  have b2 := a2.sm s12 trivial
  have b0 := hm.sm s12 trivial
  have b3 : OwnE H w2 vL L := own_sm a3 s12 (fun _ _ => trivial)
  have b4 := a4.kept s12 (fun _ _ => trivial) (fun _ _ => trivial)
  have b5 := a5.kept s12 (fun _ _ => trivial) (fun _ _ => trivial)
  have b6 : ∀ k, S k → typeAt w2 k = some 3 := fun k hk => by rw [ty_block (s12.block k trivial (ty_lt (a6 k hk)))]; exact a6 k hk
  have sg : Sm (fun k => some k ≠ vL.ownBlock) w2 w3 := Sm.of_grown hg fun _ hk => hk
  have ne : ∀ {k : Nat}, typeAt w2 k ≠ some 113 → some k ≠ vL.ownBlock := fun hk e => hk (own_ty b3 e.symm)
  have pS : ∀ k, S k → some k ≠ vL.ownBlock := fun k hk => ne (by rw [b6 k hk]; decide)
  exact ⟨b1.sm sg (ne (by rw [b1.ty]; decide)), b2.sm sg (ne (by rw [b2.ty]; decide)), b0.sm sg (ne (by rw [b0.ty]; simp)), hl, b4.kept sg pS (fun k hk => ne (by rw [b4.ty hk]; decide)), b5.kept sg pS (fun k hk => ne (by rw [b5.ty hk]; decide)),
    fun k hk => by rw [ty_block (sg.block k (pS k hk) (ty_lt (b6 k hk)))]; exact b6 k hk, h.hne, h.lT, h.lM⟩
/-- The table's words are another slice. -/
theorem AllI.worded (h : AllI K n H bT bM S wr vL vW vX L W X) {S' : Nat → Prop} (hSS : ∀ k, S k → S' k) {w2 : World} {vW' : Value} {W' : List (List Nat)} (hw : RowsF S' H w2 vW' W') (hg : wr.grownBy w2 vW.ownBlock) (hS' : ∀ k, S' k → typeAt w2 k = some 3)
    (hloc : vW'.ownBlock = vW.ownBlock ∨ ∃ g, vW'.ownBlock = some g ∧ wr.heap.size ≤ g) : AllI K n H bT bM S' (w2.setCell ⟨bT, 2, none⟩ vW') vL vW' vX L W' X := by
  have sg : Sm (fun k => some k ≠ vW.ownBlock) wr w2 := Sm.of_grown hg fun _ hk => hk
  have ne : ∀ {k : Nat}, typeAt wr k ≠ some 24 → some k ≠ vW.ownBlock := fun hk e => hk (h.hw.ty e.symm)
  have pS : ∀ k, S k → some k ≠ vW.ownBlock := fun k hk => ne (by rw [h.hS k hk]; decide)
  have b1 := h.hg.sm sg (ne (by rw [h.hg.ty]; decide))
  have b2 := h.ht.sm sg (ne (by rw [h.ht.ty]; decide))
  have b0 := h.hm.sm sg (ne (by rw [h.hm.ty]; simp))
  have b3 : OwnE H w2 vL L := own_sm h.hl sg (fun k hk => ne (by rw [own_ty h.hl hk]; decide))
  have b5 := h.hx.kept sg pS (fun k hk e => h.hne k e.symm hk)
  have st : Sm (fun k => k ≠ bT) w2 (w2.setCell ⟨bT, 2, none⟩ vW') := ⟨rfl, rfl, rfl, by simp [World.setCell], fun k hk _ => Below.heap_setCell w2 ⟨bT, 2, none⟩ vW' k hk⟩
  have tT := b2.ty
  have nt : ∀ {k : Nat}, typeAt w2 k ≠ some 80 → k ≠ bT := fun hk => ty_ne (by rw [tT]; exact hk)
  have pT : ∀ k, S' k → k ≠ bT := fun k hk => nt (by rw [hS' k hk]; decide)
  have b5' := b5.mono hSS
  refine ⟨b1.sm st (nt (by rw [b1.ty]; decide)), ?_, b0.sm st (nt (by rw [b0.ty]; simp)), own_sm b3 st (fun k hk => nt (by rw [own_ty b3 hk]; decide)), hw.kept st pT (fun k hk => nt (by rw [hw.ty hk]; decide)), b5'.kept st pT (fun k hk => nt (by rw [b5'.ty hk]; decide)),
    fun k hk => by rw [ty_block (st.block k (pT k hk) (ty_lt (hS' k hk)))]; exact hS' k hk, fun k hk e => ?_, h.lT, h.lM⟩
  · exact b2.put 2 vW'
  · rcases hloc with hl | ⟨g, hl, hge⟩
    · exact h.hne k (by rw [← hl]; exact hk) e
    · rw [hl] at hk
      have := Option.some.inj hk
      have hlt := ty_lt (h.hx.ty e)
      omega
/-- The table's products are another slice. -/
theorem AllI.nexted (h : AllI K n H bT bM S wr vL vW vX L W X) {S' : Nat → Prop} (hSS : ∀ k, S k → S' k) {w2 : World} {vX' : Value} {X' : List (List Nat)} (hx : RowsF S' H w2 vX' X') (hg : wr.grownBy w2 vX.ownBlock) (hS' : ∀ k, S' k → typeAt w2 k = some 3)
    (hloc : vX'.ownBlock = vX.ownBlock ∨ ∃ g, vX'.ownBlock = some g ∧ wr.heap.size ≤ g) : AllI K n H bT bM S' (w2.setCell ⟨bT, 3, none⟩ vX') vL vW vX' L W X' := by
  have sg : Sm (fun k => some k ≠ vX.ownBlock) wr w2 := Sm.of_grown hg fun _ hk => hk
  have ne : ∀ {k : Nat}, typeAt wr k ≠ some 24 → some k ≠ vX.ownBlock := fun hk e => hk (h.hx.ty e.symm)
  have pS : ∀ k, S k → some k ≠ vX.ownBlock := fun k hk => ne (by rw [h.hS k hk]; decide)
  have b1 := h.hg.sm sg (ne (by rw [h.hg.ty]; decide))
  have b2 := h.ht.sm sg (ne (by rw [h.ht.ty]; decide))
  have b0 := h.hm.sm sg (ne (by rw [h.hm.ty]; simp))
  have b3 : OwnE H w2 vL L := own_sm h.hl sg (fun k hk => ne (by rw [own_ty h.hl hk]; decide))
  have b5 := h.hw.kept sg pS (fun k hk e => h.hne k hk e.symm)
  have st : Sm (fun k => k ≠ bT) w2 (w2.setCell ⟨bT, 3, none⟩ vX') := ⟨rfl, rfl, rfl, by simp [World.setCell], fun k hk _ => Below.heap_setCell w2 ⟨bT, 3, none⟩ vX' k hk⟩
  have tT := b2.ty
  have nt : ∀ {k : Nat}, typeAt w2 k ≠ some 80 → k ≠ bT := fun hk => ty_ne (by rw [tT]; exact hk)
  have pT : ∀ k, S' k → k ≠ bT := fun k hk => nt (by rw [hS' k hk]; decide)
  have b5' := b5.mono hSS
  refine ⟨b1.sm st (nt (by rw [b1.ty]; decide)), ?_, b0.sm st (nt (by rw [b0.ty]; simp)), own_sm b3 st (fun k hk => nt (by rw [own_ty b3 hk]; decide)), b5'.kept st pT (fun k hk => nt (by rw [b5'.ty hk]; decide)), hx.kept st pT (fun k hk => nt (by rw [hx.ty hk]; decide)),
    fun k hk => by rw [ty_block (st.block k (pT k hk) (ty_lt (hS' k hk)))]; exact hS' k hk, fun k hk e => ?_, h.lT, h.lM⟩
  · exact b2.put 3 vX'
  · rcases hloc with hl | ⟨g, hl, hge⟩
    · exact h.hne k hk (by rw [← hl]; exact e)
    · rw [hl] at e
      have := Option.some.inj e
      have hlt := ty_lt (h.hw.ty hk)
      omega
/-- The round's own row grows. -/
theorem AllI.rowed (h : AllI K n H bT bM S wr vL vW vX L W X) {r : Option Nat} (hg : wr.grownBy wr' r) (hr : ∀ k, r = some k → typeAt wr k = some 3 ∧ ¬ S k) : AllI K n H bT bM S wr' vL vW vX L W X := by
  have sg : Sm (fun k => some k ≠ r) wr wr' := Sm.of_grown hg fun _ hk => hk
  have ne : ∀ {k : Nat}, typeAt wr k ≠ some 3 → some k ≠ r := fun hk e => hk (hr _ e.symm).1
  exact h.kept sg (ne (by rw [h.hg.ty]; decide)) (ne (by rw [h.ht.ty]; decide)) (ne (by rw [h.hm.ty]; simp)) (fun k hk => ne (by rw [own_ty h.hl hk]; decide)) (fun k hk => ne (by rw [h.hw.ty hk]; decide)) (fun k hk => ne (by rw [h.hx.ty hk]; decide)) (fun k hk e => (hr k e.symm).2 hk)
end

def ExtB (a b : World) : Prop := Below a.heap.size a b
theorem ExtB.refl (a : World) : ExtB a a := Below.refl _ a
theorem ExtB.trans {a b c : World} (h : ExtB a b) (h' : ExtB b c) : ExtB a c := Below.trans h (Below.mono h' (Below.size h))
theorem range_below {n g o : Nat} {cs : List Value} {a b : World} (h : a.rangeAt g o cs) (hb : Below n a b) (hg : g < n) : b.rangeAt g o cs := fun j v hv => (hb.cell (p := ⟨g, o + j, none⟩) hg).trans (h j v hv)
theorem OwnE.slice {B : Nat} {w : World} {v : Value} {L : List (List Int)} (h : OwnE B w v L) : ∃ a c, v = .slice a L.length c := by
  rcases h.2 with ⟨rfl, hn⟩ | ⟨g, cap, cur, rfl, _⟩
  · exact ⟨none, 0, by rw [hn]⟩
  · exact ⟨_, _, rfl⟩
theorem zero_there {w : World} {g : Nat} {l : List Int} (hl : l.length = 24) (h : Held w g 113 (cs8 zeroE)) : w.there g 0 (cs8 l).toArray.size := by
  have := h.there
  rw [zero_len] at this
  rw [cs8_size hl]; exact this
theorem validB_lt {K n : Nat} (h : validB K n = true) : K < 256 := by
  unfold validB at h
  simp only [Bool.or_eq_true, Bool.and_eq_true, beq_iff_eq, decide_eq_true_eq] at h
  omega
theorem mirrors_nat (K n : Nat) (hv : validB K n = true) (w : World) :
    Calls Try.prog 66 #[.agg #[.int .u8 (K : Nat), .int .i64 (n : Nat)]] w fun e w' => e = .returned (.int .i64 ((mirs K n : Nat) : Int)) ∧ Below w.heap.size w w' := by
  refine (mirrors_any K (n : Int) w (validB_lt hv)).mono fun e w' ⟨he, hb⟩ => ⟨?_, hb⟩
  rw [he]
  unfold msI
  rw [validI_cast, hv, if_pos rfl]
  simp
/-- The table at the start. -/
theorem all_start {K n H bT bM bW b17 : Nat} {wx w2 : World} (hG : Held wx H 28 [.int .u8 (K : Nat), .int .i64 (n : Nat)]) (hT : Held wx bT 80 [.int .u8 (K : Nat), .int .i64 (n : Nat), .slice (some ⟨bW, 0, none⟩) 1 1, .slice none 0 0, .map (some bM)])
    (hM : MapE wx bM [oneE]) (hW : Held wx bW 24 [.slice (some ⟨b17, 0, none⟩) 0 0]) (lT : H ≤ bT) (lM : H ≤ bM) (lW : H ≤ bW) (hb : Below wx.heap.size wx w2) (hH : H ≤ wx.heap.size) :
    AllI K n H bT bM (fun _ => False) (w2.alloc (.cells (cs8 oneE).toArray 113)) (.slice (some ⟨w2.heap.size, 0, none⟩) 1 1) (.slice (some ⟨bW, 0, none⟩) 1 1) (.slice none 0 0) [oneE] [[]] [] := by
  have h1 := (hG.below hb hG.lt).alloc (.cells (cs8 oneE).toArray 113)
  have h2 := (hT.below hb hT.lt).alloc (.cells (cs8 oneE).toArray 113)
  have h3 := (hM.below hb hM.lt).alloc (.cells (cs8 oneE).toArray 113)
  have h4 := (hW.below hb hW.lt).alloc (.cells (cs8 oneE).toArray 113)
  have hsz := hb.size
  have h5 := heap_alloc_new w2 (.cells (cs8 oneE).toArray 113)
  refine ⟨h1, h2, h3, ⟨rfl, .inr ⟨w2.heap.size, 1, (cs8 oneE).toArray, rfl, by omega, h5, Nat.le_refl _, by decide, by decide, by rw [List.take_of_length_le (by simp [cs8_length, oneE])]; simp⟩⟩, ⟨[.slice (some ⟨b17, 0, none⟩) 0 0], ⟨rfl, .inr ⟨bW, 1, _, rfl, lW, h4, Nat.le_refl _, by decide, rfl, rfl⟩⟩, fun i u l hu hl => ?_⟩, RowsF.nil _ _ _, fun _ h => h.elim, fun _ _ h => (by cases h), lT, lM⟩
  match i, hu, hl with
  | 0, hu, hl =>
    simp at hu hl
    subst hu; subst hl
    exact ⟨_, _, rfl, by decide, by decide, fun h => absurd rfl h⟩

theorem mirs_le {K n : Nat} (h : validB K n = true) : mirs K n ≤ 4 := by
  unfold validB at h
  simp only [Bool.or_eq_true, Bool.and_eq_true, beq_iff_eq, decide_eq_true_eq] at h
  unfold mirs
  split <;> omega
theorem bfS_eq (K n k s : Nat) (L : List (List Int)) (W : List (List Nat)) (row : List Nat) (E : List Int) (hE : thenE (L.getD k []) (mirE K n s) = E) :
    bfS K n k s (L, W, row) = if E ∈ L then (L, W, row ++ [L.idxOf E]) else (L ++ [E], W ++ [W.getD k [] ++ [s]], row ++ [L.length]) := by
  unfold bfS
  simp only
  rw [hE]
  by_cases h : E ∈ L
  · rw [if_pos h, if_pos (List.idxOf_lt_length_iff.2 h)]
  · rw [if_neg h, if_neg (fun hl => h (List.idxOf_lt_length_iff.1 hl)), List.idxOf_eq_length h]

def ExtEq (a b : World) : Prop := a = b
theorem ExtEq.refl (a : World) : ExtEq a a := rfl
theorem ExtEq.trans {a b c : World} (h : ExtEq a b) (h' : ExtEq b c) : ExtEq a c := Eq.trans h h'

/-- The round's own row has grown. -/
theorem row_end {K n H bT bM : Nat} {S : Nat → Prop} {wz w4 : World} {vL vW vX row v' : Value} {L : List (List Int)} {W X : List (List Nat)} {xs : List Int} (hA : AllI K n H bT bM S wz vL vW vX L W X) (hrow : OwnI 3 H wz row xs) (hn : ∀ j, row.ownBlock = some j → ¬ S j)
    (hg : wz.grownBy w4 row.ownBlock) (hloc : v'.ownBlock = row.ownBlock ∨ v'.ownBlock = some wz.heap.size) (hH : H ≤ wz.heap.size) :
    AllI K n H bT bM S w4 vL vW vX L W X ∧ (∀ j, v'.ownBlock = some j → ¬ S j) ∧ Below H wz w4 := by
  refine ⟨hA.rowed hg fun k hk => ⟨own_ty hrow hk, hn k hk⟩, fun j hj hS => ?_, (Below.refl H wz).grown hg hH (fun k hk => (hrow.lt k hk).1)⟩
  rcases hloc with h | h
  · exact hn j (by rw [← h]; exact hj) hS
  · rw [h] at hj
    have := ty_lt (hA.hS j hS)
    have := Option.some.inj hj
    omega
theorem Fz.slice {S : Nat → Prop} {w : World} {v : Value} {xs : List Int} (h : Fz S w v xs) : ∃ a c, v = .slice a xs.length c ∧ xs.length ≤ c := by
  obtain ⟨a, c, rfl, _, h2, _⟩ := h; exact ⟨a, c, rfl, h2⟩
theorem grown_of_sm {w w' : World} {row : Option Nat} (h : Sm (fun k => some k ≠ row) w w') : w.grownBy w' row := ⟨h.os, h.tape, h.output, h.size, fun k hlt hk => h.block k hk hlt⟩

theorem own_apart {w w' : World} {B B2 : Nat} {e e2 : TypeId} {z z2 n n2 : Nat} {v v2 : Value} {xs xs2 : List Value} (h : w.ownsRow B e z v n xs) (h2 : w.ownsRow B2 e2 z2 v2 n2 xs2) (hne : e ≠ e2) (hg : w.grownBy w' v2.ownBlock) : w'.ownsRow B e z v n xs :=
  own_sm h (Sm.of_grown (S := fun k => some k ≠ v2.ownBlock) hg fun _ hk => hk) fun _ hk e' => by
    have h1 := own_ty h hk
    rw [own_ty h2 e'.symm] at h1
    exact hne (Option.some.inj h1).symm

/-- Up to an append onto the row in block g nothing that lay is touched; then that row alone. -/
def Inv5 (g : Nat) (w0 : World) (f : Bool) (w : World) : Prop := Sm (fun k => k ≠ g) w0 w ∧ (f = false → Below w0.heap.size w0 w)
theorem Inv5.start (g : Nat) (w0 : World) : Inv5 g w0 false w0 := ⟨Sm.refl _ _, fun _ => Below.refl _ _⟩
theorem Inv5.grow {g : Nat} {w0 w w' : World} (h : Inv5 g w0 false w) (hb : Below w.heap.size w w') : Inv5 g w0 false w' :=
  ⟨h.1.trans (Sm.of_below hb), fun _ => (h.2 rfl).trans (hb.mono h.1.size)⟩
theorem Inv5.turn {g : Nat} {w0 w w' : World} (h : Inv5 g w0 false w) (hs : Sm (fun k => k ≠ g) w w') : Inv5 g w0 true w' := ⟨h.1.trans hs, fun e => by cases e⟩

/-- The same where there may be no row yet. -/
def Inv6 (r : Option Nat) (w0 : World) (f : Bool) (w : World) : Prop := Sm (fun k => some k ≠ r) w0 w ∧ (f = false → Below w0.heap.size w0 w)
theorem Inv6.start (r : Option Nat) (w0 : World) : Inv6 r w0 false w0 := ⟨Sm.refl _ _, fun _ => Below.refl _ _⟩
theorem Inv6.grow {r : Option Nat} {w0 w w' : World} (h : Inv6 r w0 false w) (hb : Below w.heap.size w w') : Inv6 r w0 false w' :=
  ⟨h.1.trans (Sm.of_below hb), fun _ => (h.2 rfl).trans (hb.mono h.1.size)⟩
theorem Inv6.turn {r : Option Nat} {w0 w w' : World} (h : Inv6 r w0 false w) (hs : Sm (fun k => some k ≠ r) w w') : Inv6 r w0 true w' := ⟨h.1.trans hs, fun e => by cases e⟩
theorem Sm.belowR {n : Nat} {r : Option Nat} {a b c : World} (hs : Sm (fun k => some k ≠ r) b c) (h : Below n a b) (hg : ∀ k, r = some k → n ≤ k) (hn : n ≤ b.heap.size) : Below n a c :=
  h.trans ⟨hs.os, hs.tape, hs.output, hs.size, fun k hk => hs.block k (fun e => by have := hg k e.symm; omega) (by omega)⟩

/-- The table in block bT. -/
def TabIs (K n : Nat) (W X : List (List Nat)) (w : World) (bT : Nat) : Prop :=
  ∃ vW vX vM : Value, Held w bT 80 [.int .u8 (K : Nat), .int .i64 (n : Nat), vW, vX, vM] ∧ RowsF (fun _ => True) 0 w vW W ∧ RowsF (fun _ => True) 0 w vX X
theorem RowsF.base {S : Nat → Prop} {B B' : Nat} {w : World} {v : Value} {ls : List (List Nat)} (h : RowsF S B w v ls) (hB : B' ≤ B) : RowsF S B' w v ls := by
  obtain ⟨vs, ⟨h1, h2⟩, hr⟩ := h
  refine ⟨vs, ⟨h1, ?_⟩, hr⟩
  rcases h2 with h2 | ⟨g, cap, cur, hv, hg, r⟩
  · exact .inl h2
  · exact .inr ⟨g, cap, cur, hv, by omega, r⟩
theorem AllI.tab {K n H bT bM : Nat} {S : Nat → Prop} {wr : World} {vL vW vX : Value} {L : List (List Int)} {W X : List (List Nat)} (h : AllI K n H bT bM S wr vL vW vX L W X) : TabIs K n W X wr bT := by
  have h1 := (h.hw.mono (S' := fun _ => True) fun _ _ => trivial).base (Nat.zero_le _)
  have h2 := (h.hx.mono (S' := fun _ => True) fun _ _ => trivial).base (Nat.zero_le _)
  exact ⟨vW, vX, _, h.ht, h1, h2⟩
theorem TabIs.below {K n bT : Nat} {W X : List (List Nat)} {w w' : World} (h : TabIs K n W X w bT) (hb : Below w.heap.size w w') : TabIs K n W X w' bT := by
  obtain ⟨vW, vX, vM, h1, h2, h3⟩ := h
  exact ⟨vW, vX, vM, h1.below hb h1.lt, h2.kept (S' := fun _ => True) (Sm.of_below hb) (fun _ _ => trivial) (fun _ _ => trivial), h3.kept (S' := fun _ => True) (Sm.of_below hb) (fun _ _ => trivial) (fun _ _ => trivial)⟩
end Go.Proofs.Ytmlhecfhhhebnaa
