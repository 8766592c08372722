/- The state of the reference's listing. -/
import Derived.Test.YtmlhecfhhhebnaaMv
import Derived.Test.YtmlhecfhhhebnaaAlp
namespace Go.Proofs.Ytmlhecfhhhebnaa
open Go.RowKit

structure ElI (K n H bR bT : Nat) (S : Nat → Prop) (wr : World) (vW vP vX : Value) (W P X : List (List Nat)) : Prop where
  hg : Held wr H 23 [.int .u8 (K : Nat), .int .i64 (n : Nat)]
  hr : ∃ l, Held wr bR 36 l ∧ l.length = 3
  ht : Held wr bT 36 [vW, vP, vX]
  hw : RowsF S H wr vW W
  hp : RowsF S H wr vP P
  hx : RowsF S H wr vX X
  hS : ∀ k, S k → typeAt wr k = some 3
  nWP : ∀ k, vW.ownBlock = some k → vP.ownBlock ≠ some k
  nWX : ∀ k, vW.ownBlock = some k → vX.ownBlock ≠ some k
  nPX : ∀ k, vP.ownBlock = some k → vX.ownBlock ≠ some k
  lR : H ≤ bR
  lT : H ≤ bT
  nRT : bR ≠ bT
section
variable {K n H bR bT : Nat} {S : Nat → Prop} {wr wr' : World} {vW vP vX : Value} {W P X : List (List Nat)}
theorem ElI.kept (h : ElI K n H bR bT S wr vW vP vX W P X) {Q : Nat → Prop} (hs : Sm Q wr wr') (pH : Q H) (pR : Q bR) (pT : Q bT) (pW : ∀ k, vW.ownBlock = some k → Q k) (pP : ∀ k, vP.ownBlock = some k → Q k) (pX : ∀ k, vX.ownBlock = some k → Q k) (pS : ∀ k, S k → Q k) :
    ElI K n H bR bT S wr' vW vP vX W P X :=
  ⟨h.hg.sm hs pH, by obtain ⟨l, hl, h3⟩ := h.hr; exact ⟨l, hl.sm hs pR, h3⟩, h.ht.sm hs pT, h.hw.kept hs pS pW, h.hp.kept hs pS pP, h.hx.kept hs pS pX, fun k hk => by rw [ty_block (hs.block k (pS k hk) (ty_lt (h.hS k hk)))]; exact h.hS k hk, h.nWP, h.nWX, h.nPX, h.lR, h.lT, h.nRT⟩
theorem ElI.below (h : ElI K n H bR bT S wr vW vP vX W P X) (hb : Below wr.heap.size wr wr') : ElI K n H bR bT S wr' vW vP vX W P X :=
  h.kept (Q := fun _ => True) (Sm.of_below hb) trivial trivial trivial (fun _ _ => trivial) (fun _ _ => trivial) (fun _ _ => trivial) (fun _ _ => trivial)
theorem ElI.alloc (h : ElI K n H bR bT S wr vW vP vX W P X) (o : Obj) : ElI K n H bR bT S (wr.alloc o) vW vP vX W P X := h.below ((Below.refl _ _).alloc (Nat.le_refl _) _)
theorem ElI.drew (h : ElI K n H bR bT S wr vW vP vX W P X) : ElI K n H bR bT S wr.drew vW vP vX W P X := h.below (Below.refl _ _).drew
theorem ElI.mono (h : ElI K n H bR bT S wr vW vP vX W P X) {S' : Nat → Prop} (hs : ∀ k, S k → S' k) (ht : ∀ k, S' k → typeAt wr k = some 3) : ElI K n H bR bT S' wr vW vP vX W P X :=
  ⟨h.hg, h.hr, h.ht, h.hw.mono hs, h.hp.mono hs, h.hx.mono hs, ht, h.nWP, h.nWX, h.nPX, h.lR, h.lT, h.nRT⟩
theorem ElI.worded (h : ElI K n H bR bT S wr vW vP vX W P X) {S' : Nat → Prop} (hSS : ∀ k, S k → S' k) {w2 : World} {vW' : Value} {W' : List (List Nat)} (hw2 : RowsF S' H w2 vW' W') (hg : wr.grownBy w2 vW.ownBlock) (hS' : ∀ k, S' k → typeAt w2 k = some 3)
    (hloc : vW'.ownBlock = vW.ownBlock ∨ ∃ g, vW'.ownBlock = some g ∧ wr.heap.size ≤ g) : ElI K n H bR bT S' (w2.setCell ⟨bT, 0, none⟩ vW') vW' vP vX W' P X := by
  have sg : Sm (fun k => some k ≠ vW.ownBlock) wr w2 := Sm.of_grown hg fun _ hk => hk
  have ne : ∀ {k : Nat}, typeAt wr k ≠ some 24 → some k ≠ vW.ownBlock := fun hk e => hk (h.hw.ty e.symm)
  have pS : ∀ k, S k → some k ≠ vW.ownBlock := fun k hk => ne (by rw [h.hS k hk]; decide)
  obtain ⟨l, hl, h3⟩ := h.hr
  have b1 := h.hg.sm sg (ne (by rw [h.hg.ty]; decide))
  have b2 := h.ht.sm sg (ne (by rw [h.ht.ty]; decide))
  have b0 := hl.sm sg (ne (by rw [hl.ty]; decide))
  have bP := (h.hp.kept sg pS (fun k hk e => h.nWP k e.symm hk)).mono hSS
  have bX := (h.hx.kept sg pS (fun k hk e => h.nWX k e.symm hk)).mono hSS
  have st : Sm (fun k => k ≠ bT) w2 (w2.setCell ⟨bT, 0, none⟩ vW') := ⟨rfl, rfl, rfl, by simp [World.setCell], fun k hk _ => Below.heap_setCell w2 ⟨bT, 0, none⟩ vW' k hk⟩
  have tT := b2.ty
  have nt : ∀ {k : Nat}, typeAt w2 k ≠ some 36 → k ≠ bT := fun hk => ty_ne (by rw [tT]; exact hk)
  have pT : ∀ k, S' k → k ≠ bT := fun k hk => nt (by rw [hS' k hk]; decide)
  have far : ∀ (u : Value) (us : List (List Nat)), RowsF S H wr u us → (∀ k, vW.ownBlock = some k → u.ownBlock ≠ some k) → ∀ k, vW'.ownBlock = some k → u.ownBlock ≠ some k := fun u us hu hd k hk e => by
    rcases hloc with hl | ⟨g, hl, hge⟩
    · exact hd k (by rw [← hl]; exact hk) e
    · rw [hl] at hk
      have := Option.some.inj hk
      have hlt := ty_lt (hu.ty e)
      omega
  exact ⟨b1.sm st (nt (by rw [b1.ty]; decide)), ⟨l, b0.sm st h.nRT, h3⟩, b2.put 0 vW', hw2.kept st pT (fun k hk => nt (by rw [hw2.ty hk]; decide)), bP.kept st pT (fun k hk => nt (by rw [bP.ty hk]; decide)), bX.kept st pT (fun k hk => nt (by rw [bX.ty hk]; decide)), fun k hk => by rw [ty_block (st.block k (pT k hk) (ty_lt (hS' k hk)))]; exact hS' k hk, far _ _ h.hp h.nWP, far _ _ h.hx h.nWX, h.nPX, h.lR, h.lT, h.nRT⟩
theorem ElI.pointed (h : ElI K n H bR bT S wr vW vP vX W P X) {S' : Nat → Prop} (hSS : ∀ k, S k → S' k) {w2 : World} {vP' : Value} {P' : List (List Nat)} (hw2 : RowsF S' H w2 vP' P') (hg : wr.grownBy w2 vP.ownBlock) (hS' : ∀ k, S' k → typeAt w2 k = some 3)
    (hloc : vP'.ownBlock = vP.ownBlock ∨ ∃ g, vP'.ownBlock = some g ∧ wr.heap.size ≤ g) : ElI K n H bR bT S' (w2.setCell ⟨bT, 1, none⟩ vP') vW vP' vX W P' X := by
  have sg : Sm (fun k => some k ≠ vP.ownBlock) wr w2 := Sm.of_grown hg fun _ hk => hk
  have ne : ∀ {k : Nat}, typeAt wr k ≠ some 24 → some k ≠ vP.ownBlock := fun hk e => hk (h.hp.ty e.symm)
  have pS : ∀ k, S k → some k ≠ vP.ownBlock := fun k hk => ne (by rw [h.hS k hk]; decide)
  obtain ⟨l, hl, h3⟩ := h.hr
  have b1 := h.hg.sm sg (ne (by rw [h.hg.ty]; decide))
  have b2 := h.ht.sm sg (ne (by rw [h.ht.ty]; decide))
  have b0 := hl.sm sg (ne (by rw [hl.ty]; decide))
  have bW := (h.hw.kept sg pS (fun k hk e => h.nWP k hk e.symm)).mono hSS
  have bX := (h.hx.kept sg pS (fun k hk e => h.nPX k e.symm hk)).mono hSS
  have st : Sm (fun k => k ≠ bT) w2 (w2.setCell ⟨bT, 1, none⟩ vP') := ⟨rfl, rfl, rfl, by simp [World.setCell], fun k hk _ => Below.heap_setCell w2 ⟨bT, 1, none⟩ vP' k hk⟩
  have tT := b2.ty
  have nt : ∀ {k : Nat}, typeAt w2 k ≠ some 36 → k ≠ bT := fun hk => ty_ne (by rw [tT]; exact hk)
  have pT : ∀ k, S' k → k ≠ bT := fun k hk => nt (by rw [hS' k hk]; decide)
  have far : ∀ (u : Value) (us : List (List Nat)), RowsF S H wr u us → (∀ k, vP.ownBlock = some k → u.ownBlock ≠ some k) → ∀ k, vP'.ownBlock = some k → u.ownBlock ≠ some k := fun u us hu hd k hk e => by
    rcases hloc with hl | ⟨g, hl, hge⟩
    · exact hd k (by rw [← hl]; exact hk) e
    · rw [hl] at hk
      have := Option.some.inj hk
      have hlt := ty_lt (hu.ty e)
      omega
  exact ⟨b1.sm st (nt (by rw [b1.ty]; decide)), ⟨l, b0.sm st h.nRT, h3⟩, b2.put 1 vP', bW.kept st pT (fun k hk => nt (by rw [bW.ty hk]; decide)), hw2.kept st pT (fun k hk => nt (by rw [hw2.ty hk]; decide)), bX.kept st pT (fun k hk => nt (by rw [bX.ty hk]; decide)), fun k hk => by rw [ty_block (st.block k (pT k hk) (ty_lt (hS' k hk)))]; exact hS' k hk, fun k hk e => far _ _ h.hw (fun k hk e => h.nWP k e hk) k e hk, h.nWX, far _ _ h.hx h.nPX, h.lR, h.lT, h.nRT⟩
theorem ElI.rowed (h : ElI K n H bR bT S wr vW vP vX W P X) {S' : Nat → Prop} (hSS : ∀ k, S k → S' k) {w2 : World} {vX' : Value} {X' : List (List Nat)} (hw2 : RowsF S' H w2 vX' X') (hg : wr.grownBy w2 vX.ownBlock) (hS' : ∀ k, S' k → typeAt w2 k = some 3)
    (hloc : vX'.ownBlock = vX.ownBlock ∨ ∃ g, vX'.ownBlock = some g ∧ wr.heap.size ≤ g) : ElI K n H bR bT S' (w2.setCell ⟨bT, 2, none⟩ vX') vW vP vX' W P X' := by
  have sg : Sm (fun k => some k ≠ vX.ownBlock) wr w2 := Sm.of_grown hg fun _ hk => hk
  have ne : ∀ {k : Nat}, typeAt wr k ≠ some 24 → some k ≠ vX.ownBlock := fun hk e => hk (h.hx.ty e.symm)
  have pS : ∀ k, S k → some k ≠ vX.ownBlock := fun k hk => ne (by rw [h.hS k hk]; decide)
  obtain ⟨l, hl, h3⟩ := h.hr
  have b1 := h.hg.sm sg (ne (by rw [h.hg.ty]; decide))
  have b2 := h.ht.sm sg (ne (by rw [h.ht.ty]; decide))
  have b0 := hl.sm sg (ne (by rw [hl.ty]; decide))
  have bW := (h.hw.kept sg pS (fun k hk e => h.nWX k hk e.symm)).mono hSS
  have bP := (h.hp.kept sg pS (fun k hk e => h.nPX k hk e.symm)).mono hSS
  have st : Sm (fun k => k ≠ bT) w2 (w2.setCell ⟨bT, 2, none⟩ vX') := ⟨rfl, rfl, rfl, by simp [World.setCell], fun k hk _ => Below.heap_setCell w2 ⟨bT, 2, none⟩ vX' k hk⟩
  have tT := b2.ty
  have nt : ∀ {k : Nat}, typeAt w2 k ≠ some 36 → k ≠ bT := fun hk => ty_ne (by rw [tT]; exact hk)
  have pT : ∀ k, S' k → k ≠ bT := fun k hk => nt (by rw [hS' k hk]; decide)
  have far : ∀ (u : Value) (us : List (List Nat)), RowsF S H wr u us → (∀ k, vX.ownBlock = some k → u.ownBlock ≠ some k) → ∀ k, vX'.ownBlock = some k → u.ownBlock ≠ some k := fun u us hu hd k hk e => by
    rcases hloc with hl | ⟨g, hl, hge⟩
    · exact hd k (by rw [← hl]; exact hk) e
    · rw [hl] at hk
      have := Option.some.inj hk
      have hlt := ty_lt (hu.ty e)
      omega
  exact ⟨b1.sm st (nt (by rw [b1.ty]; decide)), ⟨l, b0.sm st h.nRT, h3⟩, b2.put 2 vX', bW.kept st pT (fun k hk => nt (by rw [bW.ty hk]; decide)), bP.kept st pT (fun k hk => nt (by rw [bP.ty hk]; decide)), hw2.kept st pT (fun k hk => nt (by rw [hw2.ty hk]; decide)), fun k hk => by rw [ty_block (st.block k (pT k hk) (ty_lt (hS' k hk)))]; exact hS' k hk, h.nWP, fun k hk e => far _ _ h.hw (fun k hk e => h.nWX k e hk) k e hk, fun k hk e => far _ _ h.hp (fun k hk e => h.nPX k e hk) k e hk, h.lR, h.lT, h.nRT⟩
end
end Go.Proofs.Ytmlhecfhhhebnaa
