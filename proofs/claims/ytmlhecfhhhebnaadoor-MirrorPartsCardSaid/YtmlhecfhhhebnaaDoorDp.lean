/- MirrorParts: the plain law. -/
import Derived.Test.YtmlhecfhhhebnaaDoorDt
namespace Go.Proofs.YtmlhecfhhhebnaaDoor

/-- An element with letters laid before it. -/
def lfold (L : List (List Nat)) : List Nat → Nat → Nat
  | [], i => i
  | s :: ws, i => gN (L.getD s []) (lfold L ws i)
theorem walk_fold {m N : Nat} {W X L : List (List Nat)} (hk : Tk m N W X) (h1 : ck1 m W X L = true) (ws : List Nat) (hw : ∀ x ∈ ws, x < m) : ∀ (us : List Nat), (∀ x ∈ us, x < m) → walkX X (walkX X 0 us) ws = lfold L us (walkX X 0 ws)
  | us, ha => by
    have key : ∀ (us : List Nat), (∀ x ∈ us, x < m) → walkX X 0 (us ++ ws) = lfold L us (walkX X 0 ws) := by
      intro us
      induction us with
      | nil => intro _; rfl
      | cons s us ih =>
        intro ha
        have e : walkX X 0 (s :: us ++ ws) = gN (L.getD s []) (walkX X 0 (us ++ ws)) := by
          rw [List.cons_append]
          exact walk_left hk h1 (ha s List.mem_cons_self) (us ++ ws) (fun x hx => (List.mem_append.1 hx).elim (fun h => ha x (List.mem_cons_of_mem _ h)) (fun h => hw x h))
        rw [e, ih (fun x hx => ha x (List.mem_cons_of_mem _ hx))]
        rfl
    rw [← key us ha]
    unfold walkX
    rw [List.foldl_append]
/-- What the law asks of an element and a set of mirrors. -/
def partB (m : Nat) (W X L : List (List Nat)) (I : List Nat) (M i : Nat) : Bool :=
  let c := cosX W X m M 12 i
  let r := lfold L (W.getD (gN I c) []) i
  decide (c < W.length) && decide (r < W.length) && ((W.getD r []).all fun s => M.testBit s) && (lenX W c + lenX W r == lenX W i) && (lfold L (W.getD c []) r == i) && (cosX W X m M 12 c == c) && (fallsTo W X c m &&& M == 0)
def ckParts (m : Nat) (W X L : List (List Nat)) (I : List Nat) : Bool := (List.range W.length).all fun i => (List.range (2 ^ m)).all fun M => partB m W X L I M i
theorem ckParts_all : (allGroups.all fun g => ckParts (mirs g.1 g.2) (litW g.1 g.2) (litX g.1 g.2) (oLT g.1 g.2) (oIT g.1 g.2)) = true := by decide +kernel
end Go.Proofs.YtmlhecfhhhebnaaDoor
