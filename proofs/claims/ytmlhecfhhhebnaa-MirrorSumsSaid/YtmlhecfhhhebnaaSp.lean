/- Groups of mirrors: the elements, listed as the program and as the reference list them. No Go in sight. -/
namespace Go.Proofs.Ytmlhecfhhhebnaa

/-- How many mirrors a group has. K: the kind's byte. -/
def mirs (K n : Nat) : Nat := if K = 73 then 2 else n
def validB (K n : Nat) : Bool := (K == 65 && decide (1 ≤ n) && decide (n ≤ 4)) || (K == 66 && decide (2 ≤ n) && decide (n ≤ 3)) || (K == 73 && decide (2 ≤ n) && decide (n ≤ 12))

/-! ### the program's elements: what they do to signed numbers, or to the corners of a polygon -/
def oneE : List Int := (List.range 24).map fun i => ((i + 1 : Nat) : Int)
def thenE (e f : List Int) : List Int := f.map fun x => if x < 0 then - e.getD (-x - 1).toNat 0 else e.getD (x - 1).toNat 0
def mirE (K n s : Nat) : List Int :=
  if K = 73 then (List.range 24).map fun i => if i < 2 * n then (((2 * s + 2 * n - i) % (2 * n) + 1 : Nat) : Int) else ((i + 1 : Nat) : Int)
  else if K = 66 ∧ s + 1 = n then oneE.set s (-((s + 1 : Nat) : Int))
  else (oneE.set s ((s + 2 : Nat) : Int)).set (s + 1) ((s + 1 : Nat) : Int)

structure Bf where
  L : List (List Int)
  W : List (List Nat)
  X : List (List Nat)
/-- One letter behind element k. -/
def bfS (K n k s : Nat) (st : List (List Int) × List (List Nat) × List Nat) : List (List Int) × List (List Nat) × List Nat :=
  let e := thenE (st.1.getD k []) (mirE K n s)
  let i := st.1.idxOf e
  if i < st.1.length then (st.1, st.2.1, st.2.2 ++ [i]) else (st.1 ++ [e], st.2.1 ++ [st.2.1.getD k [] ++ [s]], st.2.2 ++ [i])
def bfR (K n k : Nat) (L : List (List Int)) (W : List (List Nat)) : Nat → List (List Int) × List (List Nat) × List Nat
  | 0 => (L, W, [])
  | s + 1 => bfS K n k s (bfR K n k L W s)
def bfK (K n : Nat) (b : Bf) : Bf :=
  if b.X.length < b.L.length then
    let r := bfR K n b.X.length b.L b.W (mirs K n)
    ⟨r.1, r.2.1, b.X ++ [r.2.2]⟩
  else b
def bfN (K n : Nat) : Nat → Bf
  | 0 => ⟨[oneE], [[]], []⟩
  | k + 1 => bfK K n (bfN K n k)

/-! ### the reference's points -/
def swapN (l : List Nat) (i j : Nat) : List Nat := (l.set i (l.getD j 0)).set j (l.getD i 0)
def swapsI (n s : Nat) : Nat → List Nat → List Nat
  | 0, l => l
  | c + 1, l => swapN (swapsI n s c l) (s + 2 * c) ((s + 2 * c + 1) % n)
def movesN (K n s : Nat) : List Nat :=
  let m := if K = 65 then n + 1 else 2 * n
  if K = 73 then swapsI m s n (List.range m)
  else if K = 66 ∧ s + 1 = n then swapN (List.range m) s (s + n)
  else if K = 66 then swapN (swapN (List.range m) s (s + 1)) (s + n) (s + 1 + n)
  else swapN (List.range m) s (s + 1)
def afterN (a s : List Nat) : List Nat := s.map fun x => a.getD x 0
structure Rf where
  W : List (List Nat)
  P : List (List Nat)
def rfS (K n i s : Nat) (t : Rf) : Rf :=
  let p := afterN (t.P.getD i []) (movesN K n s)
  if p ∈ t.P then t else ⟨t.W ++ [t.W.getD i [] ++ [s]], t.P ++ [p]⟩
def rfR (K n i : Nat) (t : Rf) : Nat → Rf
  | 0 => t
  | s + 1 => rfS K n i s (rfR K n i t s)
def rfK (K n i : Nat) (t : Rf) : Rf := if i < t.W.length then rfR K n i t (mirs K n) else t
def rfN (K n : Nat) : Nat → Rf
  | 0 => ⟨[[]], [afterN (movesN K n 0) (movesN K n 0)]⟩
  | i + 1 => rfK K n i (rfN K n i)
def rowN (K n : Nat) (t : Rf) (i : Nat) : List Nat := (List.range (mirs K n)).map fun s => t.P.idxOf (afterN (t.P.getD i []) (movesN K n s))
end Go.Proofs.Ytmlhecfhhhebnaa
