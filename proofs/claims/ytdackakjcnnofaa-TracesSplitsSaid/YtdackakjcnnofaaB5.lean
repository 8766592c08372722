/- Na Nf Ng of the seat's texts, in this order. -/
import Derived.Test.YtdackakjcnnofaaB1
import Derived.Test.YtdackakjcnnofaaKl

/- The reference's table of class data is the program's: the 37 class data are checked. -/
namespace Go.Proofs.Ytdackakjcnnofaa

def refOk (x : (Nat × Nat × List Nat × List Nat × List (List (List Int))) × List (List Int)) : Bool :=
  (tabR x.1.1 x.1.2.1 x.1.2.2.1 x.1.2.2.2.1 x.1.2.2.2.2).map toI == x.2
theorem ref_0 : ((dataT.drop 0).take 14).all refOk = true := by kernel_rfl
theorem ref_1 : ((dataT.drop 14).take 8).all refOk = true := by kernel_rfl
theorem ref_2 : ((dataT.drop 22).take 6).all refOk = true := by kernel_rfl
theorem ref_3 : ((dataT.drop 28).take 3).all refOk = true := by kernel_rfl
theorem ref_4 : ((dataT.drop 31).take 2).all refOk = true := by kernel_rfl
theorem ref_5 : ((dataT.drop 33).take 1).all refOk = true := by kernel_rfl
theorem ref_6 : ((dataT.drop 34).take 1).all refOk = true := by kernel_rfl
theorem ref_7 : ((dataT.drop 35).take 1).all refOk = true := by kernel_rfl
theorem ref_8 : ((dataT.drop 36).take 1).all refOk = true := by kernel_rfl
theorem ref_all : ∀ x ∈ dataT, refOk x = true := by
  have hcut : ∀ (n : Nat) (l : List ((Nat × Nat × List Nat × List Nat × List (List (List Int))) × List (List Int))) (k : Nat), ((l.drop k).take n).all refOk = true → (l.drop (k + n)).all refOk = true → (l.drop k).all refOk = true := fun n l k h1 h2 => by
    rw [← List.take_append_drop n (l.drop k), List.all_append, h1, List.drop_drop, Bool.true_and]
    exact h2
  have hend : (dataT.drop 37).all refOk = true := by kernel_rfl
  exact List.all_eq_true.1 (hcut 14 dataT 0 ref_0 (hcut 8 dataT 14 ref_1 (hcut 6 dataT 22 ref_2 (hcut 3 dataT 28 ref_3 (hcut 2 dataT 31 ref_4 (hcut 1 dataT 33 ref_5 (hcut 1 dataT 34 ref_6 (hcut 1 dataT 35 ref_7 (hcut 1 dataT 36 ref_8 hend)))))))))
/-- The reference's table of a group. -/
def tabRE (E : List (List Nat)) (d : Nat) : List (List Nat) := tabR (primeN E d) E.length (szE E) (backC E) (ksE E)
theorem Grp.refTab {d : Nat} {E : List (List Nat)} (h : Grp d E) (h1 : 0 < d) (hd : d ≤ 5) (h24 : E.length ≤ 24) : (tabRE E d).map toI = tabG E d := by
  obtain ⟨x, hx, -, ht, e1, e2, e3, e4, e5⟩ := h.tab h1 hd h24
  have := ref_all x hx
  unfold refOk at this
  rw [beq_iff_eq] at this
  unfold tabRE
  rw [e1, e2, e3, e4, e5, this, ht]
end Go.Proofs.Ytdackakjcnnofaa

/- What the 37 tables say: rows, columns, degrees, kernels, products. -/
namespace Go.Proofs.Ytdackakjcnnofaa

abbrev DataT := (Nat × Nat × List Nat × List Nat × List (List (List Int))) × List (List Int)
/-- The rows as numbers. -/
def natT (T : List (List Int)) : List (List Nat) := T.map fun r => r.map Int.toNat
/-- Shapes: as many rows as classes, as long; numbers below the prime; the first one divides. -/
def shpOk (x : DataT) : Bool :=
  let q := x.1.1; let n := x.1.2.1; let sz := x.1.2.2.1; let bk := x.1.2.2.2.1; let T := x.2
  T.length == sz.length && T.all (fun r => r.length == sz.length && r.all (fun y => decide (0 ≤ y) && decide (y < (q : Int))) && decide (1 ≤ r.headD 0) && n % (r.headD 0).toNat == 0) &&
  decide (n < q) && decide (q < 62) && ((natT T).map (fun r => r.headD 0 * r.headD 0)).sum == n && bk.length == sz.length && decide (0 < sz.length) && decide (sz.length ≤ 6) && bk.all (fun k => decide (k < sz.length)) && okOver q n && sz.all (fun s => decide (0 < s) && decide (s < q) && n % s == 0) && T.Nodup
def rowsOk (x : DataT) : Bool :=
  let T := natT x.2
  (List.range T.length).all fun a => (List.range T.length).all fun b => prdP x.1.1 x.1.2.1 x.1.2.2.1 x.1.2.2.2.1 (T.getD a []) (T.getD b []) == if a = b then 1 else 0
/-- The sum of products of two columns. -/
def colN (T : List (List Nat)) (a k : Nat) : Nat := (T.map fun r => r.getD a 0 * r.getD k 0).sum
def colsOk (x : DataT) : Bool :=
  let T := natT x.2; let sz := x.1.2.2.1
  (List.range sz.length).all fun a => (List.range sz.length).all fun b => colN T a (x.1.2.2.2.1.getD b 0) % x.1.1 == (if a = b then x.1.2.1 / sz.getD a 0 else 0) % x.1.1
theorem shp_all : ∀ x ∈ dataT, shpOk x = true := List.all_eq_true.1 (by kernel_rfl : dataT.all shpOk = true)
theorem rows_all : ∀ x ∈ dataT, rowsOk x = true := List.all_eq_true.1 (by kernel_rfl : dataT.all rowsOk = true)
theorem cols_all : ∀ x ∈ dataT, colsOk x = true := List.all_eq_true.1 (by kernel_rfl : dataT.all colsOk = true)
/-! ### normal subgroups, out of the class numbers -/
def closK (ks : List (List (List Int))) (m set : Nat) : Bool :=
  (List.range m).all fun c => (List.range m).all fun d => (List.range m).all fun e => !(set.testBit c) || !(set.testBit d) || set.testBit e || ((ks.getD c []).getD d []).getD e 0 == 0
def setL (m set : Nat) : List Nat := (List.range m).filter set.testBit
def nrmK (ks : List (List (List Int))) (m : Nat) : List (List Nat) := (((List.range (2 ^ (m - 1))).map (2 * · + 1)).filter (closK ks m)).map (setL m)
def kerN (r : List Nat) : List Nat := (List.range r.length).filter fun c => r.getD c 0 == r.getD 0 0
def sizK (sz m : List Nat) : Nat := (m.map fun c => sz.getD c 0).sum
/-- Kernels are normal; a class lies in all kernels that contain a normal subgroup just if it lies in that; sizes divide. -/
def kerOk (x : DataT) : Bool :=
  let T := natT x.2; let sz := x.1.2.2.1; let m := sz.length; let N := nrmK x.1.2.2.2.2 m; let K := T.map kerN
  K.all (fun k => N.contains k) && N.all fun s => decide (1 ≤ sizK sz s) && x.1.2.1 % sizK sz s == 0 && (List.range m).all fun c => (K.all fun k => !(s.all fun y => k.contains y) || k.contains c) == s.contains c
theorem ker_all : ∀ x ∈ dataT, kerOk x = true := List.all_eq_true.1 (by kernel_rfl : dataT.all kerOk = true)
/-! ### products of two of the table -/
def mulV (q : Nat) (f h : List Nat) : List Nat := List.zipWith (fun a b => a * b % q) f h
def splitV (q nE : Nat) (sz bk : List Nat) (T : List (List Nat)) (f : List Nat) : List Nat := T.map fun t => prdP q nE sz bk t f
def spOk (x : DataT) : Bool :=
  let T := natT x.2
  T.all fun f => T.all fun h => (splitV x.1.1 x.1.2.1 x.1.2.2.1 x.1.2.2.2.1 T (mulV x.1.1 f h)).all fun k => decide (k ≤ min (f.headD 0) (h.headD 0))
theorem sp_all : ∀ x ∈ dataT, spOk x = true := List.all_eq_true.1 (by kernel_rfl : dataT.all spOk = true)
end Go.Proofs.Ytdackakjcnnofaa

/- Every function is the sum of its products with the table times the table, plain. -/
namespace Go.Proofs.Ytdackakjcnnofaa

def sg (g : Nat → Nat) : Nat → Nat
  | 0 => 0
  | k + 1 => sg g k + g k
theorem sg_congr {g g' : Nat → Nat} : ∀ k, (∀ i, i < k → g i = g' i) → sg g k = sg g' k
  | 0, _ => rfl
  | k + 1, h => by unfold sg; rw [sg_congr k fun i hi => h i (by omega), h k (by omega)]
theorem sg_mod {q : Nat} {g g' : Nat → Nat} : ∀ k, (∀ i, i < k → g i % q = g' i % q) → sg g k % q = sg g' k % q
  | 0, _ => rfl
  | k + 1, h => by unfold sg; rw [Nat.add_mod, sg_mod k fun i hi => h i (by omega), h k (by omega), ← Nat.add_mod]
theorem sg_mul (c : Nat) (g : Nat → Nat) : ∀ k, c * sg g k = sg (fun i => c * g i) k
  | 0 => rfl
  | k + 1 => by unfold sg; rw [Nat.mul_add, sg_mul c g k]
theorem sg_add (g h : Nat → Nat) : ∀ k, sg (fun i => g i + h i) k = sg g k + sg h k
  | 0 => rfl
  | k + 1 => by unfold sg; rw [sg_add g h k]; omega
theorem sg_zero (k : Nat) : sg (fun _ => 0) k = 0 := by induction k with
  | zero => rfl
  | succ k ih => unfold sg; rw [ih]
theorem sg_swap (g : Nat → Nat → Nat) (m : Nat) : ∀ n, sg (fun i => sg (g i) m) n = sg (fun j => sg (fun i => g i j) n) m
  | 0 => by
    show 0 = sg (fun _ => 0) m
    rw [sg_zero]
  | n + 1 => by
    show sg (fun i => sg (g i) m) n + sg (g n) m = sg (fun j => sg (fun i => g i j) n + g n j) m
    rw [sg_swap g m n, sg_add]
theorem sg_one {q c : Nat} {g : Nat → Nat} : ∀ k, c < k → (∀ j, j < k → j ≠ c → g j % q = 0) → sg g k % q = g c % q
  | 0, h, _ => by omega
  | k + 1, h, h0 => by
    unfold sg
    by_cases e : c = k
    · subst e
      have : sg g c % q = sg (fun _ => 0) c % q := sg_mod c fun i hi => by rw [h0 i (by omega) (by omega)]; simp
      rw [Nat.add_mod, this, sg_zero]
      simp
    · rw [Nat.add_mod, sg_one k (by omega) fun j hj hne => h0 j (by omega) hne, h0 k (by omega) (by omega), Nat.add_zero, Nat.mod_mod]
theorem sumP_sg (q : Nat) (sz bk f h : List Nat) : ∀ k, sumP q sz bk f h k = sg (fun c => (sz.getD c 0 * f.getD c 0 % q) * h.getD (bk.getD c 0) 0) k
  | 0 => rfl
  | k + 1 => by unfold sumP sg; rw [sumP_sg q sz bk f h k]
/-- The sum over the table, at two classes. -/
def invOk (x : DataT) : Bool :=
  let q := x.1.1; let n := x.1.2.1; let sz := x.1.2.2.1; let bk := x.1.2.2.2.1; let T := natT x.2
  (List.range sz.length).all fun c => (List.range sz.length).all fun k => sg (fun i => overN q n * (sz.getD c 0 * (T.getD i []).getD c 0 * (T.getD i []).getD k 0)) T.length % q == (if bk.getD c 0 = k then 1 else 0)
def bkOk (x : DataT) : Bool := let bk := x.1.2.2.2.1; (List.range x.1.2.2.1.length).all fun c => bk.getD (bk.getD c 0) 0 == c
theorem inv_all : ∀ x ∈ dataT, invOk x = true := List.all_eq_true.1 (by kernel_rfl : dataT.all invOk = true)
theorem bk_all : ∀ x ∈ dataT, bkOk x = true := List.all_eq_true.1 (by kernel_rfl : dataT.all bkOk = true)
theorem mul_mod_l (a b q : Nat) : a % q * b % q = a * b % q := by rw [Nat.mul_mod, Nat.mod_mod, ← Nat.mul_mod]
theorem mul_mod_r (a b q : Nat) : a * (b % q) % q = a * b % q := by rw [Nat.mul_mod, Nat.mod_mod, ← Nat.mul_mod]
/-- The sum of a function's products with the table's first rows, at a class. -/
def backTo' (x : DataT) (f : List Nat) (k j : Nat) : Nat := sg (fun i => prdP x.1.1 x.1.2.1 x.1.2.2.1 x.1.2.2.2.1 ((natT x.2).getD i []) f * ((natT x.2).getD i []).getD k 0) j
theorem split_back {x : DataT} (hx : x ∈ dataT) (f : List Nat) {k : Nat} (hk : k < x.1.2.2.1.length) : backTo' x f k (natT x.2).length % x.1.1 = f.getD k 0 % x.1.1 := by
  have h1 := inv_all x hx
  have h2 := bk_all x hx
  have h3 := shp_all x hx
  obtain ⟨⟨q, n, sz, bk, ks⟩, T0⟩ := x
  unfold invOk at h1
  unfold bkOk at h2
  unfold shpOk at h3
  unfold backTo'
  simp only [List.all_eq_true, List.mem_range, beq_iff_eq, Bool.and_eq_true, decide_eq_true_eq] at h1 h2 h3 hk ⊢
  have hbk : ∀ c, c < sz.length → bk.getD c 0 < sz.length := fun c hc => by
    have hb := h3.1.1.1.2
    have hbl : bk.length = sz.length := h3.1.1.1.1.1.1.2
    rw [List.getD_eq_getElem?_getD, List.getElem?_eq_getElem (by omega)]
    exact hb _ (List.getElem_mem (by omega))
  obtain ⟨T, hT⟩ : ∃ T, natT T0 = T := ⟨_, rfl⟩
  rw [hT] at h1 ⊢
  have e1 : ∀ i, i < T.length → (prdP q n sz bk (T.getD i []) f * (T.getD i []).getD k 0) % q = sg (fun c => (overN q n * (sz.getD c 0 * (T.getD i []).getD c 0 * (T.getD i []).getD k 0)) * f.getD (bk.getD c 0) 0) sz.length % q := fun i _ => by
    unfold prdP
    rw [mul_mod_l, Nat.mul_assoc, mul_mod_l, sumP_sg, Nat.mul_comm, sg_mul]
    refine sg_mod _ fun c _ => ?_
    rw [Nat.mul_comm (sz.getD c 0 * _ % q), ← Nat.mul_assoc, mul_mod_r]
    congr 1
    simp only [Nat.mul_comm, Nat.mul_assoc, Nat.mul_left_comm]
  rw [sg_mod _ e1, sg_swap]
  rw [sg_one (c := bk.getD k 0) _ (hbk k hk) fun c hc hne => ?_]
  · show sg (fun i => _ * f.getD (bk.getD (bk.getD k 0) 0) 0) T.length % q = _
    rw [h2 k hk]
    have e2 : sg (fun i => (overN q n * (sz.getD (bk.getD k 0) 0 * (T.getD i []).getD (bk.getD k 0) 0 * (T.getD i []).getD k 0)) * f.getD k 0) T.length = f.getD k 0 * sg (fun i => overN q n * (sz.getD (bk.getD k 0) 0 * (T.getD i []).getD (bk.getD k 0) 0 * (T.getD i []).getD k 0)) T.length := by
      rw [sg_mul]
      exact sg_congr _ fun i _ => Nat.mul_comm _ _
    have h4 := h1 _ (hbk k hk) k hk
    rw [h2 k hk, if_pos rfl] at h4
    rw [e2, Nat.mul_mod, h4, Nat.mul_one, Nat.mod_mod]
  · have h4 := h1 c hc k hk
    have hn : bk.getD c 0 ≠ k := fun e => hne (by rw [← e, h2 c hc])
    rw [if_neg hn] at h4
    have e2 : sg (fun i => (overN q n * (sz.getD c 0 * (T.getD i []).getD c 0 * (T.getD i []).getD k 0)) * f.getD (bk.getD c 0) 0) T.length = f.getD (bk.getD c 0) 0 * sg (fun i => overN q n * (sz.getD c 0 * (T.getD i []).getD c 0 * (T.getD i []).getD k 0)) T.length := by
      rw [sg_mul]
      exact sg_congr _ fun i _ => Nat.mul_comm _ _
    rw [e2, Nat.mul_mod, h4, Nat.mul_zero, Nat.zero_mod]
end Go.Proofs.Ytdackakjcnnofaa
