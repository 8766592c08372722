/- Nb Nd Nj Nk Nm of the seat's texts, in this order. -/
import Derived.Test.YtdackakjcnnofaaA2
import Derived.Test.YtdackakjcnnofaaA1

/- In how many ways one of a class is a left factor, plain: the reference's count is the program's. -/
namespace Go.Proofs.Ytdackakjcnnofaa

section
variable {d : Nat} {E : List (List Nat)}
theorem Grp.cls_iff (h : Grp d E) {k r x : Nat} (hk : (repsN E E.length)[k]? = some r) (hx : x < E.length) : clsOf E x = k ↔ conjB E r x = true := by
  obtain ⟨hkl, hkr⟩ := List.getElem?_eq_some_iff.1 hk
  have hr := reps_mem.1 (List.mem_of_getElem? hk)
  constructor
  · intro e
    have h0 := h.of_all hx
    unfold clsOf at e
    unfold ofN at e h0
    cases hf : (repsN E E.length).findIdx? fun r => conjB E r x with
    | none => rw [hf] at h0; simp at h0
    | some i =>
      rw [hf] at e
      simp only [Int.toNat_natCast] at e
      subst e
      obtain ⟨h1, h2, _⟩ := List.findIdx?_eq_some_iff_getElem.1 hf
      rw [hkr] at h2
      exact h2
  · intro hc
    have : (repsN E E.length).findIdx? (fun y => conjB E y x) = some k := by
      rw [List.findIdx?_eq_some_iff_getElem]
      refine ⟨hkl, by rw [hkr]; exact hc, fun j hj => ?_⟩
      have hlt := List.pairwise_iff_getElem.1 (reps_sorted (E := E) E.length) j k (by omega) hkl hj
      rw [hkr] at hlt
      have hjm := reps_mem.1 (List.getElem_mem (l := repsN E E.length) (n := j) (by omega))
      simp only [Bool.not_eq_true]
      refine Bool.eq_false_iff.2 fun hj2 => ?_
      have h1 := h.conj_trans hjm.1 hx hr.1 hj2 (h.conj_symm hr.1 hx hc)
      rw [first_iff.1 hr.2 _ hlt] at h1
      cases h1
    unfold clsOf ofN
    rw [this]; rfl
/-- Of a class's first elements, how many have a quotient in a class. -/
def cntR (E : List (List Nat)) (A : List Nat) (k r : Nat) : Nat := A.countP fun a => clsOf E (timesN E (invN E a) r) == k
theorem cntR_snoc (A : List Nat) (a k r : Nat) : cntR E (A ++ [a]) k r = cntR E A k r + if clsOf E (timesN E (invN E a) r) = k then 1 else 0 := by
  unfold cntR
  rw [List.countP_append, List.countP_singleton]
  simp
theorem cntR_le (A : List Nat) (k r : Nat) : cntR E A k r ≤ A.length := List.countP_le_length
theorem Grp.cnt_eq (h : Grp d E) {k rk r : Nat} (hk : (repsN E E.length)[k]? = some rk) (hr : r < E.length) : ∀ A : List Nat, (∀ a ∈ A, a < E.length) → cntN E (pairsL A (clsN E rk)) r = cntR E A k r
  | [], _ => rfl
  | a :: A, hA => by
    have ih := h.cnt_eq hk hr A fun x hx => hA x (List.mem_cons_of_mem _ hx)
    have ha := hA a List.mem_cons_self
    have hq : timesN E (invN E a) r < E.length := h.timesN_lt (h.inv_spec ha).1 hr
    have key : ((clsN E rk).countP fun b => timesN E a b == r) = if clsOf E (timesN E (invN E a) r) = k then 1 else 0 := by
      have e1 : ((clsN E rk).countP fun b => timesN E a b == r) = (clsN E rk).count (timesN E (invN E a) r) := by
        unfold List.count
        refine List.countP_congr fun b hb => ?_
        have hb' : b < E.length := List.mem_range.1 (List.mem_filter.1 hb).1
        rw [beq_iff_eq, beq_iff_eq]
        constructor
        · intro e
          rw [← e, ← h.times_assoc (h.inv_spec ha).1 ha hb', h.inv_left ha, h.zero_times hb']
        · intro e
          rw [e, ← h.times_assoc ha (h.inv_spec ha).1 hr, (h.inv_spec ha).2, h.zero_times hr]
      have hn : (clsN E rk).Nodup := List.Pairwise.imp (fun hlt => Nat.ne_of_lt hlt) (clsN_sorted (E := E) rk)
      rw [e1, hn.count]
      have e2 : timesN E (invN E a) r ∈ clsN E rk ↔ clsOf E (timesN E (invN E a) r) = k := by
        rw [h.cls_iff hk hq]
        unfold clsN
        rw [List.mem_filter, List.mem_range]
        exact ⟨fun x => x.2, fun x => ⟨hq, x⟩⟩
      by_cases hm : clsOf E (timesN E (invN E a) r) = k
      · rw [if_pos (e2.2 hm), if_pos hm]
      · rw [if_neg (fun x => hm (e2.1 x)), if_neg hm]
    show cntN E ((clsN E rk).map (fun b => (a, b)) ++ pairsL A (clsN E rk)) r = _
    unfold cntN at ih ⊢
    rw [List.countP_append, ih, List.countP_map]
    have e3 : ((fun p : Nat × Nat => timesN E p.1 p.2 == r) ∘ fun b => (a, b)) = fun b => timesN E a b == r := rfl
    rw [e3, key]
    unfold cntR
    rw [List.countP_cons, Nat.add_comm]
    simp
/-- The reference's counts, up to a class. -/
def cntsR (E : List (List Nat)) (c k : Nat) : List Nat := (repsN E E.length).map fun r => cntR E ((classesN E).getD c []) k r
theorem cntsR_length (c k : Nat) : (cntsR E c k).length = (repsN E E.length).length := by simp [cntsR]
theorem Grp.cnts_eq (h : Grp d E) {c k : Nat} (hk : k < (repsN E E.length).length) : toI (cntsR E c k) = (constL E c).getD k [] := by
  have hA : ∀ a ∈ (classesN E).getD c [], a < E.length := by
    rw [List.getD_eq_getElem?_getD]
    cases hc : (classesN E)[c]? with
    | none => simp
    | some C => exact (classes_len (List.mem_of_getElem? hc)).2
  have hkc : k < (classesN E).length := by simpa [classesN] using hk
  have e : (constL E c).getD k [] = cntL E (pairsL ((classesN E).getD c []) (clsN E ((repsN E E.length)[k]))) := by
    unfold constL
    rw [List.getD_eq_getElem?_getD, List.getElem?_map, List.getElem?_eq_getElem hkc]
    simp [classesN]
  rw [e]
  unfold cntsR toI cntL
  rw [List.map_map]
  refine List.map_congr_left fun r hr => ?_
  show ((cntR E _ k r : Nat) : Int) = _
  rw [h.cnt_eq (List.getElem?_eq_getElem hk) (reps_mem.1 hr).1 _ hA]
end
end Go.Proofs.Ytdackakjcnnofaa

/- The reference's quotients, products, determinants and table, plain. -/
namespace Go.Proofs.Ytdackakjcnnofaa


/-- The first number whose product with b is a modulo q; 0: there is none. -/
def ovR (q : Nat) (a b : Int) : Nat := ((List.range q).find? fun x : Nat => (b * (x : Int) - a).tmod q == 0).getD 0
/-- One row less a multiple of another one, from a place on. -/
def elR (q k f : Nat) (row r : List Int) : List Int := r.take k ++ List.zipWith (fun a b => (a - (f : Int) * b).tmod q) (r.drop k) (row.drop k)
def el1 (q k : Nat) (row : List Int) (T : List (List Int)) (i : Nat) : List (List Int) := T.set i (elR q k (ovR q ((T.getD i []).getD k 0) (row.getD k 0)) row (T.getD i []))
def elTo (q k : Nat) (row : List Int) (T : List (List Int)) : Nat → List (List Int)
  | 0 => T
  | t + 1 => el1 q k row (elTo q k row T t) (k + 1 + t)
/-- The first row from k on that is not 0 at k. -/
def pvR (q k : Nat) (T : List (List Int)) : Nat := k + (T.drop k).findIdx fun r => (r.getD k 0).tmod q != 0
def singF (q n : Nat) : Nat → Nat → List (List Int) → Bool
  | 0, _, _ => false
  | f + 1, k, T => let a := pvR q k T
    bif Nat.beq a n then true else singF q n f (k + 1) (elTo q k (T.getD a []) ((T.set a (T.getD k [])).set k (T.getD a [])) (n - (k + 1)))
/-- The matrix by which a class multiplies the others, less a number, up to some row. -/
def matR (m : List (List Int)) (x k : Nat) : List (List Int) := (List.range k).map fun d => (m.getD d []).set d ((m.getD d []).getD d 0 - (x : Int))
def singR (q n : Nat) (m : List (List Int)) (x : Nat) : Bool := singF q n n 0 (matR m x n)
def allR (q n : Nat) (ks : List (List (List Int))) (c : Nat) : List Nat := (List.range q).filter (singR q n (ks.getD c []))
def choR : List (List Nat) → List (List Nat)
  | [] => [[]]
  | l :: ls => l.flatMap fun x => (choR ls).map (x :: ·)
/-- What a choice multiplies to, less its product. -/
def mulR (ks : List (List (List Int))) (b : List Nat) (c d : Nat) : Int := dotI ((ks.getD c []).getD d []) (toI b) - (b.getD c 0 : Int) * (b.getD d 0 : Int)
def okR (q n : Nat) (ks : List (List (List Int))) (b : List Nat) : Bool := (List.range n).all fun c => (List.range n).all fun d => (mulR ks b c d).tmod q == 0
def fR (q : Nat) (sz b : List Nat) (d : Nat) : List Nat := List.zipWith (fun x s : Nat => ovR q ((d : Int) * (x : Int)) (s : Int)) b sz
def sumR (q : Nat) (sz bk : List Nat) (f h : List Int) (k : Nat) : Int :=
  match k with
  | 0 => 0
  | k + 1 => sumR q sz bk f h k + (((sz.getD k 0 : Nat) : Int).tmod q * f.getD k 0).tmod q * h.getD (bk.getD k 0) 0
def prodR (q nE : Nat) (sz bk : List Nat) (f h : List Int) : Nat := ovR q ((sumR q sz bk f h sz.length).tmod q) (nE : Int)
def degR (q nE : Nat) (sz bk : List Nat) (b : List Nat) : Nat → List (List Nat) → List (List Nat)
  | 0, out => out
  | d + 1, out => let o := degR q nE sz bk b d out
    bif Nat.ble ((d + 1) * (d + 1)) nE && Nat.beq (prodR q nE sz bk (toI (fR q sz b (d + 1))) (toI (fR q sz b (d + 1)))) 1 then insP o (fR q sz b (d + 1)) else o
def addR (q nE : Nat) (sz bk : List Nat) (ks : List (List (List Int))) (out : List (List Nat)) (b : List Nat) : List (List Nat) :=
  bif Nat.beq (b.getD 0 0) 1 && okR q sz.length ks b then degR q nE sz bk b 4 out else out
def tabR (q nE : Nat) (sz bk : List Nat) (ks : List (List (List Int))) : List (List Nat) :=
  (choR ((List.range sz.length).map (allR q sz.length ks))).foldl (addR q nE sz bk ks) []

/-! ### quotients -/
theorem ovR_at {q x : Nat} {a b : Int} (hx : x < q) (he : (b * (x : Int) - a).tmod q = 0) (hb : ∀ y : Nat, y < x → (b * (y : Int) - a).tmod q ≠ 0) : ovR q a b = x := by
  unfold ovR
  have : (List.range q).find? (fun x : Nat => (b * (x : Int) - a).tmod q == 0) = some x := by
    rw [List.find?_eq_some_iff_getElem]
    refine ⟨by rw [beq_iff_eq]; exact he, x, by simpa using hx, by simp, fun j hj => ?_⟩
    have := hb j hj
    simpa using this
  rw [this]; rfl
theorem ovR_no {q : Nat} {a b : Int} (hb : ∀ y : Nat, y < q → (b * (y : Int) - a).tmod q ≠ 0) : ovR q a b = 0 := by
  unfold ovR
  have : (List.range q).find? (fun x : Nat => (b * (x : Int) - a).tmod q == 0) = none := by
    rw [List.find?_eq_none]
    intro x hx
    have := hb x (List.mem_range.1 hx)
    simpa using this
  rw [this]; rfl
theorem ovR_lt {q : Nat} (hq : 0 < q) (a b : Int) : ovR q a b < q := by
  unfold ovR
  cases h : (List.range q).find? (fun x : Nat => (b * (x : Int) - a).tmod q == 0) with
  | none => exact hq
  | some x => exact List.mem_range.1 (List.mem_of_find?_eq_some h)
theorem ovR_key (q a b y : Nat) : ((b : Int) * (y : Int) - (a : Int)).tmod q = 0 ↔ b * y % q = a % q := by
  rw [← Int.dvd_iff_tmod_eq_zero, Int.dvd_iff_emod_eq_zero, ← Int.emod_eq_emod_iff_emod_sub_eq_zero]
  constructor
  · intro h
    have : ((b * y % q : Nat) : Int) = ((a % q : Nat) : Int) := by simpa using h
    exact Int.ofNat.inj this
  · intro h
    have : ((b * y % q : Nat) : Int) = ((a % q : Nat) : Int) := by rw [h]
    simpa using this
theorem ovR_over {q a b : Nat} (hq : 1 < q) (hb : okOver q b = true) : ovR q (a : Int) (b : Int) = a * overN q b % q := by
  have ho := okOver_iff.1 hb
  have h1 : b * (a * overN q b % q) % q = a % q := by
    rw [Nat.mul_mod, Nat.mod_mod, ← Nat.mul_mod, show b * (a * overN q b) = a * (overN q b * b) by rw [Nat.mul_comm b, Nat.mul_assoc], Nat.mul_mod, ho, Nat.mul_one, Nat.mod_mod]
  refine ovR_at (Nat.mod_lt _ (by omega)) ((ovR_key _ _ _ _).2 h1) fun y hy hn => ?_
  have h2 := (ovR_key _ _ _ _).1 hn
  have hyq : y < q := Nat.lt_trans hy (Nat.mod_lt _ (by omega))
  have h3 : a * overN q b % q = y := by
    rw [Nat.mul_mod, ← h2, ← Nat.mul_mod, show b * y * overN q b = overN q b * b * y by rw [Nat.mul_comm (b * y), Nat.mul_assoc], Nat.mul_mod, ho, Nat.one_mul, Nat.mod_mod]
    exact Nat.mod_eq_of_lt hyq
  omega
/-! ### products -/
/-- The program's product of two functions. -/
def sumP (q : Nat) (sz bk f h : List Nat) : Nat → Nat
  | 0 => 0
  | k + 1 => sumP q sz bk f h k + (sz.getD k 0 * f.getD k 0 % q) * h.getD (bk.getD k 0) 0
def prdP (q nE : Nat) (sz bk f h : List Nat) : Nat := (sumP q sz bk f h sz.length % q) * overN q nE % q
theorem toI_getD (l : List Nat) (k : Nat) : (toI l).getD k 0 = (l.getD k 0 : Nat) := by
  unfold toI
  rw [List.getD_eq_getElem?_getD, List.getD_eq_getElem?_getD, List.getElem?_map]
  cases l[k]? <;> rfl
theorem sumR_eq {q : Nat} {sz : List Nat} (bk f h : List Nat) (hs : ∀ s ∈ sz, s < q) : ∀ k, sumR q sz bk (toI f) (toI h) k = (sumP q sz bk f h k : Nat)
  | 0 => rfl
  | k + 1 => by
    have hk : sz.getD k 0 % q = sz.getD k 0 := by
      rw [List.getD_eq_getElem?_getD]
      cases hz : sz[k]? with
      | none => simp
      | some s => exact Nat.mod_eq_of_lt (hs s (List.mem_of_getElem? hz))
    unfold sumR sumP
    rw [sumR_eq bk f h hs k, toI_getD, toI_getD]
    have e1 : ((sz.getD k 0 : Nat) : Int) % (q : Int) = ((sz.getD k 0 : Nat) : Int) := by
      have : ((sz.getD k 0 % q : Nat) : Int) = ((sz.getD k 0 : Nat) : Int) := by rw [hk]
      simpa using this
    rw [Int.tmod_eq_emod_of_nonneg (a := ((sz.getD k 0 : Nat) : Int)) (by omega), e1, Int.tmod_eq_emod_of_nonneg (by rw [← Int.natCast_mul]; omega)]
    simp
theorem prodR_eq {q nE : Nat} {sz : List Nat} (bk f h : List Nat) (hq : 1 < q) (hn : okOver q nE = true) (hs : ∀ s ∈ sz, s < q) : prodR q nE sz bk (toI f) (toI h) = prdP q nE sz bk f h := by
  unfold prodR prdP
  rw [sumR_eq bk f h hs, Int.tmod_eq_emod_of_nonneg (by omega), ← Int.natCast_emod, ovR_over hq hn]
end Go.Proofs.Ytdackakjcnnofaa

/- The reference's determinant, step by step, plain. -/
namespace Go.Proofs.Ytdackakjcnnofaa

/-- All entries are small, all rows of one length. -/
def MatOk (n : Nat) (T : List (List Int)) : Prop := T.length = n ∧ ∀ r ∈ T, r.length = n ∧ ∀ y ∈ r, -2000 ≤ y ∧ y ≤ 2000
theorem MatOk.row {n i : Nat} {T : List (List Int)} (h : MatOk n T) (hi : i < T.length) : (T[i]).length = n ∧ ∀ y ∈ T[i], -2000 ≤ y ∧ y ≤ 2000 := h.2 _ (List.getElem_mem hi)
theorem MatOk.set {n i : Nat} {T : List (List Int)} (h : MatOk n T) {r : List Int} (hr : r.length = n ∧ ∀ y ∈ r, -2000 ≤ y ∧ y ≤ 2000) : MatOk n (T.set i r) := by
  refine ⟨by rw [List.length_set]; exact h.1, fun s hs => ?_⟩
  rcases List.mem_or_eq_of_mem_set hs with hs | rfl
  · exact h.2 s hs
  · exact hr
theorem pvR_at {q k a : Nat} {T : List (List Int)} (hk : k ≤ a) (ha : a ≤ T.length) (h0 : ∀ i (hi : i < T.length), k ≤ i → i < a → ((T[i]).getD k 0).tmod q = 0) (h1 : ∀ (h : a < T.length), ((T[a]).getD k 0).tmod q ≠ 0) : pvR q k T = a := by
  unfold pvR
  have : (T.drop k).findIdx (fun r => (r.getD k 0).tmod q != 0) = a - k := by
    by_cases hl : a < T.length
    · rw [List.findIdx_eq (by rw [List.length_drop]; omega)]
      refine ⟨?_, fun j hj => ?_⟩
      · rw [List.getElem_drop]
        have e : k + (a - k) = a := by omega
        have := h1 hl
        simp only [e]
        simpa using this
      · rw [List.getElem_drop]
        have := h0 (k + j) (by omega) (by omega) (by omega)
        simp only [bne_eq_false_iff_eq]
        exact this
    · have e : a - k = (T.drop k).length := by rw [List.length_drop]; omega
      rw [e, List.findIdx_eq_length]
      intro r hr
      obtain ⟨j, hj, rfl⟩ := List.getElem_of_mem hr
      rw [List.length_drop] at hj
      rw [List.getElem_drop]
      have := h0 (k + j) (by omega) (by omega) (by omega)
      simp only [bne_eq_false_iff_eq]
      exact this
  rw [this]; omega
theorem singF_yes {q n f k : Nat} {T : List (List Int)} (h : pvR q k T = n) : singF q n (f + 1) k T = true := by
  unfold singF
  rw [h]
  simp
def swpR (T : List (List Int)) (a k : Nat) : List (List Int) := (T.set a (T.getD k [])).set k (T.getD a [])
theorem singF_no {q n f k a : Nat} {T : List (List Int)} (h : pvR q k T = a) (ha : a ≠ n) : singF q n (f + 1) k T = singF q n f (k + 1) (elTo q k (T.getD a []) (swpR T a k) (n - (k + 1))) := by
  conv => lhs; unfold singF
  rw [h]
  have : Nat.beq a n = false := Bool.eq_false_iff.2 fun e => ha (Nat.eq_of_beq_eq_true e)
  simp only [this, cond_false]
  rfl
/-- A row under way. -/
def elrTo (q k f : Nat) (row r : List Int) (j : Nat) : List Int := (elR q k f row r).take j ++ r.drop j
theorem elR_length {q k f : Nat} {row r : List Int} (h : row.length = r.length) (hk : k ≤ r.length) : (elR q k f row r).length = r.length := by
  unfold elR
  simp; omega
theorem elR_at {q k f j : Nat} {row r : List Int} (hk : k ≤ j) (hj : j < r.length) (hj2 : j < (elR q k f row r).length) (hj3 : j < row.length) : (elR q k f row r)[j] = (r[j] - (f : Int) * row[j]).tmod q := by
  have e : (elR q k f row r)[j]? = some ((r[j] - (f : Int) * row[j]).tmod q) := by
    unfold elR
    have hl : (r.take k).length = k := by rw [List.length_take]; omega
    rw [List.getElem?_append_right (by omega), hl, List.getElem?_zipWith, List.getElem?_drop, List.getElem?_drop]
    have e2 : k + (j - k) = j := by omega
    rw [e2, List.getElem?_eq_getElem hj, List.getElem?_eq_getElem hj3]
  rw [List.getElem?_eq_getElem hj2] at e
  exact Option.some.inj e
theorem elrTo_start {q k f : Nat} {row r : List Int} (hk : k ≤ r.length) : elrTo q k f row r k = r := by
  unfold elrTo elR
  rw [List.take_append_of_le_length (by rw [List.length_take]; omega), List.take_take, Nat.min_self, List.take_append_drop]
theorem elrTo_end {q k f : Nat} {row r : List Int} (h : row.length = r.length) (hk : k ≤ r.length) : elrTo q k f row r r.length = elR q k f row r := by
  unfold elrTo
  rw [List.drop_length, List.append_nil, List.take_of_length_le (by rw [elR_length h hk]; exact Nat.le_refl _)]
theorem elrTo_length {q k f : Nat} {row r : List Int} (h : row.length = r.length) (hk : k ≤ r.length) (j : Nat) : (elrTo q k f row r j).length = r.length := by
  unfold elrTo
  rw [List.length_append, List.length_take, List.length_drop, elR_length h hk]; omega
theorem elrTo_at {q k f j : Nat} {row r : List Int} (h : row.length = r.length) (hk : k ≤ r.length) (hj : j < r.length) (hj2 : j < (elrTo q k f row r j).length) : (elrTo q k f row r j)[j] = r[j] := by
  have e : (elrTo q k f row r j)[j]? = r[j]? := by
    unfold elrTo
    have hl : ((elR q k f row r).take j).length = j := by rw [List.length_take, elR_length h hk]; omega
    rw [List.getElem?_append_right (by omega), hl, List.getElem?_drop]; simp
  rw [List.getElem?_eq_getElem hj, List.getElem?_eq_getElem hj2] at e
  exact Option.some.inj e
theorem elrTo_set {q k f j : Nat} {row r : List Int} (h : row.length = r.length) (hk : k ≤ j) (hj : j < r.length) (hj3 : j < row.length) : (elrTo q k f row r j).set j ((r[j] - (f : Int) * row[j]).tmod q) = elrTo q k f row r (j + 1) := by
  have hl := elR_length (q := q) (f := f) h (k := k) (by omega)
  have ht : ((elR q k f row r).take j).length = j := by rw [List.length_take, hl]; omega
  unfold elrTo
  rw [List.set_append_right _ _ (by omega), ht, Nat.sub_self, List.take_succ_eq_append_getElem (by omega), List.drop_eq_getElem_cons hj, List.set_cons_zero, elR_at hk hj (by omega) hj3]
  simp
theorem elR_small {q k f : Nat} {row r : List Int} (hq : 0 < q) (hq2 : q < 62) (hr : ∀ y ∈ r, -2000 ≤ y ∧ y ≤ 2000) : ∀ y ∈ elR q k f row r, -2000 ≤ y ∧ y ≤ 2000 := by
  intro y hy
  unfold elR at hy
  rcases List.mem_append.1 hy with hy | hy
  · exact hr y (List.mem_of_mem_take hy)
  · rw [List.mem_iff_getElem] at hy
    obtain ⟨i, hi, rfl⟩ := hy
    rw [List.getElem_zipWith]
    have hq' : (0 : Int) < q := by omega
    have h1 := Int.tmod_lt_of_pos ((r.drop k)[i]'(by simp at hi; simp; omega) - (f : Int) * (row.drop k)[i]'(by simp at hi; simp; omega)) hq'
    have h2 := Int.lt_tmod_of_pos ((r.drop k)[i]'(by simp at hi; simp; omega) - (f : Int) * (row.drop k)[i]'(by simp at hi; simp; omega)) hq'
    omega
theorem elTo_length (q k : Nat) (row : List Int) (T : List (List Int)) : ∀ t, (elTo q k row T t).length = T.length
  | 0 => rfl
  | t + 1 => by unfold elTo el1; rw [List.length_set, elTo_length q k row T t]
theorem elTo_ok {q k n : Nat} {row : List Int} {T : List (List Int)} (hq : 0 < q) (hq2 : q < 62) (hrow : row.length = n) (hk : k ≤ n) (h : MatOk n T) : ∀ t, k + t < n → MatOk n (elTo q k row T t)
  | 0, _ => h
  | t + 1, ht => by
    have ih := elTo_ok hq hq2 hrow hk h t (by omega)
    unfold elTo el1
    have hl : k + 1 + t < (elTo q k row T t).length := by rw [ih.1]; omega
    have hr := ih.row hl
    rw [List.getD_eq_getElem?_getD (l := elTo q k row T t), List.getElem?_eq_getElem hl, Option.getD_some]
    exact ih.set ⟨by rw [elR_length (by omega) (by omega)]; exact hr.1, elR_small hq hq2 hr.2⟩
theorem elTo_top {q k : Nat} {row : List Int} {T : List (List Int)} : ∀ t, (elTo q k row T t)[k]? = T[k]?
  | 0 => rfl
  | t + 1 => by unfold elTo el1; rw [List.getElem?_set_ne (by omega), elTo_top t]
end Go.Proofs.Ytdackakjcnnofaa

/- The reference's search, step by step, plain. -/
namespace Go.Proofs.Ytdackakjcnnofaa

/-- The choices that go on from a beginning. -/
def chs (A : List (List Nat)) (b : List Nat) : List (List Nat) := (choR (A.drop b.length)).map (b ++ ·)
theorem chs_leaf {A : List (List Nat)} {b : List Nat} (h : b.length = A.length) : chs A b = [b] := by
  unfold chs
  rw [h, List.drop_length]
  simp [choR]
theorem chs_step {A : List (List Nat)} {b : List Nat} (h : b.length < A.length) : chs A b = (A[b.length]).flatMap fun x => chs A (b ++ [x]) := by
  unfold chs
  rw [List.drop_eq_getElem_cons h, show choR (A[b.length] :: A.drop (b.length + 1)) = A[b.length].flatMap fun x => (choR (A.drop (b.length + 1))).map (x :: ·) from rfl]
  rw [List.map_flatMap]
  refine congrArg (fun f => List.flatMap f A[b.length]) (funext fun x => ?_)
  rw [List.map_map, List.length_append]
  show _ = (choR (A.drop (b.length + 1))).map _
  refine List.map_congr_left fun y _ => ?_
  simp
theorem chs_take {A : List (List Nat)} {b : List Nat} (l : List Nat) {k : Nat} (hk : k < l.length) : ((l.take (k + 1)).flatMap fun x => chs A (b ++ [x])) = ((l.take k).flatMap fun x => chs A (b ++ [x])) ++ chs A (b ++ [l[k]]) := by
  rw [List.take_succ_eq_append_getElem hk, List.flatMap_append]; simp
theorem insP_length (o : List (List Nat)) (p : List Nat) : (insP o p).length = o.length + 1 := by
  have := (insP_perm o p).length_eq
  simpa using this
section
variable {q nE : Nat} {sz bk : List Nat} {ks : List (List (List Int))}
theorem degR_len (b : List Nat) (L : List (List Nat)) : ∀ d, L.length ≤ (degR q nE sz bk b d L).length
  | 0 => Nat.le_refl _
  | d + 1 => by
    have ih := degR_len b L d
    unfold degR
    cases hc : (Nat.ble ((d + 1) * (d + 1)) nE && Nat.beq (prodR q nE sz bk (toI (fR q sz b (d + 1))) (toI (fR q sz b (d + 1)))) 1) with
    | false => simpa using ih
    | true => simp only [cond_true]; rw [insP_length]; omega
theorem degR_mono (b : List Nat) (L : List (List Nat)) {d e : Nat} (h : d ≤ e) : (degR q nE sz bk b d L).length ≤ (degR q nE sz bk b e L).length := by
  obtain ⟨k, rfl⟩ : ∃ k, e = d + k := ⟨e - d, by omega⟩
  clear h
  induction k with
  | zero => exact Nat.le_refl _
  | succ k ih =>
    refine Nat.le_trans ih ?_
    rw [← Nat.add_assoc]
    conv => rhs; unfold degR
    cases hc : (Nat.ble ((d + k + 1) * (d + k + 1)) nE && Nat.beq (prodR q nE sz bk (toI (fR q sz b (d + k + 1))) (toI (fR q sz b (d + k + 1)))) 1) with
    | false => simp
    | true => simp only [cond_true]; rw [insP_length]; omega
theorem addR_len (b : List Nat) (L : List (List Nat)) : L.length ≤ (addR q nE sz bk ks L b).length := by
  unfold addR
  cases (Nat.beq (b.getD 0 0) 1 && okR q sz.length ks b) with
  | false => exact Nat.le_refl _
  | true => exact degR_len b L 4
theorem addR_fold : ∀ (l : List (List Nat)) (L : List (List Nat)), L.length ≤ (l.foldl (addR q nE sz bk ks) L).length
  | [], _ => Nat.le_refl _
  | b :: l, L => Nat.le_trans (addR_len b L) (addR_fold l _)
theorem degR_yes {b : List Nat} {L : List (List Nat)} {d : Nat} (h1 : (d + 1) * (d + 1) ≤ nE) (h2 : prodR q nE sz bk (toI (fR q sz b (d + 1))) (toI (fR q sz b (d + 1))) = 1) : degR q nE sz bk b (d + 1) L = insP (degR q nE sz bk b d L) (fR q sz b (d + 1)) := by
  conv => lhs; unfold degR
  rw [h2, Nat.ble_eq_true_of_le h1]; rfl
theorem degR_no {b : List Nat} {L : List (List Nat)} {d : Nat} (h : ¬ ((d + 1) * (d + 1) ≤ nE) ∨ prodR q nE sz bk (toI (fR q sz b (d + 1))) (toI (fR q sz b (d + 1))) ≠ 1) : degR q nE sz bk b (d + 1) L = degR q nE sz bk b d L := by
  conv => lhs; unfold degR
  have : (Nat.ble ((d + 1) * (d + 1)) nE && Nat.beq (prodR q nE sz bk (toI (fR q sz b (d + 1))) (toI (fR q sz b (d + 1)))) 1) = false := by
    rw [Bool.and_eq_false_iff]
    rcases h with h | h
    · exact .inl (Bool.eq_false_iff.2 fun e => h (Nat.le_of_ble_eq_true e))
    · exact .inr (Bool.eq_false_iff.2 fun e => h (Nat.eq_of_beq_eq_true e))
  rw [this]; rfl
theorem degR_stop {b : List Nat} {L : List (List Nat)} : ∀ (k d : Nat), ¬ ((d + 1) * (d + 1) ≤ nE) → degR q nE sz bk b (d + k) L = degR q nE sz bk b d L
  | 0, _, _ => rfl
  | k + 1, d, h => by
    rw [← Nat.add_assoc, degR_no (.inl fun hc => h (Nat.le_trans (Nat.mul_le_mul (by omega) (by omega)) hc)), degR_stop k d h]
theorem degR_end {b : List Nat} {L : List (List Nat)} {d : Nat} (h : ¬ ((d + 1) * (d + 1) ≤ nE)) (hd : d ≤ 4) : degR q nE sz bk b 4 L = degR q nE sz bk b d L := by
  have := degR_stop (q := q) (sz := sz) (bk := bk) (b := b) (L := L) (4 - d) d h
  rwa [show d + (4 - d) = 4 by omega] at this
theorem fR_length {b : List Nat} {d : Nat} (h : b.length = sz.length) : (fR q sz b d).length = sz.length := by unfold fR; simp; omega
theorem fR_take {b : List Nat} {d j : Nat} (h1 : j < b.length) (h2 : j < sz.length) : toI ((fR q sz b d).take (j + 1)) = toI ((fR q sz b d).take j) ++ [((ovR q ((d : Int) * (b[j] : Int)) (sz[j] : Int) : Nat) : Int)] := by
  have hl : j < (fR q sz b d).length := by unfold fR; simp; omega
  rw [List.take_succ_eq_append_getElem hl, toI_append]
  congr 1
  unfold toI
  rw [List.map_singleton]
  congr 2
  exact List.getElem_zipWith
theorem fR_lt {b : List Nat} {d : Nat} (hq : 0 < q) : ∀ x ∈ toI (fR q sz b d), 0 ≤ x ∧ x < (q : Int) := by
  intro x hx
  obtain ⟨y, hy, rfl⟩ := List.mem_map.1 hx
  unfold fR at hy
  obtain ⟨i, hi, rfl⟩ := List.getElem_of_mem hy
  rw [List.getElem_zipWith]
  have := ovR_lt hq ((d : Int) * ((b[i]'(by simp at hi; omega) : Nat) : Int)) ((sz[i]'(by simp at hi; omega) : Nat) : Int)
  omega
theorem degR_rows {b : List Nat} {L : List (List Nat)} {m : Nat} (hb : b.length = sz.length) (hm : sz.length = m) (hL : ∀ r ∈ L, r.length = m) : ∀ d, ∀ r ∈ degR q nE sz bk b d L, r.length = m
  | 0 => hL
  | d + 1 => by
    have ih := degR_rows hb hm hL d
    by_cases h : (d + 1) * (d + 1) ≤ nE ∧ prodR q nE sz bk (toI (fR q sz b (d + 1))) (toI (fR q sz b (d + 1))) = 1
    · rw [degR_yes h.1 h.2]
      intro r hr
      rcases List.mem_cons.1 ((insP_perm _ _).mem_iff.1 hr) with rfl | hr
      · rw [fR_length hb]; exact hm
      · exact ih r hr
    · rw [degR_no (Decidable.not_and_iff_or_not.1 h)]
      exact ih
theorem addR_rows {b : List Nat} {L : List (List Nat)} {m : Nat} (hb : b.length = sz.length) (hm : sz.length = m) (hL : ∀ r ∈ L, r.length = m) : ∀ r ∈ addR q nE sz bk ks L b, r.length = m := by
  unfold addR
  cases (Nat.beq (b.getD 0 0) 1 && okR q sz.length ks b) with
  | false => exact hL
  | true => exact degR_rows hb hm hL 4
/-- All products up to a place are right. -/
def okTo (q n : Nat) (ks : List (List (List Int))) (b : List Nat) (c d : Nat) : Prop := (∀ c', c' < c → ∀ d', d' < n → (mulR ks b c' d').tmod q = 0) ∧ ∀ d', d' < d → (mulR ks b c d').tmod q = 0
theorem okTo.start (q n : Nat) (ks : List (List (List Int))) (b : List Nat) : okTo q n ks b 0 0 := ⟨fun c' h => by omega, fun d' h => by omega⟩
theorem okTo.next {n c d : Nat} {b : List Nat} (h : okTo q n ks b c d) (he : (mulR ks b c d).tmod q = 0) : okTo q n ks b c (d + 1) := ⟨h.1, fun d' hd => by
  by_cases e : d' = d
  · subst e; exact he
  · exact h.2 d' (by omega)⟩
theorem okTo.row {n c : Nat} {b : List Nat} (h : okTo q n ks b c n) : okTo q n ks b (c + 1) 0 := ⟨fun c' hc d' hd => by
  by_cases e : c' = c
  · subst e; exact h.2 d' hd
  · exact h.1 c' (by omega) d' hd, fun d' hd => by omega⟩
theorem okTo.done {n : Nat} {b : List Nat} (h : okTo q n ks b n 0) : okR q n ks b = true := by
  unfold okR
  simp only [List.all_eq_true, List.mem_range, beq_iff_eq]
  exact h.1
theorem okR_no {n c d : Nat} {b : List Nat} (hc : c < n) (hd : d < n) (h : (mulR ks b c d).tmod q ≠ 0) : okR q n ks b = false := by
  refine Bool.eq_false_iff.2 fun hh => h ?_
  unfold okR at hh
  simp only [List.all_eq_true, List.mem_range, beq_iff_eq] at hh
  exact hh c hc d hd
theorem addR_no {L : List (List Nat)} {b : List Nat} (h : b.getD 0 0 ≠ 1 ∨ okR q sz.length ks b = false) : addR q nE sz bk ks L b = L := by
  unfold addR
  have : (Nat.beq (b.getD 0 0) 1 && okR q sz.length ks b) = false := by
    rw [Bool.and_eq_false_iff]
    rcases h with h | h
    · exact .inl (Bool.eq_false_iff.2 fun e => h (Nat.eq_of_beq_eq_true e))
    · exact .inr h
  rw [this]; rfl
theorem addR_yes {L : List (List Nat)} {b : List Nat} (h1 : b.getD 0 0 = 1) (h2 : okR q sz.length ks b = true) : addR q nE sz bk ks L b = degR q nE sz bk b 4 L := by
  unfold addR
  rw [h1, h2]; rfl
end
end Go.Proofs.Ytdackakjcnnofaa

/- A region that draws its order, with several operations that make memory: constants for all others, one invariant for the memory. -/
namespace Go.Proofs.Ytdackakjcnnofaa

/-- Operation i waits for operation j. -/
def depB (ops : Array Oper) (i j : Nat) : Bool := match ops[i]? with
  | some o => o.after.any fun e => Region.binds .any e && e.on == j
  | none => false
section
variable {P : Program} {ops : Array Oper} {Q : Exit → Act → World → Prop}
/-- **THE LAW.** cv: the values of the operations that make nothing; M: what the others have made, said of what is done and of their slots. -/
theorem wp_region_mem {id : Nat} {a : Act} {w : World} (hm : P.follows .mixedOrders = true) (ds : List Nat) (hok : schedOk ops ds = true) (hdst : dstOk ops = true) (cv : Nat → Option Value)
    (M : (Nat → Bool) → (Nat → Value) → World → Prop)
    (h0 : M (fun _ => false) (fun t => a.tmps.getD t undef) w.drew)
    (hc : ∀ i o v, ops[i]? = some o → cv i = some v → ∀ d y wx, d i = false → (∀ i' j, depB ops i' j = true → d i' = true → d j = true) → (∀ j, depB ops i j = true → d j = true) → (∀ j u t, depB ops i j = true → cv j = some u → dstOf ops j = some t → y t = u) → M d y wx →
      RStep P ops Q o { tmps := hole a.tmps ds y, defers := a.defers } wx fun v' w' => v' = v ∧ w' = wx)
    (hk : ∀ i o v, ops[i]? = some o → cv i = some v → ∀ d y wx, M d y wx → M (fun j => j == i || d j) (updO y o.dst v) wx)
    (hs : ∀ i o, ops[i]? = some o → cv i = none → ∀ d y wx, d i = false → (∀ i' j, depB ops i' j = true → d i' = true → d j = true) → (∀ j, depB ops i j = true → d j = true) → (∀ j u t, depB ops i j = true → cv j = some u → dstOf ops j = some t → y t = u) → M d y wx →
      RStep P ops Q o { tmps := hole a.tmps ds y, defers := a.defers } wx fun v w' => M (fun j => j == i || d j) (updO y o.dst v) w')
    (he : ∀ d y wx, (∀ i, i < ops.size → d i = true) → (∀ j u t, j < ops.size → cv j = some u → dstOf ops j = some t → y t = u) → M d y wx → Q .normal { tmps := hole a.tmps ds y, defers := a.defers } wx) :
    (Code.region id ops true).wp P Q a w := by
  refine wp_region_sched hm ds hok (fun d y wx => (∀ i' j, depB ops i' j = true → d i' = true → d j = true) ∧ (∀ j u t, j < ops.size → d j = true → cv j = some u → dstOf ops j = some t → y t = u) ∧ M d y wx) ⟨fun _ _ _ h => absurd h Bool.false_ne_true, fun j u t _ h _ _ => absurd h Bool.false_ne_true, h0⟩ ?_ ?_
  · intro i o ho d y wx hd haft ⟨hcl, hC, hM⟩
    have hil : i < ops.size := (Array.getElem?_eq_some_iff.1 ho).1
    have hdep' : ∀ j, depB ops i j = true → d j = true := fun j hj => by
      unfold depB at hj
      rw [ho] at hj
      simp only [Array.any_eq_true', Bool.and_eq_true, beq_iff_eq] at hj
      obtain ⟨e, he1, he2, rfl⟩ := hj
      exact haft e he1 he2
    have hcst : ∀ j u t, depB ops i j = true → cv j = some u → dstOf ops j = some t → y t = u := fun j u t hj h1 h2 => by
      have hjl : j < ops.size := by
        unfold dstOf at h2
        cases hx : ops[j]? with
        | none => rw [hx] at h2; cases h2
        | some x => exact (Array.getElem?_eq_some_iff.1 hx).1
      exact hC j u t hjl (hdep' j hj) h1 h2
    have keepC : ∀ (v : Value), (∀ u, cv i = some u → u = v) → ∀ j u t, j < ops.size → (j == i || d j) = true → cv j = some u → dstOf ops j = some t → updO y o.dst v t = u := fun v hv j u t hjl hj h1 h2 => by
      by_cases e : j = i
      · subst e
        have e2 : o.dst = some t := by
          unfold dstOf at h2
          rw [ho] at h2
          exact h2
        rw [updO_at_some y o v t e2]
        show (if t = t then v else y t) = u
        rw [if_pos rfl]
        exact (hv u h1).symm
      · have hdj : d j = true := by simpa [e] using hj
        have h3 := hC j u t hjl hdj h1 h2
        cases hdo : o.dst with
        | none => exact h3
        | some s =>
          have hne : t ≠ s := dstOk_at hdst hjl hil e h2 (by unfold dstOf; rw [ho]; exact hdo)
          show (if t = s then v else y t) = u
          rw [if_neg hne]
          exact h3
    have hcl' : ∀ i' j, depB ops i' j = true → (i' == i || d i') = true → (j == i || d j) = true := fun i' j hj h => by
      by_cases e : i' = i
      · subst e
        rw [hdep' j hj, Bool.or_true]
      · have h2 : d i' = true := by simpa [e] using h
        rw [hcl i' j hj h2, Bool.or_true]
    cases hcv : cv i with
    | some v =>
      refine (hc i o v ho hcv d y wx hd hcl hdep' hcst hM).mono fun v' w' ⟨e1, e2⟩ => ?_
      subst e1
      subst e2
      exact ⟨hcl', keepC v' (fun u hu => by rw [hcv] at hu; exact (Option.some.inj hu).symm), hk i o v' ho hcv d y w' hM⟩
    | none =>
      refine (hs i o ho hcv d y wx hd hcl hdep' hcst hM).mono fun v' w' hM' => ?_
      exact ⟨hcl', keepC v' (fun u hu => by rw [hcv] at hu; cases hu), hM'⟩
  · intro d y wx hd ⟨_, hC, hM⟩
    exact he d y wx hd (fun j u t hj h1 h2 => hC j u t hj (hd j hj) h1 h2) hM
end
end Go.Proofs.Ytdackakjcnnofaa
