/- Ga Gb Gc Gd Ge Gf Gg Gs Gh Tb Tc Td Vq Vp Bu Bv of the seat's texts, in this order. -/
import Derived.Laws.BitsLemmas
import Derived.KernelRfl
import Derived.Test.YtdackakjcnnofaaA1

/- Groups of permutations, plain: the products of generators, by closing from either side. No Go in sight. -/
namespace Go.Proofs.Ytdackakjcnnofaa

/-- First b, then a. -/
def mulP (a b : List Nat) : List Nat := b.map fun x => a.getD x 0
/-- A permutation of d numbers. -/
structure Perm1 (d : Nat) (a : List Nat) : Prop where
  len : a.length = d
  lt : ∀ x ∈ a, x < d
  nodup : a.Nodup
def oneP (d : Nat) : List Nat := List.range d
section
variable {d : Nat} {a b c : List Nat}
theorem mulP_len (a b : List Nat) : (mulP a b).length = b.length := by simp [mulP]
theorem mulP_get {i : Nat} (hi : i < b.length) : (mulP a b).getD i 0 = a.getD (b.getD i 0) 0 := by
  simp [mulP, List.getD_eq_getElem?_getD, List.getElem?_eq_getElem hi]
theorem Perm1.getD_lt (h : Perm1 d a) {i : Nat} (hi : i < d) : a.getD i 0 < d := by
  have hi' : i < a.length := by rw [h.len]; exact hi
  rw [List.getD_eq_getElem?_getD, List.getElem?_eq_getElem hi']
  exact h.lt _ (List.getElem_mem hi')
theorem Perm1.inj (h : Perm1 d a) {i j : Nat} (hi : i < d) (hj : j < d) (e : a.getD i 0 = a.getD j 0) : i = j := by
  have hi' : i < a.length := by rw [h.len]; exact hi
  have hj' : j < a.length := by rw [h.len]; exact hj
  rw [List.getD_eq_getElem?_getD, List.getD_eq_getElem?_getD, List.getElem?_eq_getElem hi', List.getElem?_eq_getElem hj'] at e
  exact (List.getElem_inj h.nodup).1 e
theorem Perm1.mul (ha : Perm1 d a) (hb : Perm1 d b) : Perm1 d (mulP a b) := by
  refine ⟨by rw [mulP_len, hb.len], fun x hx => ?_, ?_⟩
  · obtain ⟨y, hy, rfl⟩ := List.mem_map.1 hx
    exact ha.getD_lt (hb.lt y hy)
  · unfold mulP
    refine List.Pairwise.map _ (fun x y h => h) ?_
    have hp : b.Pairwise (fun x y => x < d ∧ y < d ∧ x ≠ y) := by
      refine List.Pairwise.imp_of_mem (fun {x y} hx hy hn => ⟨hb.lt x hx, hb.lt y hy, hn⟩) hb.nodup
    exact hp.imp fun {x y} h e => h.2.2 (ha.inj h.1 h.2.1 e)
theorem Perm1.one (d : Nat) : Perm1 d (oneP d) := ⟨by simp [oneP], fun x hx => by simpa [oneP] using hx, List.nodup_range⟩
theorem mulP_one (ha : Perm1 d a) : mulP a (oneP d) = a := by
  apply List.ext_getElem (by simp [mulP, oneP, ha.len])
  intro i h1 h2
  simp [mulP, oneP, List.getD_eq_getElem?_getD, List.getElem?_eq_getElem h2]
theorem one_mulP (ha : Perm1 d a) : mulP (oneP d) a = a := by
  apply List.ext_getElem (by simp [mulP])
  intro i h1 h2
  have hx := ha.lt _ (List.getElem_mem h2)
  simp [mulP, oneP, List.getD_eq_getElem?_getD, hx]
theorem mulP_assoc (hb : Perm1 d b) (hc : Perm1 d c) : mulP (mulP a b) c = mulP a (mulP b c) := by
  apply List.ext_getElem (by simp [mulP])
  intro i h1 h2
  have hi : i < c.length := by simpa [mulP] using h1
  have hx : c[i] < b.length := by rw [hb.len]; exact hc.lt _ (List.getElem_mem hi)
  simp [mulP, List.getD_eq_getElem?_getD, List.getElem?_eq_getElem hx]
/-- The product of a word of generators. -/
def prodP (d : Nat) (w : List (List Nat)) : List Nat := w.foldr mulP (oneP d)
theorem prodP_perm : ∀ {w : List (List Nat)}, (∀ p ∈ w, Perm1 d p) → Perm1 d (prodP d w)
  | [], _ => Perm1.one d
  | p :: _, h => (h p List.mem_cons_self).mul (prodP_perm fun q hq => h q (List.mem_cons_of_mem _ hq))
theorem prodP_snoc (w : List (List Nat)) (p : List Nat) (hw : ∀ q ∈ w, Perm1 d q) (hp : Perm1 d p) : prodP d (w ++ [p]) = mulP (prodP d w) p := by
  induction w with
  | nil => simp [prodP, mulP_one hp, one_mulP hp]
  | cons q w ih =>
    have hw' : ∀ x ∈ w, Perm1 d x := fun x hx => hw x (List.mem_cons_of_mem _ hx)
    have := ih hw'
    unfold prodP at this ⊢
    rw [List.cons_append, List.foldr_cons, this, List.foldr_cons]
    exact (mulP_assoc (prodP_perm hw') hp).symm
/-- A product of generators. -/
def GenP (d : Nat) (gens : List (List Nat)) (x : List Nat) : Prop := ∃ w, (∀ p ∈ w, p ∈ gens) ∧ x = prodP d w
variable {gens L : List (List Nat)}
theorem gen_one (d : Nat) (gens : List (List Nat)) : GenP d gens (oneP d) := ⟨[], by simp, rfl⟩
theorem gen_left {p x : List Nat} (hp : p ∈ gens) (h : GenP d gens x) : GenP d gens (mulP p x) := by
  obtain ⟨w, hw, rfl⟩ := h
  exact ⟨p :: w, fun q hq => (List.mem_cons.1 hq).elim (fun e => e ▸ hp) (hw q), rfl⟩
theorem gen_right (hg : ∀ p ∈ gens, Perm1 d p) {p x : List Nat} (hp : p ∈ gens) (h : GenP d gens x) : GenP d gens (mulP x p) := by
  obtain ⟨w, hw, rfl⟩ := h
  exact ⟨w ++ [p], fun q hq => (List.mem_append.1 hq).elim (hw q) (fun h => by rw [List.mem_singleton.1 h]; exact hp), (prodP_snoc w p (fun q hq => hg q (hw q hq)) (hg p hp)).symm⟩
theorem gen_perm (hg : ∀ p ∈ gens, Perm1 d p) {x : List Nat} (h : GenP d gens x) : Perm1 d x := by
  obtain ⟨w, hw, rfl⟩ := h
  exact prodP_perm fun p hp => hg p (hw p hp)
/-- What a list closed from the left holds: all products. -/
theorem close_left (h1 : oneP d ∈ L) (hc : ∀ x ∈ L, ∀ p ∈ gens, mulP p x ∈ L) {x : List Nat} (h : GenP d gens x) : x ∈ L := by
  obtain ⟨w, hw, rfl⟩ := h
  induction w with
  | nil => exact h1
  | cons p w ih => exact hc _ (ih fun q hq => hw q (List.mem_cons_of_mem _ hq)) p (hw p List.mem_cons_self)
theorem close_right (hg : ∀ p ∈ gens, Perm1 d p) (h1 : oneP d ∈ L) (hc : ∀ x ∈ L, ∀ p ∈ gens, mulP x p ∈ L) {x : List Nat} (h : GenP d gens x) : x ∈ L := by
  obtain ⟨w, hw, rfl⟩ := h
  have key : ∀ n, ∀ w : List (List Nat), w.length = n → (∀ p ∈ w, p ∈ gens) → prodP d w ∈ L := by
    intro n
    induction n with
    | zero =>
      intro w hn _
      rw [List.eq_nil_of_length_eq_zero hn]
      exact h1
    | succ n ih =>
      intro w hn hw
      have hne : w ≠ [] := by intro e; rw [e] at hn; simp at hn
      have e := List.dropLast_concat_getLast hne
      have hd : ∀ p ∈ w.dropLast, p ∈ gens := fun p hp => hw p ((List.dropLast_sublist _).subset hp)
      have hl : w.getLast hne ∈ gens := hw _ (List.getLast_mem hne)
      rw [← e, prodP_snoc _ _ (fun q hq => hg q (hd q hq)) (hg _ hl)]
      exact hc _ (ih _ (by simp [hn]) hd) _ hl
  exact key _ w rfl hw
/-- Two lists that hold just the products have the same members. -/
theorem close_same (hg : ∀ p ∈ gens, Perm1 d p) {L R : List (List Nat)} (l1 : oneP d ∈ L) (lc : ∀ x ∈ L, ∀ p ∈ gens, mulP p x ∈ L) (lg : ∀ x ∈ L, GenP d gens x) (r1 : oneP d ∈ R) (rc : ∀ x ∈ R, ∀ p ∈ gens, mulP x p ∈ R) (rg : ∀ x ∈ R, GenP d gens x) (x : List Nat) : x ∈ L ↔ x ∈ R :=
  ⟨fun h => close_right hg r1 rc (lg x h), fun h => close_left l1 lc (rg x h)⟩
theorem prodP_append (v w : List (List Nat)) (hv : ∀ q ∈ v, Perm1 d q) (hw : ∀ q ∈ w, Perm1 d q) : prodP d (v ++ w) = mulP (prodP d v) (prodP d w) := by
  induction v with
  | nil => exact (one_mulP (prodP_perm hw)).symm
  | cons q v ih =>
    have hv' : ∀ x ∈ v, Perm1 d x := fun x hx => hv x (List.mem_cons_of_mem _ hx)
    have := ih hv'
    unfold prodP at this ⊢
    rw [List.cons_append, List.foldr_cons, this, List.foldr_cons]
    exact (mulP_assoc (prodP_perm hv') (prodP_perm hw)).symm
theorem gen_mul (hg : ∀ p ∈ gens, Perm1 d p) {x y : List Nat} (hx : GenP d gens x) (hy : GenP d gens y) : GenP d gens (mulP x y) := by
  obtain ⟨v, hv, rfl⟩ := hx
  obtain ⟨w, hw, rfl⟩ := hy
  exact ⟨v ++ w, fun q hq => (List.mem_append.1 hq).elim (hv q) (hw q), (prodP_append v w (fun q hq => hg q (hv q hq)) (fun q hq => hg q (hw q hq))).symm⟩
end
end Go.Proofs.Ytdackakjcnnofaa

/- Groups of permutations, plain: the invariant of either closing loop, and that both end with the same elements. -/
namespace Go.Proofs.Ytdackakjcnnofaa

variable {d : Nat} {f f' : List Nat → List Nat → List Nat} {gens l : List (List Nat)}
/-- The elements in front of k are closed; of the one at k the first g generators are done. -/
structure GrowI (f : List Nat → List Nat → List Nat) (d : Nat) (gens : List (List Nat)) (k g : Nat) (l : List (List Nat)) : Prop where
  head : l[0]? = some (oneP d)
  gen : ∀ x ∈ l, GenP d gens x
  nodup : l.Nodup
  done : ∀ j x, j < k → l[j]? = some x → ∀ p ∈ gens, f p x ∈ l
  part : ∀ x, l[k]? = some x → ∀ p ∈ gens.take g, f p x ∈ l
  le : k ≤ l.length

theorem grow_start (f : List Nat → List Nat → List Nat) (d : Nat) (gens : List (List Nat)) : GrowI f d gens 0 0 [oneP d] :=
  ⟨rfl, fun x hx => by rw [List.mem_singleton.1 hx]; exact gen_one d gens, by simp, fun j x hj => absurd hj (by omega), fun x _ p hp => by simp at hp, by simp⟩
theorem take_succ_mem {g : Nat} {p q : List Nat} (hg : gens[g]? = some p) (hq : q ∈ gens.take (g + 1)) : q ∈ gens.take g ∨ q = p := by
  rw [List.take_add_one, hg] at hq
  simpa using hq
theorem grow_known {k g : Nat} (h : GrowI f d gens k g l) {x p : List Nat} (hx : l[k]? = some x) (hp : gens[g]? = some p) (hin : f p x ∈ l) : GrowI f d gens k (g + 1) l :=
  ⟨h.head, h.gen, h.nodup, h.done, fun y hy q hq => by
    rw [hx] at hy
    cases hy
    rcases take_succ_mem hp hq with hq | rfl
    · exact h.part x hx q hq
    · exact hin, h.le⟩
theorem grow_new {k g : Nat} (h : GrowI f d gens k g l) {x p : List Nat} (hx : l[k]? = some x) (hp : gens[g]? = some p) (hin : f p x ∉ l) (hgen : GenP d gens (f p x)) : GrowI f d gens k (g + 1) (l ++ [f p x]) := by
  have hk : k < l.length := (List.getElem?_eq_some_iff.1 hx).1
  have back : ∀ j, j ≤ k → (l ++ [f p x])[j]? = l[j]? := fun j hj => List.getElem?_append_left (by omega)
  refine ⟨by rw [back 0 (by omega)]; exact h.head, ?_, ?_, ?_, ?_, by simp; omega⟩
  · intro y hy
    rcases List.mem_append.1 hy with hy | hy
    · exact h.gen y hy
    · rw [List.mem_singleton.1 hy]; exact hgen
  · rw [List.nodup_append]
    exact ⟨h.nodup, by simp, fun a ha b hb e => hin (by rw [← List.mem_singleton.1 hb, ← e]; exact ha)⟩
  · intro j y hj hy q hq
    rw [back j (by omega)] at hy
    exact List.mem_append_left _ (h.done j y hj hy q hq)
  · intro y hy q hq
    rw [back k (Nat.le_refl k), hx] at hy
    cases hy
    rcases take_succ_mem hp hq with hq | rfl
    · exact List.mem_append_left _ (h.part x hx q hq)
    · simp
theorem grow_next {k g : Nat} (h : GrowI f d gens k g l) (hk : k < l.length) (hg : gens.length ≤ g) : GrowI f d gens (k + 1) 0 l :=
  ⟨h.head, h.gen, h.nodup, fun j x hj hx p hp => by
    rcases Nat.lt_or_ge j k with hjk | hjk
    · exact h.done j x hjk hx p hp
    · have e : j = k := by omega
      subst e
      exact h.part x hx p (by rw [List.take_of_length_le hg]; exact hp), fun x _ p hp => by simp at hp, hk⟩
theorem grow_end {k g : Nat} (h : GrowI f d gens k g l) (hk : l.length ≤ k) : ∀ x ∈ l, ∀ p ∈ gens, f p x ∈ l := by
  intro x hx p hp
  obtain ⟨j, hj, rfl⟩ := List.getElem_of_mem hx
  exact h.done j _ (by omega) (List.getElem?_eq_getElem hj) p hp
theorem grow_one {k g : Nat} (h : GrowI f d gens k g l) : oneP d ∈ l := List.mem_of_getElem? h.head
/-- Both loops end with the same elements. -/
theorem grow_same (hg : ∀ p ∈ gens, Perm1 d p) {L R : List (List Nat)} {g g' : Nat} (hL : GrowI (fun p x => mulP p x) d gens L.length g L) (hR : GrowI (fun p x => mulP x p) d gens R.length g' R) : L.Perm R := by
  rw [List.perm_ext_iff_of_nodup hL.nodup hR.nodup]
  exact close_same hg (grow_one hL) (grow_end hL (Nat.le_refl _)) hL.gen (grow_one hR) (grow_end hR (Nat.le_refl _)) hR.gen

/-- A permutation as a number: there are not many. -/
def code (x : List Nat) : Nat := x.foldl (fun n i => 5 * n + i) 0
theorem code_go : ∀ (x y : List Nat) (n m : Nat), x.length = y.length → (∀ i ∈ x, i < 5) → (∀ i ∈ y, i < 5) → x.foldl (fun n i => 5 * n + i) n = y.foldl (fun n i => 5 * n + i) m → n = m ∧ x = y
  | [], [], n, m, _, _, _, h => ⟨h, rfl⟩
  | a :: x, b :: y, n, m, hl, hx, hy, h => by
    have ha := hx a List.mem_cons_self
    have hb := hy b List.mem_cons_self
    obtain ⟨h1, h2⟩ := code_go x y (5 * n + a) (5 * m + b) (by simpa using hl) (fun i hi => hx i (List.mem_cons_of_mem _ hi)) (fun i hi => hy i (List.mem_cons_of_mem _ hi)) h
    have h3 : a = b := by omega
    exact ⟨by omega, by rw [h2, h3]⟩
theorem code_lt : ∀ (x : List Nat) (n b : Nat), (∀ i ∈ x, i < 5) → n < b → x.foldl (fun n i => 5 * n + i) n < b * 5 ^ x.length
  | [], n, b, _, h => by simpa using h
  | a :: x, n, b, hx, h => by
    have ha := hx a List.mem_cons_self
    have := code_lt x (5 * n + a) (b * 5) (fun i hi => hx i (List.mem_cons_of_mem _ hi)) (by omega)
    rw [List.foldl_cons, List.length_cons, Nat.pow_succ, Nat.mul_comm (5 ^ x.length) 5, ← Nat.mul_assoc]
    exact this
/-- So the loops end. -/
theorem perms_few (hd : d ≤ 5) (hp : ∀ x ∈ l, Perm1 d x) (hn : l.Nodup) : l.length ≤ 3125 := by
  have h5 : ∀ x ∈ l, ∀ i ∈ x, i < 5 := fun x hx i hi => Nat.lt_of_lt_of_le ((hp x hx).lt i hi) hd
  have hnd : (l.map code).Nodup := by
    rw [List.Nodup, List.pairwise_map]
    refine hn.imp_of_mem ?_
    intro a b ha hb hne e
    exact hne (code_go a b 0 0 (by rw [(hp a ha).len, (hp b hb).len]) (h5 a ha) (h5 b hb) e).2
  have hsub : l.map code ⊆ List.range 3125 := by
    intro c hc
    obtain ⟨x, hx, rfl⟩ := List.mem_map.1 hc
    have := code_lt x 0 1 (h5 x hx) (by omega)
    have h2 : 5 ^ x.length ≤ 5 ^ 5 := Nat.pow_le_pow_right (by omega) (by rw [(hp x hx).len]; exact hd)
    rw [List.mem_range]
    unfold code
    omega
  have := List.Nodup.length_le_of_subset hnd hsub
  simpa using this
end Go.Proofs.Ytdackakjcnnofaa

/- Groups of permutations, plain: sorted lists of elements; numbers behind the degree. -/
namespace Go.Proofs.Ytdackakjcnnofaa

variable {d : Nat} {L R : List (List Nat)}
/-- Two sorted lists of the same elements are one. -/
theorem sorted_same (hp : L.Perm R) (hL : L.Pairwise (· < ·)) (hR : R.Pairwise (· < ·)) : L = R :=
  hp.eq_of_pairwise (fun a _ _ _ h1 h2 => absurd (List.lt_trans h1 h2) (List.lt_irrefl a)) hL hR
/-- The reference's insertion. -/
def insP (out : List (List Nat)) (p : List Nat) : List (List Nat) := out.takeWhile (decide <| · < p) ++ p :: out.dropWhile (decide <| · < p)
theorem insP_perm (out : List (List Nat)) (p : List Nat) : (insP out p).Perm (p :: out) := by
  unfold insP
  refine List.perm_middle.trans ?_
  rw [List.takeWhile_append_dropWhile]
theorem insP_sorted {out : List (List Nat)} {p : List Nat} (h : out.Pairwise (· < ·)) (hn : p ∉ out) : (insP out p).Pairwise (· < ·) := by
  induction out with
  | nil => simp [insP]
  | cons a out ih =>
    rw [List.pairwise_cons] at h
    by_cases ha : a < p
    · have e : insP (a :: out) p = a :: insP out p := by simp [insP, ha]
      rw [e, List.pairwise_cons]
      refine ⟨fun x hx => ?_, ih h.2 fun hm => hn (List.mem_cons_of_mem _ hm)⟩
      rcases List.mem_cons.1 ((insP_perm out p).mem_iff.1 hx) with rfl | hx
      · exact ha
      · exact h.1 x hx
    · have e : insP (a :: out) p = p :: a :: out := by simp [insP, ha]
      have hpa : p < a := by
        rcases List.le_total a p with hle | hle
        · rcases List.le_iff_lt_or_eq.1 hle with h1 | h1
          · exact absurd h1 ha
          · exact absurd (h1 ▸ List.mem_cons_self) hn
        · rcases List.le_iff_lt_or_eq.1 hle with h1 | h1
          · exact h1
          · exact absurd (h1 ▸ List.mem_cons_self) hn
      rw [e, List.pairwise_cons, List.pairwise_cons]
      refine ⟨fun x hx => ?_, h⟩
      rcases List.mem_cons.1 hx with rfl | hx
      · exact hpa
      · exact List.lt_trans hpa (h.1 x hx)
def sortP (l : List (List Nat)) : List (List Nat) := l.foldl insP []
theorem sortP_go : ∀ (l out : List (List Nat)), out.Pairwise (· < ·) → (∀ x ∈ l, x ∉ out) → l.Nodup → (l.foldl insP out).Pairwise (· < ·) ∧ (l.foldl insP out).Perm (out ++ l)
  | [], out, h, _, _ => ⟨h, by simp⟩
  | p :: l, out, h, hd, hn => by
    rw [List.nodup_cons] at hn
    have hp := hd p List.mem_cons_self
    obtain ⟨h1, h2⟩ := sortP_go l (insP out p) (insP_sorted h hp) (fun x hx hm => by
      rcases List.mem_cons.1 ((insP_perm out p).mem_iff.1 hm) with rfl | hm
      · exact hn.1 hx
      · exact hd x (List.mem_cons_of_mem _ hx) hm) hn.2
    refine ⟨h1, h2.trans ?_⟩
    refine ((insP_perm out p).append_right l).trans ?_
    exact List.perm_middle.symm
theorem sortP_sorted {l : List (List Nat)} (hn : l.Nodup) : (sortP l).Pairwise (· < ·) := (sortP_go l [] List.Pairwise.nil (by simp) hn).1
theorem sortP_perm {l : List (List Nat)} (hn : l.Nodup) : (sortP l).Perm l := (sortP_go l [] List.Pairwise.nil (by simp) hn).2
theorem sortP_same {l r : List (List Nat)} (hl : l.Nodup) (hr : r.Nodup) (h : l.Perm r) : sortP l = sortP r :=
  sorted_same ((sortP_perm hl).trans (h.trans (sortP_perm hr).symm)) (sortP_sorted hl) (sortP_sorted hr)

/-- A permutation with the numbers behind the degree. -/
def padP (d : Nat) (x : List Nat) : List Nat := x ++ List.range' d (5 - d)
theorem padP_one (hd : d ≤ 5) : padP d (oneP d) = oneP 5 := by
  unfold padP oneP
  have h := @List.range'_append_1 0 d (5 - d)
  rw [Nat.zero_add] at h
  rw [List.range_eq_range', List.range_eq_range', h]
  congr 1
  omega
theorem padP_length {x : List Nat} (hd : d ≤ 5) (hx : Perm1 d x) : (padP d x).length = 5 := by
  simp [padP, hx.len]
  omega
theorem padP_getD {x : List Nat} (hd : d ≤ 5) (hx : Perm1 d x) (i : Nat) (hi : i < 5) : (padP d x).getD i 0 = if i < d then x.getD i 0 else i := by
  unfold padP
  rw [List.getD_eq_getElem?_getD, List.getElem?_append, hx.len]
  split
  · rw [List.getD_eq_getElem?_getD]
  · rw [List.getElem?_range' (by omega)]
    simp
    omega
theorem padP_mul {a b : List Nat} (hd : d ≤ 5) (ha : Perm1 d a) (hb : Perm1 d b) : mulP (padP d a) (padP d b) = padP d (mulP a b) := by
  have hm := ha.mul hb
  apply List.ext_getElem
  · rw [padP_length hd hm, mulP, List.length_map, padP_length hd hb]
  intro i h1 h2
  have hi : i < 5 := by rw [padP_length hd hm] at h2; exact h2
  have e1 : (padP d b)[i]'(by rw [padP_length hd hb]; exact hi) = (padP d b).getD i 0 := by
    rw [List.getD_eq_getElem?_getD, List.getElem?_eq_getElem]; rfl
  have e2 : (padP d (mulP a b))[i] = (padP d (mulP a b)).getD i 0 := by
    rw [List.getD_eq_getElem?_getD, List.getElem?_eq_getElem]; rfl
  rw [e2, padP_getD hd hm i hi]
  simp only [mulP, List.getElem_map]
  rw [e1, padP_getD hd hb i hi]
  by_cases hid : i < d
  · have hil : i < b.length := by rw [hb.len]; exact hid
    have e3 : b.getD i 0 = b[i] := by rw [List.getD_eq_getElem?_getD, List.getElem?_eq_getElem hil]; rfl
    have hlt := hb.lt _ (List.getElem_mem hil)
    rw [if_pos hid, if_pos hid, e3, padP_getD hd ha _ (by omega), if_pos hlt]
    rw [List.getD_eq_getElem?_getD (l := List.map _ _), List.getElem?_map, List.getElem?_eq_getElem hil]
    rfl
  · rw [if_neg hid, if_neg hid, padP_getD hd ha i hi, if_neg hid]
theorem padP_inj {a b : List Nat} (ha : Perm1 d a) (hb : Perm1 d b) (h : padP d a = padP d b) : a = b :=
  List.append_inj_left h (by rw [ha.len, hb.len])
theorem app_lt : ∀ {a b : List Nat} (c : List Nat), a.length = b.length → (a ++ c < b ++ c ↔ a < b)
  | [], [], c, _ => by simp
  | x :: a, y :: b, c, h => by
    rw [List.cons_append, List.cons_append, List.cons_lt_cons_iff, List.cons_lt_cons_iff, app_lt c (by simpa using h)]
theorem padP_lt {a b : List Nat} (ha : Perm1 d a) (hb : Perm1 d b) : padP d a < padP d b ↔ a < b :=
  app_lt _ (by rw [ha.len, hb.len])
end Go.Proofs.Ytdackakjcnnofaa

/- Groups of permutations, plain: a sorted closed list is a group, by numbers. -/
namespace Go.Proofs.Ytdackakjcnnofaa

/-- Sorted, closed, with the identity. -/
structure Grp (d : Nat) (E : List (List Nat)) : Prop where
  perm : ∀ x ∈ E, Perm1 d x
  sorted : E.Pairwise (· < ·)
  one : oneP d ∈ E
  mul : ∀ a ∈ E, ∀ b ∈ E, mulP a b ∈ E
variable {d : Nat} {E : List (List Nat)}
theorem Grp.nodup (h : Grp d E) : E.Nodup := List.Pairwise.imp (fun {a b} (hab : a < b) (e : a = b) => List.lt_irrefl b (by rw [e] at hab; exact hab)) h.sorted
/-- The identity is the least. -/
theorem one_least : ∀ (x : List Nat) (k : Nat), (∀ y ∈ x, k ≤ y) → x.Nodup → x ≠ List.range' k x.length → List.range' k x.length < x
  | [], k, _, _, h => absurd rfl h
  | a :: x, k, hk, hn, h => by
    rw [List.length_cons, List.range'_succ] at h ⊢
    rw [List.cons_lt_cons_iff]
    rw [List.nodup_cons] at hn
    have ha := hk a List.mem_cons_self
    rcases Nat.lt_or_ge k a with hlt | hge
    · exact Or.inl hlt
    · have e : a = k := by omega
      subst e
      refine Or.inr ⟨rfl, one_least x (a + 1) (fun y hy => ?_) hn.2 fun e => h (by rw [← e])⟩
      have := hk y (List.mem_cons_of_mem _ hy)
      rcases Nat.lt_or_ge a y with h1 | h1
      · exact h1
      · exact absurd (show y ∈ x from hy) (by rw [show y = a by omega]; exact hn.1)
theorem one_le {x : List Nat} (h : Perm1 d x) (hne : x ≠ oneP d) : oneP d < x := by
  have := one_least x 0 (fun _ _ => Nat.zero_le _) h.nodup
  rw [h.len] at this
  unfold oneP at hne ⊢
  rw [List.range_eq_range'] at hne ⊢
  exact this hne
theorem Grp.first (h : Grp d E) : E[0]? = some (oneP d) := by
  cases E with
  | nil => exact absurd h.one (by simp)
  | cons a E =>
    rw [List.getElem?_cons_zero]
    rcases List.mem_cons.1 h.one with e | hm
    · rw [e]
    · have h1 := (List.pairwise_cons.1 h.sorted).1 _ hm
      have ha := h.perm a List.mem_cons_self
      by_cases e : a = oneP d
      · rw [e]
      · exact absurd (List.lt_trans h1 (one_le ha e)) (List.lt_irrefl _)
/-- Cancelling on the left. -/
theorem mulP_cancel {a b c : List Nat} (ha : Perm1 d a) (hb : Perm1 d b) (hc : Perm1 d c) (h : mulP a b = mulP a c) : b = c := by
  apply List.ext_getElem (by rw [hb.len, hc.len])
  intro i h1 h2
  have hbl : b[i] < a.length := by rw [ha.len]; exact hb.lt _ (List.getElem_mem h1)
  have hcl : c[i] < a.length := by rw [ha.len]; exact hc.lt _ (List.getElem_mem h2)
  have e := congrArg (fun l => l[i]?) h
  simp [mulP, List.getElem?_eq_getElem h1, List.getElem?_eq_getElem h2, List.getD_eq_getElem?_getD, List.getElem?_eq_getElem hbl, List.getElem?_eq_getElem hcl] at e
  exact (List.getElem_inj ha.nodup).1 e
/-- A list mapped into itself without doubles is reached whole. -/
theorem onto_of_inj (hn : E.Nodup) (f : List Nat → List Nat) (hm : ∀ x ∈ E, f x ∈ E) (hi : ∀ x ∈ E, ∀ y ∈ E, f x = f y → x = y) {z : List Nat} (hz : z ∈ E) : ∃ x ∈ E, f x = z := by
  by_cases h : z ∈ E.map f
  · obtain ⟨x, hx, e⟩ := List.mem_map.1 h
    exact ⟨x, hx, e⟩
  · exfalso
    have hnd : (z :: E.map f).Nodup := by
      rw [List.nodup_cons]
      refine ⟨h, ?_⟩
      rw [List.Nodup, List.pairwise_map]
      exact hn.imp_of_mem fun ha hb hne e => hne (hi _ ha _ hb e)
    have hs : (z :: E.map f) ⊆ E := by
      intro y hy
      rcases List.mem_cons.1 hy with rfl | hy
      · exact hz
      · obtain ⟨x, hx, rfl⟩ := List.mem_map.1 hy
        exact hm x hx
    have := List.Nodup.length_le_of_subset hnd hs
    simp at this
    omega
theorem Grp.inv (h : Grp d E) {a : List Nat} (ha : a ∈ E) : ∃ b ∈ E, mulP a b = oneP d :=
  onto_of_inj h.nodup (mulP a) (fun x hx => h.mul a ha x hx) (fun x hx y hy e => mulP_cancel (h.perm a ha) (h.perm x hx) (h.perm y hy) e) h.one
theorem Grp.inv_two (h : Grp d E) {a b : List Nat} (ha : a ∈ E) (hb : b ∈ E) (e : mulP a b = oneP d) : mulP b a = oneP d := by
  have pa := h.perm a ha
  have pb := h.perm b hb
  refine mulP_cancel pa (pb.mul pa) (Perm1.one d) ?_
  rw [← mulP_assoc pb pa, e, one_mulP pa, mulP_one pa]

/-- The number of an element. -/
def numP (E : List (List Nat)) (x : List Nat) : Nat := E.idxOf x
def elP (E : List (List Nat)) (a : Nat) : List Nat := E.getD a []
def timesN (E : List (List Nat)) (a b : Nat) : Nat := numP E (mulP (elP E a) (elP E b))
def invN (E : List (List Nat)) (a : Nat) : Nat := ((List.range E.length).find? fun b => timesN E a b == 0).getD 0
theorem elP_mem {a : Nat} (h : a < E.length) : elP E a ∈ E := by
  rw [elP, List.getD_eq_getElem?_getD, List.getElem?_eq_getElem h]
  exact List.getElem_mem h
theorem numP_lt {x : List Nat} (h : x ∈ E) : numP E x < E.length := List.idxOf_lt_length_of_mem h
theorem elP_num {x : List Nat} (h : x ∈ E) : elP E (numP E x) = x := by
  rw [elP, List.getD_eq_getElem?_getD, List.getElem?_eq_getElem (numP_lt h)]
  exact List.getElem_idxOf (numP_lt h)
theorem numP_el (hn : E.Nodup) {a : Nat} (h : a < E.length) : numP E (elP E a) = a := by
  have h2 := numP_lt (elP_mem h)
  have e := elP_num (elP_mem h)
  have g : ∀ {i : Nat} (hi : i < E.length), elP E i = E[i] := fun hi => by
    rw [elP, List.getD_eq_getElem?_getD, List.getElem?_eq_getElem hi]; rfl
  exact (List.getElem_inj hn).1 ((g h2).symm.trans (e.trans (g h)))
theorem Grp.timesN_lt (h : Grp d E) {a b : Nat} (ha : a < E.length) (hb : b < E.length) : timesN E a b < E.length := numP_lt (h.mul _ (elP_mem ha) _ (elP_mem hb))
theorem Grp.el_times (h : Grp d E) {a b : Nat} (ha : a < E.length) (hb : b < E.length) : elP E (timesN E a b) = mulP (elP E a) (elP E b) := elP_num (h.mul _ (elP_mem ha) _ (elP_mem hb))
theorem Grp.el_zero (h : Grp d E) : elP E 0 = oneP d := by rw [elP, List.getD_eq_getElem?_getD, h.first]; rfl
theorem Grp.pos (h : Grp d E) : 0 < E.length := List.length_pos_of_mem h.one
theorem Grp.num_one (h : Grp d E) : numP E (oneP d) = 0 := by rw [← h.el_zero]; exact numP_el h.nodup h.pos
theorem Grp.el_inj (h : Grp d E) {a b : Nat} (ha : a < E.length) (hb : b < E.length) (e : elP E a = elP E b) : a = b := by
  rw [← numP_el h.nodup ha, ← numP_el h.nodup hb, e]
theorem Grp.times_assoc (h : Grp d E) {a b c : Nat} (ha : a < E.length) (hb : b < E.length) (hc : c < E.length) : timesN E (timesN E a b) c = timesN E a (timesN E b c) := by
  refine h.el_inj (h.timesN_lt (h.timesN_lt ha hb) hc) (h.timesN_lt ha (h.timesN_lt hb hc)) ?_
  rw [h.el_times (h.timesN_lt ha hb) hc, h.el_times ha hb, h.el_times ha (h.timesN_lt hb hc), h.el_times hb hc]
  exact mulP_assoc (h.perm _ (elP_mem hb)) (h.perm _ (elP_mem hc))
theorem Grp.zero_times (h : Grp d E) {a : Nat} (ha : a < E.length) : timesN E 0 a = a := by
  rw [timesN, h.el_zero, one_mulP (h.perm _ (elP_mem ha)), numP_el h.nodup ha]
theorem Grp.times_zero (h : Grp d E) {a : Nat} (ha : a < E.length) : timesN E a 0 = a := by
  rw [timesN, h.el_zero, mulP_one (h.perm _ (elP_mem ha)), numP_el h.nodup ha]
theorem Grp.times_cancel (h : Grp d E) {a b c : Nat} (ha : a < E.length) (hb : b < E.length) (hc : c < E.length) (e : timesN E a b = timesN E a c) : b = c := by
  have e2 := congrArg (elP E) e
  rw [h.el_times ha hb, h.el_times ha hc] at e2
  exact h.el_inj hb hc (mulP_cancel (h.perm _ (elP_mem ha)) (h.perm _ (elP_mem hb)) (h.perm _ (elP_mem hc)) e2)
theorem Grp.inv_spec (h : Grp d E) {a : Nat} (ha : a < E.length) : invN E a < E.length ∧ timesN E a (invN E a) = 0 := by
  obtain ⟨b, hb, e⟩ := h.inv (elP_mem ha)
  have hz : timesN E a (numP E b) = 0 := by rw [timesN, elP_num hb, e, h.num_one]
  unfold invN
  cases hf : (List.range E.length).find? fun b => timesN E a b == 0 with
  | none =>
    have := List.find?_eq_none.1 hf (numP E b) (List.mem_range.2 (numP_lt hb))
    simp [hz] at this
  | some c =>
    have h1 := List.find?_some hf
    have h2 := List.mem_range.1 (List.mem_of_find?_eq_some hf)
    exact ⟨h2, by simpa using h1⟩
theorem Grp.inv_uniq (h : Grp d E) {a b : Nat} (ha : a < E.length) (hb : b < E.length) (e : timesN E a b = 0) : b = invN E a :=
  h.times_cancel ha hb (h.inv_spec ha).1 (by rw [e, (h.inv_spec ha).2])
theorem Grp.inv_left (h : Grp d E) {a : Nat} (ha : a < E.length) : timesN E (invN E a) a = 0 := by
  have hs := h.inv_spec ha
  refine h.times_cancel ha (h.timesN_lt hs.1 ha) h.pos ?_
  rw [← h.times_assoc ha hs.1 ha, hs.2, h.zero_times ha, h.times_zero ha]
end Go.Proofs.Ytdackakjcnnofaa

/- Groups of permutations, plain: classes. -/
namespace Go.Proofs.Ytdackakjcnnofaa

variable {d : Nat} {E : List (List Nat)}
def cjN (E : List (List Nat)) (c a : Nat) : Nat := timesN E (timesN E c a) (invN E c)
def conjB (E : List (List Nat)) (a b : Nat) : Bool := (List.range E.length).any fun c => cjN E c a == b
theorem Grp.cj_lt (h : Grp d E) {c a : Nat} (hc : c < E.length) (ha : a < E.length) : cjN E c a < E.length := h.timesN_lt (h.timesN_lt hc ha) (h.inv_spec hc).1
theorem Grp.cj_iff (h : Grp d E) {c a b : Nat} (hc : c < E.length) (ha : a < E.length) (hb : b < E.length) : cjN E c a = b ↔ timesN E c a = timesN E b c := by
  have hs := h.inv_spec hc
  constructor
  · intro e
    rw [← e, cjN, h.times_assoc (h.timesN_lt hc ha) hs.1 hc, h.inv_left hc, h.times_zero (h.timesN_lt hc ha)]
  · intro e
    rw [cjN, e, h.times_assoc hb hc hs.1, hs.2, h.times_zero hb]
theorem conjB_iff {a b : Nat} : conjB E a b = true ↔ ∃ c, c < E.length ∧ cjN E c a = b := by
  simp [conjB]
theorem Grp.conj_refl (h : Grp d E) {a : Nat} (ha : a < E.length) : conjB E a a = true :=
  conjB_iff.2 ⟨0, h.pos, (h.cj_iff h.pos ha ha).2 (by rw [h.zero_times ha, h.times_zero ha])⟩
theorem Grp.conj_symm (h : Grp d E) {a b : Nat} (ha : a < E.length) (hb : b < E.length) (e : conjB E a b = true) : conjB E b a = true := by
  obtain ⟨c, hc, e⟩ := conjB_iff.1 e
  rw [h.cj_iff hc ha hb] at e
  have hs := h.inv_spec hc
  refine conjB_iff.2 ⟨invN E c, hs.1, (h.cj_iff hs.1 hb ha).2 (h.times_cancel hc (h.timesN_lt hs.1 hb) (h.timesN_lt ha hs.1) ?_)⟩
  rw [← h.times_assoc hc hs.1 hb, hs.2, h.zero_times hb, ← h.times_assoc hc ha hs.1, e, h.times_assoc hb hc hs.1, hs.2, h.times_zero hb]
theorem Grp.conj_trans (h : Grp d E) {a b c : Nat} (ha : a < E.length) (hb : b < E.length) (hc : c < E.length) (e : conjB E a b = true) (f : conjB E b c = true) : conjB E a c = true := by
  obtain ⟨x, hx, e⟩ := conjB_iff.1 e
  obtain ⟨y, hy, f⟩ := conjB_iff.1 f
  rw [h.cj_iff hx ha hb] at e
  rw [h.cj_iff hy hb hc] at f
  refine conjB_iff.2 ⟨timesN E y x, h.timesN_lt hy hx, (h.cj_iff (h.timesN_lt hy hx) ha hc).2 ?_⟩
  rw [h.times_assoc hy hx ha, e, ← h.times_assoc hy hb hx, f, h.times_assoc hc hy hx]
def firstB (E : List (List Nat)) (a : Nat) : Bool := (List.range a).all fun b => !conjB E b a
def repsN (E : List (List Nat)) (k : Nat) : List Nat := (List.range k).filter (firstB E)
def clsN (E : List (List Nat)) (a : Nat) : List Nat := (List.range E.length).filter (conjB E a)
def classesN (E : List (List Nat)) : List (List Nat) := (repsN E E.length).map (clsN E)
/-- The class that an element has before the element k is looked at; -1: none yet. -/
def ofN (E : List (List Nat)) (k b : Nat) : Int := match (repsN E k).findIdx? (fun r => conjB E r b) with
  | some i => (i : Int)
  | none => -1
theorem reps_mem {k r : Nat} : r ∈ repsN E k ↔ r < k ∧ firstB E r = true := by simp [repsN]
theorem first_iff {a : Nat} : firstB E a = true ↔ ∀ b, b < a → conjB E b a = false := by simp [firstB]
theorem reps_succ_no {a : Nat} (h : firstB E a = false) : repsN E (a + 1) = repsN E a := by
  simp [repsN, List.range_succ, h]
theorem reps_succ {a : Nat} (h : firstB E a = true) : repsN E (a + 1) = repsN E a ++ [a] := by
  simp [repsN, List.range_succ, h]
/-- Each element has a least one in its class. -/
theorem Grp.has_rep (h : Grp d E) : ∀ (n b a : Nat), b ≤ n → b < E.length → a < E.length → conjB E b a = true → ∃ r, r ≤ b ∧ firstB E r = true ∧ conjB E r a = true
  | n, b, a, hn, hb, ha, e => by
    by_cases hf : firstB E b = true
    · exact ⟨b, Nat.le_refl b, hf, e⟩
    · have : ∃ c, c < b ∧ conjB E c b = true := by
        by_cases hex : ∃ c, c < b ∧ conjB E c b = true
        · exact hex
        · exact absurd (first_iff.2 fun c hc => by
            cases hcb : conjB E c b
            · rfl
            · exact absurd ⟨c, hc, hcb⟩ hex) hf
      obtain ⟨c, hc, ec⟩ := this
      cases n with
      | zero => omega
      | succ n =>
        obtain ⟨r, hr, h1, h2⟩ := h.has_rep n c a (by omega) (by omega) ha (h.conj_trans (by omega) hb ha ec e)
        exact ⟨r, by omega, h1, h2⟩
theorem of_none {k b : Nat} : ofN E k b < 0 ↔ ∀ r ∈ repsN E k, conjB E r b = false := by
  unfold ofN
  cases hf : (repsN E k).findIdx? (fun r => conjB E r b) with
  | none =>
    rw [List.findIdx?_eq_none_iff] at hf
    simp only
    exact ⟨fun _ r hr => hf r hr, fun _ => by omega⟩
  | some i =>
    simp only
    refine ⟨fun hlt => absurd hlt (by omega), fun hall => ?_⟩
    rw [List.findIdx?_eq_some_iff_getElem] at hf
    obtain ⟨hi, he, _⟩ := hf
    rw [hall _ (List.getElem_mem hi)] at he
    cases he
theorem Grp.of_self (h : Grp d E) {a : Nat} (ha : a < E.length) : ofN E a a < 0 ↔ firstB E a = true := by
  rw [of_none, first_iff]
  constructor
  · intro hall b hb
    cases e : conjB E b a
    · rfl
    · obtain ⟨r, hr, h1, h2⟩ := h.has_rep b b a (Nat.le_refl b) (by omega) ha e
      rw [hall r (reps_mem.2 ⟨by omega, h1⟩)] at h2
      cases h2
  · intro hall r hr
    exact hall r (reps_mem.1 hr).1
/-- What is of the class of a new first element has no class yet. -/
theorem Grp.of_new (h : Grp d E) {a b : Nat} (ha : a < E.length) (hb : b < E.length) (hf : firstB E a = true) (e : conjB E a b = true) : ofN E a b < 0 := by
  rw [of_none]
  intro r hr
  have hr := reps_mem.1 hr
  cases er : conjB E r b
  · rfl
  · have := h.conj_trans (by omega) hb ha er (h.conj_symm ha hb e)
    rw [first_iff.1 hf r hr.1] at this
    cases this
theorem of_succ_no {a b : Nat} (hf : firstB E a = false) : ofN E (a + 1) b = ofN E a b := by unfold ofN; rw [reps_succ_no hf]
theorem of_lt {k b : Nat} : ofN E k b < (repsN E k).length := by
  unfold ofN
  cases hf : (repsN E k).findIdx? (fun r => conjB E r b) with
  | none => simp only; omega
  | some i =>
    rw [List.findIdx?_eq_some_iff_getElem] at hf
    obtain ⟨hi, _⟩ := hf
    simp only
    omega
theorem Grp.of_succ (h : Grp d E) {a b : Nat} (ha : a < E.length) (hb : b < E.length) (hf : firstB E a = true) : ofN E (a + 1) b = if conjB E a b = true then ((repsN E a).length : Int) else ofN E a b := by
  have hnew := h.of_new ha hb hf
  unfold ofN at hnew ⊢
  rw [reps_succ hf, List.findIdx?_append]
  cases hi : (repsN E a).findIdx? (fun r => conjB E r b) with
  | some i =>
    rw [hi] at hnew
    by_cases e : conjB E a b = true
    · have := hnew e
      simp only at this
      omega
    · simp [e]
  | none =>
    by_cases e : conjB E a b = true
    · simp [e]
    · simp [e]
/-- The members of a class by the numbers laid. -/
theorem Grp.cls_of (h : Grp d E) {a : Nat} (ha : a < E.length) (hf : firstB E a = true) : (List.range E.length).filter (fun b => ofN E (a + 1) b == (repsN E a).length) = clsN E a := by
  unfold clsN
  refine List.filter_congr fun b hb => ?_
  have hb := List.mem_range.1 hb
  rw [h.of_succ ha hb hf]
  by_cases e : conjB E a b = true
  · simp [e]
  · have := @of_lt E a b
    rw [if_neg e]
    have e2 : conjB E a b = false := by simpa using e
    rw [e2]
    have : ofN E a b ≠ ((repsN E a).length : Int) := by omega
    simpa using this
/-- The first of a class is the one it was found at. -/
theorem Grp.cls_head (h : Grp d E) {a : Nat} (ha : a < E.length) (hf : firstB E a = true) : (clsN E a)[0]? = some a := by
  unfold clsN
  rw [← List.head?_eq_getElem?, List.head?_filter, List.find?_range_eq_some]
  refine ⟨h.conj_refl ha, List.mem_range.2 ha, fun b hb => ?_⟩
  cases e : conjB E a b
  · rfl
  · have := h.conj_symm ha (by omega) e
    rw [first_iff.1 hf b hb] at this
    cases this
end Go.Proofs.Ytdackakjcnnofaa

/- Groups of permutations, plain: powers, orders, the prime. -/
namespace Go.Proofs.Ytdackakjcnnofaa

variable {d : Nat} {E : List (List Nat)}
def powN (E : List (List Nat)) (a : Nat) : Nat → Nat
  | 0 => 0
  | k + 1 => timesN E (powN E a k) a
theorem Grp.pow_lt (h : Grp d E) {a : Nat} (ha : a < E.length) : ∀ k, powN E a k < E.length
  | 0 => h.pos
  | k + 1 => h.timesN_lt (h.pow_lt ha k) ha
theorem Grp.pow_one (h : Grp d E) {a : Nat} (ha : a < E.length) : powN E a 1 = a := h.zero_times ha
theorem Grp.pow_add (h : Grp d E) {a : Nat} (ha : a < E.length) (j : Nat) : ∀ k, powN E a (j + k) = timesN E (powN E a j) (powN E a k)
  | 0 => (h.times_zero (h.pow_lt ha j)).symm
  | k + 1 => by
    show timesN E (powN E a (j + k)) a = timesN E (powN E a j) (timesN E (powN E a k) a)
    rw [h.pow_add ha j k, h.times_assoc (h.pow_lt ha j) (h.pow_lt ha k) ha]
/-- Some power from 1 to the number of elements is the identity. -/
theorem Grp.has_order (h : Grp d E) {a : Nat} (ha : a < E.length) : ∃ m, m < E.length ∧ powN E a (m + 1) = 0 := by
  by_cases hex : ∃ m, m < E.length ∧ powN E a (m + 1) = 0
  · exact hex
  · exfalso
    have hno : ∀ m, m < E.length → powN E a (m + 1) ≠ 0 := fun m hm e => hex ⟨m, hm, e⟩
    have hnd : ((List.range (E.length + 1)).map (powN E a)).Nodup := by
      rw [List.Nodup, List.pairwise_map]
      refine List.pairwise_lt_range.imp_of_mem ?_
      intro i j hi hj hij e
      have hj := List.mem_range.1 hj
      have e2 : powN E a j = timesN E (powN E a i) (powN E a (j - i)) := by
        rw [← h.pow_add ha]; congr 1; omega
      have e3 := h.times_cancel (h.pow_lt ha i) (h.pow_lt ha (j - i)) h.pos (by rw [← e2, ← e, h.times_zero (h.pow_lt ha i)])
      exact hno (j - i - 1) (by omega) (by rw [show j - i - 1 + 1 = j - i by omega]; exact e3)
    have hs : (List.range (E.length + 1)).map (powN E a) ⊆ List.range E.length := by
      intro x hx
      obtain ⟨k, _, rfl⟩ := List.mem_map.1 hx
      exact List.mem_range.2 (h.pow_lt ha k)
    have := List.Nodup.length_le_of_subset hnd hs
    simp at this
    omega
def ordN (E : List (List Nat)) (a : Nat) : Nat := ((List.range E.length).find? fun m => powN E a (m + 1) == 0).getD 0 + 1
theorem Grp.ord_spec (h : Grp d E) {a : Nat} (ha : a < E.length) : ordN E a ≤ E.length ∧ powN E a (ordN E a) = 0 ∧ ∀ k, 0 < k → k < ordN E a → powN E a k ≠ 0 := by
  obtain ⟨m, hm, e⟩ := h.has_order ha
  unfold ordN
  cases hf : (List.range E.length).find? fun m => powN E a (m + 1) == 0 with
  | none =>
    have := List.find?_eq_none.1 hf m (List.mem_range.2 hm)
    simp [e] at this
  | some c =>
    rw [List.find?_range_eq_some] at hf
    obtain ⟨h1, h2, h3⟩ := hf
    have h2 := List.mem_range.1 h2
    refine ⟨by simp only [Option.getD_some]; omega, by simpa using h1, fun k hk hlt => ?_⟩
    simp only [Option.getD_some] at hlt
    have := h3 (k - 1) (by omega)
    rw [show k - 1 + 1 = k by omega] at this
    simpa using this
theorem Grp.pow_mul_ord (h : Grp d E) {a : Nat} (ha : a < E.length) : ∀ k, powN E a (ordN E a * k) = 0
  | 0 => rfl
  | k + 1 => by rw [Nat.mul_succ, h.pow_add ha, h.pow_mul_ord ha k, (h.ord_spec ha).2.1, h.zero_times h.pos]
/-- A power is the identity just where the order divides. -/
theorem Grp.pow_zero_iff (h : Grp d E) {a : Nat} (ha : a < E.length) (k : Nat) : powN E a k = 0 ↔ k % ordN E a = 0 := by
  have hs := h.ord_spec ha
  have hp : 0 < ordN E a := Nat.succ_pos _
  have e : powN E a k = powN E a (k % ordN E a) := by
    conv => lhs; rw [← Nat.div_add_mod k (ordN E a)]
    rw [h.pow_add ha, h.pow_mul_ord ha, h.zero_times (h.pow_lt ha _)]
  constructor
  · intro hz
    rw [e] at hz
    rcases Nat.eq_zero_or_pos (k % ordN E a) with h0 | h0
    · exact h0
    · exact absurd hz (hs.2.2 _ h0 (Nat.mod_lt _ hp))
  · intro hz
    rw [e, hz]; rfl
/-- Conjugates have one order. -/
theorem Grp.pow_conj (h : Grp d E) {a b c : Nat} (ha : a < E.length) (hb : b < E.length) (hc : c < E.length) (e : timesN E c a = timesN E b c) : ∀ k, timesN E c (powN E a k) = timesN E (powN E b k) c
  | 0 => by rw [powN, powN, h.times_zero hc, h.zero_times hc]
  | k + 1 => by
    rw [powN, powN, ← h.times_assoc hc (h.pow_lt ha k) ha, h.pow_conj ha hb hc e k, h.times_assoc (h.pow_lt hb k) hc ha, e, h.times_assoc (h.pow_lt hb k) hb hc]
theorem Grp.ord_conj_le (h : Grp d E) {a b : Nat} (ha : a < E.length) (hb : b < E.length) (e : conjB E a b = true) : powN E b (ordN E a) = 0 := by
  obtain ⟨c, hc, e⟩ := conjB_iff.1 e
  rw [h.cj_iff hc ha hb] at e
  have h1 := h.pow_conj ha hb hc e (ordN E a)
  rw [(h.ord_spec ha).2.1, h.times_zero hc] at h1
  have hp := h.pow_lt hb (ordN E a)
  have hs := h.inv_spec hc
  have h2 : timesN E c (invN E c) = timesN E (timesN E (powN E b (ordN E a)) c) (invN E c) := by rw [← h1]
  rw [hs.2, h.times_assoc hp hc hs.1, hs.2, h.times_zero hp] at h2
  exact h2.symm
theorem Grp.ord_conj (h : Grp d E) {a b : Nat} (ha : a < E.length) (hb : b < E.length) (e : conjB E a b = true) : ordN E a = ordN E b := by
  have h1 := (h.pow_zero_iff hb _).1 (h.ord_conj_le ha hb e)
  have h2 := (h.pow_zero_iff ha _).1 (h.ord_conj_le hb ha (h.conj_symm ha hb e))
  exact Nat.dvd_antisymm (Nat.dvd_of_mod_eq_zero h2) (Nat.dvd_of_mod_eq_zero h1)
end Go.Proofs.Ytdackakjcnnofaa

/- Groups of permutations, plain: orders divide 60; the prime. -/
namespace Go.Proofs.Ytdackakjcnnofaa

variable {d : Nat} {E : List (List Nat)}
def powP (d : Nat) (x : List Nat) : Nat → List Nat
  | 0 => oneP d
  | k + 1 => mulP (powP d x k) x
def listsP (d : Nat) : Nat → List (List Nat)
  | 0 => [[]]
  | n + 1 => (List.range d).flatMap fun a => (listsP d n).map (a :: ·)
theorem listsP_mem : ∀ {x : List Nat}, (∀ i ∈ x, i < d) → x ∈ listsP d x.length
  | [], _ => by simp [listsP]
  | a :: x, h => by
    rw [List.length_cons, listsP, List.mem_flatMap]
    exact ⟨a, List.mem_range.2 (h a List.mem_cons_self), List.mem_map.2 ⟨x, listsP_mem fun i hi => h i (List.mem_cons_of_mem _ hi), rfl⟩⟩
def nodB : List Nat → Bool
  | [] => true
  | a :: x => !x.elem a && nodB x
theorem nodB_of : ∀ {x : List Nat}, x.Nodup → nodB x = true
  | [], _ => rfl
  | a :: x, h => by
    rw [List.nodup_cons] at h
    rw [nodB, nodB_of h.2, Bool.and_true, Bool.not_eq_true', ← Bool.not_eq_true, List.elem_iff]
    exact h.1
def sixtyB (d : Nat) : Bool := (listsP d d).all fun x => !nodB x || powP d x 60 == oneP d
theorem sixty_checked : (sixtyB 0 && sixtyB 1 && sixtyB 2 && sixtyB 3 && sixtyB 4 && sixtyB 5) = true := by kernel_rfl
theorem pow_sixty (hd : d ≤ 5) {x : List Nat} (h : Perm1 d x) : powP d x 60 = oneP d := by
  have hs : sixtyB d = true := by
    have := sixty_checked
    simp only [Bool.and_eq_true] at this
    obtain ⟨⟨⟨⟨⟨h0, h1⟩, h2⟩, h3⟩, h4⟩, h5⟩ := this
    have hcase : d = 0 ∨ d = 1 ∨ d = 2 ∨ d = 3 ∨ d = 4 ∨ d = 5 := by omega
    rcases hcase with rfl | rfl | rfl | rfl | rfl | rfl
    · exact h0
    · exact h1
    · exact h2
    · exact h3
    · exact h4
    · exact h5
  have hm := @listsP_mem d x h.lt
  rw [h.len] at hm
  have := List.all_eq_true.1 hs x hm
  rw [nodB_of h.nodup] at this
  simpa using this
theorem Grp.el_pow (h : Grp d E) {a : Nat} (ha : a < E.length) : ∀ k, elP E (powN E a k) = powP d (elP E a) k
  | 0 => h.el_zero
  | k + 1 => by rw [powN, powP, h.el_times (h.pow_lt ha k) ha, h.el_pow ha k]
theorem Grp.ord_sixty (h : Grp d E) (hd : d ≤ 5) {a : Nat} (ha : a < E.length) : 60 % ordN E a = 0 := by
  rw [← h.pow_zero_iff ha]
  refine h.el_inj (h.pow_lt ha 60) h.pos ?_
  rw [h.el_pow ha, h.el_zero, pow_sixty hd (h.perm _ (elP_mem ha))]
def primeB (q : Nat) : Bool := decide (1 < q) && (List.range q).all fun t => decide (t < 2) || q % t != 0
/-- The program stops at the root. -/
def primeC (q : Nat) : Bool := decide (1 < q) && (List.range q).all fun t => decide (t < 2) || decide (q < t * t) || q % t != 0
theorem prime_two : ∀ q, q < 62 → primeB q = primeC q := by
  have h : (List.range 62).all (fun q => primeB q == primeC q) = true := by kernel_rfl
  intro q hq
  have := List.all_eq_true.1 h q (List.mem_range.2 hq)
  simpa using this
def fitsN (E : List (List Nat)) (q : Nat) : Bool := primeB q && (List.range E.length).all fun a => (q - 1) % ordN E a == 0
/-- It is enough to look at one of each class. -/
theorem Grp.fits_reps (h : Grp d E) (q : Nat) : (List.range E.length).all (fun a => (q - 1) % ordN E a == 0) = (repsN E E.length).all fun a => (q - 1) % ordN E a == 0 := by
  rw [Bool.eq_iff_iff, List.all_eq_true, List.all_eq_true]
  constructor
  · intro hall r hr
    exact hall r (List.mem_range.2 (reps_mem.1 hr).1)
  · intro hall a ha
    have ha := List.mem_range.1 ha
    obtain ⟨r, hr, h1, h2⟩ := h.has_rep a a a (Nat.le_refl a) ha ha (h.conj_refl ha)
    rw [← h.ord_conj (by omega) ha h2]
    exact hall r (reps_mem.2 ⟨by omega, h1⟩)
def primeN (E : List (List Nat)) (d : Nat) : Nat := ((List.range 62).find? fun q => decide (max E.length d < q) && fitsN E q).getD 0
theorem Grp.prime_spec (h : Grp d E) (hd : d ≤ 5) (hn : E.length ≤ 24) : max E.length d < primeN E d ∧ primeN E d < 62 ∧ fitsN E (primeN E d) = true ∧ ∀ q, max E.length d < q → q < primeN E d → fitsN E q = false := by
  have h61 : fitsN E 61 = true := by
    unfold fitsN
    rw [Bool.and_eq_true, List.all_eq_true]
    refine ⟨by decide, fun a ha => ?_⟩
    have := h.ord_sixty hd (List.mem_range.1 ha)
    simpa using this
  have hm : max E.length d < 61 := by omega
  unfold primeN
  cases hf : (List.range 62).find? fun q => decide (max E.length d < q) && fitsN E q with
  | none =>
    have := List.find?_eq_none.1 hf 61 (by simp)
    rw [h61] at this
    simp at this
    omega
  | some q =>
    rw [List.find?_range_eq_some] at hf
    obtain ⟨h1, h2, h3⟩ := hf
    rw [Bool.and_eq_true, decide_eq_true_eq] at h1
    refine ⟨h1.1, List.mem_range.1 h2, h1.2, fun p hp hlt => ?_⟩
    have := h3 p hlt
    rw [decide_eq_true hp] at this
    simpa using this
end Go.Proofs.Ytdackakjcnnofaa

/- What a group's elements are: the specification that both closings meet. -/
namespace Go.Proofs.Ytdackakjcnnofaa

/-- More than 24 elements. -/
def Over (d : Nat) (gens : List (List Nat)) : Prop := ∃ l : List (List Nat), l.Nodup ∧ 24 < l.length ∧ ∀ x ∈ l, GenP d gens x
/-- The elements, in order. -/
structure IsG (d : Nat) (gens E : List (List Nat)) : Prop where
  sorted : E.Pairwise (· < ·)
  mem : ∀ x, x ∈ E ↔ GenP d gens x
  few : E.length ≤ 24
variable {d : Nat} {gens E R l : List (List Nat)} {f : List Nat → List Nat → List Nat}
theorem nodup_lt (h : E.Pairwise (· < ·)) : E.Nodup := List.Pairwise.imp (fun {a b} (hab : a < b) (e : a = b) => List.lt_irrefl b (by rw [e] at hab; exact hab)) h
theorem IsG.not_over (h : IsG d gens E) : ¬ Over d gens := fun ⟨l, hn, hl, hg⟩ => by
  have := List.Nodup.length_le_of_subset hn (fun x hx => (h.mem x).2 (hg x hx))
  have := h.few
  omega
theorem IsG.uniq (h : IsG d gens E) (h' : IsG d gens R) : E = R :=
  sorted_same ((List.perm_ext_iff_of_nodup (nodup_lt h.sorted) (nodup_lt h'.sorted)).2 fun x => (h.mem x).trans (h'.mem x).symm) h.sorted h'.sorted
theorem IsG.grp (h : IsG d gens E) (hg : ∀ p ∈ gens, Perm1 d p) : Grp d E :=
  ⟨fun x hx => gen_perm hg ((h.mem x).1 hx), h.sorted, (h.mem _).2 (gen_one d gens), fun a ha b hb => (h.mem _).2 (gen_mul hg ((h.mem a).1 ha) ((h.mem b).1 hb))⟩
/-- A closed list, sorted. -/
theorem IsG.of_right (hg : ∀ p ∈ gens, Perm1 d p) {g : Nat} (h : GrowI (fun p x => mulP x p) d gens R.length g R) (hl : R.length ≤ 24) : IsG d gens (sortP R) :=
  ⟨sortP_sorted h.nodup, fun x => ⟨fun hx => h.gen x ((sortP_perm h.nodup).mem_iff.1 hx), fun hx => (sortP_perm h.nodup).mem_iff.2 (close_right hg (grow_one h) (grow_end h (Nat.le_refl _)) hx)⟩, by rw [(sortP_perm h.nodup).length_eq]; exact hl⟩
theorem IsG.of_left {g : Nat} (h : GrowI (fun p x => mulP p x) d gens R.length g R) (hl : R.length ≤ 24) : IsG d gens (sortP R) :=
  ⟨sortP_sorted h.nodup, fun x => ⟨fun hx => h.gen x ((sortP_perm h.nodup).mem_iff.1 hx), fun hx => (sortP_perm h.nodup).mem_iff.2 (close_left (grow_one h) (grow_end h (Nat.le_refl _)) hx)⟩, by rw [(sortP_perm h.nodup).length_eq]; exact hl⟩
theorem Over.of_grow {k g : Nat} (h : GrowI f d gens k g l) (hl : 24 < l.length) : Over d gens := ⟨l, h.nodup, hl, h.gen⟩
theorem grow_few {k g : Nat} (h : GrowI f d gens k g l) (hg : ∀ p ∈ gens, Perm1 d p) (hd : d ≤ 5) : l.length ≤ 3125 :=
  perms_few hd (fun x hx => gen_perm hg (h.gen x hx)) h.nodup
/-- Either is so. -/
theorem over_or (hg : ∀ p ∈ gens, Perm1 d p) (hd : d ≤ 5) : Over d gens ∨ ∃ E, IsG d gens E := by
  have key : ∀ (n : Nat) (l : List (List Nat)), 3125 - l.length ≤ n → l.Nodup → (∀ x ∈ l, GenP d gens x) → ∃ L : List (List Nat), L.Nodup ∧ ∀ x, x ∈ L ↔ GenP d gens x := by
    intro n
    induction n with
    | zero =>
      intro l hn hnd hgen
      refine ⟨l, hnd, fun x => ⟨hgen x, fun hx => ?_⟩⟩
      by_cases h : x ∈ l
      · exact h
      · have := perms_few (l := x :: l) hd (fun y hy => gen_perm hg ((List.mem_cons.1 hy).elim (fun e => e ▸ hx) (hgen y))) (List.nodup_cons.2 ⟨h, hnd⟩)
        simp at this
        omega
    | succ n ih =>
      intro l hn hnd hgen
      by_cases hex : ∃ x, GenP d gens x ∧ x ∉ l
      · obtain ⟨x, hx, hxl⟩ := hex
        exact ih (x :: l) (by simp; omega) (List.nodup_cons.2 ⟨hxl, hnd⟩) fun y hy => (List.mem_cons.1 hy).elim (fun e => e ▸ hx) (hgen y)
      · exact ⟨l, hnd, fun x => ⟨hgen x, fun hx => by
          by_cases h : x ∈ l
          · exact h
          · exact absurd ⟨x, hx, h⟩ hex⟩⟩
  obtain ⟨L, hn, hm⟩ := key 3125 [] (by simp) (by simp) (by simp)
  by_cases h24 : 24 < L.length
  · exact .inl ⟨L, hn, h24, fun x hx => (hm x).1 hx⟩
  · exact .inr ⟨sortP L, sortP_sorted hn, fun x => ((sortP_perm hn).mem_iff).trans (hm x), by rw [(sortP_perm hn).length_eq]; omega⟩
theorem insP_at (y : List Nat) : ∀ (ls : List (List Nat)) (k : Nat), k ≤ ls.length → (∀ j (h : j < ls.length), j < k → ls[j] < y) → (∀ h : k < ls.length, ¬ ls[k] < y) → insP ls y = ls.take k ++ [y] ++ ls.drop k
  | [], k, hk, _, _ => by
    have : k = 0 := by simpa using hk
    subst this; rfl
  | x :: ls, 0, _, _, h2 => by
    have hx : ¬ x < y := h2 (by simp)
    simp [insP, hx]
  | x :: ls, k + 1, hk, h1, h2 => by
    have hx : x < y := h1 0 (by simp) (by omega)
    have ih := insP_at y ls k (by simpa using hk) (fun j h hj => h1 (j + 1) (by simpa using h) (by omega)) (fun h => h2 (by simpa using h))
    have e : insP (x :: ls) y = x :: insP ls y := by simp [insP, hx]
    rw [e, ih]
    simp
theorem sortP_take (l : List (List Nat)) (k : Nat) (h : k < l.length) : sortP (l.take (k + 1)) = insP (sortP (l.take k)) l[k] := by
  unfold sortP
  rw [List.take_succ_eq_append_getElem h, List.foldl_append]; rfl
end Go.Proofs.Ytdackakjcnnofaa

/- Groups of permutations, plain: orbits. -/
namespace Go.Proofs.Ytdackakjcnnofaa

variable {d : Nat} {E : List (List Nat)}
def orbB (E : List (List Nat)) (i j : Nat) : Bool := E.any fun x => x.getD i 0 == j
theorem orbB_iff {i j : Nat} : orbB E i j = true ↔ ∃ x ∈ E, x.getD i 0 = j := by simp [orbB]
theorem oneP_getD {i : Nat} (hi : i < d) : (oneP d).getD i 0 = i := by simp [oneP, List.getD_eq_getElem?_getD, hi]
theorem perm_getD_lt {x : List Nat} (h : Perm1 d x) {i : Nat} (hi : i < d) : x.getD i 0 < d := by
  have hl : i < x.length := by rw [h.len]; exact hi
  rw [List.getD_eq_getElem?_getD, List.getElem?_eq_getElem hl]
  exact h.lt _ (List.getElem_mem hl)
theorem mulP_getD {a b : List Nat} (hb : Perm1 d b) {i : Nat} (hi : i < d) : (mulP a b).getD i 0 = a.getD (b.getD i 0) 0 := by
  have hl : i < b.length := by rw [hb.len]; exact hi
  simp [mulP, List.getD_eq_getElem?_getD, List.getElem?_eq_getElem hl]
theorem Grp.orb_refl (h : Grp d E) {i : Nat} (hi : i < d) : orbB E i i = true := orbB_iff.2 ⟨_, h.one, oneP_getD hi⟩
theorem Grp.orb_lt (h : Grp d E) {i j : Nat} (hi : i < d) (e : orbB E i j = true) : j < d := by
  obtain ⟨x, hx, rfl⟩ := orbB_iff.1 e
  exact perm_getD_lt (h.perm x hx) hi
theorem Grp.orb_symm (h : Grp d E) {i j : Nat} (hi : i < d) (e : orbB E i j = true) : orbB E j i = true := by
  obtain ⟨x, hx, rfl⟩ := orbB_iff.1 e
  obtain ⟨y, hy, e⟩ := h.inv hx
  have e2 := h.inv_two hx hy e
  refine orbB_iff.2 ⟨y, hy, ?_⟩
  rw [← mulP_getD (h.perm x hx) hi, e2, oneP_getD hi]
theorem Grp.orb_trans (h : Grp d E) {i j k : Nat} (hi : i < d) (e : orbB E i j = true) (f : orbB E j k = true) : orbB E i k = true := by
  obtain ⟨x, hx, rfl⟩ := orbB_iff.1 e
  obtain ⟨y, hy, rfl⟩ := orbB_iff.1 f
  exact orbB_iff.2 ⟨mulP y x, h.mul y hy x hx, mulP_getD (h.perm x hx) hi⟩
def firstO (E : List (List Nat)) (i : Nat) : Bool := (List.range i).all fun k => !orbB E k i
theorem firstO_iff {i : Nat} : firstO E i = true ↔ ∀ k, k < i → orbB E k i = false := by simp [firstO]
def orbN (E : List (List Nat)) (d i : Nat) : List Nat := (List.range d).filter (orbB E i)
def orbitsN (E : List (List Nat)) (d : Nat) : List (List Nat) := ((List.range d).filter (firstO E)).map (orbN E d)
/-- The program looks whether an orbit begins with its own number. -/
theorem Grp.orb_head (h : Grp d E) {i : Nat} (hi : i < d) : (orbN E d i)[0]? = some i ↔ firstO E i = true := by
  unfold orbN
  rw [← List.head?_eq_getElem?, List.head?_filter, List.find?_range_eq_some, firstO_iff]
  constructor
  · intro ⟨_, _, h3⟩ k hk
    cases e : orbB E k i
    · rfl
    · have := h3 k hk
      rw [h.orb_symm (by omega) e] at this
      cases this
  · intro hall
    refine ⟨h.orb_refl hi, List.mem_range.2 hi, fun k hk => ?_⟩
    cases e : orbB E i k
    · rfl
    · have := h.orb_symm hi e
      rw [hall k hk] at this
      cases this
/-- The reference looks whether a number has been met in an earlier orbit. -/
theorem Grp.orb_met (h : Grp d E) : ∀ (n i : Nat), i ≤ n → i < d → (firstO E i = false ↔ ∃ r, r < i ∧ firstO E r = true ∧ orbB E r i = true)
  | n, i, hn, hi => by
    constructor
    · intro hf
      have : ∃ k, k < i ∧ orbB E k i = true := by
        by_cases hex : ∃ k, k < i ∧ orbB E k i = true
        · exact hex
        · rw [firstO_iff.2 fun k hk => by
            cases e : orbB E k i
            · rfl
            · exact absurd ⟨k, hk, e⟩ hex] at hf
          cases hf
      obtain ⟨k, hk, e⟩ := this
      cases hfk : firstO E k
      · cases n with
        | zero => omega
        | succ n =>
          obtain ⟨r, hr, h1, h2⟩ := (h.orb_met n k (by omega) (by omega)).1 hfk
          exact ⟨r, by omega, h1, h.orb_trans (by omega) h2 e⟩
      · exact ⟨k, hk, hfk, e⟩
    · intro ⟨r, hr, _, e⟩
      cases hf : firstO E i
      · rfl
      · rw [firstO_iff.1 hf r hr] at e
        cases e
/-- How many numbers an element leaves where they are. -/
def fixP (x : List Nat) : Nat := (List.range x.length).countP fun i => x.getD i 0 == i
def fixedN (E : List (List Nat)) : List Nat := (repsN E E.length).map fun r => fixP (elP E r)
end Go.Proofs.Ytdackakjcnnofaa

/- The table of products, plain. -/
namespace Go.Proofs.Ytdackakjcnnofaa
variable {d : Nat} {E : List (List Nat)}

def rowT (E : List (List Nat)) (a : Nat) : List Nat := (List.range E.length).map (timesN E a)
def tabN (E : List (List Nat)) : List (List Nat) := (List.range E.length).map (rowT E)
def backL (E : List (List Nat)) : List Nat := (List.range E.length).map (invN E)
theorem tabN_length : (tabN E).length = E.length := by simp [tabN]
theorem rowT_length (a : Nat) : (rowT E a).length = E.length := by simp [rowT]
theorem backL_length : (backL E).length = E.length := by simp [backL]
theorem tabN_at {a : Nat} (h : a < (tabN E).length) : (tabN E)[a] = rowT E a := by simp [tabN]
theorem rowT_at {a b : Nat} (h : b < (rowT E a).length) : (rowT E a)[b] = timesN E a b := by simp [rowT]
theorem backL_at {a : Nat} (h : a < (backL E).length) : (backL E)[a] = invN E a := by simp [backL]
/-- How far the counting of an order has come. -/
def OrdTo (E : List (List Nat)) (a m : Nat) : Prop := 1 ≤ m ∧ m ≤ ordN E a ∧ powN E a m < E.length
theorem OrdTo.start (h : Grp d E) {a : Nat} (ha : a < E.length) : OrdTo E a 1 := ⟨Nat.le_refl _, Nat.succ_pos _, h.pow_lt ha 1⟩
theorem OrdTo.step (h : Grp d E) {a m : Nat} (ha : a < E.length) (hm : OrdTo E a m) (hz : powN E a m ≠ 0) : OrdTo E a (m + 1) ∧ timesN E (powN E a m) a = powN E a (m + 1) := by
  refine ⟨⟨by omega, ?_, h.pow_lt ha _⟩, rfl⟩
  have hs := h.ord_spec ha
  rcases Nat.lt_or_ge m (ordN E a) with h1 | h1
  · exact h1
  · have : m = ordN E a := by have := hm.2.1; omega
    exact absurd (this ▸ hs.2.1) hz
theorem OrdTo.done (h : Grp d E) {a m : Nat} (ha : a < E.length) (hm : OrdTo E a m) (hz : powN E a m = 0) : m = ordN E a := by
  have hs := h.ord_spec ha
  rcases Nat.lt_or_ge m (ordN E a) with h1 | h1
  · exact absurd hz (hs.2.2 m hm.1 h1)
  · have := hm.2.1; omega
/-- The tests of a prime, as far as they have come. -/
def divTo (q k : Nat) : Bool := decide (1 < q) && (List.range k).all fun t => decide (t < 2) || q % t != 0
theorem divTo_two (q : Nat) : divTo q 2 = decide (1 < q) := by simp [divTo, List.range_succ]
theorem divTo_succ {q k : Nat} (h2 : 2 ≤ k) : divTo q (k + 1) = (divTo q k && q % k != 0) := by
  unfold divTo
  rw [List.range_succ, List.all_append]
  simp [show ¬ k < 2 by omega]
  rw [Bool.and_assoc]
theorem divTo_end (q : Nat) : divTo q q = primeB q := rfl
def ordTo (E : List (List Nat)) (q k : Nat) : Bool := (List.range k).all fun a => (q - 1) % ordN E a == 0
theorem ordTo_zero (q : Nat) : ordTo E q 0 = true := rfl
theorem ordTo_succ (q k : Nat) : ordTo E q (k + 1) = (ordTo E q k && (q - 1) % ordN E k == 0) := by
  unfold ordTo
  rw [List.range_succ, List.all_append]; simp
theorem fits_of (q : Nat) : (primeB q && ordTo E q E.length) = fitsN E q := rfl
end Go.Proofs.Ytdackakjcnnofaa

/- The classes as they are laid, plain. -/
namespace Go.Proofs.Ytdackakjcnnofaa
variable {d : Nat} {E : List (List Nat)}

def ofL (E : List (List Nat)) (k : Nat) : List Int := (List.range E.length).map (ofN E k)
/-- The class numbers while the class of a is laid: the conjugates by the first c elements are. -/
def ofTo (E : List (List Nat)) (a c : Nat) : List Int := (List.range E.length).map fun b => if (List.range c).any (fun c' => cjN E c' a == b) then ((repsN E a).length : Int) else ofN E a b
theorem ofL_length (k : Nat) : (ofL E k).length = E.length := by simp [ofL]
theorem ofTo_length (a c : Nat) : (ofTo E a c).length = E.length := by simp [ofTo]
theorem ofL_at {k b : Nat} (h : b < (ofL E k).length) : (ofL E k)[b] = ofN E k b := by simp [ofL]
theorem ofTo_at {a c b : Nat} (h : b < (ofTo E a c).length) : (ofTo E a c)[b] = if (List.range c).any (fun c' => cjN E c' a == b) then ((repsN E a).length : Int) else ofN E a b := by simp [ofTo]
theorem ofTo_zero (a : Nat) : ofTo E a 0 = ofL E a := by simp [ofTo, ofL]
theorem ofTo_succ (a c : Nat) : (ofTo E a c).set (cjN E c a) ((repsN E a).length : Int) = ofTo E a (c + 1) := by
  apply List.ext_getElem (by simp [ofTo_length])
  intro b h1 h2
  rw [List.getElem_set, ofTo_at, ofTo_at, List.range_succ, List.any_append]
  by_cases e : cjN E c a = b
  · simp [e]
  · rw [if_neg e]
    have e2 : (cjN E c a == b) = false := by simpa using e
    simp [e2]
theorem Grp.ofTo_end (h : Grp d E) {a : Nat} (ha : a < E.length) (hf : firstB E a = true) : ofTo E a E.length = ofL E (a + 1) := by
  apply List.ext_getElem (by simp [ofTo_length, ofL_length])
  intro b h1 h2
  have hb : b < E.length := by rw [ofTo_length] at h1; exact h1
  rw [ofTo_at, ofL_at, h.of_succ ha hb hf]
  rfl
theorem ofL_no {a : Nat} (hf : firstB E a = false) : ofL E (a + 1) = ofL E a := by
  unfold ofL
  exact List.map_congr_left fun b _ => of_succ_no hf
theorem ofL_zero : ofL E 0 = List.replicate E.length (-1) := by
  unfold ofL
  apply List.ext_getElem (by simp)
  intro b h1 h2
  simp [ofN, repsN]
/-- The members of a class, as far as they are gathered. -/
def clsTo (E : List (List Nat)) (a k : Nat) : List Nat := (List.range k).filter fun b => ofN E (a + 1) b == ((repsN E a).length : Int)
theorem clsTo_succ (a k : Nat) : clsTo E a (k + 1) = clsTo E a k ++ if ofN E (a + 1) k == ((repsN E a).length : Int) then [k] else [] := by
  unfold clsTo
  rw [List.range_succ, List.filter_append]
  by_cases e : (ofN E (a + 1) k == ((repsN E a).length : Int)) = true
  · rw [if_pos e, List.filter_cons, if_pos e]; rfl
  · rw [if_neg e, List.filter_cons, if_neg e]; rfl
theorem clsTo_len (a k : Nat) : (clsTo E a k).length ≤ k := by
  have := List.length_filter_le (fun b => ofN E (a + 1) b == ((repsN E a).length : Int)) (List.range k)
  rw [List.length_range] at this
  exact this
theorem Grp.clsTo_end (h : Grp d E) {a : Nat} (ha : a < E.length) (hf : firstB E a = true) : clsTo E a E.length = clsN E a := h.cls_of ha hf
def clsL (E : List (List Nat)) (a : Nat) : List (List Nat) := (repsN E a).map (clsN E)
theorem clsL_length (a : Nat) : (clsL E a).length = (repsN E a).length := by simp [clsL]
theorem clsL_first {a : Nat} (hf : firstB E a = true) : clsL E (a + 1) = clsL E a ++ [clsN E a] := by unfold clsL; rw [reps_succ hf, List.map_append]; rfl
theorem clsL_no {a : Nat} (hf : firstB E a = false) : clsL E (a + 1) = clsL E a := by unfold clsL; rw [reps_succ_no hf]
theorem clsL_end : clsL E E.length = classesN E := rfl
theorem reps_len (a : Nat) : (repsN E a).length ≤ a := by
  have := List.length_filter_le (firstB E) (List.range a)
  rw [List.length_range] at this
  exact this
/-- The inverse, as far as it is sought. -/
def backTo (E : List (List Nat)) (a m : Nat) : Nat := if invN E a < m then invN E a else 0
theorem backTo_zero (a : Nat) : backTo E a 0 = 0 := rfl
theorem Grp.backTo_yes (h : Grp d E) {a m : Nat} (ha : a < E.length) (hm : m < E.length) (e : timesN E a m = 0) : backTo E a (m + 1) = m := by
  have := h.inv_uniq ha hm e
  unfold backTo
  rw [if_pos (by omega)]; exact this.symm
theorem Grp.backTo_no (h : Grp d E) {a m : Nat} (ha : a < E.length) (e : timesN E a m ≠ 0) : backTo E a (m + 1) = backTo E a m := by
  have hs := h.inv_spec ha
  have : invN E a ≠ m := fun e2 => e (by rw [← e2]; exact hs.2)
  unfold backTo
  by_cases h1 : invN E a < m
  · rw [if_pos h1, if_pos (by omega)]
  · rw [if_neg h1, if_neg (by omega)]
theorem Grp.backTo_end (h : Grp d E) {a : Nat} (ha : a < E.length) : backTo E a E.length = invN E a := by
  unfold backTo
  rw [if_pos (h.inv_spec ha).1]
/-- What Find gives of a product. -/
theorem rowT_take (a k : Nat) (hk : k < E.length) : (rowT E a).take (k + 1) = (rowT E a).take k ++ [timesN E a k] := by
  rw [List.take_succ_eq_append_getElem (by rw [rowT_length]; exact hk), rowT_at]
theorem tabN_take (a : Nat) (ha : a < E.length) : (tabN E).take (a + 1) = (tabN E).take a ++ [rowT E a] := by
  rw [List.take_succ_eq_append_getElem (by rw [tabN_length]; exact ha), tabN_at]
theorem backL_take (a : Nat) (ha : a < E.length) : (backL E).take (a + 1) = (backL E).take a ++ [invN E a] := by
  rw [List.take_succ_eq_append_getElem (by rw [backL_length]; exact ha), backL_at]
end Go.Proofs.Ytdackakjcnnofaa

/- The classes as the program lays them, plain. -/
namespace Go.Proofs.Ytdackakjcnnofaa
variable {d : Nat} {E : List (List Nat)}

/-- The conjugates of a by the first c elements, as they are met. -/
def seenTo (E : List (List Nat)) (a c : Nat) : List Nat := (List.range c).foldl (fun l c' => if cjN E c' a ∈ l then l else l ++ [cjN E c' a]) []
theorem seenTo_zero (a : Nat) : seenTo E a 0 = [] := rfl
theorem seenTo_succ (a c : Nat) : seenTo E a (c + 1) = if cjN E c a ∈ seenTo E a c then seenTo E a c else seenTo E a c ++ [cjN E c a] := by
  unfold seenTo
  rw [List.range_succ, List.foldl_append]; rfl
theorem seenTo_mem {a c b : Nat} : b ∈ seenTo E a c ↔ ∃ c', c' < c ∧ cjN E c' a = b := by
  induction c with
  | zero => simp [seenTo_zero]
  | succ c ih =>
    rw [seenTo_succ]
    split
    · rename_i h
      rw [ih]
      refine ⟨fun ⟨c', h1, h2⟩ => ⟨c', by omega, h2⟩, fun ⟨c', h1, h2⟩ => ?_⟩
      by_cases e : c' = c
      · subst e
        rw [h2] at h
        exact ih.1 h
      · exact ⟨c', by omega, h2⟩
    · rw [List.mem_append, ih]
      refine ⟨fun h => ?_, fun ⟨c', h1, h2⟩ => ?_⟩
      · rcases h with ⟨c', h1, h2⟩ | h
        · exact ⟨c', by omega, h2⟩
        · exact ⟨c, by omega, (List.mem_singleton.1 h).symm⟩
      · by_cases e : c' = c
        · subst e; exact .inr (by simp [h2])
        · exact .inl ⟨c', by omega, h2⟩
theorem seenTo_nodup (a c : Nat) : (seenTo E a c).Nodup := by
  induction c with
  | zero => simp [seenTo_zero]
  | succ c ih =>
    rw [seenTo_succ]
    split
    · exact ih
    · rename_i h
      rw [List.nodup_append]
      exact ⟨ih, by simp, fun x hx y hy e => h (by rw [← List.mem_singleton.1 hy, ← e]; exact hx)⟩
theorem seenTo_len (a c : Nat) : (seenTo E a c).length ≤ c := by
  induction c with
  | zero => simp [seenTo_zero]
  | succ c ih =>
    rw [seenTo_succ]
    split
    · omega
    · simp; omega
theorem any_seen {a c b : Nat} : (List.range c).any (fun c' => cjN E c' a == b) = decide (b ∈ seenTo E a c) := by
  rw [Bool.eq_iff_iff, List.any_eq_true, decide_eq_true_iff, seenTo_mem]
  exact ⟨fun ⟨c', h1, h2⟩ => ⟨c', List.mem_range.1 h1, by simpa using h2⟩, fun ⟨c', h1, h2⟩ => ⟨c', List.mem_range.2 h1, by simpa using h2⟩⟩
theorem ofTo_seen {a c b : Nat} (h : b < (ofTo E a c).length) (hs : b ∈ seenTo E a c) : (ofTo E a c)[b] = ((repsN E a).length : Int) := by
  rw [ofTo_at, any_seen, decide_eq_true hs, if_pos rfl]
theorem ofTo_unseen {a c b : Nat} (h : b < (ofTo E a c).length) (hs : b ∉ seenTo E a c) : (ofTo E a c)[b] = ofN E a b := by
  rw [ofTo_at, any_seen, decide_eq_false hs, if_neg Bool.false_ne_true]
/-- One that has been met already changes nothing. -/
theorem ofTo_same {a c : Nat} (h : cjN E c a ∈ seenTo E a c) : ofTo E a (c + 1) = ofTo E a c := by
  apply List.ext_getElem (by simp [ofTo_length])
  intro b h1 h2
  rw [ofTo_at, ofTo_at, any_seen, any_seen, seenTo_succ, if_pos h]
/-- A class, gathered and sorted. -/
theorem clsN_sorted (a : Nat) : (clsN E a).Pairwise (· < ·) := List.Pairwise.filter _ List.pairwise_lt_range
theorem seen_perm (a : Nat) (h : ∀ c, c < E.length → cjN E c a < E.length) : (clsN E a).Perm (seenTo E a E.length) := by
  have hn : (clsN E a).Nodup := (clsN_sorted a).imp fun {x y} h e => by omega
  rw [List.perm_ext_iff_of_nodup hn (seenTo_nodup a E.length)]
  intro b
  rw [seenTo_mem]
  unfold clsN
  rw [List.mem_filter, conjB_iff, List.mem_range]
  exact ⟨fun ⟨_, h2⟩ => h2, fun ⟨c, h1, h2⟩ => ⟨by rw [← h2]; exact h c h1, c, h1, h2⟩⟩
/-- Every element has a class. -/
theorem Grp.of_all (h : Grp d E) {b : Nat} (hb : b < E.length) : 0 ≤ ofN E E.length b := by
  rcases (by omega : ofN E E.length b < 0 ∨ 0 ≤ ofN E E.length b) with hlt | hge
  · exfalso
    obtain ⟨r, hr, h1, h2⟩ := h.has_rep b b b (Nat.le_refl _) hb hb (h.conj_refl hb)
    have := of_none.1 hlt r (reps_mem.2 ⟨by omega, h1⟩)
    rw [h2] at this
    cases this
  · exact hge
def clsOf (E : List (List Nat)) (b : Nat) : Nat := (ofN E E.length b).toNat
theorem Grp.clsOf_eq (h : Grp d E) {b : Nat} (hb : b < E.length) : ofN E E.length b = (clsOf E b : Nat) := by
  have := h.of_all hb
  unfold clsOf; omega
/-- The class of the inverses, of each class. -/
def backC (E : List (List Nat)) : List Nat := (repsN E E.length).map fun r => clsOf E (invN E r)
theorem backC_length : (backC E).length = (repsN E E.length).length := by simp [backC]
theorem backC_take {k r : Nat} (h : (repsN E E.length)[k]? = some r) : (backC E).take (k + 1) = (backC E).take k ++ [clsOf E (invN E r)] := by
  obtain ⟨hk, e⟩ := List.getElem?_eq_some_iff.1 h
  rw [List.take_succ_eq_append_getElem (by rw [backC_length]; exact hk)]
  simp [backC, e]
end Go.Proofs.Ytdackakjcnnofaa

/- The numbers of products of two classes, plain. -/
namespace Go.Proofs.Ytdackakjcnnofaa

variable {d : Nat} {E : List (List Nat)}
theorem reps_sorted (k : Nat) : (repsN E k).Pairwise (· < ·) := List.Pairwise.filter _ List.pairwise_lt_range
theorem Grp.cls_rep (h : Grp d E) {k r : Nat} (hk : (repsN E E.length)[k]? = some r) : clsOf E r = k := by
  obtain ⟨hkl, hkr⟩ := List.getElem?_eq_some_iff.1 hk
  have hr := reps_mem.1 (List.mem_of_getElem? hk)
  have : (repsN E E.length).findIdx? (fun x => conjB E x r) = some k := by
    rw [List.findIdx?_eq_some_iff_getElem]
    refine ⟨hkl, by rw [hkr]; exact h.conj_refl hr.1, fun j hj => ?_⟩
    have hlt := List.pairwise_iff_getElem.1 (reps_sorted (E := E) E.length) j k (by omega) hkl hj
    rw [hkr] at hlt
    rw [first_iff.1 hr.2 _ hlt]; simp
  unfold clsOf ofN
  rw [this]; rfl
theorem Grp.cls_lt (h : Grp d E) {b : Nat} (hb : b < E.length) : clsOf E b < (repsN E E.length).length := by
  have h1 := of_lt (E := E) (k := E.length) (b := b)
  rw [h.clsOf_eq hb] at h1
  omega
def pairsL (A B : List Nat) : List (Nat × Nat) := A.flatMap fun a => B.map fun b => (a, b)
/-- The pairs up to place i of A and j of B. -/
def pairsTo (A B : List Nat) (i j : Nat) : List (Nat × Nat) := pairsL (A.take i) B ++ (B.take j).map fun b => (A.getD i 0, b)
theorem pairsTo_zero (A B : List Nat) (i : Nat) : pairsTo A B i 0 = pairsL (A.take i) B := by simp [pairsTo]
theorem pairsTo_succ (A B : List Nat) (i j : Nat) (hj : j < B.length) : pairsTo A B i (j + 1) = pairsTo A B i j ++ [(A.getD i 0, B[j])] := by
  unfold pairsTo
  rw [List.take_succ_eq_append_getElem hj, List.map_append, List.append_assoc]; rfl
theorem pairsTo_end (A B : List Nat) (i : Nat) (hi : i < A.length) : pairsTo A B i B.length = pairsTo A B (i + 1) 0 := by
  unfold pairsTo pairsL
  rw [List.take_succ_eq_append_getElem hi, List.flatMap_append, List.take_length]
  simp [List.getD_eq_getElem?_getD, List.getElem?_eq_getElem hi]
theorem pairsTo_all (A B : List Nat) : pairsTo A B A.length 0 = pairsL A B := by rw [pairsTo_zero, List.take_length]
theorem pairsL_length (A B : List Nat) : (pairsL A B).length = A.length * B.length := by
  unfold pairsL
  induction A with
  | nil => simp
  | cons a A ih => rw [List.flatMap_cons, List.length_append, ih, List.length_map, List.length_cons, Nat.add_mul, Nat.one_mul, Nat.add_comm]
/-- How often each class's first element is a product. -/
def cntN (E : List (List Nat)) (ps : List (Nat × Nat)) (r : Nat) : Nat := ps.countP fun p => timesN E p.1 p.2 == r
def cntL (E : List (List Nat)) (ps : List (Nat × Nat)) : List Int := (repsN E E.length).map fun r => (cntN E ps r : Int)
theorem cntL_length (ps : List (Nat × Nat)) : (cntL E ps).length = (repsN E E.length).length := by simp [cntL]
theorem cntL_nil : cntL E [] = toI (List.replicate (repsN E E.length).length 0) := by
  unfold cntL cntN toI
  refine List.ext_getElem (by simp) fun i h1 h2 => by simp
theorem cntL_at {ps : List (Nat × Nat)} {k r : Nat} (hk : (repsN E E.length)[k]? = some r) : (cntL E ps)[k]? = some (cntN E ps r : Int) := by
  unfold cntL
  rw [List.getElem?_map, hk]; rfl
theorem cntN_snoc (ps : List (Nat × Nat)) (a b r : Nat) : cntN E (ps ++ [(a, b)]) r = cntN E ps r + if timesN E a b = r then 1 else 0 := by
  unfold cntN
  rw [List.countP_append, List.countP_singleton]
  simp
theorem cntN_le (ps : List (Nat × Nat)) (r : Nat) : cntN E ps r ≤ ps.length := List.countP_le_length
theorem Grp.cnt_yes (h : Grp d E) {ps : List (Nat × Nat)} {a b k : Nat} (hk : (repsN E E.length)[k]? = some (timesN E a b)) : cntL E (ps ++ [(a, b)]) = (cntL E ps).set k ((cntN E ps (timesN E a b) : Int) + 1) := by
  refine List.ext_getElem? fun i => ?_
  by_cases e : k = i
  · subst e
    rw [cntL_at hk, List.getElem?_set_self (by rw [cntL_length]; exact (List.getElem?_eq_some_iff.1 hk).1), cntN_snoc, if_pos rfl]
    simp
  · rw [List.getElem?_set_ne e]
    cases hr : (repsN E E.length)[i]? with
    | none =>
      unfold cntL
      rw [List.getElem?_map, List.getElem?_map, hr]; rfl
    | some r =>
      rw [cntL_at hr, cntL_at hr, cntN_snoc, if_neg]
      · simp
      · intro et
        rw [et] at hk
        exact e ((h.cls_rep hk).symm.trans (h.cls_rep hr))
theorem Grp.cnt_no (h : Grp d E) {ps : List (Nat × Nat)} {a b r : Nat} (hk : (repsN E E.length)[clsOf E (timesN E a b)]? = some r) (hne : timesN E a b ≠ r) : cntL E (ps ++ [(a, b)]) = cntL E ps := by
  refine List.map_congr_left fun x hx => ?_
  rw [cntN_snoc, if_neg]
  · simp
  · intro et
    obtain ⟨i, hi⟩ := List.mem_iff_getElem?.1 hx
    have h1 := h.cls_rep hi
    rw [← et] at h1
    rw [h1, hi] at hk
    exact hne (et.trans (Option.some.inj hk))
/-- The numbers of class c. -/
def constL (E : List (List Nat)) (c : Nat) : List (List Int) := (classesN E).map fun D => cntL E (pairsL ((classesN E).getD c []) D)
theorem constL_length (c : Nat) : (constL E c).length = (repsN E E.length).length := by simp [constL, classesN]
theorem constL_row (c : Nat) : ∀ r ∈ constL E c, r.length = (repsN E E.length).length := fun r hr => by
  obtain ⟨D, _, rfl⟩ := List.mem_map.1 hr
  exact cntL_length _
theorem clsN_len (r : Nat) : (clsN E r).length ≤ E.length := by
  unfold clsN
  refine Nat.le_trans (List.length_filter_le _ _) (by simp)
theorem classes_at {c : Nat} (h : c < (classesN E).length) : ∃ r, (repsN E E.length)[c]? = some r ∧ (classesN E)[c] = clsN E r := by
  have hr : c < (repsN E E.length).length := by simpa [classesN] using h
  exact ⟨_, List.getElem?_eq_getElem hr, by simp [classesN]⟩
theorem classes_len {D : List Nat} (h : D ∈ classesN E) : D.length ≤ E.length ∧ ∀ x ∈ D, x < E.length := by
  obtain ⟨r, _, rfl⟩ := List.mem_map.1 h
  refine ⟨clsN_len r, fun x hx => ?_⟩
  unfold clsN at hx
  exact List.mem_range.1 (List.mem_filter.1 hx).1
theorem constL_le {c : Nat} (h24 : E.length ≤ 24) : ∀ r ∈ constL E c, ∀ x ∈ r, 0 ≤ x ∧ x ≤ 1000 := by
  intro r hr x hx
  obtain ⟨D, hD, rfl⟩ := List.mem_map.1 hr
  obtain ⟨y, _, rfl⟩ := List.mem_map.1 hx
  have h1 := cntN_le (E := E) (pairsL ((classesN E).getD c []) D) y
  rw [pairsL_length] at h1
  have h2 := (classes_len hD).1
  have h3 : ((classesN E).getD c []).length ≤ 24 := by
    rw [List.getD_eq_getElem?_getD]
    cases hc : (classesN E)[c]? with
    | none => simp
    | some C => have := (classes_len (List.mem_of_getElem? hc)).1; simp; omega
  have h4 : ((classesN E).getD c []).length * D.length ≤ 24 * 24 := Nat.mul_le_mul h3 (by omega)
  omega
end Go.Proofs.Ytdackakjcnnofaa

/- The table of class data, plain: what the program's functions over vectors compute. -/
namespace Go.Proofs.Ytdackakjcnnofaa

/-- The sum of products. -/
def dotI : List Int → List Int → Int
  | x :: xs, y :: ys => x * y + dotI xs ys
  | _, _ => 0
theorem dotI_nil (v : List Int) : dotI [] v = 0 := by cases v <;> rfl
theorem dotI_take : ∀ (r v : List Int) (k : Nat) (h1 : k < r.length) (h2 : k < v.length), dotI (r.take (k + 1)) (v.take (k + 1)) = dotI (r.take k) (v.take k) + r[k] * v[k]
  | x :: r, y :: v, 0, _, _ => by simp [dotI]
  | x :: r, y :: v, k + 1, h1, h2 => by
    have := dotI_take r v k (by simpa using h1) (by simpa using h2)
    simp only [List.take_succ_cons, dotI, this, List.getElem_cons_succ]
    omega
  | [], _, _, h1, _ => by simp at h1
  | _ :: _, [], _, _, h2 => by simp at h2
theorem dotI_le {a b : Int} (ha : 0 ≤ a) (hb : 0 ≤ b) : ∀ (r v : List Int), (∀ x ∈ r, 0 ≤ x ∧ x ≤ a) → (∀ x ∈ v, 0 ≤ x ∧ x ≤ b) → 0 ≤ dotI r v ∧ dotI r v ≤ a * b * r.length
  | [], v, _, _ => by rw [dotI_nil]; simp
  | x :: r, [], _, _ => by simp only [dotI]; exact ⟨by omega, Int.mul_nonneg (Int.mul_nonneg ha hb) (by omega)⟩
  | x :: r, y :: v, h1, h2 => by
    have h := dotI_le ha hb r v (fun z hz => h1 z (List.mem_cons_of_mem _ hz)) (fun z hz => h2 z (List.mem_cons_of_mem _ hz))
    have hx := h1 x List.mem_cons_self
    have hy := h2 y List.mem_cons_self
    have h3 : x * y ≤ a * b := Int.mul_le_mul hx.2 hy.2 hy.1 ha
    have h4 : 0 ≤ x * y := Int.mul_nonneg hx.1 hy.1
    simp only [dotI, List.length_cons]
    have e : a * b * ((r.length + 1 : Nat) : Int) = a * b + a * b * (r.length : Int) := by
      rw [Int.natCast_add, Int.mul_add]; simp; omega
    rw [e]
    omega
def imageL (q : Nat) (m : List (List Int)) (v : List Int) : List Int := m.map fun r => dotI r v % (q : Int)
theorem imageL_length (q : Nat) (m : List (List Int)) (v : List Int) : (imageL q m v).length = m.length := by simp [imageL]
theorem imageL_take (q : Nat) (m : List (List Int)) (v : List Int) (k : Nat) (h : k < m.length) : (imageL q m v).take (k + 1) = (imageL q m v).take k ++ [dotI m[k] v % (q : Int)] := by
  rw [List.take_succ_eq_append_getElem (by rw [imageL_length]; exact h)]; simp [imageL]

def addM (q : Nat) (k a x : Int) : Int := (a + k * x) % (q : Int)
def plusL (q : Nat) (v : List Int) (k : Int) (w : List Int) : List Int := List.zipWith (addM q k) v w
theorem plusL_length {q : Nat} {v w : List Int} {k : Int} (h : v.length = w.length) : (plusL q v k w).length = v.length := by simp [plusL]; omega
/-- Places done, as plus goes on. -/
def plusTo (q : Nat) (v : List Int) (k : Int) (w : List Int) (i : Nat) : List Int := (plusL q v k w).take i ++ v.drop i
theorem plusTo_zero (q : Nat) (v : List Int) (k : Int) (w : List Int) : plusTo q v k w 0 = v := by simp [plusTo]
theorem plusTo_length {q : Nat} {v w : List Int} {k : Int} (h : v.length = w.length) (i : Nat) : (plusTo q v k w i).length = v.length := by
  simp [plusTo, plusL_length h]; omega
theorem plusTo_end {q : Nat} {v w : List Int} {k : Int} (h : v.length = w.length) : plusTo q v k w v.length = plusL q v k w := by
  unfold plusTo
  rw [List.drop_length, List.append_nil, List.take_of_length_le (by rw [plusL_length h]; exact Nat.le_refl _)]
theorem plusTo_at {q : Nat} {v w : List Int} {k : Int} (h : v.length = w.length) {i : Nat} (hi : i < (plusTo q v k w i).length) (hv : i < v.length) : (plusTo q v k w i)[i] = v[i] := by
  have e : (plusTo q v k w i)[i]? = v[i]? := by
    unfold plusTo
    have hl : ((plusL q v k w).take i).length = i := by rw [List.length_take, plusL_length h]; omega
    rw [List.getElem?_append_right (by omega), hl, List.getElem?_drop]; simp
  rw [List.getElem?_eq_getElem hi, List.getElem?_eq_getElem hv] at e
  exact Option.some.inj e
theorem plusTo_set {q : Nat} {v w : List Int} {k : Int} (h : v.length = w.length) {i : Nat} (hi : i < v.length) (hw : i < w.length) : (plusTo q v k w i).set i (addM q k v[i] w[i]) = plusTo q v k w (i + 1) := by
  have hl := plusL_length (q := q) (k := k) h
  have ht : ((plusL q v k w).take i).length = i := by rw [List.length_take, hl]; omega
  unfold plusTo
  rw [List.set_append_right _ _ (by omega), ht, Nat.sub_self, List.take_succ_eq_append_getElem (by omega), List.drop_eq_getElem_cons hi, List.set_cons_zero]
  simp [plusL]

/-- The least x from a given one on whose product with n is 1. -/
def overF (q n : Nat) : Nat → Nat → Nat
  | 0, x => x
  | f + 1, x => bif Nat.beq (x * n % q) 1 then x else overF q n f (x + 1)
def overN (q n : Nat) : Nat := overF q n q 1
theorem overF_spec (q n : Nat) : ∀ f x, x ≤ overF q n f x ∧ overF q n f x ≤ x + f ∧ (∀ y, x ≤ y → y < overF q n f x → y * n % q ≠ 1) ∧ (overF q n f x < x + f → overF q n f x * n % q = 1)
  | 0, x => ⟨Nat.le_refl _, Nat.le_refl _, fun y h1 h2 => by simp [overF] at h2; omega, fun h => by simp [overF] at h⟩
  | f + 1, x => by
    unfold overF
    by_cases h : x * n % q = 1
    · have hb : Nat.beq (x * n % q) 1 = true := Nat.beq_eq.symm ▸ h
      rw [hb, cond_true]
      exact ⟨Nat.le_refl _, by omega, fun y h1 h2 => by omega, fun _ => h⟩
    · have hb : Nat.beq (x * n % q) 1 = false := by
        cases hq : Nat.beq (x * n % q) 1 with
        | false => rfl
        | true => exact absurd (Nat.eq_of_beq_eq_true hq) h
      rw [hb, cond_false]
      obtain ⟨h1, h2, h3, h4⟩ := overF_spec q n f (x + 1)
      refine ⟨by omega, by omega, fun y hy1 hy2 => ?_, fun hl => h4 (by omega)⟩
      by_cases e : y = x
      · rw [e]; exact h
      · exact h3 y (by omega) hy2
theorem over_pos (q n : Nat) : 1 ≤ overN q n := (overF_spec q n q 1).1
theorem over_le (q n : Nat) : overN q n ≤ q + 1 := by have := (overF_spec q n q 1).2.1; unfold overN; omega
theorem over_no {q n x : Nat} (h1 : 1 ≤ x) (h2 : x < overN q n) : x * n % q ≠ 1 := (overF_spec q n q 1).2.2.1 x h1 h2
def okOver (q n : Nat) : Bool := Nat.beq (overN q n * n % q) 1
theorem okOver_iff {q n : Nat} : okOver q n = true ↔ overN q n * n % q = 1 := ⟨Nat.eq_of_beq_eq_true, fun h => by unfold okOver; rw [h]; rfl⟩
theorem over_lt {q n : Nat} (hq : 0 < q) (h : okOver q n = true) : overN q n ≤ q := by
  by_cases h1 : overN q n ≤ q
  · exact h1
  · exfalso
    have h2 := over_le q n
    have e : overN q n = q + 1 := by omega
    have h3 := okOver_iff.1 h
    have := (overF_spec q n q 1).2.2.1
    refine this 1 (Nat.le_refl _) (by unfold overN at e; omega) ?_
    rw [e, Nat.add_mul, Nat.add_mod, Nat.mul_mod_right, Nat.zero_add, Nat.mod_mod] at h3
    exact h3
/-- The least d from 1 on whose square is a number modulo q. -/
def rootF (q s : Nat) : Nat → Nat → Nat
  | 0, x => x
  | f + 1, x => bif Nat.beq (x * x % q) s then x else rootF q s f (x + 1)
def rootN (q s : Nat) : Nat := rootF q s q 1
theorem rootF_spec (q s : Nat) : ∀ f x, x ≤ rootF q s f x ∧ rootF q s f x ≤ x + f ∧ (∀ y, x ≤ y → y < rootF q s f x → y * y % q ≠ s)
  | 0, x => ⟨Nat.le_refl _, Nat.le_refl _, fun y h1 h2 => by simp [rootF] at h2; omega⟩
  | f + 1, x => by
    unfold rootF
    by_cases h : x * x % q = s
    · have hb : Nat.beq (x * x % q) s = true := Nat.beq_eq.symm ▸ h
      rw [hb, cond_true]
      exact ⟨Nat.le_refl _, by omega, fun y h1 h2 => by omega⟩
    · have hb : Nat.beq (x * x % q) s = false := by
        cases hq : Nat.beq (x * x % q) s with
        | false => rfl
        | true => exact absurd (Nat.eq_of_beq_eq_true hq) h
      rw [hb, cond_false]
      obtain ⟨h1, h2, h3⟩ := rootF_spec q s f (x + 1)
      refine ⟨by omega, by omega, fun y hy1 hy2 => ?_⟩
      by_cases e : y = x
      · rw [e]; exact h
      · exact h3 y (by omega) hy2
theorem root_pos (q n : Nat) : 1 ≤ rootN q n := (rootF_spec q n q 1).1
theorem root_le (q n : Nat) : rootN q n ≤ q + 1 := by have := (rootF_spec q n q 1).2.1; unfold rootN; omega
theorem root_no {q n x : Nat} (h1 : 1 ≤ x) (h2 : x < rootN q n) : x * x % q ≠ n := (rootF_spec q n q 1).2.2 x h1 h2
def okRoot (q s : Nat) : Bool := Nat.beq (rootN q s * rootN q s % q) s
theorem okRoot_iff {q s : Nat} : okRoot q s = true ↔ rootN q s * rootN q s % q = s := ⟨Nat.eq_of_beq_eq_true, fun h => by unfold okRoot; exact Nat.beq_eq.symm ▸ h⟩

/-- An entry of a list of lists. -/
def entI (L : List (List Int)) (i c : Nat) : Int := (L.getD i []).getD c 0
/-- The first of some vectors that is not 0 at c. -/
def pivI (c : Nat) (L : List (List Int)) : Nat := L.findIdx fun v => v.getD c 0 != 0
def swapI (L : List (List Int)) (i j : Nat) : List (List Int) := (L.set i (L.getD j [])).set j (L.getD i [])
/-- One vector less a multiple of that at place a. -/
def elim1 (q c a : Nat) (by' : Nat) (s : List (List Int) × List (List Int)) (i : Nat) : List (List Int) × List (List Int) :=
  let f := -(entI s.2 i c) * (by' : Int)
  (s.1.set i (plusL q (s.1.getD i []) f (s.1.getD a [])), s.2.set i (plusL q (s.2.getD i []) f (s.2.getD a [])))
def elimN (q c a by' : Nat) (s : List (List Int) × List (List Int)) : Nat → List (List Int) × List (List Int)
  | 0 => s
  | t + 1 => elim1 q c a by' (elimN q c a by' s t) (a + 1 + t)
/-- One column of kernel. -/
def kerStep (q c : Nat) (s : (List (List Int) × List (List Int)) × Nat) : (List (List Int) × List (List Int)) × Nat :=
  let k := pivI c (s.1.2.drop s.2)
  if k < (s.1.2.drop s.2).length then
    let B := swapI s.1.1 s.2 (s.2 + k)
    let I := swapI s.1.2 s.2 (s.2 + k)
    (elimN q c s.2 (overN q (entI I s.2 c).toNat) (B, I) (B.length - (s.2 + 1)), s.2 + 1)
  else s
def kerTo (q : Nat) (B I : List (List Int)) : Nat → (List (List Int) × List (List Int)) × Nat
  | 0 => ((B, I), 0)
  | c + 1 => kerStep q c (kerTo q B I c)
def kernelL (q n : Nat) (B I : List (List Int)) : List (List Int) := (kerTo q B I n).1.1.drop (kerTo q B I n).2
/-- The images less a multiple. -/
def imagesL (q : Nat) (m B : List (List Int)) (x : Nat) : List (List Int) := B.map fun v => plusL q (imageL q m v) (-(x : Int)) v
def splitTo (q n : Nat) (m B : List (List Int)) : Nat → List (List (List Int))
  | 0 => []
  | x + 1 =>
    let k := kernelL q n B (imagesL q m B x)
    if k.length = 0 then splitTo q n m B x else splitTo q n m B x ++ [k]
def splitL (q n : Nat) (m B : List (List Int)) : List (List (List Int)) := if B.length = 1 then [B] else splitTo q n m B q
/-- The sum of a vector's products with its turned one, over the classes' sizes. -/
def sumTo (q : Nat) (sz bk : List Nat) (v : List Int) (by' : Nat) (c : Nat) : Nat :=
  match c with
  | 0 => 0
  | c + 1 => sumTo q sz bk v by' c + (((v.getD c 0).toNat * by' % q) * ((v.getD (bk.getD c 0) 0).toNat * by' % q) % q) * overN q (sz.getD c 0)
def funTo (q : Nat) (sz : List Nat) (v : List Int) (by' deg : Nat) (c : Nat) : List Int :=
  (List.range c).map fun c => (((((v.getD c 0).toNat * by' % q) * deg % q) * overN q (sz.getD c 0) % q : Nat) : Int)
def sqN (q nE : Nat) (sz bk : List Nat) (v : List Int) : Nat := nE * overN q (sumTo q sz bk v (overN q (v.getD 0 0).toNat) sz.length) % q
def funL (q nE : Nat) (sz bk : List Nat) (v : List Int) : List Int :=
  funTo q sz v (overN q (v.getD 0 0).toNat) (rootN q (sqN q nE sz bk v)) sz.length
/-- All quotients of funL are there. -/
def funOk (q nE : Nat) (sz bk : List Nat) (v : List Int) : Bool :=
  v.length == sz.length && v.all (fun x => decide (0 ≤ x) && decide (x < (q : Int))) && okOver q (v.getD 0 0).toNat && sz.all (okOver q) && okOver q (sumTo q sz bk v (overN q (v.getD 0 0).toNat) sz.length) && okRoot q (sqN q nE sz bk v)
def unitL (n : Nat) : List (List Int) := (List.range n).map fun c => (List.replicate n (0 : Int)).set c 1
def spacesTo (q n : Nat) (ks : List (List (List Int))) : Nat → List (List (List Int))
  | 0 => [unitL n]
  | c + 1 => (spacesTo q n ks c).flatMap (splitL q n (ks.getD c []))
/-- The table, before it is sorted. -/
def rawL (q nE : Nat) (sz bk : List Nat) (ks : List (List (List Int))) : List (List Int) := (spacesTo q sz.length ks sz.length).map fun s => funL q nE sz bk (s.headD [])
def rawOk (q nE : Nat) (sz bk : List Nat) (ks : List (List (List Int))) : Bool := (spacesTo q sz.length ks sz.length).all fun s => funOk q nE sz bk (s.headD [])
end Go.Proofs.Ytdackakjcnnofaa

/- Burnside's count, plain. -/
namespace Go.Proofs.Ytdackakjcnnofaa

theorem sum_add {α : Type} (f g : α → Nat) : ∀ l : List α, (l.map fun p => f p + g p).sum = (l.map f).sum + (l.map g).sum
  | [] => rfl
  | x :: l => by simp only [List.map_cons, List.sum_cons, sum_add f g l]; omega
theorem sum_zero {α : Type} : ∀ l : List α, (l.map fun _ => 0).sum = 0
  | [] => rfl
  | x :: l => by simp only [List.map_cons, List.sum_cons, sum_zero l]
theorem sum_const {α : Type} (n : Nat) : ∀ l : List α, (l.map fun _ => n).sum = l.length * n
  | [] => by simp
  | x :: l => by simp only [List.map_cons, List.sum_cons, sum_const n l, List.length_cons, Nat.add_mul]; omega
theorem sum_bool {α : Type} (f : α → Bool) : ∀ l : List α, (l.map fun p => if f p then 1 else 0).sum = l.countP f
  | [] => rfl
  | x :: l => by simp only [List.map_cons, List.sum_cons, sum_bool f l, List.countP_cons]; omega
theorem sum_congr {α : Type} {f g : α → Nat} : ∀ {l : List α}, (∀ x ∈ l, f x = g x) → (l.map f).sum = (l.map g).sum
  | l, h => by rw [List.map_congr_left h]
theorem sum_comm {α β : Type} (f : α → β → Nat) (m : List β) : ∀ l : List α, (l.map fun x => (m.map fun y => f x y).sum).sum = (m.map fun y => (l.map fun x => f x y).sum).sum
  | [] => by simp [sum_zero]
  | x :: l => by simp only [List.map_cons, List.sum_cons, sum_comm f m l, sum_add]
theorem sum_swap {α β : Type} (R : α → β → Bool) (E : List β) (l : List α) : (l.map fun x => E.countP (R x)).sum = (E.map fun p => l.countP fun x => R x p).sum := by
  have h1 : (l.map fun x => E.countP (R x)) = l.map fun x => (E.map fun p => if R x p then 1 else 0).sum := List.map_congr_left fun x _ => (sum_bool (R x) E).symm
  have h2 : (E.map fun p => l.countP fun x => R x p) = E.map fun p => (l.map fun x => if R x p then 1 else 0).sum := List.map_congr_left fun p _ => (sum_bool (fun x => R x p) l).symm
  rw [h1, h2, sum_comm]
/-- A sum with one term that is not 0. -/
theorem sum_single {α : Type} (f : α → Nat) : ∀ (l : List α) (m : α), l.Nodup → m ∈ l → (∀ z ∈ l, z ≠ m → f z = 0) → (l.map f).sum = f m
  | [], _, _, h, _ => by simp at h
  | x :: l, m, hn, hm, h0 => by
    rw [List.nodup_cons] at hn
    simp only [List.map_cons, List.sum_cons]
    rcases List.mem_cons.1 hm with rfl | hm'
    · rw [sum_congr (g := fun _ => 0) (fun z hz => h0 z (List.mem_cons_of_mem _ hz) fun e => hn.1 (e ▸ hz)), sum_zero]; rfl
    · rw [h0 x List.mem_cons_self (fun e => hn.1 (e ▸ hm')), sum_single f l m hn.2 hm' fun z hz => h0 z (List.mem_cons_of_mem _ hz), Nat.zero_add]
theorem min_of {α : Type} (f : α → Nat) : ∀ (l : List α), l ≠ [] → ∃ g ∈ l, ∀ p ∈ l, f g ≤ f p
  | [], h => absurd rfl h
  | [x], _ => ⟨x, by simp, by simp⟩
  | x :: y :: l, _ => by
    obtain ⟨g, hg, hm⟩ := min_of f (y :: l) (by simp)
    by_cases h : f x ≤ f g
    · exact ⟨x, by simp, fun p hp => by
        rcases List.mem_cons.1 hp with rfl | hp
        · exact Nat.le_refl _
        · exact Nat.le_trans h (hm p hp)⟩
    · exact ⟨g, List.mem_cons_of_mem _ hg, fun p hp => by
        rcases List.mem_cons.1 hp with rfl | hp
        · omega
        · exact hm p hp⟩
/-- How a group acts on the numbers below N. -/
structure ActOn (d N : Nat) (E : List (List Nat)) (act : List Nat → Nat → Nat) : Prop where
  lt : ∀ p ∈ E, ∀ x, x < N → act p x < N
  one : ∀ x, x < N → act (oneP d) x = x
  mul : ∀ p ∈ E, ∀ q ∈ E, ∀ x, x < N → act q (act p x) = act (mulP p q) x
def firstX (E : List (List Nat)) (act : List Nat → Nat → Nat) (x : Nat) : Bool := E.all fun p => decide (x ≤ act p x)
theorem firstX_iff {E : List (List Nat)} {act : List Nat → Nat → Nat} {x : Nat} : firstX E act x = true ↔ ∀ p ∈ E, x ≤ act p x := by simp [firstX]
section
variable {d N : Nat} {E : List (List Nat)} {act : List Nat → Nat → Nat}
theorem Grp.mul_perm (h : Grp d E) {g : List Nat} (hg : g ∈ E) : (E.map (mulP g)).Perm E := by
  have hinj : ∀ x ∈ E, ∀ y ∈ E, mulP g x = mulP g y → x = y := fun x hx y hy e => mulP_cancel (h.perm g hg) (h.perm x hx) (h.perm y hy) e
  refine (List.perm_ext_iff_of_nodup ?_ h.nodup).2 fun z => ?_
  · rw [List.Nodup, List.pairwise_map]
    exact List.Pairwise.imp_of_mem (fun {a b} ha hb hne e => hne (hinj a ha b hb e)) h.nodup
  · refine ⟨fun hz => ?_, fun hz => ?_⟩
    · obtain ⟨x, hx, rfl⟩ := List.mem_map.1 hz
      exact h.mul _ hg _ hx
    · obtain ⟨x, hx, e⟩ := onto_of_inj h.nodup (mulP g) (fun x hx => h.mul _ hg _ hx) hinj hz
      exact List.mem_map.2 ⟨x, hx, e⟩
theorem ActOn.turn (h : Grp d E) (ha : ActOn d N E act) {g : List Nat} (hg : g ∈ E) {x : Nat} (hx : x < N) : ∃ k ∈ E, act k (act g x) = x := by
  obtain ⟨k, hk, e⟩ := h.inv hg
  exact ⟨k, hk, by rw [ha.mul g hg k hk x hx, e, ha.one x hx]⟩
/-- The first of an orbit is one. -/
theorem ActOn.first_uniq (h : Grp d E) (ha : ActOn d N E act) {z m : Nat} (hz : z < N) (hzf : firstX E act z = true) (hmf : firstX E act m = true) {p : List Nat} (hp : p ∈ E) (e : act p z = m) : z = m := by
  obtain ⟨k, hk, ek⟩ := ha.turn h hp hz
  have h1 := firstX_iff.1 hzf p hp
  have h2 := firstX_iff.1 hmf k hk
  rw [← e, ek] at h2
  omega
theorem ActOn.stab (h : Grp d E) (ha : ActOn d N E act) {x : Nat} (hx : x < N) :
    E.countP (fun p => act p x == x) = (((List.range N).filter (firstX E act)).map fun z => E.countP fun p => act p z == x).sum := by
  obtain ⟨g, hg, hm⟩ := min_of (fun p => act p x) E (List.ne_nil_of_mem h.one)
  obtain ⟨m, hmm⟩ : ∃ m, act g x = m := ⟨_, rfl⟩
  have hmN : m < N := by rw [← hmm]; exact ha.lt g hg x hx
  have hmf : firstX E act m = true := firstX_iff.2 fun p hp => by
    rw [← hmm, ha.mul g hg p hp x hx]
    exact hm _ (h.mul _ hg _ hp)
  obtain ⟨k, hk, ek⟩ := ha.turn h hg hx
  rw [hmm] at ek
  have hmem : m ∈ (List.range N).filter (firstX E act) := List.mem_filter.2 ⟨List.mem_range.2 hmN, hmf⟩
  rw [sum_single (fun z => E.countP fun p => act p z == x) _ m (List.nodup_range.filter _) hmem]
  · have h1 : E.countP (fun p => act p x == x) = E.countP (fun p => act (mulP k p) m == x) := by
      refine List.countP_congr fun p hp => ?_
      rw [← ha.mul k hk p hp m hmN, ek]
    have h2 : E.countP (fun p => act (mulP k p) m == x) = (E.map (mulP k)).countP (fun p => act p m == x) := by rw [List.countP_map]; rfl
    rw [h1, h2, (h.mul_perm hk).countP_eq]
  · intro z hz hne
    have hz' := List.mem_filter.1 hz
    have hzN := List.mem_range.1 hz'.1
    rw [List.countP_eq_zero]
    intro p hp e
    have e' : act p z = x := by simpa using e
    refine hne (ha.first_uniq h hzN hz'.2 hmf (h.mul _ hp _ hg) ?_)
    rw [← ha.mul p hp g hg z hzN, e', hmm]
theorem ActOn.burnside (h : Grp d E) (ha : ActOn d N E act) : (E.map fun p => (List.range N).countP fun x => act p x == x).sum = E.length * (List.range N).countP (firstX E act) := by
  rw [← sum_swap (fun x p => act p x == x) E (List.range N), sum_congr (fun x hx => ha.stab h (List.mem_range.1 hx)), sum_comm]
  have h1 : ∀ z ∈ (List.range N).filter (firstX E act), ((List.range N).map fun x => E.countP fun p => act p z == x).sum = E.length := by
    intro z hz
    have hzN := List.mem_range.1 (List.mem_filter.1 hz).1
    rw [sum_swap (fun x p => act p z == x) E (List.range N), sum_congr (g := fun _ => 1), sum_const, Nat.mul_one]
    intro p hp
    have hlt := ha.lt p hp z hzN
    have : (List.range N).countP (fun x => act p z == x) = (List.range N).count (act p z) := by
      rw [List.count_eq_countP]
      refine List.countP_congr fun x _ => ?_
      rw [beq_iff_eq, beq_iff_eq, eq_comm]
    rw [this, List.count_range]
    simp [hlt]
  rw [sum_congr h1, sum_const, ← List.countP_eq_length_filter, Nat.mul_comm]
end
end Go.Proofs.Ytdackakjcnnofaa

/- Colourings as numbers: turned by permutations; how many stay as they are. -/
namespace Go.Proofs.Ytdackakjcnnofaa

/-- The digit of place k. -/
def digC (c x k : Nat) : Nat := x / c ^ k % c
/-- The number with some digits. -/
def numD (c : Nat) (f : Nat → Nat) : Nat → Nat
  | 0 => 0
  | k + 1 => numD c f k + f k * c ^ k
theorem numD_congr {c : Nat} {f g : Nat → Nat} : ∀ {k : Nat}, (∀ i, i < k → f i = g i) → numD c f k = numD c g k
  | 0, _ => rfl
  | k + 1, h => by rw [numD, numD, numD_congr (k := k) fun i hi => h i (by omega), h k (by omega)]
theorem numD_lt {c : Nat} {f : Nat → Nat} : ∀ {k : Nat}, (∀ i, i < k → f i < c) → numD c f k < c ^ k
  | 0, _ => by simp [numD]
  | k + 1, h => by
    have h1 := numD_lt (k := k) fun i hi => h i (by omega)
    have h2 := h k (by omega)
    have h3 : (f k + 1) * c ^ k ≤ c * c ^ k := Nat.mul_le_mul_right _ h2
    rw [Nat.add_mul, Nat.one_mul] at h3
    rw [numD, Nat.pow_succ, Nat.mul_comm (c ^ k) c]
    omega
theorem dig_add {c a t k i : Nat} (hi : i < k) : digC c (c ^ k * t + a) i = digC c a i := by
  unfold digC
  have e : c ^ k = c ^ i * (c * c ^ (k - i - 1)) := by
    rw [← Nat.pow_succ', ← Nat.pow_add]; congr 1; omega
  by_cases hc : c = 0
  · subst hc
    by_cases h0 : i = 0
    · subst h0
      have : (0 : Nat) ^ k = 0 := Nat.zero_pow (by omega)
      rw [this, Nat.zero_mul, Nat.zero_add]
    · have : (0 : Nat) ^ k = 0 := Nat.zero_pow (by omega)
      rw [this, Nat.zero_mul, Nat.zero_add]
  · rw [e, Nat.mul_assoc, Nat.mul_assoc, Nat.mul_add_div (Nat.pow_pos (by omega)), Nat.mul_add_mod]
theorem dig_top {c a t k : Nat} (ha : a < c ^ k) (ht : t < c) : digC c (c ^ k * t + a) k = t := by
  unfold digC
  rw [Nat.mul_add_div (by omega), Nat.div_eq_of_lt ha, Nat.add_zero, Nat.mod_eq_of_lt ht]
theorem dig_num {c : Nat} {f : Nat → Nat} : ∀ {k i : Nat}, (∀ i, i < k → f i < c) → i < k → digC c (numD c f k) i = f i
  | 0, _, _, h => by omega
  | k + 1, i, h, hi => by
    have e : numD c f (k + 1) = c ^ k * f k + numD c f k := by rw [numD, Nat.mul_comm, Nat.add_comm]
    rw [e]
    by_cases hk : i = k
    · rw [hk]; exact dig_top (numD_lt fun i hi => h i (by omega)) (h k (by omega))
    · rw [dig_add (by omega)]; exact dig_num (fun i hi => h i (by omega)) (by omega)
theorem num_dig {c x : Nat} : ∀ {k : Nat}, numD c (digC c x) k = x % c ^ k
  | 0 => by simp [numD, Nat.mod_one]
  | k + 1 => by
    rw [numD, num_dig, digC, Nat.pow_succ, Nat.mod_mul, Nat.mul_comm]
theorem dig_lt {c x k : Nat} (hc : 0 < c) : digC c x k < c := Nat.mod_lt _ hc
/-- A permutation turns a colouring: the digit of place p[i] comes to place i. -/
def actC (c d : Nat) (p : List Nat) (x : Nat) : Nat := numD c (fun i => digC c x (p.getD i 0)) d
theorem actC_on {d c : Nat} {E : List (List Nat)} (h : Grp d E) (hd : 0 < d) : ActOn d (c ^ d) E (actC c d) := by
  have hcp : ∀ x, x < c ^ d → 0 < c := fun x hx => by
    rcases Nat.eq_zero_or_pos c with h0 | h0
    · rw [h0, Nat.zero_pow hd] at hx; omega
    · exact h0
  refine ⟨fun p hp x hx => numD_lt fun i _ => dig_lt (hcp x hx), fun x hx => ?_, fun p hp q hq x hx => ?_⟩
  · unfold actC
    rw [numD_congr (g := digC c x) fun i hi => by rw [oneP_getD hi], num_dig, Nat.mod_eq_of_lt hx]
  · unfold actC
    refine numD_congr fun i hi => ?_
    rw [dig_num (fun i _ => dig_lt (hcp x hx)) (perm_getD_lt (h.perm q hq) hi), mulP_getD (h.perm q hq) hi]
theorem act_fix {d c : Nat} {p : List Nat} {x : Nat} (hx : x < c ^ d) (hd : 0 < d) : (actC c d p x == x) = (List.range d).all fun i => digC c x (p.getD i 0) == digC c x i := by
  have hcp : 0 < c := by
    rcases Nat.eq_zero_or_pos c with h0 | h0
    · rw [h0, Nat.zero_pow hd] at hx; omega
    · exact h0
  rw [Bool.eq_iff_iff, beq_iff_eq, List.all_eq_true]
  constructor
  · intro e i hi
    have hi' := List.mem_range.1 hi
    rw [beq_iff_eq]
    have := dig_num (c := c) (f := fun i => digC c x (p.getD i 0)) (k := d) (i := i) (fun i _ => dig_lt hcp) hi'
    rw [← this]
    exact congrArg (fun y => digC c y i) e
  · intro h
    unfold actC
    rw [numD_congr (g := digC c x) fun i hi => beq_iff_eq.1 (h i (List.mem_range.2 hi)), num_dig, Nat.mod_eq_of_lt hx]

/-! ### counting -/
theorem countP_mul (a : Nat) (P : Nat → Bool) : ∀ b, (List.range (a * b)).countP P = ((List.range b).map fun t => (List.range a).countP fun y => P (a * t + y)).sum
  | 0 => by simp
  | b + 1 => by
    rw [Nat.mul_succ, List.range_add, List.countP_append, countP_mul a P b, List.range_succ, List.map_append, List.sum_append, List.countP_map]
    simp [Function.comp_def]
theorem count_one {c m : Nat} (h : m < c) : (List.range c).countP (fun t => t == m) = 1 := by
  have := List.count_range (n := c) (a := m)
  rw [List.count_eq_countP] at this
  rw [this, if_pos h]
theorem count_cells {c : Nat} (r : Nat → Nat) (hc : 0 < c) : ∀ k, (∀ i, i < k → r i ≤ i) →
    (List.range (c ^ k)).countP (fun x => (List.range k).all fun i => digC c x i == digC c x (r i)) = c ^ ((List.range k).countP fun i => r i == i)
  | 0, _ => by simp
  | k + 1, h => by
    have ih := count_cells r hc k fun i hi => h i (by omega)
    rw [Nat.pow_succ, countP_mul]
    have hk := h k (by omega)
    have e : ∀ t ∈ List.range c, (List.range (c ^ k)).countP (fun y => (List.range (k + 1)).all fun i => digC c (c ^ k * t + y) i == digC c (c ^ k * t + y) (r i)) =
        (List.range (c ^ k)).countP (fun y => ((List.range k).all fun i => digC c y i == digC c y (r i)) && (r k == k || t == digC c y (r k))) := by
      intro t ht
      refine List.countP_congr fun y hy => ?_
      have hy' := List.mem_range.1 hy
      have ht' := List.mem_range.1 ht
      rw [List.range_succ, List.all_append]
      have e1 : ((List.range k).all fun i => digC c (c ^ k * t + y) i == digC c (c ^ k * t + y) (r i)) = (List.range k).all fun i => digC c y i == digC c y (r i) := by
        rw [Bool.eq_iff_iff, List.all_eq_true, List.all_eq_true]
        refine forall_congr' fun i => ?_
        refine forall_congr' fun hi => ?_
        have hi' := List.mem_range.1 hi
        have := h i (by omega)
        rw [dig_add hi', dig_add (by omega)]
      rw [e1]
      have e2 : ([k].all fun i => digC c (c ^ k * t + y) i == digC c (c ^ k * t + y) (r i)) = (r k == k || t == digC c y (r k)) := by
        simp only [List.all_cons, List.all_nil, Bool.and_true]
        rw [dig_top hy' ht']
        by_cases hrk : r k = k
        · rw [hrk, dig_top hy' ht']; simp
        · rw [dig_add (show r k < k by omega)]
          have : (r k == k) = false := by simpa using hrk
          rw [this, Bool.false_or]
      rw [e2]
    rw [sum_congr e, List.range_succ, List.countP_append]
    by_cases hrk : r k = k
    · have e3 : (r k == k) = true := by simpa using hrk
      have e4 : ∀ t ∈ List.range c, (List.range (c ^ k)).countP (fun y => ((List.range k).all fun i => digC c y i == digC c y (r i)) && (r k == k || t == digC c y (r k))) = c ^ ((List.range k).countP fun i => r i == i) := by
        intro t _
        rw [← ih]
        refine List.countP_congr fun y _ => ?_
        rw [e3, Bool.true_or, Bool.and_true]
      rw [sum_congr e4, sum_const, List.length_range, List.countP_singleton, if_pos e3, Nat.pow_succ, Nat.mul_comm]
    · have e3 : (r k == k) = false := by simpa using hrk
      rw [List.countP_singleton, if_neg (by rw [e3]; simp), Nat.add_zero, ← ih]
      rw [sum_swap (fun t y => ((List.range k).all fun i => digC c y i == digC c y (r i)) && (r k == k || t == digC c y (r k))) (List.range (c ^ k)) (List.range c), ← sum_bool]
      refine sum_congr fun y _ => ?_
      cases hP : (List.range k).all fun i => digC c y i == digC c y (r i) with
      | false => simp
      | true =>
        simp only [Bool.true_and, e3, Bool.false_or, if_true]
        exact count_one (dig_lt hc)
/-- The least place of a cycle, as far as five steps go. -/
def cyTo (p : List Nat) (i : Nat) : Nat → Nat × Nat
  | 0 => (i, i)
  | t + 1 => (p.getD (cyTo p i t).1 0, min (cyTo p i t).2 (p.getD (cyTo p i t).1 0))
def cyR (p : List Nat) (i : Nat) : Nat := (cyTo p i 5).2
theorem cyR_le (p : List Nat) (i : Nat) : cyR p i ≤ i := by
  have : ∀ t, (cyTo p i t).2 ≤ i := fun t => by
    induction t with
    | zero => exact Nat.le_refl _
    | succ t ih => rw [cyTo]; exact Nat.le_trans (Nat.min_le_left _ _) ih
  exact this 5
theorem cyTo_same {d : Nat} {p : List Nat} (hp : Perm1 d p) (f : Nat → Nat) (hf : ∀ i, i < d → f (p.getD i 0) = f i) {i : Nat} (hi : i < d) : ∀ t, (cyTo p i t).1 < d ∧ f (cyTo p i t).1 = f i ∧ f (cyTo p i t).2 = f i
  | 0 => ⟨hi, rfl, rfl⟩
  | t + 1 => by
    obtain ⟨h1, h2, h3⟩ := cyTo_same hp f hf hi t
    refine ⟨perm_getD_lt hp h1, by rw [cyTo, hf _ h1, h2], ?_⟩
    rw [cyTo]
    rcases Nat.le_total (cyTo p i t).2 (p.getD (cyTo p i t).1 0) with h | h
    · rw [Nat.min_eq_left h]; exact h3
    · rw [Nat.min_eq_right h, hf _ h1]; exact h2
/-- How many cycles there are. -/
def cycN (d : Nat) (p : List Nat) : Nat := (List.range d).countP fun i => cyR p i == i
def cyOk (d : Nat) (p : List Nat) : Bool := (List.range d).all fun i => cyR p (p.getD i 0) == cyR p i
theorem fix_count {d c : Nat} {p : List Nat} (hp : Perm1 d p) (hd : 0 < d) (hok : cyOk d p = true) : (List.range (c ^ d)).countP (fun x => actC c d p x == x) = c ^ cycN d p := by
  rcases Nat.eq_zero_or_pos c with h0 | hc
  · subst h0
    have h1 : 0 < cycN d p := by
      unfold cycN
      rw [List.countP_pos_iff]
      exact ⟨0, List.mem_range.2 hd, by have := cyR_le p 0; simp; omega⟩
    rw [Nat.zero_pow hd, Nat.zero_pow h1]; rfl
  · unfold cycN
    rw [← count_cells (cyR p) hc d fun i _ => cyR_le p i]
    refine List.countP_congr fun x hx => ?_
    rw [act_fix (List.mem_range.1 hx) hd, List.all_eq_true, List.all_eq_true]
    unfold cyOk at hok
    rw [List.all_eq_true] at hok
    constructor
    · intro h i hi
      have := (cyTo_same hp (digC c x) (fun i hi => beq_iff_eq.1 (h i (List.mem_range.2 hi))) (List.mem_range.1 hi) 5).2.2
      rw [beq_iff_eq]
      exact this.symm
    · intro h i hi
      have h1 := beq_iff_eq.1 (h i hi)
      have h2 := beq_iff_eq.1 (h _ (List.mem_range.2 (perm_getD_lt hp (List.mem_range.1 hi))))
      have h3 := beq_iff_eq.1 (hok i hi)
      rw [beq_iff_eq, h1, h2, h3]
end Go.Proofs.Ytdackakjcnnofaa
