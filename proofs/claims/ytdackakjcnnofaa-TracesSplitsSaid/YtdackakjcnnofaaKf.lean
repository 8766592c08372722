/- A group with at most 24 elements of permutations of five is one of the list: the chain. -/
import Derived.Test.YtdackakjcnnofaaKc
import Derived.Test.YtdackakjcnnofaaKd
import Derived.Test.YtdackakjcnnofaaKe
namespace Go.Proofs.Ytdackakjcnnofaa

/-- A group of numbers of permutations of five. -/
structure NG (G : Nat → Prop) : Prop where
  one : G 0
  mul : ∀ a b, G a → G b → G (mulT a b)
  lt : ∀ a, G a → a < 120
  few : ∀ l : List Nat, l.Nodup → (∀ x ∈ l, G x) → l.length ≤ 24
def StG (G : Nat → Prop) (s : List Nat × List Nat × Nat × Nat) : Prop :=
  (∀ x ∈ s.1, x ∈ s.2.1) ∧ (∀ z, s.2.2.1.testBit z = true ↔ z ∈ s.2.1) ∧ s.2.1.Nodup ∧ ∀ x ∈ s.2.1, G x
section
variable {G : Nat → Prop}
theorem addG_ok (h : NG G) {x : Nat} (hx : G x) : ∀ (ys : List Nat) (s : List Nat × List Nat × Nat × Nat), (∀ y ∈ ys, G y) → StG G s → StG G (addG x ys s)
  | [], _, _, hs => hs
  | y :: ys, (td, el, m, c), hy, hs => by
    have hy2 : ∀ z ∈ ys, G z := fun z hz => hy z (List.mem_cons_of_mem _ hz)
    unfold addG
    by_cases hb : Nat.testBit m (mulT x y) = true
    · rw [if_pos hb]
      exact addG_ok h hx ys _ hy2 hs
    · rw [if_neg hb]
      obtain ⟨h1, h2, h3, h4⟩ := hs
      have hg := h.mul x y hx (hy y List.mem_cons_self)
      obtain ⟨z, hz⟩ : ∃ z, mulT x y = z := ⟨_, rfl⟩
      rw [hz] at hb hg ⊢
      refine addG_ok h hx ys _ hy2 ⟨fun a ha => ?_, fun a => ?_, ?_, fun a ha => ?_⟩
      · rcases List.mem_cons.1 ha with rfl | ha
        · exact List.mem_cons_self
        · exact List.mem_cons_of_mem _ (h1 a ha)
      · show (m ||| 2 ^ z).testBit a = true ↔ _
        rw [Nat.testBit_or, Nat.testBit_two_pow, Bool.or_eq_true, h2 a, List.mem_cons, decide_eq_true_eq]
        constructor
        · rintro (h | h)
          · exact .inr h
          · exact .inl h.symm
        · rintro (h | h)
          · exact .inr h.symm
          · exact .inl h
      · refine List.nodup_cons.2 ⟨fun hm => hb ((h2 z).2 hm), h3⟩
      · rcases List.mem_cons.1 ha with rfl | ha
        · exact hg
        · exact h4 a ha
theorem cloG_ok (h : NG G) {gs : List Nat} (hgs : ∀ y ∈ gs, G y) : ∀ (f : Nat) (s : List Nat × List Nat × Nat × Nat), StG G s →
    (cloG gs f s).1.Nodup ∧ (∀ x ∈ (cloG gs f s).1, G x) ∧ ∀ z, (cloG gs f s).2.testBit z = true ↔ z ∈ (cloG gs f s).1
  | 0, (_, _, _, _), hs => ⟨hs.2.2.1, hs.2.2.2, hs.2.1⟩
  | _ + 1, ([], _, _, _), hs => ⟨hs.2.2.1, hs.2.2.2, hs.2.1⟩
  | f + 1, (x :: td, el, m, c), hs => by
    unfold cloG
    split
    · exact ⟨hs.2.2.1, hs.2.2.2, hs.2.1⟩
    · refine cloG_ok h hgs f _ (addG_ok h (hs.2.2.2 x (hs.1 x List.mem_cons_self)) gs _ hgs ⟨fun a ha => hs.1 a (List.mem_cons_of_mem _ ha), hs.2⟩)
end
theorem pairs_all : ∀ e ∈ subQ, pairsOk e = true := by
  have hcut : ∀ (n : Nat) (l : List ((Nat × List Nat × List Nat) × Nat)) (k : Nat), ((l.drop k).take n).all pairsOk = true → (l.drop (k + n)).all pairsOk = true → (l.drop k).all pairsOk = true := fun n l k h1 h2 => by
    rw [← List.take_append_drop n (l.drop k), List.all_append, h1, List.drop_drop, Bool.true_and]
    exact h2
  have h8 : (subQ.drop 154).all pairsOk = true := by kernel_rfl
  have := hcut 20 subQ 0 pairs_0 (hcut 20 subQ 20 pairs_1 (hcut 20 subQ 40 pairs_2 (hcut 20 subQ 60 pairs_3 (hcut 20 subQ 80 pairs_4 (hcut 20 subQ 100 pairs_5 (hcut 20 subQ 120 pairs_6 (hcut 14 subQ 140 pairs_7 h8)))))))
  exact List.all_eq_true.1 this
theorem sub_lt : subL.all (fun e => Nat.blt e.1 (Nat.pow 2 120)) = true := by kernel_rfl
theorem incB_sorted : ∀ {l : List Nat}, incB l = true → l.Pairwise (· < ·)
  | [], _ => List.Pairwise.nil
  | [a], _ => List.pairwise_singleton _ _
  | a :: b :: l, h => by
    unfold incB at h
    simp only [Bool.and_eq_true] at h
    have h1 : a < b := Nat.le_of_ble_eq_true h.1
    have h2 := incB_sorted h.2
    refine List.pairwise_cons.2 ⟨fun x hx => ?_, h2⟩
    rcases List.mem_cons.1 hx with rfl | hx
    · exact h1
    · exact Nat.lt_trans h1 ((List.pairwise_cons.1 h2).1 x hx)
structure SubI (e : Nat × List Nat × List Nat) : Prop where
  gen : ∀ g ∈ e.2.1, g ∈ e.2.2
  inc : e.2.2.Pairwise (· < ·)
  lt : ∀ i ∈ e.2.2, i < 120
  bit : ∀ z, e.1.testBit z = true ↔ z ∈ e.2.2
theorem sub_in {e : Nat × List Nat × List Nat} (he : e ∈ subL) : SubI e := by
  have h := List.all_eq_true.1 subs_checked e he
  have h2 : e.1 < 2 ^ 120 := Nat.le_of_ble_eq_true (List.all_eq_true.1 sub_lt e he)
  unfold subOk at h
  simp only [Bool.and_eq_true, List.all_eq_true, List.mem_range] at h
  obtain ⟨⟨⟨a1, a2⟩, a3⟩, a4⟩ := h
  have a3' : ∀ i ∈ e.2.2, i < 120 := fun i hi => Nat.le_of_ble_eq_true (a3 i hi)
  refine ⟨fun g hg => List.elem_iff.1 (a1 g hg), incB_sorted a2, a3', fun z => ?_⟩
  by_cases hz : z < 120
  · have := a4 z hz
    rw [beq_iff_eq] at this
    rw [this]
    exact List.elem_iff
  · constructor
    · intro hb
      exact absurd (Nat.testBit_lt_two_pow (Nat.lt_of_lt_of_le h2 (Nat.pow_le_pow_right (by omega) (by omega : 120 ≤ z)))) (by rw [hb]; simp)
    · intro hb
      exact absurd (a3' z hb) hz
theorem subQ_mem {q : (Nat × List Nat × List Nat) × Nat} (h : q ∈ subQ) : q.1 ∈ subL := (List.of_mem_zip h).1
section
variable {G : Nat → Prop}
/-- The listed subgroup of the elements below a number grows with it. -/
theorem NG.chain (h : NG G) : ∀ g, g ≤ 120 → ∃ e ∈ subQ, e.2 ≤ g ∧ (∀ z, e.1.1.testBit z = true → G z) ∧ ∀ z, z < g → G z → e.1.1.testBit z = true
  | 0, _ => by
    obtain ⟨e, he⟩ : ∃ e, subQ[0]? = some e := ⟨_, rfl⟩
    have h0 : (subQ[0]?).map (fun e => (e.1.2.2, e.2)) = some ([0], 0) := by kernel_rfl
    rw [he] at h0
    have h1 := Option.some.inj h0
    have hm := List.mem_of_getElem? he
    have hs := sub_in (subQ_mem hm)
    refine ⟨e, hm, by rw [(Prod.mk.inj h1).2]; exact Nat.le_refl _, fun z hz => ?_, fun z hz => absurd hz (Nat.not_lt_zero _)⟩
    have := (hs.bit z).1 hz
    rw [(Prod.mk.inj h1).1] at this
    rw [List.mem_singleton.1 this]
    exact h.one
  | g + 1, hg => by
    obtain ⟨e, he, hm, h1, h2⟩ := h.chain g (by omega)
    by_cases hgg : G g
    · by_cases hb : e.1.1.testBit g = true
      · refine ⟨e, he, by omega, h1, fun z hz hG => ?_⟩
        by_cases hzg : z = g
        · rw [hzg]; exact hb
        · exact h2 z (by omega) hG
      · have hs := sub_in (subQ_mem he)
        have hp := pairs_all e he
        unfold pairsOk at hp
        have hp := List.all_eq_true.1 hp g (List.mem_range.2 (by omega))
        unfold pairOk at hp
        have hblt : Nat.blt g e.2 = false := Bool.eq_false_iff.2 fun hc => by have : g < e.2 := Nat.le_of_ble_eq_true hc; omega
        rw [Bool.eq_false_iff.2 hb, hblt, Bool.false_or, Bool.false_or] at hp
        have hels : ∀ x ∈ e.1.2.2, G x := fun x hx => h1 x ((hs.bit x).2 hx)
        have hst : StG G (e.1.2.2, e.1.2.2, e.1.1, e.1.2.2.length) := ⟨fun _ hx => hx, hs.bit, hs.inc.imp fun {a b} h => by omega, hels⟩
        obtain ⟨c1, c2, c3⟩ := cloG_ok h (gs := g :: e.1.2.1) (fun y hy => by
          rcases List.mem_cons.1 hy with rfl | hy
          · exact hgg
          · exact hels y (hs.gen y hy)) 200 _ hst
        obtain ⟨r, hr⟩ : ∃ r, cloG (g :: e.1.2.1) 200 (e.1.2.2, e.1.2.2, e.1.1, e.1.2.2.length) = r := ⟨_, rfl⟩
        rw [hr] at hp c1 c2 c3
        unfold pairR at hp
        have hfew := h.few r.1 c1 c2
        have hbl : Nat.blt 24 r.1.length = false := Bool.eq_false_iff.2 fun hc => by have : 24 < r.1.length := Nat.le_of_ble_eq_true hc; omega
        rw [hbl, Bool.false_or] at hp
        simp only [Bool.and_eq_true] at hp
        obtain ⟨⟨p1, p2⟩, p3⟩ := hp
        obtain ⟨q, hq, hq2⟩ := List.any_eq_true.1 p1
        simp only [Bool.and_eq_true] at hq2
        have e1 : q.1.1 = r.2 := Nat.eq_of_beq_eq_true hq2.1
        have e2 : q.2 ≤ g + 1 := Nat.le_of_ble_eq_true hq2.2
        have e3 : e.1.1 &&& r.2 = e.1.1 := Nat.eq_of_beq_eq_true p2
        refine ⟨q, hq, e2, fun z hz => ?_, fun z hz hG => ?_⟩
        · rw [e1] at hz
          exact c2 z ((c3 z).1 hz)
        · rw [e1]
          by_cases hzg : z = g
          · rw [hzg]; exact p3
          · have hb := h2 z (by omega) hG
            rw [← e3, Nat.testBit_and, Bool.and_eq_true] at hb
            exact hb.2
    · refine ⟨e, he, by omega, h1, fun z hz hG => ?_⟩
      by_cases hzg : z = g
      · rw [hzg] at hG; exact absurd hG hgg
      · exact h2 z (by omega) hG
theorem NG.listed (h : NG G) : ∃ e ∈ subL, ∀ z, G z ↔ z ∈ e.2.2 := by
  obtain ⟨e, he, -, h1, h2⟩ := h.chain 120 (Nat.le_refl _)
  have hs := sub_in (subQ_mem he)
  exact ⟨e.1, subQ_mem he, fun z => ⟨fun hG => (hs.bit z).1 (h2 z (h.lt z hG) hG), fun hz => h1 z ((hs.bit z).2 hz)⟩⟩
end
end Go.Proofs.Ytdackakjcnnofaa
