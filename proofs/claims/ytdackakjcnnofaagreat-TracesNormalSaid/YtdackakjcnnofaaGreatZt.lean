/- made by its shape; a whole group is loaded; the table of valid generators. -/
import Derived.Test.YtdackakjcnnofaaGreatR3
import Derived.Test.YtdackakjcnnofaaGreatA13
namespace Go.Proofs.YtdackakjcnnofaaGreat
open Go.RowKit
attribute [local go_sem] Oper.semAt_some

/-- The copy of valid generators is they. -/
theorem tabA_eq {L : List (List Int)} (h : genQ L = true ∨ genQ (tabA L) = true) : tabA L = L := by
  have key : L.length ≤ 6 → (∀ p ∈ L, p.length ≤ 30) → tabA L = L := fun h1 h2 => by
    unfold tabA
    rw [List.take_of_length_le h1]
    conv => rhs; rw [← List.map_id L]
    exact List.map_congr_left fun p hp => List.take_of_length_le (h2 p hp)
  rcases h with h | h
  · unfold genQ at h
    simp only [Bool.and_eq_true, decide_eq_true_eq, List.all_eq_true] at h
    exact key (by omega) fun p hp => by have := rowQ_iff.1 (h.2 p hp); omega
  · unfold genQ at h
    simp only [Bool.and_eq_true, decide_eq_true_eq, List.all_eq_true] at h
    obtain ⟨⟨h1, h2⟩, h3⟩ := h
    have hl : L.length ≤ 4 := by
      unfold tabA at h2
      rw [List.length_map, List.length_take] at h2
      omega
    refine key (by omega) fun p hp => ?_
    have hm : p.take 30 ∈ tabA L := by
      unfold tabA
      rw [List.take_of_length_le (by omega)]
      exact List.mem_map.2 ⟨p, hp, rfl⟩
    have := rowQ_iff.1 (h3 _ hm)
    have h5 := this.2.2.2.2
    rw [List.length_take] at h5
    omega
theorem genQ_tabA (L : List (List Int)) : genQ (tabA L) = genQ L := by
  cases h : genQ L with
  | true => rw [tabA_eq (.inl h)]; exact h
  | false =>
    cases h2 : genQ (tabA L) with
    | false => rfl
    | true => rw [tabA_eq (.inr h2), h] at h2; cases h2
/-- made, by its shape alone. -/
def MadeQ (v : Value) (L : List (List Int)) (m : Int) : Prop := ∀ w', Args w' v L → Calls Tryz.prog 13 #[v] w' fun e w2 => ∃ a1 n1 c1 a2 n2 c2 a3 n3 c3 a4 n4 c4 a5 n5 c5 q, e = .returned (.tuple #[.agg #[.slice a1 n1 c1, .slice a2 n2 c2, .slice a3 n3 c3, .slice a4 n4 c4, .slice a5 n5 c5, .int .i64 q], .int .i64 m]) ∧ Below w'.heap.size w' w2
theorem madeQ_no {v : Value} {L : List (List Int)} (hq : genQ L = false) : MadeQ v L 2 := fun _ ha => (made_no ha hq).mono fun _ _ ⟨he, hb⟩ => ⟨_, _, _, _, _, _, _, _, _, _, _, _, _, _, _, _, he, hb⟩
theorem madeQ_over {v : Value} {L : List (List Int)} (hq : genQ L = true) (ho : Over (L.headD []).length (L.map natP)) : MadeQ v L 6 := fun _ ha => (made_over ha hq ho).mono fun _ _ ⟨he, hb⟩ => ⟨_, _, _, _, _, _, _, _, _, _, _, _, _, _, _, _, he, hb⟩
theorem RGI.slices {d : Nat} {E : List (List Nat)} {w : World} {gv : Value} (h : RGI d E w gv) : ∃ a1 n1 c1 a2 n2 c2 a3 n3 c3 a4 n4 c4 a5 n5 c5, gv = .agg #[.slice a1 n1 c1, .slice a2 n2 c2, .slice a3 n3 c3, .slice a4 n4 c4, .slice a5 n5 c5, .int .i64 (primeN E d : Nat)] := by
  obtain ⟨vL, vT, vB, vC, vO, rfl, k1, k2, k3, k4, k5⟩ := h
  obtain ⟨aL, cL, rfl⟩ := k1.form
  obtain ⟨aT, cT, rfl⟩ := k2.form
  obtain ⟨aB, cB, rfl, -, -, -⟩ := k3
  obtain ⟨aC, cC, rfl⟩ := k4.form
  obtain ⟨aO, cO, rfl, -, -, -⟩ := k5
  exact ⟨_, _, _, _, _, _, _, _, _, _, _, _, _, _, _, rfl⟩
theorem madeQ_yes {v : Value} {L : List (List Int)} {E : List (List Nat)} (hq : genQ L = true) (hg : IsG (L.headD []).length (L.map natP) E) : MadeQ v L 0 := fun _ ha => (made_yes ha hq hg).mono fun _ _ ⟨gv, he, hr, hb⟩ => by
  obtain ⟨a1, n1, c1, a2, n2, c2, a3, n3, c3, a4, n4, c4, a5, n5, c5, rfl⟩ := hr.slices
  exact ⟨_, _, _, _, _, _, _, _, _, _, _, _, _, _, _, _, he, hb⟩
/-- A whole group is loaded. -/
theorem wpl_load_rg {ops : Array Oper} {rest : List Oper} {op : Oper} {a : Act} {w : World} {Q : Exit → Act → World → Prop} (hg : op.guard = none) (x : Operand) (ho : op.op = .load 29 x)
    (b : Nat) (l : List Value) (hl : l.length = 6) (hx : a.eval x = .pointer (some ⟨b, 0, none⟩)) (h0 : Held w b 29 l)
    (hK : wpList Tryz.prog ops Q rest (a.put op.dst (.agg l.toArray)) w) : wpList Tryz.prog ops Q (op :: rest) a w :=
  wpList_load_mid hg 29 x ho b 0 hx l _ h0.range Tryz.underlying29 rfl (by rw [infoRG, hl]) hK
end Go.Proofs.YtdackakjcnnofaaGreat
