/- Which groups are commutative. -/
import Derived.Test.YtdackakjcnnofaaKl
namespace Go.Proofs.Ytdackakjcnnofaa

def commB (E : List (List Nat)) : Bool := E.all fun a => E.all fun b => mulP a b == mulP b a
def oneL (T : List (List Int)) : Bool := T.all fun r => r.headD 0 == 1
def sglB (C : List (List Nat)) : Bool := C.all fun c => c.length == 1
def certC (e : (Nat × List Nat × List Nat) × Cert) : Bool :=
  ((List.range e.1.2.2.length).all (fun a => (List.range e.1.2.2.length).all fun b => tK e.2.tb a b == tK e.2.tb b a) == sglB e.2.C) && (e.2.C.map List.length).sum == e.1.2.2.length
theorem comm_checked : pairsC.all certC = true := by kernel_rfl
theorem one_checked : (dataT.all fun x => (oneL x.2 == x.1.2.2.1.all fun k => k == 1) && (x.2.all fun r => decide (0 < r.length)) && decide (x.2.length ≤ 24)) = true := by kernel_rfl
variable {d : Nat} {E : List (List Nat)}
theorem Grp.comm_times (h : Grp d E) : commB E = (List.range E.length).all fun a => (List.range E.length).all fun b => timesN E a b == timesN E b a := by
  rw [Bool.eq_iff_iff]
  unfold commB
  simp only [List.all_eq_true, List.mem_range, beq_iff_eq]
  constructor
  · intro hc a ha b hb
    unfold timesN
    rw [hc _ (elP_mem ha) _ (elP_mem hb)]
  · intro hc a ha b hb
    have h1 := hc _ (numP_lt ha) _ (numP_lt hb)
    unfold timesN at h1
    rw [elP_num ha, elP_num hb] at h1
    have e1 := elP_num (h.mul a ha b hb)
    have e2 := elP_num (h.mul b hb a ha)
    rw [← e1, ← e2, h1]
theorem Grp.abel (h : Grp d E) (h1 : 0 < d) (hd : d ≤ 5) (h24 : E.length ≤ 24) : sglB (classesN E) = commB E ∧ ((classesN E).map List.length).sum = E.length ∧ oneL (tabG E d) = commB E ∧ (∀ r ∈ tabG E d, 0 < r.length) ∧ (tabG E d).length ≤ 24 ∧ okG E d = true := by
  obtain ⟨e, he, q, _, _, hD⟩ := h.cert h1 hd h24
  have hc := List.all_eq_true.1 comm_checked e he
  unfold certC at hc
  rw [Bool.and_eq_true, beq_iff_eq, beq_iff_eq] at hc
  have hco : commB E = sglB (classesN E) := by
    rw [hD.cls, ← hc.1, h.comm_times, hD.n]
    rw [Bool.eq_iff_iff]
    simp only [List.all_eq_true, List.mem_range, beq_iff_eq]
    constructor
    · intro hx a ha b hb
      rw [← hD.times a b ha hb, ← hD.times b a hb ha]
      exact hx a ha b hb
    · intro hx a ha b hb
      rw [hD.times a b ha hb, hD.times b a hb ha]
      exact hx a ha b hb
  obtain ⟨x, hx, hok, ht, -, -, hsz, -, -⟩ := h.tab h1 hd h24
  have h2 := List.all_eq_true.1 one_checked x hx
  simp only [Bool.and_eq_true, beq_iff_eq, List.all_eq_true, decide_eq_true_eq] at h2
  refine ⟨hco.symm, by rw [hD.cls, hD.n]; exact hc.2, ?_, by rw [ht]; exact h2.1.2, by rw [ht]; exact h2.2, hok⟩
  rw [hco, ht, h2.1.1, ← hsz]
  unfold szE sglB
  rw [List.all_map]; rfl
end Go.Proofs.Ytdackakjcnnofaa
