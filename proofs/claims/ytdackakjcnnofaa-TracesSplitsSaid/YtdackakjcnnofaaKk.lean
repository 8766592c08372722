/- A group with at most 24 elements has one of the listed class data (printed by gen_ki.py). -/
import Derived.Test.YtdackakjcnnofaaKj0
import Derived.Test.YtdackakjcnnofaaKj1
import Derived.Test.YtdackakjcnnofaaKj2
namespace Go.Proofs.Ytdackakjcnnofaa

theorem certs_all (t : Nat → Nat → Nat) (i : Nat → Nat) : ∀ e ∈ pairsC, certOk e.1.2.2 e.2 t i = true := by
  have hcut : ∀ (n : Nat) (l : List ((Nat × List Nat × List Nat) × Cert)) (k : Nat), ((l.drop k).take n).all (fun e => certOk e.1.2.2 e.2 t i) = true → (l.drop (k + n)).all (fun e => certOk e.1.2.2 e.2 t i) = true → (l.drop k).all (fun e => certOk e.1.2.2 e.2 t i) = true := fun n l k h1 h2 => by
    rw [← List.take_append_drop n (l.drop k), List.all_append, h1, List.drop_drop, Bool.true_and]
    exact h2
  have hend : (pairsC.drop 154).all (fun e => certOk e.1.2.2 e.2 t i) = true := by kernel_rfl
  exact List.all_eq_true.1 (hcut 121 pairsC 0 (cert_0 t i) (hcut 13 pairsC 121 (cert_1 t i) (hcut 9 pairsC 134 (cert_2 t i) (hcut 2 pairsC 143 (cert_3 t i) (hcut 2 pairsC 145 (cert_4 t i) (hcut 2 pairsC 147 (cert_5 t i) (hcut 1 pairsC 149 (cert_6 t i) (hcut 1 pairsC 150 (cert_7 t i) (hcut 1 pairsC 151 (cert_8 t i) (hcut 1 pairsC 152 (cert_9 t i) (hcut 1 pairsC 153 (cert_10 t i) hend)))))))))))
variable {d : Nat} {E : List (List Nat)}
theorem Grp.cert (h : Grp d E) (h1 : 0 < d) (hd : d ≤ 5) (h24 : E.length ≤ 24) : ∃ e ∈ pairsC, ∃ q, E = subE d e.1 ∧ (d, q) ∈ e.2.qs ∧ IsData E d q e.2 e.1.2.2.length := by
  obtain ⟨e, he, hf, rfl⟩ := h.cases hd h24
  obtain ⟨i, hi, rfl⟩ := List.getElem_of_mem he
  have hm : (subL[i], certL[i]'(by rw [certL_length]; exact hi)) ∈ pairsC := List.mem_of_getElem? (i := i) (by
    unfold pairsC
    rw [List.getElem?_zip_eq_some]
    exact ⟨List.getElem?_eq_getElem hi, List.getElem?_eq_getElem _⟩)
  obtain ⟨c, hc⟩ : ∃ c, certL[i]'(by rw [certL_length]; exact hi) = c := ⟨_, rfl⟩
  rw [hc] at hm
  have hin := List.all_eq_true.1 inData_checked _ hm
  unfold inData at hin
  rw [Bool.and_eq_true] at hin
  have h5 : d ∈ [1, 2, 3, 4, 5] := by
    have : d = 1 ∨ d = 2 ∨ d = 3 ∨ d = 4 ∨ d = 5 := by omega
    rcases this with rfl | rfl | rfl | rfl | rfl <;> decide
  have h6 := List.all_eq_true.1 hin.2 d h5
  rw [hf, Bool.not_true, Bool.false_or] at h6
  obtain ⟨p, hp, hpd⟩ := List.any_eq_true.1 h6
  have e1 := Nat.eq_of_beq_eq_true hpd
  obtain ⟨pd, q⟩ := p
  simp only at e1
  subst e1
  exact ⟨_, hm, q, rfl, hp, IsData.of he hf hd h (fun t i => certs_all t i _ hm) hp⟩
theorem Grp.data (h : Grp d E) (h1 : 0 < d) (hd : d ≤ 5) (h24 : E.length ≤ 24) : ∃ D ∈ dataL, primeN E d = D.1 ∧ E.length = D.2.1 ∧ (classesN E).map List.length = D.2.2.1 ∧ backC E = D.2.2.2.1 ∧ (List.range (repsN E E.length).length).map (constL E) = D.2.2.2.2 := by
  obtain ⟨e, he, q, _, hq, hD⟩ := h.cert h1 hd h24
  have hin := List.all_eq_true.1 inData_checked e he
  unfold inData at hin
  rw [Bool.and_eq_true] at hin
  obtain ⟨D, hm, hb⟩ := List.any_eq_true.1 (List.all_eq_true.1 hin.1 _ hq)
  simp only [Bool.and_eq_true, beq_iff_eq] at hb
  obtain ⟨⟨⟨⟨b1, b2⟩, b3⟩, b4⟩, b5⟩ := hb
  exact ⟨D, hm, by rw [hD.q]; exact (Nat.eq_of_beq_eq_true b1).symm, by rw [hD.n]; exact (Nat.eq_of_beq_eq_true b2).symm, by rw [hD.sz]; exact b3.symm, by rw [hD.bk]; exact b4.symm, by rw [hD.ks]; exact b5.symm⟩
end Go.Proofs.Ytdackakjcnnofaa
