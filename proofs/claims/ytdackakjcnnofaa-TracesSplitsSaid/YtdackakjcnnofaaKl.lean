/- The program's table of every group (printed by gen_kl.py). -/
import Derived.Test.YtdackakjcnnofaaKk
import Derived.Test.YtdackakjcnnofaaA13
namespace Go.Proofs.Ytdackakjcnnofaa

/-- The tables of the class data, in the order of dataL. -/
def tabsL : List (List (List Int)) := [
  [[1]],
  [[1]],
  [[1]],
  [[1]],
  [[1, 1], [1, 2]],
  [[1, 1], [1, 4]],
  [[1, 1], [1, 6]],
  [[1, 1, 1], [1, 2, 4], [1, 4, 2]],
  [[1, 1, 1, 1], [1, 1, 4, 4], [1, 4, 1, 4], [1, 4, 4, 1]],
  [[1, 1, 1, 1], [1, 1, 4, 4], [1, 4, 2, 3], [1, 4, 3, 2]],
  [[1, 1, 1, 1], [1, 2, 3, 4], [1, 3, 2, 4], [1, 4, 4, 1]],
  [[1, 1, 1, 1], [1, 2, 4, 3], [1, 3, 4, 2], [1, 4, 1, 4]],
  [[1, 1, 1, 1], [1, 1, 6, 6], [1, 6, 1, 6], [1, 6, 6, 1]],
  [[1, 1, 1, 1], [1, 1, 12, 12], [1, 12, 5, 8], [1, 12, 8, 5]],
  [[1, 1, 1, 1], [1, 5, 8, 12], [1, 8, 5, 12], [1, 12, 12, 1]],
  [[1, 1, 1, 1], [1, 5, 12, 8], [1, 8, 12, 5], [1, 12, 1, 12]],
  [[1, 1, 1, 1, 1], [1, 3, 4, 9, 5], [1, 4, 3, 5, 9], [1, 5, 9, 3, 4], [1, 9, 5, 4, 3]],
  [[1, 1, 1, 1, 1], [1, 3, 4, 5, 9], [1, 4, 3, 9, 5], [1, 5, 9, 4, 3], [1, 9, 5, 3, 4]],
  [[1, 1, 1, 1, 1], [1, 3, 9, 4, 5], [1, 4, 5, 3, 9], [1, 5, 3, 9, 4], [1, 9, 4, 5, 3]],
  [[1, 1, 1, 1, 1], [1, 3, 5, 4, 9], [1, 4, 9, 3, 5], [1, 5, 4, 9, 3], [1, 9, 3, 5, 4]],
  [[1, 1, 1, 1, 1], [1, 3, 9, 5, 4], [1, 4, 5, 9, 3], [1, 5, 3, 4, 9], [1, 9, 4, 3, 5]],
  [[1, 1, 1, 1, 1], [1, 3, 5, 9, 4], [1, 4, 9, 5, 3], [1, 5, 4, 3, 9], [1, 9, 3, 4, 5]],
  [[1, 1, 1], [1, 1, 6], [2, 6, 0]],
  [[1, 1, 1], [1, 6, 1], [2, 0, 6]],
  [[1, 1, 1, 1, 1, 1], [1, 1, 2, 2, 4, 4], [1, 1, 4, 4, 2, 2], [1, 6, 1, 6, 1, 6], [1, 6, 2, 5, 4, 3], [1, 6, 4, 3, 2, 5]],
  [[1, 1, 1, 1, 1, 1], [1, 1, 1, 6, 6, 6], [1, 2, 4, 1, 2, 4], [1, 2, 4, 6, 5, 3], [1, 4, 2, 1, 4, 2], [1, 4, 2, 6, 3, 5]],
  [[1, 1, 1, 1, 1], [1, 1, 1, 12, 12], [1, 12, 1, 1, 12], [1, 12, 1, 12, 1], [2, 0, 11, 0, 0]],
  [[1, 1, 1, 1, 1], [1, 1, 12, 12, 1], [1, 12, 1, 12, 1], [1, 12, 12, 1, 1], [2, 0, 0, 0, 11]],
  [[1, 1, 1, 1], [1, 10, 1, 1], [2, 0, 3, 7], [2, 0, 7, 3]],
  [[1, 1, 1, 1], [1, 3, 9, 1], [1, 9, 3, 1], [3, 0, 0, 12]],
  [[1, 1, 1, 1, 1, 1], [1, 1, 12, 12, 1, 1], [1, 12, 1, 12, 1, 12], [1, 12, 12, 1, 1, 12], [2, 2, 0, 0, 12, 12], [2, 11, 0, 0, 12, 1]],
  [[1, 1, 1, 1, 1, 1], [1, 1, 12, 12, 1, 12], [1, 12, 1, 12, 1, 1], [1, 12, 12, 1, 1, 12], [2, 0, 2, 0, 12, 12], [2, 0, 11, 0, 12, 1]],
  [[1, 1, 1, 1, 1, 1], [1, 1, 1, 12, 12, 12], [1, 12, 1, 1, 12, 1], [1, 12, 1, 12, 1, 12], [2, 0, 12, 2, 0, 12], [2, 0, 12, 11, 0, 1]],
  [[1, 1, 1, 1, 1], [1, 1, 40, 40, 1], [1, 40, 9, 32, 1], [1, 40, 32, 9, 1], [4, 0, 0, 0, 40]],
  [[1, 1, 1, 1, 1], [1, 9, 32, 40, 1], [1, 32, 9, 40, 1], [1, 40, 40, 1, 1], [4, 0, 0, 0, 40]],
  [[1, 1, 1, 1, 1], [1, 9, 40, 32, 1], [1, 32, 40, 9, 1], [1, 40, 1, 40, 1], [4, 0, 0, 0, 40]],
  [[1, 1, 1, 1, 1], [1, 36, 1, 1, 36], [2, 0, 36, 2, 0], [3, 1, 0, 36, 36], [3, 36, 0, 36, 1]]]
def dataT : List ((Nat × Nat × List Nat × List Nat × List (List (List Int))) × List (List Int)) := dataL.zip tabsL
def dataOk (x : (Nat × Nat × List Nat × List Nat × List (List (List Int))) × List (List Int)) : Bool :=
  tabOk x.1.1 x.1.2.1 x.1.2.2.1 x.1.2.2.2.1 x.1.2.2.2.2 && tabL x.1.1 x.1.2.1 x.1.2.2.1 x.1.2.2.2.1 x.1.2.2.2.2 == x.2
theorem data_0 : ((dataT.drop 0).take 14).all dataOk = true := by kernel_rfl
theorem data_1 : ((dataT.drop 14).take 8).all dataOk = true := by kernel_rfl
theorem data_2 : ((dataT.drop 22).take 6).all dataOk = true := by kernel_rfl
theorem data_3 : ((dataT.drop 28).take 4).all dataOk = true := by kernel_rfl
theorem data_4 : ((dataT.drop 32).take 3).all dataOk = true := by kernel_rfl
theorem data_5 : ((dataT.drop 35).take 2).all dataOk = true := by kernel_rfl
theorem data_all : ∀ x ∈ dataT, dataOk x = true := by
  have hcut : ∀ (n : Nat) (l : List ((Nat × Nat × List Nat × List Nat × List (List (List Int))) × List (List Int))) (k : Nat), ((l.drop k).take n).all dataOk = true → (l.drop (k + n)).all dataOk = true → (l.drop k).all dataOk = true := fun n l k h1 h2 => by
    rw [← List.take_append_drop n (l.drop k), List.all_append, h1, List.drop_drop, Bool.true_and]
    exact h2
  have hend : (dataT.drop 37).all dataOk = true := by kernel_rfl
  exact List.all_eq_true.1 (hcut 14 dataT 0 data_0 (hcut 8 dataT 14 data_1 (hcut 6 dataT 22 data_2 (hcut 4 dataT 28 data_3 (hcut 3 dataT 32 data_4 (hcut 2 dataT 35 data_5 hend))))))
theorem tabsL_length : tabsL.length = dataL.length := by kernel_rfl
/-- Every group's table goes, and is of the list. -/
theorem Grp.tab {d : Nat} {E : List (List Nat)} (h : Grp d E) (h1 : 0 < d) (hd : d ≤ 5) (h24 : E.length ≤ 24) : ∃ x ∈ dataT, okG E d = true ∧ tabG E d = x.2 ∧ primeN E d = x.1.1 ∧ E.length = x.1.2.1 ∧ szE E = x.1.2.2.1 ∧ backC E = x.1.2.2.2.1 ∧ ksE E = x.1.2.2.2.2 := by
  obtain ⟨D, hm, e1, e2, e3, e4, e5⟩ := h.data h1 hd h24
  obtain ⟨i, hi, rfl⟩ := List.getElem_of_mem hm
  have hx : (dataL[i], tabsL[i]'(by rw [tabsL_length]; exact hi)) ∈ dataT := List.mem_of_getElem? (i := i) (by
    unfold dataT
    rw [List.getElem?_zip_eq_some]
    exact ⟨List.getElem?_eq_getElem hi, List.getElem?_eq_getElem _⟩)
  have hok := data_all _ hx
  unfold dataOk at hok
  rw [Bool.and_eq_true, beq_iff_eq] at hok
  refine ⟨_, hx, ?_, ?_, e1, e2, e3, e4, e5⟩
  · unfold okG szE ksE
    rw [e1, e5, e3, e4, e2]
    exact hok.1
  · unfold tabG szE ksE
    rw [e1, e5, e3, e4, e2]
    exact hok.2
end Go.Proofs.Ytdackakjcnnofaa
