/- The tables of math/bits as the cards' condition gives them; a witness. -/
import Derived.Test.YtmlhecfhhhebnaaDoorDt
import Derived.Test.YtmlhecfhhhebnaaDoorAg
import Derived.Test.YtmlhecfhhhebnaaDoorTie
import Derived.LaidMore
import Derived.Lib.LaidTab
namespace Go.Proofs.YtmlhecfhhhebnaaDoor
open Go.RowKit Go.ChangeShapes Go.WideShapes Go.ChangeAt Go.WideElems

def laidL : List (String × DataW Unit) := [("math/bits.deBruijn32tab", Rows.laid_math_bits_deBruijn32tab), ("math/bits.deBruijn64tab", Rows.laid_math_bits_deBruijn64tab)]
theorem g64 : Tryd.prog.globalNamed "math/bits.deBruijn64tab" = some 1 := by kernel_rfl

theorem tab_of_laid {W : World} (h : laidMetH Tryd.prog laidL W) : Tab W := by
  rw [MakeChecks.laidMetH_plain _ _ _ (by kernel_rfl)] at h
  obtain ⟨ps, ⟨g0, t0, cs0, f0, p0, q0, hg0, ht0, hv0, hd0, ⟨g1, t1, cs1, f1, p1, q1, hg1, ht1, hv1, hd1, _, _⟩, _⟩, _, _⟩ := h
  obtain rfl := Option.some.inj (g64.symm.trans hg1)
  obtain rfl := Option.some.inj ((show (Tryd.prog.globals[1]?).map (·.type) = some 81 by kernel_rfl).symm.trans ht1)
  have hcs := Lib.cells_of_tab (zs := tzTab.map (fun n : Nat => (n : Int))) Tryd.underlying81 Tryd.underlying5 (by kernel_rfl) (by kernel_rfl) hd1
  intro i hi
  rw [World.var?_cell hg1 hv1 i]
  have hl : i < tzTab.length := by
    have : tzTab.length = 64 := by decide
    omega
  have : cs1.toList[i]? = some (.int .u8 ((tzTab.getD i 0 : Nat) : Int)) := by
    rw [hcs]; simp [List.getElem?_map, List.getElem?_eq_getElem hl, List.getD]
  simpa using this

theorem door_met (os : Os) (args : Array Value) : laidMetH Tryd.prog laidL ((World.doorLaid Tryd.prog 1000 os).forCall (fun _ _ => 0) ⟨#[], args, []⟩).memory :=
  laidMetH_of_parts3 (fuel := 8) (laidMet_of_run' 8 (by kernel_rfl) (by kernel_rfl)) (by kernel_rfl) (by kernel_rfl)
end Go.Proofs.YtmlhecfhhhebnaaDoor
