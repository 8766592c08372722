/- Checks of the class data (printed by gen_ki.py). -/
import Derived.Test.YtdackakjcnnofaaKi
namespace Go.Proofs.Ytdackakjcnnofaa
theorem cert_0 (t : Nat → Nat → Nat) (i : Nat → Nat) : ((pairsC.drop 0).take 121).all (fun e => certOk e.1.2.2 e.2 t i) = true := by kernel_rfl
theorem cert_1 (t : Nat → Nat → Nat) (i : Nat → Nat) : ((pairsC.drop 121).take 13).all (fun e => certOk e.1.2.2 e.2 t i) = true := by kernel_rfl
theorem cert_2 (t : Nat → Nat → Nat) (i : Nat → Nat) : ((pairsC.drop 134).take 9).all (fun e => certOk e.1.2.2 e.2 t i) = true := by kernel_rfl
theorem cert_3 (t : Nat → Nat → Nat) (i : Nat → Nat) : ((pairsC.drop 143).take 2).all (fun e => certOk e.1.2.2 e.2 t i) = true := by kernel_rfl
end Go.Proofs.Ytdackakjcnnofaa
