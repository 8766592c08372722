/- Checks of the class data (printed by gen_ki.py). -/
import Derived.Test.YtdackakjcnnofaaKi
namespace Go.Proofs.Ytdackakjcnnofaa
theorem cert_4 (t : Nat → Nat → Nat) (i : Nat → Nat) : ((pairsC.drop 145).take 2).all (fun e => certOk e.1.2.2 e.2 t i) = true := by kernel_rfl
theorem cert_5 (t : Nat → Nat → Nat) (i : Nat → Nat) : ((pairsC.drop 147).take 2).all (fun e => certOk e.1.2.2 e.2 t i) = true := by kernel_rfl
theorem cert_6 (t : Nat → Nat → Nat) (i : Nat → Nat) : ((pairsC.drop 149).take 1).all (fun e => certOk e.1.2.2 e.2 t i) = true := by kernel_rfl
theorem cert_7 (t : Nat → Nat → Nat) (i : Nat → Nat) : ((pairsC.drop 150).take 1).all (fun e => certOk e.1.2.2 e.2 t i) = true := by kernel_rfl
end Go.Proofs.Ytdackakjcnnofaa
