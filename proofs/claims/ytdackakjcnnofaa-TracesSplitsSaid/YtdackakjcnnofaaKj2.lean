/- Checks of the class data (printed by gen_ki.py). -/
import Derived.Test.YtdackakjcnnofaaKi
namespace Go.Proofs.Ytdackakjcnnofaa
theorem cert_8 (t : Nat → Nat → Nat) (i : Nat → Nat) : ((pairsC.drop 151).take 1).all (fun e => certOk e.1.2.2 e.2 t i) = true := by kernel_rfl
theorem cert_9 (t : Nat → Nat → Nat) (i : Nat → Nat) : ((pairsC.drop 152).take 1).all (fun e => certOk e.1.2.2 e.2 t i) = true := by kernel_rfl
theorem cert_10 (t : Nat → Nat → Nat) (i : Nat → Nat) : ((pairsC.drop 153).take 1).all (fun e => certOk e.1.2.2 e.2 t i) = true := by kernel_rfl
end Go.Proofs.Ytdackakjcnnofaa
