/- Closures of listed subgroups (printed by gen_kb.py). -/
import Derived.Test.YtdackakjcnnofaaGreatKb
namespace Go.Proofs.YtdackakjcnnofaaGreat
theorem pairs_2 : ((subQ.drop 40).take 20).all pairsOk = true := by kernel_rfl
theorem pairs_3 : ((subQ.drop 60).take 20).all pairsOk = true := by kernel_rfl
theorem pairs_4 : ((subQ.drop 80).take 20).all pairsOk = true := by kernel_rfl
end Go.Proofs.YtdackakjcnnofaaGreat
