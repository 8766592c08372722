/- Closures of listed subgroups (printed by gen_kb.py). -/
import Derived.Test.YtdackakjcnnofaaKb
namespace Go.Proofs.Ytdackakjcnnofaa
theorem pairs_2 : ((subQ.drop 40).take 20).all pairsOk = true := by kernel_rfl
theorem pairs_3 : ((subQ.drop 60).take 20).all pairsOk = true := by kernel_rfl
theorem pairs_4 : ((subQ.drop 80).take 20).all pairsOk = true := by kernel_rfl
end Go.Proofs.Ytdackakjcnnofaa
