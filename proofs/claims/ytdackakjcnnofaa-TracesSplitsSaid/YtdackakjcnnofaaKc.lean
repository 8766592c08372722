/- Closures of listed subgroups (printed by gen_kb.py). -/
import Derived.Test.YtdackakjcnnofaaKb
namespace Go.Proofs.Ytdackakjcnnofaa
theorem pairs_0 : ((subQ.drop 0).take 20).all pairsOk = true := by kernel_rfl
theorem pairs_1 : ((subQ.drop 20).take 20).all pairsOk = true := by kernel_rfl
end Go.Proofs.Ytdackakjcnnofaa
