/- Closures of listed subgroups (printed by gen_kb.py). -/
import Derived.Test.YtdackakjcnnofaaKb
namespace Go.Proofs.Ytdackakjcnnofaa
theorem pairs_5 : ((subQ.drop 100).take 20).all pairsOk = true := by kernel_rfl
theorem pairs_6 : ((subQ.drop 120).take 20).all pairsOk = true := by kernel_rfl
theorem pairs_7 : ((subQ.drop 140).take 14).all pairsOk = true := by kernel_rfl
end Go.Proofs.Ytdackakjcnnofaa
