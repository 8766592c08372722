/- MirrorOrder$1: the walk. -/
import Derived.Test.YtmlhecfhhhebnaaDoorLy
namespace Go.Proofs.YtmlhecfhhhebnaaDoor
open Go.RowKit
attribute [local go_sem] Oper.semAt_some

end Go.Proofs.YtmlhecfhhhebnaaDoor
