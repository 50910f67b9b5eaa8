/- Contracts: WeighParticles, the reference's. -/
import Derived.Test.YtdldlfefbeflcaaWeigh
import Derived.Test.YtdldlfefbeflcaaDraw2
namespace Go.Proofs.Ytdldlfefbeflcaa
open Go.RowKit

theorem below_undrew {a b : World} {n : Nat} (h : Below (a.drewN n).heap.size (a.drewN n) b) : Below a.heap.size a b := below_trans (below_drewN a n) h
end Go.Proofs.Ytdldlfefbeflcaa
