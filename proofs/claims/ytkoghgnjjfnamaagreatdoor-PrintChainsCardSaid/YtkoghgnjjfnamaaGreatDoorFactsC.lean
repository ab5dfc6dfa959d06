/- PrintChains: what the kernel finds of its row. -/
import Derived.Test.YtkoghgnjjfnamaaGreatDoorTie
import Derived.ProofKit
import Derived.Stop.Joined
namespace Go.Proofs.YtkoghgnjjfnamaaGreatDoor
open Go.RowKit
theorem chains_closed : joinedFacts Tryz.pinned.checked.prog 6 Tryz.f6 Rows.printChainsSpec Rows.printChainsRow = true := by kernel_rfl
end Go.Proofs.YtkoghgnjjfnamaaGreatDoor
