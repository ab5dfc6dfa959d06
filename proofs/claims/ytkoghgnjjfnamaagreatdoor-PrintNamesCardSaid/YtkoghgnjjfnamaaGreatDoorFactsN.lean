/- PrintNames: what the kernel finds of its row. -/
import Derived.Test.YtkoghgnjjfnamaaGreatDoorTie
import Derived.ProofKit
import Derived.Stop.Joined
namespace Go.Proofs.YtkoghgnjjfnamaaGreatDoor
open Go.RowKit
theorem names_closed : joinedFacts Tryz.pinned.checked.prog 5 Tryz.f5 Rows.printNamesSpec Rows.printNamesRow = true := by kernel_rfl
end Go.Proofs.YtkoghgnjjfnamaaGreatDoor
