/- The law AlgebraLogic: a closed fact of its card. -/
import Derived.Test.YtnmfjjfnkhcpkaaGreatDoorPk21
import Derived.Test.YtnmfjjfnkhcpkaaGreatDoorCards
import Derived.WalkKit
import Derived.ProofKit
import Derived.OpenShut
import Derived.ShutString
import Derived.ChangeOld
import Derived.Below
import Derived.SizedLaws
import Derived.JoinedOf
import Derived.Carry
import Derived.LaidMore
import Derived.Lay
import Derived.SevenTiedAt
import Derived.Stop.Joined
set_option linter.all false
namespace Go.Proofs.YtnmfjjfnkhcpkaaGreatDoor.algebraLogic
open Go.ChangeShapes Go.WideShapes Go.ChangeAt Go.RowKit
theorem goes : false = Rows.algebraLogicRow.goesBy Tryz.pinned.checked.prog := by kernel_rfl
end Go.Proofs.YtnmfjjfnkhcpkaaGreatDoor.algebraLogic
