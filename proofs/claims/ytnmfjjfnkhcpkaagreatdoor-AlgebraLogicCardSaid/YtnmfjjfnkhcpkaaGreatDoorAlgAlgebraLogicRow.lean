/- The law AlgebraLogic holds of all inputs that its statement speaks of: the card. No conditions. -/
import Derived.Test.YtnmfjjfnkhcpkaaGreatDoorPk22
import Derived.Test.YtnmfjjfnkhcpkaaGreatDoorCards
import Derived.Test.YtnmfjjfnkhcpkaaGreatDoorTie
import Derived.WalkKit
import Derived.ProofKit
import Derived.OpenShut
import Derived.ShutString
import Derived.ChangeOld
import Derived.Below
import Derived.SizedLaws
import Derived.JoinedOf
import Derived.Carry
import Derived.LaidMore
import Derived.Lay
import Derived.SevenTiedAt
import Derived.Stop.Joined
set_option linter.all false
namespace Go.Proofs.YtnmfjjfnkhcpkaaGreatDoor.algebraLogic
open Go.ChangeShapes Go.WideShapes Go.ChangeAt Go.RowKit
theorem proved : Rows.AlgebraLogicCardSaid :=
  Claim7.holds_tied_plain_at .later [] _ _ _ _ said (fun _ h => by cases h) wf (fun _ h => by cases h) algebraLogic_row_tie rfl ⟨rfl, rfl⟩ (by kernel_rfl) rfl plain goes
#print axioms proved
end Go.Proofs.YtnmfjjfnkhcpkaaGreatDoor.algebraLogic
