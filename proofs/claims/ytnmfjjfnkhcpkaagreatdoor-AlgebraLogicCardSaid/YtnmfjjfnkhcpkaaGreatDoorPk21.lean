/- The law AlgebraLogic: closed facts of its card. -/
import Derived.Test.YtnmfjjfnkhcpkaaGreatDoorPk20
import Derived.Test.YtnmfjjfnkhcpkaaGreatDoorCards
import Derived.WalkKit
import Derived.ProofKit
import Derived.OpenShut
import Derived.ShutString
import Derived.ChangeOld
import Derived.Below
import Derived.SizedLaws
import Derived.JoinedOf
import Derived.Carry
import Derived.LaidMore
import Derived.Lay
import Derived.SevenTiedAt
import Derived.Stop.Joined
set_option linter.all false
namespace Go.Proofs.YtnmfjjfnkhcpkaaGreatDoor.algebraLogic
open Go.ChangeShapes Go.WideShapes Go.ChangeAt Go.RowKit
theorem plain (f : FuncId) (fn : Func) (hf : Tryz.pinned.checked.prog.funcNamed "potsherd/potsherdlaw05.AlgebraLogic" = some f) (hfn : Tryz.pinned.checked.prog.funcs[f]? = some fn) :
    true = Tryz.pinned.checked.prog.looks [] ∧ ∀ (j : Nat) t, fn.params[j]? = some t → Tryz.pinned.checked.prog.wantsStandIn t = false := by
  obtain rfl : f = 7 := Option.some.inj ((show Tryz.prog.funcNamed "potsherd/potsherdlaw05.AlgebraLogic" = some 7 by kernel_rfl).symm.trans hf) |>.symm
  obtain rfl : fn = Tryz.f7 := (Option.some.inj (Tryz.func7.symm.trans hfn)).symm
  refine ⟨by kernel_rfl, fun j t ht => ?_⟩
  rw [Tryz.params7] at ht
  have hm : t ∈ [22, 22, 24, 25] := by simpa using Array.mem_of_getElem? ht
  have hall : ([22, 22, 24, 25].all fun u => !Tryz.prog.wantsStandIn u) = true := by kernel_rfl
  exact (show Tryz.prog.wantsStandIn t = false by simpa using List.all_eq_true.1 hall t hm)
theorem wf : Rows.algebraLogicRow.wfByText (OpenSpec.ofChange Rows.algebraLogicSpec) = true := by kernel_rfl
end Go.Proofs.YtnmfjjfnkhcpkaaGreatDoor.algebraLogic
