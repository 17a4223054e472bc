/- Net: NetApart of typed values. -/
import Derived.Test.YtcobacfinalleaaNetM
set_option linter.all false
set_option maxHeartbeats 20000000
namespace Go.Fw
open Go.Proofs
theorem apart_sp (ps : List Pk) (i : Int) : Sp C1 5 [eNet ps, .int .i64 i] (.bool true) := by
  cases h : okNet ps with
  | false => exact apart_state ps i h
  | true =>
    cases hd : dIdx ps i with
    | none => exact apart_out ps i h (dIdx_none hd)
    | some p =>
      obtain ⟨n, rfl, hn⟩ := dIdx_some hd
      by_cases hm : 4096 ≤ ps.length
      · exact apart_full ps n p h hn hm
      · exact apart_ok ps n p h hn (by omega)
theorem apart_typed (x0 x1 : V) (h0 : TypE Try.prog (TypC Try.prog 8) 24 x0) (h1 : TypE Try.prog (TypC Try.prog 8) 3 x1) : Sp C1 5 [x0, x1] (.bool true) := by
  obtain ⟨ps, rfl, h⟩ := net_of h0
  obtain ⟨i, rfl⟩ := int_of h1
  exact apart_sp ps i
end Go.Fw
