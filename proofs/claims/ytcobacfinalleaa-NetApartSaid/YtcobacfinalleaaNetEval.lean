/- The program of the seat of the Net laws, for the evaluator. -/
import Derived.Test.YtcobacfinalleaaFwLib
import Derived.Test.YtcobacfinalleaaProg
import Derived.KernelRfl
set_option linter.all false
namespace Go.Fw
open Go.Proofs

def unT : FuncId → Nat → Option (List Nat) := fun f id => match f, id with
  | 3, 10 => some [0, 0, 0, 4, 0, 0, 0, 0, 128, 0, 0, 0, 0, 4096, 0, 0, 0, 0, 131072, 0, 0, 0, 0, 4194304, 0, 0, 0, 0, 134217728, 0, 0, 0, 0, 4294967296, 0, 0, 0, 0, 137438953472, 0, 0, 0, 0, 4398046511104, 0, 0, 0, 0, 0, 422212465065984, 0, 0, 0, 0, 0, 18014398509481984, 0, 0, 0]
  | 5, 8 => some [0, 1, 0, 0, 0, 0, 0, 0, 0, 480, 480, 480, 0, 0, 0, 0, 0, 0, 0, 0, 524288, 524288, 524288, 0, 0, 0, 0, 67108864, 67108864, 469762048, 67108864, 67108864, 0, 0, 0, 0, 0, 0, 0, 0, 0, 1924145348608, 1924145348608, 1924145348608, 1924145348608, 0, 0, 0]
  | 5, 13 => some [0, 1, 0, 0, 0, 0, 48, 0, 0, 496, 0, 0, 0, 0, 8192, 0, 0, 0, 0, 393216, 393216, 0, 0, 8257536, 0, 0, 0, 0, 0, 0, 0, 0, 0, 6442450944, 0, 0, 66571993088, 0, 0, 0]
  | 5, 16 => some [0, 0, 0, 0, 0, 24, 24, 24, 0, 0, 1016, 0, 0, 0]
  | 6, 10 => some [0, 0, 3, 7, 7, 7, 7, 0, 0]
  | 10, 8 => some [0, 1, 1, 7, 1, 1, 62, 0, 0]
  | 11, 5 => some [0, 1, 1, 7, 1, 0, 63, 63, 255, 255, 63, 0, 0, 8191, 8191, 32767, 8191, 8191, 253952, 0, 0]
  | 17, 6 => some [0, 0, 3, 0, 0, 31, 31, 127, 31, 31, 0]
  | 25, 5 => some [0, 1, 0, 7, 15, 7, 0, 0]
  | _, _ => none
def trT : FuncId → List Nat := fun f => match f with
  | 4 => [56]
  | 9 => [38]
  | 15 => [33]
  | 23 => [14]
  | _ => []
noncomputable def C1 : Cx := { P := Try.prog, tr := trT, thaw := fun _ => [], un := unT }

theorem unT_none {f : FuncId} (h : ∃ id, C1.un f id ≠ none) : f = 3 ∨ f = 5 ∨ f = 6 ∨ f = 10 ∨ f = 11 ∨ f = 17 ∨ f = 25 := by
  obtain ⟨id, h⟩ := h
  apply Classical.byContradiction
  intro hn
  simp only [not_or] at hn
  apply h
  show unT f id = none
  unfold unT
  split <;> simp_all
theorem draws_ok : drawsOk C1 3 = true ∧ drawsOk C1 5 = true ∧ drawsOk C1 6 = true ∧ drawsOk C1 10 = true ∧ drawsOk C1 11 = true ∧ drawsOk C1 17 = true ∧ drawsOk C1 25 = true := by
  refine ⟨?_, ?_, ?_, ?_, ?_, ?_, ?_⟩ <;> kernel_rfl
theorem drawsAll : ∀ f, (∃ id, C1.un f id ≠ none) → drawsOk C1 f = true := fun f hf => by
  obtain ⟨a, b, c, d, e, g, h⟩ := draws_ok
  rcases unT_none hf with rfl | rfl | rfl | rfl | rfl | rfl | rfl
  · exact a
  · exact b
  · exact c
  · exact d
  · exact e
  · exact g
  · exact h
theorem draws : Draws C1 := draws_of drawsAll
theorem sound (n : Nat) : VbSound C1 (vcall C1 n) := vcall_ok C1 drawsAll n
end Go.Fw
