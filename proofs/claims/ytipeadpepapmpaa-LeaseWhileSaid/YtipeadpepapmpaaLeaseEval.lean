/- The program of the seat, for the evaluator. -/
import Derived.Test.YtipeadpepapmpaaFwLib
import Derived.Test.YtipeadpepapmpaaProg
import Derived.KernelRfl
set_option linter.all false
namespace Go.Fw
open Go.Proofs

def unT : FuncId → Nat → Option (List Nat) := fun f id => match f, id with
  | 10, 3 => some [0, 0, 3, 3, 0, 0, 0]
  | 12, 4 => some [0, 0, 0, 7, 7, 0, 32, 0, 0, 0]
  | 12, 7 => some [0, 0, 3, 0, 15, 15, 63, 15, 240, 0]
  | 40, 5 => some [0, 1, 0, 7, 15, 7, 0, 0]
  | 23, 8 => some [0, 1, 1, 7, 1, 1, 62, 0, 0]
  | 24, 5 => some [0, 1, 1, 7, 1, 0, 63, 63, 255, 255, 63, 0, 0, 8191, 8191, 32767, 8191, 8191, 253952, 0, 0]
  | 30, 6 => some [0, 0, 3, 0, 0, 31, 31, 127, 31, 31, 0]
  | 7, 10 => some [0, 0, 0, 4, 0, 0, 0, 0, 128, 0, 0, 0, 0, 4096, 0, 0, 0, 0, 131072, 0, 0, 0, 0, 4194304, 0, 0, 0, 0, 134217728, 0, 0, 0, 0, 4294967296, 0, 0, 0, 0, 137438953472, 0, 0, 0, 0, 4398046511104, 0, 0, 0, 0, 0, 422212465065984, 0, 0, 0, 0, 0, 18014398509481984, 0, 0, 0]
  | 9, 1 => some [0, 1, 1, 0, 15, 31, 31, 0, 0, 0]
  | 11, 3 => some [0, 0, 3, 3, 0, 0, 0]
  | 35, 6 => some [0, 1, 0, 0, 15, 31, 15, 15, 0]
  | 3, 13 => some [0, 1, 0, 0, 15, 31, 15, 15, 0]
  | 3, 16 => some [0, 0, 3, 0, 0, 0, 0, 64, 0, 0, 0]
  | 4, 6 => some [0, 0, 0, 0, 8, 8, 8, 0, 0, 0, 0, 1024, 1024, 1024, 0, 0, 0, 0, 0, 393216, 0, 0, 4063232, 4063232, 16646144, 4063232, 4063232, 0, 0]
  | 4, 15 => some [0, 1, 0, 0, 0, 16, 0, 0, 240, 496, 240, 240, 0, 0]
  | _, _ => none

def thawT : FuncId → List Nat := fun f => if f = 12 then [23, 26] else if f = 14 then [17] else []
def trT : FuncId → List Nat := fun f => match f with
  | 8 => [56]
  | 15 => [17]
  | 22 => [38]
  | 28 => [33]
  | 38 => [14]
  | _ => []
noncomputable def C1 : Cx := { P := Try.prog, tr := trT, thaw := thawT, un := unT }

theorem unT_none {f : FuncId} (h : ∃ id, C1.un f id ≠ none) : f = 10 ∨ f = 12 ∨ f = 40 ∨ f = 23 ∨ f = 24 ∨ f = 30 ∨ f = 7 ∨ f = 9 ∨ f = 11 ∨ f = 35 ∨ f = 3 ∨ f = 4 := by
  obtain ⟨id, h⟩ := h
  apply Classical.byContradiction
  intro hn
  simp only [not_or] at hn
  apply h
  show unT f id = none
  unfold unT
  split <;> simp_all
theorem draws_ok : drawsOk C1 10 = true ∧ drawsOk C1 12 = true ∧ drawsOk C1 40 = true ∧ drawsOk C1 23 = true ∧ drawsOk C1 24 = true ∧ drawsOk C1 30 = true ∧ drawsOk C1 7 = true ∧ drawsOk C1 9 = true ∧ drawsOk C1 11 = true ∧ drawsOk C1 35 = true ∧ drawsOk C1 3 = true ∧ drawsOk C1 4 = true := by
  refine ⟨?_, ?_, ?_, ?_, ?_, ?_, ?_, ?_, ?_, ?_, ?_, ?_⟩ <;> kernel_rfl
theorem sound (n : Nat) : VbSound C1 (vcall C1 n) := by
  refine vcall_ok C1 (fun f hf => ?_) n
  obtain ⟨a, b, c, d, e, g, h, i, j, k, l, m⟩ := draws_ok
  rcases unT_none hf with rfl | rfl | rfl | rfl | rfl | rfl | rfl | rfl | rfl | rfl | rfl | rfl
  · exact a
  · exact b
  · exact c
  · exact d
  · exact e
  · exact g
  · exact h
  · exact i
  · exact j
  · exact k
  · exact l
  · exact m

theorem lives_true : vcall C1 40 16 [] [] = some (.ret (.bool true) []) := by kernel_rfl
end Go.Fw
