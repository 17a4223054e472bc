/- slices.Delete at packets: one is taken out, in place. -/
import Derived.Test.YtcobacfinalleaaNetD
set_option linter.all false
set_option maxHeartbeats 20000000
namespace Go.Fw
open Go.Proofs
def cellsP (ps : List Pk) : List V := (ps.map ePk).flatMap V.cells
theorem cellsP_nil : cellsP [] = [] := rfl
theorem cellsP_cons (p : Pk) (ps : List Pk) : cellsP (p :: ps) = .int .i64 p.f :: .int .i64 p.t :: .str p.s :: cellsP ps := rfl
theorem cellsP_len (ps : List Pk) : (cellsP ps).length = ps.length * 3 := by
  induction ps with
  | nil => rfl
  | cons p ps ih => rw [cellsP_cons]; simp [ih]; omega
theorem cellsP_app (ps qs : List Pk) : cellsP (ps ++ qs) = cellsP ps ++ cellsP qs := by simp [cellsP]
theorem cellsP_drop (ps : List Pk) (k : Nat) : (cellsP ps).drop (k * 3) = cellsP (ps.drop k) := by
  induction ps generalizing k with
  | nil => simp [cellsP_nil]
  | cons p ps ih =>
    cases k with
    | zero => rfl
    | succ k => rw [show (k + 1) * 3 = k * 3 + 3 by omega, cellsP_cons]; simpa using ih k
theorem cellsP_take (ps : List Pk) (k : Nat) : (cellsP ps).take (k * 3) = cellsP (ps.take k) := by
  induction ps generalizing k with
  | nil => simp [cellsP_nil]
  | cons p ps ih =>
    cases k with
    | zero => rfl
    | succ k => rw [show (k + 1) * 3 = k * 3 + 1 + 1 + 1 by omega, cellsP_cons, List.take_succ_cons, List.take_succ_cons, List.take_succ_cons, ih, List.take_succ_cons, cellsP_cons]
theorem cellsP_ok (ps : List Pk) : (cellsP ps).all (fun c => !isLin1 c && okV c) = true := by
  induction ps with
  | nil => rfl
  | cons p ps ih => rw [cellsP_cons]; simp only [List.all_cons, ih]; rfl
theorem cellsP_ok2 (ps : List Pk) (o k : Nat) : (((cellsP ps).drop o).take k).all (fun c => !isLin1 c && okV c) = true := by
  have := cellsP_ok ps
  rw [List.all_eq_true] at this ⊢
  exact fun x hx => this x (List.mem_of_mem_drop (List.mem_of_mem_take hx))
abbrev zP : List V := [.int .i64 0, .int .i64 0, .str ByteArray.empty]
theorem del_cells (ps : List Pk) (i : Nat) (hi : i < ps.length) :
    setAt (setAt (cellsP ps) (i * 3) (((cellsP ps).drop ((i + 1) * 3)).take ((ps.length - (i + 1)) * 3))) ((ps.length - 1) * 3) zP = cellsP (ps.eraseIdx i) ++ zP := by
  rw [cellsP_drop, cellsP_take]
  have e1 : (ps.drop (i + 1)).take (ps.length - (i + 1)) = ps.drop (i + 1) := List.take_of_length_le (by simp)
  rw [e1]
  have l1 : (cellsP (ps.drop (i + 1))).length = (ps.length - (i + 1)) * 3 := by rw [cellsP_len, List.length_drop]
  rw [setAt_eq (cellsP (ps.drop (i + 1))) _ _ (by rw [l1, cellsP_len]; omega), l1]
  have e2 : i * 3 + (ps.length - (i + 1)) * 3 = (ps.length - 1) * 3 := by omega
  rw [e2, cellsP_take, cellsP_drop, ← cellsP_app, ← List.eraseIdx_eq_take_drop_succ]
  have l2 : (cellsP (ps.eraseIdx i)).length = (ps.length - 1) * 3 := by rw [cellsP_len, List.length_eraseIdx_of_lt hi]
  have l3 : (cellsP (ps.drop (ps.length - 1))).length = 3 := by rw [cellsP_len, List.length_drop]; omega
  rw [setAt_eq zP _ _ (by rw [List.length_append, l2, l3]; simp), List.take_append_of_le_length (by omega), List.take_of_length_le (by omega), List.drop_of_length_le (by rw [List.length_append, l2, l3]; simp), List.append_nil]
theorem delete_sp (A B D E : Blk) (ps : List Pk) (i : Nat) (hi : i < ps.length) (hl : ps.length ≤ 4096) : SpH C1 25 [.own 3 0 ps.length ps.length, .int .i64 (i : Int), .int .i64 ((i + 1 : Nat) : Int)] [A, B, D, .cells (cellsP ps) 30, E]
    (.own 3 0 (ps.length - 1) ps.length) [A, B, D, .cells (cellsP (ps.eraseIdx i) ++ zP) 30, E] := by
  have e1 : i + (ps.length - (i + 1)) = ps.length - 1 := by omega
  have e2 : ps.length - (ps.length - 1) = 1 := by omega
  have hd := del_cells ps i hi
  refine spH_tree draws (
    .chk 13 (decide ((0 : Int) ≤ (↑i : Int) ∧ (↑i : Int) ≤ (↑(i + (1 : Nat)) : Int) ∧ (↑(i + (1 : Nat)) : Int) ≤ (↑(List.length ps) : Int) ∧ (↑(List.length ps) : Int) ≤ (↑(max (List.length ps) (List.length ps)) : Int))) <| .rw 8013 [] [(13, V.own (3 : Nat) ((0 : Nat) + Int.toNat (↑i : Int) * (3 : Nat)) (Int.toNat (↑(i + (1 : Nat)) : Int) - Int.toNat (↑i : Int)) (Int.toNat (↑(List.length ps) : Int) - Int.toNat (↑i : Int)), V.own (3 : Nat) (i * (3 : Nat)) (i + (1 : Nat) - i) (List.length ps - i))] <| .rw 8016 [] [(16, V.bool ((↑i : Int) == (↑(i + (1 : Nat)) : Int)), V.bool false)] <| .chk 22 (decide ((0 : Int) ≤ (0 : Int) ∧ (0 : Int) ≤ (↑i : Int) ∧ (↑i : Int) ≤ max (↑(List.length ps) : Int) (↑(List.length ps) : Int) ∧ max (↑(List.length ps) : Int) (↑(List.length ps) : Int) ≤ (↑(max (List.length ps) (List.length ps)) : Int))) <| .rw 8022 [] [(22, V.own (3 : Nat) (0 : Nat) (Int.toNat (↑i : Int) - (0 : Nat)) (Int.toNat (max (↑(List.length ps) : Int) (↑(List.length ps) : Int)) - (0 : Nat)), V.own (3 : Nat) (0 : Nat) i (List.length ps))] <| .chk 25 (decide ((0 : Int) ≤ (↑(i + (1 : Nat)) : Int) ∧ (↑(i + (1 : Nat)) : Int) ≤ (↑(List.length ps) : Int) ∧ (↑(List.length ps) : Int) ≤ max (↑(List.length ps) : Int) (↑(List.length ps) : Int) ∧ max (↑(List.length ps) : Int) (↑(List.length ps) : Int) ≤ (↑(max (List.length ps) (List.length ps)) : Int))) <| .rw 8025 [] [(25, V.own (3 : Nat) ((0 : Nat) + Int.toNat (↑(i + (1 : Nat)) : Int) * (3 : Nat)) (Int.toNat (↑(List.length ps) : Int) - Int.toNat (↑(i + (1 : Nat)) : Int)) (Int.toNat (max (↑(List.length ps) : Int) (↑(List.length ps) : Int)) - Int.toNat (↑(i + (1 : Nat)) : Int)), V.own (3 : Nat) ((i + (1 : Nat)) * (3 : Nat)) (List.length ps - (i + (1 : Nat))) (List.length ps - (i + (1 : Nat))))] <| .chk 6026 (decide ((22 : Nat) = (22 : Nat) ∧ (0 : Nat) < (3 : Nat) ∧ List.length (List.take ((List.length ps - (i + (1 : Nat))) * (3 : Nat)) (List.drop ((i + (1 : Nat)) * (3 : Nat)) (cellsP ps))) = (List.length ps - (i + (1 : Nat))) * (3 : Nat) ∧ i + (List.length ps - (i + (1 : Nat))) ≤ List.length ps ∧ (0 : Nat) + (i + (List.length ps - (i + (1 : Nat)))) * (3 : Nat) ≤ List.length (cellsP ps)) && List.all (List.take ((List.length ps - (i + (1 : Nat))) * (3 : Nat)) (List.drop ((i + (1 : Nat)) * (3 : Nat)) (cellsP ps))) fun c => !isLin1 c && okV c) <| .rw 8026 [(3, setAt (cellsP ps) ((0 : Nat) + i * (3 : Nat)) (List.take ((List.length ps - (i + (1 : Nat))) * (3 : Nat)) (List.drop ((i + (1 : Nat)) * (3 : Nat)) (cellsP ps))), setAt (cellsP ps) (i * (3 : Nat)) (List.take ((List.length ps - (i + (1 : Nat))) * (3 : Nat)) (List.drop ((i + (1 : Nat)) * (3 : Nat)) (cellsP ps))))] [] <| .chk 31 (decide ((0 : Int) ≤ (↑(i + (List.length ps - (i + (1 : Nat)))) : Int) ∧ (↑(i + (List.length ps - (i + (1 : Nat)))) : Int) ≤ (↑(List.length ps) : Int) ∧ (↑(List.length ps) : Int) ≤ max (↑(i + (List.length ps - (i + (1 : Nat)))) : Int) (↑(List.length ps) : Int) ∧ max (↑(i + (List.length ps - (i + (1 : Nat)))) : Int) (↑(List.length ps) : Int) ≤ (↑(max (i + (List.length ps - (i + (1 : Nat)))) (List.length ps)) : Int))) <| .rw 8031 [] [(31, V.own (3 : Nat) ((0 : Nat) + Int.toNat (↑(i + (List.length ps - (i + (1 : Nat)))) : Int) * (3 : Nat)) (Int.toNat (↑(List.length ps) : Int) - Int.toNat (↑(i + (List.length ps - (i + (1 : Nat)))) : Int)) (Int.toNat (max (↑(i + (List.length ps - (i + (1 : Nat)))) : Int) (↑(List.length ps) : Int)) - Int.toNat (↑(i + (List.length ps - (i + (1 : Nat)))) : Int)), V.own (3 : Nat) ((i + (List.length ps - (i + (1 : Nat)))) * (3 : Nat)) (List.length ps - (i + (List.length ps - (i + (1 : Nat))))) (max (i + (List.length ps - (i + (1 : Nat)))) (List.length ps) - (i + (List.length ps - (i + (1 : Nat))))))] <| .chk 999 (decide ((0 : Nat) < (3 : Nat) ∧ (3 : Nat) = (3 : Nat) ∧ true = true ∧ true = true ∧ true = true ∧ (i + (List.length ps - (i + (1 : Nat)))) * (3 : Nat) + (List.length ps - (i + (List.length ps - (i + (1 : Nat))))) * (3 : Nat) ≤ List.length (setAt (cellsP ps) (i * (3 : Nat)) (List.take ((List.length ps - (i + (1 : Nat))) * (3 : Nat)) (List.drop ((i + (1 : Nat)) * (3 : Nat)) (cellsP ps)))))) <| .ret ((V.own (3 : Nat) (0 : Nat) (i + (List.length ps - (i + (1 : Nat)))) (List.length ps), [A, B, D, Blk.cells (setAt (setAt (cellsP ps) (i * (3 : Nat)) (List.take ((List.length ps - (i + (1 : Nat))) * (3 : Nat)) (List.drop ((i + (1 : Nat)) * (3 : Nat)) (cellsP ps)))) ((i + (List.length ps - (i + (1 : Nat)))) * (3 : Nat)) (List.flatten (List.replicate (List.length ps - (i + (List.length ps - (i + (1 : Nat))))) [V.int IntKind.i64 (0 : Int), V.int IntKind.i64 (0 : Int), V.str (ByteArray.mk #[])]))) (30 : Nat), E]))) (by kernel_rfl) ?_
  exact ⟨by (simp [cellsP_len, cellsP_ok2] <;> omega), ⟨⟨trivial, ⟨by simp (disch := omega) only [Int.toNat_natCast, Nat.zero_add], trivial⟩⟩, ⟨⟨trivial, ⟨congrArg V.bool (by (simp [cellsP_len, cellsP_ok2] <;> omega)), trivial⟩⟩, ⟨by (simp [cellsP_len, cellsP_ok2] <;> omega), ⟨⟨trivial, ⟨by simp (disch := omega) only [Int.toNat_natCast, Nat.sub_zero, Go.Fw.max_cast, Nat.max_self], trivial⟩⟩, ⟨by (simp [cellsP_len, cellsP_ok2] <;> omega), ⟨⟨trivial, ⟨by simp (disch := omega) only [Int.toNat_natCast, Nat.zero_add, Go.Fw.max_cast, Nat.max_self], trivial⟩⟩, ⟨by (simp [cellsP_len, cellsP_ok2] <;> omega), ⟨⟨⟨by simp (disch := omega) only [Nat.zero_add], trivial⟩, trivial⟩, ⟨by (simp [cellsP_len, cellsP_ok2] <;> omega), ⟨⟨trivial, ⟨by simp (disch := omega) only [Int.toNat_natCast, Nat.zero_add, Go.Fw.max_cast], trivial⟩⟩, ⟨by (simp [cellsP_len, cellsP_ok2] <;> omega), by show _ = _; (rw [e1, e2]; exact congrArg (fun c => (V.own 3 0 (ps.length - 1) ps.length, [A, B, D, Blk.cells c 30, E])) hd)⟩⟩⟩⟩⟩⟩⟩⟩⟩⟩⟩⟩
end Go.Fw
