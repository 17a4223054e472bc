/- Lease: the functions, by their trees. -/
import Derived.Test.YtipeadpepapmpaaLeaseEval
set_option linter.all false
namespace Go.Fw
open Go.Proofs

theorem draws : Draws C1 := draws_of (fun f hf => by
  obtain ⟨a, b, c, d, e, g, h, i, j, k, l, m⟩ := draws_ok
  rcases unT_none hf with rfl | rfl | rfl | rfl | rfl | rfl | rfl | rfl | rfl | rfl | rfl | rfl
  · exact a
  · exact b
  · exact c
  · exact d
  · exact e
  · exact g
  · exact h
  · exact i
  · exact j
  · exact k
  · exact l
  · exact m)

abbrev u64s (xs : List Int) : List V := xs.map (V.int .u64)
abbrev eN (xs : List Int) : V := .imm false 1 (u64s xs)

theorem clone_nil : Sp C1 34 [.nils] (.lin true 25 1 []) := by
  refine sp_tree draws (dm := []) (fs := [.of (.lin 25 1)]) (
    .ret (V.lin true (25 : Nat) (1 : Nat) [])) (by kernel_rfl) ?_
  exact rfl
theorem clone_nne : Sp C1 34 [.nne] (.lin true 25 1 []) := by
  refine sp_tree draws (dm := []) (fs := [.of (.lin 25 1)]) (
    .ret (V.lin true (25 : Nat) (1 : Nat) [])) (by kernel_rfl) ?_
  exact rfl
theorem clone_cons (x : Int) (xs : List Int) (h : (x :: xs).length * 8 ≤ 2 ^ 47) : Sp C1 34 [eN (x :: xs)] (.lin true 25 1 (u64s (x :: xs))) := by
  refine sp_tree draws (dm := []) (fs := [.of (.lin 25 1)]) (
    .chk 7 (decide (((0 : Nat) + List.length (V.int IntKind.u64 x :: List.map (V.int IntKind.u64) xs)) * (8 : Nat) ≤ (140737488355328 : Nat))) <| .ret (V.lin true (25 : Nat) (1 : Nat) (V.int IntKind.u64 x :: List.map (V.int IntKind.u64) xs))) (by kernel_rfl) ?_
  exact ⟨by (simp at h ⊢; omega), rfl⟩
theorem clone_sp (xs : List Int) (h : xs.length * 8 ≤ 2 ^ 47) : Sp C1 34 [eN xs] (.lin true 25 1 (u64s xs)) := by
  cases xs with
  | nil => exact Sp.imm0 (pre := []) clone_nil clone_nne
  | cons x xs => exact clone_cons x xs h

abbrev eL (b s : List Int) : V := .agg [eN b, eN s]
abbrev eB (xs : List Bool) : V := .imm false 1 (xs.map V.bool)
abbrev fL : Fm := .agg [.imm 1, .imm 1]

theorem new_ok (n : Int) (h : 2 ≤ n) (h' : n ≤ 8) : Sp C1 10 [.int .i64 n] (.tup [eL (List.replicate n.toNat 0) (List.replicate n.toNat 0), .int .i64 0]) := by
  refine sp_tree draws (dm := []) (fs := [fL]) (
    .rw 8005 [] [(5, V.bool (decide (n < (2 : Int))), V.bool false)] <| .rw 8008 [] [(8, V.bool (decide (n > (8 : Int))), V.bool false)] <| .chk 12 (decide ((0 : Int) ≤ n ∧ n ≤ n ∧ n * (↑(8 : Nat) : Int) ≤ (2 : Int) ^ (47 : Nat) ∧ n ≤ (2 : Int) ^ (47 : Nat) ∧ (1 : Nat) = (1 : Nat) ∧ (0 : Nat) < (1 : Nat) ∧ true = true)) <| .chk 7012 (decide (n = n)) <| .chk 14 (decide ((0 : Int) ≤ n ∧ n ≤ n ∧ n * (↑(8 : Nat) : Int) ≤ (2 : Int) ^ (47 : Nat) ∧ n ≤ (2 : Int) ^ (47 : Nat) ∧ (1 : Nat) = (1 : Nat) ∧ (0 : Nat) < (1 : Nat) ∧ true = true)) <| .chk 7014 (decide (n = n)) <| .ret (V.tup [V.agg [V.imm false (1 : Nat) (List.replicate (Int.toNat n) (V.int IntKind.u64 (0 : Int))), V.imm false (1 : Nat) (List.replicate (Int.toNat n) (V.int IntKind.u64 (0 : Int)))], V.int IntKind.i64 (0 : Int)])) (by kernel_rfl) ?_
  exact ⟨⟨trivial, ⟨congrArg V.bool (by (simp <;> omega)), trivial⟩⟩, ⟨⟨trivial, ⟨congrArg V.bool (by (simp <;> omega)), trivial⟩⟩, ⟨by (simp <;> omega), ⟨by simp, ⟨by (simp <;> omega), ⟨by simp, by show _ = _; simp⟩⟩⟩⟩⟩⟩
theorem new_low (n : Int) (h : n < 2) : Sp C1 10 [.int .i64 n] (.tup [eL [] [], .int .i64 2]) := by
  refine sp_tree draws (dm := []) (fs := [fL]) (
    .rw 8005 [] [(5, V.bool (decide (n < (2 : Int))), V.bool true)] <| .ret (V.tup [V.agg [V.imm false (1 : Nat) [], V.imm false (1 : Nat) []], V.int IntKind.i64 (2 : Int)])) (by kernel_rfl) ?_
  exact ⟨⟨trivial, ⟨congrArg V.bool (by (simp <;> omega)), trivial⟩⟩, rfl⟩
theorem new_high (n : Int) (h : 8 < n) : Sp C1 10 [.int .i64 n] (.tup [eL [] [], .int .i64 2]) := by
  refine sp_tree draws (dm := []) (fs := [fL]) (
    .rw 8005 [] [(5, V.bool (decide (n < (2 : Int))), V.bool false)] <| .rw 8008 [] [(8, V.bool (decide (n > (8 : Int))), V.bool true)] <| .ret (V.tup [V.agg [V.imm false (1 : Nat) [], V.imm false (1 : Nat) []], V.int IntKind.i64 (2 : Int)])) (by kernel_rfl) ?_
  exact ⟨⟨trivial, ⟨congrArg V.bool (by (simp <;> omega)), trivial⟩⟩, ⟨⟨trivial, ⟨congrArg V.bool (by (simp <;> omega)), trivial⟩⟩, rfl⟩⟩
theorem new2_ok (n : Int) (h : 2 ≤ n) (h' : n ≤ 8) : Sp C1 11 [.int .i64 n] (.tup [eL (List.replicate n.toNat 0) (List.replicate n.toNat 0), .int .i64 0]) := by
  refine sp_tree draws (dm := []) (fs := [fL]) (
    .rw 8005 [] [(5, V.bool (decide (n < (2 : Int))), V.bool false)] <| .rw 8008 [] [(8, V.bool (decide (n > (8 : Int))), V.bool false)] <| .chk 12 (decide ((0 : Int) ≤ n ∧ n ≤ n ∧ n * (↑(8 : Nat) : Int) ≤ (2 : Int) ^ (47 : Nat) ∧ n ≤ (2 : Int) ^ (47 : Nat) ∧ (1 : Nat) = (1 : Nat) ∧ (0 : Nat) < (1 : Nat) ∧ true = true)) <| .chk 7012 (decide (n = n)) <| .chk 14 (decide ((0 : Int) ≤ n ∧ n ≤ n ∧ n * (↑(8 : Nat) : Int) ≤ (2 : Int) ^ (47 : Nat) ∧ n ≤ (2 : Int) ^ (47 : Nat) ∧ (1 : Nat) = (1 : Nat) ∧ (0 : Nat) < (1 : Nat) ∧ true = true)) <| .chk 7014 (decide (n = n)) <| .ret (V.tup [V.agg [V.imm false (1 : Nat) (List.replicate (Int.toNat n) (V.int IntKind.u64 (0 : Int))), V.imm false (1 : Nat) (List.replicate (Int.toNat n) (V.int IntKind.u64 (0 : Int)))], V.int IntKind.i64 (0 : Int)])) (by kernel_rfl) ?_
  exact ⟨⟨trivial, ⟨congrArg V.bool (by (simp <;> omega)), trivial⟩⟩, ⟨⟨trivial, ⟨congrArg V.bool (by (simp <;> omega)), trivial⟩⟩, ⟨by (simp <;> omega), ⟨by simp, ⟨by (simp <;> omega), ⟨by simp, by show _ = _; simp⟩⟩⟩⟩⟩⟩
theorem new2_low (n : Int) (h : n < 2) : Sp C1 11 [.int .i64 n] (.tup [eL [] [], .int .i64 2]) := by
  refine sp_tree draws (dm := []) (fs := [fL]) (
    .rw 8005 [] [(5, V.bool (decide (n < (2 : Int))), V.bool true)] <| .ret (V.tup [V.agg [V.imm false (1 : Nat) [], V.imm false (1 : Nat) []], V.int IntKind.i64 (2 : Int)])) (by kernel_rfl) ?_
  exact ⟨⟨trivial, ⟨congrArg V.bool (by (simp <;> omega)), trivial⟩⟩, rfl⟩
theorem new2_high (n : Int) (h : 8 < n) : Sp C1 11 [.int .i64 n] (.tup [eL [] [], .int .i64 2]) := by
  refine sp_tree draws (dm := []) (fs := [fL]) (
    .rw 8005 [] [(5, V.bool (decide (n < (2 : Int))), V.bool false)] <| .rw 8008 [] [(8, V.bool (decide (n > (8 : Int))), V.bool true)] <| .ret (V.tup [V.agg [V.imm false (1 : Nat) [], V.imm false (1 : Nat) []], V.int IntKind.i64 (2 : Int)])) (by kernel_rfl) ?_
  exact ⟨⟨trivial, ⟨congrArg V.bool (by (simp <;> omega)), trivial⟩⟩, ⟨⟨trivial, ⟨congrArg V.bool (by (simp <;> omega)), trivial⟩⟩, rfl⟩⟩

def Good (b s : List Int) : Prop := b.length = s.length ∧ 2 ≤ b.length ∧ b.length ≤ 8
instance (b s : List Int) : Decidable (Good b s) := by unfold Good; infer_instance
theorem check_ok (b s : List Int) (h : b.length = s.length) (h2 : 2 ≤ b.length) (h8 : b.length ≤ 8) : Sp C1 18 [eL b s] (.int .i64 0) := by
  refine sp_tree draws (dm := []) (fs := []) (
    .rw 8008 [] [(8, V.int IntKind.i64 (↑(List.length (List.map (V.int IntKind.u64) b)) : Int), V.int IntKind.i64 (↑(List.length b) : Int))] <| .call 9 10 ([V.int IntKind.i64 (↑(List.length b) : Int)]) (V.tup [eL (List.replicate (Int.toNat (↑(List.length b) : Int)) (0 : Int)) (List.replicate (Int.toNat (↑(List.length b) : Int)) (0 : Int)), V.int IntKind.i64 (0 : Int)]) <| .rw 8009 [] [(9, V.tup [V.agg [V.imm false (1 : Nat) (List.map (V.int IntKind.u64) (List.replicate (Int.toNat (↑(List.length b) : Int)) (0 : Int))), V.imm false (1 : Nat) (List.map (V.int IntKind.u64) (List.replicate (Int.toNat (↑(List.length b) : Int)) (0 : Int)))], V.int IntKind.i64 (0 : Int)], V.tup [V.agg [V.imm false (1 : Nat) (List.map (V.int IntKind.u64) (List.replicate (List.length b) (0 : Int))), V.imm false (1 : Nat) (List.map (V.int IntKind.u64) (List.replicate (List.length b) (0 : Int)))], V.int IntKind.i64 (0 : Int)])] <| .rw 8003 [] [(3, V.ptr (List.length [Blk.cells [V.imm false (1 : Nat) (List.map (V.int IntKind.u64) b), V.imm false (1 : Nat) (List.map (V.int IntKind.u64) s)] (24 : Nat)]) (0 : Nat), V.ptr (1 : Nat) (0 : Nat))] <| .rw 8017 [] [(17, V.int IntKind.i64 (↑(List.length (List.map (V.int IntKind.u64) s)) : Int), V.int IntKind.i64 (↑(List.length s) : Int))] <| .rw 8020 [] [(20, V.int IntKind.i64 (↑(List.length (List.map (V.int IntKind.u64) b)) : Int), V.int IntKind.i64 (↑(List.length b) : Int))] <| .rw 8021 [] [(21, V.bool ((↑(List.length s) : Int) != (↑(List.length b) : Int)), V.bool false)] <| .ret (V.int IntKind.i64 (0 : Int))) (by kernel_rfl) ?_
  exact ⟨⟨trivial, ⟨by simp (disch := omega) only [List.length_map], trivial⟩⟩, ⟨(Go.Fw.new_ok _ (by omega) (by omega)), ⟨⟨trivial, ⟨by simp (disch := omega) only [Int.toNat_natCast], trivial⟩⟩, ⟨⟨trivial, ⟨by simp (disch := omega) only [List.length_cons, List.length_nil, Nat.zero_add], trivial⟩⟩, ⟨⟨trivial, ⟨by simp (disch := omega) only [List.length_map], trivial⟩⟩, ⟨⟨trivial, ⟨by simp (disch := omega) only [List.length_map], trivial⟩⟩, ⟨⟨trivial, ⟨congrArg V.bool (by (simp <;> omega)), trivial⟩⟩, rfl⟩⟩⟩⟩⟩⟩⟩
theorem check_low (b s : List Int) (h2 : b.length < 2) : Sp C1 18 [eL b s] (.int .i64 6) := by
  refine sp_tree draws (dm := []) (fs := []) (
    .rw 8008 [] [(8, V.int IntKind.i64 (↑(List.length (List.map (V.int IntKind.u64) b)) : Int), V.int IntKind.i64 (↑(List.length b) : Int))] <| .call 9 10 ([V.int IntKind.i64 (↑(List.length b) : Int)]) (V.tup [eL [] [], V.int IntKind.i64 (2 : Int)]) <| .rw 8003 [] [(3, V.ptr (List.length [Blk.cells [V.imm false (1 : Nat) (List.map (V.int IntKind.u64) b), V.imm false (1 : Nat) (List.map (V.int IntKind.u64) s)] (24 : Nat)]) (0 : Nat), V.ptr (1 : Nat) (0 : Nat))] <| .ret (V.int IntKind.i64 (6 : Int))) (by kernel_rfl) ?_
  exact ⟨⟨trivial, ⟨by simp (disch := omega) only [List.length_map], trivial⟩⟩, ⟨(Go.Fw.new_low _ (by omega)), ⟨⟨trivial, ⟨by simp (disch := omega) only [List.length_cons, List.length_nil, Nat.zero_add], trivial⟩⟩, rfl⟩⟩⟩
theorem check_high (b s : List Int) (h2 : 8 < b.length) : Sp C1 18 [eL b s] (.int .i64 6) := by
  refine sp_tree draws (dm := []) (fs := []) (
    .rw 8008 [] [(8, V.int IntKind.i64 (↑(List.length (List.map (V.int IntKind.u64) b)) : Int), V.int IntKind.i64 (↑(List.length b) : Int))] <| .call 9 10 ([V.int IntKind.i64 (↑(List.length b) : Int)]) (V.tup [eL [] [], V.int IntKind.i64 (2 : Int)]) <| .rw 8003 [] [(3, V.ptr (List.length [Blk.cells [V.imm false (1 : Nat) (List.map (V.int IntKind.u64) b), V.imm false (1 : Nat) (List.map (V.int IntKind.u64) s)] (24 : Nat)]) (0 : Nat), V.ptr (1 : Nat) (0 : Nat))] <| .ret (V.int IntKind.i64 (6 : Int))) (by kernel_rfl) ?_
  exact ⟨⟨trivial, ⟨by simp (disch := omega) only [List.length_map], trivial⟩⟩, ⟨(Go.Fw.new_high _ (by omega)), ⟨⟨trivial, ⟨by simp (disch := omega) only [List.length_cons, List.length_nil, Nat.zero_add], trivial⟩⟩, rfl⟩⟩⟩
theorem check_len (b s : List Int) (h : b.length ≠ s.length) (h2 : 2 ≤ b.length) (h8 : b.length ≤ 8) : Sp C1 18 [eL b s] (.int .i64 6) := by
  refine sp_tree draws (dm := []) (fs := []) (
    .rw 8008 [] [(8, V.int IntKind.i64 (↑(List.length (List.map (V.int IntKind.u64) b)) : Int), V.int IntKind.i64 (↑(List.length b) : Int))] <| .call 9 10 ([V.int IntKind.i64 (↑(List.length b) : Int)]) (V.tup [eL (List.replicate (Int.toNat (↑(List.length b) : Int)) (0 : Int)) (List.replicate (Int.toNat (↑(List.length b) : Int)) (0 : Int)), V.int IntKind.i64 (0 : Int)]) <| .rw 8009 [] [(9, V.tup [V.agg [V.imm false (1 : Nat) (List.map (V.int IntKind.u64) (List.replicate (Int.toNat (↑(List.length b) : Int)) (0 : Int))), V.imm false (1 : Nat) (List.map (V.int IntKind.u64) (List.replicate (Int.toNat (↑(List.length b) : Int)) (0 : Int)))], V.int IntKind.i64 (0 : Int)], V.tup [V.agg [V.imm false (1 : Nat) (List.map (V.int IntKind.u64) (List.replicate (List.length b) (0 : Int))), V.imm false (1 : Nat) (List.map (V.int IntKind.u64) (List.replicate (List.length b) (0 : Int)))], V.int IntKind.i64 (0 : Int)])] <| .rw 8003 [] [(3, V.ptr (List.length [Blk.cells [V.imm false (1 : Nat) (List.map (V.int IntKind.u64) b), V.imm false (1 : Nat) (List.map (V.int IntKind.u64) s)] (24 : Nat)]) (0 : Nat), V.ptr (1 : Nat) (0 : Nat))] <| .rw 8017 [] [(17, V.int IntKind.i64 (↑(List.length (List.map (V.int IntKind.u64) s)) : Int), V.int IntKind.i64 (↑(List.length s) : Int))] <| .rw 8020 [] [(20, V.int IntKind.i64 (↑(List.length (List.map (V.int IntKind.u64) b)) : Int), V.int IntKind.i64 (↑(List.length b) : Int))] <| .rw 8021 [] [(21, V.bool ((↑(List.length s) : Int) != (↑(List.length b) : Int)), V.bool true)] <| .ret (V.int IntKind.i64 (6 : Int))) (by kernel_rfl) ?_
  exact ⟨⟨trivial, ⟨by simp (disch := omega) only [List.length_map], trivial⟩⟩, ⟨(Go.Fw.new_ok _ (by omega) (by omega)), ⟨⟨trivial, ⟨by simp (disch := omega) only [Int.toNat_natCast], trivial⟩⟩, ⟨⟨trivial, ⟨by simp (disch := omega) only [List.length_cons, List.length_nil, Nat.zero_add], trivial⟩⟩, ⟨⟨trivial, ⟨by simp (disch := omega) only [List.length_map], trivial⟩⟩, ⟨⟨trivial, ⟨by simp (disch := omega) only [List.length_map], trivial⟩⟩, ⟨⟨trivial, ⟨congrArg V.bool (by (simp <;> omega)), trivial⟩⟩, rfl⟩⟩⟩⟩⟩⟩⟩
theorem check_bad (b s : List Int) (h : ¬ Good b s) : Sp C1 18 [eL b s] (.int .i64 6) := by
  unfold Good at h
  by_cases h1 : b.length < 2
  · exact check_low b s h1
  · by_cases h2 : 8 < b.length
    · exact check_high b s h2
    · exact check_len b s (by omega) (by omega) (by omega)
theorem check2_ok (b s : List Int) (h : b.length = s.length) (h2 : 2 ≤ b.length) (h8 : b.length ≤ 8) : Sp C1 19 [eL b s] (.int .i64 0) := by
  refine sp_tree draws (dm := []) (fs := []) (
    .rw 8005 [] [(5, V.int IntKind.i64 (↑(List.length (List.map (V.int IntKind.u64) b)) : Int), V.int IntKind.i64 (↑(List.length b) : Int))] <| .rw 8008 [] [(8, V.int IntKind.i64 (↑(List.length (List.map (V.int IntKind.u64) s)) : Int), V.int IntKind.i64 (↑(List.length s) : Int))] <| .rw 8009 [] [(9, V.bool ((↑(List.length b) : Int) != (↑(List.length s) : Int)), V.bool false)] <| .rw 8013 [] [(13, V.int IntKind.i64 (↑(List.length (List.map (V.int IntKind.u64) b)) : Int), V.int IntKind.i64 (↑(List.length b) : Int))] <| .rw 8014 [] [(14, V.bool (decide ((↑(List.length b) : Int) < (2 : Int))), V.bool false)] <| .rw 8019 [] [(19, V.int IntKind.i64 (↑(List.length (List.map (V.int IntKind.u64) b)) : Int), V.int IntKind.i64 (↑(List.length b) : Int))] <| .rw 8020 [] [(20, V.bool (decide ((↑(List.length b) : Int) > (8 : Int))), V.bool false)] <| .ret (V.int IntKind.i64 (0 : Int))) (by kernel_rfl) ?_
  exact ⟨⟨trivial, ⟨by simp (disch := omega) only [List.length_map], trivial⟩⟩, ⟨⟨trivial, ⟨by simp (disch := omega) only [List.length_map], trivial⟩⟩, ⟨⟨trivial, ⟨congrArg V.bool (by (simp <;> omega)), trivial⟩⟩, ⟨⟨trivial, ⟨by simp (disch := omega) only [List.length_map], trivial⟩⟩, ⟨⟨trivial, ⟨congrArg V.bool (by (simp <;> omega)), trivial⟩⟩, ⟨⟨trivial, ⟨by simp (disch := omega) only [List.length_map], trivial⟩⟩, ⟨⟨trivial, ⟨congrArg V.bool (by (simp <;> omega)), trivial⟩⟩, rfl⟩⟩⟩⟩⟩⟩⟩
theorem check2_bad (b s : List Int) (h : ¬ (b.length = s.length ∧ 2 ≤ b.length ∧ b.length ≤ 8)) : Sp C1 19 [eL b s] (.int .i64 6) := by
  refine sp_tree draws (dm := []) (fs := []) (
    .rw 8005 [] [(5, V.int IntKind.i64 (↑(List.length (List.map (V.int IntKind.u64) b)) : Int), V.int IntKind.i64 (↑(List.length b) : Int))] <| .rw 8008 [] [(8, V.int IntKind.i64 (↑(List.length (List.map (V.int IntKind.u64) s)) : Int), V.int IntKind.i64 (↑(List.length s) : Int))] <| .ite 1011 (((↑(List.length b) : Int) != (↑(List.length s) : Int)) == false)
    (.rw 8011 [] [(9, V.bool ((↑(List.length b) : Int) != (↑(List.length s) : Int)), V.bool false)] <| .tt 1012 (((↑(List.length b) : Int) != (↑(List.length s) : Int)) == false) <| .tt 1013 (((↑(List.length b) : Int) != (↑(List.length s) : Int)) == false) <| .rw 8013 [] [(13, V.int IntKind.i64 (↑(List.length (List.map (V.int IntKind.u64) b)) : Int), V.int IntKind.i64 (↑(List.length b) : Int))] <| .tt 1014 (((↑(List.length b) : Int) != (↑(List.length s) : Int)) == false) <| .ff 15 ((↑(List.length b) : Int) != (↑(List.length s) : Int)) <| .ite 1017 (decide ((↑(List.length b) : Int) < (2 : Int)) == false)
      (.rw 8017 [] [(10, V.bool ((↑(List.length b) : Int) != (↑(List.length s) : Int)), V.bool false), (14, V.bool (decide ((↑(List.length b) : Int) < (2 : Int))), V.bool false)] <| .tt 1018 (decide ((↑(List.length b) : Int) < (2 : Int)) == false) <| .tt 1019 (decide ((↑(List.length b) : Int) < (2 : Int)) == false) <| .rw 8019 [] [(19, V.int IntKind.i64 (↑(List.length (List.map (V.int IntKind.u64) b)) : Int), V.int IntKind.i64 (↑(List.length b) : Int))] <| .tt 1020 (decide ((↑(List.length b) : Int) < (2 : Int)) == false) <| .rw 8020 [] [(20, V.bool (decide ((↑(List.length b) : Int) > (8 : Int))), V.bool true)] <| .ff 21 (decide ((↑(List.length b) : Int) < (2 : Int))) <| .ret (V.int IntKind.i64 (6 : Int)))
      (.ff 1018 (decide ((↑(List.length b) : Int) < (2 : Int)) == false) <| .ff 1019 (decide ((↑(List.length b) : Int) < (2 : Int)) == false) <| .ff 1020 (decide ((↑(List.length b) : Int) < (2 : Int)) == false) <| .tt 21 (decide ((↑(List.length b) : Int) < (2 : Int))) <| .ret (V.int IntKind.i64 (6 : Int))))
    (.ff 1012 (((↑(List.length b) : Int) != (↑(List.length s) : Int)) == false) <| .ff 1013 (((↑(List.length b) : Int) != (↑(List.length s) : Int)) == false) <| .ff 1014 (((↑(List.length b) : Int) != (↑(List.length s) : Int)) == false) <| .tt 15 ((↑(List.length b) : Int) != (↑(List.length s) : Int)) <| .ret (V.int IntKind.i64 (6 : Int)))) (by kernel_rfl) ?_
  exact ⟨⟨trivial, ⟨by simp (disch := omega) only [List.length_map], trivial⟩⟩, ⟨⟨trivial, ⟨by simp (disch := omega) only [List.length_map], trivial⟩⟩, ⟨fun h0 => have h0p : (↑(List.length b) : Int) = (↑(List.length s) : Int) := (by simpa using h0); ⟨⟨trivial, ⟨congrArg V.bool (by (simp <;> omega)), trivial⟩⟩, ⟨(h0), ⟨(h0), ⟨⟨trivial, ⟨by simp (disch := omega) only [List.length_map], trivial⟩⟩, ⟨(h0), ⟨by (simp <;> omega), ⟨fun h1 => have h1p : (2 : Int) ≤ (↑(List.length b) : Int) := (by simpa using h1); ⟨⟨trivial, ⟨congrArg V.bool (by (simp <;> omega)), ⟨congrArg V.bool (by (simp <;> omega)), trivial⟩⟩⟩, ⟨(h1), ⟨(h1), ⟨⟨trivial, ⟨by simp (disch := omega) only [List.length_map], trivial⟩⟩, ⟨(h1), ⟨⟨trivial, ⟨congrArg V.bool (by (simp <;> omega)), trivial⟩⟩, ⟨by (simp <;> omega), rfl⟩⟩⟩⟩⟩⟩⟩,
      fun h1 => have h1p : (↑(List.length b) : Int) < (2 : Int) := (by simpa using h1); ⟨(h1), ⟨(h1), ⟨(h1), ⟨by (simp <;> omega), rfl⟩⟩⟩⟩⟩⟩⟩⟩⟩⟩⟩,
    fun h0 => have h0p : ¬(↑(List.length b) : Int) = (↑(List.length s) : Int) := (by simpa using h0); ⟨(h0), ⟨(h0), ⟨(h0), ⟨by (simp <;> omega), rfl⟩⟩⟩⟩⟩⟩⟩
end Go.Fw
