/- LeaseNobody, evaluated. -/
import Derived.Test.YtipeadpepapmpaaLeaseEval
set_option linter.all false
namespace Go.Fw
open Go.Proofs

theorem new_bad (nodes : Int) (h : nodes < 2 ∨ 8 < nodes) : vcall C1 51 10 [.int .i64 nodes] [] = some (.ret (.tup [.agg [.nils, .nils], .int .i64 2]) []) := by
  by_cases h2 : nodes < 2
  · refine wcall_ok (n := 50) [.b 1007 false, .b 1008 false, .b 9 true, .b 2009 true] (ds' := []) (ps := [(decide (nodes < 2) == false) = false, (decide (nodes < 2) == false) = false, decide (nodes < 2) = true, true = true]) (by kernel_rfl) ?_
    simp [All, h2]
  · have h8 : 8 < nodes := h.resolve_left h2
    refine wcall_ok (n := 50) [.b 1007 true, .b 1008 true, .b 9 false, .b 2009 true] (ds' := []) (ps := [(decide (nodes < 2) == false) = true, (decide (nodes < 2) == false) = true, decide (nodes < 2) = false, decide (nodes > 8) = true]) (by kernel_rfl) ?_
    simp [All, h2, h8]

theorem nb2 (now : Int) : vcall C1 52 6 [.int .i64 2, .int .u64 now] [] = some (.ret (.bool true) []) := by kernel_rfl
theorem nb3 (now : Int) : vcall C1 52 6 [.int .i64 3, .int .u64 now] [] = some (.ret (.bool true) []) := by kernel_rfl
theorem nb4 (now : Int) : vcall C1 52 6 [.int .i64 4, .int .u64 now] [] = some (.ret (.bool true) []) := by kernel_rfl
theorem nb5 (now : Int) : vcall C1 52 6 [.int .i64 5, .int .u64 now] [] = some (.ret (.bool true) []) := by kernel_rfl
theorem nb6 (now : Int) : vcall C1 52 6 [.int .i64 6, .int .u64 now] [] = some (.ret (.bool true) []) := by kernel_rfl
theorem nb7 (now : Int) : vcall C1 52 6 [.int .i64 7, .int .u64 now] [] = some (.ret (.bool true) []) := by kernel_rfl
theorem nb8 (now : Int) : vcall C1 52 6 [.int .i64 8, .int .u64 now] [] = some (.ret (.bool true) []) := by kernel_rfl

theorem nobody_true (nodes now : Int) : vcall C1 52 6 [.int .i64 nodes, .int .u64 now] [] = some (.ret (.bool true) []) := by
  by_cases h : nodes < 2 ∨ 8 < nodes
  · have hb := new_bad nodes h
    by_cases h2 : nodes < 2
    · refine wcall_ok (n := 51) [.call 15 (.ret (.tup [.agg [.nils, .nils], .int .i64 2]) []), .b 1023 false, .b 1024 false, .b 25 true] (ds' := []) (ps := [vcall C1 51 10 [.int .i64 nodes] [] = some (.ret (.tup [.agg [.nils, .nils], .int .i64 2]) []), (decide (nodes < 2) == false) = false, (decide (nodes < 2) == false) = false, decide (nodes < 2) = true]) (by kernel_rfl) ?_
      simp [All, h2, hb]
    · have h8 : 8 < nodes := h.resolve_left h2
      have := wcall_ok (C := C1) (n := 51) (f := 6) (args := [.int .i64 nodes, .int .u64 now]) (h := []) (out := .ret (.bool (decide (nodes > 8))) []) [.call 15 (.ret (.tup [.agg [.nils, .nils], .int .i64 2]) []), .b 1023 true, .b 1024 true, .b 25 false] (ds' := []) (ps := [vcall C1 51 10 [.int .i64 nodes] [] = some (.ret (.tup [.agg [.nils, .nils], .int .i64 2]) []), (decide (nodes < 2) == false) = true, (decide (nodes < 2) == false) = true, decide (nodes < 2) = false]) (by kernel_rfl) (by simp [All, h2, hb])
      rw [decide_eq_true (show nodes > 8 from h8)] at this
      exact this
  · have h1 : 2 ≤ nodes := by omega
    have h2 : nodes ≤ 8 := by omega
    have : nodes = 2 ∨ nodes = 3 ∨ nodes = 4 ∨ nodes = 5 ∨ nodes = 6 ∨ nodes = 7 ∨ nodes = 8 := by omega
    rcases this with e | e | e | e | e | e | e <;> rw [e]
    · exact nb2 now
    · exact nb3 now
    · exact nb4 now
    · exact nb5 now
    · exact nb6 now
    · exact nb7 now
    · exact nb8 now

end Go.Fw
