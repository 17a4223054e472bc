/- Net: Deliver. -/
import Derived.Test.YtcobacfinalleaaNetDel
set_option linter.all false
set_option maxHeartbeats 20000000
namespace Go.Fw
open Go.Proofs
theorem chunk_cells : ∀ (ps : List Pk) (rest : List V), chunk 3 ps.length (cellsP ps ++ rest) = ps.map ePk
  | [], rest => rfl
  | p :: ps, rest => by
    rw [cellsP_cons, List.length_cons]
    show V.agg _ :: chunk 3 ps.length _ = _
    exact congrArg (ePk p :: ·) (chunk_cells ps rest)
theorem chunk_chk (ps : List Pk) (rest : List V) {n : Nat} (hn : n = ps.length) (hr : rest.all flat1 = true) : (decide (0 + n * (2 + 1) ≤ (cellsP ps ++ rest).length) && (((cellsP ps ++ rest).drop 0).take (n * (2 + 1))).all flat1) = true := by
  have h : (cellsP ps).all flat1 = true := by
    induction ps generalizing n with
    | nil => rfl
    | cons p ps ih => rw [cellsP_cons]; simp only [List.all_cons, ih rfl]; rfl
  subst hn
  rw [Bool.and_eq_true, decide_eq_true_eq, List.length_append, cellsP_len, List.drop_zero, List.all_eq_true]
  refine ⟨by omega, fun x hx => ?_⟩
  rw [List.all_eq_true] at h hr
  rcases List.mem_append.1 (List.mem_of_mem_take hx) with hx | hx
  · exact h x hx
  · exact hr x hx
abbrev eZ : V := .agg [.int .i64 0, .int .i64 0, .str ByteArray.empty]
theorem deliver_state (ps : List Pk) (i : Int) (h : okNet ps = false) : Sp C1 10 [eNet ps, .int .i64 i] (.tup [eNet [], eZ, .int .i64 6]) := by
  have hc : chkE ps = 6 := by unfold chkE; rw [h]; rfl
  have hk := check_sp ps
  rw [hc] at hk
  refine sp_tree draws (dm := [0]) (fs := [fN, .of .keep, .of .keep]) (
    .rw 8004 [] [(4, V.ptr (List.length [Blk.cells [V.imm false (3 : Nat) (List.map ePk ps)] (24 : Nat)]) (0 : Nat), V.ptr (1 : Nat) (0 : Nat))] <| .rw 8005 [] [(5, V.ptr (List.length [Blk.cells [V.imm false (3 : Nat) (List.map ePk ps)] (24 : Nat), Blk.cells [V.nils] (24 : Nat)]) (0 : Nat), V.ptr ((1 : Nat) + (1 : Nat)) (0 : Nat))] <| .call 10 18 ([eNet ps]) (V.int IntKind.i64 (6 : Int)) <| .ret (V.tup [V.agg [V.imm false (3 : Nat) []], V.agg [V.int IntKind.i64 (0 : Int), V.int IntKind.i64 (0 : Int), V.str (ByteArray.mk #[])], V.int IntKind.i64 (6 : Int)])) (by kernel_rfl) ?_
  exact ⟨⟨trivial, ⟨by simp (disch := omega) only [List.length_cons, List.length_nil, Nat.zero_add], trivial⟩⟩, ⟨⟨trivial, ⟨by simp (disch := omega) only [List.length_cons, List.length_nil, Nat.zero_add], trivial⟩⟩, ⟨(hk), rfl⟩⟩⟩
theorem deliver_out (ps : List Pk) (i : Int) (h : okNet ps = true) (hi : i < 0 ∨ ps.length ≤ i) : Sp C1 10 [eNet ps, .int .i64 i] (.tup [eNet ps, eZ, .int .i64 7]) := by
  have hc : chkE ps = 0 := by unfold chkE; rw [h]; rfl
  have hk := check_sp ps
  rw [hc] at hk
  have hl : ps.length ≤ 4096 := by unfold okNet at h; simp at h; exact h.1
  refine sp_tree draws (dm := [0]) (fs := [fN, .of .keep, .of .keep]) (
    .rw 8004 [] [(4, V.ptr (List.length [Blk.cells [V.imm false (3 : Nat) (List.map ePk ps)] (24 : Nat)]) (0 : Nat), V.ptr (1 : Nat) (0 : Nat))] <| .rw 8005 [] [(5, V.ptr (List.length [Blk.cells [V.imm false (3 : Nat) (List.map ePk ps)] (24 : Nat), Blk.cells [V.nils] (24 : Nat)]) (0 : Nat), V.ptr ((1 : Nat) + (1 : Nat)) (0 : Nat))] <| .call 10 18 ([eNet ps]) (V.int IntKind.i64 (0 : Int)) <| .call 17 22 ([eNet ps]) (eNl ps) <| .rw 8008 [] [(8, V.ptr (List.length [Blk.cells [V.imm false (3 : Nat) (List.map ePk ps)] (24 : Nat), Blk.cells [V.nils] (24 : Nat), Blk.cells [V.int IntKind.i64 (0 : Int), V.int IntKind.i64 (0 : Int), V.str (ByteArray.mk #[])] (30 : Nat)]) (0 : Nat), V.ptr ((1 : Nat) + (1 : Nat) + (1 : Nat)) (0 : Nat))] <| .ite 1021 (decide (i < (0 : Int)) == false)
    (.rw 8021 [] [(19, V.bool (decide (i < (0 : Int))), V.bool false)] <| .tt 1022 (decide (i < (0 : Int)) == false) <| .tt 1023 (decide (i < (0 : Int)) == false) <| .tt 1024 (decide (i < (0 : Int)) == false) <| .rw 8024 [] [(24, V.int IntKind.i64 (↑(List.length (List.map ePk ps)) : Int), V.int IntKind.i64 (↑(List.length ps) : Int))] <| .tt 1025 (decide (i < (0 : Int)) == false) <| .rw 8025 [] [(25, V.bool (decide (i ≥ (↑(List.length ps) : Int))), V.bool true)] <| .ff 26 (decide (i < (0 : Int))) <| .ret (V.tup [V.agg [V.imm false (3 : Nat) (List.map ePk ps)], V.agg [V.int IntKind.i64 (0 : Int), V.int IntKind.i64 (0 : Int), V.str (ByteArray.mk #[])], V.int IntKind.i64 (7 : Int)]))
    (.ff 1022 (decide (i < (0 : Int)) == false) <| .ff 1023 (decide (i < (0 : Int)) == false) <| .ff 1024 (decide (i < (0 : Int)) == false) <| .ff 1025 (decide (i < (0 : Int)) == false) <| .tt 26 (decide (i < (0 : Int))) <| .ret (V.tup [V.agg [V.imm false (3 : Nat) (List.map ePk ps)], V.agg [V.int IntKind.i64 (0 : Int), V.int IntKind.i64 (0 : Int), V.str (ByteArray.mk #[])], V.int IntKind.i64 (7 : Int)]))) (by kernel_rfl) ?_
  exact ⟨⟨trivial, ⟨by simp (disch := omega) only [List.length_cons, List.length_nil, Nat.zero_add], trivial⟩⟩, ⟨⟨trivial, ⟨by simp (disch := omega) only [List.length_cons, List.length_nil, Nat.zero_add], trivial⟩⟩, ⟨(hk), ⟨(Go.Fw.own_sp _ (by omega)), ⟨⟨trivial, ⟨by simp (disch := omega) only [List.length_cons, List.length_nil, Nat.zero_add], trivial⟩⟩, ⟨fun h0 => have h0p : (0 : Int) ≤ i := (by simpa using h0); ⟨⟨trivial, ⟨congrArg V.bool (by (simp <;> omega)), trivial⟩⟩, ⟨(h0), ⟨(h0), ⟨(h0), ⟨⟨trivial, ⟨by simp (disch := omega) only [List.length_map], trivial⟩⟩, ⟨(h0), ⟨⟨trivial, ⟨congrArg V.bool (by (simp <;> omega)), trivial⟩⟩, ⟨by (simp <;> omega), rfl⟩⟩⟩⟩⟩⟩⟩⟩,
    fun h0 => have h0p : i < (0 : Int) := (by simpa using h0); ⟨(h0), ⟨(h0), ⟨(h0), ⟨(h0), ⟨by (simp <;> omega), rfl⟩⟩⟩⟩⟩⟩⟩⟩⟩⟩⟩
theorem deliver_ok (ps : List Pk) (i : Nat) (p : Pk) (h : okNet ps = true) (hi : ps[i]? = some p) : Sp C1 10 [eNet ps, .int .i64 (i : Int)] (.tup [eNet (ps.eraseIdx i), ePk p, .int .i64 0]) := by
  have hc : chkE ps = 0 := by unfold chkE; rw [h]; rfl
  have hk := check_sp ps
  rw [hc] at hk
  have hl : ps.length ≤ 4096 := by unfold okNet at h; simp at h; exact h.1
  have hil := (List.getElem?_eq_some_iff.1 hi).1
  have hel : (ps.eraseIdx i).length = ps.length - 1 := List.length_eraseIdx_of_lt hil
  refine sp_tree draws (dm := [0]) (fs := [fN, .of .keep, .of .keep]) (
    .rw 8004 [] [(4, V.ptr (List.length [Blk.cells [V.imm false (3 : Nat) (List.map ePk ps)] (24 : Nat)]) (0 : Nat), V.ptr (1 : Nat) (0 : Nat))] <| .rw 8005 [] [(5, V.ptr (List.length [Blk.cells [V.imm false (3 : Nat) (List.map ePk ps)] (24 : Nat), Blk.cells [V.nils] (24 : Nat)]) (0 : Nat), V.ptr ((1 : Nat) + (1 : Nat)) (0 : Nat))] <| .call 10 18 ([eNet ps]) (V.int IntKind.i64 (0 : Int)) <| .call 17 22 ([eNet ps]) (eNl ps) <| .to 8017 ([.thawAt 17 0]) <| .rw 8008 [] [(8, V.ptr (List.length [Blk.cells [V.imm false (3 : Nat) (List.map ePk ps)] (24 : Nat), Blk.cells [V.nils] (24 : Nat), Blk.cells [V.int IntKind.i64 (0 : Int), V.int IntKind.i64 (0 : Int), V.str (ByteArray.mk #[])] (30 : Nat), Blk.cells (List.flatMap V.cells (List.map ePk ps)) (30 : Nat)]) (0 : Nat), V.ptr ((1 : Nat) + (1 : Nat) + (1 : Nat) + (1 : Nat)) (0 : Nat)), (17, V.agg [V.own (List.length [Blk.cells [V.imm false (3 : Nat) (List.map ePk ps)] (24 : Nat), Blk.cells [V.nils] (24 : Nat), Blk.cells [V.int IntKind.i64 (0 : Int), V.int IntKind.i64 (0 : Int), V.str (ByteArray.mk #[])] (30 : Nat)]) (0 : Nat) (List.length (List.map ePk ps)) (List.length (List.map ePk ps))], V.agg [V.own ((1 : Nat) + (1 : Nat) + (1 : Nat)) (0 : Nat) (List.length ps) (List.length ps)])] <| .rw 8024 [] [(24, V.int IntKind.i64 (↑(List.length (List.map ePk ps)) : Int), V.int IntKind.i64 (↑(List.length ps) : Int))] <| .rw 8025 [] [(25, V.bool (decide ((↑i : Int) ≥ (↑(List.length ps) : Int))), V.bool false)] <| .rw 8033 [] [(33, V.int IntKind.i64 (IntKind.wrap IntKind.i64 ((↑i : Int) + (1 : Int))), V.int IntKind.i64 (↑(i + (1 : Nat)) : Int))] <| .callH 34 25 ([V.own (3 : Nat) (0 : Nat) (List.length ps) (List.length ps), V.int IntKind.i64 (↑i : Int), V.int IntKind.i64 (↑(i + (1 : Nat)) : Int)]) ([Blk.cells [V.imm false (3 : Nat) (List.map ePk ps)] (24 : Nat), Blk.cells [V.nils] (24 : Nat), Blk.cells [V.int IntKind.i64 (0 : Int), V.int IntKind.i64 (0 : Int), V.str (ByteArray.mk #[])] (30 : Nat), Blk.cells (cellsP ps) (30 : TypeId), Blk.cells [V.own (3 : Nat) (0 : Nat) (List.length ps) (List.length ps)] (24 : Nat)]) (V.own (3 : Nat) (0 : Nat) (List.length ps - (1 : Nat)) (List.length ps)) ([Blk.cells [V.imm false (3 : Nat) (List.map ePk ps)] (24 : Nat), Blk.cells [V.nils] (24 : Nat), Blk.cells [V.int IntKind.i64 (0 : Int), V.int IntKind.i64 (0 : Int), V.str (ByteArray.mk #[])] (30 : Nat), Blk.cells (cellsP (List.eraseIdx ps i) ++ zP) (30 : TypeId), Blk.cells [V.own (3 : Nat) (0 : Nat) (List.length ps) (List.length ps)] (24 : Nat)]) <| .opt 40 (idx (List.map ePk ps) (↑i : Int)) (ePk p) <| .chk 4003 (decide ((0 : Nat) + (List.length ps - (1 : Nat)) * (3 : Nat) ≤ List.length (cellsP (List.eraseIdx ps i) ++ [V.int IntKind.i64 (0 : Int), V.int IntKind.i64 (0 : Int), V.str (ByteArray.mk #[])])) && List.all (List.take ((List.length ps - (1 : Nat)) * (3 : Nat)) (List.drop (0 : Nat) (cellsP (List.eraseIdx ps i) ++ [V.int IntKind.i64 (0 : Int), V.int IntKind.i64 (0 : Int), V.str (ByteArray.mk #[])]))) flat1) <| .ret (V.tup [V.agg [V.imm false (3 : Nat) (chunk (3 : Nat) (List.length ps - (1 : Nat)) (List.drop (0 : Nat) (cellsP (List.eraseIdx ps i) ++ [V.int IntKind.i64 (0 : Int), V.int IntKind.i64 (0 : Int), V.str (ByteArray.mk #[])])))], V.agg [V.int IntKind.i64 (Pk.f p), V.int IntKind.i64 (Pk.t p), V.str (Pk.s p)], V.int IntKind.i64 (0 : Int)])) (by kernel_rfl) ?_
  exact ⟨⟨trivial, ⟨by simp (disch := omega) only [List.length_cons, List.length_nil, Nat.zero_add], trivial⟩⟩, ⟨⟨trivial, ⟨by simp (disch := omega) only [List.length_cons, List.length_nil, Nat.zero_add], trivial⟩⟩, ⟨(hk), ⟨(Go.Fw.own_sp _ (by omega)), ⟨⟨trivial, ⟨by simp (disch := omega) only [List.length_cons, List.length_nil, Nat.zero_add], ⟨by simp (disch := omega) only [List.length_cons, List.length_nil, Nat.zero_add, List.length_map], trivial⟩⟩⟩, ⟨⟨trivial, ⟨by simp (disch := omega) only [List.length_map], trivial⟩⟩, ⟨⟨trivial, ⟨congrArg V.bool (by (simp <;> omega)), trivial⟩⟩, ⟨⟨trivial, ⟨by simp (disch := omega) only [Go.Fw.cast_succ, Go.Fw.wrap_i64], trivial⟩⟩, ⟨(Go.Fw.delete_sp _ _ _ _ _ _ hil hl), ⟨(Go.Fw.idx_map _ hi), ⟨(Go.Fw.chunk_chk _ _ (by omega) (by simp)), by show _ = _; (rw [List.drop_zero, ← hel, chunk_cells])⟩⟩⟩⟩⟩⟩⟩⟩⟩⟩⟩
theorem deliver2_state (ps : List Pk) (i : Int) (h : okNet ps = false) : Sp C1 11 [eNet ps, .int .i64 i] (.tup [eNet [], eZ, .int .i64 6]) := by
  have hc : chkE ps = 6 := by unfold chkE; rw [h]; rfl
  have hk := check2_sp ps
  rw [hc] at hk
  refine sp_tree draws (dm := [0]) (fs := [fN, .of .keep, .of .keep]) (
    .rw 8004 [] [(4, V.ptr (List.length [Blk.cells [V.imm false (3 : Nat) (List.map ePk ps)] (24 : Nat)]) (0 : Nat), V.ptr (1 : Nat) (0 : Nat))] <| .rw 8005 [] [(5, V.ptr (List.length [Blk.cells [V.imm false (3 : Nat) (List.map ePk ps)] (24 : Nat), Blk.cells [V.nils] (24 : Nat)]) (0 : Nat), V.ptr ((1 : Nat) + (1 : Nat)) (0 : Nat))] <| .call 8 19 ([eNet ps]) (V.int IntKind.i64 (6 : Int)) <| .ret (V.tup [V.agg [V.imm false (3 : Nat) []], V.agg [V.int IntKind.i64 (0 : Int), V.int IntKind.i64 (0 : Int), V.str (ByteArray.mk #[])], V.int IntKind.i64 (6 : Int)])) (by kernel_rfl) ?_
  exact ⟨⟨trivial, ⟨by simp (disch := omega) only [List.length_cons, List.length_nil, Nat.zero_add], trivial⟩⟩, ⟨⟨trivial, ⟨by simp (disch := omega) only [List.length_cons, List.length_nil, Nat.zero_add], trivial⟩⟩, ⟨(hk), rfl⟩⟩⟩
theorem deliver2_out (ps : List Pk) (i : Int) (h : okNet ps = true) (hi : i < 0 ∨ ps.length ≤ i) : Sp C1 11 [eNet ps, .int .i64 i] (.tup [eNet ps, eZ, .int .i64 7]) := by
  have hc : chkE ps = 0 := by unfold chkE; rw [h]; rfl
  have hk := check2_sp ps
  rw [hc] at hk
  have hl : ps.length ≤ 4096 := by unfold okNet at h; simp at h; exact h.1
  refine sp_tree draws (dm := [0]) (fs := [fN, .of .keep, .of .keep]) (
    .rw 8004 [] [(4, V.ptr (List.length [Blk.cells [V.imm false (3 : Nat) (List.map ePk ps)] (24 : Nat)]) (0 : Nat), V.ptr (1 : Nat) (0 : Nat))] <| .rw 8005 [] [(5, V.ptr (List.length [Blk.cells [V.imm false (3 : Nat) (List.map ePk ps)] (24 : Nat), Blk.cells [V.nils] (24 : Nat)]) (0 : Nat), V.ptr ((1 : Nat) + (1 : Nat)) (0 : Nat))] <| .call 8 19 ([eNet ps]) (V.int IntKind.i64 (0 : Int)) <| .ite 1015 (decide (i < (0 : Int)) == false)
    (.rw 8015 [] [(13, V.bool (decide (i < (0 : Int))), V.bool false)] <| .tt 1016 (decide (i < (0 : Int)) == false) <| .tt 1017 (decide (i < (0 : Int)) == false) <| .tt 1018 (decide (i < (0 : Int)) == false) <| .rw 8018 [] [(18, V.int IntKind.i64 (↑(List.length (List.map ePk ps)) : Int), V.int IntKind.i64 (↑(List.length ps) : Int))] <| .tt 1019 (decide (i < (0 : Int)) == false) <| .rw 8019 [] [(19, V.bool (decide (i ≥ (↑(List.length ps) : Int))), V.bool true)] <| .ff 20 (decide (i < (0 : Int))) <| .call 22 7 ([eNet ps]) (eNl ps) <| .ret (V.tup [V.agg [V.imm false (3 : Nat) (List.map ePk ps)], V.agg [V.int IntKind.i64 (0 : Int), V.int IntKind.i64 (0 : Int), V.str (ByteArray.mk #[])], V.int IntKind.i64 (7 : Int)]))
    (.ff 1016 (decide (i < (0 : Int)) == false) <| .ff 1017 (decide (i < (0 : Int)) == false) <| .ff 1018 (decide (i < (0 : Int)) == false) <| .ff 1019 (decide (i < (0 : Int)) == false) <| .tt 20 (decide (i < (0 : Int))) <| .call 22 7 ([eNet ps]) (eNl ps) <| .ret (V.tup [V.agg [V.imm false (3 : Nat) (List.map ePk ps)], V.agg [V.int IntKind.i64 (0 : Int), V.int IntKind.i64 (0 : Int), V.str (ByteArray.mk #[])], V.int IntKind.i64 (7 : Int)]))) (by kernel_rfl) ?_
  exact ⟨⟨trivial, ⟨by simp (disch := omega) only [List.length_cons, List.length_nil, Nat.zero_add], trivial⟩⟩, ⟨⟨trivial, ⟨by simp (disch := omega) only [List.length_cons, List.length_nil, Nat.zero_add], trivial⟩⟩, ⟨(hk), ⟨fun h0 => have h0p : (0 : Int) ≤ i := (by simpa using h0); ⟨⟨trivial, ⟨congrArg V.bool (by (simp <;> omega)), trivial⟩⟩, ⟨(h0), ⟨(h0), ⟨(h0), ⟨⟨trivial, ⟨by simp (disch := omega) only [List.length_map], trivial⟩⟩, ⟨(h0), ⟨⟨trivial, ⟨congrArg V.bool (by (simp <;> omega)), trivial⟩⟩, ⟨by (simp <;> omega), ⟨(Go.Fw.own2_sp _ (by omega)), rfl⟩⟩⟩⟩⟩⟩⟩⟩⟩,
    fun h0 => have h0p : i < (0 : Int) := (by simpa using h0); ⟨(h0), ⟨(h0), ⟨(h0), ⟨(h0), ⟨by (simp <;> omega), ⟨(Go.Fw.own2_sp _ (by omega)), rfl⟩⟩⟩⟩⟩⟩⟩⟩⟩⟩
end Go.Fw
