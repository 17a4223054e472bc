/- Net: Send; what is alike. -/
import Derived.Test.YtcobacfinalleaaNetC
set_option linter.all false
set_option maxHeartbeats 20000000
namespace Go.Fw
open Go.Proofs
theorem send_state (ps : List Pk) (f t : Int) (s : ByteArray) (h : okNet ps = false) : Sp C1 8 [eNet ps, .int .i64 f, .int .i64 t, .str s] (.tup [eNet [], .int .i64 6]) := by
  have hc : chkE ps = 6 := by unfold chkE; rw [h]; rfl
  have hk := check_sp ps
  rw [hc] at hk
  refine sp_tree draws (dm := [0]) (fs := [fN, .of .keep]) (
    .rw 8008 [] [(8, V.ptr (List.length [Blk.cells [V.imm false (3 : Nat) (List.map ePk ps)] (24 : Nat)]) (0 : Nat), V.ptr (1 : Nat) (0 : Nat))] <| .call 12 18 ([eNet ps]) (V.int IntKind.i64 (6 : Int)) <| .ret (V.tup [V.agg [V.imm false (3 : Nat) []], V.int IntKind.i64 (6 : Int)])) (by kernel_rfl) ?_
  exact ⟨⟨trivial, ⟨by simp (disch := omega) only [List.length_cons, List.length_nil, Nat.zero_add], trivial⟩⟩, ⟨(hk), rfl⟩⟩
def sendE (ps : List Pk) (f t : Int) (s : ByteArray) : Int := if okNet ps = false then 6 else if okN f = false ∨ okN t = false then 2 else if 65536 < s.size then 4 else if 4096 ≤ ps.length then 8 else 0
theorem send_range (ps : List Pk) (f t : Int) (s : ByteArray) (h : okNet ps = true) (hb : okN f = false ∨ okN t = false) : Sp C1 8 [eNet ps, .int .i64 f, .int .i64 t, .str s] (.tup [eNet ps, .int .i64 2]) := by
  have hc : chkE ps = 0 := by unfold chkE; rw [h]; rfl
  have hk := check_sp ps
  rw [hc] at hk
  have hl : ps.length ≤ 4096 := by unfold okNet at h; simp at h; exact h.1
  refine sp_tree draws (dm := [0]) (fs := [fN, .of .keep]) (
    .rw 8008 [] [(8, V.ptr (List.length [Blk.cells [V.imm false (3 : Nat) (List.map ePk ps)] (24 : Nat)]) (0 : Nat), V.ptr (1 : Nat) (0 : Nat))] <| .call 12 18 ([eNet ps]) (V.int IntKind.i64 (0 : Int)) <| .call 17 21 ([V.int IntKind.i64 f]) (V.bool (okN f)) <| .ite 1020 ((!okN f) == false)
    (.rw 8020 [] [(17, V.bool (okN f), V.bool true), (18, V.bool !okN f, V.bool false)] <| .tt 1021 ((!okN f) == false) <| .call 21 21 ([V.int IntKind.i64 t]) (V.bool (okN t)) <| .rw 8021 [] [(21, V.bool (okN t), V.bool false)] <| .tt 1022 ((!okN f) == false) <| .ff 23 (!okN f) <| .call 25 22 ([eNet ps]) (eNl ps) <| .ret (V.tup [V.agg [V.imm false (3 : Nat) (List.map ePk ps)], V.int IntKind.i64 (2 : Int)]))
    (.ff 1021 ((!okN f) == false) <| .ff 1022 ((!okN f) == false) <| .tt 23 (!okN f) <| .call 25 22 ([eNet ps]) (eNl ps) <| .ret (V.tup [V.agg [V.imm false (3 : Nat) (List.map ePk ps)], V.int IntKind.i64 (2 : Int)]))) (by kernel_rfl) ?_
  exact ⟨⟨trivial, ⟨by simp (disch := omega) only [List.length_cons, List.length_nil, Nat.zero_add], trivial⟩⟩, ⟨(hk), ⟨(Go.Fw.node_sp _), ⟨fun h0 => have h0p : okN f = true := (by simpa using h0); ⟨⟨trivial, ⟨congrArg V.bool (h0p), ⟨congrArg V.bool (by simp_all), trivial⟩⟩⟩, ⟨(h0), ⟨(Go.Fw.node_sp _), ⟨⟨trivial, ⟨congrArg V.bool (by simp_all), trivial⟩⟩, ⟨(h0), ⟨by simp_all, ⟨(Go.Fw.own_sp _ (by omega)), rfl⟩⟩⟩⟩⟩⟩⟩,
    fun h0 => have h0p : okN f = false := (by simpa using h0); ⟨(h0), ⟨(h0), ⟨by simp_all, ⟨(Go.Fw.own_sp _ (by omega)), rfl⟩⟩⟩⟩⟩⟩⟩⟩
theorem send_long (ps : List Pk) (f t : Int) (s : ByteArray) (h : okNet ps = true) (hf : okN f = true) (ht : okN t = true) (hs : 65536 < s.size) : Sp C1 8 [eNet ps, .int .i64 f, .int .i64 t, .str s] (.tup [eNet ps, .int .i64 4]) := by
  have hc : chkE ps = 0 := by unfold chkE; rw [h]; rfl
  have hk := check_sp ps
  rw [hc] at hk
  have hl : ps.length ≤ 4096 := by unfold okNet at h; simp at h; exact h.1
  refine sp_tree draws (dm := [0]) (fs := [fN, .of .keep]) (
    .rw 8008 [] [(8, V.ptr (List.length [Blk.cells [V.imm false (3 : Nat) (List.map ePk ps)] (24 : Nat)]) (0 : Nat), V.ptr (1 : Nat) (0 : Nat))] <| .call 12 18 ([eNet ps]) (V.int IntKind.i64 (0 : Int)) <| .call 17 21 ([V.int IntKind.i64 f]) (V.bool (okN f)) <| .rw 8017 [] [(17, V.bool (okN f), V.bool true)] <| .call 21 21 ([V.int IntKind.i64 t]) (V.bool (okN t)) <| .rw 8021 [] [(21, V.bool (okN t), V.bool true)] <| .rw 8029 [] [(29, V.bool (decide ((↑(ByteArray.size s) : Int) > (65536 : Int))), V.bool true)] <| .call 31 22 ([eNet ps]) (eNl ps) <| .ret (V.tup [V.agg [V.imm false (3 : Nat) (List.map ePk ps)], V.int IntKind.i64 (4 : Int)])) (by kernel_rfl) ?_
  exact ⟨⟨trivial, ⟨by simp (disch := omega) only [List.length_cons, List.length_nil, Nat.zero_add], trivial⟩⟩, ⟨(hk), ⟨(Go.Fw.node_sp _), ⟨⟨trivial, ⟨congrArg V.bool (hf), trivial⟩⟩, ⟨(Go.Fw.node_sp _), ⟨⟨trivial, ⟨congrArg V.bool (ht), trivial⟩⟩, ⟨⟨trivial, ⟨congrArg V.bool (by (simp <;> omega)), trivial⟩⟩, ⟨(Go.Fw.own_sp _ (by omega)), rfl⟩⟩⟩⟩⟩⟩⟩⟩
theorem send_full (ps : List Pk) (f t : Int) (s : ByteArray) (h : okNet ps = true) (hf : okN f = true) (ht : okN t = true) (hs : s.size ≤ 65536) (hm : 4096 ≤ ps.length) : Sp C1 8 [eNet ps, .int .i64 f, .int .i64 t, .str s] (.tup [eNet ps, .int .i64 8]) := by
  have hc : chkE ps = 0 := by unfold chkE; rw [h]; rfl
  have hk := check_sp ps
  rw [hc] at hk
  have hl : ps.length ≤ 4096 := by unfold okNet at h; simp at h; exact h.1
  have hw := with_full ps ⟨f, t, s⟩ (by omega) hm
  refine sp_tree draws (dm := [0]) (fs := [fN, .of .keep]) (
    .rw 8008 [] [(8, V.ptr (List.length [Blk.cells [V.imm false (3 : Nat) (List.map ePk ps)] (24 : Nat)]) (0 : Nat), V.ptr (1 : Nat) (0 : Nat))] <| .call 12 18 ([eNet ps]) (V.int IntKind.i64 (0 : Int)) <| .call 17 21 ([V.int IntKind.i64 f]) (V.bool (okN f)) <| .rw 8017 [] [(17, V.bool (okN f), V.bool true)] <| .call 21 21 ([V.int IntKind.i64 t]) (V.bool (okN t)) <| .rw 8021 [] [(21, V.bool (okN t), V.bool true)] <| .rw 8029 [] [(29, V.bool (decide ((↑(ByteArray.size s) : Int) > (65536 : Int))), V.bool false)] <| .call 37 23 ([eNet ps, ePk (Pk.mk f t s)]) (V.tup [eNet ps, V.int IntKind.i64 (8 : Int)]) <| .ret (V.tup [V.agg [V.imm false (3 : Nat) (List.map ePk ps)], V.int IntKind.i64 (8 : Int)])) (by kernel_rfl) ?_
  exact ⟨⟨trivial, ⟨by simp (disch := omega) only [List.length_cons, List.length_nil, Nat.zero_add], trivial⟩⟩, ⟨(hk), ⟨(Go.Fw.node_sp _), ⟨⟨trivial, ⟨congrArg V.bool (hf), trivial⟩⟩, ⟨(Go.Fw.node_sp _), ⟨⟨trivial, ⟨congrArg V.bool (ht), trivial⟩⟩, ⟨⟨trivial, ⟨congrArg V.bool (by (simp <;> omega)), trivial⟩⟩, ⟨(hw), rfl⟩⟩⟩⟩⟩⟩⟩⟩
theorem send_ok (ps : List Pk) (f t : Int) (s : ByteArray) (h : okNet ps = true) (hf : okN f = true) (ht : okN t = true) (hs : s.size ≤ 65536) (hm : ps.length < 4096) : Sp C1 8 [eNet ps, .int .i64 f, .int .i64 t, .str s] (.tup [eNet (ps ++ [⟨f, t, s⟩]), .int .i64 0]) := by
  have hc : chkE ps = 0 := by unfold chkE; rw [h]; rfl
  have hk := check_sp ps
  rw [hc] at hk
  have hw := with_room ps ⟨f, t, s⟩ hm
  refine sp_tree draws (dm := [0]) (fs := [fN, .of .keep]) (
    .rw 8008 [] [(8, V.ptr (List.length [Blk.cells [V.imm false (3 : Nat) (List.map ePk ps)] (24 : Nat)]) (0 : Nat), V.ptr (1 : Nat) (0 : Nat))] <| .call 12 18 ([eNet ps]) (V.int IntKind.i64 (0 : Int)) <| .call 17 21 ([V.int IntKind.i64 f]) (V.bool (okN f)) <| .rw 8017 [] [(17, V.bool (okN f), V.bool true)] <| .call 21 21 ([V.int IntKind.i64 t]) (V.bool (okN t)) <| .rw 8021 [] [(21, V.bool (okN t), V.bool true)] <| .rw 8029 [] [(29, V.bool (decide ((↑(ByteArray.size s) : Int) > (65536 : Int))), V.bool false)] <| .call 37 23 ([eNet ps, ePk (Pk.mk f t s)]) (V.tup [eNet (ps ++ [Pk.mk f t s]), V.int IntKind.i64 (0 : Int)]) <| .ret (V.tup [V.agg [V.imm false (3 : Nat) (List.map ePk (ps ++ [Pk.mk f t s]))], V.int IntKind.i64 (0 : Int)])) (by kernel_rfl) ?_
  exact ⟨⟨trivial, ⟨by simp (disch := omega) only [List.length_cons, List.length_nil, Nat.zero_add], trivial⟩⟩, ⟨(hk), ⟨(Go.Fw.node_sp _), ⟨⟨trivial, ⟨congrArg V.bool (hf), trivial⟩⟩, ⟨(Go.Fw.node_sp _), ⟨⟨trivial, ⟨congrArg V.bool (ht), trivial⟩⟩, ⟨⟨trivial, ⟨congrArg V.bool (by (simp <;> omega)), trivial⟩⟩, ⟨(hw), rfl⟩⟩⟩⟩⟩⟩⟩⟩
theorem send2_state (ps : List Pk) (f t : Int) (s : ByteArray) (h : okNet ps = false) : Sp C1 9 [eNet ps, .int .i64 f, .int .i64 t, .str s] (.tup [eNet [], .int .i64 6]) := by
  have hc : chkE ps = 6 := by unfold chkE; rw [h]; rfl
  have hk := check2_sp ps
  rw [hc] at hk
  refine sp_tree draws (dm := [0]) (fs := [fN, .of .keep]) (
    .rw 8008 [] [(8, V.ptr (List.length [Blk.cells [V.imm false (3 : Nat) (List.map ePk ps)] (24 : Nat)]) (0 : Nat), V.ptr (1 : Nat) (0 : Nat))] <| .call 11 19 ([eNet ps]) (V.int IntKind.i64 (6 : Int)) <| .ret (V.tup [V.agg [V.imm false (3 : Nat) []], V.int IntKind.i64 (6 : Int)])) (by kernel_rfl) ?_
  exact ⟨⟨trivial, ⟨by simp (disch := omega) only [List.length_cons, List.length_nil, Nat.zero_add], trivial⟩⟩, ⟨(hk), rfl⟩⟩
theorem send2_range (ps : List Pk) (f t : Int) (s : ByteArray) (h : okNet ps = true) (hb : okN f = false ∨ okN t = false) : Sp C1 9 [eNet ps, .int .i64 f, .int .i64 t, .str s] (.tup [eNet ps, .int .i64 2]) := by
  have hc : chkE ps = 0 := by unfold chkE; rw [h]; rfl
  have hk := check2_sp ps
  rw [hc] at hk
  have hl : ps.length ≤ 4096 := by unfold okNet at h; simp at h; exact h.1
  refine sp_tree draws (dm := [0]) (fs := [fN, .of .keep]) (
    .rw 8008 [] [(8, V.ptr (List.length [Blk.cells [V.imm false (3 : Nat) (List.map ePk ps)] (24 : Nat)]) (0 : Nat), V.ptr (1 : Nat) (0 : Nat))] <| .call 11 19 ([eNet ps]) (V.int IntKind.i64 (0 : Int)) <| .call 15 7 ([eNet ps]) (eNl ps) <| .call 18 24 ([V.int IntKind.i64 f]) (V.bool (okN f)) <| .ite 1021 ((!okN f) == false)
    (.rw 8021 [] [(18, V.bool (okN f), V.bool true), (19, V.bool !okN f, V.bool false)] <| .tt 1022 ((!okN f) == false) <| .call 22 24 ([V.int IntKind.i64 t]) (V.bool (okN t)) <| .rw 8022 [] [(22, V.bool (okN t), V.bool false)] <| .tt 1023 ((!okN f) == false) <| .ff 24 (!okN f) <| .ret (V.tup [V.agg [V.imm false (3 : Nat) (List.map ePk ps)], V.int IntKind.i64 (2 : Int)]))
    (.ff 1022 ((!okN f) == false) <| .ff 1023 ((!okN f) == false) <| .tt 24 (!okN f) <| .ret (V.tup [V.agg [V.imm false (3 : Nat) (List.map ePk ps)], V.int IntKind.i64 (2 : Int)]))) (by kernel_rfl) ?_
  exact ⟨⟨trivial, ⟨by simp (disch := omega) only [List.length_cons, List.length_nil, Nat.zero_add], trivial⟩⟩, ⟨(hk), ⟨(Go.Fw.own2_sp _ (by omega)), ⟨(Go.Fw.node2_sp _), ⟨fun h0 => have h0p : okN f = true := (by simpa using h0); ⟨⟨trivial, ⟨congrArg V.bool (h0p), ⟨congrArg V.bool (by simp_all), trivial⟩⟩⟩, ⟨(h0), ⟨(Go.Fw.node2_sp _), ⟨⟨trivial, ⟨congrArg V.bool (by simp_all), trivial⟩⟩, ⟨(h0), ⟨by simp_all, rfl⟩⟩⟩⟩⟩⟩,
    fun h0 => have h0p : okN f = false := (by simpa using h0); ⟨(h0), ⟨(h0), ⟨by simp_all, rfl⟩⟩⟩⟩⟩⟩⟩⟩
theorem send2_long (ps : List Pk) (f t : Int) (s : ByteArray) (h : okNet ps = true) (hf : okN f = true) (ht : okN t = true) (hs : 65536 < s.size) : Sp C1 9 [eNet ps, .int .i64 f, .int .i64 t, .str s] (.tup [eNet ps, .int .i64 4]) := by
  have hc : chkE ps = 0 := by unfold chkE; rw [h]; rfl
  have hk := check2_sp ps
  rw [hc] at hk
  have hl : ps.length ≤ 4096 := by unfold okNet at h; simp at h; exact h.1
  refine sp_tree draws (dm := [0]) (fs := [fN, .of .keep]) (
    .rw 8008 [] [(8, V.ptr (List.length [Blk.cells [V.imm false (3 : Nat) (List.map ePk ps)] (24 : Nat)]) (0 : Nat), V.ptr (1 : Nat) (0 : Nat))] <| .call 11 19 ([eNet ps]) (V.int IntKind.i64 (0 : Int)) <| .call 15 7 ([eNet ps]) (eNl ps) <| .call 18 24 ([V.int IntKind.i64 f]) (V.bool (okN f)) <| .rw 8018 [] [(18, V.bool (okN f), V.bool true)] <| .call 22 24 ([V.int IntKind.i64 t]) (V.bool (okN t)) <| .rw 8022 [] [(22, V.bool (okN t), V.bool true)] <| .rw 8029 [] [(29, V.bool (decide ((↑(ByteArray.size s) : Int) > (65536 : Int))), V.bool true)] <| .ret (V.tup [V.agg [V.imm false (3 : Nat) (List.map ePk ps)], V.int IntKind.i64 (4 : Int)])) (by kernel_rfl) ?_
  exact ⟨⟨trivial, ⟨by simp (disch := omega) only [List.length_cons, List.length_nil, Nat.zero_add], trivial⟩⟩, ⟨(hk), ⟨(Go.Fw.own2_sp _ (by omega)), ⟨(Go.Fw.node2_sp _), ⟨⟨trivial, ⟨congrArg V.bool (hf), trivial⟩⟩, ⟨(Go.Fw.node2_sp _), ⟨⟨trivial, ⟨congrArg V.bool (ht), trivial⟩⟩, ⟨⟨trivial, ⟨congrArg V.bool (by (simp <;> omega)), trivial⟩⟩, rfl⟩⟩⟩⟩⟩⟩⟩⟩
theorem send2_full (ps : List Pk) (f t : Int) (s : ByteArray) (h : okNet ps = true) (hf : okN f = true) (ht : okN t = true) (hs : s.size ≤ 65536) (hm : 4096 ≤ ps.length) : Sp C1 9 [eNet ps, .int .i64 f, .int .i64 t, .str s] (.tup [eNet ps, .int .i64 8]) := by
  have hc : chkE ps = 0 := by unfold chkE; rw [h]; rfl
  have hk := check2_sp ps
  rw [hc] at hk
  have hl : ps.length ≤ 4096 := by unfold okNet at h; simp at h; exact h.1
  refine sp_tree draws (dm := [0]) (fs := [fN, .of .keep]) (
    .rw 8008 [] [(8, V.ptr (List.length [Blk.cells [V.imm false (3 : Nat) (List.map ePk ps)] (24 : Nat)]) (0 : Nat), V.ptr (1 : Nat) (0 : Nat))] <| .call 11 19 ([eNet ps]) (V.int IntKind.i64 (0 : Int)) <| .call 15 7 ([eNet ps]) (eNl ps) <| .call 18 24 ([V.int IntKind.i64 f]) (V.bool (okN f)) <| .rw 8018 [] [(18, V.bool (okN f), V.bool true)] <| .call 22 24 ([V.int IntKind.i64 t]) (V.bool (okN t)) <| .rw 8022 [] [(22, V.bool (okN t), V.bool true)] <| .rw 8029 [] [(29, V.bool (decide ((↑(ByteArray.size s) : Int) > (65536 : Int))), V.bool false)] <| .rw 8034 [] [(34, V.int IntKind.i64 (↑(List.length (List.map ePk ps)) : Int), V.int IntKind.i64 (↑(List.length ps) : Int))] <| .rw 8035 [] [(35, V.bool (decide ((↑(List.length ps) : Int) ≥ (4096 : Int))), V.bool true)] <| .ret (V.tup [V.agg [V.imm false (3 : Nat) (List.map ePk ps)], V.int IntKind.i64 (8 : Int)])) (by kernel_rfl) ?_
  exact ⟨⟨trivial, ⟨by simp (disch := omega) only [List.length_cons, List.length_nil, Nat.zero_add], trivial⟩⟩, ⟨(hk), ⟨(Go.Fw.own2_sp _ (by omega)), ⟨(Go.Fw.node2_sp _), ⟨⟨trivial, ⟨congrArg V.bool (hf), trivial⟩⟩, ⟨(Go.Fw.node2_sp _), ⟨⟨trivial, ⟨congrArg V.bool (ht), trivial⟩⟩, ⟨⟨trivial, ⟨congrArg V.bool (by (simp <;> omega)), trivial⟩⟩, ⟨⟨trivial, ⟨by simp (disch := omega) only [List.length_map], trivial⟩⟩, ⟨⟨trivial, ⟨congrArg V.bool (by (simp <;> omega)), trivial⟩⟩, rfl⟩⟩⟩⟩⟩⟩⟩⟩⟩⟩
theorem send2_ok (ps : List Pk) (f t : Int) (s : ByteArray) (h : okNet ps = true) (hf : okN f = true) (ht : okN t = true) (hs : s.size ≤ 65536) (hm : ps.length < 4096) : Sp C1 9 [eNet ps, .int .i64 f, .int .i64 t, .str s] (.tup [eNet (ps ++ [⟨f, t, s⟩]), .int .i64 0]) := by
  have hc : chkE ps = 0 := by unfold chkE; rw [h]; rfl
  have hk := check2_sp ps
  rw [hc] at hk
  refine sp_tree draws (dm := [0]) (fs := [fN, .of .keep]) (
    .rw 8008 [] [(8, V.ptr (List.length [Blk.cells [V.imm false (3 : Nat) (List.map ePk ps)] (24 : Nat)]) (0 : Nat), V.ptr (1 : Nat) (0 : Nat))] <| .call 11 19 ([eNet ps]) (V.int IntKind.i64 (0 : Int)) <| .call 15 7 ([eNet ps]) (eNl ps) <| .call 18 24 ([V.int IntKind.i64 f]) (V.bool (okN f)) <| .rw 8018 [] [(18, V.bool (okN f), V.bool true)] <| .call 22 24 ([V.int IntKind.i64 t]) (V.bool (okN t)) <| .rw 8022 [] [(22, V.bool (okN t), V.bool true)] <| .rw 8029 [] [(29, V.bool (decide ((↑(ByteArray.size s) : Int) > (65536 : Int))), V.bool false)] <| .rw 8034 [] [(34, V.int IntKind.i64 (↑(List.length (List.map ePk ps)) : Int), V.int IntKind.i64 (↑(List.length ps) : Int))] <| .rw 8035 [] [(35, V.bool (decide ((↑(List.length ps) : Int) ≥ (4096 : Int))), V.bool false)] <| .chk 44 (decide ((List.length (List.map ePk ps) + List.length [V.agg [V.int IntKind.i64 f, V.int IntKind.i64 t, V.str s]]) * (32 : Nat) ≤ (140737488355328 : Nat))) <| .ret (V.tup [V.agg [V.imm false (3 : Nat) (List.map ePk ps ++ [V.agg [V.int IntKind.i64 f, V.int IntKind.i64 t, V.str s]])], V.int IntKind.i64 (0 : Int)])) (by kernel_rfl) ?_
  exact ⟨⟨trivial, ⟨by simp (disch := omega) only [List.length_cons, List.length_nil, Nat.zero_add], trivial⟩⟩, ⟨(hk), ⟨(Go.Fw.own2_sp _ (by omega)), ⟨(Go.Fw.node2_sp _), ⟨⟨trivial, ⟨congrArg V.bool (hf), trivial⟩⟩, ⟨(Go.Fw.node2_sp _), ⟨⟨trivial, ⟨congrArg V.bool (ht), trivial⟩⟩, ⟨⟨trivial, ⟨congrArg V.bool (by (simp <;> omega)), trivial⟩⟩, ⟨⟨trivial, ⟨by simp (disch := omega) only [List.length_map], trivial⟩⟩, ⟨⟨trivial, ⟨congrArg V.bool (by (simp <;> omega)), trivial⟩⟩, ⟨by (simp <;> omega), by show _ = _; simp⟩⟩⟩⟩⟩⟩⟩⟩⟩⟩⟩
end Go.Fw
