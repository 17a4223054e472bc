/- Lease: the document's functions (2). -/
import Derived.Test.YtipeadpepapmpaaLeaseD
set_option linter.all false
set_option maxHeartbeats 20000000
namespace Go.Fw
open Go.Proofs
theorem alive2_state (b s : List Int) (now : Int) (h : ¬ Good b s) : Sp C1 15 [eL b s, .int .u64 now] (.tup [eB [], .int .i64 6]) := by
  refine sp_tree draws (dm := []) (fs := [.of (.imm 1), .of .keep]) (
    .call 9 19 ([eL b s]) (V.int IntKind.i64 (6 : Int)) <| .ret (V.tup [V.imm false (1 : Nat) [], V.int IntKind.i64 (6 : Int)])) (by kernel_rfl) ?_
  exact ⟨(Go.Fw.check2_bad _ _ h), rfl⟩
abbrev K15 : List (Nat × Fm) := keeps [1, 2] ++ [(6, .of (.lin 4 1))] ++ keeps [13, 14]
abbrev S15 (b s : List Int) (now : Int) (n i : Nat) (acc : List Bool) : St := mkSt 51 [(1, .int .u64 now), (2, .ptr 0 0), (6, .lin true 4 1 (acc.map V.bool)), (13, .int .i64 (n : Int)), (14, .int .i64 (i : Int))] [.cells [eN b, eN s] 24]
abbrev E15 (b s : List Int) (acc : List Bool) : St := mkSt 51 [(6, .lin true 4 1 (acc.map V.bool))] [.cells [eN b, eN s] 24]
theorem loop15 (b s : List Int) (now : Int) (n : Nat) (h8 : n ≤ 8) (hb : b.length = n) (hs : s.length = n) (hn : U64 now) (hu : ∀ x ∈ s, U64 x) (hub : ∀ x ∈ b, U64 x) : ∀ (k i : Nat) (acc : List Bool), i + k = n → acc.length = i →
    LoopK C1 15 40 K15 (S15 b s now n i acc) (.exit 0) (E15 b s (acc ++ (List.range' i k).map (alv b s now)))
  | 0, i, acc, h, ho => by
    obtain rfl : i = n := by omega
    rw [List.range'_zero, List.map_nil, List.append_nil]
    refine loop_tree draws (kn := K15) (ke := (keeps [6])) (
    .rw 8015 [] [(15, V.bool (decide ((↑i : Int) < (↑i : Int))), V.bool false)] <| .ret ((Ex.exit (0 : Nat), St.mk [V.undef, V.undef, V.undef, V.undef, V.undef, V.undef, V.lin true (4 : Nat) (1 : Nat) (List.map V.bool acc), V.undef, V.undef, V.undef, V.undef, V.undef, V.undef, V.undef, V.undef, V.undef, V.undef, V.undef, V.undef, V.undef, V.undef, V.undef, V.undef, V.undef, V.undef, V.undef, V.undef, V.undef, V.undef, V.undef, V.undef, V.undef, V.undef, V.undef, V.undef, V.undef, V.undef, V.undef, V.undef, V.undef, V.undef, V.undef, V.undef, V.undef, V.undef, V.undef, V.undef, V.undef, V.undef, V.undef, V.undef] [Blk.cells [V.imm false (1 : Nat) (List.map (V.int IntKind.u64) b), V.imm false (1 : Nat) (List.map (V.int IntKind.u64) s)] (24 : Nat)]))) (by kernel_rfl) ?_
    exact ⟨⟨trivial, ⟨congrArg V.bool (by (simp <;> omega)), trivial⟩⟩, ⟨rfl, rfl⟩⟩
  | k + 1, i, acc, h, ho => by
    have ih : ∀ v, v = alv b s now i → LoopK C1 15 40 K15 (S15 b s now n (i + 1) (acc ++ [v])) (.exit 0) (E15 b s (acc ++ (List.range' i (k + 1)).map (alv b s now))) := fun v hv => by
      subst hv
      have := loop15 b s now n h8 hb hs hn hu hub k (i + 1) (acc ++ [alv b s now i]) (by omega) (by simp; omega)
      rw [List.range'_succ, List.map_cons]
      rw [List.append_assoc] at this
      exact this
    obtain ⟨x, hx⟩ : ∃ x, b[i]? = some x := ⟨b[i]'(by omega), List.getElem?_eq_getElem (by omega)⟩
    obtain ⟨y, hy⟩ : ∃ y, s[i]? = some y := ⟨s[i]'(by omega), List.getElem?_eq_getElem (by omega)⟩
    have hyu := hu y (List.mem_of_getElem? hy)
    unfold U64 at hn hyu
    have ea : alv b s now i = (i == 0 || (decide (x ≠ 0) && decide (y ≤ now) && decide (now - y < 8))) := by
      have hxu := (hub x (List.mem_of_getElem? hx)).1
      have : decide (x > 0) = decide (x ≠ 0) := by apply decide_eq_decide.2; omega
      simp [alv, List.getD_eq_getElem?_getD, hx, hy, this]
    refine loop_tree draws (kn := K15) (ke := (keeps [6])) (
    .rw 8015 [] [(15, V.bool (decide ((↑i : Int) < (↑n : Int))), V.bool true)] <| .ite 1021 (((↑i : Int) == (0 : Int)) == false)
    (.rw 8021 [] [(19, V.bool ((↑i : Int) == (0 : Int)), V.bool false)] <| .tt 1022 (((↑i : Int) == (0 : Int)) == false) <| .tt 1023 (((↑i : Int) == (0 : Int)) == false) <| .tt 1024 (((↑i : Int) == (0 : Int)) == false) <| .opt 24 (idx (List.map (V.int IntKind.u64) b) (↑i : Int)) (V.int IntKind.u64 x) <| .tt 1025 (((↑i : Int) == (0 : Int)) == false) <| .tt 1026 (((↑i : Int) == (0 : Int)) == false) <| .tt 1027 (((↑i : Int) == (0 : Int)) == false) <| .ite 1028 ((x != (0 : Int)) == true)
      (.rw 8028 [] [(20, V.bool ((↑i : Int) == (0 : Int)), V.bool false), (26, V.bool (x != (0 : Int)), V.bool true)] <| .tt 1029 ((x != (0 : Int)) == true) <| .tt 1030 ((x != (0 : Int)) == true) <| .tt 1031 ((x != (0 : Int)) == true) <| .opt 31 (idx (List.map (V.int IntKind.u64) s) (↑i : Int)) (V.int IntKind.u64 y) <| .tt 1032 ((x != (0 : Int)) == true) <| .tt 1033 ((x != (0 : Int)) == true) <| .tt 1034 ((x != (0 : Int)) == true) <| .tt 35 (x != (0 : Int)) <| .ite 1037 (decide (y ≤ now) == true)
        (.rw 8037 [] [(27, V.bool (x != (0 : Int)), V.bool true), (34, V.bool (decide (y ≤ now)), V.bool true)] <| .tt 1038 (decide (y ≤ now) == true) <| .tt 1039 (decide (y ≤ now) == true) <| .tt 1040 (decide (y ≤ now) == true) <| .tt 1041 (decide (y ≤ now) == true) <| .opt 41 (idx (List.map (V.int IntKind.u64) s) (↑i : Int)) (V.int IntKind.u64 y) <| .tt 1042 (decide (y ≤ now) == true) <| .tt 1043 (decide (y ≤ now) == true) <| .rw 8043 [] [(43, V.int IntKind.u64 (IntKind.wrap IntKind.u64 (now - y)), V.int IntKind.u64 (now - y))] <| .tt 1044 (decide (y ≤ now) == true) <| .tt 45 (decide (y ≤ now)) <| .chk 48 (decide ((List.length (List.map V.bool acc) + List.length [V.bool (decide (now - y < (8 : Int)))]) * (1 : Nat) ≤ (140737488355328 : Nat))) <| .rw 8048 [] [(48, V.lin true (4 : Nat) (1 : Nat) (List.map V.bool acc ++ [V.bool (decide (now - y < (8 : Int)))]), V.lin true (4 : Nat) (1 : Nat) (List.map V.bool (acc ++ [decide (now - y < (8 : Int))])))] <| .rw 8049 [] [(49, V.int IntKind.i64 (IntKind.wrap IntKind.i64 ((↑i : Int) + (1 : Int))), V.int IntKind.i64 (↑(i + (1 : Nat)) : Int))] <| .ret (.normal, S15 b s now n (i + (1 : Nat)) (acc ++ [decide (now - y < (8 : Int))])))
        (.ff 1038 (decide (y ≤ now) == true) <| .ff 1039 (decide (y ≤ now) == true) <| .ff 1040 (decide (y ≤ now) == true) <| .ff 1041 (decide (y ≤ now) == true) <| .ff 1042 (decide (y ≤ now) == true) <| .ff 1043 (decide (y ≤ now) == true) <| .ff 1044 (decide (y ≤ now) == true) <| .ff 45 (decide (y ≤ now)) <| .chk 48 (decide ((List.length (List.map V.bool acc) + (1 : Nat)) * (1 : Nat) ≤ (140737488355328 : Nat))) <| .rw 8048 [] [(48, V.lin true (4 : Nat) (1 : Nat) (List.map V.bool acc ++ [V.bool false]), V.lin true (4 : Nat) (1 : Nat) (List.map V.bool (acc ++ [false])))] <| .rw 8049 [] [(49, V.int IntKind.i64 (IntKind.wrap IntKind.i64 ((↑i : Int) + (1 : Int))), V.int IntKind.i64 (↑(i + (1 : Nat)) : Int))] <| .ret (.normal, S15 b s now n (i + (1 : Nat)) (acc ++ [false]))))
      (.ff 1029 ((x != (0 : Int)) == true) <| .ff 1030 ((x != (0 : Int)) == true) <| .ff 1031 ((x != (0 : Int)) == true) <| .ff 1032 ((x != (0 : Int)) == true) <| .ff 1033 ((x != (0 : Int)) == true) <| .ff 1034 ((x != (0 : Int)) == true) <| .tt 1035 (((↑i : Int) == (0 : Int)) == false) <| .ff 35 (x != (0 : Int)) <| .tt 1036 (((↑i : Int) == (0 : Int)) == false) <| .tt 1045 (((↑i : Int) == (0 : Int)) == false) <| .ff 46 ((↑i : Int) == (0 : Int)) <| .chk 48 (decide ((List.length (List.map V.bool acc) + (1 : Nat)) * (1 : Nat) ≤ (140737488355328 : Nat))) <| .rw 8048 [] [(48, V.lin true (4 : Nat) (1 : Nat) (List.map V.bool acc ++ [V.bool false]), V.lin true (4 : Nat) (1 : Nat) (List.map V.bool (acc ++ [false])))] <| .rw 8049 [] [(49, V.int IntKind.i64 (IntKind.wrap IntKind.i64 ((↑i : Int) + (1 : Int))), V.int IntKind.i64 (↑(i + (1 : Nat)) : Int))] <| .ret (.normal, S15 b s now n (i + (1 : Nat)) (acc ++ [false]))))
    (.ff 1022 (((↑i : Int) == (0 : Int)) == false) <| .ff 1023 (((↑i : Int) == (0 : Int)) == false) <| .ff 1024 (((↑i : Int) == (0 : Int)) == false) <| .ff 1025 (((↑i : Int) == (0 : Int)) == false) <| .ff 1026 (((↑i : Int) == (0 : Int)) == false) <| .ff 1027 (((↑i : Int) == (0 : Int)) == false) <| .ff 1035 (((↑i : Int) == (0 : Int)) == false) <| .ff 1036 (((↑i : Int) == (0 : Int)) == false) <| .ff 1045 (((↑i : Int) == (0 : Int)) == false) <| .tt 46 ((↑i : Int) == (0 : Int)) <| .chk 48 (decide ((List.length (List.map V.bool acc) + (1 : Nat)) * (1 : Nat) ≤ (140737488355328 : Nat))) <| .rw 8048 [] [(48, V.lin true (4 : Nat) (1 : Nat) (List.map V.bool acc ++ [V.bool true]), V.lin true (4 : Nat) (1 : Nat) (List.map V.bool (acc ++ [true])))] <| .rw 8049 [] [(49, V.int IntKind.i64 (IntKind.wrap IntKind.i64 ((↑i : Int) + (1 : Int))), V.int IntKind.i64 (↑(i + (1 : Nat)) : Int))] <| .ret (.normal, S15 b s now n (i + (1 : Nat)) (acc ++ [true])))) (by kernel_rfl) ?_
    exact ⟨⟨trivial, ⟨congrArg V.bool (by (simp <;> omega)), trivial⟩⟩, ⟨fun h0 => have h0p : ¬i = (0 : Nat) := (by simpa using h0); ⟨⟨trivial, ⟨congrArg V.bool (by (simp <;> omega)), trivial⟩⟩, ⟨(h0), ⟨(h0), ⟨(h0), ⟨(Go.Fw.idx_map _ hx), ⟨(h0), ⟨(h0), ⟨(h0), ⟨fun h1 => have h1p : ¬x = (0 : Int) := (by simpa using h1); ⟨⟨trivial, ⟨congrArg V.bool (by (simp <;> omega)), ⟨congrArg V.bool (by (simp <;> omega)), trivial⟩⟩⟩, ⟨(h1), ⟨(h1), ⟨(h1), ⟨(Go.Fw.idx_map _ hy), ⟨(h1), ⟨(h1), ⟨(h1), ⟨by (simp <;> omega), ⟨fun h2 => have h2p : y ≤ now := (by simpa using h2); ⟨⟨trivial, ⟨congrArg V.bool (by (simp <;> omega)), ⟨congrArg V.bool (by (simp <;> omega)), trivial⟩⟩⟩, ⟨(h2), ⟨(h2), ⟨(h2), ⟨(h2), ⟨(Go.Fw.idx_map _ hy), ⟨(h2), ⟨(h2), ⟨⟨trivial, ⟨by simp (disch := omega) only [Go.Fw.wrap_u64], trivial⟩⟩, ⟨(h2), ⟨by (simp <;> omega), ⟨by (simp <;> omega), ⟨⟨trivial, ⟨by simp (disch := omega) only [Go.Fw.app_bool], trivial⟩⟩, ⟨⟨trivial, ⟨by simp (disch := omega) only [Go.Fw.cast_succ, Go.Fw.wrap_i64], trivial⟩⟩, (ih _ (by simp_all))⟩⟩⟩⟩⟩⟩⟩⟩⟩⟩⟩⟩⟩⟩,
        fun h2 => have h2p : now < y := (by simpa using h2); ⟨(h2), ⟨(h2), ⟨(h2), ⟨(h2), ⟨(h2), ⟨(h2), ⟨(h2), ⟨by (simp <;> omega), ⟨by (simp <;> omega), ⟨⟨trivial, ⟨by simp (disch := omega) only [Go.Fw.app_bool], trivial⟩⟩, ⟨⟨trivial, ⟨by simp (disch := omega) only [Go.Fw.cast_succ, Go.Fw.wrap_i64], trivial⟩⟩, (ih _ (by (simp_all <;> omega)))⟩⟩⟩⟩⟩⟩⟩⟩⟩⟩⟩⟩⟩⟩⟩⟩⟩⟩⟩⟩⟩,
      fun h1 => have h1p : x = (0 : Int) := (by simpa using h1); ⟨(h1), ⟨(h1), ⟨(h1), ⟨(h1), ⟨(h1), ⟨(h1), ⟨(h0), ⟨by (simp <;> omega), ⟨(h0), ⟨(h0), ⟨by (simp <;> omega), ⟨by (simp <;> omega), ⟨⟨trivial, ⟨by simp (disch := omega) only [Go.Fw.app_bool], trivial⟩⟩, ⟨⟨trivial, ⟨by simp (disch := omega) only [Go.Fw.cast_succ, Go.Fw.wrap_i64], trivial⟩⟩, (ih _ (by simp_all))⟩⟩⟩⟩⟩⟩⟩⟩⟩⟩⟩⟩⟩⟩⟩⟩⟩⟩⟩⟩⟩⟩⟩,
    fun h0 => have h0p : i = (0 : Nat) := (by simpa using h0); ⟨(h0), ⟨(h0), ⟨(h0), ⟨(h0), ⟨(h0), ⟨(h0), ⟨(h0), ⟨(h0), ⟨(h0), ⟨by (simp <;> omega), ⟨by (simp <;> omega), ⟨⟨trivial, ⟨by simp (disch := omega) only [Go.Fw.app_bool], trivial⟩⟩, ⟨⟨trivial, ⟨by simp (disch := omega) only [Go.Fw.cast_succ, Go.Fw.wrap_i64], trivial⟩⟩, (ih _ (by simp_all))⟩⟩⟩⟩⟩⟩⟩⟩⟩⟩⟩⟩⟩⟩⟩
theorem alive2_ok (b s : List Int) (now : Int) (h : b.length = s.length) (h2 : 2 ≤ b.length) (h8 : b.length ≤ 8) (hn : U64 now) (hu : ∀ x ∈ s, U64 x) (hub : ∀ x ∈ b, U64 x) : Sp C1 15 [eL b s, .int .u64 now] (.tup [eB ((List.range b.length).map (alv b s now)), .int .i64 0]) := by
  have hl : LoopK C1 15 40 K15 (S15 b s now b.length 0 []) (.exit 0) (E15 b s ((List.range b.length).map (alv b s now))) := by
    have := loop15 b s now b.length h8 rfl h.symm hn hu hub b.length 0 [] (by omega) rfl
    rw [List.nil_append, ← List.range_eq_range'] at this
    exact this
  refine sp_tree draws (dm := [0]) (fs := [.of (.imm 1), .of .keep]) (
    .call 9 19 ([eL b s]) (V.int IntKind.i64 (0 : Int)) <| .rw 8013 [] [(13, V.int IntKind.i64 (↑(List.length (List.map (V.int IntKind.u64) b)) : Int), V.int IntKind.i64 (↑(List.length b) : Int))] <| .loop 40 (K15) (S15 b s now (List.length b) (0 : Nat) []) (Ex.exit (0 : Nat)) (E15 b s (List.map (alv b s now) (List.range (List.length b)))) <| .ret (V.tup [V.imm false (1 : Nat) (List.map V.bool (List.map (alv b s now) (List.range (List.length b)))), V.int IntKind.i64 (0 : Int)])) (by kernel_rfl) ?_
  exact ⟨(Go.Fw.check2_ok _ _ h h2 h8), ⟨⟨trivial, ⟨by simp (disch := omega) only [List.length_map], trivial⟩⟩, ⟨(hl), rfl⟩⟩⟩
abbrev S35 (a b : List Int) (n i : Nat) : St := mkSt 26 [(0, eN a), (1, eN b), (12, .int .i64 (n : Int)), (13, .int .i64 (i : Int))] []
theorem loop35_eq (a b : List Int) (n : Nat) (hn : a.length = n) (hb : b.length = n) (h47 : n * 8 ≤ 2 ^ 47) : ∀ (k i : Nat), i + k = n → (∀ j, i ≤ j → a[j]? = b[j]?) →
    LoopK C1 35 32 (keeps [0, 1, 12, 13]) (S35 a b n i) (.exit 0) (mkSt 26 [] [])
  | 0, i, h, he => by
    obtain rfl : i = n := by omega
    refine loop_tree draws (kn := (keeps [0, 1, 12, 13])) (ke := (keeps [4])) (
    .rw 8014 [] [(14, V.bool (decide ((↑i : Int) < (↑i : Int))), V.bool false)] <| .ret ((Ex.exit (0 : Nat), St.mk [V.undef, V.undef, V.undef, V.undef, V.undef, V.undef, V.undef, V.undef, V.undef, V.undef, V.undef, V.undef, V.undef, V.undef, V.undef, V.undef, V.undef, V.undef, V.undef, V.undef, V.undef, V.undef, V.undef, V.undef, V.undef, V.undef] []))) (by kernel_rfl) ?_
    exact ⟨⟨trivial, ⟨congrArg V.bool (by (simp <;> omega)), trivial⟩⟩, ⟨rfl, rfl⟩⟩
  | k + 1, i, h, he => by
    have ih := loop35_eq a b n hn hb h47 k (i + 1) (by omega) (fun j hj => he j (by omega))
    obtain ⟨x, hx⟩ : ∃ x, a[i]? = some x := ⟨a[i]'(by omega), List.getElem?_eq_getElem (by omega)⟩
    have hy : b[i]? = some x := (he i (Nat.le_refl _)).symm.trans hx
    refine loop_tree draws (kn := (keeps [0, 1, 12, 13])) (ke := (keeps [4])) (
    .rw 8014 [] [(14, V.bool (decide ((↑i : Int) < (↑n : Int))), V.bool true)] <| .opt 18 (idx (List.map (V.int IntKind.u64) a) (↑i : Int)) (V.int IntKind.u64 x) <| .opt 22 (idx (List.map (V.int IntKind.u64) b) (↑i : Int)) (V.int IntKind.u64 x) <| .rw 8024 [] [(24, V.bool (x != x), V.bool false)] <| .rw 8025 [] [(25, V.int IntKind.i64 (IntKind.wrap IntKind.i64 ((↑i : Int) + (1 : Int))), V.int IntKind.i64 (↑(i + (1 : Nat)) : Int))] <| .ret (.normal, S35 a b n (i + (1 : Nat)))) (by kernel_rfl) ?_
    exact ⟨⟨trivial, ⟨congrArg V.bool (by (simp <;> omega)), trivial⟩⟩, ⟨(Go.Fw.idx_map _ hx), ⟨(Go.Fw.idx_map _ hy), ⟨⟨trivial, ⟨congrArg V.bool (by (simp <;> omega)), trivial⟩⟩, ⟨⟨trivial, ⟨by simp (disch := omega) only [Go.Fw.cast_succ, Go.Fw.wrap_i64], trivial⟩⟩, (ih)⟩⟩⟩⟩⟩
theorem loop35_ne (a b : List Int) (n : Nat) (hn : a.length = n) (hb : b.length = n) (h47 : n * 8 ≤ 2 ^ 47) : ∀ (k i : Nat), i + k = n → (∃ j, i ≤ j ∧ a[j]? ≠ b[j]?) →
    LoopK C1 35 32 (keeps [0, 1, 12, 13]) (S35 a b n i) .ret (mkSt 26 [(4, .bool false)] [])
  | 0, i, h, he => by
    obtain ⟨j, h1, h2⟩ := he
    rw [List.getElem?_eq_none (by omega), List.getElem?_eq_none (by omega)] at h2
    exact absurd rfl h2
  | k + 1, i, h, he => by
    obtain ⟨x, hx⟩ : ∃ x, a[i]? = some x := ⟨a[i]'(by omega), List.getElem?_eq_getElem (by omega)⟩
    obtain ⟨y, hy⟩ : ∃ y, b[i]? = some y := ⟨b[i]'(by omega), List.getElem?_eq_getElem (by omega)⟩
    by_cases hxy : x = y
    · subst hxy
      have ih := loop35_ne a b n hn hb h47 k (i + 1) (by omega) (by
        obtain ⟨j, h1, h2⟩ := he
        refine ⟨j, ?_, h2⟩
        rcases Nat.eq_or_lt_of_le h1 with e | e
        · subst e; exact absurd (hx.trans hy.symm) h2
        · exact e)
      refine loop_tree draws (kn := (keeps [0, 1, 12, 13])) (ke := (keeps [4])) (
    .rw 8014 [] [(14, V.bool (decide ((↑i : Int) < (↑n : Int))), V.bool true)] <| .opt 18 (idx (List.map (V.int IntKind.u64) a) (↑i : Int)) (V.int IntKind.u64 x) <| .opt 22 (idx (List.map (V.int IntKind.u64) b) (↑i : Int)) (V.int IntKind.u64 x) <| .rw 8024 [] [(24, V.bool (x != x), V.bool false)] <| .rw 8025 [] [(25, V.int IntKind.i64 (IntKind.wrap IntKind.i64 ((↑i : Int) + (1 : Int))), V.int IntKind.i64 (↑(i + (1 : Nat)) : Int))] <| .ret (.normal, S35 a b n (i + (1 : Nat)))) (by kernel_rfl) ?_
      exact ⟨⟨trivial, ⟨congrArg V.bool (by (simp <;> omega)), trivial⟩⟩, ⟨(Go.Fw.idx_map _ hx), ⟨(Go.Fw.idx_map _ hy), ⟨⟨trivial, ⟨congrArg V.bool (by (simp <;> omega)), trivial⟩⟩, ⟨⟨trivial, ⟨by simp (disch := omega) only [Go.Fw.cast_succ, Go.Fw.wrap_i64], trivial⟩⟩, (ih)⟩⟩⟩⟩⟩
    · refine loop_tree draws (kn := (keeps [0, 1, 12, 13])) (ke := (keeps [4])) (
    .rw 8014 [] [(14, V.bool (decide ((↑i : Int) < (↑n : Int))), V.bool true)] <| .opt 18 (idx (List.map (V.int IntKind.u64) a) (↑i : Int)) (V.int IntKind.u64 x) <| .opt 22 (idx (List.map (V.int IntKind.u64) b) (↑i : Int)) (V.int IntKind.u64 y) <| .rw 8024 [] [(24, V.bool (x != y), V.bool true)] <| .ret ((Ex.ret, St.mk [V.undef, V.undef, V.undef, V.undef, V.bool false, V.undef, V.undef, V.undef, V.undef, V.undef, V.undef, V.undef, V.undef, V.undef, V.undef, V.undef, V.undef, V.undef, V.undef, V.undef, V.undef, V.undef, V.undef, V.undef, V.undef, V.undef] []))) (by kernel_rfl) ?_
      exact ⟨⟨trivial, ⟨congrArg V.bool (by (simp <;> omega)), trivial⟩⟩, ⟨(Go.Fw.idx_map _ hx), ⟨(Go.Fw.idx_map _ hy), ⟨⟨trivial, ⟨congrArg V.bool (by (simp <;> omega)), trivial⟩⟩, ⟨rfl, rfl⟩⟩⟩⟩⟩
theorem numbers_len (a b : List Int) (h : a.length ≠ b.length) : Sp C1 35 [eN a, eN b] (.bool false) := by
  refine sp_tree draws (dm := []) (fs := []) (
    .rw 8007 [] [(7, V.int IntKind.i64 (↑(List.length (List.map (V.int IntKind.u64) a)) : Int), V.int IntKind.i64 (↑(List.length a) : Int))] <| .rw 8009 [] [(9, V.int IntKind.i64 (↑(List.length (List.map (V.int IntKind.u64) b)) : Int), V.int IntKind.i64 (↑(List.length b) : Int))] <| .rw 8010 [] [(10, V.bool ((↑(List.length a) : Int) != (↑(List.length b) : Int)), V.bool true)] <| .ret (V.bool false)) (by kernel_rfl) ?_
  exact ⟨⟨trivial, ⟨by simp (disch := omega) only [List.length_map], trivial⟩⟩, ⟨⟨trivial, ⟨by simp (disch := omega) only [List.length_map], trivial⟩⟩, ⟨⟨trivial, ⟨congrArg V.bool (by (simp <;> omega)), trivial⟩⟩, rfl⟩⟩⟩
theorem numbers_eq (a : List Int) (h47 : a.length * 8 ≤ 2 ^ 47) : Sp C1 35 [eN a, eN a] (.bool true) := by
  have hl := loop35_eq a a a.length rfl rfl h47 a.length 0 (by omega) (fun _ _ => rfl)
  refine sp_tree draws (dm := []) (fs := []) (
    .rw 8007 [] [(7, V.int IntKind.i64 (↑(List.length (List.map (V.int IntKind.u64) a)) : Int), V.int IntKind.i64 (↑(List.length a) : Int))] <| .rw 8009 [] [(9, V.int IntKind.i64 (↑(List.length (List.map (V.int IntKind.u64) a)) : Int), V.int IntKind.i64 (↑(List.length a) : Int))] <| .rw 8010 [] [(10, V.bool ((↑(List.length a) : Int) != (↑(List.length a) : Int)), V.bool false)] <| .rw 8012 [] [(12, V.int IntKind.i64 (↑(List.length (List.map (V.int IntKind.u64) a)) : Int), V.int IntKind.i64 (↑(List.length a) : Int))] <| .loop 32 (keeps [(0 : Nat), (1 : Nat), (12 : Nat), (13 : Nat)]) (S35 a a (List.length a) (0 : Nat)) (Ex.exit (0 : Nat)) (mkSt (26 : Nat) [] []) <| .ret (V.bool true)) (by kernel_rfl) ?_
  exact ⟨⟨trivial, ⟨by simp (disch := omega) only [List.length_map], trivial⟩⟩, ⟨⟨trivial, ⟨by simp (disch := omega) only [List.length_map], trivial⟩⟩, ⟨⟨trivial, ⟨congrArg V.bool (by (simp <;> omega)), trivial⟩⟩, ⟨⟨trivial, ⟨by simp (disch := omega) only [List.length_map], trivial⟩⟩, ⟨(hl), rfl⟩⟩⟩⟩⟩
theorem numbers_ne (a b : List Int) (h : a.length = b.length) (h47 : a.length * 8 ≤ 2 ^ 47) (hne : ∃ j : Nat, a[j]? ≠ b[j]?) : Sp C1 35 [eN a, eN b] (.bool false) := by
  have hl := loop35_ne a b a.length rfl h.symm h47 a.length 0 (by omega) (by obtain ⟨j, h⟩ := hne; exact ⟨j, Nat.zero_le _, h⟩)
  refine sp_tree draws (dm := []) (fs := []) (
    .rw 8007 [] [(7, V.int IntKind.i64 (↑(List.length (List.map (V.int IntKind.u64) a)) : Int), V.int IntKind.i64 (↑(List.length a) : Int))] <| .rw 8009 [] [(9, V.int IntKind.i64 (↑(List.length (List.map (V.int IntKind.u64) b)) : Int), V.int IntKind.i64 (↑(List.length b) : Int))] <| .rw 8010 [] [(10, V.bool ((↑(List.length a) : Int) != (↑(List.length b) : Int)), V.bool false)] <| .rw 8012 [] [(12, V.int IntKind.i64 (↑(List.length (List.map (V.int IntKind.u64) a)) : Int), V.int IntKind.i64 (↑(List.length a) : Int))] <| .loop 32 (keeps [(0 : Nat), (1 : Nat), (12 : Nat), (13 : Nat)]) (S35 a b (List.length a) (0 : Nat)) (Ex.ret) (mkSt (26 : Nat) [((4 : Nat), V.bool false)] []) <| .ret (V.bool false)) (by kernel_rfl) ?_
  exact ⟨⟨trivial, ⟨by simp (disch := omega) only [List.length_map], trivial⟩⟩, ⟨⟨trivial, ⟨by simp (disch := omega) only [List.length_map], trivial⟩⟩, ⟨⟨trivial, ⟨congrArg V.bool (by (simp <;> omega)), trivial⟩⟩, ⟨⟨trivial, ⟨by simp (disch := omega) only [List.length_map], trivial⟩⟩, ⟨(hl), rfl⟩⟩⟩⟩⟩
theorem numbers_sp (a b : List Int) (h47 : a.length * 8 ≤ 2 ^ 47) : Sp C1 35 [eN a, eN b] (.bool (decide (a = b))) := by
  by_cases h : a = b
  · subst h; rw [decide_eq_true rfl]; exact numbers_eq a h47
  · rw [decide_eq_false h]
    by_cases hl : a.length = b.length
    · refine numbers_ne a b hl h47 ?_
      apply Classical.byContradiction
      intro hn
      exact h (List.ext_getElem? (fun j => Classical.byContradiction fun hj => hn ⟨j, hj⟩))
    · exact numbers_len a b hl
theorem same_sp (a b c d : List Int) (ha : a.length * 8 ≤ 2 ^ 47) (hb : b.length * 8 ≤ 2 ^ 47) : Sp C1 17 [eL a b, eL c d] (.bool (decide (a = c) && decide (b = d))) := by
  refine sp_tree draws (dm := []) (fs := []) (
    .rw 8003 [] [(3, V.ptr (List.length [Blk.cells [V.imm false (1 : Nat) (List.map (V.int IntKind.u64) a), V.imm false (1 : Nat) (List.map (V.int IntKind.u64) b)] (24 : Nat)]) (0 : Nat), V.ptr (1 : Nat) (0 : Nat))] <| .call 9 35 ([eN a, eN c]) (V.bool (decide (a = c))) <| .ite 1011 (decide (a = c) == true)
    (.rw 8011 [] [(9, V.bool (decide (a = c)), V.bool true)] <| .tt 1012 (decide (a = c) == true) <| .tt 1013 (decide (a = c) == true) <| .tt 1014 (decide (a = c) == true) <| .tt 1015 (decide (a = c) == true) <| .call 15 35 ([eN b, eN d]) (V.bool (decide (b = d))) <| .tt 16 (decide (a = c)) <| .ret (V.bool (decide (b = d))))
    (.ff 1012 (decide (a = c) == true) <| .ff 1013 (decide (a = c) == true) <| .ff 1014 (decide (a = c) == true) <| .ff 1015 (decide (a = c) == true) <| .ff 16 (decide (a = c)) <| .ret (V.bool false))) (by kernel_rfl) ?_
  exact ⟨⟨trivial, ⟨by simp (disch := omega) only [List.length_cons, List.length_nil, Nat.zero_add], trivial⟩⟩, ⟨(Go.Fw.numbers_sp _ _ ha), ⟨fun h0 => have h0p : a = c := (by simpa using h0); ⟨⟨trivial, ⟨congrArg V.bool (by (simp <;> omega)), trivial⟩⟩, ⟨(h0), ⟨(h0), ⟨(h0), ⟨(h0), ⟨(Go.Fw.numbers_sp _ _ hb), ⟨by (simp <;> omega), by show _ = _; simp_all⟩⟩⟩⟩⟩⟩⟩,
    fun h0 => have h0p : ¬a = c := (by simpa using h0); ⟨(h0), ⟨(h0), ⟨(h0), ⟨(h0), ⟨by (simp <;> omega), by show _ = _; simp_all⟩⟩⟩⟩⟩⟩⟩⟩
end Go.Fw
