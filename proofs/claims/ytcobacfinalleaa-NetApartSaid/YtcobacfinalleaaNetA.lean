/- Net: checks, copies, sends. -/
import Derived.Test.YtcobacfinalleaaNetEval
set_option linter.all false
set_option maxHeartbeats 20000000
namespace Go.Fw
open Go.Proofs

structure Pk where
  f : Int
  t : Int
  s : ByteArray
abbrev ePk (p : Pk) : V := .agg [.int .i64 p.f, .int .i64 p.t, .str p.s]
abbrev ePs (ps : List Pk) : V := .imm false 3 (ps.map ePk)
abbrev eNet (ps : List Pk) : V := .agg [ePs ps]
abbrev fnBad : V := .fn (.func 27) [] []
def okN (n : Int) : Bool := decide (0 ≤ n) && decide (n < 8)
def badP (p : Pk) : Bool := !okN p.f || !okN p.t || decide ((65536 : Int) < p.s.size)

theorem node_sp (n : Int) : Sp C1 21 [.int .i64 n] (.bool (okN n)) := by
  refine sp_tree draws (dm := []) (fs := []) (
    .ite 1006 (decide (n ≥ (0 : Int)) == true)
    (.rw 8006 [] [(4, V.bool (decide (n ≥ (0 : Int))), V.bool true)] <| .tt 1007 (decide (n ≥ (0 : Int)) == true) <| .tt 8 (decide (n ≥ (0 : Int))) <| .ret (V.bool (decide (n < (8 : Int)))))
    (.ff 1007 (decide (n ≥ (0 : Int)) == true) <| .ff 8 (decide (n ≥ (0 : Int))) <| .ret (V.bool false))) (by kernel_rfl) ?_
  exact ⟨fun h0 => have h0p : (0 : Int) ≤ n := (by simpa using h0); ⟨⟨trivial, ⟨congrArg V.bool (by (simp <;> omega)), trivial⟩⟩, ⟨(h0), ⟨by (simp <;> omega), by show _ = _; (simp_all [okN] <;> omega)⟩⟩⟩,
    fun h0 => have h0p : n < (0 : Int) := (by simpa using h0); ⟨(h0), ⟨by (simp <;> omega), by show _ = _; (simp_all [okN] <;> omega)⟩⟩⟩
theorem node2_sp (n : Int) : Sp C1 24 [.int .i64 n] (.bool (okN n)) := by
  refine sp_tree draws (dm := []) (fs := []) (
    .ite 1006 (decide (n ≥ (0 : Int)) == true)
    (.rw 8006 [] [(4, V.bool (decide (n ≥ (0 : Int))), V.bool true)] <| .tt 1007 (decide (n ≥ (0 : Int)) == true) <| .tt 8 (decide (n ≥ (0 : Int))) <| .ret (V.bool (decide (n < (8 : Int)))))
    (.ff 1007 (decide (n ≥ (0 : Int)) == true) <| .ff 8 (decide (n ≥ (0 : Int))) <| .ret (V.bool false))) (by kernel_rfl) ?_
  exact ⟨fun h0 => have h0p : (0 : Int) ≤ n := (by simpa using h0); ⟨⟨trivial, ⟨congrArg V.bool (by (simp <;> omega)), trivial⟩⟩, ⟨(h0), ⟨by (simp <;> omega), by show _ = _; (simp_all [okN] <;> omega)⟩⟩⟩,
    fun h0 => have h0p : n < (0 : Int) := (by simpa using h0); ⟨(h0), ⟨by (simp <;> omega), by show _ = _; (simp_all [okN] <;> omega)⟩⟩⟩
theorem bad_sp (p : Pk) : Sp C1 27 [ePk p] (.bool (badP p)) := by
  refine sp_tree draws (dm := []) (fs := []) (
    .call 5 21 ([V.int IntKind.i64 p.1]) (V.bool (okN p.1)) <| .ite 1008 ((!okN p.1) == false)
    (.rw 8008 [] [(5, V.bool (okN p.1), V.bool true), (6, V.bool !okN p.1, V.bool false)] <| .tt 1009 ((!okN p.1) == false) <| .tt 1010 ((!okN p.1) == false) <| .call 10 21 ([V.int IntKind.i64 p.2]) (V.bool (okN p.2)) <| .tt 1011 ((!okN p.1) == false) <| .ff 12 (!okN p.1) <| .ite 1014 ((!okN p.2) == false)
      (.rw 8014 [] [(7, V.bool !okN p.1, V.bool false), (10, V.bool (okN p.2), V.bool true), (11, V.bool !okN p.2, V.bool false)] <| .tt 1015 ((!okN p.2) == false) <| .tt 1016 ((!okN p.2) == false) <| .tt 1017 ((!okN p.2) == false) <| .ff 18 (!okN p.2) <| .ret (V.bool (decide ((↑(ByteArray.size p.3) : Int) > (65536 : Int)))))
      (.ff 1015 ((!okN p.2) == false) <| .ff 1016 ((!okN p.2) == false) <| .ff 1017 ((!okN p.2) == false) <| .tt 18 (!okN p.2) <| .ret (V.bool true)))
    (.ff 1009 ((!okN p.1) == false) <| .ff 1010 ((!okN p.1) == false) <| .ff 1011 ((!okN p.1) == false) <| .tt 12 (!okN p.1) <| .ret (V.bool true))) (by kernel_rfl) ?_
  exact ⟨(Go.Fw.node_sp _), ⟨fun h0 => have h0p : okN p.1 = true := (by simpa using h0); ⟨⟨trivial, ⟨congrArg V.bool (h0p), ⟨congrArg V.bool (by (simp <;> omega)), trivial⟩⟩⟩, ⟨(h0), ⟨(h0), ⟨(Go.Fw.node_sp _), ⟨(h0), ⟨by (simp <;> omega), ⟨fun h1 => have h1p : okN p.2 = true := (by simpa using h1); ⟨⟨trivial, ⟨congrArg V.bool (by (simp <;> omega)), ⟨congrArg V.bool (h1p), ⟨congrArg V.bool (by (simp <;> omega)), trivial⟩⟩⟩⟩, ⟨(h1), ⟨(h1), ⟨(h1), ⟨by (simp <;> omega), by show _ = _; (simp_all [badP])⟩⟩⟩⟩⟩,
      fun h1 => have h1p : okN p.2 = false := (by simpa using h1); ⟨(h1), ⟨(h1), ⟨(h1), ⟨by (simp <;> omega), by show _ = _; (simp_all [badP])⟩⟩⟩⟩⟩⟩⟩⟩⟩⟩⟩,
    fun h0 => have h0p : okN p.1 = false := (by simpa using h0); ⟨(h0), ⟨(h0), ⟨(h0), ⟨by (simp <;> omega), by show _ = _; (simp_all [badP])⟩⟩⟩⟩⟩⟩
abbrev K29 : List Nat := [0, 1, 7, 8]
abbrev S29 (ps : List Pk) (n i : Nat) : St := mkSt 19 [(0, ePs ps), (1, fnBad), (7, .int .i64 (n : Int)), (8, .int .i64 (i : Int))] []
theorem loop29_none (ps : List Pk) (n : Nat) (hn : ps.length = n) (h47 : n * 32 ≤ 2 ^ 47) : ∀ (k i : Nat), i + k = n → (∀ j p, i ≤ j → ps[j]? = some p → badP p = false) →
    LoopK C1 29 16 (keeps K29) (S29 ps n i) (.exit 0) (mkSt 19 [] [])
  | 0, i, h, hb => by
    obtain rfl : i = n := by omega
    refine loop_tree draws (kn := (keeps K29)) (ke := (keeps [4])) (
    .rw 8009 [] [(9, V.bool (decide ((↑i : Int) < (↑i : Int))), V.bool false)] <| .ret ((Ex.exit (0 : Nat), St.mk [V.undef, V.undef, V.undef, V.undef, V.undef, V.undef, V.undef, V.undef, V.undef, V.undef, V.undef, V.undef, V.undef, V.undef, V.undef, V.undef, V.undef, V.undef, V.undef] []))) (by kernel_rfl) ?_
    exact ⟨⟨trivial, ⟨congrArg V.bool (by (simp <;> omega)), trivial⟩⟩, ⟨rfl, rfl⟩⟩
  | k + 1, i, h, hb => by
    have ih := loop29_none ps n hn h47 k (i + 1) (by omega) (fun j p hj => hb j p (by omega))
    obtain ⟨p, hp⟩ : ∃ p, ps[i]? = some p := ⟨ps[i]'(by omega), List.getElem?_eq_getElem (by omega)⟩
    have hbp := hb i p (Nat.le_refl _) hp
    refine loop_tree draws (kn := (keeps K29)) (ke := (keeps [4])) (
    .rw 8009 [] [(9, V.bool (decide ((↑i : Int) < (↑n : Int))), V.bool true)] <| .opt 14 (idx (List.map ePk ps) (↑i : Int)) (ePk p) <| .call 16 27 ([ePk p]) (V.bool (badP p)) <| .rw 8016 [] [(16, V.bool (badP p), V.bool false)] <| .rw 8018 [] [(18, V.int IntKind.i64 (IntKind.wrap IntKind.i64 ((↑i : Int) + (1 : Int))), V.int IntKind.i64 (↑(i + (1 : Nat)) : Int))] <| .ret (.normal, S29 ps n (i + (1 : Nat)))) (by kernel_rfl) ?_
    exact ⟨⟨trivial, ⟨congrArg V.bool (by (simp <;> omega)), trivial⟩⟩, ⟨(Go.Fw.idx_map _ hp), ⟨(Go.Fw.bad_sp _), ⟨⟨trivial, ⟨congrArg V.bool (hbp), trivial⟩⟩, ⟨⟨trivial, ⟨by simp (disch := omega) only [Go.Fw.cast_succ, Go.Fw.wrap_i64], trivial⟩⟩, (ih)⟩⟩⟩⟩⟩
theorem loop29_some (ps : List Pk) (n j : Nat) (p : Pk) (hn : ps.length = n) (h47 : n * 32 ≤ 2 ^ 47) (hj : ps[j]? = some p) (hjb : badP p = true) : ∀ (k i : Nat), i + k = n → i ≤ j → (∀ l q, i ≤ l → l < j → ps[l]? = some q → badP q = false) →
    LoopK C1 29 16 (keeps K29) (S29 ps n i) .ret (mkSt 19 [(4, .int .i64 (j : Int))] [])
  | 0, i, h, hi, hb => by
    have := (List.getElem?_eq_some_iff.1 hj).1
    omega
  | k + 1, i, h, hi, hb => by
    by_cases hij : i = j
    · subst hij
      refine loop_tree draws (kn := (keeps K29)) (ke := (keeps [4])) (
    .rw 8009 [] [(9, V.bool (decide ((↑i : Int) < (↑n : Int))), V.bool true)] <| .opt 14 (idx (List.map ePk ps) (↑i : Int)) (ePk p) <| .call 16 27 ([ePk p]) (V.bool (badP p)) <| .rw 8016 [] [(16, V.bool (badP p), V.bool true)] <| .ret ((Ex.ret, St.mk [V.undef, V.undef, V.undef, V.undef, V.int IntKind.i64 (↑i : Int), V.undef, V.undef, V.undef, V.undef, V.undef, V.undef, V.undef, V.undef, V.undef, V.undef, V.undef, V.undef, V.undef, V.undef] []))) (by kernel_rfl) ?_
      exact ⟨⟨trivial, ⟨congrArg V.bool (by (simp <;> omega)), trivial⟩⟩, ⟨(Go.Fw.idx_map _ hj), ⟨(Go.Fw.bad_sp _), ⟨⟨trivial, ⟨congrArg V.bool (hjb), trivial⟩⟩, ⟨rfl, rfl⟩⟩⟩⟩⟩
    · have ih := loop29_some ps n j p hn h47 hj hjb k (i + 1) (by omega) (by omega) (fun l q hl => hb l q (by omega))
      obtain ⟨q, hq⟩ : ∃ q, ps[i]? = some q := ⟨ps[i]'(by omega), List.getElem?_eq_getElem (by omega)⟩
      have hbp := hb i q (Nat.le_refl _) (by omega) hq
      refine loop_tree draws (kn := (keeps K29)) (ke := (keeps [4])) (
    .rw 8009 [] [(9, V.bool (decide ((↑i : Int) < (↑n : Int))), V.bool true)] <| .opt 14 (idx (List.map ePk ps) (↑i : Int)) (ePk q) <| .call 16 27 ([ePk q]) (V.bool (badP q)) <| .rw 8016 [] [(16, V.bool (badP q), V.bool false)] <| .rw 8018 [] [(18, V.int IntKind.i64 (IntKind.wrap IntKind.i64 ((↑i : Int) + (1 : Int))), V.int IntKind.i64 (↑(i + (1 : Nat)) : Int))] <| .ret (.normal, S29 ps n (i + (1 : Nat)))) (by kernel_rfl) ?_
      exact ⟨⟨trivial, ⟨congrArg V.bool (by (simp <;> omega)), trivial⟩⟩, ⟨(Go.Fw.idx_map _ hq), ⟨(Go.Fw.bad_sp _), ⟨⟨trivial, ⟨congrArg V.bool (hbp), trivial⟩⟩, ⟨⟨trivial, ⟨by simp (disch := omega) only [Go.Fw.cast_succ, Go.Fw.wrap_i64], trivial⟩⟩, (ih)⟩⟩⟩⟩⟩
end Go.Fw
