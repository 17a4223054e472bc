/- The program of the seat of the Net laws, for the evaluator. -/
import Derived.Test.YtcobacfinalleaaPk3
import Derived.Test.YtcobacfinalleaaProg
import Derived.KernelRfl
set_option linter.all false
namespace Go.Fw
open Go.Proofs

def unT : FuncId → Nat → Option (List Nat) := fun f id => match f, id with
  | 3, 10 => some [0, 0, 0, 4, 0, 0, 0, 0, 128, 0, 0, 0, 0, 4096, 0, 0, 0, 0, 131072, 0, 0, 0, 0, 4194304, 0, 0, 0, 0, 134217728, 0, 0, 0, 0, 4294967296, 0, 0, 0, 0, 137438953472, 0, 0, 0, 0, 4398046511104, 0, 0, 0, 0, 0, 422212465065984, 0, 0, 0, 0, 0, 18014398509481984, 0, 0, 0]
  | 5, 8 => some [0, 1, 0, 0, 0, 0, 0, 0, 0, 480, 480, 480, 0, 0, 0, 0, 0, 0, 0, 0, 524288, 524288, 524288, 0, 0, 0, 0, 67108864, 67108864, 469762048, 67108864, 67108864, 0, 0, 0, 0, 0, 0, 0, 0, 0, 1924145348608, 1924145348608, 1924145348608, 1924145348608, 0, 0, 0]
  | 5, 13 => some [0, 1, 0, 0, 0, 0, 48, 0, 0, 496, 0, 0, 0, 0, 8192, 0, 0, 0, 0, 393216, 393216, 0, 0, 8257536, 0, 0, 0, 0, 0, 0, 0, 0, 0, 6442450944, 0, 0, 66571993088, 0, 0, 0]
  | 5, 16 => some [0, 0, 0, 0, 0, 24, 24, 24, 0, 0, 1016, 0, 0, 0]
  | 6, 10 => some [0, 0, 3, 7, 7, 7, 7, 0, 0]
  | 10, 8 => some [0, 1, 1, 7, 1, 1, 62, 0, 0]
  | 11, 5 => some [0, 1, 1, 7, 1, 0, 63, 63, 255, 255, 63, 0, 0, 8191, 8191, 32767, 8191, 8191, 253952, 0, 0]
  | 17, 6 => some [0, 0, 3, 0, 0, 31, 31, 127, 31, 31, 0]
  | 25, 5 => some [0, 1, 0, 7, 15, 7, 0, 0]
  | _, _ => none
def trT : FuncId → List Nat := fun f => match f with
  | 4 => [56]
  | 9 => [38]
  | 15 => [33]
  | 23 => [14]
  | _ => []
noncomputable def C1 : Cx := { P := Try.prog, tr := trT, thaw := fun f => match f with | 6 => [35] | _ => [], un := unT }

theorem unT_none {f : FuncId} (h : ∃ id, C1.un f id ≠ none) : f = 3 ∨ f = 5 ∨ f = 6 ∨ f = 10 ∨ f = 11 ∨ f = 17 ∨ f = 25 := by
  obtain ⟨id, h⟩ := h
  apply Classical.byContradiction
  intro hn
  simp only [not_or] at hn
  apply h
  show unT f id = none
  unfold unT
  split <;> simp_all
theorem draws_ok : drawsOk C1 3 = true ∧ drawsOk C1 5 = true ∧ drawsOk C1 6 = true ∧ drawsOk C1 10 = true ∧ drawsOk C1 11 = true ∧ drawsOk C1 17 = true ∧ drawsOk C1 25 = true := by
  refine ⟨?_, ?_, ?_, ?_, ?_, ?_, ?_⟩ <;> kernel_rfl
theorem drawsAll : ∀ f, (∃ id, C1.un f id ≠ none) → drawsOk C1 f = true := fun f hf => by
  obtain ⟨a, b, c, d, e, g, h⟩ := draws_ok
  rcases unT_none hf with rfl | rfl | rfl | rfl | rfl | rfl | rfl
  · exact a
  · exact b
  · exact c
  · exact d
  · exact e
  · exact g
  · exact h
theorem draws : Draws C1 := draws_of drawsAll
theorem sound (n : Nat) : VbSound C1 (vcall C1 n) := vcall_ok C1 drawsAll n
end Go.Fw
/- Net: checks, copies, sends. -/
set_option maxHeartbeats 20000000
namespace Go.Fw
open Go.Proofs

structure Pk where
  f : Int
  t : Int
  s : ByteArray
abbrev ePk (p : Pk) : V := .agg [.int .i64 p.f, .int .i64 p.t, .str p.s]
abbrev ePs (ps : List Pk) : V := .imm false 3 (ps.map ePk)
abbrev eNet (ps : List Pk) : V := .agg [ePs ps]
abbrev fnBad : V := .fn (.func 27) [] []
def okN (n : Int) : Bool := decide (0 ≤ n) && decide (n < 8)
def badP (p : Pk) : Bool := !okN p.f || !okN p.t || decide ((65536 : Int) < p.s.size)

theorem node_sp (n : Int) : Sp C1 21 [.int .i64 n] (.bool (okN n)) := by
  refine sp_tree draws (dm := []) (fs := []) (
    .ite 1006 (decide (n ≥ (0 : Int)) == true)
    (.rw 8006 [] [(4, V.bool (decide (n ≥ (0 : Int))), V.bool true)] <| .tt 1007 (decide (n ≥ (0 : Int)) == true) <| .tt 8 (decide (n ≥ (0 : Int))) <| .ret (V.bool (decide (n < (8 : Int)))))
    (.ff 1007 (decide (n ≥ (0 : Int)) == true) <| .ff 8 (decide (n ≥ (0 : Int))) <| .ret (V.bool false))) (by kernel_rfl) ?_
  exact ⟨fun h0 => have h0p : (0 : Int) ≤ n := (by simpa using h0); ⟨⟨trivial, ⟨congrArg V.bool (by (simp <;> omega)), trivial⟩⟩, ⟨(h0), ⟨by (simp <;> omega), by show _ = _; (simp_all [okN] <;> omega)⟩⟩⟩,
    fun h0 => have h0p : n < (0 : Int) := (by simpa using h0); ⟨(h0), ⟨by (simp <;> omega), by show _ = _; (simp_all [okN] <;> omega)⟩⟩⟩
theorem node2_sp (n : Int) : Sp C1 24 [.int .i64 n] (.bool (okN n)) := by
  refine sp_tree draws (dm := []) (fs := []) (
    .ite 1006 (decide (n ≥ (0 : Int)) == true)
    (.rw 8006 [] [(4, V.bool (decide (n ≥ (0 : Int))), V.bool true)] <| .tt 1007 (decide (n ≥ (0 : Int)) == true) <| .tt 8 (decide (n ≥ (0 : Int))) <| .ret (V.bool (decide (n < (8 : Int)))))
    (.ff 1007 (decide (n ≥ (0 : Int)) == true) <| .ff 8 (decide (n ≥ (0 : Int))) <| .ret (V.bool false))) (by kernel_rfl) ?_
  exact ⟨fun h0 => have h0p : (0 : Int) ≤ n := (by simpa using h0); ⟨⟨trivial, ⟨congrArg V.bool (by (simp <;> omega)), trivial⟩⟩, ⟨(h0), ⟨by (simp <;> omega), by show _ = _; (simp_all [okN] <;> omega)⟩⟩⟩,
    fun h0 => have h0p : n < (0 : Int) := (by simpa using h0); ⟨(h0), ⟨by (simp <;> omega), by show _ = _; (simp_all [okN] <;> omega)⟩⟩⟩
theorem bad_sp (p : Pk) : Sp C1 27 [ePk p] (.bool (badP p)) := by
  refine sp_tree draws (dm := []) (fs := []) (
    .call 5 21 ([V.int IntKind.i64 p.1]) (V.bool (okN p.1)) <| .ite 1008 ((!okN p.1) == false)
    (.rw 8008 [] [(5, V.bool (okN p.1), V.bool true), (6, V.bool !okN p.1, V.bool false)] <| .tt 1009 ((!okN p.1) == false) <| .tt 1010 ((!okN p.1) == false) <| .call 10 21 ([V.int IntKind.i64 p.2]) (V.bool (okN p.2)) <| .tt 1011 ((!okN p.1) == false) <| .ff 12 (!okN p.1) <| .ite 1014 ((!okN p.2) == false)
      (.rw 8014 [] [(7, V.bool !okN p.1, V.bool false), (10, V.bool (okN p.2), V.bool true), (11, V.bool !okN p.2, V.bool false)] <| .tt 1015 ((!okN p.2) == false) <| .tt 1016 ((!okN p.2) == false) <| .tt 1017 ((!okN p.2) == false) <| .ff 18 (!okN p.2) <| .ret (V.bool (decide ((↑(ByteArray.size p.3) : Int) > (65536 : Int)))))
      (.ff 1015 ((!okN p.2) == false) <| .ff 1016 ((!okN p.2) == false) <| .ff 1017 ((!okN p.2) == false) <| .tt 18 (!okN p.2) <| .ret (V.bool true)))
    (.ff 1009 ((!okN p.1) == false) <| .ff 1010 ((!okN p.1) == false) <| .ff 1011 ((!okN p.1) == false) <| .tt 12 (!okN p.1) <| .ret (V.bool true))) (by kernel_rfl) ?_
  exact ⟨(Go.Fw.node_sp _), ⟨fun h0 => have h0p : okN p.1 = true := (by simpa using h0); ⟨⟨trivial, ⟨congrArg V.bool (h0p), ⟨congrArg V.bool (by (simp <;> omega)), trivial⟩⟩⟩, ⟨(h0), ⟨(h0), ⟨(Go.Fw.node_sp _), ⟨(h0), ⟨by (simp <;> omega), ⟨fun h1 => have h1p : okN p.2 = true := (by simpa using h1); ⟨⟨trivial, ⟨congrArg V.bool (by (simp <;> omega)), ⟨congrArg V.bool (h1p), ⟨congrArg V.bool (by (simp <;> omega)), trivial⟩⟩⟩⟩, ⟨(h1), ⟨(h1), ⟨(h1), ⟨by (simp <;> omega), by show _ = _; (simp_all [badP])⟩⟩⟩⟩⟩,
      fun h1 => have h1p : okN p.2 = false := (by simpa using h1); ⟨(h1), ⟨(h1), ⟨(h1), ⟨by (simp <;> omega), by show _ = _; (simp_all [badP])⟩⟩⟩⟩⟩⟩⟩⟩⟩⟩⟩,
    fun h0 => have h0p : okN p.1 = false := (by simpa using h0); ⟨(h0), ⟨(h0), ⟨(h0), ⟨by (simp <;> omega), by show _ = _; (simp_all [badP])⟩⟩⟩⟩⟩⟩
abbrev K29 : List Nat := [0, 1, 7, 8]
abbrev S29 (ps : List Pk) (n i : Nat) : St := mkSt 19 [(0, ePs ps), (1, fnBad), (7, .int .i64 (n : Int)), (8, .int .i64 (i : Int))] []
theorem loop29_none (ps : List Pk) (n : Nat) (hn : ps.length = n) (h47 : n * 32 ≤ 2 ^ 47) : ∀ (k i : Nat), i + k = n → (∀ j p, i ≤ j → ps[j]? = some p → badP p = false) →
    LoopK C1 29 16 (keeps K29) (S29 ps n i) (.exit 0) (mkSt 19 [] [])
  | 0, i, h, hb => by
    obtain rfl : i = n := by omega
    refine loop_tree draws (kn := (keeps K29)) (ke := (keeps [4])) (
    .rw 8009 [] [(9, V.bool (decide ((↑i : Int) < (↑i : Int))), V.bool false)] <| .ret ((Ex.exit (0 : Nat), St.mk [V.undef, V.undef, V.undef, V.undef, V.undef, V.undef, V.undef, V.undef, V.undef, V.undef, V.undef, V.undef, V.undef, V.undef, V.undef, V.undef, V.undef, V.undef, V.undef] []))) (by kernel_rfl) ?_
    exact ⟨⟨trivial, ⟨congrArg V.bool (by (simp <;> omega)), trivial⟩⟩, ⟨rfl, rfl⟩⟩
  | k + 1, i, h, hb => by
    have ih := loop29_none ps n hn h47 k (i + 1) (by omega) (fun j p hj => hb j p (by omega))
    obtain ⟨p, hp⟩ : ∃ p, ps[i]? = some p := ⟨ps[i]'(by omega), List.getElem?_eq_getElem (by omega)⟩
    have hbp := hb i p (Nat.le_refl _) hp
    refine loop_tree draws (kn := (keeps K29)) (ke := (keeps [4])) (
    .rw 8009 [] [(9, V.bool (decide ((↑i : Int) < (↑n : Int))), V.bool true)] <| .opt 14 (idx (List.map ePk ps) (↑i : Int)) (ePk p) <| .call 16 27 ([ePk p]) (V.bool (badP p)) <| .rw 8016 [] [(16, V.bool (badP p), V.bool false)] <| .rw 8018 [] [(18, V.int IntKind.i64 (IntKind.wrap IntKind.i64 ((↑i : Int) + (1 : Int))), V.int IntKind.i64 (↑(i + (1 : Nat)) : Int))] <| .ret (.normal, S29 ps n (i + (1 : Nat)))) (by kernel_rfl) ?_
    exact ⟨⟨trivial, ⟨congrArg V.bool (by (simp <;> omega)), trivial⟩⟩, ⟨(Go.Fw.idx_map _ hp), ⟨(Go.Fw.bad_sp _), ⟨⟨trivial, ⟨congrArg V.bool (hbp), trivial⟩⟩, ⟨⟨trivial, ⟨by simp (disch := omega) only [Go.Fw.cast_succ, Go.Fw.wrap_i64], trivial⟩⟩, (ih)⟩⟩⟩⟩⟩
theorem loop29_some (ps : List Pk) (n j : Nat) (p : Pk) (hn : ps.length = n) (h47 : n * 32 ≤ 2 ^ 47) (hj : ps[j]? = some p) (hjb : badP p = true) : ∀ (k i : Nat), i + k = n → i ≤ j → (∀ l q, i ≤ l → l < j → ps[l]? = some q → badP q = false) →
    LoopK C1 29 16 (keeps K29) (S29 ps n i) .ret (mkSt 19 [(4, .int .i64 (j : Int))] [])
  | 0, i, h, hi, hb => by
    have := (List.getElem?_eq_some_iff.1 hj).1
    omega
  | k + 1, i, h, hi, hb => by
    by_cases hij : i = j
    · subst hij
      refine loop_tree draws (kn := (keeps K29)) (ke := (keeps [4])) (
    .rw 8009 [] [(9, V.bool (decide ((↑i : Int) < (↑n : Int))), V.bool true)] <| .opt 14 (idx (List.map ePk ps) (↑i : Int)) (ePk p) <| .call 16 27 ([ePk p]) (V.bool (badP p)) <| .rw 8016 [] [(16, V.bool (badP p), V.bool true)] <| .ret ((Ex.ret, St.mk [V.undef, V.undef, V.undef, V.undef, V.int IntKind.i64 (↑i : Int), V.undef, V.undef, V.undef, V.undef, V.undef, V.undef, V.undef, V.undef, V.undef, V.undef, V.undef, V.undef, V.undef, V.undef] []))) (by kernel_rfl) ?_
      exact ⟨⟨trivial, ⟨congrArg V.bool (by (simp <;> omega)), trivial⟩⟩, ⟨(Go.Fw.idx_map _ hj), ⟨(Go.Fw.bad_sp _), ⟨⟨trivial, ⟨congrArg V.bool (hjb), trivial⟩⟩, ⟨rfl, rfl⟩⟩⟩⟩⟩
    · have ih := loop29_some ps n j p hn h47 hj hjb k (i + 1) (by omega) (by omega) (fun l q hl => hb l q (by omega))
      obtain ⟨q, hq⟩ : ∃ q, ps[i]? = some q := ⟨ps[i]'(by omega), List.getElem?_eq_getElem (by omega)⟩
      have hbp := hb i q (Nat.le_refl _) (by omega) hq
      refine loop_tree draws (kn := (keeps K29)) (ke := (keeps [4])) (
    .rw 8009 [] [(9, V.bool (decide ((↑i : Int) < (↑n : Int))), V.bool true)] <| .opt 14 (idx (List.map ePk ps) (↑i : Int)) (ePk q) <| .call 16 27 ([ePk q]) (V.bool (badP q)) <| .rw 8016 [] [(16, V.bool (badP q), V.bool false)] <| .rw 8018 [] [(18, V.int IntKind.i64 (IntKind.wrap IntKind.i64 ((↑i : Int) + (1 : Int))), V.int IntKind.i64 (↑(i + (1 : Nat)) : Int))] <| .ret (.normal, S29 ps n (i + (1 : Nat)))) (by kernel_rfl) ?_
      exact ⟨⟨trivial, ⟨congrArg V.bool (by (simp <;> omega)), trivial⟩⟩, ⟨(Go.Fw.idx_map _ hq), ⟨(Go.Fw.bad_sp _), ⟨⟨trivial, ⟨congrArg V.bool (hbp), trivial⟩⟩, ⟨⟨trivial, ⟨by simp (disch := omega) only [Go.Fw.cast_succ, Go.Fw.wrap_i64], trivial⟩⟩, (ih)⟩⟩⟩⟩⟩
end Go.Fw
/- Net: checks, copies, sends (2). -/
set_option maxHeartbeats 20000000
namespace Go.Fw
open Go.Proofs
theorem index_none (ps : List Pk) (h47 : ps.length * 32 ≤ 2 ^ 47) (hb : ps.any badP = false) : Sp C1 29 [ePs ps, fnBad] (.int .i64 (-1)) := by
  have hl := loop29_none ps ps.length rfl h47 ps.length 0 (by omega) (fun j p _ hj => by
    rw [List.any_eq_false] at hb
    simpa using hb p (List.mem_of_getElem? hj))
  refine sp_tree draws (dm := []) (fs := []) (
    .rw 8007 [] [(7, V.int IntKind.i64 (↑(List.length (List.map ePk ps)) : Int), V.int IntKind.i64 (↑(List.length ps) : Int))] <| .loop 16 (keeps K29) (S29 ps (List.length ps) (0 : Nat)) (Ex.exit (0 : Nat)) (mkSt (19 : Nat) [] []) <| .ret (V.int IntKind.i64 (-1 : Int))) (by kernel_rfl) ?_
  exact ⟨⟨trivial, ⟨by simp (disch := omega) only [List.length_map], trivial⟩⟩, ⟨(hl), rfl⟩⟩
theorem index_some (ps : List Pk) (j : Nat) (p : Pk) (h47 : ps.length * 32 ≤ 2 ^ 47) (hj : ps[j]? = some p) (hjb : badP p = true) (hf : ∀ l q, l < j → ps[l]? = some q → badP q = false) : Sp C1 29 [ePs ps, fnBad] (.int .i64 (j : Int)) := by
  have hl := loop29_some ps ps.length j p rfl h47 hj hjb ps.length 0 (by omega) (Nat.zero_le _) (fun l q _ => hf l q)
  refine sp_tree draws (dm := []) (fs := []) (
    .rw 8007 [] [(7, V.int IntKind.i64 (↑(List.length (List.map ePk ps)) : Int), V.int IntKind.i64 (↑(List.length ps) : Int))] <| .loop 16 (keeps K29) (S29 ps (List.length ps) (0 : Nat)) (Ex.ret) (mkSt (19 : Nat) [((4 : Nat), V.int IntKind.i64 (↑j : Int))] []) <| .ret (V.int IntKind.i64 (↑j : Int))) (by kernel_rfl) ?_
  exact ⟨⟨trivial, ⟨by simp (disch := omega) only [List.length_map], trivial⟩⟩, ⟨(hl), rfl⟩⟩
theorem contains_none (ps : List Pk) (h47 : ps.length * 32 ≤ 2 ^ 47) (hb : ps.any badP = false) : Sp C1 26 [ePs ps, fnBad] (.bool false) := by
  refine sp_tree draws (dm := []) (fs := []) (
    .call 7 29 ([ePs ps, fnBad]) (V.int IntKind.i64 (-1 : Int)) <| .ret (V.bool false)) (by kernel_rfl) ?_
  exact ⟨(Go.Fw.index_none _ h47 hb), rfl⟩
theorem contains_some (ps : List Pk) (j : Nat) (p : Pk) (h47 : ps.length * 32 ≤ 2 ^ 47) (hj : ps[j]? = some p) (hjb : badP p = true) (hf : ∀ l q, l < j → ps[l]? = some q → badP q = false) : Sp C1 26 [ePs ps, fnBad] (.bool true) := by
  have hi := index_some ps j p h47 hj hjb hf
  refine sp_tree draws (dm := []) (fs := []) (
    .call 7 29 ([ePs ps, fnBad]) (V.int IntKind.i64 (↑j : Int)) <| .ret (V.bool true)) (by kernel_rfl) ?_
  exact ⟨(hi), rfl⟩
theorem first_bad : ∀ (ps : List Pk), ps.any badP = true → ∃ (j : Nat) (p : Pk), ps[j]? = some p ∧ badP p = true ∧ ∀ l q, l < j → ps[l]? = some q → badP q = false
  | [], h => by simp at h
  | p :: ps, h => by
    by_cases hp : badP p = true
    · exact ⟨0, p, rfl, hp, fun l q hl => by omega⟩
    · obtain ⟨j, q, h1, h2, h3⟩ := first_bad ps (by simpa [hp] using h)
      refine ⟨j + 1, q, by simpa using h1, h2, fun l q hl hq => ?_⟩
      cases l with
      | zero => simp at hq; subst hq; simpa using hp
      | succ l => exact h3 l q (by omega) (by simpa using hq)
theorem contains_sp (ps : List Pk) (h47 : ps.length * 32 ≤ 2 ^ 47) : Sp C1 26 [ePs ps, fnBad] (.bool (ps.any badP)) := by
  cases hb : ps.any badP with
  | false => exact contains_none ps h47 hb
  | true =>
    obtain ⟨j, p, h1, h2, h3⟩ := first_bad ps hb
    exact contains_some ps j p h47 h1 h2 h3
def okNet (ps : List Pk) : Bool := decide (ps.length ≤ 4096) && !ps.any badP
theorem check_long (ps : List Pk) (h : 4096 < ps.length) : Sp C1 18 [eNet ps] (.int .i64 6) := by
  refine sp_tree draws (dm := []) (fs := []) (
    .rw 8005 [] [(5, V.int IntKind.i64 (↑(List.length (List.map ePk ps)) : Int), V.int IntKind.i64 (↑(List.length ps) : Int))] <| .rw 8006 [] [(6, V.bool (decide ((↑(List.length ps) : Int) > (4096 : Int))), V.bool true)] <| .ret (V.int IntKind.i64 (6 : Int))) (by kernel_rfl) ?_
  exact ⟨⟨trivial, ⟨by simp (disch := omega) only [List.length_map], trivial⟩⟩, ⟨⟨trivial, ⟨congrArg V.bool (by (simp <;> omega)), trivial⟩⟩, rfl⟩⟩
theorem check_short (ps : List Pk) (h : ps.length ≤ 4096) : Sp C1 18 [eNet ps] (.int .i64 (if ps.any badP then 6 else 0)) := by
  refine sp_tree draws (dm := []) (fs := []) (
    .rw 8005 [] [(5, V.int IntKind.i64 (↑(List.length (List.map ePk ps)) : Int), V.int IntKind.i64 (↑(List.length ps) : Int))] <| .rw 8006 [] [(6, V.bool (decide ((↑(List.length ps) : Int) > (4096 : Int))), V.bool false)] <| .call 10 26 ([ePs ps, fnBad]) (V.bool (List.any ps badP)) <| .ite 2011 (List.any ps badP)
    (.rw 8002 [] [(10, V.bool (List.any ps badP), V.bool true)] <| .ret (V.int IntKind.i64 (6 : Int)))
    (.ret (V.int IntKind.i64 (0 : Int)))) (by kernel_rfl) ?_
  exact ⟨⟨trivial, ⟨by simp (disch := omega) only [List.length_map], trivial⟩⟩, ⟨⟨trivial, ⟨congrArg V.bool (by (simp <;> omega)), trivial⟩⟩, ⟨(Go.Fw.contains_sp _ (by omega)), ⟨fun h0 => have h0p : ∃ x, x ∈ ps ∧ badP x = true := (by simpa using h0); ⟨⟨trivial, ⟨congrArg V.bool (h0), trivial⟩⟩, by show _ = _; (simp_all)⟩,
    fun h0 => have h0p : ∀ (x : Pk), x ∈ ps → badP x = false := (by simpa using h0); by show _ = _; (simp_all)⟩⟩⟩⟩
def chkE (ps : List Pk) : Int := if okNet ps then 0 else 6
theorem check_sp (ps : List Pk) : Sp C1 18 [eNet ps] (.int .i64 (chkE ps)) := by
  unfold chkE okNet
  by_cases h : ps.length ≤ 4096
  · have := check_short ps h
    cases hb : ps.any badP <;> simpa [h, hb] using this
  · have := check_long ps (by omega)
    simpa [h] using this
theorem clone_nil : Sp C1 28 [.nils] (.lin true 30 3 []) := by
  refine sp_tree draws (dm := []) (fs := [.of (.lin 30 3)]) (
    .ret (V.lin true (30 : Nat) (3 : Nat) [])) (by kernel_rfl) ?_
  exact rfl
theorem clone_nne : Sp C1 28 [.nne] (.lin true 30 3 []) := by
  refine sp_tree draws (dm := []) (fs := [.of (.lin 30 3)]) (
    .ret (V.lin true (30 : Nat) (3 : Nat) [])) (by kernel_rfl) ?_
  exact rfl
theorem clone_cons (p : Pk) (ps : List Pk) (h : (p :: ps).length * 32 ≤ 2 ^ 47) : Sp C1 28 [ePs (p :: ps)] (.lin true 30 3 ((p :: ps).map ePk)) := by
  refine sp_tree draws (dm := []) (fs := [.of (.lin 30 3)]) (
    .chk 7 (decide (((0 : Nat) + List.length (V.agg [V.int IntKind.i64 p.1, V.int IntKind.i64 p.2, V.str p.3] :: List.map ePk ps)) * (32 : Nat) ≤ (140737488355328 : Nat))) <| .ret (V.lin true (30 : Nat) (3 : Nat) (V.agg [V.int IntKind.i64 p.1, V.int IntKind.i64 p.2, V.str p.3] :: List.map ePk ps))) (by kernel_rfl) ?_
  exact ⟨by (simp at h ⊢; omega), rfl⟩
theorem clone_sp (ps : List Pk) (h : ps.length * 32 ≤ 2 ^ 47) : Sp C1 28 [ePs ps] (.lin true 30 3 (ps.map ePk)) := by
  cases ps with
  | nil => exact Sp.imm0 (pre := []) clone_nil clone_nne
  | cons p ps => exact clone_cons p ps h
abbrev eNl (ps : List Pk) : V := .agg [.lin true 30 3 (ps.map ePk)]
abbrev fN : Fm := .agg [.imm 3]
theorem own_sp (ps : List Pk) (h : ps.length * 32 ≤ 2 ^ 47) : Sp C1 22 [eNet ps] (eNl ps) := by
  refine sp_tree draws (dm := []) (fs := [.agg [.lin 30 3]]) (
    .rw 8002 [] [(2, V.ptr (List.length [Blk.cells [V.imm false (3 : Nat) (List.map ePk ps)] (24 : Nat)]) (0 : Nat), V.ptr (1 : Nat) (0 : Nat))] <| .call 5 28 ([ePs ps]) (V.lin true (30 : TypeId) (3 : Nat) (List.map ePk ps)) <| .ret (V.agg [V.lin true (30 : Nat) (3 : Nat) (List.map ePk ps)])) (by kernel_rfl) ?_
  exact ⟨⟨trivial, ⟨by simp (disch := omega) only [List.length_cons, List.length_nil, Nat.zero_add], trivial⟩⟩, ⟨(Go.Fw.clone_sp _ h), rfl⟩⟩
theorem own2_sp (ps : List Pk) (h : ps.length * 32 ≤ 2 ^ 47) : Sp C1 7 [eNet ps] (eNl ps) := by
  refine sp_tree draws (dm := []) (fs := [.agg [.lin 30 3]]) (
    .rw 8002 [] [(2, V.ptr (List.length [Blk.cells [V.imm false (3 : Nat) (List.map ePk ps)] (24 : Nat)]) (0 : Nat), V.ptr (1 : Nat) (0 : Nat))] <| .ite 6 (List.isEmpty (List.map ePk ps))
    (.ret (V.agg [V.lin true (30 : Nat) (3 : Nat) []]))
    (.chk 6 (decide (((0 : Nat) + List.length (List.map ePk ps)) * (32 : Nat) ≤ (140737488355328 : Nat))) <| .rw 8006 [] [(6, V.lin true (30 : Nat) (3 : Nat) ([] ++ List.map ePk ps), V.lin true (30 : Nat) (3 : Nat) (List.map ePk ps))] <| .ret (V.agg [V.lin true (30 : Nat) (3 : Nat) (List.map ePk ps)]))) (by kernel_rfl) ?_
  exact ⟨⟨trivial, ⟨by simp (disch := omega) only [List.length_cons, List.length_nil, Nat.zero_add], trivial⟩⟩, ⟨fun h0 => have h0p : ps = [] := (by simpa using h0); by show _ = _; (simp_all),
    fun h0 => have h0p : ¬ps = [] := (by simpa using h0); ⟨by (simp at *; omega), ⟨⟨trivial, ⟨by simp (disch := omega) only [List.nil_append], trivial⟩⟩, rfl⟩⟩⟩⟩
end Go.Fw
/- Net: checks, copies, sends (3). -/
set_option maxHeartbeats 20000000
namespace Go.Fw
open Go.Proofs
theorem check2_long (ps : List Pk) (h : 4096 < ps.length) : Sp C1 19 [eNet ps] (.int .i64 6) := by
  refine sp_tree draws (dm := []) (fs := []) (
    .rw 8007 [] [(7, V.int IntKind.i64 (↑(List.length (List.map ePk ps)) : Int), V.int IntKind.i64 (↑(List.length ps) : Int))] <| .rw 8008 [] [(8, V.bool (decide ((↑(List.length ps) : Int) > (4096 : Int))), V.bool true)] <| .ret (V.int IntKind.i64 (6 : Int))) (by kernel_rfl) ?_
  exact ⟨⟨trivial, ⟨by simp (disch := omega) only [List.length_map], trivial⟩⟩, ⟨⟨trivial, ⟨congrArg V.bool (by (simp <;> omega)), trivial⟩⟩, rfl⟩⟩
abbrev K19 : List Nat := [10, 11, 12]
abbrev S19 (ps : List Pk) (n i : Nat) : St := mkSt 33 [(10, ePs ps), (11, .int .i64 (n : Int)), (12, .int .i64 (i : Int))] [.cells [ePs ps] 24]
theorem loop19_none (ps : List Pk) (n : Nat) (hn : ps.length = n) (h47 : n ≤ 4096) : ∀ (k i : Nat), i + k = n → (∀ j p, i ≤ j → ps[j]? = some p → badP p = false) →
    LoopK C1 19 32 (keeps K19) (S19 ps n i) (.exit 0) (mkSt 33 [] [.cells [ePs ps] 24])
  | 0, i, h, hb => by
    obtain rfl : i = n := by omega
    refine loop_tree draws (kn := (keeps K19)) (ke := (keeps [2])) (
    .rw 8013 [] [(13, V.bool (decide ((↑i : Int) < (↑i : Int))), V.bool false)] <| .ret ((Ex.exit (0 : Nat), St.mk [V.undef, V.undef, V.undef, V.undef, V.undef, V.undef, V.undef, V.undef, V.undef, V.undef, V.undef, V.undef, V.undef, V.undef, V.undef, V.undef, V.undef, V.undef, V.undef, V.undef, V.undef, V.undef, V.undef, V.undef, V.undef, V.undef, V.undef, V.undef, V.undef, V.undef, V.undef, V.undef, V.undef] [Blk.cells [V.imm false (3 : Nat) (List.map ePk ps)] (24 : Nat)]))) (by kernel_rfl) ?_
    exact ⟨⟨trivial, ⟨congrArg V.bool (by (simp <;> omega)), trivial⟩⟩, ⟨rfl, rfl⟩⟩
  | k + 1, i, h, hb => by
    have ih := loop19_none ps n hn h47 k (i + 1) (by omega) (fun j p hj => hb j p (by omega))
    obtain ⟨p, hp⟩ : ∃ p, ps[i]? = some p := ⟨ps[i]'(by omega), List.getElem?_eq_getElem (by omega)⟩
    have hbp := hb i p (Nat.le_refl _) hp
    unfold badP at hbp
    simp only [Bool.or_eq_false_iff, Bool.not_eq_false', decide_eq_false_iff_not] at hbp
    obtain ⟨⟨hf, ht⟩, hs⟩ := hbp
    refine loop_tree draws (kn := (keeps K19)) (ke := (keeps [2])) (
    .rw 8013 [] [(13, V.bool (decide ((↑i : Int) < (↑n : Int))), V.bool true)] <| .opt 14 (idx (List.map ePk ps) (↑i : Int)) (ePk p) <| .rw 8004 [] [(4, V.ptr (List.length [Blk.cells [V.imm false (3 : Nat) (List.map ePk ps)] (24 : Nat)]) (0 : Nat), V.ptr (1 : Nat) (0 : Nat))] <| .call 18 24 ([V.int IntKind.i64 (Pk.f p)]) (V.bool (okN (Pk.f p))) <| .rw 8018 [] [(18, V.bool (okN (Pk.f p)), V.bool true)] <| .call 23 24 ([V.int IntKind.i64 (Pk.t p)]) (V.bool (okN (Pk.t p))) <| .rw 8023 [] [(23, V.bool (okN (Pk.t p)), V.bool true)] <| .rw 8030 [] [(30, V.bool (decide ((↑(ByteArray.size (Pk.s p)) : Int) > (65536 : Int))), V.bool false)] <| .rw 8032 [] [(32, V.int IntKind.i64 (IntKind.wrap IntKind.i64 ((↑i : Int) + (1 : Int))), V.int IntKind.i64 (↑(i + (1 : Nat)) : Int))] <| .to 8012 ([.cut 1]) <| .ret (.normal, S19 ps n (i + (1 : Nat)))) (by kernel_rfl) ?_
    exact ⟨⟨trivial, ⟨congrArg V.bool (by (simp <;> omega)), trivial⟩⟩, ⟨(Go.Fw.idx_map _ hp), ⟨⟨trivial, ⟨by simp (disch := omega) only [List.length_cons, List.length_nil, Nat.zero_add], trivial⟩⟩, ⟨(Go.Fw.node2_sp _), ⟨⟨trivial, ⟨congrArg V.bool (hf), trivial⟩⟩, ⟨(Go.Fw.node2_sp _), ⟨⟨trivial, ⟨congrArg V.bool (ht), trivial⟩⟩, ⟨⟨trivial, ⟨congrArg V.bool (by (simp <;> omega)), trivial⟩⟩, ⟨⟨trivial, ⟨by simp (disch := omega) only [Go.Fw.cast_succ, Go.Fw.wrap_i64], trivial⟩⟩, (ih)⟩⟩⟩⟩⟩⟩⟩⟩⟩
theorem loop19_some (ps : List Pk) (n j : Nat) (p : Pk) (hn : ps.length = n) (h47 : n ≤ 4096) (hj : ps[j]? = some p) (hjb : badP p = true) : ∀ (k i : Nat), i + k = n → i ≤ j → (∀ l q, i ≤ l → l < j → ps[l]? = some q → badP q = false) →
    LoopK C1 19 32 (keeps K19) (S19 ps n i) .ret (mkSt 33 [(2, .int .i64 6)] [.cells [ePs ps] 24, .cells [.int .i64 p.f, .int .i64 p.t, .str p.s] 30])
  | 0, i, h, hi, hb => by
    have := (List.getElem?_eq_some_iff.1 hj).1
    omega
  | k + 1, i, h, hi, hb => by
    by_cases hij : i = j
    · subst hij
      unfold badP at hjb
      simp only [Bool.or_eq_true, Bool.not_eq_true', decide_eq_true_eq] at hjb
      refine loop_tree draws (kn := (keeps K19)) (ke := (keeps [2])) (
    .rw 8013 [] [(13, V.bool (decide ((↑i : Int) < (↑n : Int))), V.bool true)] <| .opt 14 (idx (List.map ePk ps) (↑i : Int)) (ePk p) <| .rw 8004 [] [(4, V.ptr (List.length [Blk.cells [V.imm false (3 : Nat) (List.map ePk ps)] (24 : Nat)]) (0 : Nat), V.ptr (1 : Nat) (0 : Nat))] <| .call 18 24 ([V.int IntKind.i64 (Pk.f p)]) (V.bool (okN (Pk.f p))) <| .ite 1021 ((!okN (Pk.f p)) == false)
    (.rw 8021 [] [(18, V.bool (okN (Pk.f p)), V.bool true), (19, V.bool !okN (Pk.f p), V.bool false)] <| .tt 1022 ((!okN (Pk.f p)) == false) <| .tt 1023 ((!okN (Pk.f p)) == false) <| .call 23 24 ([V.int IntKind.i64 (Pk.t p)]) (V.bool (okN (Pk.t p))) <| .tt 1024 ((!okN (Pk.f p)) == false) <| .ff 25 (!okN (Pk.f p)) <| .ite 1027 ((!okN (Pk.t p)) == false)
      (.rw 8027 [] [(20, V.bool !okN (Pk.f p), V.bool false), (23, V.bool (okN (Pk.t p)), V.bool true), (24, V.bool !okN (Pk.t p), V.bool false)] <| .tt 1028 ((!okN (Pk.t p)) == false) <| .tt 1029 ((!okN (Pk.t p)) == false) <| .tt 1030 ((!okN (Pk.t p)) == false) <| .rw 8030 [] [(30, V.bool (decide ((↑(ByteArray.size (Pk.s p)) : Int) > (65536 : Int))), V.bool true)] <| .ff 31 (!okN (Pk.t p)) <| .ret ((Ex.ret, St.mk [V.undef, V.undef, V.int IntKind.i64 (6 : Int), V.undef, V.undef, V.undef, V.undef, V.undef, V.undef, V.undef, V.undef, V.undef, V.undef, V.undef, V.undef, V.undef, V.undef, V.undef, V.undef, V.undef, V.undef, V.undef, V.undef, V.undef, V.undef, V.undef, V.undef, V.undef, V.undef, V.undef, V.undef, V.undef, V.undef] [Blk.cells [V.imm false (3 : Nat) (List.map ePk ps)] (24 : Nat), Blk.cells [V.int IntKind.i64 (Pk.f p), V.int IntKind.i64 (Pk.t p), V.str (Pk.s p)] (30 : Nat)])))
      (.ff 1028 ((!okN (Pk.t p)) == false) <| .ff 1029 ((!okN (Pk.t p)) == false) <| .ff 1030 ((!okN (Pk.t p)) == false) <| .tt 31 (!okN (Pk.t p)) <| .ret ((Ex.ret, St.mk [V.undef, V.undef, V.int IntKind.i64 (6 : Int), V.undef, V.undef, V.undef, V.undef, V.undef, V.undef, V.undef, V.undef, V.undef, V.undef, V.undef, V.undef, V.undef, V.undef, V.undef, V.undef, V.undef, V.undef, V.undef, V.undef, V.undef, V.undef, V.undef, V.undef, V.undef, V.undef, V.undef, V.undef, V.undef, V.undef] [Blk.cells [V.imm false (3 : Nat) (List.map ePk ps)] (24 : Nat), Blk.cells [V.int IntKind.i64 (Pk.f p), V.int IntKind.i64 (Pk.t p), V.str (Pk.s p)] (30 : Nat)]))))
    (.ff 1022 ((!okN (Pk.f p)) == false) <| .ff 1023 ((!okN (Pk.f p)) == false) <| .ff 1024 ((!okN (Pk.f p)) == false) <| .tt 25 (!okN (Pk.f p)) <| .ret ((Ex.ret, St.mk [V.undef, V.undef, V.int IntKind.i64 (6 : Int), V.undef, V.undef, V.undef, V.undef, V.undef, V.undef, V.undef, V.undef, V.undef, V.undef, V.undef, V.undef, V.undef, V.undef, V.undef, V.undef, V.undef, V.undef, V.undef, V.undef, V.undef, V.undef, V.undef, V.undef, V.undef, V.undef, V.undef, V.undef, V.undef, V.undef] [Blk.cells [V.imm false (3 : Nat) (List.map ePk ps)] (24 : Nat), Blk.cells [V.int IntKind.i64 (Pk.f p), V.int IntKind.i64 (Pk.t p), V.str (Pk.s p)] (30 : Nat)])))) (by kernel_rfl) ?_
      exact ⟨⟨trivial, ⟨congrArg V.bool (by (simp <;> omega)), trivial⟩⟩, ⟨(Go.Fw.idx_map _ hj), ⟨⟨trivial, ⟨by simp (disch := omega) only [List.length_cons, List.length_nil, Nat.zero_add], trivial⟩⟩, ⟨(Go.Fw.node2_sp _), ⟨fun h0 => have h0p : okN (Pk.f p) = true := (by simpa using h0); ⟨⟨trivial, ⟨congrArg V.bool (h0p), ⟨congrArg V.bool (by simp_all), trivial⟩⟩⟩, ⟨(h0), ⟨(h0), ⟨(Go.Fw.node2_sp _), ⟨(h0), ⟨by simp_all, ⟨fun h1 => have h1p : okN (Pk.t p) = true := (by simpa using h1); ⟨⟨trivial, ⟨congrArg V.bool (by simp_all), ⟨congrArg V.bool (h1p), ⟨congrArg V.bool (by simp_all), trivial⟩⟩⟩⟩, ⟨(h1), ⟨(h1), ⟨(h1), ⟨⟨trivial, ⟨congrArg V.bool (by simp_all), trivial⟩⟩, ⟨by simp_all, ⟨rfl, rfl⟩⟩⟩⟩⟩⟩⟩,
      fun h1 => have h1p : okN (Pk.t p) = false := (by simpa using h1); ⟨(h1), ⟨(h1), ⟨(h1), ⟨by simp_all, ⟨rfl, rfl⟩⟩⟩⟩⟩⟩⟩⟩⟩⟩⟩⟩,
    fun h0 => have h0p : okN (Pk.f p) = false := (by simpa using h0); ⟨(h0), ⟨(h0), ⟨(h0), ⟨by simp_all, ⟨rfl, rfl⟩⟩⟩⟩⟩⟩⟩⟩⟩⟩
    · have ih := loop19_some ps n j p hn h47 hj hjb k (i + 1) (by omega) (by omega) (fun l q hl => hb l q (by omega))
      obtain ⟨q, hq⟩ : ∃ q, ps[i]? = some q := ⟨ps[i]'(by omega), List.getElem?_eq_getElem (by omega)⟩
      have hbp := hb i q (Nat.le_refl _) (by omega) hq
      unfold badP at hbp
      simp only [Bool.or_eq_false_iff, Bool.not_eq_false', decide_eq_false_iff_not] at hbp
      obtain ⟨⟨hf, ht⟩, hs⟩ := hbp
      refine loop_tree draws (kn := (keeps K19)) (ke := (keeps [2])) (
    .rw 8013 [] [(13, V.bool (decide ((↑i : Int) < (↑n : Int))), V.bool true)] <| .opt 14 (idx (List.map ePk ps) (↑i : Int)) (ePk q) <| .rw 8004 [] [(4, V.ptr (List.length [Blk.cells [V.imm false (3 : Nat) (List.map ePk ps)] (24 : Nat)]) (0 : Nat), V.ptr (1 : Nat) (0 : Nat))] <| .call 18 24 ([V.int IntKind.i64 (Pk.f q)]) (V.bool (okN (Pk.f q))) <| .rw 8018 [] [(18, V.bool (okN (Pk.f q)), V.bool true)] <| .call 23 24 ([V.int IntKind.i64 (Pk.t q)]) (V.bool (okN (Pk.t q))) <| .rw 8023 [] [(23, V.bool (okN (Pk.t q)), V.bool true)] <| .rw 8030 [] [(30, V.bool (decide ((↑(ByteArray.size (Pk.s q)) : Int) > (65536 : Int))), V.bool false)] <| .rw 8032 [] [(32, V.int IntKind.i64 (IntKind.wrap IntKind.i64 ((↑i : Int) + (1 : Int))), V.int IntKind.i64 (↑(i + (1 : Nat)) : Int))] <| .to 8012 ([.cut 1]) <| .ret (.normal, S19 ps n (i + (1 : Nat)))) (by kernel_rfl) ?_
      exact ⟨⟨trivial, ⟨congrArg V.bool (by (simp <;> omega)), trivial⟩⟩, ⟨(Go.Fw.idx_map _ hq), ⟨⟨trivial, ⟨by simp (disch := omega) only [List.length_cons, List.length_nil, Nat.zero_add], trivial⟩⟩, ⟨(Go.Fw.node2_sp _), ⟨⟨trivial, ⟨congrArg V.bool (hf), trivial⟩⟩, ⟨(Go.Fw.node2_sp _), ⟨⟨trivial, ⟨congrArg V.bool (ht), trivial⟩⟩, ⟨⟨trivial, ⟨congrArg V.bool (by (simp <;> omega)), trivial⟩⟩, ⟨⟨trivial, ⟨by simp (disch := omega) only [Go.Fw.cast_succ, Go.Fw.wrap_i64], trivial⟩⟩, (ih)⟩⟩⟩⟩⟩⟩⟩⟩⟩
theorem check2_none (ps : List Pk) (h : ps.length ≤ 4096) (hb : ps.any badP = false) : Sp C1 19 [eNet ps] (.int .i64 0) := by
  have hl := loop19_none ps ps.length rfl h ps.length 0 (by omega) (fun j p _ hj => by
    rw [List.any_eq_false] at hb
    simpa using hb p (List.mem_of_getElem? hj))
  refine sp_tree draws (dm := []) (fs := []) (
    .rw 8007 [] [(7, V.int IntKind.i64 (↑(List.length (List.map ePk ps)) : Int), V.int IntKind.i64 (↑(List.length ps) : Int))] <| .rw 8008 [] [(8, V.bool (decide ((↑(List.length ps) : Int) > (4096 : Int))), V.bool false)] <| .rw 8011 [] [(11, V.int IntKind.i64 (↑(List.length (List.map ePk ps)) : Int), V.int IntKind.i64 (↑(List.length ps) : Int))] <| .loop 32 (keeps K19) (S19 ps (List.length ps) (0 : Nat)) (Ex.exit (0 : Nat)) (mkSt (33 : Nat) [] [Blk.cells [ePs ps] (24 : TypeId)]) <| .ret (V.int IntKind.i64 (0 : Int))) (by kernel_rfl) ?_
  exact ⟨⟨trivial, ⟨by simp (disch := omega) only [List.length_map], trivial⟩⟩, ⟨⟨trivial, ⟨congrArg V.bool (by (simp <;> omega)), trivial⟩⟩, ⟨⟨trivial, ⟨by simp (disch := omega) only [List.length_map], trivial⟩⟩, ⟨(hl), rfl⟩⟩⟩⟩
theorem check2_some (ps : List Pk) (h : ps.length ≤ 4096) (hb : ps.any badP = true) : Sp C1 19 [eNet ps] (.int .i64 6) := by
  obtain ⟨j, p, h1, h2, h3⟩ := first_bad ps hb
  have hl := loop19_some ps ps.length j p rfl h h1 h2 ps.length 0 (by omega) (Nat.zero_le _) (fun l q _ => h3 l q)
  refine sp_tree draws (dm := []) (fs := []) (
    .rw 8007 [] [(7, V.int IntKind.i64 (↑(List.length (List.map ePk ps)) : Int), V.int IntKind.i64 (↑(List.length ps) : Int))] <| .rw 8008 [] [(8, V.bool (decide ((↑(List.length ps) : Int) > (4096 : Int))), V.bool false)] <| .rw 8011 [] [(11, V.int IntKind.i64 (↑(List.length (List.map ePk ps)) : Int), V.int IntKind.i64 (↑(List.length ps) : Int))] <| .loop 32 (keeps K19) (S19 ps (List.length ps) (0 : Nat)) (Ex.ret) (mkSt (33 : Nat) [((2 : Nat), V.int IntKind.i64 (6 : Int))] [Blk.cells [ePs ps] (24 : TypeId), Blk.cells [V.int IntKind.i64 (Pk.f p), V.int IntKind.i64 (Pk.t p), V.str (Pk.s p)] (30 : TypeId)]) <| .ret (V.int IntKind.i64 (6 : Int))) (by kernel_rfl) ?_
  exact ⟨⟨trivial, ⟨by simp (disch := omega) only [List.length_map], trivial⟩⟩, ⟨⟨trivial, ⟨congrArg V.bool (by (simp <;> omega)), trivial⟩⟩, ⟨⟨trivial, ⟨by simp (disch := omega) only [List.length_map], trivial⟩⟩, ⟨(hl), rfl⟩⟩⟩⟩
theorem check2_sp (ps : List Pk) : Sp C1 19 [eNet ps] (.int .i64 (chkE ps)) := by
  unfold chkE okNet
  by_cases h : ps.length ≤ 4096
  · cases hb : ps.any badP
    · simpa [h] using check2_none ps h hb
    · simpa [h] using check2_some ps h hb
  · simpa [h] using check2_long ps (by omega)
theorem with_full (ps : List Pk) (p : Pk) (h : ps.length * 32 ≤ 2 ^ 47) (hf : 4096 ≤ ps.length) : Sp C1 23 [eNet ps, ePk p] (.tup [eNet ps, .int .i64 8]) := by
  refine sp_tree draws (dm := [0]) (fs := [fN, .of .keep]) (
    .rw 8003 [] [(3, V.ptr (List.length [Blk.cells [V.imm false (3 : Nat) (List.map ePk ps)] (24 : Nat)]) (0 : Nat), V.ptr (1 : Nat) (0 : Nat))] <| .rw 8004 [] [(4, V.ptr (List.length [Blk.cells [V.imm false (3 : Nat) (List.map ePk ps)] (24 : Nat), Blk.cells [V.int IntKind.i64 (Pk.f p), V.int IntKind.i64 (Pk.t p), V.str (Pk.s p)] (30 : Nat)]) (0 : Nat), V.ptr ((1 : Nat) + (1 : Nat)) (0 : Nat))] <| .call 7 22 ([eNet ps]) (eNl ps) <| .rw 8010 [] [(10, V.int IntKind.i64 (↑(List.length (List.map ePk ps)) : Int), V.int IntKind.i64 (↑(List.length ps) : Int))] <| .rw 8011 [] [(11, V.bool (decide ((↑(List.length ps) : Int) ≥ (4096 : Int))), V.bool true)] <| .ret (V.tup [V.agg [V.imm false (3 : Nat) (List.map ePk ps)], V.int IntKind.i64 (8 : Int)])) (by kernel_rfl) ?_
  exact ⟨⟨trivial, ⟨by simp (disch := omega) only [List.length_cons, List.length_nil, Nat.zero_add], trivial⟩⟩, ⟨⟨trivial, ⟨by simp (disch := omega) only [List.length_cons, List.length_nil, Nat.zero_add], trivial⟩⟩, ⟨(Go.Fw.own_sp _ h), ⟨⟨trivial, ⟨by simp (disch := omega) only [List.length_map], trivial⟩⟩, ⟨⟨trivial, ⟨congrArg V.bool (by (simp <;> omega)), trivial⟩⟩, rfl⟩⟩⟩⟩⟩
theorem with_room (ps : List Pk) (p : Pk) (hf : ps.length < 4096) : Sp C1 23 [eNet ps, ePk p] (.tup [eNet (ps ++ [p]), .int .i64 0]) := by
  refine sp_tree draws (dm := [0]) (fs := [fN, .of .keep]) (
    .rw 8003 [] [(3, V.ptr (List.length [Blk.cells [V.imm false (3 : Nat) (List.map ePk ps)] (24 : Nat)]) (0 : Nat), V.ptr (1 : Nat) (0 : Nat))] <| .rw 8004 [] [(4, V.ptr (List.length [Blk.cells [V.imm false (3 : Nat) (List.map ePk ps)] (24 : Nat), Blk.cells [V.int IntKind.i64 (Pk.f p), V.int IntKind.i64 (Pk.t p), V.str (Pk.s p)] (30 : Nat)]) (0 : Nat), V.ptr ((1 : Nat) + (1 : Nat)) (0 : Nat))] <| .call 7 22 ([eNet ps]) (eNl ps) <| .rw 8010 [] [(10, V.int IntKind.i64 (↑(List.length (List.map ePk ps)) : Int), V.int IntKind.i64 (↑(List.length ps) : Int))] <| .rw 8011 [] [(11, V.bool (decide ((↑(List.length ps) : Int) ≥ (4096 : Int))), V.bool false)] <| .chk 17 (decide ((List.length (List.map ePk ps) + List.length [V.agg [V.int IntKind.i64 (Pk.f p), V.int IntKind.i64 (Pk.t p), V.str (Pk.s p)]]) * (32 : Nat) ≤ (140737488355328 : Nat))) <| .ret (V.tup [V.agg [V.imm false (3 : Nat) (List.map ePk ps ++ [V.agg [V.int IntKind.i64 (Pk.f p), V.int IntKind.i64 (Pk.t p), V.str (Pk.s p)]])], V.int IntKind.i64 (0 : Int)])) (by kernel_rfl) ?_
  exact ⟨⟨trivial, ⟨by simp (disch := omega) only [List.length_cons, List.length_nil, Nat.zero_add], trivial⟩⟩, ⟨⟨trivial, ⟨by simp (disch := omega) only [List.length_cons, List.length_nil, Nat.zero_add], trivial⟩⟩, ⟨(Go.Fw.own_sp _ (by omega)), ⟨⟨trivial, ⟨by simp (disch := omega) only [List.length_map], trivial⟩⟩, ⟨⟨trivial, ⟨congrArg V.bool (by (simp <;> omega)), trivial⟩⟩, ⟨by (simp <;> omega), by show _ = _; simp⟩⟩⟩⟩⟩⟩
end Go.Fw
/- Net: Send; what is alike. -/
set_option maxHeartbeats 20000000
namespace Go.Fw
open Go.Proofs
theorem send_state (ps : List Pk) (f t : Int) (s : ByteArray) (h : okNet ps = false) : Sp C1 8 [eNet ps, .int .i64 f, .int .i64 t, .str s] (.tup [eNet [], .int .i64 6]) := by
  have hc : chkE ps = 6 := by unfold chkE; rw [h]; rfl
  have hk := check_sp ps
  rw [hc] at hk
  refine sp_tree draws (dm := [0]) (fs := [fN, .of .keep]) (
    .rw 8008 [] [(8, V.ptr (List.length [Blk.cells [V.imm false (3 : Nat) (List.map ePk ps)] (24 : Nat)]) (0 : Nat), V.ptr (1 : Nat) (0 : Nat))] <| .call 12 18 ([eNet ps]) (V.int IntKind.i64 (6 : Int)) <| .ret (V.tup [V.agg [V.imm false (3 : Nat) []], V.int IntKind.i64 (6 : Int)])) (by kernel_rfl) ?_
  exact ⟨⟨trivial, ⟨by simp (disch := omega) only [List.length_cons, List.length_nil, Nat.zero_add], trivial⟩⟩, ⟨(hk), rfl⟩⟩
def sendE (ps : List Pk) (f t : Int) (s : ByteArray) : Int := if okNet ps = false then 6 else if okN f = false ∨ okN t = false then 2 else if 65536 < s.size then 4 else if 4096 ≤ ps.length then 8 else 0
theorem send_range (ps : List Pk) (f t : Int) (s : ByteArray) (h : okNet ps = true) (hb : okN f = false ∨ okN t = false) : Sp C1 8 [eNet ps, .int .i64 f, .int .i64 t, .str s] (.tup [eNet ps, .int .i64 2]) := by
  have hc : chkE ps = 0 := by unfold chkE; rw [h]; rfl
  have hk := check_sp ps
  rw [hc] at hk
  have hl : ps.length ≤ 4096 := by unfold okNet at h; simp at h; exact h.1
  refine sp_tree draws (dm := [0]) (fs := [fN, .of .keep]) (
    .rw 8008 [] [(8, V.ptr (List.length [Blk.cells [V.imm false (3 : Nat) (List.map ePk ps)] (24 : Nat)]) (0 : Nat), V.ptr (1 : Nat) (0 : Nat))] <| .call 12 18 ([eNet ps]) (V.int IntKind.i64 (0 : Int)) <| .call 17 21 ([V.int IntKind.i64 f]) (V.bool (okN f)) <| .ite 1020 ((!okN f) == false)
    (.rw 8020 [] [(17, V.bool (okN f), V.bool true), (18, V.bool !okN f, V.bool false)] <| .tt 1021 ((!okN f) == false) <| .call 21 21 ([V.int IntKind.i64 t]) (V.bool (okN t)) <| .rw 8021 [] [(21, V.bool (okN t), V.bool false)] <| .tt 1022 ((!okN f) == false) <| .ff 23 (!okN f) <| .call 25 22 ([eNet ps]) (eNl ps) <| .ret (V.tup [V.agg [V.imm false (3 : Nat) (List.map ePk ps)], V.int IntKind.i64 (2 : Int)]))
    (.ff 1021 ((!okN f) == false) <| .ff 1022 ((!okN f) == false) <| .tt 23 (!okN f) <| .call 25 22 ([eNet ps]) (eNl ps) <| .ret (V.tup [V.agg [V.imm false (3 : Nat) (List.map ePk ps)], V.int IntKind.i64 (2 : Int)]))) (by kernel_rfl) ?_
  exact ⟨⟨trivial, ⟨by simp (disch := omega) only [List.length_cons, List.length_nil, Nat.zero_add], trivial⟩⟩, ⟨(hk), ⟨(Go.Fw.node_sp _), ⟨fun h0 => have h0p : okN f = true := (by simpa using h0); ⟨⟨trivial, ⟨congrArg V.bool (h0p), ⟨congrArg V.bool (by simp_all), trivial⟩⟩⟩, ⟨(h0), ⟨(Go.Fw.node_sp _), ⟨⟨trivial, ⟨congrArg V.bool (by simp_all), trivial⟩⟩, ⟨(h0), ⟨by simp_all, ⟨(Go.Fw.own_sp _ (by omega)), rfl⟩⟩⟩⟩⟩⟩⟩,
    fun h0 => have h0p : okN f = false := (by simpa using h0); ⟨(h0), ⟨(h0), ⟨by simp_all, ⟨(Go.Fw.own_sp _ (by omega)), rfl⟩⟩⟩⟩⟩⟩⟩⟩
theorem send_long (ps : List Pk) (f t : Int) (s : ByteArray) (h : okNet ps = true) (hf : okN f = true) (ht : okN t = true) (hs : 65536 < s.size) : Sp C1 8 [eNet ps, .int .i64 f, .int .i64 t, .str s] (.tup [eNet ps, .int .i64 4]) := by
  have hc : chkE ps = 0 := by unfold chkE; rw [h]; rfl
  have hk := check_sp ps
  rw [hc] at hk
  have hl : ps.length ≤ 4096 := by unfold okNet at h; simp at h; exact h.1
  refine sp_tree draws (dm := [0]) (fs := [fN, .of .keep]) (
    .rw 8008 [] [(8, V.ptr (List.length [Blk.cells [V.imm false (3 : Nat) (List.map ePk ps)] (24 : Nat)]) (0 : Nat), V.ptr (1 : Nat) (0 : Nat))] <| .call 12 18 ([eNet ps]) (V.int IntKind.i64 (0 : Int)) <| .call 17 21 ([V.int IntKind.i64 f]) (V.bool (okN f)) <| .rw 8017 [] [(17, V.bool (okN f), V.bool true)] <| .call 21 21 ([V.int IntKind.i64 t]) (V.bool (okN t)) <| .rw 8021 [] [(21, V.bool (okN t), V.bool true)] <| .rw 8029 [] [(29, V.bool (decide ((↑(ByteArray.size s) : Int) > (65536 : Int))), V.bool true)] <| .call 31 22 ([eNet ps]) (eNl ps) <| .ret (V.tup [V.agg [V.imm false (3 : Nat) (List.map ePk ps)], V.int IntKind.i64 (4 : Int)])) (by kernel_rfl) ?_
  exact ⟨⟨trivial, ⟨by simp (disch := omega) only [List.length_cons, List.length_nil, Nat.zero_add], trivial⟩⟩, ⟨(hk), ⟨(Go.Fw.node_sp _), ⟨⟨trivial, ⟨congrArg V.bool (hf), trivial⟩⟩, ⟨(Go.Fw.node_sp _), ⟨⟨trivial, ⟨congrArg V.bool (ht), trivial⟩⟩, ⟨⟨trivial, ⟨congrArg V.bool (by (simp <;> omega)), trivial⟩⟩, ⟨(Go.Fw.own_sp _ (by omega)), rfl⟩⟩⟩⟩⟩⟩⟩⟩
theorem send_full (ps : List Pk) (f t : Int) (s : ByteArray) (h : okNet ps = true) (hf : okN f = true) (ht : okN t = true) (hs : s.size ≤ 65536) (hm : 4096 ≤ ps.length) : Sp C1 8 [eNet ps, .int .i64 f, .int .i64 t, .str s] (.tup [eNet ps, .int .i64 8]) := by
  have hc : chkE ps = 0 := by unfold chkE; rw [h]; rfl
  have hk := check_sp ps
  rw [hc] at hk
  have hl : ps.length ≤ 4096 := by unfold okNet at h; simp at h; exact h.1
  have hw := with_full ps ⟨f, t, s⟩ (by omega) hm
  refine sp_tree draws (dm := [0]) (fs := [fN, .of .keep]) (
    .rw 8008 [] [(8, V.ptr (List.length [Blk.cells [V.imm false (3 : Nat) (List.map ePk ps)] (24 : Nat)]) (0 : Nat), V.ptr (1 : Nat) (0 : Nat))] <| .call 12 18 ([eNet ps]) (V.int IntKind.i64 (0 : Int)) <| .call 17 21 ([V.int IntKind.i64 f]) (V.bool (okN f)) <| .rw 8017 [] [(17, V.bool (okN f), V.bool true)] <| .call 21 21 ([V.int IntKind.i64 t]) (V.bool (okN t)) <| .rw 8021 [] [(21, V.bool (okN t), V.bool true)] <| .rw 8029 [] [(29, V.bool (decide ((↑(ByteArray.size s) : Int) > (65536 : Int))), V.bool false)] <| .call 37 23 ([eNet ps, ePk (Pk.mk f t s)]) (V.tup [eNet ps, V.int IntKind.i64 (8 : Int)]) <| .ret (V.tup [V.agg [V.imm false (3 : Nat) (List.map ePk ps)], V.int IntKind.i64 (8 : Int)])) (by kernel_rfl) ?_
  exact ⟨⟨trivial, ⟨by simp (disch := omega) only [List.length_cons, List.length_nil, Nat.zero_add], trivial⟩⟩, ⟨(hk), ⟨(Go.Fw.node_sp _), ⟨⟨trivial, ⟨congrArg V.bool (hf), trivial⟩⟩, ⟨(Go.Fw.node_sp _), ⟨⟨trivial, ⟨congrArg V.bool (ht), trivial⟩⟩, ⟨⟨trivial, ⟨congrArg V.bool (by (simp <;> omega)), trivial⟩⟩, ⟨(hw), rfl⟩⟩⟩⟩⟩⟩⟩⟩
theorem send_ok (ps : List Pk) (f t : Int) (s : ByteArray) (h : okNet ps = true) (hf : okN f = true) (ht : okN t = true) (hs : s.size ≤ 65536) (hm : ps.length < 4096) : Sp C1 8 [eNet ps, .int .i64 f, .int .i64 t, .str s] (.tup [eNet (ps ++ [⟨f, t, s⟩]), .int .i64 0]) := by
  have hc : chkE ps = 0 := by unfold chkE; rw [h]; rfl
  have hk := check_sp ps
  rw [hc] at hk
  have hw := with_room ps ⟨f, t, s⟩ hm
  refine sp_tree draws (dm := [0]) (fs := [fN, .of .keep]) (
    .rw 8008 [] [(8, V.ptr (List.length [Blk.cells [V.imm false (3 : Nat) (List.map ePk ps)] (24 : Nat)]) (0 : Nat), V.ptr (1 : Nat) (0 : Nat))] <| .call 12 18 ([eNet ps]) (V.int IntKind.i64 (0 : Int)) <| .call 17 21 ([V.int IntKind.i64 f]) (V.bool (okN f)) <| .rw 8017 [] [(17, V.bool (okN f), V.bool true)] <| .call 21 21 ([V.int IntKind.i64 t]) (V.bool (okN t)) <| .rw 8021 [] [(21, V.bool (okN t), V.bool true)] <| .rw 8029 [] [(29, V.bool (decide ((↑(ByteArray.size s) : Int) > (65536 : Int))), V.bool false)] <| .call 37 23 ([eNet ps, ePk (Pk.mk f t s)]) (V.tup [eNet (ps ++ [Pk.mk f t s]), V.int IntKind.i64 (0 : Int)]) <| .ret (V.tup [V.agg [V.imm false (3 : Nat) (List.map ePk (ps ++ [Pk.mk f t s]))], V.int IntKind.i64 (0 : Int)])) (by kernel_rfl) ?_
  exact ⟨⟨trivial, ⟨by simp (disch := omega) only [List.length_cons, List.length_nil, Nat.zero_add], trivial⟩⟩, ⟨(hk), ⟨(Go.Fw.node_sp _), ⟨⟨trivial, ⟨congrArg V.bool (hf), trivial⟩⟩, ⟨(Go.Fw.node_sp _), ⟨⟨trivial, ⟨congrArg V.bool (ht), trivial⟩⟩, ⟨⟨trivial, ⟨congrArg V.bool (by (simp <;> omega)), trivial⟩⟩, ⟨(hw), rfl⟩⟩⟩⟩⟩⟩⟩⟩
theorem send2_state (ps : List Pk) (f t : Int) (s : ByteArray) (h : okNet ps = false) : Sp C1 9 [eNet ps, .int .i64 f, .int .i64 t, .str s] (.tup [eNet [], .int .i64 6]) := by
  have hc : chkE ps = 6 := by unfold chkE; rw [h]; rfl
  have hk := check2_sp ps
  rw [hc] at hk
  refine sp_tree draws (dm := [0]) (fs := [fN, .of .keep]) (
    .rw 8008 [] [(8, V.ptr (List.length [Blk.cells [V.imm false (3 : Nat) (List.map ePk ps)] (24 : Nat)]) (0 : Nat), V.ptr (1 : Nat) (0 : Nat))] <| .call 11 19 ([eNet ps]) (V.int IntKind.i64 (6 : Int)) <| .ret (V.tup [V.agg [V.imm false (3 : Nat) []], V.int IntKind.i64 (6 : Int)])) (by kernel_rfl) ?_
  exact ⟨⟨trivial, ⟨by simp (disch := omega) only [List.length_cons, List.length_nil, Nat.zero_add], trivial⟩⟩, ⟨(hk), rfl⟩⟩
theorem send2_range (ps : List Pk) (f t : Int) (s : ByteArray) (h : okNet ps = true) (hb : okN f = false ∨ okN t = false) : Sp C1 9 [eNet ps, .int .i64 f, .int .i64 t, .str s] (.tup [eNet ps, .int .i64 2]) := by
  have hc : chkE ps = 0 := by unfold chkE; rw [h]; rfl
  have hk := check2_sp ps
  rw [hc] at hk
  have hl : ps.length ≤ 4096 := by unfold okNet at h; simp at h; exact h.1
  refine sp_tree draws (dm := [0]) (fs := [fN, .of .keep]) (
    .rw 8008 [] [(8, V.ptr (List.length [Blk.cells [V.imm false (3 : Nat) (List.map ePk ps)] (24 : Nat)]) (0 : Nat), V.ptr (1 : Nat) (0 : Nat))] <| .call 11 19 ([eNet ps]) (V.int IntKind.i64 (0 : Int)) <| .call 15 7 ([eNet ps]) (eNl ps) <| .call 18 24 ([V.int IntKind.i64 f]) (V.bool (okN f)) <| .ite 1021 ((!okN f) == false)
    (.rw 8021 [] [(18, V.bool (okN f), V.bool true), (19, V.bool !okN f, V.bool false)] <| .tt 1022 ((!okN f) == false) <| .call 22 24 ([V.int IntKind.i64 t]) (V.bool (okN t)) <| .rw 8022 [] [(22, V.bool (okN t), V.bool false)] <| .tt 1023 ((!okN f) == false) <| .ff 24 (!okN f) <| .ret (V.tup [V.agg [V.imm false (3 : Nat) (List.map ePk ps)], V.int IntKind.i64 (2 : Int)]))
    (.ff 1022 ((!okN f) == false) <| .ff 1023 ((!okN f) == false) <| .tt 24 (!okN f) <| .ret (V.tup [V.agg [V.imm false (3 : Nat) (List.map ePk ps)], V.int IntKind.i64 (2 : Int)]))) (by kernel_rfl) ?_
  exact ⟨⟨trivial, ⟨by simp (disch := omega) only [List.length_cons, List.length_nil, Nat.zero_add], trivial⟩⟩, ⟨(hk), ⟨(Go.Fw.own2_sp _ (by omega)), ⟨(Go.Fw.node2_sp _), ⟨fun h0 => have h0p : okN f = true := (by simpa using h0); ⟨⟨trivial, ⟨congrArg V.bool (h0p), ⟨congrArg V.bool (by simp_all), trivial⟩⟩⟩, ⟨(h0), ⟨(Go.Fw.node2_sp _), ⟨⟨trivial, ⟨congrArg V.bool (by simp_all), trivial⟩⟩, ⟨(h0), ⟨by simp_all, rfl⟩⟩⟩⟩⟩⟩,
    fun h0 => have h0p : okN f = false := (by simpa using h0); ⟨(h0), ⟨(h0), ⟨by simp_all, rfl⟩⟩⟩⟩⟩⟩⟩⟩
theorem send2_long (ps : List Pk) (f t : Int) (s : ByteArray) (h : okNet ps = true) (hf : okN f = true) (ht : okN t = true) (hs : 65536 < s.size) : Sp C1 9 [eNet ps, .int .i64 f, .int .i64 t, .str s] (.tup [eNet ps, .int .i64 4]) := by
  have hc : chkE ps = 0 := by unfold chkE; rw [h]; rfl
  have hk := check2_sp ps
  rw [hc] at hk
  have hl : ps.length ≤ 4096 := by unfold okNet at h; simp at h; exact h.1
  refine sp_tree draws (dm := [0]) (fs := [fN, .of .keep]) (
    .rw 8008 [] [(8, V.ptr (List.length [Blk.cells [V.imm false (3 : Nat) (List.map ePk ps)] (24 : Nat)]) (0 : Nat), V.ptr (1 : Nat) (0 : Nat))] <| .call 11 19 ([eNet ps]) (V.int IntKind.i64 (0 : Int)) <| .call 15 7 ([eNet ps]) (eNl ps) <| .call 18 24 ([V.int IntKind.i64 f]) (V.bool (okN f)) <| .rw 8018 [] [(18, V.bool (okN f), V.bool true)] <| .call 22 24 ([V.int IntKind.i64 t]) (V.bool (okN t)) <| .rw 8022 [] [(22, V.bool (okN t), V.bool true)] <| .rw 8029 [] [(29, V.bool (decide ((↑(ByteArray.size s) : Int) > (65536 : Int))), V.bool true)] <| .ret (V.tup [V.agg [V.imm false (3 : Nat) (List.map ePk ps)], V.int IntKind.i64 (4 : Int)])) (by kernel_rfl) ?_
  exact ⟨⟨trivial, ⟨by simp (disch := omega) only [List.length_cons, List.length_nil, Nat.zero_add], trivial⟩⟩, ⟨(hk), ⟨(Go.Fw.own2_sp _ (by omega)), ⟨(Go.Fw.node2_sp _), ⟨⟨trivial, ⟨congrArg V.bool (hf), trivial⟩⟩, ⟨(Go.Fw.node2_sp _), ⟨⟨trivial, ⟨congrArg V.bool (ht), trivial⟩⟩, ⟨⟨trivial, ⟨congrArg V.bool (by (simp <;> omega)), trivial⟩⟩, rfl⟩⟩⟩⟩⟩⟩⟩⟩
theorem send2_full (ps : List Pk) (f t : Int) (s : ByteArray) (h : okNet ps = true) (hf : okN f = true) (ht : okN t = true) (hs : s.size ≤ 65536) (hm : 4096 ≤ ps.length) : Sp C1 9 [eNet ps, .int .i64 f, .int .i64 t, .str s] (.tup [eNet ps, .int .i64 8]) := by
  have hc : chkE ps = 0 := by unfold chkE; rw [h]; rfl
  have hk := check2_sp ps
  rw [hc] at hk
  have hl : ps.length ≤ 4096 := by unfold okNet at h; simp at h; exact h.1
  refine sp_tree draws (dm := [0]) (fs := [fN, .of .keep]) (
    .rw 8008 [] [(8, V.ptr (List.length [Blk.cells [V.imm false (3 : Nat) (List.map ePk ps)] (24 : Nat)]) (0 : Nat), V.ptr (1 : Nat) (0 : Nat))] <| .call 11 19 ([eNet ps]) (V.int IntKind.i64 (0 : Int)) <| .call 15 7 ([eNet ps]) (eNl ps) <| .call 18 24 ([V.int IntKind.i64 f]) (V.bool (okN f)) <| .rw 8018 [] [(18, V.bool (okN f), V.bool true)] <| .call 22 24 ([V.int IntKind.i64 t]) (V.bool (okN t)) <| .rw 8022 [] [(22, V.bool (okN t), V.bool true)] <| .rw 8029 [] [(29, V.bool (decide ((↑(ByteArray.size s) : Int) > (65536 : Int))), V.bool false)] <| .rw 8034 [] [(34, V.int IntKind.i64 (↑(List.length (List.map ePk ps)) : Int), V.int IntKind.i64 (↑(List.length ps) : Int))] <| .rw 8035 [] [(35, V.bool (decide ((↑(List.length ps) : Int) ≥ (4096 : Int))), V.bool true)] <| .ret (V.tup [V.agg [V.imm false (3 : Nat) (List.map ePk ps)], V.int IntKind.i64 (8 : Int)])) (by kernel_rfl) ?_
  exact ⟨⟨trivial, ⟨by simp (disch := omega) only [List.length_cons, List.length_nil, Nat.zero_add], trivial⟩⟩, ⟨(hk), ⟨(Go.Fw.own2_sp _ (by omega)), ⟨(Go.Fw.node2_sp _), ⟨⟨trivial, ⟨congrArg V.bool (hf), trivial⟩⟩, ⟨(Go.Fw.node2_sp _), ⟨⟨trivial, ⟨congrArg V.bool (ht), trivial⟩⟩, ⟨⟨trivial, ⟨congrArg V.bool (by (simp <;> omega)), trivial⟩⟩, ⟨⟨trivial, ⟨by simp (disch := omega) only [List.length_map], trivial⟩⟩, ⟨⟨trivial, ⟨congrArg V.bool (by (simp <;> omega)), trivial⟩⟩, rfl⟩⟩⟩⟩⟩⟩⟩⟩⟩⟩
theorem send2_ok (ps : List Pk) (f t : Int) (s : ByteArray) (h : okNet ps = true) (hf : okN f = true) (ht : okN t = true) (hs : s.size ≤ 65536) (hm : ps.length < 4096) : Sp C1 9 [eNet ps, .int .i64 f, .int .i64 t, .str s] (.tup [eNet (ps ++ [⟨f, t, s⟩]), .int .i64 0]) := by
  have hc : chkE ps = 0 := by unfold chkE; rw [h]; rfl
  have hk := check2_sp ps
  rw [hc] at hk
  refine sp_tree draws (dm := [0]) (fs := [fN, .of .keep]) (
    .rw 8008 [] [(8, V.ptr (List.length [Blk.cells [V.imm false (3 : Nat) (List.map ePk ps)] (24 : Nat)]) (0 : Nat), V.ptr (1 : Nat) (0 : Nat))] <| .call 11 19 ([eNet ps]) (V.int IntKind.i64 (0 : Int)) <| .call 15 7 ([eNet ps]) (eNl ps) <| .call 18 24 ([V.int IntKind.i64 f]) (V.bool (okN f)) <| .rw 8018 [] [(18, V.bool (okN f), V.bool true)] <| .call 22 24 ([V.int IntKind.i64 t]) (V.bool (okN t)) <| .rw 8022 [] [(22, V.bool (okN t), V.bool true)] <| .rw 8029 [] [(29, V.bool (decide ((↑(ByteArray.size s) : Int) > (65536 : Int))), V.bool false)] <| .rw 8034 [] [(34, V.int IntKind.i64 (↑(List.length (List.map ePk ps)) : Int), V.int IntKind.i64 (↑(List.length ps) : Int))] <| .rw 8035 [] [(35, V.bool (decide ((↑(List.length ps) : Int) ≥ (4096 : Int))), V.bool false)] <| .chk 44 (decide ((List.length (List.map ePk ps) + List.length [V.agg [V.int IntKind.i64 f, V.int IntKind.i64 t, V.str s]]) * (32 : Nat) ≤ (140737488355328 : Nat))) <| .ret (V.tup [V.agg [V.imm false (3 : Nat) (List.map ePk ps ++ [V.agg [V.int IntKind.i64 f, V.int IntKind.i64 t, V.str s]])], V.int IntKind.i64 (0 : Int)])) (by kernel_rfl) ?_
  exact ⟨⟨trivial, ⟨by simp (disch := omega) only [List.length_cons, List.length_nil, Nat.zero_add], trivial⟩⟩, ⟨(hk), ⟨(Go.Fw.own2_sp _ (by omega)), ⟨(Go.Fw.node2_sp _), ⟨⟨trivial, ⟨congrArg V.bool (hf), trivial⟩⟩, ⟨(Go.Fw.node2_sp _), ⟨⟨trivial, ⟨congrArg V.bool (ht), trivial⟩⟩, ⟨⟨trivial, ⟨congrArg V.bool (by (simp <;> omega)), trivial⟩⟩, ⟨⟨trivial, ⟨by simp (disch := omega) only [List.length_map], trivial⟩⟩, ⟨⟨trivial, ⟨congrArg V.bool (by (simp <;> omega)), trivial⟩⟩, ⟨by (simp <;> omega), by show _ = _; simp⟩⟩⟩⟩⟩⟩⟩⟩⟩⟩⟩
end Go.Fw
/- slices.Delete at packets: one is taken out, in place. -/
set_option maxHeartbeats 20000000
namespace Go.Fw
open Go.Proofs
def cellsP (ps : List Pk) : List V := (ps.map ePk).flatMap V.cells
theorem cellsP_nil : cellsP [] = [] := rfl
theorem cellsP_cons (p : Pk) (ps : List Pk) : cellsP (p :: ps) = .int .i64 p.f :: .int .i64 p.t :: .str p.s :: cellsP ps := rfl
theorem cellsP_len (ps : List Pk) : (cellsP ps).length = ps.length * 3 := by
  induction ps with
  | nil => rfl
  | cons p ps ih => rw [cellsP_cons]; simp [ih]; omega
theorem cellsP_app (ps qs : List Pk) : cellsP (ps ++ qs) = cellsP ps ++ cellsP qs := by simp [cellsP]
theorem cellsP_drop (ps : List Pk) (k : Nat) : (cellsP ps).drop (k * 3) = cellsP (ps.drop k) := by
  induction ps generalizing k with
  | nil => simp [cellsP_nil]
  | cons p ps ih =>
    cases k with
    | zero => rfl
    | succ k => rw [show (k + 1) * 3 = k * 3 + 3 by omega, cellsP_cons]; simpa using ih k
theorem cellsP_take (ps : List Pk) (k : Nat) : (cellsP ps).take (k * 3) = cellsP (ps.take k) := by
  induction ps generalizing k with
  | nil => simp [cellsP_nil]
  | cons p ps ih =>
    cases k with
    | zero => rfl
    | succ k => rw [show (k + 1) * 3 = k * 3 + 1 + 1 + 1 by omega, cellsP_cons, List.take_succ_cons, List.take_succ_cons, List.take_succ_cons, ih, List.take_succ_cons, cellsP_cons]
theorem cellsP_ok (ps : List Pk) : (cellsP ps).all (fun c => !isLin1 c && okV c) = true := by
  induction ps with
  | nil => rfl
  | cons p ps ih => rw [cellsP_cons]; simp only [List.all_cons, ih]; rfl
theorem cellsP_ok2 (ps : List Pk) (o k : Nat) : (((cellsP ps).drop o).take k).all (fun c => !isLin1 c && okV c) = true := by
  have := cellsP_ok ps
  rw [List.all_eq_true] at this ⊢
  exact fun x hx => this x (List.mem_of_mem_drop (List.mem_of_mem_take hx))
abbrev zP : List V := [.int .i64 0, .int .i64 0, .str ByteArray.empty]
theorem del_cells (ps : List Pk) (i : Nat) (hi : i < ps.length) :
    setAt (setAt (cellsP ps) (i * 3) (((cellsP ps).drop ((i + 1) * 3)).take ((ps.length - (i + 1)) * 3))) ((ps.length - 1) * 3) zP = cellsP (ps.eraseIdx i) ++ zP := by
  rw [cellsP_drop, cellsP_take]
  have e1 : (ps.drop (i + 1)).take (ps.length - (i + 1)) = ps.drop (i + 1) := List.take_of_length_le (by simp)
  rw [e1]
  have l1 : (cellsP (ps.drop (i + 1))).length = (ps.length - (i + 1)) * 3 := by rw [cellsP_len, List.length_drop]
  rw [setAt_eq (cellsP (ps.drop (i + 1))) _ _ (by rw [l1, cellsP_len]; omega), l1]
  have e2 : i * 3 + (ps.length - (i + 1)) * 3 = (ps.length - 1) * 3 := by omega
  rw [e2, cellsP_take, cellsP_drop, ← cellsP_app, ← List.eraseIdx_eq_take_drop_succ]
  have l2 : (cellsP (ps.eraseIdx i)).length = (ps.length - 1) * 3 := by rw [cellsP_len, List.length_eraseIdx_of_lt hi]
  have l3 : (cellsP (ps.drop (ps.length - 1))).length = 3 := by rw [cellsP_len, List.length_drop]; omega
  rw [setAt_eq zP _ _ (by rw [List.length_append, l2, l3]; simp), List.take_append_of_le_length (by omega), List.take_of_length_le (by omega), List.drop_of_length_le (by rw [List.length_append, l2, l3]; simp), List.append_nil]
theorem delete_sp (A B D E : Blk) (ps : List Pk) (i : Nat) (hi : i < ps.length) (hl : ps.length ≤ 4096) : SpH C1 25 [.own 3 0 ps.length ps.length, .int .i64 (i : Int), .int .i64 ((i + 1 : Nat) : Int)] [A, B, D, .cells (cellsP ps) 30, E]
    (.own 3 0 (ps.length - 1) ps.length) [A, B, D, .cells (cellsP (ps.eraseIdx i) ++ zP) 30, E] := by
  have e1 : i + (ps.length - (i + 1)) = ps.length - 1 := by omega
  have e2 : ps.length - (ps.length - 1) = 1 := by omega
  have hd := del_cells ps i hi
  refine spH_tree draws (
    .chk 13 (decide ((0 : Int) ≤ (↑i : Int) ∧ (↑i : Int) ≤ (↑(i + (1 : Nat)) : Int) ∧ (↑(i + (1 : Nat)) : Int) ≤ (↑(List.length ps) : Int) ∧ (↑(List.length ps) : Int) ≤ (↑(max (List.length ps) (List.length ps)) : Int))) <| .rw 8013 [] [(13, V.own (3 : Nat) ((0 : Nat) + Int.toNat (↑i : Int) * (3 : Nat)) (Int.toNat (↑(i + (1 : Nat)) : Int) - Int.toNat (↑i : Int)) (Int.toNat (↑(List.length ps) : Int) - Int.toNat (↑i : Int)), V.own (3 : Nat) (i * (3 : Nat)) (i + (1 : Nat) - i) (List.length ps - i))] <| .rw 8016 [] [(16, V.bool ((↑i : Int) == (↑(i + (1 : Nat)) : Int)), V.bool false)] <| .chk 22 (decide ((0 : Int) ≤ (0 : Int) ∧ (0 : Int) ≤ (↑i : Int) ∧ (↑i : Int) ≤ max (↑(List.length ps) : Int) (↑(List.length ps) : Int) ∧ max (↑(List.length ps) : Int) (↑(List.length ps) : Int) ≤ (↑(max (List.length ps) (List.length ps)) : Int))) <| .rw 8022 [] [(22, V.own (3 : Nat) (0 : Nat) (Int.toNat (↑i : Int) - (0 : Nat)) (Int.toNat (max (↑(List.length ps) : Int) (↑(List.length ps) : Int)) - (0 : Nat)), V.own (3 : Nat) (0 : Nat) i (List.length ps))] <| .chk 25 (decide ((0 : Int) ≤ (↑(i + (1 : Nat)) : Int) ∧ (↑(i + (1 : Nat)) : Int) ≤ (↑(List.length ps) : Int) ∧ (↑(List.length ps) : Int) ≤ max (↑(List.length ps) : Int) (↑(List.length ps) : Int) ∧ max (↑(List.length ps) : Int) (↑(List.length ps) : Int) ≤ (↑(max (List.length ps) (List.length ps)) : Int))) <| .rw 8025 [] [(25, V.own (3 : Nat) ((0 : Nat) + Int.toNat (↑(i + (1 : Nat)) : Int) * (3 : Nat)) (Int.toNat (↑(List.length ps) : Int) - Int.toNat (↑(i + (1 : Nat)) : Int)) (Int.toNat (max (↑(List.length ps) : Int) (↑(List.length ps) : Int)) - Int.toNat (↑(i + (1 : Nat)) : Int)), V.own (3 : Nat) ((i + (1 : Nat)) * (3 : Nat)) (List.length ps - (i + (1 : Nat))) (List.length ps - (i + (1 : Nat))))] <| .chk 6026 (decide ((22 : Nat) = (22 : Nat) ∧ (0 : Nat) < (3 : Nat) ∧ List.length (List.take ((List.length ps - (i + (1 : Nat))) * (3 : Nat)) (List.drop ((i + (1 : Nat)) * (3 : Nat)) (cellsP ps))) = (List.length ps - (i + (1 : Nat))) * (3 : Nat) ∧ i + (List.length ps - (i + (1 : Nat))) ≤ List.length ps ∧ (0 : Nat) + (i + (List.length ps - (i + (1 : Nat)))) * (3 : Nat) ≤ List.length (cellsP ps)) && List.all (List.take ((List.length ps - (i + (1 : Nat))) * (3 : Nat)) (List.drop ((i + (1 : Nat)) * (3 : Nat)) (cellsP ps))) fun c => !isLin1 c && okV c) <| .rw 8026 [(3, setAt (cellsP ps) ((0 : Nat) + i * (3 : Nat)) (List.take ((List.length ps - (i + (1 : Nat))) * (3 : Nat)) (List.drop ((i + (1 : Nat)) * (3 : Nat)) (cellsP ps))), setAt (cellsP ps) (i * (3 : Nat)) (List.take ((List.length ps - (i + (1 : Nat))) * (3 : Nat)) (List.drop ((i + (1 : Nat)) * (3 : Nat)) (cellsP ps))))] [] <| .chk 31 (decide ((0 : Int) ≤ (↑(i + (List.length ps - (i + (1 : Nat)))) : Int) ∧ (↑(i + (List.length ps - (i + (1 : Nat)))) : Int) ≤ (↑(List.length ps) : Int) ∧ (↑(List.length ps) : Int) ≤ max (↑(i + (List.length ps - (i + (1 : Nat)))) : Int) (↑(List.length ps) : Int) ∧ max (↑(i + (List.length ps - (i + (1 : Nat)))) : Int) (↑(List.length ps) : Int) ≤ (↑(max (i + (List.length ps - (i + (1 : Nat)))) (List.length ps)) : Int))) <| .rw 8031 [] [(31, V.own (3 : Nat) ((0 : Nat) + Int.toNat (↑(i + (List.length ps - (i + (1 : Nat)))) : Int) * (3 : Nat)) (Int.toNat (↑(List.length ps) : Int) - Int.toNat (↑(i + (List.length ps - (i + (1 : Nat)))) : Int)) (Int.toNat (max (↑(i + (List.length ps - (i + (1 : Nat)))) : Int) (↑(List.length ps) : Int)) - Int.toNat (↑(i + (List.length ps - (i + (1 : Nat)))) : Int)), V.own (3 : Nat) ((i + (List.length ps - (i + (1 : Nat)))) * (3 : Nat)) (List.length ps - (i + (List.length ps - (i + (1 : Nat))))) (max (i + (List.length ps - (i + (1 : Nat)))) (List.length ps) - (i + (List.length ps - (i + (1 : Nat))))))] <| .chk 999 (decide ((0 : Nat) < (3 : Nat) ∧ (3 : Nat) = (3 : Nat) ∧ true = true ∧ true = true ∧ true = true ∧ (i + (List.length ps - (i + (1 : Nat)))) * (3 : Nat) + (List.length ps - (i + (List.length ps - (i + (1 : Nat))))) * (3 : Nat) ≤ List.length (setAt (cellsP ps) (i * (3 : Nat)) (List.take ((List.length ps - (i + (1 : Nat))) * (3 : Nat)) (List.drop ((i + (1 : Nat)) * (3 : Nat)) (cellsP ps)))))) <| .ret ((V.own (3 : Nat) (0 : Nat) (i + (List.length ps - (i + (1 : Nat)))) (List.length ps), [A, B, D, Blk.cells (setAt (setAt (cellsP ps) (i * (3 : Nat)) (List.take ((List.length ps - (i + (1 : Nat))) * (3 : Nat)) (List.drop ((i + (1 : Nat)) * (3 : Nat)) (cellsP ps)))) ((i + (List.length ps - (i + (1 : Nat)))) * (3 : Nat)) (List.flatten (List.replicate (List.length ps - (i + (List.length ps - (i + (1 : Nat))))) [V.int IntKind.i64 (0 : Int), V.int IntKind.i64 (0 : Int), V.str (ByteArray.mk #[])]))) (30 : Nat), E]))) (by kernel_rfl) ?_
  exact ⟨by (simp [cellsP_len, cellsP_ok2] <;> omega), ⟨⟨trivial, ⟨by simp (disch := omega) only [Int.toNat_natCast, Nat.zero_add], trivial⟩⟩, ⟨⟨trivial, ⟨congrArg V.bool (by (simp [cellsP_len, cellsP_ok2] <;> omega)), trivial⟩⟩, ⟨by (simp [cellsP_len, cellsP_ok2] <;> omega), ⟨⟨trivial, ⟨by simp (disch := omega) only [Int.toNat_natCast, Nat.sub_zero, Go.Fw.max_cast, Nat.max_self], trivial⟩⟩, ⟨by (simp [cellsP_len, cellsP_ok2] <;> omega), ⟨⟨trivial, ⟨by simp (disch := omega) only [Int.toNat_natCast, Nat.zero_add, Go.Fw.max_cast, Nat.max_self], trivial⟩⟩, ⟨by (simp [cellsP_len, cellsP_ok2] <;> omega), ⟨⟨⟨by simp (disch := omega) only [Nat.zero_add], trivial⟩, trivial⟩, ⟨by (simp [cellsP_len, cellsP_ok2] <;> omega), ⟨⟨trivial, ⟨by simp (disch := omega) only [Int.toNat_natCast, Nat.zero_add, Go.Fw.max_cast], trivial⟩⟩, ⟨by (simp [cellsP_len, cellsP_ok2] <;> omega), by show _ = _; (rw [e1, e2]; exact congrArg (fun c => (V.own 3 0 (ps.length - 1) ps.length, [A, B, D, Blk.cells c 30, E])) hd)⟩⟩⟩⟩⟩⟩⟩⟩⟩⟩⟩⟩
end Go.Fw
/- Net: Deliver. -/
set_option maxHeartbeats 20000000
namespace Go.Fw
open Go.Proofs
theorem chunk_cells : ∀ (ps : List Pk) (rest : List V), chunk 3 ps.length (cellsP ps ++ rest) = ps.map ePk
  | [], rest => rfl
  | p :: ps, rest => by
    rw [cellsP_cons, List.length_cons]
    show V.agg _ :: chunk 3 ps.length _ = _
    exact congrArg (ePk p :: ·) (chunk_cells ps rest)
theorem chunk_chk (ps : List Pk) (rest : List V) {n : Nat} (hn : n = ps.length) (hr : rest.all flat1 = true) : (decide (0 + n * (2 + 1) ≤ (cellsP ps ++ rest).length) && (((cellsP ps ++ rest).drop 0).take (n * (2 + 1))).all flat1) = true := by
  have h : (cellsP ps).all flat1 = true := by
    induction ps generalizing n with
    | nil => rfl
    | cons p ps ih => rw [cellsP_cons]; simp only [List.all_cons, ih rfl]; rfl
  subst hn
  rw [Bool.and_eq_true, decide_eq_true_eq, List.length_append, cellsP_len, List.drop_zero, List.all_eq_true]
  refine ⟨by omega, fun x hx => ?_⟩
  rw [List.all_eq_true] at h hr
  rcases List.mem_append.1 (List.mem_of_mem_take hx) with hx | hx
  · exact h x hx
  · exact hr x hx
abbrev eZ : V := .agg [.int .i64 0, .int .i64 0, .str ByteArray.empty]
theorem deliver_state (ps : List Pk) (i : Int) (h : okNet ps = false) : Sp C1 10 [eNet ps, .int .i64 i] (.tup [eNet [], eZ, .int .i64 6]) := by
  have hc : chkE ps = 6 := by unfold chkE; rw [h]; rfl
  have hk := check_sp ps
  rw [hc] at hk
  refine sp_tree draws (dm := [0]) (fs := [fN, .of .keep, .of .keep]) (
    .rw 8004 [] [(4, V.ptr (List.length [Blk.cells [V.imm false (3 : Nat) (List.map ePk ps)] (24 : Nat)]) (0 : Nat), V.ptr (1 : Nat) (0 : Nat))] <| .rw 8005 [] [(5, V.ptr (List.length [Blk.cells [V.imm false (3 : Nat) (List.map ePk ps)] (24 : Nat), Blk.cells [V.nils] (24 : Nat)]) (0 : Nat), V.ptr ((1 : Nat) + (1 : Nat)) (0 : Nat))] <| .call 10 18 ([eNet ps]) (V.int IntKind.i64 (6 : Int)) <| .ret (V.tup [V.agg [V.imm false (3 : Nat) []], V.agg [V.int IntKind.i64 (0 : Int), V.int IntKind.i64 (0 : Int), V.str (ByteArray.mk #[])], V.int IntKind.i64 (6 : Int)])) (by kernel_rfl) ?_
  exact ⟨⟨trivial, ⟨by simp (disch := omega) only [List.length_cons, List.length_nil, Nat.zero_add], trivial⟩⟩, ⟨⟨trivial, ⟨by simp (disch := omega) only [List.length_cons, List.length_nil, Nat.zero_add], trivial⟩⟩, ⟨(hk), rfl⟩⟩⟩
theorem deliver_out (ps : List Pk) (i : Int) (h : okNet ps = true) (hi : i < 0 ∨ ps.length ≤ i) : Sp C1 10 [eNet ps, .int .i64 i] (.tup [eNet ps, eZ, .int .i64 7]) := by
  have hc : chkE ps = 0 := by unfold chkE; rw [h]; rfl
  have hk := check_sp ps
  rw [hc] at hk
  have hl : ps.length ≤ 4096 := by unfold okNet at h; simp at h; exact h.1
  refine sp_tree draws (dm := [0]) (fs := [fN, .of .keep, .of .keep]) (
    .rw 8004 [] [(4, V.ptr (List.length [Blk.cells [V.imm false (3 : Nat) (List.map ePk ps)] (24 : Nat)]) (0 : Nat), V.ptr (1 : Nat) (0 : Nat))] <| .rw 8005 [] [(5, V.ptr (List.length [Blk.cells [V.imm false (3 : Nat) (List.map ePk ps)] (24 : Nat), Blk.cells [V.nils] (24 : Nat)]) (0 : Nat), V.ptr ((1 : Nat) + (1 : Nat)) (0 : Nat))] <| .call 10 18 ([eNet ps]) (V.int IntKind.i64 (0 : Int)) <| .call 17 22 ([eNet ps]) (eNl ps) <| .rw 8008 [] [(8, V.ptr (List.length [Blk.cells [V.imm false (3 : Nat) (List.map ePk ps)] (24 : Nat), Blk.cells [V.nils] (24 : Nat), Blk.cells [V.int IntKind.i64 (0 : Int), V.int IntKind.i64 (0 : Int), V.str (ByteArray.mk #[])] (30 : Nat)]) (0 : Nat), V.ptr ((1 : Nat) + (1 : Nat) + (1 : Nat)) (0 : Nat))] <| .ite 1021 (decide (i < (0 : Int)) == false)
    (.rw 8021 [] [(19, V.bool (decide (i < (0 : Int))), V.bool false)] <| .tt 1022 (decide (i < (0 : Int)) == false) <| .tt 1023 (decide (i < (0 : Int)) == false) <| .tt 1024 (decide (i < (0 : Int)) == false) <| .rw 8024 [] [(24, V.int IntKind.i64 (↑(List.length (List.map ePk ps)) : Int), V.int IntKind.i64 (↑(List.length ps) : Int))] <| .tt 1025 (decide (i < (0 : Int)) == false) <| .rw 8025 [] [(25, V.bool (decide (i ≥ (↑(List.length ps) : Int))), V.bool true)] <| .ff 26 (decide (i < (0 : Int))) <| .ret (V.tup [V.agg [V.imm false (3 : Nat) (List.map ePk ps)], V.agg [V.int IntKind.i64 (0 : Int), V.int IntKind.i64 (0 : Int), V.str (ByteArray.mk #[])], V.int IntKind.i64 (7 : Int)]))
    (.ff 1022 (decide (i < (0 : Int)) == false) <| .ff 1023 (decide (i < (0 : Int)) == false) <| .ff 1024 (decide (i < (0 : Int)) == false) <| .ff 1025 (decide (i < (0 : Int)) == false) <| .tt 26 (decide (i < (0 : Int))) <| .ret (V.tup [V.agg [V.imm false (3 : Nat) (List.map ePk ps)], V.agg [V.int IntKind.i64 (0 : Int), V.int IntKind.i64 (0 : Int), V.str (ByteArray.mk #[])], V.int IntKind.i64 (7 : Int)]))) (by kernel_rfl) ?_
  exact ⟨⟨trivial, ⟨by simp (disch := omega) only [List.length_cons, List.length_nil, Nat.zero_add], trivial⟩⟩, ⟨⟨trivial, ⟨by simp (disch := omega) only [List.length_cons, List.length_nil, Nat.zero_add], trivial⟩⟩, ⟨(hk), ⟨(Go.Fw.own_sp _ (by omega)), ⟨⟨trivial, ⟨by simp (disch := omega) only [List.length_cons, List.length_nil, Nat.zero_add], trivial⟩⟩, ⟨fun h0 => have h0p : (0 : Int) ≤ i := (by simpa using h0); ⟨⟨trivial, ⟨congrArg V.bool (by (simp <;> omega)), trivial⟩⟩, ⟨(h0), ⟨(h0), ⟨(h0), ⟨⟨trivial, ⟨by simp (disch := omega) only [List.length_map], trivial⟩⟩, ⟨(h0), ⟨⟨trivial, ⟨congrArg V.bool (by (simp <;> omega)), trivial⟩⟩, ⟨by (simp <;> omega), rfl⟩⟩⟩⟩⟩⟩⟩⟩,
    fun h0 => have h0p : i < (0 : Int) := (by simpa using h0); ⟨(h0), ⟨(h0), ⟨(h0), ⟨(h0), ⟨by (simp <;> omega), rfl⟩⟩⟩⟩⟩⟩⟩⟩⟩⟩⟩
theorem deliver_ok (ps : List Pk) (i : Nat) (p : Pk) (h : okNet ps = true) (hi : ps[i]? = some p) : Sp C1 10 [eNet ps, .int .i64 (i : Int)] (.tup [eNet (ps.eraseIdx i), ePk p, .int .i64 0]) := by
  have hc : chkE ps = 0 := by unfold chkE; rw [h]; rfl
  have hk := check_sp ps
  rw [hc] at hk
  have hl : ps.length ≤ 4096 := by unfold okNet at h; simp at h; exact h.1
  have hil := (List.getElem?_eq_some_iff.1 hi).1
  have hel : (ps.eraseIdx i).length = ps.length - 1 := List.length_eraseIdx_of_lt hil
  refine sp_tree draws (dm := [0]) (fs := [fN, .of .keep, .of .keep]) (
    .rw 8004 [] [(4, V.ptr (List.length [Blk.cells [V.imm false (3 : Nat) (List.map ePk ps)] (24 : Nat)]) (0 : Nat), V.ptr (1 : Nat) (0 : Nat))] <| .rw 8005 [] [(5, V.ptr (List.length [Blk.cells [V.imm false (3 : Nat) (List.map ePk ps)] (24 : Nat), Blk.cells [V.nils] (24 : Nat)]) (0 : Nat), V.ptr ((1 : Nat) + (1 : Nat)) (0 : Nat))] <| .call 10 18 ([eNet ps]) (V.int IntKind.i64 (0 : Int)) <| .call 17 22 ([eNet ps]) (eNl ps) <| .to 8017 ([.thawAt 17 0]) <| .rw 8008 [] [(8, V.ptr (List.length [Blk.cells [V.imm false (3 : Nat) (List.map ePk ps)] (24 : Nat), Blk.cells [V.nils] (24 : Nat), Blk.cells [V.int IntKind.i64 (0 : Int), V.int IntKind.i64 (0 : Int), V.str (ByteArray.mk #[])] (30 : Nat), Blk.cells (List.flatMap V.cells (List.map ePk ps)) (30 : Nat)]) (0 : Nat), V.ptr ((1 : Nat) + (1 : Nat) + (1 : Nat) + (1 : Nat)) (0 : Nat)), (17, V.agg [V.own (List.length [Blk.cells [V.imm false (3 : Nat) (List.map ePk ps)] (24 : Nat), Blk.cells [V.nils] (24 : Nat), Blk.cells [V.int IntKind.i64 (0 : Int), V.int IntKind.i64 (0 : Int), V.str (ByteArray.mk #[])] (30 : Nat)]) (0 : Nat) (List.length (List.map ePk ps)) (List.length (List.map ePk ps))], V.agg [V.own ((1 : Nat) + (1 : Nat) + (1 : Nat)) (0 : Nat) (List.length ps) (List.length ps)])] <| .rw 8024 [] [(24, V.int IntKind.i64 (↑(List.length (List.map ePk ps)) : Int), V.int IntKind.i64 (↑(List.length ps) : Int))] <| .rw 8025 [] [(25, V.bool (decide ((↑i : Int) ≥ (↑(List.length ps) : Int))), V.bool false)] <| .rw 8033 [] [(33, V.int IntKind.i64 (IntKind.wrap IntKind.i64 ((↑i : Int) + (1 : Int))), V.int IntKind.i64 (↑(i + (1 : Nat)) : Int))] <| .callH 34 25 ([V.own (3 : Nat) (0 : Nat) (List.length ps) (List.length ps), V.int IntKind.i64 (↑i : Int), V.int IntKind.i64 (↑(i + (1 : Nat)) : Int)]) ([Blk.cells [V.imm false (3 : Nat) (List.map ePk ps)] (24 : Nat), Blk.cells [V.nils] (24 : Nat), Blk.cells [V.int IntKind.i64 (0 : Int), V.int IntKind.i64 (0 : Int), V.str (ByteArray.mk #[])] (30 : Nat), Blk.cells (cellsP ps) (30 : TypeId), Blk.cells [V.own (3 : Nat) (0 : Nat) (List.length ps) (List.length ps)] (24 : Nat)]) (V.own (3 : Nat) (0 : Nat) (List.length ps - (1 : Nat)) (List.length ps)) ([Blk.cells [V.imm false (3 : Nat) (List.map ePk ps)] (24 : Nat), Blk.cells [V.nils] (24 : Nat), Blk.cells [V.int IntKind.i64 (0 : Int), V.int IntKind.i64 (0 : Int), V.str (ByteArray.mk #[])] (30 : Nat), Blk.cells (cellsP (List.eraseIdx ps i) ++ zP) (30 : TypeId), Blk.cells [V.own (3 : Nat) (0 : Nat) (List.length ps) (List.length ps)] (24 : Nat)]) <| .opt 40 (idx (List.map ePk ps) (↑i : Int)) (ePk p) <| .chk 4003 (decide ((0 : Nat) + (List.length ps - (1 : Nat)) * (3 : Nat) ≤ List.length (cellsP (List.eraseIdx ps i) ++ [V.int IntKind.i64 (0 : Int), V.int IntKind.i64 (0 : Int), V.str (ByteArray.mk #[])])) && List.all (List.take ((List.length ps - (1 : Nat)) * (3 : Nat)) (List.drop (0 : Nat) (cellsP (List.eraseIdx ps i) ++ [V.int IntKind.i64 (0 : Int), V.int IntKind.i64 (0 : Int), V.str (ByteArray.mk #[])]))) flat1) <| .ret (V.tup [V.agg [V.imm false (3 : Nat) (chunk (3 : Nat) (List.length ps - (1 : Nat)) (List.drop (0 : Nat) (cellsP (List.eraseIdx ps i) ++ [V.int IntKind.i64 (0 : Int), V.int IntKind.i64 (0 : Int), V.str (ByteArray.mk #[])])))], V.agg [V.int IntKind.i64 (Pk.f p), V.int IntKind.i64 (Pk.t p), V.str (Pk.s p)], V.int IntKind.i64 (0 : Int)])) (by kernel_rfl) ?_
  exact ⟨⟨trivial, ⟨by simp (disch := omega) only [List.length_cons, List.length_nil, Nat.zero_add], trivial⟩⟩, ⟨⟨trivial, ⟨by simp (disch := omega) only [List.length_cons, List.length_nil, Nat.zero_add], trivial⟩⟩, ⟨(hk), ⟨(Go.Fw.own_sp _ (by omega)), ⟨⟨trivial, ⟨by simp (disch := omega) only [List.length_cons, List.length_nil, Nat.zero_add], ⟨by simp (disch := omega) only [List.length_cons, List.length_nil, Nat.zero_add, List.length_map], trivial⟩⟩⟩, ⟨⟨trivial, ⟨by simp (disch := omega) only [List.length_map], trivial⟩⟩, ⟨⟨trivial, ⟨congrArg V.bool (by (simp <;> omega)), trivial⟩⟩, ⟨⟨trivial, ⟨by simp (disch := omega) only [Go.Fw.cast_succ, Go.Fw.wrap_i64], trivial⟩⟩, ⟨(Go.Fw.delete_sp _ _ _ _ _ _ hil hl), ⟨(Go.Fw.idx_map _ hi), ⟨(Go.Fw.chunk_chk _ _ (by omega) (by simp)), by show _ = _; (rw [List.drop_zero, ← hel, chunk_cells])⟩⟩⟩⟩⟩⟩⟩⟩⟩⟩⟩
theorem deliver2_state (ps : List Pk) (i : Int) (h : okNet ps = false) : Sp C1 11 [eNet ps, .int .i64 i] (.tup [eNet [], eZ, .int .i64 6]) := by
  have hc : chkE ps = 6 := by unfold chkE; rw [h]; rfl
  have hk := check2_sp ps
  rw [hc] at hk
  refine sp_tree draws (dm := [0]) (fs := [fN, .of .keep, .of .keep]) (
    .rw 8004 [] [(4, V.ptr (List.length [Blk.cells [V.imm false (3 : Nat) (List.map ePk ps)] (24 : Nat)]) (0 : Nat), V.ptr (1 : Nat) (0 : Nat))] <| .rw 8005 [] [(5, V.ptr (List.length [Blk.cells [V.imm false (3 : Nat) (List.map ePk ps)] (24 : Nat), Blk.cells [V.nils] (24 : Nat)]) (0 : Nat), V.ptr ((1 : Nat) + (1 : Nat)) (0 : Nat))] <| .call 8 19 ([eNet ps]) (V.int IntKind.i64 (6 : Int)) <| .ret (V.tup [V.agg [V.imm false (3 : Nat) []], V.agg [V.int IntKind.i64 (0 : Int), V.int IntKind.i64 (0 : Int), V.str (ByteArray.mk #[])], V.int IntKind.i64 (6 : Int)])) (by kernel_rfl) ?_
  exact ⟨⟨trivial, ⟨by simp (disch := omega) only [List.length_cons, List.length_nil, Nat.zero_add], trivial⟩⟩, ⟨⟨trivial, ⟨by simp (disch := omega) only [List.length_cons, List.length_nil, Nat.zero_add], trivial⟩⟩, ⟨(hk), rfl⟩⟩⟩
theorem deliver2_out (ps : List Pk) (i : Int) (h : okNet ps = true) (hi : i < 0 ∨ ps.length ≤ i) : Sp C1 11 [eNet ps, .int .i64 i] (.tup [eNet ps, eZ, .int .i64 7]) := by
  have hc : chkE ps = 0 := by unfold chkE; rw [h]; rfl
  have hk := check2_sp ps
  rw [hc] at hk
  have hl : ps.length ≤ 4096 := by unfold okNet at h; simp at h; exact h.1
  refine sp_tree draws (dm := [0]) (fs := [fN, .of .keep, .of .keep]) (
    .rw 8004 [] [(4, V.ptr (List.length [Blk.cells [V.imm false (3 : Nat) (List.map ePk ps)] (24 : Nat)]) (0 : Nat), V.ptr (1 : Nat) (0 : Nat))] <| .rw 8005 [] [(5, V.ptr (List.length [Blk.cells [V.imm false (3 : Nat) (List.map ePk ps)] (24 : Nat), Blk.cells [V.nils] (24 : Nat)]) (0 : Nat), V.ptr ((1 : Nat) + (1 : Nat)) (0 : Nat))] <| .call 8 19 ([eNet ps]) (V.int IntKind.i64 (0 : Int)) <| .ite 1015 (decide (i < (0 : Int)) == false)
    (.rw 8015 [] [(13, V.bool (decide (i < (0 : Int))), V.bool false)] <| .tt 1016 (decide (i < (0 : Int)) == false) <| .tt 1017 (decide (i < (0 : Int)) == false) <| .tt 1018 (decide (i < (0 : Int)) == false) <| .rw 8018 [] [(18, V.int IntKind.i64 (↑(List.length (List.map ePk ps)) : Int), V.int IntKind.i64 (↑(List.length ps) : Int))] <| .tt 1019 (decide (i < (0 : Int)) == false) <| .rw 8019 [] [(19, V.bool (decide (i ≥ (↑(List.length ps) : Int))), V.bool true)] <| .ff 20 (decide (i < (0 : Int))) <| .call 22 7 ([eNet ps]) (eNl ps) <| .ret (V.tup [V.agg [V.imm false (3 : Nat) (List.map ePk ps)], V.agg [V.int IntKind.i64 (0 : Int), V.int IntKind.i64 (0 : Int), V.str (ByteArray.mk #[])], V.int IntKind.i64 (7 : Int)]))
    (.ff 1016 (decide (i < (0 : Int)) == false) <| .ff 1017 (decide (i < (0 : Int)) == false) <| .ff 1018 (decide (i < (0 : Int)) == false) <| .ff 1019 (decide (i < (0 : Int)) == false) <| .tt 20 (decide (i < (0 : Int))) <| .call 22 7 ([eNet ps]) (eNl ps) <| .ret (V.tup [V.agg [V.imm false (3 : Nat) (List.map ePk ps)], V.agg [V.int IntKind.i64 (0 : Int), V.int IntKind.i64 (0 : Int), V.str (ByteArray.mk #[])], V.int IntKind.i64 (7 : Int)]))) (by kernel_rfl) ?_
  exact ⟨⟨trivial, ⟨by simp (disch := omega) only [List.length_cons, List.length_nil, Nat.zero_add], trivial⟩⟩, ⟨⟨trivial, ⟨by simp (disch := omega) only [List.length_cons, List.length_nil, Nat.zero_add], trivial⟩⟩, ⟨(hk), ⟨fun h0 => have h0p : (0 : Int) ≤ i := (by simpa using h0); ⟨⟨trivial, ⟨congrArg V.bool (by (simp <;> omega)), trivial⟩⟩, ⟨(h0), ⟨(h0), ⟨(h0), ⟨⟨trivial, ⟨by simp (disch := omega) only [List.length_map], trivial⟩⟩, ⟨(h0), ⟨⟨trivial, ⟨congrArg V.bool (by (simp <;> omega)), trivial⟩⟩, ⟨by (simp <;> omega), ⟨(Go.Fw.own2_sp _ (by omega)), rfl⟩⟩⟩⟩⟩⟩⟩⟩⟩,
    fun h0 => have h0p : i < (0 : Int) := (by simpa using h0); ⟨(h0), ⟨(h0), ⟨(h0), ⟨(h0), ⟨by (simp <;> omega), ⟨(Go.Fw.own2_sp _ (by omega)), rfl⟩⟩⟩⟩⟩⟩⟩⟩⟩⟩
end Go.Fw
/- Net: the reference's Deliver, in range. -/
set_option maxHeartbeats 20000000
namespace Go.Fw
open Go.Proofs
theorem cl1 {a b l : List V} (he : l = a ++ b) (h0 : a.isEmpty = true) (h1 : b.isEmpty = true) : [] = l := by
  rw [List.isEmpty_iff] at h0 h1; rw [he, h0, h1]; rfl
theorem cl2 {a b l : List V} (he : l = a ++ b) (h0 : a.isEmpty = true) : b = l := by
  rw [List.isEmpty_iff] at h0; rw [he, h0]; rfl
theorem deliver2_ok (ps : List Pk) (i : Nat) (p : Pk) (h : okNet ps = true) (hi : ps[i]? = some p) : Sp C1 11 [eNet ps, .int .i64 (i : Int)] (.tup [eNet (ps.eraseIdx i), ePk p, .int .i64 0]) := by
  have hc : chkE ps = 0 := by unfold chkE; rw [h]; rfl
  have hk := check2_sp ps
  rw [hc] at hk
  have hl : ps.length ≤ 4096 := by unfold okNet at h; simp at h; exact h.1
  have hil := (List.getElem?_eq_some_iff.1 hi).1
  have he : (ps.eraseIdx i).map ePk = List.drop 0 (List.take i (ps.map ePk)) ++ List.drop (i + 1) (List.take ps.length (ps.map ePk)) := by
    rw [List.eraseIdx_eq_take_drop_succ, List.map_append, List.map_take, List.map_drop, List.drop_zero, show List.take ps.length (ps.map ePk) = ps.map ePk from List.take_of_length_le (by simp)]
  refine sp_tree draws (dm := [0]) (fs := [fN, .of .keep, .of .keep]) (
    .rw 8004 [] [(4, V.ptr (List.length [Blk.cells [V.imm false (3 : Nat) (List.map ePk ps)] (24 : Nat)]) (0 : Nat), V.ptr (1 : Nat) (0 : Nat))] <| .rw 8005 [] [(5, V.ptr (List.length [Blk.cells [V.imm false (3 : Nat) (List.map ePk ps)] (24 : Nat), Blk.cells [V.nils] (24 : Nat)]) (0 : Nat), V.ptr ((1 : Nat) + (1 : Nat)) (0 : Nat))] <| .call 8 19 ([eNet ps]) (V.int IntKind.i64 (0 : Int)) <| .rw 8018 [] [(18, V.int IntKind.i64 (↑(List.length (List.map ePk ps)) : Int), V.int IntKind.i64 (↑(List.length ps) : Int))] <| .rw 8019 [] [(19, V.bool (decide ((↑i : Int) ≥ (↑(List.length ps) : Int))), V.bool false)] <| .chk 28 (decide ((0 : Int) ≤ OfNat.ofNat (0 : Nat) ∧ OfNat.ofNat (0 : Nat) ≤ (↑i : Int) ∧ (↑i : Int) ≤ (↑(List.length (List.map ePk ps)) : Int))) <| .rw 8028 [] [(28, V.imm false (3 : Nat) (List.drop (0 : Nat) (List.take (Int.toNat (↑i : Int)) (List.map ePk ps))), V.imm false (3 : Nat) (List.drop (0 : Nat) (List.take i (List.map ePk ps))))] <| .ite 29 (List.isEmpty (List.drop (0 : Nat) (List.take i (List.map ePk ps))))
    (.rw 8033 [] [(33, V.int IntKind.i64 (IntKind.wrap IntKind.i64 ((↑i : Int) + (1 : Int))), V.int IntKind.i64 (↑(i + (1 : Nat)) : Int))] <| .chk 34 (decide ((0 : Int) ≤ (↑(i + (1 : Nat)) : Int) ∧ (↑(i + (1 : Nat)) : Int) ≤ (↑(List.length (List.map ePk ps)) : Int) ∧ (↑(List.length (List.map ePk ps)) : Int) ≤ (↑(List.length (List.map ePk ps)) : Int))) <| .rw 8034 [] [(34, V.imm false (3 : Nat) (List.drop (Int.toNat (↑(i + (1 : Nat)) : Int)) (List.take (Int.toNat (↑(List.length (List.map ePk ps)) : Int)) (List.map ePk ps))), V.imm false (3 : Nat) (List.drop (i + (1 : Nat)) (List.take (List.length ps) (List.map ePk ps))))] <| .ite 35 (List.isEmpty (List.drop (i + (1 : Nat)) (List.take (List.length ps) (List.map ePk ps))))
      (.opt 40 (idx (List.map ePk ps) (↑i : Int)) (ePk p) <| .ret (V.tup [V.agg [V.imm false (3 : Nat) []], V.agg [V.int IntKind.i64 (Pk.f p), V.int IntKind.i64 (Pk.t p), V.str (Pk.s p)], V.int IntKind.i64 (0 : Int)]))
      (.chk 35 (decide (((0 : Nat) + List.length (List.drop (i + (1 : Nat)) (List.take (List.length ps) (List.map ePk ps)))) * (32 : Nat) ≤ (140737488355328 : Nat))) <| .rw 8035 [] [(35, V.lin true (30 : Nat) (3 : Nat) ([] ++ List.drop (i + (1 : Nat)) (List.take (List.length ps) (List.map ePk ps))), V.lin true (30 : Nat) (3 : Nat) (List.drop (i + (1 : Nat)) (List.take (List.length ps) (List.map ePk ps))))] <| .opt 40 (idx (List.map ePk ps) (↑i : Int)) (ePk p) <| .ret (V.tup [V.agg [V.imm false (3 : Nat) (List.drop (i + (1 : Nat)) (List.take (List.length ps) (List.map ePk ps)))], V.agg [V.int IntKind.i64 (Pk.f p), V.int IntKind.i64 (Pk.t p), V.str (Pk.s p)], V.int IntKind.i64 (0 : Int)])))
    (.chk 29 (decide (((0 : Nat) + List.length (List.drop (0 : Nat) (List.take i (List.map ePk ps)))) * (32 : Nat) ≤ (140737488355328 : Nat))) <| .rw 8029 [] [(29, V.lin true (30 : Nat) (3 : Nat) ([] ++ List.drop (0 : Nat) (List.take i (List.map ePk ps))), V.lin true (30 : Nat) (3 : Nat) (List.drop (0 : Nat) (List.take i (List.map ePk ps))))] <| .rw 8033 [] [(33, V.int IntKind.i64 (IntKind.wrap IntKind.i64 ((↑i : Int) + (1 : Int))), V.int IntKind.i64 (↑(i + (1 : Nat)) : Int))] <| .chk 34 (decide ((0 : Int) ≤ (↑(i + (1 : Nat)) : Int) ∧ (↑(i + (1 : Nat)) : Int) ≤ (↑(List.length (List.map ePk ps)) : Int) ∧ (↑(List.length (List.map ePk ps)) : Int) ≤ (↑(List.length (List.map ePk ps)) : Int))) <| .rw 8034 [] [(34, V.imm false (3 : Nat) (List.drop (Int.toNat (↑(i + (1 : Nat)) : Int)) (List.take (Int.toNat (↑(List.length (List.map ePk ps)) : Int)) (List.map ePk ps))), V.imm false (3 : Nat) (List.drop (i + (1 : Nat)) (List.take (List.length ps) (List.map ePk ps))))] <| .chk 35 (decide ((List.length (List.drop (0 : Nat) (List.take i (List.map ePk ps))) + List.length (List.drop (i + (1 : Nat)) (List.take (List.length ps) (List.map ePk ps)))) * (32 : Nat) ≤ (140737488355328 : Nat))) <| .opt 40 (idx (List.map ePk ps) (↑i : Int)) (ePk p) <| .ret (V.tup [V.agg [V.imm false (3 : Nat) (List.drop (0 : Nat) (List.take i (List.map ePk ps)) ++ List.drop (i + (1 : Nat)) (List.take (List.length ps) (List.map ePk ps)))], V.agg [V.int IntKind.i64 (Pk.f p), V.int IntKind.i64 (Pk.t p), V.str (Pk.s p)], V.int IntKind.i64 (0 : Int)]))) (by kernel_rfl) ?_
  exact ⟨⟨trivial, ⟨by simp (disch := omega) only [List.length_cons, List.length_nil, Nat.zero_add], trivial⟩⟩, ⟨⟨trivial, ⟨by simp (disch := omega) only [List.length_cons, List.length_nil, Nat.zero_add], trivial⟩⟩, ⟨(hk), ⟨⟨trivial, ⟨by simp (disch := omega) only [List.length_map], trivial⟩⟩, ⟨⟨trivial, ⟨congrArg V.bool (by (simp <;> omega)), trivial⟩⟩, ⟨by (simp <;> omega), ⟨⟨trivial, ⟨by simp (disch := omega) only [Int.toNat_natCast], trivial⟩⟩, ⟨fun h0 => have h0p : i = (0 : Nat) ∨ ps = [] := (by simpa using h0); ⟨⟨trivial, ⟨by simp (disch := omega) only [Go.Fw.cast_succ, Go.Fw.wrap_i64], trivial⟩⟩, ⟨by (simp <;> omega), ⟨⟨trivial, ⟨by simp (disch := omega) only [Int.toNat_natCast, List.length_map], trivial⟩⟩, ⟨fun h1 => have h1p : List.length ps ≤ i + (1 : Nat) := (by simpa using h1); ⟨(Go.Fw.idx_map _ hi), by show _ = _; (first | exact congrArg (fun l => V.tup [.agg [.imm false 3 l], ePk p, .int .i64 0]) he.symm | exact congrArg (fun l => V.tup [.agg [.imm false 3 l], ePk p, .int .i64 0]) (cl1 he h0 h1) | exact congrArg (fun l => V.tup [.agg [.imm false 3 l], ePk p, .int .i64 0]) (cl2 he h0))⟩,
      fun h1 => have h1p : i + (1 : Nat) < List.length ps := (by simpa using h1); ⟨by (simp <;> omega), ⟨⟨trivial, ⟨by simp (disch := omega) only [List.nil_append], trivial⟩⟩, ⟨(Go.Fw.idx_map _ hi), by show _ = _; (first | exact congrArg (fun l => V.tup [.agg [.imm false 3 l], ePk p, .int .i64 0]) he.symm | exact congrArg (fun l => V.tup [.agg [.imm false 3 l], ePk p, .int .i64 0]) (cl1 he h0 h1) | exact congrArg (fun l => V.tup [.agg [.imm false 3 l], ePk p, .int .i64 0]) (cl2 he h0))⟩⟩⟩⟩⟩⟩⟩,
    fun h0 => have h0p : ¬i = (0 : Nat) ∧ ¬ps = [] := (by simpa using h0); ⟨by (simp <;> omega), ⟨⟨trivial, ⟨by simp (disch := omega) only [List.nil_append], trivial⟩⟩, ⟨⟨trivial, ⟨by simp (disch := omega) only [Go.Fw.cast_succ, Go.Fw.wrap_i64], trivial⟩⟩, ⟨by (simp <;> omega), ⟨⟨trivial, ⟨by simp (disch := omega) only [Int.toNat_natCast, List.length_map], trivial⟩⟩, ⟨by (simp <;> omega), ⟨(Go.Fw.idx_map _ hi), by show _ = _; (first | exact congrArg (fun l => V.tup [.agg [.imm false 3 l], ePk p, .int .i64 0]) he.symm | exact congrArg (fun l => V.tup [.agg [.imm false 3 l], ePk p, .int .i64 0]) (cl1 he h0 h1) | exact congrArg (fun l => V.tup [.agg [.imm false 3 l], ePk p, .int .i64 0]) (cl2 he h0))⟩⟩⟩⟩⟩⟩⟩⟩⟩⟩⟩⟩⟩⟩⟩
end Go.Fw
/- Net: Drop, Copy. -/
set_option maxHeartbeats 20000000
namespace Go.Fw
open Go.Proofs
theorem drop_state (ps : List Pk) (i : Int) (h : okNet ps = false) : Sp C1 12 [eNet ps, .int .i64 i] (.tup [eNet [], .int .i64 6]) := by
  have hk := deliver_state ps i h
  refine sp_tree draws (dm := [0]) (fs := [fN, .of .keep]) (
    .rw 8004 [] [(4, V.ptr (List.length [Blk.cells [V.imm false (3 : Nat) (List.map ePk ps)] (24 : Nat)]) (0 : Nat), V.ptr (1 : Nat) (0 : Nat))] <| .call 11 10 ([eNet ps, V.int IntKind.i64 i]) (V.tup [eNet [], eZ, V.int IntKind.i64 (6 : Int)]) <| .rw 8006 [] [(6, V.ptr (List.length [Blk.cells [V.imm false (3 : Nat) (List.map ePk ps)] (24 : Nat), Blk.cells [V.nils] (24 : Nat)]) (0 : Nat), V.ptr ((1 : Nat) + (1 : Nat)) (0 : Nat))] <| .ret (V.tup [V.agg [V.imm false (3 : Nat) []], V.int IntKind.i64 (6 : Int)])) (by kernel_rfl) ?_
  exact ⟨⟨trivial, ⟨by simp (disch := omega) only [List.length_cons, List.length_nil, Nat.zero_add], trivial⟩⟩, ⟨(hk), ⟨⟨trivial, ⟨by simp (disch := omega) only [List.length_cons, List.length_nil, Nat.zero_add], trivial⟩⟩, rfl⟩⟩⟩
theorem drop_out (ps : List Pk) (i : Int) (h : okNet ps = true) (hi : i < 0 ∨ ps.length ≤ i) : Sp C1 12 [eNet ps, .int .i64 i] (.tup [eNet ps, .int .i64 7]) := by
  have hk := deliver_out ps i h hi
  refine sp_tree draws (dm := [0]) (fs := [fN, .of .keep]) (
    .rw 8004 [] [(4, V.ptr (List.length [Blk.cells [V.imm false (3 : Nat) (List.map ePk ps)] (24 : Nat)]) (0 : Nat), V.ptr (1 : Nat) (0 : Nat))] <| .call 11 10 ([eNet ps, V.int IntKind.i64 i]) (V.tup [eNet ps, eZ, V.int IntKind.i64 (7 : Int)]) <| .rw 8006 [] [(6, V.ptr (List.length [Blk.cells [V.imm false (3 : Nat) (List.map ePk ps)] (24 : Nat), Blk.cells [V.nils] (24 : Nat)]) (0 : Nat), V.ptr ((1 : Nat) + (1 : Nat)) (0 : Nat))] <| .ret (V.tup [V.agg [V.imm false (3 : Nat) (List.map ePk ps)], V.int IntKind.i64 (7 : Int)])) (by kernel_rfl) ?_
  exact ⟨⟨trivial, ⟨by simp (disch := omega) only [List.length_cons, List.length_nil, Nat.zero_add], trivial⟩⟩, ⟨(hk), ⟨⟨trivial, ⟨by simp (disch := omega) only [List.length_cons, List.length_nil, Nat.zero_add], trivial⟩⟩, rfl⟩⟩⟩
theorem drop_ok (ps : List Pk) (i : Nat) (p : Pk) (h : okNet ps = true) (hi : ps[i]? = some p) : Sp C1 12 [eNet ps, .int .i64 (i : Int)] (.tup [eNet (ps.eraseIdx i), .int .i64 0]) := by
  have hk := deliver_ok ps i p h hi
  refine sp_tree draws (dm := [0]) (fs := [fN, .of .keep]) (
    .rw 8004 [] [(4, V.ptr (List.length [Blk.cells [V.imm false (3 : Nat) (List.map ePk ps)] (24 : Nat)]) (0 : Nat), V.ptr (1 : Nat) (0 : Nat))] <| .call 11 10 ([eNet ps, V.int IntKind.i64 (↑i : Int)]) (V.tup [eNet (List.eraseIdx ps i), ePk p, V.int IntKind.i64 (0 : Int)]) <| .rw 8006 [] [(6, V.ptr (List.length [Blk.cells [V.imm false (3 : Nat) (List.map ePk ps)] (24 : Nat), Blk.cells [V.nils] (24 : Nat)]) (0 : Nat), V.ptr ((1 : Nat) + (1 : Nat)) (0 : Nat))] <| .ret (V.tup [V.agg [V.imm false (3 : Nat) (List.map ePk (List.eraseIdx ps i))], V.int IntKind.i64 (0 : Int)])) (by kernel_rfl) ?_
  exact ⟨⟨trivial, ⟨by simp (disch := omega) only [List.length_cons, List.length_nil, Nat.zero_add], trivial⟩⟩, ⟨(hk), ⟨⟨trivial, ⟨by simp (disch := omega) only [List.length_cons, List.length_nil, Nat.zero_add], trivial⟩⟩, rfl⟩⟩⟩
theorem drop2_state (ps : List Pk) (i : Int) (h : okNet ps = false) : Sp C1 13 [eNet ps, .int .i64 i] (.tup [eNet [], .int .i64 6]) := by
  have hk := deliver2_state ps i h
  refine sp_tree draws (dm := [0]) (fs := [fN, .of .keep]) (
    .rw 8004 [] [(4, V.ptr (List.length [Blk.cells [V.imm false (3 : Nat) (List.map ePk ps)] (24 : Nat)]) (0 : Nat), V.ptr (1 : Nat) (0 : Nat))] <| .call 12 11 ([eNet ps, V.int IntKind.i64 i]) (V.tup [eNet [], eZ, V.int IntKind.i64 (6 : Int)]) <| .rw 8006 [] [(6, V.ptr (List.length [Blk.cells [V.imm false (3 : Nat) (List.map ePk ps)] (24 : Nat), Blk.cells [V.nils] (24 : Nat)]) (0 : Nat), V.ptr ((1 : Nat) + (1 : Nat)) (0 : Nat))] <| .rw 8007 [] [(7, V.ptr (List.length [Blk.cells [V.imm false (3 : Nat) (List.map ePk ps)] (24 : Nat), Blk.cells [V.nils] (24 : Nat), Blk.cells [V.nils] (24 : Nat)]) (0 : Nat), V.ptr ((1 : Nat) + (1 : Nat) + (1 : Nat)) (0 : Nat))] <| .ret (V.tup [V.agg [V.imm false (3 : Nat) []], V.int IntKind.i64 (6 : Int)])) (by kernel_rfl) ?_
  exact ⟨⟨trivial, ⟨by simp (disch := omega) only [List.length_cons, List.length_nil, Nat.zero_add], trivial⟩⟩, ⟨(hk), ⟨⟨trivial, ⟨by simp (disch := omega) only [List.length_cons, List.length_nil, Nat.zero_add], trivial⟩⟩, ⟨⟨trivial, ⟨by simp (disch := omega) only [List.length_cons, List.length_nil, Nat.zero_add], trivial⟩⟩, rfl⟩⟩⟩⟩
theorem drop2_out (ps : List Pk) (i : Int) (h : okNet ps = true) (hi : i < 0 ∨ ps.length ≤ i) : Sp C1 13 [eNet ps, .int .i64 i] (.tup [eNet ps, .int .i64 7]) := by
  have hk := deliver2_out ps i h hi
  refine sp_tree draws (dm := [0]) (fs := [fN, .of .keep]) (
    .rw 8004 [] [(4, V.ptr (List.length [Blk.cells [V.imm false (3 : Nat) (List.map ePk ps)] (24 : Nat)]) (0 : Nat), V.ptr (1 : Nat) (0 : Nat))] <| .call 12 11 ([eNet ps, V.int IntKind.i64 i]) (V.tup [eNet ps, eZ, V.int IntKind.i64 (7 : Int)]) <| .rw 8006 [] [(6, V.ptr (List.length [Blk.cells [V.imm false (3 : Nat) (List.map ePk ps)] (24 : Nat), Blk.cells [V.nils] (24 : Nat)]) (0 : Nat), V.ptr ((1 : Nat) + (1 : Nat)) (0 : Nat))] <| .rw 8007 [] [(7, V.ptr (List.length [Blk.cells [V.imm false (3 : Nat) (List.map ePk ps)] (24 : Nat), Blk.cells [V.nils] (24 : Nat), Blk.cells [V.nils] (24 : Nat)]) (0 : Nat), V.ptr ((1 : Nat) + (1 : Nat) + (1 : Nat)) (0 : Nat))] <| .ret (V.tup [V.agg [V.imm false (3 : Nat) (List.map ePk ps)], V.int IntKind.i64 (7 : Int)])) (by kernel_rfl) ?_
  exact ⟨⟨trivial, ⟨by simp (disch := omega) only [List.length_cons, List.length_nil, Nat.zero_add], trivial⟩⟩, ⟨(hk), ⟨⟨trivial, ⟨by simp (disch := omega) only [List.length_cons, List.length_nil, Nat.zero_add], trivial⟩⟩, ⟨⟨trivial, ⟨by simp (disch := omega) only [List.length_cons, List.length_nil, Nat.zero_add], trivial⟩⟩, rfl⟩⟩⟩⟩
theorem drop2_ok (ps : List Pk) (i : Nat) (p : Pk) (h : okNet ps = true) (hi : ps[i]? = some p) : Sp C1 13 [eNet ps, .int .i64 (i : Int)] (.tup [eNet (ps.eraseIdx i), .int .i64 0]) := by
  have hk := deliver2_ok ps i p h hi
  refine sp_tree draws (dm := [0]) (fs := [fN, .of .keep]) (
    .rw 8004 [] [(4, V.ptr (List.length [Blk.cells [V.imm false (3 : Nat) (List.map ePk ps)] (24 : Nat)]) (0 : Nat), V.ptr (1 : Nat) (0 : Nat))] <| .call 12 11 ([eNet ps, V.int IntKind.i64 (↑i : Int)]) (V.tup [eNet (List.eraseIdx ps i), ePk p, V.int IntKind.i64 (0 : Int)]) <| .rw 8006 [] [(6, V.ptr (List.length [Blk.cells [V.imm false (3 : Nat) (List.map ePk ps)] (24 : Nat), Blk.cells [V.nils] (24 : Nat)]) (0 : Nat), V.ptr ((1 : Nat) + (1 : Nat)) (0 : Nat))] <| .rw 8007 [] [(7, V.ptr (List.length [Blk.cells [V.imm false (3 : Nat) (List.map ePk ps)] (24 : Nat), Blk.cells [V.nils] (24 : Nat), Blk.cells [V.nils] (24 : Nat)]) (0 : Nat), V.ptr ((1 : Nat) + (1 : Nat) + (1 : Nat)) (0 : Nat))] <| .ret (V.tup [V.agg [V.imm false (3 : Nat) (List.map ePk (List.eraseIdx ps i))], V.int IntKind.i64 (0 : Int)])) (by kernel_rfl) ?_
  exact ⟨⟨trivial, ⟨by simp (disch := omega) only [List.length_cons, List.length_nil, Nat.zero_add], trivial⟩⟩, ⟨(hk), ⟨⟨trivial, ⟨by simp (disch := omega) only [List.length_cons, List.length_nil, Nat.zero_add], trivial⟩⟩, ⟨⟨trivial, ⟨by simp (disch := omega) only [List.length_cons, List.length_nil, Nat.zero_add], trivial⟩⟩, rfl⟩⟩⟩⟩
theorem copy_state (ps : List Pk) (i : Int) (h : okNet ps = false) : Sp C1 14 [eNet ps, .int .i64 i] (.tup [eNet [], .int .i64 6]) := by
  have hk := deliver_state ps i h
  refine sp_tree draws (dm := [0]) (fs := [fN, .of .keep]) (
    .rw 8004 [] [(4, V.ptr (List.length [Blk.cells [V.imm false (3 : Nat) (List.map ePk ps)] (24 : Nat)]) (0 : Nat), V.ptr (1 : Nat) (0 : Nat))] <| .call 12 10 ([eNet ps, V.int IntKind.i64 i]) (V.tup [eNet [], eZ, V.int IntKind.i64 (6 : Int)]) <| .rw 8006 [] [(6, V.ptr (List.length [Blk.cells [V.imm false (3 : Nat) (List.map ePk ps)] (24 : Nat), Blk.cells [V.nils] (24 : Nat)]) (0 : Nat), V.ptr ((1 : Nat) + (1 : Nat)) (0 : Nat))] <| .rw 8007 [] [(7, V.ptr (List.length [Blk.cells [V.imm false (3 : Nat) (List.map ePk ps)] (24 : Nat), Blk.cells [V.nils] (24 : Nat), Blk.cells [V.nils] (24 : Nat)]) (0 : Nat), V.ptr ((1 : Nat) + (1 : Nat) + (1 : Nat)) (0 : Nat))] <| .ret (V.tup [V.agg [V.imm false (3 : Nat) []], V.int IntKind.i64 (6 : Int)])) (by kernel_rfl) ?_
  exact ⟨⟨trivial, ⟨by simp (disch := omega) only [List.length_cons, List.length_nil, Nat.zero_add], trivial⟩⟩, ⟨(hk), ⟨⟨trivial, ⟨by simp (disch := omega) only [List.length_cons, List.length_nil, Nat.zero_add], trivial⟩⟩, ⟨⟨trivial, ⟨by simp (disch := omega) only [List.length_cons, List.length_nil, Nat.zero_add], trivial⟩⟩, rfl⟩⟩⟩⟩
theorem copy_out (ps : List Pk) (i : Int) (h : okNet ps = true) (hi : i < 0 ∨ ps.length ≤ i) : Sp C1 14 [eNet ps, .int .i64 i] (.tup [eNet ps, .int .i64 7]) := by
  have hk := deliver_out ps i h hi
  have hl : ps.length ≤ 4096 := by unfold okNet at h; simp at h; exact h.1
  refine sp_tree draws (dm := [0]) (fs := [fN, .of .keep]) (
    .rw 8004 [] [(4, V.ptr (List.length [Blk.cells [V.imm false (3 : Nat) (List.map ePk ps)] (24 : Nat)]) (0 : Nat), V.ptr (1 : Nat) (0 : Nat))] <| .call 12 10 ([eNet ps, V.int IntKind.i64 i]) (V.tup [eNet ps, eZ, V.int IntKind.i64 (7 : Int)]) <| .rw 8006 [] [(6, V.ptr (List.length [Blk.cells [V.imm false (3 : Nat) (List.map ePk ps)] (24 : Nat), Blk.cells [V.nils] (24 : Nat)]) (0 : Nat), V.ptr ((1 : Nat) + (1 : Nat)) (0 : Nat))] <| .rw 8007 [] [(7, V.ptr (List.length [Blk.cells [V.imm false (3 : Nat) (List.map ePk ps)] (24 : Nat), Blk.cells [V.nils] (24 : Nat), Blk.cells [V.nils] (24 : Nat)]) (0 : Nat), V.ptr ((1 : Nat) + (1 : Nat) + (1 : Nat)) (0 : Nat))] <| .ret (V.tup [V.agg [V.imm false (3 : Nat) (List.map ePk ps)], V.int IntKind.i64 (7 : Int)])) (by kernel_rfl) ?_
  exact ⟨⟨trivial, ⟨by simp (disch := omega) only [List.length_cons, List.length_nil, Nat.zero_add], trivial⟩⟩, ⟨(hk), ⟨⟨trivial, ⟨by simp (disch := omega) only [List.length_cons, List.length_nil, Nat.zero_add], trivial⟩⟩, ⟨⟨trivial, ⟨by simp (disch := omega) only [List.length_cons, List.length_nil, Nat.zero_add], trivial⟩⟩, rfl⟩⟩⟩⟩
theorem copy_full (ps : List Pk) (i : Nat) (p : Pk) (h : okNet ps = true) (hi : ps[i]? = some p) (hm : 4096 ≤ ps.length) : Sp C1 14 [eNet ps, .int .i64 (i : Int)] (.tup [eNet ps, .int .i64 8]) := by
  have hk := deliver_ok ps i p h hi
  have hl : ps.length ≤ 4096 := by unfold okNet at h; simp at h; exact h.1
  have hw := with_full ps p (by omega) hm
  refine sp_tree draws (dm := [0]) (fs := [fN, .of .keep]) (
    .rw 8004 [] [(4, V.ptr (List.length [Blk.cells [V.imm false (3 : Nat) (List.map ePk ps)] (24 : Nat)]) (0 : Nat), V.ptr (1 : Nat) (0 : Nat))] <| .call 12 10 ([eNet ps, V.int IntKind.i64 (↑i : Int)]) (V.tup [eNet (List.eraseIdx ps i), ePk p, V.int IntKind.i64 (0 : Int)]) <| .rw 8006 [] [(6, V.ptr (List.length [Blk.cells [V.imm false (3 : Nat) (List.map ePk ps)] (24 : Nat), Blk.cells [V.nils] (24 : Nat)]) (0 : Nat), V.ptr ((1 : Nat) + (1 : Nat)) (0 : Nat))] <| .rw 8007 [] [(7, V.ptr (List.length [Blk.cells [V.imm false (3 : Nat) (List.map ePk ps)] (24 : Nat), Blk.cells [V.nils] (24 : Nat), Blk.cells [V.nils] (24 : Nat)]) (0 : Nat), V.ptr ((1 : Nat) + (1 : Nat) + (1 : Nat)) (0 : Nat))] <| .call 22 23 ([eNet ps, ePk p]) (V.tup [eNet ps, V.int IntKind.i64 (8 : Int)]) <| .ret (V.tup [V.agg [V.imm false (3 : Nat) (List.map ePk ps)], V.int IntKind.i64 (8 : Int)])) (by kernel_rfl) ?_
  exact ⟨⟨trivial, ⟨by simp (disch := omega) only [List.length_cons, List.length_nil, Nat.zero_add], trivial⟩⟩, ⟨(hk), ⟨⟨trivial, ⟨by simp (disch := omega) only [List.length_cons, List.length_nil, Nat.zero_add], trivial⟩⟩, ⟨⟨trivial, ⟨by simp (disch := omega) only [List.length_cons, List.length_nil, Nat.zero_add], trivial⟩⟩, ⟨(hw), rfl⟩⟩⟩⟩⟩
theorem copy_ok (ps : List Pk) (i : Nat) (p : Pk) (h : okNet ps = true) (hi : ps[i]? = some p) (hm : ps.length < 4096) : Sp C1 14 [eNet ps, .int .i64 (i : Int)] (.tup [eNet (ps ++ [p]), .int .i64 0]) := by
  have hk := deliver_ok ps i p h hi
  have hw := with_room ps p hm
  refine sp_tree draws (dm := [0]) (fs := [fN, .of .keep]) (
    .rw 8004 [] [(4, V.ptr (List.length [Blk.cells [V.imm false (3 : Nat) (List.map ePk ps)] (24 : Nat)]) (0 : Nat), V.ptr (1 : Nat) (0 : Nat))] <| .call 12 10 ([eNet ps, V.int IntKind.i64 (↑i : Int)]) (V.tup [eNet (List.eraseIdx ps i), ePk p, V.int IntKind.i64 (0 : Int)]) <| .rw 8006 [] [(6, V.ptr (List.length [Blk.cells [V.imm false (3 : Nat) (List.map ePk ps)] (24 : Nat), Blk.cells [V.nils] (24 : Nat)]) (0 : Nat), V.ptr ((1 : Nat) + (1 : Nat)) (0 : Nat))] <| .rw 8007 [] [(7, V.ptr (List.length [Blk.cells [V.imm false (3 : Nat) (List.map ePk ps)] (24 : Nat), Blk.cells [V.nils] (24 : Nat), Blk.cells [V.nils] (24 : Nat)]) (0 : Nat), V.ptr ((1 : Nat) + (1 : Nat) + (1 : Nat)) (0 : Nat))] <| .call 22 23 ([eNet ps, ePk p]) (V.tup [eNet (ps ++ [p]), V.int IntKind.i64 (0 : Int)]) <| .ret (V.tup [V.agg [V.imm false (3 : Nat) (List.map ePk (ps ++ [p]))], V.int IntKind.i64 (0 : Int)])) (by kernel_rfl) ?_
  exact ⟨⟨trivial, ⟨by simp (disch := omega) only [List.length_cons, List.length_nil, Nat.zero_add], trivial⟩⟩, ⟨(hk), ⟨⟨trivial, ⟨by simp (disch := omega) only [List.length_cons, List.length_nil, Nat.zero_add], trivial⟩⟩, ⟨⟨trivial, ⟨by simp (disch := omega) only [List.length_cons, List.length_nil, Nat.zero_add], trivial⟩⟩, ⟨(hw), rfl⟩⟩⟩⟩⟩
theorem copy2_state (ps : List Pk) (i : Int) (h : okNet ps = false) : Sp C1 15 [eNet ps, .int .i64 i] (.tup [eNet [], .int .i64 6]) := by
  have hk := deliver2_state ps i h
  refine sp_tree draws (dm := [0]) (fs := [fN, .of .keep]) (
    .rw 8004 [] [(4, V.ptr (List.length [Blk.cells [V.imm false (3 : Nat) (List.map ePk ps)] (24 : Nat)]) (0 : Nat), V.ptr (1 : Nat) (0 : Nat))] <| .call 12 11 ([eNet ps, V.int IntKind.i64 i]) (V.tup [eNet [], eZ, V.int IntKind.i64 (6 : Int)]) <| .rw 8006 [] [(6, V.ptr (List.length [Blk.cells [V.imm false (3 : Nat) (List.map ePk ps)] (24 : Nat), Blk.cells [V.nils] (24 : Nat)]) (0 : Nat), V.ptr ((1 : Nat) + (1 : Nat)) (0 : Nat))] <| .rw 8007 [] [(7, V.ptr (List.length [Blk.cells [V.imm false (3 : Nat) (List.map ePk ps)] (24 : Nat), Blk.cells [V.nils] (24 : Nat), Blk.cells [V.nils] (24 : Nat)]) (0 : Nat), V.ptr ((1 : Nat) + (1 : Nat) + (1 : Nat)) (0 : Nat))] <| .ret (V.tup [V.agg [V.imm false (3 : Nat) []], V.int IntKind.i64 (6 : Int)])) (by kernel_rfl) ?_
  exact ⟨⟨trivial, ⟨by simp (disch := omega) only [List.length_cons, List.length_nil, Nat.zero_add], trivial⟩⟩, ⟨(hk), ⟨⟨trivial, ⟨by simp (disch := omega) only [List.length_cons, List.length_nil, Nat.zero_add], trivial⟩⟩, ⟨⟨trivial, ⟨by simp (disch := omega) only [List.length_cons, List.length_nil, Nat.zero_add], trivial⟩⟩, rfl⟩⟩⟩⟩
theorem copy2_out (ps : List Pk) (i : Int) (h : okNet ps = true) (hi : i < 0 ∨ ps.length ≤ i) : Sp C1 15 [eNet ps, .int .i64 i] (.tup [eNet ps, .int .i64 7]) := by
  have hk := deliver2_out ps i h hi
  have hl : ps.length ≤ 4096 := by unfold okNet at h; simp at h; exact h.1
  refine sp_tree draws (dm := [0]) (fs := [fN, .of .keep]) (
    .rw 8004 [] [(4, V.ptr (List.length [Blk.cells [V.imm false (3 : Nat) (List.map ePk ps)] (24 : Nat)]) (0 : Nat), V.ptr (1 : Nat) (0 : Nat))] <| .call 12 11 ([eNet ps, V.int IntKind.i64 i]) (V.tup [eNet ps, eZ, V.int IntKind.i64 (7 : Int)]) <| .rw 8006 [] [(6, V.ptr (List.length [Blk.cells [V.imm false (3 : Nat) (List.map ePk ps)] (24 : Nat), Blk.cells [V.nils] (24 : Nat)]) (0 : Nat), V.ptr ((1 : Nat) + (1 : Nat)) (0 : Nat))] <| .rw 8007 [] [(7, V.ptr (List.length [Blk.cells [V.imm false (3 : Nat) (List.map ePk ps)] (24 : Nat), Blk.cells [V.nils] (24 : Nat), Blk.cells [V.nils] (24 : Nat)]) (0 : Nat), V.ptr ((1 : Nat) + (1 : Nat) + (1 : Nat)) (0 : Nat))] <| .call 29 7 ([eNet ps]) (eNl ps) <| .ret (V.tup [V.agg [V.imm false (3 : Nat) (List.map ePk ps)], V.int IntKind.i64 (7 : Int)])) (by kernel_rfl) ?_
  exact ⟨⟨trivial, ⟨by simp (disch := omega) only [List.length_cons, List.length_nil, Nat.zero_add], trivial⟩⟩, ⟨(hk), ⟨⟨trivial, ⟨by simp (disch := omega) only [List.length_cons, List.length_nil, Nat.zero_add], trivial⟩⟩, ⟨⟨trivial, ⟨by simp (disch := omega) only [List.length_cons, List.length_nil, Nat.zero_add], trivial⟩⟩, ⟨(Go.Fw.own2_sp _ (by omega)), rfl⟩⟩⟩⟩⟩
theorem copy2_full (ps : List Pk) (i : Nat) (p : Pk) (h : okNet ps = true) (hi : ps[i]? = some p) (hm : 4096 ≤ ps.length) : Sp C1 15 [eNet ps, .int .i64 (i : Int)] (.tup [eNet ps, .int .i64 8]) := by
  have hk := deliver2_ok ps i p h hi
  have hl : ps.length ≤ 4096 := by unfold okNet at h; simp at h; exact h.1
  refine sp_tree draws (dm := [0]) (fs := [fN, .of .keep]) (
    .rw 8004 [] [(4, V.ptr (List.length [Blk.cells [V.imm false (3 : Nat) (List.map ePk ps)] (24 : Nat)]) (0 : Nat), V.ptr (1 : Nat) (0 : Nat))] <| .call 12 11 ([eNet ps, V.int IntKind.i64 (↑i : Int)]) (V.tup [eNet (List.eraseIdx ps i), ePk p, V.int IntKind.i64 (0 : Int)]) <| .rw 8006 [] [(6, V.ptr (List.length [Blk.cells [V.imm false (3 : Nat) (List.map ePk ps)] (24 : Nat), Blk.cells [V.nils] (24 : Nat)]) (0 : Nat), V.ptr ((1 : Nat) + (1 : Nat)) (0 : Nat))] <| .rw 8007 [] [(7, V.ptr (List.length [Blk.cells [V.imm false (3 : Nat) (List.map ePk ps)] (24 : Nat), Blk.cells [V.nils] (24 : Nat), Blk.cells [V.nils] (24 : Nat)]) (0 : Nat), V.ptr ((1 : Nat) + (1 : Nat) + (1 : Nat)) (0 : Nat))] <| .rw 8025 [] [(25, V.int IntKind.i64 (↑(List.length (List.map ePk ps)) : Int), V.int IntKind.i64 (↑(List.length ps) : Int))] <| .rw 8026 [] [(26, V.bool (decide ((↑(List.length ps) : Int) ≥ (4096 : Int))), V.bool true)] <| .call 29 7 ([eNet ps]) (eNl ps) <| .ret (V.tup [V.agg [V.imm false (3 : Nat) (List.map ePk ps)], V.int IntKind.i64 (8 : Int)])) (by kernel_rfl) ?_
  exact ⟨⟨trivial, ⟨by simp (disch := omega) only [List.length_cons, List.length_nil, Nat.zero_add], trivial⟩⟩, ⟨(hk), ⟨⟨trivial, ⟨by simp (disch := omega) only [List.length_cons, List.length_nil, Nat.zero_add], trivial⟩⟩, ⟨⟨trivial, ⟨by simp (disch := omega) only [List.length_cons, List.length_nil, Nat.zero_add], trivial⟩⟩, ⟨⟨trivial, ⟨by simp (disch := omega) only [List.length_map], trivial⟩⟩, ⟨⟨trivial, ⟨congrArg V.bool (by (simp <;> omega)), trivial⟩⟩, ⟨(Go.Fw.own2_sp _ (by omega)), rfl⟩⟩⟩⟩⟩⟩⟩
theorem copy2_ok (ps : List Pk) (i : Nat) (p : Pk) (h : okNet ps = true) (hi : ps[i]? = some p) (hm : ps.length < 4096) : Sp C1 15 [eNet ps, .int .i64 (i : Int)] (.tup [eNet (ps ++ [p]), .int .i64 0]) := by
  have hk := deliver2_ok ps i p h hi
  refine sp_tree draws (dm := [0]) (fs := [fN, .of .keep]) (
    .rw 8004 [] [(4, V.ptr (List.length [Blk.cells [V.imm false (3 : Nat) (List.map ePk ps)] (24 : Nat)]) (0 : Nat), V.ptr (1 : Nat) (0 : Nat))] <| .call 12 11 ([eNet ps, V.int IntKind.i64 (↑i : Int)]) (V.tup [eNet (List.eraseIdx ps i), ePk p, V.int IntKind.i64 (0 : Int)]) <| .rw 8006 [] [(6, V.ptr (List.length [Blk.cells [V.imm false (3 : Nat) (List.map ePk ps)] (24 : Nat), Blk.cells [V.nils] (24 : Nat)]) (0 : Nat), V.ptr ((1 : Nat) + (1 : Nat)) (0 : Nat))] <| .rw 8007 [] [(7, V.ptr (List.length [Blk.cells [V.imm false (3 : Nat) (List.map ePk ps)] (24 : Nat), Blk.cells [V.nils] (24 : Nat), Blk.cells [V.nils] (24 : Nat)]) (0 : Nat), V.ptr ((1 : Nat) + (1 : Nat) + (1 : Nat)) (0 : Nat))] <| .rw 8025 [] [(25, V.int IntKind.i64 (↑(List.length (List.map ePk ps)) : Int), V.int IntKind.i64 (↑(List.length ps) : Int))] <| .rw 8026 [] [(26, V.bool (decide ((↑(List.length ps) : Int) ≥ (4096 : Int))), V.bool false)] <| .call 29 7 ([eNet ps]) (eNl ps) <| .chk 36 (decide ((List.length (List.map ePk ps) + List.length [V.agg [V.int IntKind.i64 (Pk.f p), V.int IntKind.i64 (Pk.t p), V.str (Pk.s p)]]) * (32 : Nat) ≤ (140737488355328 : Nat))) <| .ret (V.tup [V.agg [V.imm false (3 : Nat) (List.map ePk ps ++ [V.agg [V.int IntKind.i64 (Pk.f p), V.int IntKind.i64 (Pk.t p), V.str (Pk.s p)]])], V.int IntKind.i64 (0 : Int)])) (by kernel_rfl) ?_
  exact ⟨⟨trivial, ⟨by simp (disch := omega) only [List.length_cons, List.length_nil, Nat.zero_add], trivial⟩⟩, ⟨(hk), ⟨⟨trivial, ⟨by simp (disch := omega) only [List.length_cons, List.length_nil, Nat.zero_add], trivial⟩⟩, ⟨⟨trivial, ⟨by simp (disch := omega) only [List.length_cons, List.length_nil, Nat.zero_add], trivial⟩⟩, ⟨⟨trivial, ⟨by simp (disch := omega) only [List.length_map], trivial⟩⟩, ⟨⟨trivial, ⟨congrArg V.bool (by (simp <;> omega)), trivial⟩⟩, ⟨(Go.Fw.own2_sp _ (by omega)), ⟨by (simp <;> omega), by show _ = _; simp⟩⟩⟩⟩⟩⟩⟩⟩
end Go.Fw
/- Net: Same, has. -/
set_option maxHeartbeats 20000000
namespace Go.Fw
open Go.Proofs
def pEq (p q : Pk) : Bool := p.f == q.f && (p.t == q.t && (p.s.toList == q.s.toList && true))
abbrev K17 : List Nat := [2, 3, 15, 16]
abbrev S17 (ps qs : List Pk) (n i : Nat) : St := mkSt 31 [(2, .ptr 0 0), (3, .ptr 1 0), (15, .int .i64 (n : Int)), (16, .int .i64 (i : Int))] [.cells [ePs ps] 24, .cells [ePs qs] 24]
theorem loop17_eq (ps qs : List Pk) (n : Nat) (hn : ps.length = n) (hq : qs.length = n) (h47 : n * 32 ≤ 2 ^ 47) : ∀ (k i : Nat), i + k = n → (∀ j p q, i ≤ j → ps[j]? = some p → qs[j]? = some q → pEq p q = true) →
    LoopK C1 17 32 (keeps K17) (S17 ps qs n i) (.exit 0) (mkSt 31 [] [.cells [ePs ps] 24, .cells [ePs qs] 24])
  | 0, i, h, hb => by
    obtain rfl : i = n := by omega
    refine loop_tree draws (kn := (keeps K17)) (ke := (keeps [4])) (
    .rw 8017 [] [(17, V.bool (decide ((↑i : Int) < (↑i : Int))), V.bool false)] <| .ret ((Ex.exit (0 : Nat), St.mk [V.undef, V.undef, V.undef, V.undef, V.undef, V.undef, V.undef, V.undef, V.undef, V.undef, V.undef, V.undef, V.undef, V.undef, V.undef, V.undef, V.undef, V.undef, V.undef, V.undef, V.undef, V.undef, V.undef, V.undef, V.undef, V.undef, V.undef, V.undef, V.undef, V.undef, V.undef] [Blk.cells [V.imm false (3 : Nat) (List.map ePk ps)] (24 : Nat), Blk.cells [V.imm false (3 : Nat) (List.map ePk qs)] (24 : Nat)]))) (by kernel_rfl) ?_
    exact ⟨⟨trivial, ⟨congrArg V.bool (by (simp <;> omega)), trivial⟩⟩, ⟨rfl, rfl⟩⟩
  | k + 1, i, h, hb => by
    have ih := loop17_eq ps qs n hn hq h47 k (i + 1) (by omega) (fun j p q hj => hb j p q (by omega))
    obtain ⟨p, hp⟩ : ∃ p, ps[i]? = some p := ⟨ps[i]'(by omega), List.getElem?_eq_getElem (by omega)⟩
    obtain ⟨q, hp2⟩ : ∃ p, qs[i]? = some p := ⟨qs[i]'(by omega), List.getElem?_eq_getElem (by omega)⟩
    have hbp := hb i p q (Nat.le_refl _) hp hp2
    refine loop_tree draws (kn := (keeps K17)) (ke := (keeps [4])) (
    .rw 8017 [] [(17, V.bool (decide ((↑i : Int) < (↑n : Int))), V.bool true)] <| .opt 22 (idx (List.map ePk ps) (↑i : Int)) (ePk p) <| .opt 27 (idx (List.map ePk qs) (↑i : Int)) (ePk q) <| .rw 8029 [] [(29, V.bool !(Pk.f p == Pk.f q && (Pk.t p == Pk.t q && (ByteArray.toList (Pk.s p) == ByteArray.toList (Pk.s q) && true))), V.bool false)] <| .rw 8030 [] [(30, V.int IntKind.i64 (IntKind.wrap IntKind.i64 ((↑i : Int) + (1 : Int))), V.int IntKind.i64 (↑(i + (1 : Nat)) : Int))] <| .ret (.normal, S17 ps qs n (i + (1 : Nat)))) (by kernel_rfl) ?_
    exact ⟨⟨trivial, ⟨congrArg V.bool (by (simp <;> omega)), trivial⟩⟩, ⟨(Go.Fw.idx_map _ hp), ⟨(Go.Fw.idx_map _ hp2), ⟨⟨trivial, ⟨congrArg V.bool (by (unfold pEq at hbp; rw [hbp]; rfl)), trivial⟩⟩, ⟨⟨trivial, ⟨by simp (disch := omega) only [Go.Fw.cast_succ, Go.Fw.wrap_i64], trivial⟩⟩, (ih)⟩⟩⟩⟩⟩
theorem loop17_ne (ps qs : List Pk) (n : Nat) (hn : ps.length = n) (hq : qs.length = n) (h47 : n * 32 ≤ 2 ^ 47) (l : Nat) (p q : Pk) (hp : ps[l]? = some p) (hp2 : qs[l]? = some q) (hne : pEq p q = false) : ∀ (k i : Nat), i + k = n → i ≤ l →
    LoopK C1 17 32 (keeps K17) (S17 ps qs n i) .ret (mkSt 31 [(4, .bool false)] [.cells [ePs ps] 24, .cells [ePs qs] 24])
  | 0, i, h, hl => by
    have := (List.getElem?_eq_some_iff.1 hp).1
    omega
  | k + 1, i, h, hl => by
    obtain ⟨p', hp'⟩ : ∃ p, ps[i]? = some p := ⟨ps[i]'(by omega), List.getElem?_eq_getElem (by omega)⟩
    obtain ⟨q', hp2'⟩ : ∃ p, qs[i]? = some p := ⟨qs[i]'(by omega), List.getElem?_eq_getElem (by omega)⟩
    cases hbp : pEq p' q' with
    | false =>
      clear hp hp2 hne
      refine loop_tree draws (kn := (keeps K17)) (ke := (keeps [4])) (
    .rw 8017 [] [(17, V.bool (decide ((↑i : Int) < (↑n : Int))), V.bool true)] <| .opt 22 (idx (List.map ePk ps) (↑i : Int)) (ePk p') <| .opt 27 (idx (List.map ePk qs) (↑i : Int)) (ePk q') <| .rw 8029 [] [(29, V.bool !(Pk.f p' == Pk.f q' && (Pk.t p' == Pk.t q' && (ByteArray.toList (Pk.s p') == ByteArray.toList (Pk.s q') && true))), V.bool true)] <| .ret ((Ex.ret, St.mk [V.undef, V.undef, V.undef, V.undef, V.bool false, V.undef, V.undef, V.undef, V.undef, V.undef, V.undef, V.undef, V.undef, V.undef, V.undef, V.undef, V.undef, V.undef, V.undef, V.undef, V.undef, V.undef, V.undef, V.undef, V.undef, V.undef, V.undef, V.undef, V.undef, V.undef, V.undef] [Blk.cells [V.imm false (3 : Nat) (List.map ePk ps)] (24 : Nat), Blk.cells [V.imm false (3 : Nat) (List.map ePk qs)] (24 : Nat)]))) (by kernel_rfl) ?_
      exact ⟨⟨trivial, ⟨congrArg V.bool (by (simp <;> omega)), trivial⟩⟩, ⟨(Go.Fw.idx_map _ hp'), ⟨(Go.Fw.idx_map _ hp2'), ⟨⟨trivial, ⟨congrArg V.bool (by (unfold pEq at hbp; rw [hbp]; rfl)), trivial⟩⟩, ⟨rfl, rfl⟩⟩⟩⟩⟩
    | true =>
      have hil : i ≠ l := by
        rintro rfl
        rw [hp] at hp'; rw [hp2] at hp2'
        cases hp'; cases hp2'
        rw [hne] at hbp; cases hbp
      have ih := loop17_ne ps qs n hn hq h47 l p q hp hp2 hne k (i + 1) (by omega) (by omega)
      clear hp hp2 hne
      refine loop_tree draws (kn := (keeps K17)) (ke := (keeps [4])) (
    .rw 8017 [] [(17, V.bool (decide ((↑i : Int) < (↑n : Int))), V.bool true)] <| .opt 22 (idx (List.map ePk ps) (↑i : Int)) (ePk p') <| .opt 27 (idx (List.map ePk qs) (↑i : Int)) (ePk q') <| .rw 8029 [] [(29, V.bool !(Pk.f p' == Pk.f q' && (Pk.t p' == Pk.t q' && (ByteArray.toList (Pk.s p') == ByteArray.toList (Pk.s q') && true))), V.bool false)] <| .rw 8030 [] [(30, V.int IntKind.i64 (IntKind.wrap IntKind.i64 ((↑i : Int) + (1 : Int))), V.int IntKind.i64 (↑(i + (1 : Nat)) : Int))] <| .ret (.normal, S17 ps qs n (i + (1 : Nat)))) (by kernel_rfl) ?_
      exact ⟨⟨trivial, ⟨congrArg V.bool (by (simp <;> omega)), trivial⟩⟩, ⟨(Go.Fw.idx_map _ hp'), ⟨(Go.Fw.idx_map _ hp2'), ⟨⟨trivial, ⟨congrArg V.bool (by (unfold pEq at hbp; rw [hbp]; rfl)), trivial⟩⟩, ⟨⟨trivial, ⟨by simp (disch := omega) only [Go.Fw.cast_succ, Go.Fw.wrap_i64], trivial⟩⟩, (ih)⟩⟩⟩⟩⟩
def sameP (ps qs : List Pk) : Prop := ps.length = qs.length ∧ ∀ (j : Nat) (p q : Pk), ps[j]? = some p → qs[j]? = some q → pEq p q = true
theorem same_len (ps qs : List Pk) (h : ps.length ≠ qs.length) : Sp C1 17 [eNet ps, eNet qs] (.bool false) := by
  refine sp_tree draws (dm := []) (fs := []) (
    .rw 8003 [] [(3, V.ptr (List.length [Blk.cells [V.imm false (3 : Nat) (List.map ePk ps)] (24 : Nat)]) (0 : Nat), V.ptr (1 : Nat) (0 : Nat))] <| .rw 8008 [] [(8, V.int IntKind.i64 (↑(List.length (List.map ePk ps)) : Int), V.int IntKind.i64 (↑(List.length ps) : Int))] <| .rw 8011 [] [(11, V.int IntKind.i64 (↑(List.length (List.map ePk qs)) : Int), V.int IntKind.i64 (↑(List.length qs) : Int))] <| .rw 8012 [] [(12, V.bool ((↑(List.length ps) : Int) != (↑(List.length qs) : Int)), V.bool true)] <| .ret (V.bool false)) (by kernel_rfl) ?_
  exact ⟨⟨trivial, ⟨by simp (disch := omega) only [List.length_cons, List.length_nil, Nat.zero_add], trivial⟩⟩, ⟨⟨trivial, ⟨by simp (disch := omega) only [List.length_map], trivial⟩⟩, ⟨⟨trivial, ⟨by simp (disch := omega) only [List.length_map], trivial⟩⟩, ⟨⟨trivial, ⟨congrArg V.bool (by (simp <;> omega)), trivial⟩⟩, rfl⟩⟩⟩⟩
theorem same_yes (ps qs : List Pk) (h47 : ps.length * 32 ≤ 2 ^ 47) (h : sameP ps qs) : Sp C1 17 [eNet ps, eNet qs] (.bool true) := by
  obtain ⟨hl, he⟩ := h
  have hlp := loop17_eq ps qs ps.length rfl hl.symm h47 ps.length 0 (by omega) (fun j p q _ => he j p q)
  refine sp_tree draws (dm := []) (fs := []) (
    .rw 8003 [] [(3, V.ptr (List.length [Blk.cells [V.imm false (3 : Nat) (List.map ePk ps)] (24 : Nat)]) (0 : Nat), V.ptr (1 : Nat) (0 : Nat))] <| .rw 8008 [] [(8, V.int IntKind.i64 (↑(List.length (List.map ePk ps)) : Int), V.int IntKind.i64 (↑(List.length ps) : Int))] <| .rw 8011 [] [(11, V.int IntKind.i64 (↑(List.length (List.map ePk qs)) : Int), V.int IntKind.i64 (↑(List.length qs) : Int))] <| .rw 8012 [] [(12, V.bool ((↑(List.length ps) : Int) != (↑(List.length qs) : Int)), V.bool false)] <| .rw 8015 [] [(15, V.int IntKind.i64 (↑(List.length (List.map ePk ps)) : Int), V.int IntKind.i64 (↑(List.length ps) : Int))] <| .loop 32 (keeps K17) (S17 ps qs (List.length ps) (0 : Nat)) (Ex.exit (0 : Nat)) (mkSt (31 : Nat) [] [Blk.cells [ePs ps] (24 : TypeId), Blk.cells [ePs qs] (24 : TypeId)]) <| .ret (V.bool true)) (by kernel_rfl) ?_
  exact ⟨⟨trivial, ⟨by simp (disch := omega) only [List.length_cons, List.length_nil, Nat.zero_add], trivial⟩⟩, ⟨⟨trivial, ⟨by simp (disch := omega) only [List.length_map], trivial⟩⟩, ⟨⟨trivial, ⟨by simp (disch := omega) only [List.length_map], trivial⟩⟩, ⟨⟨trivial, ⟨congrArg V.bool (by (simp <;> omega)), trivial⟩⟩, ⟨⟨trivial, ⟨by simp (disch := omega) only [List.length_map], trivial⟩⟩, ⟨(hlp), rfl⟩⟩⟩⟩⟩⟩
theorem same_no (ps qs : List Pk) (h47 : ps.length * 32 ≤ 2 ^ 47) (hl : ps.length = qs.length) (l : Nat) (p q : Pk) (hp : ps[l]? = some p) (hp2 : qs[l]? = some q) (hne : pEq p q = false) : Sp C1 17 [eNet ps, eNet qs] (.bool false) := by
  have hlp := loop17_ne ps qs ps.length rfl hl.symm h47 l p q hp hp2 hne ps.length 0 (by omega) (by omega)
  clear hp hp2 hne
  refine sp_tree draws (dm := []) (fs := []) (
    .rw 8003 [] [(3, V.ptr (List.length [Blk.cells [V.imm false (3 : Nat) (List.map ePk ps)] (24 : Nat)]) (0 : Nat), V.ptr (1 : Nat) (0 : Nat))] <| .rw 8008 [] [(8, V.int IntKind.i64 (↑(List.length (List.map ePk ps)) : Int), V.int IntKind.i64 (↑(List.length ps) : Int))] <| .rw 8011 [] [(11, V.int IntKind.i64 (↑(List.length (List.map ePk qs)) : Int), V.int IntKind.i64 (↑(List.length qs) : Int))] <| .rw 8012 [] [(12, V.bool ((↑(List.length ps) : Int) != (↑(List.length qs) : Int)), V.bool false)] <| .rw 8015 [] [(15, V.int IntKind.i64 (↑(List.length (List.map ePk ps)) : Int), V.int IntKind.i64 (↑(List.length ps) : Int))] <| .loop 32 (keeps K17) (S17 ps qs (List.length ps) (0 : Nat)) (Ex.ret) (mkSt (31 : Nat) [((4 : Nat), V.bool false)] [Blk.cells [ePs ps] (24 : TypeId), Blk.cells [ePs qs] (24 : TypeId)]) <| .ret (V.bool false)) (by kernel_rfl) ?_
  exact ⟨⟨trivial, ⟨by simp (disch := omega) only [List.length_cons, List.length_nil, Nat.zero_add], trivial⟩⟩, ⟨⟨trivial, ⟨by simp (disch := omega) only [List.length_map], trivial⟩⟩, ⟨⟨trivial, ⟨by simp (disch := omega) only [List.length_map], trivial⟩⟩, ⟨⟨trivial, ⟨congrArg V.bool (by (simp <;> omega)), trivial⟩⟩, ⟨⟨trivial, ⟨by simp (disch := omega) only [List.length_map], trivial⟩⟩, ⟨(hlp), rfl⟩⟩⟩⟩⟩⟩
end Go.Fw
/- Net: has. -/
set_option maxHeartbeats 20000000
namespace Go.Fw
open Go.Proofs
abbrev K20 : List Nat := [3, 7, 8, 9]
abbrev S20 (ps : List Pk) (p : Pk) (n i : Nat) : St := mkSt 17 [(3, .ptr 0 0), (7, ePs ps), (8, .int .i64 (n : Int)), (9, .int .i64 (i : Int))] [.cells [.int .i64 p.f, .int .i64 p.t, .str p.s] 30]
theorem loop20_no (ps : List Pk) (p : Pk) (n : Nat) (hn : ps.length = n) (h47 : n * 32 ≤ 2 ^ 47) : ∀ (k i : Nat), i + k = n → (∀ j q, i ≤ j → ps[j]? = some q → pEq q p = false) →
    LoopK C1 20 16 (keeps K20) (S20 ps p n i) (.exit 0) (mkSt 17 [] [.cells [.int .i64 p.f, .int .i64 p.t, .str p.s] 30])
  | 0, i, h, hb => by
    obtain rfl : i = n := by omega
    refine loop_tree draws (kn := (keeps K20)) (ke := (keeps [4])) (
    .rw 8010 [] [(10, V.bool (decide ((↑i : Int) < (↑i : Int))), V.bool false)] <| .ret ((Ex.exit (0 : Nat), St.mk [V.undef, V.undef, V.undef, V.undef, V.undef, V.undef, V.undef, V.undef, V.undef, V.undef, V.undef, V.undef, V.undef, V.undef, V.undef, V.undef, V.undef] [Blk.cells [V.int IntKind.i64 (Pk.f p), V.int IntKind.i64 (Pk.t p), V.str (Pk.s p)] (30 : Nat)]))) (by kernel_rfl) ?_
    exact ⟨⟨trivial, ⟨congrArg V.bool (by (simp <;> omega)), trivial⟩⟩, ⟨rfl, rfl⟩⟩
  | k + 1, i, h, hb => by
    have ih := loop20_no ps p n hn h47 k (i + 1) (by omega) (fun j q hj => hb j q (by omega))
    obtain ⟨q, hp⟩ : ∃ p, ps[i]? = some p := ⟨ps[i]'(by omega), List.getElem?_eq_getElem (by omega)⟩
    have hbp := hb i q (Nat.le_refl _) hp
    refine loop_tree draws (kn := (keeps K20)) (ke := (keeps [4])) (
    .rw 8010 [] [(10, V.bool (decide ((↑i : Int) < (↑n : Int))), V.bool true)] <| .opt 11 (idx (List.map ePk ps) (↑i : Int)) (ePk q) <| .rw 8006 [] [(6, V.ptr (List.length [Blk.cells [V.int IntKind.i64 (Pk.f p), V.int IntKind.i64 (Pk.t p), V.str (Pk.s p)] (30 : Nat)]) (0 : Nat), V.ptr (1 : Nat) (0 : Nat))] <| .rw 8015 [] [(15, V.bool (Pk.f q == Pk.f p && (Pk.t q == Pk.t p && (ByteArray.toList (Pk.s q) == ByteArray.toList (Pk.s p) && true))), V.bool false)] <| .rw 8016 [] [(16, V.int IntKind.i64 (IntKind.wrap IntKind.i64 ((↑i : Int) + (1 : Int))), V.int IntKind.i64 (↑(i + (1 : Nat)) : Int))] <| .to 8009 ([.cut 1]) <| .ret (.normal, S20 ps p n (i + (1 : Nat)))) (by kernel_rfl) ?_
    exact ⟨⟨trivial, ⟨congrArg V.bool (by (simp <;> omega)), trivial⟩⟩, ⟨(Go.Fw.idx_map _ hp), ⟨⟨trivial, ⟨by simp (disch := omega) only [List.length_cons, List.length_nil, Nat.zero_add], trivial⟩⟩, ⟨⟨trivial, ⟨congrArg V.bool (by (unfold pEq at hbp; rw [hbp])), trivial⟩⟩, ⟨⟨trivial, ⟨by simp (disch := omega) only [Go.Fw.cast_succ, Go.Fw.wrap_i64], trivial⟩⟩, (ih)⟩⟩⟩⟩⟩
theorem loop20_yes (ps : List Pk) (p : Pk) (n : Nat) (hn : ps.length = n) (h47 : n * 32 ≤ 2 ^ 47) (l : Nat) (r : Pk) (hr : ps[l]? = some r) (he : pEq r p = true) : ∀ (k i : Nat), i + k = n → i ≤ l →
    ∃ x, LoopK C1 20 16 (keeps K20) (S20 ps p n i) .ret (mkSt 17 [(4, .bool true)] [.cells [.int .i64 p.f, .int .i64 p.t, .str p.s] 30, x])
  | 0, i, h, hl => by
    have := (List.getElem?_eq_some_iff.1 hr).1
    omega
  | k + 1, i, h, hl => by
    obtain ⟨q, hp⟩ : ∃ p, ps[i]? = some p := ⟨ps[i]'(by omega), List.getElem?_eq_getElem (by omega)⟩
    cases hbp : pEq q p with
    | true =>
      clear hr he
      refine ⟨.cells [.int .i64 q.f, .int .i64 q.t, .str q.s] 30, ?_⟩
      refine loop_tree draws (kn := (keeps K20)) (ke := (keeps [4])) (
    .rw 8010 [] [(10, V.bool (decide ((↑i : Int) < (↑n : Int))), V.bool true)] <| .opt 11 (idx (List.map ePk ps) (↑i : Int)) (ePk q) <| .rw 8006 [] [(6, V.ptr (List.length [Blk.cells [V.int IntKind.i64 (Pk.f p), V.int IntKind.i64 (Pk.t p), V.str (Pk.s p)] (30 : Nat)]) (0 : Nat), V.ptr (1 : Nat) (0 : Nat))] <| .rw 8015 [] [(15, V.bool (Pk.f q == Pk.f p && (Pk.t q == Pk.t p && (ByteArray.toList (Pk.s q) == ByteArray.toList (Pk.s p) && true))), V.bool true)] <| .ret ((Ex.ret, St.mk [V.undef, V.undef, V.undef, V.undef, V.bool true, V.undef, V.undef, V.undef, V.undef, V.undef, V.undef, V.undef, V.undef, V.undef, V.undef, V.undef, V.undef] [Blk.cells [V.int IntKind.i64 (Pk.f p), V.int IntKind.i64 (Pk.t p), V.str (Pk.s p)] (30 : Nat), Blk.cells [V.int IntKind.i64 (Pk.f q), V.int IntKind.i64 (Pk.t q), V.str (Pk.s q)] (30 : Nat)]))) (by kernel_rfl) ?_
      exact ⟨⟨trivial, ⟨congrArg V.bool (by (simp <;> omega)), trivial⟩⟩, ⟨(Go.Fw.idx_map _ hp), ⟨⟨trivial, ⟨by simp (disch := omega) only [List.length_cons, List.length_nil, Nat.zero_add], trivial⟩⟩, ⟨⟨trivial, ⟨congrArg V.bool (by (unfold pEq at hbp; rw [hbp])), trivial⟩⟩, ⟨rfl, rfl⟩⟩⟩⟩⟩
    | false =>
      have hil : i ≠ l := by
        rintro rfl
        rw [hr] at hp
        cases hp
        rw [he] at hbp; cases hbp
      obtain ⟨x, ih⟩ := loop20_yes ps p n hn h47 l r hr he k (i + 1) (by omega) (by omega)
      clear hr he
      refine ⟨x, ?_⟩
      refine loop_tree draws (kn := (keeps K20)) (ke := (keeps [4])) (
    .rw 8010 [] [(10, V.bool (decide ((↑i : Int) < (↑n : Int))), V.bool true)] <| .opt 11 (idx (List.map ePk ps) (↑i : Int)) (ePk q) <| .rw 8006 [] [(6, V.ptr (List.length [Blk.cells [V.int IntKind.i64 (Pk.f p), V.int IntKind.i64 (Pk.t p), V.str (Pk.s p)] (30 : Nat)]) (0 : Nat), V.ptr (1 : Nat) (0 : Nat))] <| .rw 8015 [] [(15, V.bool (Pk.f q == Pk.f p && (Pk.t q == Pk.t p && (ByteArray.toList (Pk.s q) == ByteArray.toList (Pk.s p) && true))), V.bool false)] <| .rw 8016 [] [(16, V.int IntKind.i64 (IntKind.wrap IntKind.i64 ((↑i : Int) + (1 : Int))), V.int IntKind.i64 (↑(i + (1 : Nat)) : Int))] <| .to 8009 ([.cut 1]) <| .ret (.normal, S20 ps p n (i + (1 : Nat)))) (by kernel_rfl) ?_
      exact ⟨⟨trivial, ⟨congrArg V.bool (by (simp <;> omega)), trivial⟩⟩, ⟨(Go.Fw.idx_map _ hp), ⟨⟨trivial, ⟨by simp (disch := omega) only [List.length_cons, List.length_nil, Nat.zero_add], trivial⟩⟩, ⟨⟨trivial, ⟨congrArg V.bool (by (unfold pEq at hbp; rw [hbp])), trivial⟩⟩, ⟨⟨trivial, ⟨by simp (disch := omega) only [Go.Fw.cast_succ, Go.Fw.wrap_i64], trivial⟩⟩, (ih)⟩⟩⟩⟩⟩
theorem has_no (ps : List Pk) (p : Pk) (h47 : ps.length * 32 ≤ 2 ^ 47) (h : ∀ q ∈ ps, pEq q p = false) : Sp C1 20 [ePs ps, ePk p] (.bool false) := by
  have hlp := loop20_no ps p ps.length rfl h47 ps.length 0 (by omega) (fun j q _ hj => h q (List.mem_of_getElem? hj))
  refine sp_tree draws (dm := []) (fs := []) (
    .rw 8008 [] [(8, V.int IntKind.i64 (↑(List.length (List.map ePk ps)) : Int), V.int IntKind.i64 (↑(List.length ps) : Int))] <| .loop 16 (keeps K20) (S20 ps p (List.length ps) (0 : Nat)) (Ex.exit (0 : Nat)) (mkSt (17 : Nat) [] [Blk.cells [V.int IntKind.i64 (Pk.f p), V.int IntKind.i64 (Pk.t p), V.str (Pk.s p)] (30 : TypeId)]) <| .ret (V.bool false)) (by kernel_rfl) ?_
  exact ⟨⟨trivial, ⟨by simp (disch := omega) only [List.length_map], trivial⟩⟩, ⟨(hlp), rfl⟩⟩
theorem has_yes (ps : List Pk) (p r : Pk) (h47 : ps.length * 32 ≤ 2 ^ 47) (hr : r ∈ ps) (he : pEq r p = true) : Sp C1 20 [ePs ps, ePk p] (.bool true) := by
  obtain ⟨l, hl⟩ := List.getElem?_of_mem hr
  obtain ⟨x, hlp⟩ := loop20_yes ps p ps.length rfl h47 l r hl he ps.length 0 (by omega) (by omega)
  clear hl hr he
  refine sp_tree draws (dm := []) (fs := []) (
    .rw 8008 [] [(8, V.int IntKind.i64 (↑(List.length (List.map ePk ps)) : Int), V.int IntKind.i64 (↑(List.length ps) : Int))] <| .loop 16 (keeps K20) (S20 ps p (List.length ps) (0 : Nat)) (Ex.ret) (mkSt (17 : Nat) [((4 : Nat), V.bool true)] [Blk.cells [V.int IntKind.i64 (Pk.f p), V.int IntKind.i64 (Pk.t p), V.str (Pk.s p)] (30 : TypeId), x]) <| .ret (V.bool true)) (by kernel_rfl) ?_
  exact ⟨⟨trivial, ⟨by simp (disch := omega) only [List.length_map], trivial⟩⟩, ⟨(hlp), rfl⟩⟩
abbrev aP : Pk := ⟨1, 2, ⟨#[97]⟩⟩
theorem lives_sp : Sp C1 16 [] (.bool true) := by
  have h1 := send_ok [] 1 2 ⟨#[97]⟩ rfl rfl rfl (by decide) (by decide)
  have h2 := copy_ok [aP] 0 aP (by rfl) rfl (by decide)
  have h3 := deliver_ok [aP, aP] 1 aP (by rfl) rfl
  have h4 := drop_out [aP] 1 (by rfl) (by decide)
  refine sp_tree draws (dm := []) (fs := []) (
    .to 8009 ([.put 9 (.agg [.imm 3])]) <| .call 10 8 ([eNet [], V.int IntKind.i64 (1 : Int), V.int IntKind.i64 (2 : Int), V.str (ByteArray.mk #[(97 : UInt8)])]) (V.tup [eNet ([] ++ [Pk.mk (1 : Int) (2 : Int) (ByteArray.mk #[(97 : UInt8)])]), V.int IntKind.i64 (0 : Int)]) <| .call 15 14 ([eNet [aP], V.int IntKind.i64 (↑(0 : Nat) : Int)]) (V.tup [eNet ([aP] ++ [aP]), V.int IntKind.i64 (0 : Int)]) <| .call 20 10 ([eNet [aP, aP], V.int IntKind.i64 (↑(1 : Nat) : Int)]) (V.tup [eNet (List.eraseIdx [aP, aP] (1 : Nat)), ePk aP, V.int IntKind.i64 (0 : Int)]) <| .call 26 12 ([eNet [aP], V.int IntKind.i64 (1 : Int)]) (V.tup [eNet [aP], V.int IntKind.i64 (7 : Int)]) <| .ret (V.bool true)) (by kernel_rfl) ?_
  exact ⟨(h1), ⟨(h2), ⟨(h3), ⟨(h4), rfl⟩⟩⟩⟩
end Go.Fw
/- Net: what each function answers, in one piece. -/
set_option maxHeartbeats 20000000
namespace Go.Fw
open Go.Proofs
abbrev pZ : Pk := ⟨0, 0, ByteArray.empty⟩
def sRes (ps : List Pk) (f t : Int) (s : ByteArray) : List Pk × Int := if okNet ps = false then ([], 6) else if okN f = false ∨ okN t = false then (ps, 2) else if 65536 < s.size then (ps, 4) else if 4096 ≤ ps.length then (ps, 8) else (ps ++ [⟨f, t, s⟩], 0)
def dIdx (ps : List Pk) (i : Int) : Option Pk := if 0 ≤ i then ps[i.toNat]? else none
def dRes (ps : List Pk) (i : Int) : List Pk × Pk × Int := if okNet ps = false then ([], pZ, 6) else match dIdx ps i with
  | some p => (ps.eraseIdx i.toNat, p, 0)
  | none => (ps, pZ, 7)
def cRes (ps : List Pk) (i : Int) : List Pk × Int := if okNet ps = false then ([], 6) else match dIdx ps i with
  | some p => if 4096 ≤ ps.length then (ps, 8) else (ps ++ [p], 0)
  | none => (ps, 7)
theorem dIdx_none {ps : List Pk} {i : Int} (h : dIdx ps i = none) : i < 0 ∨ ps.length ≤ i := by
  unfold dIdx at h
  split at h
  · rw [List.getElem?_eq_none_iff] at h; omega
  · omega
theorem dIdx_some {ps : List Pk} {i : Int} {p : Pk} (h : dIdx ps i = some p) : ∃ n : Nat, i = n ∧ ps[n]? = some p := by
  unfold dIdx at h
  split at h
  · exact ⟨i.toNat, by omega, h⟩
  · cases h
section
variable (ps : List Pk) (f t i : Int) (s : ByteArray)
theorem send_sp : Sp C1 8 [eNet ps, .int .i64 f, .int .i64 t, .str s] (.tup [eNet (sRes ps f t s).1, .int .i64 (sRes ps f t s).2]) := by
  unfold sRes
  cases h : okNet ps with
  | false => exact send_state ps f t s h
  | true =>
    rw [if_neg (by simp)]
    split
    · exact send_range ps f t s h ‹_›
    · rename_i hb
      have hf : okN f = true := by cases e : okN f <;> simp_all
      have ht : okN t = true := by cases e : okN t <;> simp_all
      split
      · exact send_long ps f t s h hf ht ‹_›
      · split
        · exact send_full ps f t s h hf ht (by omega) ‹_›
        · exact send_ok ps f t s h hf ht (by omega) (by omega)
theorem send2_sp : Sp C1 9 [eNet ps, .int .i64 f, .int .i64 t, .str s] (.tup [eNet (sRes ps f t s).1, .int .i64 (sRes ps f t s).2]) := by
  unfold sRes
  cases h : okNet ps with
  | false => exact send2_state ps f t s h
  | true =>
    rw [if_neg (by simp)]
    split
    · exact send2_range ps f t s h ‹_›
    · rename_i hb
      have hf : okN f = true := by cases e : okN f <;> simp_all
      have ht : okN t = true := by cases e : okN t <;> simp_all
      split
      · exact send2_long ps f t s h hf ht ‹_›
      · split
        · exact send2_full ps f t s h hf ht (by omega) ‹_›
        · exact send2_ok ps f t s h hf ht (by omega) (by omega)
theorem deliver_sp : Sp C1 10 [eNet ps, .int .i64 i] (.tup [eNet (dRes ps i).1, ePk (dRes ps i).2.1, .int .i64 (dRes ps i).2.2]) := by
  unfold dRes
  cases h : okNet ps with
  | false => exact deliver_state ps i h
  | true =>
    rw [if_neg (by simp)]
    cases hd : dIdx ps i with
    | none => exact deliver_out ps i h (dIdx_none hd)
    | some p =>
      obtain ⟨n, rfl, hn⟩ := dIdx_some hd
      exact deliver_ok ps n p h hn
theorem deliver2_sp : Sp C1 11 [eNet ps, .int .i64 i] (.tup [eNet (dRes ps i).1, ePk (dRes ps i).2.1, .int .i64 (dRes ps i).2.2]) := by
  unfold dRes
  cases h : okNet ps with
  | false => exact deliver2_state ps i h
  | true =>
    rw [if_neg (by simp)]
    cases hd : dIdx ps i with
    | none => exact deliver2_out ps i h (dIdx_none hd)
    | some p =>
      obtain ⟨n, rfl, hn⟩ := dIdx_some hd
      exact deliver2_ok ps n p h hn
theorem drop_sp : Sp C1 12 [eNet ps, .int .i64 i] (.tup [eNet (dRes ps i).1, .int .i64 (dRes ps i).2.2]) := by
  unfold dRes
  cases h : okNet ps with
  | false => exact drop_state ps i h
  | true =>
    rw [if_neg (by simp)]
    cases hd : dIdx ps i with
    | none => exact drop_out ps i h (dIdx_none hd)
    | some p =>
      obtain ⟨n, rfl, hn⟩ := dIdx_some hd
      exact drop_ok ps n p h hn
theorem drop2_sp : Sp C1 13 [eNet ps, .int .i64 i] (.tup [eNet (dRes ps i).1, .int .i64 (dRes ps i).2.2]) := by
  unfold dRes
  cases h : okNet ps with
  | false => exact drop2_state ps i h
  | true =>
    rw [if_neg (by simp)]
    cases hd : dIdx ps i with
    | none => exact drop2_out ps i h (dIdx_none hd)
    | some p =>
      obtain ⟨n, rfl, hn⟩ := dIdx_some hd
      exact drop2_ok ps n p h hn
theorem copy_sp : Sp C1 14 [eNet ps, .int .i64 i] (.tup [eNet (cRes ps i).1, .int .i64 (cRes ps i).2]) := by
  unfold cRes
  cases h : okNet ps with
  | false => exact copy_state ps i h
  | true =>
    rw [if_neg (by simp)]
    cases hd : dIdx ps i with
    | none => exact copy_out ps i h (dIdx_none hd)
    | some p =>
      obtain ⟨n, rfl, hn⟩ := dIdx_some hd
      dsimp only
      split
      · exact copy_full ps n p h hn ‹_›
      · exact copy_ok ps n p h hn (by omega)
theorem copy2_sp : Sp C1 15 [eNet ps, .int .i64 i] (.tup [eNet (cRes ps i).1, .int .i64 (cRes ps i).2]) := by
  unfold cRes
  cases h : okNet ps with
  | false => exact copy2_state ps i h
  | true =>
    rw [if_neg (by simp)]
    cases hd : dIdx ps i with
    | none => exact copy2_out ps i h (dIdx_none hd)
    | some p =>
      obtain ⟨n, rfl, hn⟩ := dIdx_some hd
      dsimp only
      split
      · exact copy2_full ps n p h hn ‹_›
      · exact copy2_ok ps n p h hn (by omega)
end
theorem pEq_refl (p : Pk) : pEq p p = true := by simp [pEq]
theorem same_refl (ps : List Pk) (h : ps.length * 32 ≤ 2 ^ 47) : Sp C1 17 [eNet ps, eNet ps] (.bool true) :=
  same_yes ps ps h ⟨rfl, fun j p q h1 h2 => by rw [h1] at h2; cases h2; exact pEq_refl p⟩
theorem sRes_len {ps : List Pk} {f t : Int} {s : ByteArray} (h : ps.length * 32 ≤ 2 ^ 47) : (sRes ps f t s).1.length * 32 ≤ 2 ^ 47 := by
  unfold sRes
  repeat' split
  all_goals first | exact h | (simp; omega) | simp
theorem cRes_len {ps : List Pk} {i : Int} (h : ps.length * 32 ≤ 2 ^ 47) : (cRes ps i).1.length * 32 ≤ 2 ^ 47 := by
  unfold cRes
  repeat' split
  all_goals first | exact h | (simp; omega) | simp
theorem dRes_len {ps : List Pk} {i : Int} (h : ps.length * 32 ≤ 2 ^ 47) : (dRes ps i).1.length * 32 ≤ 2 ^ 47 := by
  have := List.length_eraseIdx_le ps i.toNat
  unfold dRes
  repeat' split
  all_goals first | exact h | (simp; omega) | simp
end Go.Fw
/- Net: NetDoes. -/
set_option maxHeartbeats 20000000
namespace Go.Fw
open Go.Proofs
theorem netDoes_sp (ps : List Pk) (f t i : Int) (s : ByteArray) (h : ps.length * 32 ≤ 2 ^ 47) : Sp C1 3 [eNet ps, .int .i64 f, .int .i64 t, .str s, .int .i64 i] (.bool true) := by
  have h0 : Sp C1 7 [eNet ps] (eNet ps) := (own2_sp ps h).outR [0] [fN]
  have h1 := send_sp ps f t s
  have h2 := send2_sp ps f t s
  have h3 := deliver_sp ps i
  have h4 := deliver2_sp ps i
  have h5 := drop_sp ps i
  have h6 := drop2_sp ps i
  have h7 := copy_sp ps i
  have h8 := copy2_sp ps i
  have h9 := lives_sp
  have k1 := check_sp ps
  have k2 := check2_sp ps
  have e1 := same_refl _ (sRes_len (f := f) (t := t) (s := s) h)
  have e2 := same_refl _ (dRes_len (i := i) h)
  have e3 := same_refl _ (cRes_len (i := i) h)
  have e4 := same_refl _ h
  generalize sRes ps f t s = r1 at *
  generalize dRes ps i = r2 at *
  generalize cRes ps i = r3 at *
  generalize chkE ps = r4 at *
  obtain ⟨a1, b1⟩ := r1
  obtain ⟨a2, ⟨x, y, z⟩, b2⟩ := r2
  obtain ⟨a3, b3⟩ := r3
  dsimp only at h1 h2 h3 h4 h5 h6 h7 h8 e1 e2 e3
  clear h
  refine sp_tree draws (dm := []) (fs := []) (
    .call 31 7 ([eNet ps]) (eNet ps) <| .rw 8011 [] [(11, V.ptr (List.length [Blk.cells [V.imm false (3 : Nat) (List.map ePk ps)] (24 : Nat)]) (0 : Nat), V.ptr (1 : Nat) (0 : Nat))] <| .call 37 8 ([eNet ps, V.int IntKind.i64 f, V.int IntKind.i64 t, V.str s]) (V.tup [eNet a1, V.int IntKind.i64 b1]) <| .rw 8012 [] [(12, V.ptr (List.length [Blk.cells [V.imm false (3 : Nat) (List.map ePk ps)] (24 : Nat), Blk.cells [V.imm false (3 : Nat) (List.map ePk ps)] (24 : Nat)]) (0 : Nat), V.ptr ((1 : Nat) + (1 : Nat)) (0 : Nat))] <| .call 45 9 ([eNet ps, V.int IntKind.i64 f, V.int IntKind.i64 t, V.str s]) (V.tup [eNet a1, V.int IntKind.i64 b1]) <| .rw 8014 [] [(14, V.ptr (List.length [Blk.cells [V.imm false (3 : Nat) (List.map ePk ps)] (24 : Nat), Blk.cells [V.imm false (3 : Nat) (List.map ePk ps)] (24 : Nat), Blk.cells [V.imm false (3 : Nat) (List.map ePk a1)] (24 : Nat)]) (0 : Nat), V.ptr ((1 : Nat) + (1 : Nat) + (1 : Nat)) (0 : Nat))] <| .call 51 10 ([eNet ps, V.int IntKind.i64 i]) (V.tup [eNet a2, ePk (Pk.mk x y z), V.int IntKind.i64 b2]) <| .rw 8016 [] [(16, V.ptr (List.length [Blk.cells [V.imm false (3 : Nat) (List.map ePk ps)] (24 : Nat), Blk.cells [V.imm false (3 : Nat) (List.map ePk ps)] (24 : Nat), Blk.cells [V.imm false (3 : Nat) (List.map ePk a1)] (24 : Nat), Blk.cells [V.imm false (3 : Nat) (List.map ePk a1)] (24 : Nat)]) (0 : Nat), V.ptr ((1 : Nat) + (1 : Nat) + (1 : Nat) + (1 : Nat)) (0 : Nat))] <| .rw 8017 [] [(17, V.ptr (List.length [Blk.cells [V.imm false (3 : Nat) (List.map ePk ps)] (24 : Nat), Blk.cells [V.imm false (3 : Nat) (List.map ePk ps)] (24 : Nat), Blk.cells [V.imm false (3 : Nat) (List.map ePk a1)] (24 : Nat), Blk.cells [V.imm false (3 : Nat) (List.map ePk a1)] (24 : Nat), Blk.cells [V.nils] (24 : Nat)]) (0 : Nat), V.ptr ((1 : Nat) + (1 : Nat) + (1 : Nat) + (1 : Nat) + (1 : Nat)) (0 : Nat))] <| .call 58 11 ([eNet ps, V.int IntKind.i64 i]) (V.tup [eNet a2, ePk (Pk.mk x y z), V.int IntKind.i64 b2]) <| .rw 8019 [] [(19, V.ptr (List.length [Blk.cells [V.imm false (3 : Nat) (List.map ePk ps)] (24 : Nat), Blk.cells [V.imm false (3 : Nat) (List.map ePk ps)] (24 : Nat), Blk.cells [V.imm false (3 : Nat) (List.map ePk a1)] (24 : Nat), Blk.cells [V.imm false (3 : Nat) (List.map ePk a1)] (24 : Nat), Blk.cells [V.imm false (3 : Nat) (List.map ePk a2)] (24 : Nat), Blk.cells [V.int IntKind.i64 x, V.int IntKind.i64 y, V.str z] (30 : Nat)]) (0 : Nat), V.ptr ((1 : Nat) + (1 : Nat) + (1 : Nat) + (1 : Nat) + (1 : Nat) + (1 : Nat)) (0 : Nat))] <| .rw 8020 [] [(20, V.ptr (List.length [Blk.cells [V.imm false (3 : Nat) (List.map ePk ps)] (24 : Nat), Blk.cells [V.imm false (3 : Nat) (List.map ePk ps)] (24 : Nat), Blk.cells [V.imm false (3 : Nat) (List.map ePk a1)] (24 : Nat), Blk.cells [V.imm false (3 : Nat) (List.map ePk a1)] (24 : Nat), Blk.cells [V.imm false (3 : Nat) (List.map ePk a2)] (24 : Nat), Blk.cells [V.int IntKind.i64 x, V.int IntKind.i64 y, V.str z] (30 : Nat), Blk.cells [V.nils] (24 : Nat)]) (0 : Nat), V.ptr ((1 : Nat) + (1 : Nat) + (1 : Nat) + (1 : Nat) + (1 : Nat) + (1 : Nat) + (1 : Nat)) (0 : Nat))] <| .call 65 12 ([eNet ps, V.int IntKind.i64 i]) (V.tup [eNet a2, V.int IntKind.i64 b2]) <| .rw 8022 [] [(22, V.ptr (List.length [Blk.cells [V.imm false (3 : Nat) (List.map ePk ps)] (24 : Nat), Blk.cells [V.imm false (3 : Nat) (List.map ePk ps)] (24 : Nat), Blk.cells [V.imm false (3 : Nat) (List.map ePk a1)] (24 : Nat), Blk.cells [V.imm false (3 : Nat) (List.map ePk a1)] (24 : Nat), Blk.cells [V.imm false (3 : Nat) (List.map ePk a2)] (24 : Nat), Blk.cells [V.int IntKind.i64 x, V.int IntKind.i64 y, V.str z] (30 : Nat), Blk.cells [V.imm false (3 : Nat) (List.map ePk a2)] (24 : Nat), Blk.cells [V.int IntKind.i64 x, V.int IntKind.i64 y, V.str z] (30 : Nat)]) (0 : Nat), V.ptr ((1 : Nat) + (1 : Nat) + (1 : Nat) + (1 : Nat) + (1 : Nat) + (1 : Nat) + (1 : Nat) + (1 : Nat)) (0 : Nat))] <| .call 71 13 ([eNet ps, V.int IntKind.i64 i]) (V.tup [eNet a2, V.int IntKind.i64 b2]) <| .rw 8024 [] [(24, V.ptr (List.length [Blk.cells [V.imm false (3 : Nat) (List.map ePk ps)] (24 : Nat), Blk.cells [V.imm false (3 : Nat) (List.map ePk ps)] (24 : Nat), Blk.cells [V.imm false (3 : Nat) (List.map ePk a1)] (24 : Nat), Blk.cells [V.imm false (3 : Nat) (List.map ePk a1)] (24 : Nat), Blk.cells [V.imm false (3 : Nat) (List.map ePk a2)] (24 : Nat), Blk.cells [V.int IntKind.i64 x, V.int IntKind.i64 y, V.str z] (30 : Nat), Blk.cells [V.imm false (3 : Nat) (List.map ePk a2)] (24 : Nat), Blk.cells [V.int IntKind.i64 x, V.int IntKind.i64 y, V.str z] (30 : Nat), Blk.cells [V.imm false (3 : Nat) (List.map ePk a2)] (24 : Nat)]) (0 : Nat), V.ptr ((1 : Nat) + (1 : Nat) + (1 : Nat) + (1 : Nat) + (1 : Nat) + (1 : Nat) + (1 : Nat) + (1 : Nat) + (1 : Nat)) (0 : Nat))] <| .call 77 14 ([eNet ps, V.int IntKind.i64 i]) (V.tup [eNet a3, V.int IntKind.i64 b3]) <| .rw 8026 [] [(26, V.ptr (List.length [Blk.cells [V.imm false (3 : Nat) (List.map ePk ps)] (24 : Nat), Blk.cells [V.imm false (3 : Nat) (List.map ePk ps)] (24 : Nat), Blk.cells [V.imm false (3 : Nat) (List.map ePk a1)] (24 : Nat), Blk.cells [V.imm false (3 : Nat) (List.map ePk a1)] (24 : Nat), Blk.cells [V.imm false (3 : Nat) (List.map ePk a2)] (24 : Nat), Blk.cells [V.int IntKind.i64 x, V.int IntKind.i64 y, V.str z] (30 : Nat), Blk.cells [V.imm false (3 : Nat) (List.map ePk a2)] (24 : Nat), Blk.cells [V.int IntKind.i64 x, V.int IntKind.i64 y, V.str z] (30 : Nat), Blk.cells [V.imm false (3 : Nat) (List.map ePk a2)] (24 : Nat), Blk.cells [V.imm false (3 : Nat) (List.map ePk a2)] (24 : Nat)]) (0 : Nat), V.ptr ((1 : Nat) + (1 : Nat) + (1 : Nat) + (1 : Nat) + (1 : Nat) + (1 : Nat) + (1 : Nat) + (1 : Nat) + (1 : Nat) + (1 : Nat)) (0 : Nat))] <| .call 83 15 ([eNet ps, V.int IntKind.i64 i]) (V.tup [eNet a3, V.int IntKind.i64 b3]) <| .rw 8028 [] [(28, V.ptr (List.length [Blk.cells [V.imm false (3 : Nat) (List.map ePk ps)] (24 : Nat), Blk.cells [V.imm false (3 : Nat) (List.map ePk ps)] (24 : Nat), Blk.cells [V.imm false (3 : Nat) (List.map ePk a1)] (24 : Nat), Blk.cells [V.imm false (3 : Nat) (List.map ePk a1)] (24 : Nat), Blk.cells [V.imm false (3 : Nat) (List.map ePk a2)] (24 : Nat), Blk.cells [V.int IntKind.i64 x, V.int IntKind.i64 y, V.str z] (30 : Nat), Blk.cells [V.imm false (3 : Nat) (List.map ePk a2)] (24 : Nat), Blk.cells [V.int IntKind.i64 x, V.int IntKind.i64 y, V.str z] (30 : Nat), Blk.cells [V.imm false (3 : Nat) (List.map ePk a2)] (24 : Nat), Blk.cells [V.imm false (3 : Nat) (List.map ePk a2)] (24 : Nat), Blk.cells [V.imm false (3 : Nat) (List.map ePk a3)] (24 : Nat)]) (0 : Nat), V.ptr ((1 : Nat) + (1 : Nat) + (1 : Nat) + (1 : Nat) + (1 : Nat) + (1 : Nat) + (1 : Nat) + (1 : Nat) + (1 : Nat) + (1 : Nat) + (1 : Nat)) (0 : Nat))] <| .call 86 16 ([]) (V.bool true) <| .call 90 17 ([eNet a1, eNet a1]) (V.bool true) <| .rw 8095 [] [(95, V.bool (b1 == b1), V.bool true)] <| .call 100 17 ([eNet a2, eNet a2]) (V.bool true) <| .rw 8105 [] [(105, V.bool (x == x && (y == y && (ByteArray.toList z == ByteArray.toList z && true))), V.bool true)] <| .rw 8110 [] [(110, V.bool (b2 == b2), V.bool true)] <| .call 115 17 ([eNet a2, eNet a2]) (V.bool true) <| .tt 1123 ((b2 == b2) == true) <| .tt 1124 ((b2 == b2) == true) <| .tt 1125 ((b2 == b2) == true) <| .call 125 17 ([eNet a3, eNet a3]) (V.bool true) <| .tt 126 (b2 == b2) <| .rw 8130 [] [(130, V.bool (b3 == b3), V.bool true)] <| .call 134 18 ([eNet ps]) (V.int IntKind.i64 r4) <| .call 136 19 ([eNet ps]) (V.int IntKind.i64 r4) <| .rw 8137 [] [(137, V.bool (r4 == r4), V.bool true)] <| .call 142 17 ([eNet ps, eNet ps]) (V.bool true) <| .ret (V.bool true)) (by kernel_rfl) ?_
  exact ⟨(h0), ⟨⟨trivial, ⟨by simp (disch := omega) only [List.length_cons, List.length_nil, Nat.zero_add], trivial⟩⟩, ⟨(h1), ⟨⟨trivial, ⟨by simp (disch := omega) only [List.length_cons, List.length_nil, Nat.zero_add], trivial⟩⟩, ⟨(h2), ⟨⟨trivial, ⟨by simp (disch := omega) only [List.length_cons, List.length_nil, Nat.zero_add], trivial⟩⟩, ⟨(h3), ⟨⟨trivial, ⟨by simp (disch := omega) only [List.length_cons, List.length_nil, Nat.zero_add], trivial⟩⟩, ⟨⟨trivial, ⟨by simp (disch := omega) only [List.length_cons, List.length_nil, Nat.zero_add], trivial⟩⟩, ⟨(h4), ⟨⟨trivial, ⟨by simp (disch := omega) only [List.length_cons, List.length_nil, Nat.zero_add], trivial⟩⟩, ⟨⟨trivial, ⟨by simp (disch := omega) only [List.length_cons, List.length_nil, Nat.zero_add], trivial⟩⟩, ⟨(h5), ⟨⟨trivial, ⟨by simp (disch := omega) only [List.length_cons, List.length_nil, Nat.zero_add], trivial⟩⟩, ⟨(h6), ⟨⟨trivial, ⟨by simp (disch := omega) only [List.length_cons, List.length_nil, Nat.zero_add], trivial⟩⟩, ⟨(h7), ⟨⟨trivial, ⟨by simp (disch := omega) only [List.length_cons, List.length_nil, Nat.zero_add], trivial⟩⟩, ⟨(h8), ⟨⟨trivial, ⟨by simp (disch := omega) only [List.length_cons, List.length_nil, Nat.zero_add], trivial⟩⟩, ⟨(h9), ⟨(e1), ⟨⟨trivial, ⟨congrArg V.bool (by (simp <;> omega)), trivial⟩⟩, ⟨(e2), ⟨⟨trivial, ⟨congrArg V.bool (by (simp <;> omega)), trivial⟩⟩, ⟨⟨trivial, ⟨congrArg V.bool (by (simp <;> omega)), trivial⟩⟩, ⟨(e2), ⟨by (simp <;> omega), ⟨by (simp <;> omega), ⟨by (simp <;> omega), ⟨(e3), ⟨by (simp <;> omega), ⟨⟨trivial, ⟨congrArg V.bool (by (simp <;> omega)), trivial⟩⟩, ⟨(k1), ⟨(k2), ⟨⟨trivial, ⟨congrArg V.bool (by (simp <;> omega)), trivial⟩⟩, ⟨(e4), rfl⟩⟩⟩⟩⟩⟩⟩⟩⟩⟩⟩⟩⟩⟩⟩⟩⟩⟩⟩⟩⟩⟩⟩⟩⟩⟩⟩⟩⟩⟩⟩⟩⟩⟩⟩⟩⟩
end Go.Fw
/- Net: typed values. -/
set_option maxHeartbeats 20000000
namespace Go.Fw
open Go.Proofs
theorem typ_int {P : Program} {n : Nat} {t : TypeId} {k : IntKind} {x : V} (ht : P.underlying t = some (.int k)) (ha : isAggT P t = some false) (h : TypE P (TypC P (n + 1)) t x) : ∃ z, x = .int k z ∧ (Lit.int k z).wf = true := by
  unfold TypE at h
  rw [ha] at h
  dsimp only at h
  unfold TypC at h
  rw [ht] at h
  exact h
theorem typ_str {P : Program} {n : Nat} {t : TypeId} {x : V} (ht : P.underlying t = some .string) (ha : isAggT P t = some false) (h : TypE P (TypC P (n + 1)) t x) : ∃ s, x = .str s ∧ s.size ≤ reachBytes := by
  unfold TypE at h
  rw [ha] at h
  dsimp only at h
  unfold TypC at h
  rw [ht] at h
  exact h
theorem typ_agg {P : Program} {n : Nat} {t : TypeId} {ts : List TypeId} {x : V} (hf : flatT P 20 t = some ts) (ha : isAggT P t = some true) (h : TypE P (TypC P n) t x) : ∃ cs, x = .agg cs ∧ cs.length = ts.length ∧ ∀ (j : Nat) (c : V) (u : TypeId), cs[j]? = some c → ts[j]? = some u → TypC P n u c := by
  unfold TypE at h
  rw [ha] at h
  obtain ⟨ts', cs, h1, h2, h3, h4⟩ := h
  rw [hf] at h1
  cases h1
  exact ⟨cs, h2, h3, h4⟩
theorem typC_int {P : Program} {n : Nat} {t : TypeId} {k : IntKind} {x : V} (ht : P.underlying t = some (.int k)) (h : TypC P (n + 1) t x) : ∃ z, x = .int k z ∧ (Lit.int k z).wf = true := by
  unfold TypC at h
  rw [ht] at h
  exact h
theorem typC_str {P : Program} {n : Nat} {t : TypeId} {x : V} (ht : P.underlying t = some .string) (h : TypC P (n + 1) t x) : ∃ s, x = .str s ∧ s.size ≤ reachBytes := by
  unfold TypC at h
  rw [ht] at h
  exact h
theorem pk_of {n : Nat} {x : V} (h : TypE Try.prog (TypC Try.prog (n + 1)) 30 x) : ∃ p : Pk, x = ePk p := by
  obtain ⟨cs, rfl, hl, hc⟩ := typ_agg (ts := [3, 3, 9]) (by kernel_rfl) (by kernel_rfl) h
  match cs, hl with
  | [c0, c1, c2], _ =>
    obtain ⟨f, rfl, _⟩ := typC_int (k := .i64) Try.underlying3 (hc 0 c0 3 rfl rfl)
    obtain ⟨t, rfl, _⟩ := typC_int (k := .i64) Try.underlying3 (hc 1 c1 3 rfl rfl)
    obtain ⟨s, rfl, _⟩ := typC_str Try.underlying9 (hc 2 c2 9 rfl rfl)
    exact ⟨⟨f, t, s⟩, rfl⟩
theorem net_of {x : V} (h : TypE Try.prog (TypC Try.prog 8) 24 x) : ∃ ps : List Pk, x = eNet ps ∧ ps.length * 32 ≤ 2 ^ 47 := by
  obtain ⟨cs, rfl, hl, hc⟩ := typ_agg (ts := [22]) (by kernel_rfl) (by kernel_rfl) h
  match cs, hl with
  | [c0], _ =>
    have h0 := hc 0 c0 22 rfl rfl
    unfold TypC at h0
    rw [Try.underlying22] at h0
    obtain ⟨xs, rfl, hb, hx⟩ := h0
    have : ∀ l : List V, (∀ x ∈ l, ∃ p, x = ePk p) → ∃ ps : List Pk, l = ps.map ePk := by
      intro l hl
      induction l with
      | nil => exact ⟨[], rfl⟩
      | cons x l ih =>
        obtain ⟨p, rfl⟩ := hl x (by simp)
        obtain ⟨ps, rfl⟩ := ih (fun x hx => hl x (by simp [hx]))
        exact ⟨p :: ps, rfl⟩
    obtain ⟨ps, rfl⟩ := this xs (fun x hm => pk_of (hx x hm))
    have e1 : Try.prog.bytesOf 30 = 32 := by kernel_rfl
    have e2 : Try.prog.cellsOf 30 = 3 := by kernel_rfl
    rw [e1] at hb
    rw [e2]
    have hr : reachBytes ≤ 2 ^ 47 := by decide
    exact ⟨ps, rfl, by rw [List.length_map] at hb; omega⟩
theorem int_of {x : V} (h : TypE Try.prog (TypC Try.prog 8) 3 x) : ∃ z, x = .int .i64 z := by
  obtain ⟨z, h, _⟩ := typ_int (k := .i64) Try.underlying3 (by kernel_rfl) h; exact ⟨z, h⟩
theorem str_of {x : V} (h : TypE Try.prog (TypC Try.prog 8) 9 x) : ∃ s, x = .str s := by
  obtain ⟨z, h, _⟩ := typ_str Try.underlying9 (by kernel_rfl) h; exact ⟨z, h⟩
theorem does_typed (x0 x1 x2 x3 x4 : V) (h0 : TypE Try.prog (TypC Try.prog 8) 24 x0) (h1 : TypE Try.prog (TypC Try.prog 8) 3 x1) (h2 : TypE Try.prog (TypC Try.prog 8) 3 x2) (h3 : TypE Try.prog (TypC Try.prog 8) 9 x3) (h4 : TypE Try.prog (TypC Try.prog 8) 3 x4) : Sp C1 3 [x0, x1, x2, x3, x4] (.bool true) := by
  obtain ⟨ps, rfl, h⟩ := net_of h0
  obtain ⟨f, rfl⟩ := int_of h1
  obtain ⟨t, rfl⟩ := int_of h2
  obtain ⟨s, rfl⟩ := str_of h3
  obtain ⟨i, rfl⟩ := int_of h4
  exact netDoes_sp ps f t i s h
end Go.Fw
/- Net: NetApart. -/
set_option maxHeartbeats 20000000
namespace Go.Fw
open Go.Proofs
theorem apart_state (ps : List Pk) (i : Int) (h : okNet ps = false) : Sp C1 5 [eNet ps, .int .i64 i] (.bool true) := by
  have h1 := deliver_state ps i h
  have h2 := drop_state ps i h
  have h3 := copy_state ps i h
  refine sp_tree draws (dm := []) (fs := []) (
    .call 14 16 ([]) (V.bool true) <| .call 19 10 ([eNet ps, V.int IntKind.i64 i]) (V.tup [eNet [], eZ, V.int IntKind.i64 (6 : Int)]) <| .rw 8005 [] [(5, V.ptr (List.length [Blk.cells [V.imm false (3 : Nat) (List.map ePk ps)] (24 : Nat)]) (0 : Nat), V.ptr (1 : Nat) (0 : Nat))] <| .rw 8006 [] [(6, V.ptr (List.length [Blk.cells [V.imm false (3 : Nat) (List.map ePk ps)] (24 : Nat), Blk.cells [V.nils] (24 : Nat)]) (0 : Nat), V.ptr ((1 : Nat) + (1 : Nat)) (0 : Nat))] <| .call 26 12 ([eNet ps, V.int IntKind.i64 i]) (V.tup [eNet [], V.int IntKind.i64 (6 : Int)]) <| .rw 8008 [] [(8, V.ptr (List.length [Blk.cells [V.imm false (3 : Nat) (List.map ePk ps)] (24 : Nat), Blk.cells [V.imm false (3 : Nat) []] (24 : Nat), Blk.cells [V.int IntKind.i64 (0 : Int), V.int IntKind.i64 (0 : Int), V.str (ByteArray.mk #[])] (30 : Nat)]) (0 : Nat), V.ptr ((1 : Nat) + (1 : Nat) + (1 : Nat)) (0 : Nat))] <| .call 32 14 ([eNet ps, V.int IntKind.i64 i]) (V.tup [eNet [], V.int IntKind.i64 (6 : Int)]) <| .rw 8010 [] [(10, V.ptr (List.length [Blk.cells [V.imm false (3 : Nat) (List.map ePk ps)] (24 : Nat), Blk.cells [V.imm false (3 : Nat) []] (24 : Nat), Blk.cells [V.int IntKind.i64 (0 : Int), V.int IntKind.i64 (0 : Int), V.str (ByteArray.mk #[])] (30 : Nat), Blk.cells [V.imm false (3 : Nat) []] (24 : Nat)]) (0 : Nat), V.ptr ((1 : Nat) + (1 : Nat) + (1 : Nat) + (1 : Nat)) (0 : Nat))] <| .ret (V.bool true)) (by kernel_rfl) ?_
  exact ⟨(Go.Fw.lives_sp), ⟨(h1), ⟨⟨trivial, ⟨by simp (disch := omega) only [List.length_cons, List.length_nil, Nat.zero_add], trivial⟩⟩, ⟨⟨trivial, ⟨by simp (disch := omega) only [List.length_cons, List.length_nil, Nat.zero_add], trivial⟩⟩, ⟨(h2), ⟨⟨trivial, ⟨by simp (disch := omega) only [List.length_cons, List.length_nil, Nat.zero_add], trivial⟩⟩, ⟨(h3), ⟨⟨trivial, ⟨by simp (disch := omega) only [List.length_cons, List.length_nil, Nat.zero_add], trivial⟩⟩, rfl⟩⟩⟩⟩⟩⟩⟩⟩
theorem apart_out (ps : List Pk) (i : Int) (h : okNet ps = true) (hi : i < 0 ∨ ps.length ≤ i) : Sp C1 5 [eNet ps, .int .i64 i] (.bool true) := by
  have h1 := deliver_out ps i h hi
  have h2 := drop_out ps i h hi
  have h3 := copy_out ps i h hi
  refine sp_tree draws (dm := []) (fs := []) (
    .call 14 16 ([]) (V.bool true) <| .call 19 10 ([eNet ps, V.int IntKind.i64 i]) (V.tup [eNet ps, eZ, V.int IntKind.i64 (7 : Int)]) <| .rw 8005 [] [(5, V.ptr (List.length [Blk.cells [V.imm false (3 : Nat) (List.map ePk ps)] (24 : Nat)]) (0 : Nat), V.ptr (1 : Nat) (0 : Nat))] <| .rw 8006 [] [(6, V.ptr (List.length [Blk.cells [V.imm false (3 : Nat) (List.map ePk ps)] (24 : Nat), Blk.cells [V.nils] (24 : Nat)]) (0 : Nat), V.ptr ((1 : Nat) + (1 : Nat)) (0 : Nat))] <| .call 26 12 ([eNet ps, V.int IntKind.i64 i]) (V.tup [eNet ps, V.int IntKind.i64 (7 : Int)]) <| .rw 8008 [] [(8, V.ptr (List.length [Blk.cells [V.imm false (3 : Nat) (List.map ePk ps)] (24 : Nat), Blk.cells [V.imm false (3 : Nat) (List.map ePk ps)] (24 : Nat), Blk.cells [V.int IntKind.i64 (0 : Int), V.int IntKind.i64 (0 : Int), V.str (ByteArray.mk #[])] (30 : Nat)]) (0 : Nat), V.ptr ((1 : Nat) + (1 : Nat) + (1 : Nat)) (0 : Nat))] <| .call 32 14 ([eNet ps, V.int IntKind.i64 i]) (V.tup [eNet ps, V.int IntKind.i64 (7 : Int)]) <| .rw 8010 [] [(10, V.ptr (List.length [Blk.cells [V.imm false (3 : Nat) (List.map ePk ps)] (24 : Nat), Blk.cells [V.imm false (3 : Nat) (List.map ePk ps)] (24 : Nat), Blk.cells [V.int IntKind.i64 (0 : Int), V.int IntKind.i64 (0 : Int), V.str (ByteArray.mk #[])] (30 : Nat), Blk.cells [V.imm false (3 : Nat) (List.map ePk ps)] (24 : Nat)]) (0 : Nat), V.ptr ((1 : Nat) + (1 : Nat) + (1 : Nat) + (1 : Nat)) (0 : Nat))] <| .ret (V.bool true)) (by kernel_rfl) ?_
  exact ⟨(Go.Fw.lives_sp), ⟨(h1), ⟨⟨trivial, ⟨by simp (disch := omega) only [List.length_cons, List.length_nil, Nat.zero_add], trivial⟩⟩, ⟨⟨trivial, ⟨by simp (disch := omega) only [List.length_cons, List.length_nil, Nat.zero_add], trivial⟩⟩, ⟨(h2), ⟨⟨trivial, ⟨by simp (disch := omega) only [List.length_cons, List.length_nil, Nat.zero_add], trivial⟩⟩, ⟨(h3), ⟨⟨trivial, ⟨by simp (disch := omega) only [List.length_cons, List.length_nil, Nat.zero_add], trivial⟩⟩, rfl⟩⟩⟩⟩⟩⟩⟩⟩
theorem cast_pred (j : Nat) : ((j + 1 : Nat) : Int) - 1 = (j : Int) := by omega
abbrev K5 : List Nat := [1, 2, 5, 6, 8, 10, 11, 103, 104, 105]
abbrev pkC (p : Pk) : Blk := .cells [.int .i64 p.f, .int .i64 p.t, .str p.s] 30
abbrev H5 (ps qs cs : List Pk) (p : Pk) : List Blk := [.cells [ePs ps] 24, .cells [ePs qs] 24, pkC p, .cells [ePs qs] 24, .cells [ePs cs] 24]
abbrev S5 (ps qs cs : List Pk) (p : Pk) (c : Int) (i n j : Nat) : St := mkSt 164 [(1, .int .i64 (i : Int)), (2, .ptr 0 0), (5, .ptr 1 0), (6, .ptr 2 0), (8, .ptr 3 0), (10, .ptr 4 0), (11, .int .i64 c), (103, ePs ps), (104, .int .i64 (n : Int)), (105, .int .i64 (j : Int))] (H5 ps qs cs p)
abbrev E5 (ps qs cs : List Pk) (p : Pk) (c : Int) (i : Nat) : St := mkSt 164 [(1, .int .i64 (i : Int)), (2, .ptr 0 0), (5, .ptr 1 0), (6, .ptr 2 0), (8, .ptr 3 0), (10, .ptr 4 0), (11, .int .i64 c)] (H5 ps qs cs p)
abbrev KE5 : List Nat := [1, 2, 5, 6, 8, 10, 11]
theorem loop5_8 (ps qs cs : List Pk) (p : Pk) (i n : Nat) (hn : ps.length = n) (h47 : n * 32 ≤ 2 ^ 47) (hin : i < n) (hlt : ∀ (j : Nat) (x : Pk), ps[j]? = some x → j < i → qs[j]? = some x) (hgt : ∀ (j : Nat) (x : Pk), ps[j + 1]? = some x → i < j + 1 → qs[j]? = some x) : ∀ (k j : Nat), j + k = n →
    LoopK C1 5 88 (keeps K5) (S5 ps qs cs p 8 i n j) (.exit 0) (E5 ps qs cs p 8 i)
  | 0, j, h => by
    obtain rfl : j = n := by omega
    refine loop_tree draws (kn := (keeps K5)) (ke := (keeps KE5)) (
    .rw 8106 [] [(106, V.bool (decide ((↑j : Int) < (↑j : Int))), V.bool false)] <| .ret ((Ex.exit (0 : Nat), St.mk [V.undef, V.int IntKind.i64 (↑i : Int), V.ptr (0 : Nat) (0 : Nat), V.undef, V.undef, V.ptr (1 : Nat) (0 : Nat), V.ptr (2 : Nat) (0 : Nat), V.undef, V.ptr (3 : Nat) (0 : Nat), V.undef, V.ptr (4 : Nat) (0 : Nat), V.int IntKind.i64 (8 : Int), V.undef, V.undef, V.undef, V.undef, V.undef, V.undef, V.undef, V.undef, V.undef, V.undef, V.undef, V.undef, V.undef, V.undef, V.undef, V.undef, V.undef, V.undef, V.undef, V.undef, V.undef, V.undef, V.undef, V.undef, V.undef, V.undef, V.undef, V.undef, V.undef, V.undef, V.undef, V.undef, V.undef, V.undef, V.undef, V.undef, V.undef, V.undef, V.undef, V.undef, V.undef, V.undef, V.undef, V.undef, V.undef, V.undef, V.undef, V.undef, V.undef, V.undef, V.undef, V.undef, V.undef, V.undef, V.undef, V.undef, V.undef, V.undef, V.undef, V.undef, V.undef, V.undef, V.undef, V.undef, V.undef, V.undef, V.undef, V.undef, V.undef, V.undef, V.undef, V.undef, V.undef, V.undef, V.undef, V.undef, V.undef, V.undef, V.undef, V.undef, V.undef, V.undef, V.undef, V.undef, V.undef, V.undef, V.undef, V.undef, V.undef, V.undef, V.undef, V.undef, V.undef, V.undef, V.undef, V.undef, V.undef, V.undef, V.undef, V.undef, V.undef, V.undef, V.undef, V.undef, V.undef, V.undef, V.undef, V.undef, V.undef, V.undef, V.undef, V.undef, V.undef, V.undef, V.undef, V.undef, V.undef, V.undef, V.undef, V.undef, V.undef, V.undef, V.undef, V.undef, V.undef, V.undef, V.undef, V.undef, V.undef, V.undef, V.undef, V.undef, V.undef, V.undef, V.undef, V.undef, V.undef, V.undef, V.undef, V.undef, V.undef, V.undef, V.undef, V.undef, V.undef, V.undef, V.undef, V.undef, V.undef, V.undef, V.undef, V.undef] [Blk.cells [V.imm false (3 : Nat) (List.map ePk ps)] (24 : Nat), Blk.cells [V.imm false (3 : Nat) (List.map ePk qs)] (24 : Nat), Blk.cells [V.int IntKind.i64 (Pk.f p), V.int IntKind.i64 (Pk.t p), V.str (Pk.s p)] (30 : Nat), Blk.cells [V.imm false (3 : Nat) (List.map ePk qs)] (24 : Nat), Blk.cells [V.imm false (3 : Nat) (List.map ePk cs)] (24 : Nat)]))) (by kernel_rfl) ?_
    exact ⟨⟨trivial, ⟨congrArg V.bool (by (simp <;> omega)), trivial⟩⟩, ⟨rfl, rfl⟩⟩
  | k + 1, j, h => by
    have ih := loop5_8 ps qs cs p i n hn h47 hin hlt hgt k (j + 1) (by omega)
    obtain ⟨x, hx⟩ : ∃ x, ps[j]? = some x := ⟨ps[j]'(by omega), List.getElem?_eq_getElem (by omega)⟩
    rcases Nat.lt_trichotomy j i with hji | hji | hji
    · have hx2 := hlt j x hx hji
      clear hlt hgt
      refine loop_tree draws (kn := (keeps K5)) (ke := (keeps KE5)) (
    .rw 8106 [] [(106, V.bool (decide ((↑j : Int) < (↑n : Int))), V.bool true)] <| .opt 108 (idx (List.map ePk ps) (↑j : Int)) (ePk x) <| .rw 8013 [] [(13, V.ptr (List.length [Blk.cells [V.imm false (3 : Nat) (List.map ePk ps)] (24 : Nat), Blk.cells [V.imm false (3 : Nat) (List.map ePk qs)] (24 : Nat), Blk.cells [V.int IntKind.i64 (Pk.f p), V.int IntKind.i64 (Pk.t p), V.str (Pk.s p)] (30 : Nat), Blk.cells [V.imm false (3 : Nat) (List.map ePk qs)] (24 : Nat), Blk.cells [V.imm false (3 : Nat) (List.map ePk cs)] (24 : Nat)]) (0 : Nat), V.ptr ((1 : Nat) + (1 : Nat) + (1 : Nat) + (1 : Nat) + (1 : Nat)) (0 : Nat))] <| .rw 8112 [] [(112, V.bool (decide ((↑j : Int) < (↑i : Int))), V.bool true)] <| .opt 117 (idx (List.map ePk qs) (↑j : Int)) (ePk x) <| .rw 8120 [] [(120, V.bool !(Pk.f x == Pk.f x && (Pk.t x == Pk.t x && (ByteArray.toList (Pk.s x) == ByteArray.toList (Pk.s x) && true))), V.bool false)] <| .rw 8125 [] [(125, V.bool (decide ((↑j : Int) > (↑i : Int))), V.bool false)] <| .rw 8150 [] [(150, V.int IntKind.i64 (IntKind.wrap IntKind.i64 ((↑j : Int) + (1 : Int))), V.int IntKind.i64 (↑(j + (1 : Nat)) : Int))] <| .to 8105 ([.cut 5]) <| .ret (.normal, S5 ps qs cs p (8 : Int) i n (j + (1 : Nat)))) (by kernel_rfl) ?_
      exact ⟨⟨trivial, ⟨congrArg V.bool (by (simp <;> omega)), trivial⟩⟩, ⟨(Go.Fw.idx_map _ hx), ⟨⟨trivial, ⟨by simp (disch := omega) only [List.length_cons, List.length_nil, Nat.zero_add], trivial⟩⟩, ⟨⟨trivial, ⟨congrArg V.bool (by (simp <;> omega)), trivial⟩⟩, ⟨(Go.Fw.idx_map _ hx2), ⟨⟨trivial, ⟨congrArg V.bool (by (simp <;> omega)), trivial⟩⟩, ⟨⟨trivial, ⟨congrArg V.bool (by (simp <;> omega)), trivial⟩⟩, ⟨⟨trivial, ⟨by simp (disch := omega) only [Go.Fw.cast_succ, Go.Fw.wrap_i64], trivial⟩⟩, (ih)⟩⟩⟩⟩⟩⟩⟩⟩
    · subst hji
      clear hlt hgt
      refine loop_tree draws (kn := (keeps K5)) (ke := (keeps KE5)) (
    .rw 8106 [] [(106, V.bool (decide ((↑j : Int) < (↑n : Int))), V.bool true)] <| .opt 108 (idx (List.map ePk ps) (↑j : Int)) (ePk x) <| .rw 8013 [] [(13, V.ptr (List.length [Blk.cells [V.imm false (3 : Nat) (List.map ePk ps)] (24 : Nat), Blk.cells [V.imm false (3 : Nat) (List.map ePk qs)] (24 : Nat), Blk.cells [V.int IntKind.i64 (Pk.f p), V.int IntKind.i64 (Pk.t p), V.str (Pk.s p)] (30 : Nat), Blk.cells [V.imm false (3 : Nat) (List.map ePk qs)] (24 : Nat), Blk.cells [V.imm false (3 : Nat) (List.map ePk cs)] (24 : Nat)]) (0 : Nat), V.ptr ((1 : Nat) + (1 : Nat) + (1 : Nat) + (1 : Nat) + (1 : Nat)) (0 : Nat))] <| .rw 8112 [] [(112, V.bool (decide ((↑j : Int) < (↑j : Int))), V.bool false)] <| .rw 8125 [] [(125, V.bool (decide ((↑j : Int) > (↑j : Int))), V.bool false)] <| .rw 8150 [] [(150, V.int IntKind.i64 (IntKind.wrap IntKind.i64 ((↑j : Int) + (1 : Int))), V.int IntKind.i64 (↑(j + (1 : Nat)) : Int))] <| .to 8105 ([.cut 5]) <| .ret (.normal, S5 ps qs cs p (8 : Int) j n (j + (1 : Nat)))) (by kernel_rfl) ?_
      exact ⟨⟨trivial, ⟨congrArg V.bool (by (simp <;> omega)), trivial⟩⟩, ⟨(Go.Fw.idx_map _ hx), ⟨⟨trivial, ⟨by simp (disch := omega) only [List.length_cons, List.length_nil, Nat.zero_add], trivial⟩⟩, ⟨⟨trivial, ⟨congrArg V.bool (by (simp <;> omega)), trivial⟩⟩, ⟨⟨trivial, ⟨congrArg V.bool (by (simp <;> omega)), trivial⟩⟩, ⟨⟨trivial, ⟨by simp (disch := omega) only [Go.Fw.cast_succ, Go.Fw.wrap_i64], trivial⟩⟩, (ih)⟩⟩⟩⟩⟩⟩
    · obtain ⟨j, rfl⟩ : ∃ m, j = m + 1 := ⟨j - 1, by omega⟩
      have hx2 := hgt j x hx hji
      have hxi : idx (List.map ePk qs) (((j + 1 : Nat) : Int) - 1) = some (ePk x) := by rw [cast_pred]; exact idx_map _ hx2
      clear hlt hgt
      refine loop_tree draws (kn := (keeps K5)) (ke := (keeps KE5)) (
    .rw 8106 [] [(106, V.bool (decide ((↑(j + (1 : Nat)) : Int) < (↑n : Int))), V.bool true)] <| .opt 108 (idx (List.map ePk ps) (↑(j + (1 : Nat)) : Int)) (ePk x) <| .rw 8013 [] [(13, V.ptr (List.length [Blk.cells [V.imm false (3 : Nat) (List.map ePk ps)] (24 : Nat), Blk.cells [V.imm false (3 : Nat) (List.map ePk qs)] (24 : Nat), Blk.cells [V.int IntKind.i64 (Pk.f p), V.int IntKind.i64 (Pk.t p), V.str (Pk.s p)] (30 : Nat), Blk.cells [V.imm false (3 : Nat) (List.map ePk qs)] (24 : Nat), Blk.cells [V.imm false (3 : Nat) (List.map ePk cs)] (24 : Nat)]) (0 : Nat), V.ptr ((1 : Nat) + (1 : Nat) + (1 : Nat) + (1 : Nat) + (1 : Nat)) (0 : Nat))] <| .rw 8112 [] [(112, V.bool (decide ((↑(j + (1 : Nat)) : Int) < (↑i : Int))), V.bool false)] <| .rw 8125 [] [(125, V.bool (decide ((↑(j + (1 : Nat)) : Int) > (↑i : Int))), V.bool true)] <| .rw 8130 [] [(130, V.int IntKind.i64 (IntKind.wrap IntKind.i64 ((↑(j + (1 : Nat)) : Int) - (1 : Int))), V.int IntKind.i64 ((↑(j + (1 : Nat)) : Int) - (1 : Int)))] <| .opt 131 (idx (List.map ePk qs) ((↑(j + (1 : Nat)) : Int) - (1 : Int))) (ePk x) <| .rw 8134 [] [(134, V.bool !(Pk.f x == Pk.f x && (Pk.t x == Pk.t x && (ByteArray.toList (Pk.s x) == ByteArray.toList (Pk.s x) && true))), V.bool false)] <| .rw 8150 [] [(150, V.int IntKind.i64 (IntKind.wrap IntKind.i64 ((↑(j + (1 : Nat)) : Int) + (1 : Int))), V.int IntKind.i64 (↑(j + (1 : Nat) + (1 : Nat)) : Int))] <| .to 8105 ([.cut 5]) <| .ret (.normal, S5 ps qs cs p (8 : Int) i n (j + (1 : Nat) + (1 : Nat)))) (by kernel_rfl) ?_
      exact ⟨⟨trivial, ⟨congrArg V.bool (by (simp <;> omega)), trivial⟩⟩, ⟨(Go.Fw.idx_map _ hx), ⟨⟨trivial, ⟨by simp (disch := omega) only [List.length_cons, List.length_nil, Nat.zero_add], trivial⟩⟩, ⟨⟨trivial, ⟨congrArg V.bool (by (simp <;> omega)), trivial⟩⟩, ⟨⟨trivial, ⟨congrArg V.bool (by (simp <;> omega)), trivial⟩⟩, ⟨⟨trivial, ⟨by simp (disch := omega) only [Go.Fw.wrap_i64], trivial⟩⟩, ⟨(hxi), ⟨⟨trivial, ⟨congrArg V.bool (by (simp <;> omega)), trivial⟩⟩, ⟨⟨trivial, ⟨by simp (disch := omega) only [Go.Fw.cast_succ, Go.Fw.wrap_i64], trivial⟩⟩, (ih)⟩⟩⟩⟩⟩⟩⟩⟩⟩
theorem loop5_0 (ps qs cs : List Pk) (p : Pk) (i n : Nat) (hn : ps.length = n) (h47 : n * 32 ≤ 2 ^ 47) (hin : i < n) (hlt : ∀ (j : Nat) (x : Pk), ps[j]? = some x → j < i → qs[j]? = some x) (hgt : ∀ (j : Nat) (x : Pk), ps[j + 1]? = some x → i < j + 1 → qs[j]? = some x) (hc : ∀ (j : Nat) (x : Pk), ps[j]? = some x → cs[j]? = some x) : ∀ (k j : Nat), j + k = n →
    LoopK C1 5 88 (keeps K5) (S5 ps qs cs p 0 i n j) (.exit 0) (E5 ps qs cs p 0 i)
  | 0, j, h => by
    obtain rfl : j = n := by omega
    refine loop_tree draws (kn := (keeps K5)) (ke := (keeps KE5)) (
    .rw 8106 [] [(106, V.bool (decide ((↑j : Int) < (↑j : Int))), V.bool false)] <| .ret ((Ex.exit (0 : Nat), St.mk [V.undef, V.int IntKind.i64 (↑i : Int), V.ptr (0 : Nat) (0 : Nat), V.undef, V.undef, V.ptr (1 : Nat) (0 : Nat), V.ptr (2 : Nat) (0 : Nat), V.undef, V.ptr (3 : Nat) (0 : Nat), V.undef, V.ptr (4 : Nat) (0 : Nat), V.int IntKind.i64 (0 : Int), V.undef, V.undef, V.undef, V.undef, V.undef, V.undef, V.undef, V.undef, V.undef, V.undef, V.undef, V.undef, V.undef, V.undef, V.undef, V.undef, V.undef, V.undef, V.undef, V.undef, V.undef, V.undef, V.undef, V.undef, V.undef, V.undef, V.undef, V.undef, V.undef, V.undef, V.undef, V.undef, V.undef, V.undef, V.undef, V.undef, V.undef, V.undef, V.undef, V.undef, V.undef, V.undef, V.undef, V.undef, V.undef, V.undef, V.undef, V.undef, V.undef, V.undef, V.undef, V.undef, V.undef, V.undef, V.undef, V.undef, V.undef, V.undef, V.undef, V.undef, V.undef, V.undef, V.undef, V.undef, V.undef, V.undef, V.undef, V.undef, V.undef, V.undef, V.undef, V.undef, V.undef, V.undef, V.undef, V.undef, V.undef, V.undef, V.undef, V.undef, V.undef, V.undef, V.undef, V.undef, V.undef, V.undef, V.undef, V.undef, V.undef, V.undef, V.undef, V.undef, V.undef, V.undef, V.undef, V.undef, V.undef, V.undef, V.undef, V.undef, V.undef, V.undef, V.undef, V.undef, V.undef, V.undef, V.undef, V.undef, V.undef, V.undef, V.undef, V.undef, V.undef, V.undef, V.undef, V.undef, V.undef, V.undef, V.undef, V.undef, V.undef, V.undef, V.undef, V.undef, V.undef, V.undef, V.undef, V.undef, V.undef, V.undef, V.undef, V.undef, V.undef, V.undef, V.undef, V.undef, V.undef, V.undef, V.undef, V.undef, V.undef, V.undef, V.undef, V.undef, V.undef, V.undef, V.undef, V.undef, V.undef, V.undef, V.undef, V.undef] [Blk.cells [V.imm false (3 : Nat) (List.map ePk ps)] (24 : Nat), Blk.cells [V.imm false (3 : Nat) (List.map ePk qs)] (24 : Nat), Blk.cells [V.int IntKind.i64 (Pk.f p), V.int IntKind.i64 (Pk.t p), V.str (Pk.s p)] (30 : Nat), Blk.cells [V.imm false (3 : Nat) (List.map ePk qs)] (24 : Nat), Blk.cells [V.imm false (3 : Nat) (List.map ePk cs)] (24 : Nat)]))) (by kernel_rfl) ?_
    exact ⟨⟨trivial, ⟨congrArg V.bool (by (simp <;> omega)), trivial⟩⟩, ⟨rfl, rfl⟩⟩
  | k + 1, j, h => by
    have ih := loop5_0 ps qs cs p i n hn h47 hin hlt hgt hc k (j + 1) (by omega)
    obtain ⟨x, hx⟩ : ∃ x, ps[j]? = some x := ⟨ps[j]'(by omega), List.getElem?_eq_getElem (by omega)⟩
    rcases Nat.lt_trichotomy j i with hji | hji | hji
    · have hx2 := hlt j x hx hji
      have hx3 := hc j x hx
      clear hlt hgt hc
      refine loop_tree draws (kn := (keeps K5)) (ke := (keeps KE5)) (
    .rw 8106 [] [(106, V.bool (decide ((↑j : Int) < (↑n : Int))), V.bool true)] <| .opt 108 (idx (List.map ePk ps) (↑j : Int)) (ePk x) <| .rw 8013 [] [(13, V.ptr (List.length [Blk.cells [V.imm false (3 : Nat) (List.map ePk ps)] (24 : Nat), Blk.cells [V.imm false (3 : Nat) (List.map ePk qs)] (24 : Nat), Blk.cells [V.int IntKind.i64 (Pk.f p), V.int IntKind.i64 (Pk.t p), V.str (Pk.s p)] (30 : Nat), Blk.cells [V.imm false (3 : Nat) (List.map ePk qs)] (24 : Nat), Blk.cells [V.imm false (3 : Nat) (List.map ePk cs)] (24 : Nat)]) (0 : Nat), V.ptr ((1 : Nat) + (1 : Nat) + (1 : Nat) + (1 : Nat) + (1 : Nat)) (0 : Nat))] <| .rw 8112 [] [(112, V.bool (decide ((↑j : Int) < (↑i : Int))), V.bool true)] <| .opt 117 (idx (List.map ePk qs) (↑j : Int)) (ePk x) <| .rw 8120 [] [(120, V.bool !(Pk.f x == Pk.f x && (Pk.t x == Pk.t x && (ByteArray.toList (Pk.s x) == ByteArray.toList (Pk.s x) && true))), V.bool false)] <| .rw 8125 [] [(125, V.bool (decide ((↑j : Int) > (↑i : Int))), V.bool false)] <| .opt 144 (idx (List.map ePk cs) (↑j : Int)) (ePk x) <| .ff 2149 (!(Pk.f x == Pk.f x && (Pk.t x == Pk.t x && (ByteArray.toList (Pk.s x) == ByteArray.toList (Pk.s x) && true)))) <| .rw 8150 [] [(150, V.int IntKind.i64 (IntKind.wrap IntKind.i64 ((↑j : Int) + (1 : Int))), V.int IntKind.i64 (↑(j + (1 : Nat)) : Int))] <| .to 8105 ([.cut 5]) <| .ret (.normal, S5 ps qs cs p (0 : Int) i n (j + (1 : Nat)))) (by kernel_rfl) ?_
      exact ⟨⟨trivial, ⟨congrArg V.bool (by (simp <;> omega)), trivial⟩⟩, ⟨(Go.Fw.idx_map _ hx), ⟨⟨trivial, ⟨by simp (disch := omega) only [List.length_cons, List.length_nil, Nat.zero_add], trivial⟩⟩, ⟨⟨trivial, ⟨congrArg V.bool (by (simp <;> omega)), trivial⟩⟩, ⟨(Go.Fw.idx_map _ hx2), ⟨⟨trivial, ⟨congrArg V.bool (by (simp <;> omega)), trivial⟩⟩, ⟨⟨trivial, ⟨congrArg V.bool (by (simp <;> omega)), trivial⟩⟩, ⟨(Go.Fw.idx_map _ hx3), ⟨by (simp <;> omega), ⟨⟨trivial, ⟨by simp (disch := omega) only [Go.Fw.cast_succ, Go.Fw.wrap_i64], trivial⟩⟩, (ih)⟩⟩⟩⟩⟩⟩⟩⟩⟩⟩
    · subst hji
      have hx3 := hc j x hx
      clear hlt hgt hc
      refine loop_tree draws (kn := (keeps K5)) (ke := (keeps KE5)) (
    .rw 8106 [] [(106, V.bool (decide ((↑j : Int) < (↑n : Int))), V.bool true)] <| .opt 108 (idx (List.map ePk ps) (↑j : Int)) (ePk x) <| .rw 8013 [] [(13, V.ptr (List.length [Blk.cells [V.imm false (3 : Nat) (List.map ePk ps)] (24 : Nat), Blk.cells [V.imm false (3 : Nat) (List.map ePk qs)] (24 : Nat), Blk.cells [V.int IntKind.i64 (Pk.f p), V.int IntKind.i64 (Pk.t p), V.str (Pk.s p)] (30 : Nat), Blk.cells [V.imm false (3 : Nat) (List.map ePk qs)] (24 : Nat), Blk.cells [V.imm false (3 : Nat) (List.map ePk cs)] (24 : Nat)]) (0 : Nat), V.ptr ((1 : Nat) + (1 : Nat) + (1 : Nat) + (1 : Nat) + (1 : Nat)) (0 : Nat))] <| .rw 8112 [] [(112, V.bool (decide ((↑j : Int) < (↑j : Int))), V.bool false)] <| .rw 8125 [] [(125, V.bool (decide ((↑j : Int) > (↑j : Int))), V.bool false)] <| .opt 144 (idx (List.map ePk cs) (↑j : Int)) (ePk x) <| .rw 8147 [] [(147, V.bool !(Pk.f x == Pk.f x && (Pk.t x == Pk.t x && (ByteArray.toList (Pk.s x) == ByteArray.toList (Pk.s x) && true))), V.bool false)] <| .rw 8150 [] [(150, V.int IntKind.i64 (IntKind.wrap IntKind.i64 ((↑j : Int) + (1 : Int))), V.int IntKind.i64 (↑(j + (1 : Nat)) : Int))] <| .to 8105 ([.cut 5]) <| .ret (.normal, S5 ps qs cs p (0 : Int) j n (j + (1 : Nat)))) (by kernel_rfl) ?_
      exact ⟨⟨trivial, ⟨congrArg V.bool (by (simp <;> omega)), trivial⟩⟩, ⟨(Go.Fw.idx_map _ hx), ⟨⟨trivial, ⟨by simp (disch := omega) only [List.length_cons, List.length_nil, Nat.zero_add], trivial⟩⟩, ⟨⟨trivial, ⟨congrArg V.bool (by (simp <;> omega)), trivial⟩⟩, ⟨⟨trivial, ⟨congrArg V.bool (by (simp <;> omega)), trivial⟩⟩, ⟨(Go.Fw.idx_map _ hx3), ⟨⟨trivial, ⟨congrArg V.bool (by (simp <;> omega)), trivial⟩⟩, ⟨⟨trivial, ⟨by simp (disch := omega) only [Go.Fw.cast_succ, Go.Fw.wrap_i64], trivial⟩⟩, (ih)⟩⟩⟩⟩⟩⟩⟩⟩
    · obtain ⟨j, rfl⟩ : ∃ m, j = m + 1 := ⟨j - 1, by omega⟩
      have hx2 := hgt j x hx hji
      have hxi : idx (List.map ePk qs) (((j + 1 : Nat) : Int) - 1) = some (ePk x) := by rw [cast_pred]; exact idx_map _ hx2
      have hx3 := hc (j + 1) x hx
      clear hlt hgt hc
      refine loop_tree draws (kn := (keeps K5)) (ke := (keeps KE5)) (
    .rw 8106 [] [(106, V.bool (decide ((↑(j + (1 : Nat)) : Int) < (↑n : Int))), V.bool true)] <| .opt 108 (idx (List.map ePk ps) (↑(j + (1 : Nat)) : Int)) (ePk x) <| .rw 8013 [] [(13, V.ptr (List.length [Blk.cells [V.imm false (3 : Nat) (List.map ePk ps)] (24 : Nat), Blk.cells [V.imm false (3 : Nat) (List.map ePk qs)] (24 : Nat), Blk.cells [V.int IntKind.i64 (Pk.f p), V.int IntKind.i64 (Pk.t p), V.str (Pk.s p)] (30 : Nat), Blk.cells [V.imm false (3 : Nat) (List.map ePk qs)] (24 : Nat), Blk.cells [V.imm false (3 : Nat) (List.map ePk cs)] (24 : Nat)]) (0 : Nat), V.ptr ((1 : Nat) + (1 : Nat) + (1 : Nat) + (1 : Nat) + (1 : Nat)) (0 : Nat))] <| .rw 8112 [] [(112, V.bool (decide ((↑(j + (1 : Nat)) : Int) < (↑i : Int))), V.bool false)] <| .rw 8125 [] [(125, V.bool (decide ((↑(j + (1 : Nat)) : Int) > (↑i : Int))), V.bool true)] <| .rw 8130 [] [(130, V.int IntKind.i64 (IntKind.wrap IntKind.i64 ((↑(j + (1 : Nat)) : Int) - (1 : Int))), V.int IntKind.i64 ((↑(j + (1 : Nat)) : Int) - (1 : Int)))] <| .opt 131 (idx (List.map ePk qs) ((↑(j + (1 : Nat)) : Int) - (1 : Int))) (ePk x) <| .rw 8134 [] [(134, V.bool !(Pk.f x == Pk.f x && (Pk.t x == Pk.t x && (ByteArray.toList (Pk.s x) == ByteArray.toList (Pk.s x) && true))), V.bool false)] <| .opt 144 (idx (List.map ePk cs) (↑(j + (1 : Nat)) : Int)) (ePk x) <| .ff 2149 (!(Pk.f x == Pk.f x && (Pk.t x == Pk.t x && (ByteArray.toList (Pk.s x) == ByteArray.toList (Pk.s x) && true)))) <| .rw 8150 [] [(150, V.int IntKind.i64 (IntKind.wrap IntKind.i64 ((↑(j + (1 : Nat)) : Int) + (1 : Int))), V.int IntKind.i64 (↑(j + (1 : Nat) + (1 : Nat)) : Int))] <| .to 8105 ([.cut 5]) <| .ret (.normal, S5 ps qs cs p (0 : Int) i n (j + (1 : Nat) + (1 : Nat)))) (by kernel_rfl) ?_
      exact ⟨⟨trivial, ⟨congrArg V.bool (by (simp <;> omega)), trivial⟩⟩, ⟨(Go.Fw.idx_map _ hx), ⟨⟨trivial, ⟨by simp (disch := omega) only [List.length_cons, List.length_nil, Nat.zero_add], trivial⟩⟩, ⟨⟨trivial, ⟨congrArg V.bool (by (simp <;> omega)), trivial⟩⟩, ⟨⟨trivial, ⟨congrArg V.bool (by (simp <;> omega)), trivial⟩⟩, ⟨⟨trivial, ⟨by simp (disch := omega) only [Go.Fw.wrap_i64], trivial⟩⟩, ⟨(hxi), ⟨⟨trivial, ⟨congrArg V.bool (by (simp <;> omega)), trivial⟩⟩, ⟨(Go.Fw.idx_map _ hx3), ⟨by (simp <;> omega), ⟨⟨trivial, ⟨by simp (disch := omega) only [Go.Fw.cast_succ, Go.Fw.wrap_i64], trivial⟩⟩, (ih)⟩⟩⟩⟩⟩⟩⟩⟩⟩⟩⟩
theorem erase_lt {ps : List Pk} {i : Nat} : ∀ (j : Nat) (x : Pk), ps[j]? = some x → j < i → (ps.eraseIdx i)[j]? = some x := fun j x h hj => by
  rw [List.getElem?_eraseIdx, if_pos hj]; exact h
theorem erase_gt {ps : List Pk} {i : Nat} : ∀ (j : Nat) (x : Pk), ps[j + 1]? = some x → i < j + 1 → (ps.eraseIdx i)[j]? = some x := fun j x h hj => by
  rw [List.getElem?_eraseIdx, if_neg (by omega)]; exact h
theorem apart_full (ps : List Pk) (i : Nat) (p : Pk) (h : okNet ps = true) (hi : ps[i]? = some p) (hm : 4096 ≤ ps.length) : Sp C1 5 [eNet ps, .int .i64 (i : Int)] (.bool true) := by
  have h1 := deliver_ok ps i p h hi
  have h2 := drop_ok ps i p h hi
  have h3 := copy_full ps i p h hi hm
  have hl : ps.length ≤ 4096 := by unfold okNet at h; simp at h; exact h.1
  have hil := (List.getElem?_eq_some_iff.1 hi).1
  have hel : (ps.eraseIdx i).length = ps.length - 1 := List.length_eraseIdx_of_lt hil
  have e1 := same_refl (ps.eraseIdx i) (by omega)
  have hlp := loop5_8 ps (ps.eraseIdx i) ps p i ps.length rfl (by omega) hil erase_lt erase_gt ps.length 0 (by omega)
  refine sp_tree draws (dm := []) (fs := []) (
    .call 14 16 ([]) (V.bool true) <| .call 19 10 ([eNet ps, V.int IntKind.i64 (↑i : Int)]) (V.tup [eNet (List.eraseIdx ps i), ePk p, V.int IntKind.i64 (0 : Int)]) <| .rw 8005 [] [(5, V.ptr (List.length [Blk.cells [V.imm false (3 : Nat) (List.map ePk ps)] (24 : Nat)]) (0 : Nat), V.ptr (1 : Nat) (0 : Nat))] <| .rw 8006 [] [(6, V.ptr (List.length [Blk.cells [V.imm false (3 : Nat) (List.map ePk ps)] (24 : Nat), Blk.cells [V.nils] (24 : Nat)]) (0 : Nat), V.ptr ((1 : Nat) + (1 : Nat)) (0 : Nat))] <| .call 26 12 ([eNet ps, V.int IntKind.i64 (↑i : Int)]) (V.tup [eNet (List.eraseIdx ps i), V.int IntKind.i64 (0 : Int)]) <| .rw 8008 [] [(8, V.ptr (List.length [Blk.cells [V.imm false (3 : Nat) (List.map ePk ps)] (24 : Nat), Blk.cells [V.imm false (3 : Nat) (List.map ePk (List.eraseIdx ps i))] (24 : Nat), Blk.cells [V.int IntKind.i64 (Pk.f p), V.int IntKind.i64 (Pk.t p), V.str (Pk.s p)] (30 : Nat)]) (0 : Nat), V.ptr ((1 : Nat) + (1 : Nat) + (1 : Nat)) (0 : Nat))] <| .call 32 14 ([eNet ps, V.int IntKind.i64 (↑i : Int)]) (V.tup [eNet ps, V.int IntKind.i64 (8 : Int)]) <| .rw 8010 [] [(10, V.ptr (List.length [Blk.cells [V.imm false (3 : Nat) (List.map ePk ps)] (24 : Nat), Blk.cells [V.imm false (3 : Nat) (List.map ePk (List.eraseIdx ps i))] (24 : Nat), Blk.cells [V.int IntKind.i64 (Pk.f p), V.int IntKind.i64 (Pk.t p), V.str (Pk.s p)] (30 : Nat), Blk.cells [V.imm false (3 : Nat) (List.map ePk (List.eraseIdx ps i))] (24 : Nat)]) (0 : Nat), V.ptr ((1 : Nat) + (1 : Nat) + (1 : Nat) + (1 : Nat)) (0 : Nat))] <| .call 56 17 ([eNet (List.eraseIdx ps i), eNet (List.eraseIdx ps i)]) (V.bool true) <| .rw 8061 [] [(61, V.int IntKind.i64 (↑(List.length (List.map ePk (List.eraseIdx ps i))) : Int), V.int IntKind.i64 (↑(List.length (List.eraseIdx ps i)) : Int))] <| .rw 8062 [] [(62, V.int IntKind.i64 (IntKind.wrap IntKind.i64 ((↑(List.length (List.eraseIdx ps i)) : Int) + (1 : Int))), V.int IntKind.i64 (↑(List.length (List.eraseIdx ps i) + (1 : Nat)) : Int))] <| .rw 8065 [] [(65, V.int IntKind.i64 (↑(List.length (List.map ePk ps)) : Int), V.int IntKind.i64 (↑(List.length ps) : Int))] <| .rw 8066 [] [(66, V.bool ((↑(List.length (List.eraseIdx ps i) + (1 : Nat)) : Int) != (↑(List.length ps) : Int)), V.bool false)] <| .rw 8076 [] [(76, V.int IntKind.i64 (↑(List.length (List.map ePk ps)) : Int), V.int IntKind.i64 (↑(List.length ps) : Int))] <| .rw 8077 [] [(77, V.bool (decide ((↑i : Int) ≥ (↑(List.length ps) : Int))), V.bool false)] <| .opt 84 (idx (List.map ePk ps) (↑i : Int)) (ePk p) <| .rw 8086 [] [(86, V.bool !(Pk.f p == Pk.f p && (Pk.t p == Pk.t p && (ByteArray.toList (Pk.s p) == ByteArray.toList (Pk.s p) && true))), V.bool false)] <| .rw 8104 [] [(104, V.int IntKind.i64 (↑(List.length (List.map ePk ps)) : Int), V.int IntKind.i64 (↑(List.length ps) : Int))] <| .loop 88 (keeps K5) (S5 ps (List.eraseIdx ps i) ps p (8 : Int) i (List.length ps) (0 : Nat)) (Ex.exit (0 : Nat)) (E5 ps (List.eraseIdx ps i) ps p (8 : Int) i) <| .ret (V.bool true)) (by kernel_rfl) ?_
  exact ⟨(Go.Fw.lives_sp), ⟨(h1), ⟨⟨trivial, ⟨by simp (disch := omega) only [List.length_cons, List.length_nil, Nat.zero_add], trivial⟩⟩, ⟨⟨trivial, ⟨by simp (disch := omega) only [List.length_cons, List.length_nil, Nat.zero_add], trivial⟩⟩, ⟨(h2), ⟨⟨trivial, ⟨by simp (disch := omega) only [List.length_cons, List.length_nil, Nat.zero_add], trivial⟩⟩, ⟨(h3), ⟨⟨trivial, ⟨by simp (disch := omega) only [List.length_cons, List.length_nil, Nat.zero_add], trivial⟩⟩, ⟨(e1), ⟨⟨trivial, ⟨by simp (disch := omega) only [List.length_map], trivial⟩⟩, ⟨⟨trivial, ⟨by simp (disch := omega) only [Go.Fw.cast_succ, Go.Fw.wrap_i64], trivial⟩⟩, ⟨⟨trivial, ⟨by simp (disch := omega) only [List.length_map], trivial⟩⟩, ⟨⟨trivial, ⟨congrArg V.bool (by (simp <;> omega)), trivial⟩⟩, ⟨⟨trivial, ⟨by simp (disch := omega) only [List.length_map], trivial⟩⟩, ⟨⟨trivial, ⟨congrArg V.bool (by (simp <;> omega)), trivial⟩⟩, ⟨(Go.Fw.idx_map _ hi), ⟨⟨trivial, ⟨congrArg V.bool (by (simp <;> omega)), trivial⟩⟩, ⟨⟨trivial, ⟨by simp (disch := omega) only [List.length_map], trivial⟩⟩, ⟨(hlp), rfl⟩⟩⟩⟩⟩⟩⟩⟩⟩⟩⟩⟩⟩⟩⟩⟩⟩⟩⟩
theorem apart_ok (ps : List Pk) (i : Nat) (p : Pk) (h : okNet ps = true) (hi : ps[i]? = some p) (hm : ps.length < 4096) : Sp C1 5 [eNet ps, .int .i64 (i : Int)] (.bool true) := by
  have h1 := deliver_ok ps i p h hi
  have h2 := drop_ok ps i p h hi
  have h3 := copy_ok ps i p h hi hm
  have hil := (List.getElem?_eq_some_iff.1 hi).1
  have hel : (ps.eraseIdx i).length = ps.length - 1 := List.length_eraseIdx_of_lt hil
  have e1 := same_refl (ps.eraseIdx i) (by omega)
  have hlp := loop5_0 ps (ps.eraseIdx i) (ps ++ [p]) p i ps.length rfl (by omega) hil erase_lt erase_gt (fun j x hx => by rw [List.getElem?_append_left (List.getElem?_eq_some_iff.1 hx).1]; exact hx) ps.length 0 (by omega)
  have hla : (ps ++ [p])[ps.length]? = some p := by simp
  refine sp_tree draws (dm := []) (fs := []) (
    .call 14 16 ([]) (V.bool true) <| .call 19 10 ([eNet ps, V.int IntKind.i64 (↑i : Int)]) (V.tup [eNet (List.eraseIdx ps i), ePk p, V.int IntKind.i64 (0 : Int)]) <| .rw 8005 [] [(5, V.ptr (List.length [Blk.cells [V.imm false (3 : Nat) (List.map ePk ps)] (24 : Nat)]) (0 : Nat), V.ptr (1 : Nat) (0 : Nat))] <| .rw 8006 [] [(6, V.ptr (List.length [Blk.cells [V.imm false (3 : Nat) (List.map ePk ps)] (24 : Nat), Blk.cells [V.nils] (24 : Nat)]) (0 : Nat), V.ptr ((1 : Nat) + (1 : Nat)) (0 : Nat))] <| .call 26 12 ([eNet ps, V.int IntKind.i64 (↑i : Int)]) (V.tup [eNet (List.eraseIdx ps i), V.int IntKind.i64 (0 : Int)]) <| .rw 8008 [] [(8, V.ptr (List.length [Blk.cells [V.imm false (3 : Nat) (List.map ePk ps)] (24 : Nat), Blk.cells [V.imm false (3 : Nat) (List.map ePk (List.eraseIdx ps i))] (24 : Nat), Blk.cells [V.int IntKind.i64 (Pk.f p), V.int IntKind.i64 (Pk.t p), V.str (Pk.s p)] (30 : Nat)]) (0 : Nat), V.ptr ((1 : Nat) + (1 : Nat) + (1 : Nat)) (0 : Nat))] <| .call 32 14 ([eNet ps, V.int IntKind.i64 (↑i : Int)]) (V.tup [eNet (ps ++ [p]), V.int IntKind.i64 (0 : Int)]) <| .rw 8010 [] [(10, V.ptr (List.length [Blk.cells [V.imm false (3 : Nat) (List.map ePk ps)] (24 : Nat), Blk.cells [V.imm false (3 : Nat) (List.map ePk (List.eraseIdx ps i))] (24 : Nat), Blk.cells [V.int IntKind.i64 (Pk.f p), V.int IntKind.i64 (Pk.t p), V.str (Pk.s p)] (30 : Nat), Blk.cells [V.imm false (3 : Nat) (List.map ePk (List.eraseIdx ps i))] (24 : Nat)]) (0 : Nat), V.ptr ((1 : Nat) + (1 : Nat) + (1 : Nat) + (1 : Nat)) (0 : Nat))] <| .call 56 17 ([eNet (List.eraseIdx ps i), eNet (List.eraseIdx ps i)]) (V.bool true) <| .rw 8061 [] [(61, V.int IntKind.i64 (↑(List.length (List.map ePk (List.eraseIdx ps i))) : Int), V.int IntKind.i64 (↑(List.length (List.eraseIdx ps i)) : Int))] <| .rw 8062 [] [(62, V.int IntKind.i64 (IntKind.wrap IntKind.i64 ((↑(List.length (List.eraseIdx ps i)) : Int) + (1 : Int))), V.int IntKind.i64 (↑(List.length (List.eraseIdx ps i) + (1 : Nat)) : Int))] <| .rw 8065 [] [(65, V.int IntKind.i64 (↑(List.length (List.map ePk ps)) : Int), V.int IntKind.i64 (↑(List.length ps) : Int))] <| .rw 8066 [] [(66, V.bool ((↑(List.length (List.eraseIdx ps i) + (1 : Nat)) : Int) != (↑(List.length ps) : Int)), V.bool false)] <| .rw 8076 [] [(76, V.int IntKind.i64 (↑(List.length (List.map ePk ps)) : Int), V.int IntKind.i64 (↑(List.length ps) : Int))] <| .rw 8077 [] [(77, V.bool (decide ((↑i : Int) ≥ (↑(List.length ps) : Int))), V.bool false)] <| .opt 84 (idx (List.map ePk ps) (↑i : Int)) (ePk p) <| .rw 8086 [] [(86, V.bool !(Pk.f p == Pk.f p && (Pk.t p == Pk.t p && (ByteArray.toList (Pk.s p) == ByteArray.toList (Pk.s p) && true))), V.bool false)] <| .rw 8094 [] [(94, V.int IntKind.i64 (↑(List.length (List.map ePk (ps ++ [p]))) : Int), V.int IntKind.i64 (↑(List.length ps + (1 : Nat)) : Int))] <| .rw 8097 [] [(97, V.int IntKind.i64 (↑(List.length (List.map ePk ps)) : Int), V.int IntKind.i64 (↑(List.length ps) : Int))] <| .rw 8098 [] [(98, V.int IntKind.i64 (IntKind.wrap IntKind.i64 ((↑(List.length ps) : Int) + (1 : Int))), V.int IntKind.i64 (↑(List.length ps + (1 : Nat)) : Int))] <| .rw 8099 [] [(99, V.bool ((↑(List.length ps + (1 : Nat)) : Int) != (↑(List.length ps + (1 : Nat)) : Int)), V.bool false)] <| .rw 8104 [] [(104, V.int IntKind.i64 (↑(List.length (List.map ePk ps)) : Int), V.int IntKind.i64 (↑(List.length ps) : Int))] <| .loop 88 (keeps K5) (S5 ps (List.eraseIdx ps i) (ps ++ [p]) p (0 : Int) i (List.length ps) (0 : Nat)) (Ex.exit (0 : Nat)) (E5 ps (List.eraseIdx ps i) (ps ++ [p]) p (0 : Int) i) <| .rw 8158 [] [(158, V.int IntKind.i64 (↑(List.length (List.map ePk ps)) : Int), V.int IntKind.i64 (↑(List.length ps) : Int))] <| .opt 159 (idx (List.map ePk (ps ++ [p])) (↑(List.length ps) : Int)) (ePk p) <| .rw 8162 [] [(162, V.bool (Pk.f p == Pk.f p && (Pk.t p == Pk.t p && (ByteArray.toList (Pk.s p) == ByteArray.toList (Pk.s p) && true))), V.bool true)] <| .ret (V.bool true)) (by kernel_rfl) ?_
  exact ⟨(Go.Fw.lives_sp), ⟨(h1), ⟨⟨trivial, ⟨by simp (disch := omega) only [List.length_cons, List.length_nil, Nat.zero_add], trivial⟩⟩, ⟨⟨trivial, ⟨by simp (disch := omega) only [List.length_cons, List.length_nil, Nat.zero_add], trivial⟩⟩, ⟨(h2), ⟨⟨trivial, ⟨by simp (disch := omega) only [List.length_cons, List.length_nil, Nat.zero_add], trivial⟩⟩, ⟨(h3), ⟨⟨trivial, ⟨by simp (disch := omega) only [List.length_cons, List.length_nil, Nat.zero_add], trivial⟩⟩, ⟨(e1), ⟨⟨trivial, ⟨by simp (disch := omega) only [List.length_map], trivial⟩⟩, ⟨⟨trivial, ⟨by simp (disch := omega) only [Go.Fw.cast_succ, Go.Fw.wrap_i64], trivial⟩⟩, ⟨⟨trivial, ⟨by simp (disch := omega) only [List.length_map], trivial⟩⟩, ⟨⟨trivial, ⟨congrArg V.bool (by (simp <;> omega)), trivial⟩⟩, ⟨⟨trivial, ⟨by simp (disch := omega) only [List.length_map], trivial⟩⟩, ⟨⟨trivial, ⟨congrArg V.bool (by (simp <;> omega)), trivial⟩⟩, ⟨(Go.Fw.idx_map _ hi), ⟨⟨trivial, ⟨congrArg V.bool (by (simp <;> omega)), trivial⟩⟩, ⟨⟨trivial, ⟨by simp (disch := omega) only [List.length_map, List.length_append, List.length_cons, List.length_nil, Nat.zero_add], trivial⟩⟩, ⟨⟨trivial, ⟨by simp (disch := omega) only [List.length_map], trivial⟩⟩, ⟨⟨trivial, ⟨by simp (disch := omega) only [Go.Fw.cast_succ, Go.Fw.wrap_i64], trivial⟩⟩, ⟨⟨trivial, ⟨congrArg V.bool (by (simp <;> omega)), trivial⟩⟩, ⟨⟨trivial, ⟨by simp (disch := omega) only [List.length_map], trivial⟩⟩, ⟨(hlp), ⟨⟨trivial, ⟨by simp (disch := omega) only [List.length_map], trivial⟩⟩, ⟨(Go.Fw.idx_map _ hla), ⟨⟨trivial, ⟨congrArg V.bool (by (simp <;> omega)), trivial⟩⟩, rfl⟩⟩⟩⟩⟩⟩⟩⟩⟩⟩⟩⟩⟩⟩⟩⟩⟩⟩⟩⟩⟩⟩⟩⟩⟩⟩
end Go.Fw
/- Net: NetApart of typed values. -/
set_option maxHeartbeats 20000000
namespace Go.Fw
open Go.Proofs
theorem apart_sp (ps : List Pk) (i : Int) : Sp C1 5 [eNet ps, .int .i64 i] (.bool true) := by
  cases h : okNet ps with
  | false => exact apart_state ps i h
  | true =>
    cases hd : dIdx ps i with
    | none => exact apart_out ps i h (dIdx_none hd)
    | some p =>
      obtain ⟨n, rfl, hn⟩ := dIdx_some hd
      by_cases hm : 4096 ≤ ps.length
      · exact apart_full ps n p h hn hm
      · exact apart_ok ps n p h hn (by omega)
theorem apart_typed (x0 x1 : V) (h0 : TypE Try.prog (TypC Try.prog 8) 24 x0) (h1 : TypE Try.prog (TypC Try.prog 8) 3 x1) : Sp C1 5 [x0, x1] (.bool true) := by
  obtain ⟨ps, rfl, h⟩ := net_of h0
  obtain ⟨i, rfl⟩ := int_of h1
  exact apart_sp ps i
end Go.Fw
/- Net: NetOnly's loop. -/
set_option maxHeartbeats 20000000
namespace Go.Fw
open Go.Proofs
structure Mv where
  k : Int
  f : Int
  t : Int
  s : ByteArray
abbrev eMv (m : Mv) : V := .agg [.int .u8 m.k, .int .i64 m.f, .int .i64 m.t, .str m.s]
abbrev K4 : List Nat := [3, 4, 5, 6, 17, 18, 19]
abbrev KE4 : List Nat := [3, 4, 5, 6]
abbrev eSent (pr : Bool) (sent : List Pk) : V := .lin pr 30 3 (sent.map ePk)
abbrev S4 (ps : List Pk) (v : V) (extra got : Int) (ms : List Mv) (n i : Nat) : St := mkSt 135 [(3, .ptr 0 0), (4, v), (5, .int .i64 extra), (6, .int .i64 got), (17, .imm false 4 (ms.map eMv)), (18, .int .i64 (n : Int)), (19, .int .i64 (i : Int))] [.cells [ePs ps] 24]
abbrev E4 (ps sent : List Pk) (pr : Bool) (extra got : Int) (H : List Blk) : St := mkSt 135 [(3, .ptr 0 0), (4, eSent pr sent), (5, .int .i64 extra), (6, .int .i64 got)] (.cells [ePs ps] 24 :: H)
abbrev mvC (m : Mv) : Blk := .cells [.int .u8 m.k, .int .i64 m.f, .int .i64 m.t, .str m.s] 40
theorem step4_end (ps sent : List Pk) (pr : Bool) (extra got : Int) (ms : List Mv) (n : Nat) (hn : ms.length = n) : LoopK C1 4 56 (keeps K4) (S4 ps (eSent pr sent) extra got ms n n) (.exit 0) (E4 ps sent pr extra got []) := by
  refine loop_tree draws (kn := (keeps K4)) (ke := (keeps KE4)) (
    .rw 8020 [] [(20, V.bool (decide ((↑n : Int) < (↑n : Int))), V.bool false)] <| .ret ((Ex.exit (0 : Nat), St.mk [V.undef, V.undef, V.undef, V.ptr (0 : Nat) (0 : Nat), V.lin pr (30 : Nat) (3 : Nat) (List.map ePk sent), V.int IntKind.i64 extra, V.int IntKind.i64 got, V.undef, V.undef, V.undef, V.undef, V.undef, V.undef, V.undef, V.undef, V.undef, V.undef, V.undef, V.undef, V.undef, V.undef, V.undef, V.undef, V.undef, V.undef, V.undef, V.undef, V.undef, V.undef, V.undef, V.undef, V.undef, V.undef, V.undef, V.undef, V.undef, V.undef, V.undef, V.undef, V.undef, V.undef, V.undef, V.undef, V.undef, V.undef, V.undef, V.undef, V.undef, V.undef, V.undef, V.undef, V.undef, V.undef, V.undef, V.undef, V.undef, V.undef, V.undef, V.undef, V.undef, V.undef, V.undef, V.undef, V.undef, V.undef, V.undef, V.undef, V.undef, V.undef, V.undef, V.undef, V.undef, V.undef, V.undef, V.undef, V.undef, V.undef, V.undef, V.undef, V.undef, V.undef, V.undef, V.undef, V.undef, V.undef, V.undef, V.undef, V.undef, V.undef, V.undef, V.undef, V.undef, V.undef, V.undef, V.undef, V.undef, V.undef, V.undef, V.undef, V.undef, V.undef, V.undef, V.undef, V.undef, V.undef, V.undef, V.undef, V.undef, V.undef, V.undef, V.undef, V.undef, V.undef, V.undef, V.undef, V.undef, V.undef, V.undef, V.undef, V.undef, V.undef, V.undef, V.undef, V.undef, V.undef, V.undef, V.undef, V.undef, V.undef, V.undef, V.undef, V.undef, V.undef, V.undef, V.undef] [Blk.cells [V.imm false (3 : Nat) (List.map ePk ps)] (24 : Nat)]))) (by kernel_rfl) ?_
  exact ⟨⟨trivial, ⟨congrArg V.bool (by (simp <;> omega)), trivial⟩⟩, ⟨rfl, rfl⟩⟩
theorem step4_brk (ps sent : List Pk) (pr : Bool) (extra got : Int) (ms : List Mv) (n i : Nat) (hn : ms.length = n) (m : Mv) (hm : ms[i]? = some m) (hi : 300 < i) : LoopK C1 4 56 (keeps K4) (S4 ps (eSent pr sent) extra got ms n i) (.exit 0) (E4 ps sent pr extra got [mvC m]) := by
  have hl := (List.getElem?_eq_some_iff.1 hm).1
  refine loop_tree draws (kn := (keeps K4)) (ke := (keeps KE4)) (
    .rw 8020 [] [(20, V.bool (decide ((↑i : Int) < (↑n : Int))), V.bool true)] <| .opt 22 (idx (List.map eMv ms) (↑i : Int)) (eMv m) <| .rw 8008 [] [(8, V.ptr (List.length [Blk.cells [V.imm false (3 : Nat) (List.map ePk ps)] (24 : Nat)]) (0 : Nat), V.ptr (1 : Nat) (0 : Nat))] <| .rw 8025 [] [(25, V.bool (decide ((↑i : Int) > (300 : Int))), V.bool true)] <| .ret ((Ex.exit (0 : Nat), St.mk [V.undef, V.undef, V.undef, V.ptr (0 : Nat) (0 : Nat), V.lin pr (30 : Nat) (3 : Nat) (List.map ePk sent), V.int IntKind.i64 extra, V.int IntKind.i64 got, V.undef, V.undef, V.undef, V.undef, V.undef, V.undef, V.undef, V.undef, V.undef, V.undef, V.undef, V.undef, V.undef, V.undef, V.undef, V.undef, V.undef, V.undef, V.undef, V.undef, V.undef, V.undef, V.undef, V.undef, V.undef, V.undef, V.undef, V.undef, V.undef, V.undef, V.undef, V.undef, V.undef, V.undef, V.undef, V.undef, V.undef, V.undef, V.undef, V.undef, V.undef, V.undef, V.undef, V.undef, V.undef, V.undef, V.undef, V.undef, V.undef, V.undef, V.undef, V.undef, V.undef, V.undef, V.undef, V.undef, V.undef, V.undef, V.undef, V.undef, V.undef, V.undef, V.undef, V.undef, V.undef, V.undef, V.undef, V.undef, V.undef, V.undef, V.undef, V.undef, V.undef, V.undef, V.undef, V.undef, V.undef, V.undef, V.undef, V.undef, V.undef, V.undef, V.undef, V.undef, V.undef, V.undef, V.undef, V.undef, V.undef, V.undef, V.undef, V.undef, V.undef, V.undef, V.undef, V.undef, V.undef, V.undef, V.undef, V.undef, V.undef, V.undef, V.undef, V.undef, V.undef, V.undef, V.undef, V.undef, V.undef, V.undef, V.undef, V.undef, V.undef, V.undef, V.undef, V.undef, V.undef, V.undef, V.undef, V.undef, V.undef, V.undef, V.undef, V.undef, V.undef, V.undef, V.undef, V.undef] [Blk.cells [V.imm false (3 : Nat) (List.map ePk ps)] (24 : Nat), Blk.cells [V.int IntKind.u8 (Mv.k m), V.int IntKind.i64 (Mv.f m), V.int IntKind.i64 (Mv.t m), V.str (Mv.s m)] (40 : Nat)]))) (by kernel_rfl) ?_
  exact ⟨⟨trivial, ⟨congrArg V.bool (by (simp <;> omega)), trivial⟩⟩, ⟨(Go.Fw.idx_map _ hm), ⟨⟨trivial, ⟨by simp (disch := omega) only [List.length_cons, List.length_nil, Nat.zero_add], trivial⟩⟩, ⟨⟨trivial, ⟨congrArg V.bool (by (simp <;> omega)), trivial⟩⟩, ⟨rfl, rfl⟩⟩⟩⟩⟩
theorem step4_s1 (ps sent : List Pk) (pr : Bool) (extra got : Int) (he : -301 ≤ extra ∧ extra ≤ 301) (hg : 0 ≤ got ∧ got ≤ 301) (hsl : sent.length ≤ 301) (ms : List Mv) (n i : Nat) (hn : ms.length = n) (m : Mv) (hm : ms[i]? = some m) (hi : i ≤ 300) (hk : m.k.tmod 4 = 0) (qs : List Pk) (h1 : Sp C1 8 [eNet ps, .int .i64 m.f, .int .i64 m.t, .str m.s] (.tup [eNet qs, .int .i64 0])) (ho : Sp C1 18 [eNet qs] (.int .i64 0)) (e : St) (ih : ∀ v, v = eSent pr (sent ++ [⟨m.f, m.t, m.s⟩]) → LoopK C1 4 56 (keeps K4) (S4 qs v extra got ms n (i + 1)) (.exit 0) e) : LoopK C1 4 56 (keeps K4) (S4 ps (eSent pr sent) extra got ms n i) (.exit 0) e := by
  have hl := (List.getElem?_eq_some_iff.1 hm).1
  refine loop_tree draws (kn := (keeps K4)) (ke := (keeps KE4)) (
    .rw 8020 [] [(20, V.bool (decide ((↑i : Int) < (↑n : Int))), V.bool true)] <| .opt 22 (idx (List.map eMv ms) (↑i : Int)) (eMv m) <| .rw 8008 [] [(8, V.ptr (List.length [Blk.cells [V.imm false (3 : Nat) (List.map ePk ps)] (24 : Nat)]) (0 : Nat), V.ptr (1 : Nat) (0 : Nat))] <| .rw 8025 [] [(25, V.bool (decide ((↑i : Int) > (300 : Int))), V.bool false)] <| .rw 8009 [] [(9, V.ptr (List.length [Blk.cells [V.imm false (3 : Nat) (List.map ePk ps)] (24 : Nat), Blk.cells [V.int IntKind.u8 (Mv.k m), V.int IntKind.i64 (Mv.f m), V.int IntKind.i64 (Mv.t m), V.str (Mv.s m)] (40 : Nat)]) (0 : Nat), V.ptr ((1 : Nat) + (1 : Nat)) (0 : Nat))] <| .rw 8042 [] [(42, V.bool (Int.tmod (Mv.k m) (4 : Int) == (0 : Int)), V.bool true)] <| .call 51 8 ([eNet ps, V.int IntKind.i64 (Mv.f m), V.int IntKind.i64 (Mv.t m), V.str (Mv.s m)]) (V.tup [eNet qs, V.int IntKind.i64 (0 : Int)]) <| .chk 65 (decide ((List.length (List.map ePk sent) + List.length [V.agg [V.int IntKind.i64 (Mv.f m), V.int IntKind.i64 (Mv.t m), V.str (Mv.s m)]]) * (32 : Nat) ≤ (140737488355328 : Nat))) <| .call 108 18 ([eNet qs]) (V.int IntKind.i64 (0 : Int)) <| .rw 8112 [] [(112, V.int IntKind.i64 (IntKind.wrap IntKind.i64 ((↑i : Int) + (1 : Int))), V.int IntKind.i64 (↑(i + (1 : Nat)) : Int))] <| .to 8019 ([.cut 1]) <| .ret (.normal, S4 qs (V.lin pr (30 : Nat) (3 : Nat) (List.map ePk sent ++ [V.agg [V.int IntKind.i64 (Mv.f m), V.int IntKind.i64 (Mv.t m), V.str (Mv.s m)]])) extra got ms n (i + (1 : Nat)))) (by kernel_rfl) ?_
  exact ⟨⟨trivial, ⟨congrArg V.bool (by (simp <;> omega)), trivial⟩⟩, ⟨(Go.Fw.idx_map _ hm), ⟨⟨trivial, ⟨by simp (disch := omega) only [List.length_cons, List.length_nil, Nat.zero_add], trivial⟩⟩, ⟨⟨trivial, ⟨congrArg V.bool (by (simp <;> omega)), trivial⟩⟩, ⟨⟨trivial, ⟨by simp (disch := omega) only [List.length_cons, List.length_nil, Nat.zero_add], trivial⟩⟩, ⟨⟨trivial, ⟨congrArg V.bool (by (simp [hk])), trivial⟩⟩, ⟨(h1), ⟨by (simp <;> omega), ⟨(ho), ⟨⟨trivial, ⟨by simp (disch := omega) only [Go.Fw.cast_succ, Go.Fw.wrap_i64], trivial⟩⟩, (ih _ (by (simp [hk])))⟩⟩⟩⟩⟩⟩⟩⟩⟩⟩
theorem step4_s0 (ps sent : List Pk) (pr : Bool) (extra got : Int) (he : -301 ≤ extra ∧ extra ≤ 301) (hg : 0 ≤ got ∧ got ≤ 301) (hsl : sent.length ≤ 301) (ms : List Mv) (n i : Nat) (hn : ms.length = n) (m : Mv) (hm : ms[i]? = some m) (hi : i ≤ 300) (hk : m.k.tmod 4 = 0) (c : Int) (hc : c ≠ 0) (h1 : Sp C1 8 [eNet ps, .int .i64 m.f, .int .i64 m.t, .str m.s] (.tup [eNet ps, .int .i64 c])) (hsm : Sp C1 17 [eNet ps, eNet ps] (.bool true)) (ho : Sp C1 18 [eNet ps] (.int .i64 0)) (e : St) (ih : ∀ v, v = eSent pr sent → LoopK C1 4 56 (keeps K4) (S4 ps v extra got ms n (i + 1)) (.exit 0) e) : LoopK C1 4 56 (keeps K4) (S4 ps (eSent pr sent) extra got ms n i) (.exit 0) e := by
  have hl := (List.getElem?_eq_some_iff.1 hm).1
  refine loop_tree draws (kn := (keeps K4)) (ke := (keeps KE4)) (
    .rw 8020 [] [(20, V.bool (decide ((↑i : Int) < (↑n : Int))), V.bool true)] <| .opt 22 (idx (List.map eMv ms) (↑i : Int)) (eMv m) <| .rw 8008 [] [(8, V.ptr (List.length [Blk.cells [V.imm false (3 : Nat) (List.map ePk ps)] (24 : Nat)]) (0 : Nat), V.ptr (1 : Nat) (0 : Nat))] <| .rw 8025 [] [(25, V.bool (decide ((↑i : Int) > (300 : Int))), V.bool false)] <| .rw 8009 [] [(9, V.ptr (List.length [Blk.cells [V.imm false (3 : Nat) (List.map ePk ps)] (24 : Nat), Blk.cells [V.int IntKind.u8 (Mv.k m), V.int IntKind.i64 (Mv.f m), V.int IntKind.i64 (Mv.t m), V.str (Mv.s m)] (40 : Nat)]) (0 : Nat), V.ptr ((1 : Nat) + (1 : Nat)) (0 : Nat))] <| .rw 8042 [] [(42, V.bool (Int.tmod (Mv.k m) (4 : Int) == (0 : Int)), V.bool true)] <| .call 51 8 ([eNet ps, V.int IntKind.i64 (Mv.f m), V.int IntKind.i64 (Mv.t m), V.str (Mv.s m)]) (V.tup [eNet ps, V.int IntKind.i64 c]) <| .rw 8055 [] [(55, V.bool (c == (0 : Int)), V.bool false)] <| .rw 8099 [] [(99, V.bool (c != (0 : Int)), V.bool true)] <| .call 103 17 ([eNet ps, eNet ps]) (V.bool true) <| .call 108 18 ([eNet ps]) (V.int IntKind.i64 (0 : Int)) <| .rw 8112 [] [(112, V.int IntKind.i64 (IntKind.wrap IntKind.i64 ((↑i : Int) + (1 : Int))), V.int IntKind.i64 (↑(i + (1 : Nat)) : Int))] <| .to 8019 ([.cut 1]) <| .ret (.normal, S4 ps (V.lin pr (30 : Nat) (3 : Nat) (List.map ePk sent)) extra got ms n (i + (1 : Nat)))) (by kernel_rfl) ?_
  exact ⟨⟨trivial, ⟨congrArg V.bool (by (simp <;> omega)), trivial⟩⟩, ⟨(Go.Fw.idx_map _ hm), ⟨⟨trivial, ⟨by simp (disch := omega) only [List.length_cons, List.length_nil, Nat.zero_add], trivial⟩⟩, ⟨⟨trivial, ⟨congrArg V.bool (by (simp <;> omega)), trivial⟩⟩, ⟨⟨trivial, ⟨by simp (disch := omega) only [List.length_cons, List.length_nil, Nat.zero_add], trivial⟩⟩, ⟨⟨trivial, ⟨congrArg V.bool (by (simp [hk])), trivial⟩⟩, ⟨(h1), ⟨⟨trivial, ⟨congrArg V.bool (by (simp [hc])), trivial⟩⟩, ⟨⟨trivial, ⟨congrArg V.bool (by (simp [hc])), trivial⟩⟩, ⟨(hsm), ⟨(ho), ⟨⟨trivial, ⟨by simp (disch := omega) only [Go.Fw.cast_succ, Go.Fw.wrap_i64], trivial⟩⟩, (ih _ (by (simp [hk])))⟩⟩⟩⟩⟩⟩⟩⟩⟩⟩⟩⟩
theorem step4_d1 (ps sent : List Pk) (pr : Bool) (extra got : Int) (he : -301 ≤ extra ∧ extra ≤ 301) (hg : 0 ≤ got ∧ got ≤ 301) (hsl : sent.length ≤ 301) (ms : List Mv) (n i : Nat) (hn : ms.length = n) (m : Mv) (hm : ms[i]? = some m) (hi : i ≤ 300) (hk : m.k.tmod 4 = 1) (qs : List Pk) (p : Pk) (h1 : Sp C1 10 [eNet ps, .int .i64 m.f] (.tup [eNet qs, ePk p, .int .i64 0])) (ho : Sp C1 18 [eNet qs] (.int .i64 0)) (hh : Sp C1 20 [ePs sent, ePk p] (.bool true)) (e : St) (ih : ∀ v, v = eSent false (sent) → LoopK C1 4 56 (keeps K4) (S4 qs v extra (got + 1) ms n (i + 1)) (.exit 0) e) : LoopK C1 4 56 (keeps K4) (S4 ps (eSent pr sent) extra got ms n i) (.exit 0) e := by
  have hl := (List.getElem?_eq_some_iff.1 hm).1
  refine loop_tree draws (kn := (keeps K4)) (ke := (keeps KE4)) (
    .rw 8020 [] [(20, V.bool (decide ((↑i : Int) < (↑n : Int))), V.bool true)] <| .opt 22 (idx (List.map eMv ms) (↑i : Int)) (eMv m) <| .rw 8008 [] [(8, V.ptr (List.length [Blk.cells [V.imm false (3 : Nat) (List.map ePk ps)] (24 : Nat)]) (0 : Nat), V.ptr (1 : Nat) (0 : Nat))] <| .rw 8025 [] [(25, V.bool (decide ((↑i : Int) > (300 : Int))), V.bool false)] <| .rw 8009 [] [(9, V.ptr (List.length [Blk.cells [V.imm false (3 : Nat) (List.map ePk ps)] (24 : Nat), Blk.cells [V.int IntKind.u8 (Mv.k m), V.int IntKind.i64 (Mv.f m), V.int IntKind.i64 (Mv.t m), V.str (Mv.s m)] (40 : Nat)]) (0 : Nat), V.ptr ((1 : Nat) + (1 : Nat)) (0 : Nat))] <| .rw 8042 [] [(42, V.bool (Int.tmod (Mv.k m) (4 : Int) == (0 : Int)), V.bool false)] <| .rw 8067 [] [(67, V.bool (Int.tmod (Mv.k m) (4 : Int) == (1 : Int)), V.bool true)] <| .rw 8011 [] [(11, V.ptr (List.length [Blk.cells [V.imm false (3 : Nat) (List.map ePk ps)] (24 : Nat), Blk.cells [V.int IntKind.u8 (Mv.k m), V.int IntKind.i64 (Mv.f m), V.int IntKind.i64 (Mv.t m), V.str (Mv.s m)] (40 : Nat), Blk.cells [V.imm false (3 : Nat) (List.map ePk ps)] (24 : Nat)]) (0 : Nat), V.ptr ((1 : Nat) + (1 : Nat) + (1 : Nat)) (0 : Nat))] <| .call 73 10 ([eNet ps, V.int IntKind.i64 (Mv.f m)]) (V.tup [eNet qs, ePk p, V.int IntKind.i64 (0 : Int)]) <| .rw 8080 [] [(80, V.int IntKind.i64 (IntKind.wrap IntKind.i64 (got + (1 : Int))), V.int IntKind.i64 (got + (1 : Int)))] <| .call 83 20 ([ePs sent, ePk p]) (V.bool true) <| .call 108 18 ([eNet qs]) (V.int IntKind.i64 (0 : Int)) <| .rw 8112 [] [(112, V.int IntKind.i64 (IntKind.wrap IntKind.i64 ((↑i : Int) + (1 : Int))), V.int IntKind.i64 (↑(i + (1 : Nat)) : Int))] <| .to 8019 ([.cut 1]) <| .ret (.normal, S4 qs (V.lin false (30 : Nat) (3 : Nat) (List.map ePk sent)) extra (got + (1 : Int)) ms n (i + (1 : Nat)))) (by kernel_rfl) ?_
  exact ⟨⟨trivial, ⟨congrArg V.bool (by (simp <;> omega)), trivial⟩⟩, ⟨(Go.Fw.idx_map _ hm), ⟨⟨trivial, ⟨by simp (disch := omega) only [List.length_cons, List.length_nil, Nat.zero_add], trivial⟩⟩, ⟨⟨trivial, ⟨congrArg V.bool (by (simp <;> omega)), trivial⟩⟩, ⟨⟨trivial, ⟨by simp (disch := omega) only [List.length_cons, List.length_nil, Nat.zero_add], trivial⟩⟩, ⟨⟨trivial, ⟨congrArg V.bool (by (simp [hk])), trivial⟩⟩, ⟨⟨trivial, ⟨congrArg V.bool (by (simp [hk])), trivial⟩⟩, ⟨⟨trivial, ⟨by simp (disch := omega) only [List.length_cons, List.length_nil, Nat.zero_add], trivial⟩⟩, ⟨(h1), ⟨⟨trivial, ⟨by simp (disch := omega) only [Go.Fw.wrap_i64], trivial⟩⟩, ⟨(hh), ⟨(ho), ⟨⟨trivial, ⟨by simp (disch := omega) only [Go.Fw.cast_succ, Go.Fw.wrap_i64], trivial⟩⟩, (ih _ (by (simp [hk])))⟩⟩⟩⟩⟩⟩⟩⟩⟩⟩⟩⟩⟩
theorem step4_d0 (ps sent : List Pk) (pr : Bool) (extra got : Int) (he : -301 ≤ extra ∧ extra ≤ 301) (hg : 0 ≤ got ∧ got ≤ 301) (hsl : sent.length ≤ 301) (ms : List Mv) (n i : Nat) (hn : ms.length = n) (m : Mv) (hm : ms[i]? = some m) (hi : i ≤ 300) (hk : m.k.tmod 4 = 1) (c : Int) (hc : c ≠ 0) (q : Pk) (h1 : Sp C1 10 [eNet ps, .int .i64 m.f] (.tup [eNet ps, ePk q, .int .i64 c])) (hsm : Sp C1 17 [eNet ps, eNet ps] (.bool true)) (ho : Sp C1 18 [eNet ps] (.int .i64 0)) (e : St) (ih : ∀ v, v = eSent pr sent → LoopK C1 4 56 (keeps K4) (S4 ps v extra got ms n (i + 1)) (.exit 0) e) : LoopK C1 4 56 (keeps K4) (S4 ps (eSent pr sent) extra got ms n i) (.exit 0) e := by
  have hl := (List.getElem?_eq_some_iff.1 hm).1
  refine loop_tree draws (kn := (keeps K4)) (ke := (keeps KE4)) (
    .rw 8020 [] [(20, V.bool (decide ((↑i : Int) < (↑n : Int))), V.bool true)] <| .opt 22 (idx (List.map eMv ms) (↑i : Int)) (eMv m) <| .rw 8008 [] [(8, V.ptr (List.length [Blk.cells [V.imm false (3 : Nat) (List.map ePk ps)] (24 : Nat)]) (0 : Nat), V.ptr (1 : Nat) (0 : Nat))] <| .rw 8025 [] [(25, V.bool (decide ((↑i : Int) > (300 : Int))), V.bool false)] <| .rw 8009 [] [(9, V.ptr (List.length [Blk.cells [V.imm false (3 : Nat) (List.map ePk ps)] (24 : Nat), Blk.cells [V.int IntKind.u8 (Mv.k m), V.int IntKind.i64 (Mv.f m), V.int IntKind.i64 (Mv.t m), V.str (Mv.s m)] (40 : Nat)]) (0 : Nat), V.ptr ((1 : Nat) + (1 : Nat)) (0 : Nat))] <| .rw 8042 [] [(42, V.bool (Int.tmod (Mv.k m) (4 : Int) == (0 : Int)), V.bool false)] <| .rw 8067 [] [(67, V.bool (Int.tmod (Mv.k m) (4 : Int) == (1 : Int)), V.bool true)] <| .rw 8011 [] [(11, V.ptr (List.length [Blk.cells [V.imm false (3 : Nat) (List.map ePk ps)] (24 : Nat), Blk.cells [V.int IntKind.u8 (Mv.k m), V.int IntKind.i64 (Mv.f m), V.int IntKind.i64 (Mv.t m), V.str (Mv.s m)] (40 : Nat), Blk.cells [V.imm false (3 : Nat) (List.map ePk ps)] (24 : Nat)]) (0 : Nat), V.ptr ((1 : Nat) + (1 : Nat) + (1 : Nat)) (0 : Nat))] <| .call 73 10 ([eNet ps, V.int IntKind.i64 (Mv.f m)]) (V.tup [eNet ps, ePk q, V.int IntKind.i64 c]) <| .rw 8078 [] [(78, V.bool (c == (0 : Int)), V.bool false)] <| .rw 8099 [] [(99, V.bool (c != (0 : Int)), V.bool true)] <| .call 103 17 ([eNet ps, eNet ps]) (V.bool true) <| .call 108 18 ([eNet ps]) (V.int IntKind.i64 (0 : Int)) <| .rw 8112 [] [(112, V.int IntKind.i64 (IntKind.wrap IntKind.i64 ((↑i : Int) + (1 : Int))), V.int IntKind.i64 (↑(i + (1 : Nat)) : Int))] <| .to 8019 ([.cut 1]) <| .ret (.normal, S4 ps (V.lin pr (30 : Nat) (3 : Nat) (List.map ePk sent)) extra got ms n (i + (1 : Nat)))) (by kernel_rfl) ?_
  exact ⟨⟨trivial, ⟨congrArg V.bool (by (simp <;> omega)), trivial⟩⟩, ⟨(Go.Fw.idx_map _ hm), ⟨⟨trivial, ⟨by simp (disch := omega) only [List.length_cons, List.length_nil, Nat.zero_add], trivial⟩⟩, ⟨⟨trivial, ⟨congrArg V.bool (by (simp <;> omega)), trivial⟩⟩, ⟨⟨trivial, ⟨by simp (disch := omega) only [List.length_cons, List.length_nil, Nat.zero_add], trivial⟩⟩, ⟨⟨trivial, ⟨congrArg V.bool (by (simp [hk])), trivial⟩⟩, ⟨⟨trivial, ⟨congrArg V.bool (by (simp [hk])), trivial⟩⟩, ⟨⟨trivial, ⟨by simp (disch := omega) only [List.length_cons, List.length_nil, Nat.zero_add], trivial⟩⟩, ⟨(h1), ⟨⟨trivial, ⟨congrArg V.bool (by (simp [hc])), trivial⟩⟩, ⟨⟨trivial, ⟨congrArg V.bool (by (simp [hc])), trivial⟩⟩, ⟨(hsm), ⟨(ho), ⟨⟨trivial, ⟨by simp (disch := omega) only [Go.Fw.cast_succ, Go.Fw.wrap_i64], trivial⟩⟩, (ih _ (by (simp [hk])))⟩⟩⟩⟩⟩⟩⟩⟩⟩⟩⟩⟩⟩⟩
theorem step4_r1 (ps sent : List Pk) (pr : Bool) (extra got : Int) (he : -301 ≤ extra ∧ extra ≤ 301) (hg : 0 ≤ got ∧ got ≤ 301) (hsl : sent.length ≤ 301) (ms : List Mv) (n i : Nat) (hn : ms.length = n) (m : Mv) (hm : ms[i]? = some m) (hi : i ≤ 300) (hk : m.k.tmod 4 = 2) (qs : List Pk) (h1 : Sp C1 12 [eNet ps, .int .i64 m.f] (.tup [eNet qs, .int .i64 0])) (ho : Sp C1 18 [eNet qs] (.int .i64 0)) (e : St) (ih : ∀ v, v = eSent pr (sent) → LoopK C1 4 56 (keeps K4) (S4 qs v (extra - 1) got ms n (i + 1)) (.exit 0) e) : LoopK C1 4 56 (keeps K4) (S4 ps (eSent pr sent) extra got ms n i) (.exit 0) e := by
  have hl := (List.getElem?_eq_some_iff.1 hm).1
  refine loop_tree draws (kn := (keeps K4)) (ke := (keeps KE4)) (
    .rw 8020 [] [(20, V.bool (decide ((↑i : Int) < (↑n : Int))), V.bool true)] <| .opt 22 (idx (List.map eMv ms) (↑i : Int)) (eMv m) <| .rw 8008 [] [(8, V.ptr (List.length [Blk.cells [V.imm false (3 : Nat) (List.map ePk ps)] (24 : Nat)]) (0 : Nat), V.ptr (1 : Nat) (0 : Nat))] <| .rw 8025 [] [(25, V.bool (decide ((↑i : Int) > (300 : Int))), V.bool false)] <| .rw 8009 [] [(9, V.ptr (List.length [Blk.cells [V.imm false (3 : Nat) (List.map ePk ps)] (24 : Nat), Blk.cells [V.int IntKind.u8 (Mv.k m), V.int IntKind.i64 (Mv.f m), V.int IntKind.i64 (Mv.t m), V.str (Mv.s m)] (40 : Nat)]) (0 : Nat), V.ptr ((1 : Nat) + (1 : Nat)) (0 : Nat))] <| .rw 8042 [] [(42, V.bool (Int.tmod (Mv.k m) (4 : Int) == (0 : Int)), V.bool false)] <| .rw 8067 [] [(67, V.bool (Int.tmod (Mv.k m) (4 : Int) == (1 : Int)), V.bool false)] <| .rw 8086 [] [(86, V.bool (Int.tmod (Mv.k m) (4 : Int) == (2 : Int)), V.bool true)] <| .call 91 12 ([eNet ps, V.int IntKind.i64 (Mv.f m)]) (V.tup [eNet qs, V.int IntKind.i64 (0 : Int)]) <| .rw 8097 [] [(97, V.int IntKind.i64 (IntKind.wrap IntKind.i64 (extra - (1 : Int))), V.int IntKind.i64 (extra - (1 : Int)))] <| .call 108 18 ([eNet qs]) (V.int IntKind.i64 (0 : Int)) <| .rw 8112 [] [(112, V.int IntKind.i64 (IntKind.wrap IntKind.i64 ((↑i : Int) + (1 : Int))), V.int IntKind.i64 (↑(i + (1 : Nat)) : Int))] <| .to 8019 ([.cut 1]) <| .ret (.normal, S4 qs (V.lin pr (30 : Nat) (3 : Nat) (List.map ePk sent)) (extra - (1 : Int)) got ms n (i + (1 : Nat)))) (by kernel_rfl) ?_
  exact ⟨⟨trivial, ⟨congrArg V.bool (by (simp <;> omega)), trivial⟩⟩, ⟨(Go.Fw.idx_map _ hm), ⟨⟨trivial, ⟨by simp (disch := omega) only [List.length_cons, List.length_nil, Nat.zero_add], trivial⟩⟩, ⟨⟨trivial, ⟨congrArg V.bool (by (simp <;> omega)), trivial⟩⟩, ⟨⟨trivial, ⟨by simp (disch := omega) only [List.length_cons, List.length_nil, Nat.zero_add], trivial⟩⟩, ⟨⟨trivial, ⟨congrArg V.bool (by (simp [hk])), trivial⟩⟩, ⟨⟨trivial, ⟨congrArg V.bool (by (simp [hk])), trivial⟩⟩, ⟨⟨trivial, ⟨congrArg V.bool (by (simp [hk])), trivial⟩⟩, ⟨(h1), ⟨⟨trivial, ⟨by simp (disch := omega) only [Go.Fw.wrap_i64], trivial⟩⟩, ⟨(ho), ⟨⟨trivial, ⟨by simp (disch := omega) only [Go.Fw.cast_succ, Go.Fw.wrap_i64], trivial⟩⟩, (ih _ (by (simp [hk])))⟩⟩⟩⟩⟩⟩⟩⟩⟩⟩⟩⟩
theorem step4_r0 (ps sent : List Pk) (pr : Bool) (extra got : Int) (he : -301 ≤ extra ∧ extra ≤ 301) (hg : 0 ≤ got ∧ got ≤ 301) (hsl : sent.length ≤ 301) (ms : List Mv) (n i : Nat) (hn : ms.length = n) (m : Mv) (hm : ms[i]? = some m) (hi : i ≤ 300) (hk : m.k.tmod 4 = 2) (c : Int) (hc : c ≠ 0) (h1 : Sp C1 12 [eNet ps, .int .i64 m.f] (.tup [eNet ps, .int .i64 c])) (hsm : Sp C1 17 [eNet ps, eNet ps] (.bool true)) (ho : Sp C1 18 [eNet ps] (.int .i64 0)) (e : St) (ih : ∀ v, v = eSent pr sent → LoopK C1 4 56 (keeps K4) (S4 ps v extra got ms n (i + 1)) (.exit 0) e) : LoopK C1 4 56 (keeps K4) (S4 ps (eSent pr sent) extra got ms n i) (.exit 0) e := by
  have hl := (List.getElem?_eq_some_iff.1 hm).1
  refine loop_tree draws (kn := (keeps K4)) (ke := (keeps KE4)) (
    .rw 8020 [] [(20, V.bool (decide ((↑i : Int) < (↑n : Int))), V.bool true)] <| .opt 22 (idx (List.map eMv ms) (↑i : Int)) (eMv m) <| .rw 8008 [] [(8, V.ptr (List.length [Blk.cells [V.imm false (3 : Nat) (List.map ePk ps)] (24 : Nat)]) (0 : Nat), V.ptr (1 : Nat) (0 : Nat))] <| .rw 8025 [] [(25, V.bool (decide ((↑i : Int) > (300 : Int))), V.bool false)] <| .rw 8009 [] [(9, V.ptr (List.length [Blk.cells [V.imm false (3 : Nat) (List.map ePk ps)] (24 : Nat), Blk.cells [V.int IntKind.u8 (Mv.k m), V.int IntKind.i64 (Mv.f m), V.int IntKind.i64 (Mv.t m), V.str (Mv.s m)] (40 : Nat)]) (0 : Nat), V.ptr ((1 : Nat) + (1 : Nat)) (0 : Nat))] <| .rw 8042 [] [(42, V.bool (Int.tmod (Mv.k m) (4 : Int) == (0 : Int)), V.bool false)] <| .rw 8067 [] [(67, V.bool (Int.tmod (Mv.k m) (4 : Int) == (1 : Int)), V.bool false)] <| .rw 8086 [] [(86, V.bool (Int.tmod (Mv.k m) (4 : Int) == (2 : Int)), V.bool true)] <| .call 91 12 ([eNet ps, V.int IntKind.i64 (Mv.f m)]) (V.tup [eNet ps, V.int IntKind.i64 c]) <| .rw 8095 [] [(95, V.bool (c == (0 : Int)), V.bool false)] <| .rw 8099 [] [(99, V.bool (c != (0 : Int)), V.bool true)] <| .call 103 17 ([eNet ps, eNet ps]) (V.bool true) <| .call 108 18 ([eNet ps]) (V.int IntKind.i64 (0 : Int)) <| .rw 8112 [] [(112, V.int IntKind.i64 (IntKind.wrap IntKind.i64 ((↑i : Int) + (1 : Int))), V.int IntKind.i64 (↑(i + (1 : Nat)) : Int))] <| .to 8019 ([.cut 1]) <| .ret (.normal, S4 ps (V.lin pr (30 : Nat) (3 : Nat) (List.map ePk sent)) extra got ms n (i + (1 : Nat)))) (by kernel_rfl) ?_
  exact ⟨⟨trivial, ⟨congrArg V.bool (by (simp <;> omega)), trivial⟩⟩, ⟨(Go.Fw.idx_map _ hm), ⟨⟨trivial, ⟨by simp (disch := omega) only [List.length_cons, List.length_nil, Nat.zero_add], trivial⟩⟩, ⟨⟨trivial, ⟨congrArg V.bool (by (simp <;> omega)), trivial⟩⟩, ⟨⟨trivial, ⟨by simp (disch := omega) only [List.length_cons, List.length_nil, Nat.zero_add], trivial⟩⟩, ⟨⟨trivial, ⟨congrArg V.bool (by (simp [hk])), trivial⟩⟩, ⟨⟨trivial, ⟨congrArg V.bool (by (simp [hk])), trivial⟩⟩, ⟨⟨trivial, ⟨congrArg V.bool (by (simp [hk])), trivial⟩⟩, ⟨(h1), ⟨⟨trivial, ⟨congrArg V.bool (by (simp [hc])), trivial⟩⟩, ⟨⟨trivial, ⟨congrArg V.bool (by (simp [hc])), trivial⟩⟩, ⟨(hsm), ⟨(ho), ⟨⟨trivial, ⟨by simp (disch := omega) only [Go.Fw.cast_succ, Go.Fw.wrap_i64], trivial⟩⟩, (ih _ (by (simp [hk])))⟩⟩⟩⟩⟩⟩⟩⟩⟩⟩⟩⟩⟩⟩
theorem step4_c1 (ps sent : List Pk) (pr : Bool) (extra got : Int) (he : -301 ≤ extra ∧ extra ≤ 301) (hg : 0 ≤ got ∧ got ≤ 301) (hsl : sent.length ≤ 301) (ms : List Mv) (n i : Nat) (hn : ms.length = n) (m : Mv) (hm : ms[i]? = some m) (hi : i ≤ 300) (hk : m.k.tmod 4 = 3) (qs : List Pk) (h1 : Sp C1 14 [eNet ps, .int .i64 m.f] (.tup [eNet qs, .int .i64 0])) (ho : Sp C1 18 [eNet qs] (.int .i64 0)) (e : St) (ih : ∀ v, v = eSent pr (sent) → LoopK C1 4 56 (keeps K4) (S4 qs v (extra + 1) got ms n (i + 1)) (.exit 0) e) : LoopK C1 4 56 (keeps K4) (S4 ps (eSent pr sent) extra got ms n i) (.exit 0) e := by
  have hl := (List.getElem?_eq_some_iff.1 hm).1
  refine loop_tree draws (kn := (keeps K4)) (ke := (keeps KE4)) (
    .rw 8020 [] [(20, V.bool (decide ((↑i : Int) < (↑n : Int))), V.bool true)] <| .opt 22 (idx (List.map eMv ms) (↑i : Int)) (eMv m) <| .rw 8008 [] [(8, V.ptr (List.length [Blk.cells [V.imm false (3 : Nat) (List.map ePk ps)] (24 : Nat)]) (0 : Nat), V.ptr (1 : Nat) (0 : Nat))] <| .rw 8025 [] [(25, V.bool (decide ((↑i : Int) > (300 : Int))), V.bool false)] <| .rw 8009 [] [(9, V.ptr (List.length [Blk.cells [V.imm false (3 : Nat) (List.map ePk ps)] (24 : Nat), Blk.cells [V.int IntKind.u8 (Mv.k m), V.int IntKind.i64 (Mv.f m), V.int IntKind.i64 (Mv.t m), V.str (Mv.s m)] (40 : Nat)]) (0 : Nat), V.ptr ((1 : Nat) + (1 : Nat)) (0 : Nat))] <| .rw 8042 [] [(42, V.bool (Int.tmod (Mv.k m) (4 : Int) == (0 : Int)), V.bool false)] <| .rw 8067 [] [(67, V.bool (Int.tmod (Mv.k m) (4 : Int) == (1 : Int)), V.bool false)] <| .rw 8086 [] [(86, V.bool (Int.tmod (Mv.k m) (4 : Int) == (2 : Int)), V.bool false)] <| .call 34 14 ([eNet ps, V.int IntKind.i64 (Mv.f m)]) (V.tup [eNet qs, V.int IntKind.i64 (0 : Int)]) <| .rw 8040 [] [(40, V.int IntKind.i64 (IntKind.wrap IntKind.i64 (extra + (1 : Int))), V.int IntKind.i64 (extra + (1 : Int)))] <| .call 108 18 ([eNet qs]) (V.int IntKind.i64 (0 : Int)) <| .rw 8112 [] [(112, V.int IntKind.i64 (IntKind.wrap IntKind.i64 ((↑i : Int) + (1 : Int))), V.int IntKind.i64 (↑(i + (1 : Nat)) : Int))] <| .to 8019 ([.cut 1]) <| .ret (.normal, S4 qs (V.lin pr (30 : Nat) (3 : Nat) (List.map ePk sent)) (extra + (1 : Int)) got ms n (i + (1 : Nat)))) (by kernel_rfl) ?_
  exact ⟨⟨trivial, ⟨congrArg V.bool (by (simp <;> omega)), trivial⟩⟩, ⟨(Go.Fw.idx_map _ hm), ⟨⟨trivial, ⟨by simp (disch := omega) only [List.length_cons, List.length_nil, Nat.zero_add], trivial⟩⟩, ⟨⟨trivial, ⟨congrArg V.bool (by (simp <;> omega)), trivial⟩⟩, ⟨⟨trivial, ⟨by simp (disch := omega) only [List.length_cons, List.length_nil, Nat.zero_add], trivial⟩⟩, ⟨⟨trivial, ⟨congrArg V.bool (by (simp [hk])), trivial⟩⟩, ⟨⟨trivial, ⟨congrArg V.bool (by (simp [hk])), trivial⟩⟩, ⟨⟨trivial, ⟨congrArg V.bool (by (simp [hk])), trivial⟩⟩, ⟨(h1), ⟨⟨trivial, ⟨by simp (disch := omega) only [Go.Fw.wrap_i64], trivial⟩⟩, ⟨(ho), ⟨⟨trivial, ⟨by simp (disch := omega) only [Go.Fw.cast_succ, Go.Fw.wrap_i64], trivial⟩⟩, (ih _ (by (simp [hk])))⟩⟩⟩⟩⟩⟩⟩⟩⟩⟩⟩⟩
theorem step4_c0 (ps sent : List Pk) (pr : Bool) (extra got : Int) (he : -301 ≤ extra ∧ extra ≤ 301) (hg : 0 ≤ got ∧ got ≤ 301) (hsl : sent.length ≤ 301) (ms : List Mv) (n i : Nat) (hn : ms.length = n) (m : Mv) (hm : ms[i]? = some m) (hi : i ≤ 300) (hk : m.k.tmod 4 = 3) (c : Int) (hc : c ≠ 0) (h1 : Sp C1 14 [eNet ps, .int .i64 m.f] (.tup [eNet ps, .int .i64 c])) (hsm : Sp C1 17 [eNet ps, eNet ps] (.bool true)) (ho : Sp C1 18 [eNet ps] (.int .i64 0)) (e : St) (ih : ∀ v, v = eSent pr sent → LoopK C1 4 56 (keeps K4) (S4 ps v extra got ms n (i + 1)) (.exit 0) e) : LoopK C1 4 56 (keeps K4) (S4 ps (eSent pr sent) extra got ms n i) (.exit 0) e := by
  have hl := (List.getElem?_eq_some_iff.1 hm).1
  refine loop_tree draws (kn := (keeps K4)) (ke := (keeps KE4)) (
    .rw 8020 [] [(20, V.bool (decide ((↑i : Int) < (↑n : Int))), V.bool true)] <| .opt 22 (idx (List.map eMv ms) (↑i : Int)) (eMv m) <| .rw 8008 [] [(8, V.ptr (List.length [Blk.cells [V.imm false (3 : Nat) (List.map ePk ps)] (24 : Nat)]) (0 : Nat), V.ptr (1 : Nat) (0 : Nat))] <| .rw 8025 [] [(25, V.bool (decide ((↑i : Int) > (300 : Int))), V.bool false)] <| .rw 8009 [] [(9, V.ptr (List.length [Blk.cells [V.imm false (3 : Nat) (List.map ePk ps)] (24 : Nat), Blk.cells [V.int IntKind.u8 (Mv.k m), V.int IntKind.i64 (Mv.f m), V.int IntKind.i64 (Mv.t m), V.str (Mv.s m)] (40 : Nat)]) (0 : Nat), V.ptr ((1 : Nat) + (1 : Nat)) (0 : Nat))] <| .rw 8042 [] [(42, V.bool (Int.tmod (Mv.k m) (4 : Int) == (0 : Int)), V.bool false)] <| .rw 8067 [] [(67, V.bool (Int.tmod (Mv.k m) (4 : Int) == (1 : Int)), V.bool false)] <| .rw 8086 [] [(86, V.bool (Int.tmod (Mv.k m) (4 : Int) == (2 : Int)), V.bool false)] <| .call 34 14 ([eNet ps, V.int IntKind.i64 (Mv.f m)]) (V.tup [eNet ps, V.int IntKind.i64 c]) <| .rw 8038 [] [(38, V.bool (c == (0 : Int)), V.bool false)] <| .rw 8099 [] [(99, V.bool (c != (0 : Int)), V.bool true)] <| .call 103 17 ([eNet ps, eNet ps]) (V.bool true) <| .call 108 18 ([eNet ps]) (V.int IntKind.i64 (0 : Int)) <| .rw 8112 [] [(112, V.int IntKind.i64 (IntKind.wrap IntKind.i64 ((↑i : Int) + (1 : Int))), V.int IntKind.i64 (↑(i + (1 : Nat)) : Int))] <| .to 8019 ([.cut 1]) <| .ret (.normal, S4 ps (V.lin pr (30 : Nat) (3 : Nat) (List.map ePk sent)) extra got ms n (i + (1 : Nat)))) (by kernel_rfl) ?_
  exact ⟨⟨trivial, ⟨congrArg V.bool (by (simp <;> omega)), trivial⟩⟩, ⟨(Go.Fw.idx_map _ hm), ⟨⟨trivial, ⟨by simp (disch := omega) only [List.length_cons, List.length_nil, Nat.zero_add], trivial⟩⟩, ⟨⟨trivial, ⟨congrArg V.bool (by (simp <;> omega)), trivial⟩⟩, ⟨⟨trivial, ⟨by simp (disch := omega) only [List.length_cons, List.length_nil, Nat.zero_add], trivial⟩⟩, ⟨⟨trivial, ⟨congrArg V.bool (by (simp [hk])), trivial⟩⟩, ⟨⟨trivial, ⟨congrArg V.bool (by (simp [hk])), trivial⟩⟩, ⟨⟨trivial, ⟨congrArg V.bool (by (simp [hk])), trivial⟩⟩, ⟨(h1), ⟨⟨trivial, ⟨congrArg V.bool (by (simp [hc])), trivial⟩⟩, ⟨⟨trivial, ⟨congrArg V.bool (by (simp [hc])), trivial⟩⟩, ⟨(hsm), ⟨(ho), ⟨⟨trivial, ⟨by simp (disch := omega) only [Go.Fw.cast_succ, Go.Fw.wrap_i64], trivial⟩⟩, (ih _ (by (simp [hk])))⟩⟩⟩⟩⟩⟩⟩⟩⟩⟩⟩⟩⟩⟩
end Go.Fw
