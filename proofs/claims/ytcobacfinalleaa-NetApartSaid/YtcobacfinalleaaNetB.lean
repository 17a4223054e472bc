/- Net: checks, copies, sends (2). -/
import Derived.Test.YtcobacfinalleaaNetA
set_option linter.all false
set_option maxHeartbeats 20000000
namespace Go.Fw
open Go.Proofs
theorem index_none (ps : List Pk) (h47 : ps.length * 32 ≤ 2 ^ 47) (hb : ps.any badP = false) : Sp C1 29 [ePs ps, fnBad] (.int .i64 (-1)) := by
  have hl := loop29_none ps ps.length rfl h47 ps.length 0 (by omega) (fun j p _ hj => by
    rw [List.any_eq_false] at hb
    simpa using hb p (List.mem_of_getElem? hj))
  refine sp_tree draws (dm := []) (fs := []) (
    .rw 8007 [] [(7, V.int IntKind.i64 (↑(List.length (List.map ePk ps)) : Int), V.int IntKind.i64 (↑(List.length ps) : Int))] <| .loop 16 (keeps K29) (S29 ps (List.length ps) (0 : Nat)) (Ex.exit (0 : Nat)) (mkSt (19 : Nat) [] []) <| .ret (V.int IntKind.i64 (-1 : Int))) (by kernel_rfl) ?_
  exact ⟨⟨trivial, ⟨by simp (disch := omega) only [List.length_map], trivial⟩⟩, ⟨(hl), rfl⟩⟩
theorem index_some (ps : List Pk) (j : Nat) (p : Pk) (h47 : ps.length * 32 ≤ 2 ^ 47) (hj : ps[j]? = some p) (hjb : badP p = true) (hf : ∀ l q, l < j → ps[l]? = some q → badP q = false) : Sp C1 29 [ePs ps, fnBad] (.int .i64 (j : Int)) := by
  have hl := loop29_some ps ps.length j p rfl h47 hj hjb ps.length 0 (by omega) (Nat.zero_le _) (fun l q _ => hf l q)
  refine sp_tree draws (dm := []) (fs := []) (
    .rw 8007 [] [(7, V.int IntKind.i64 (↑(List.length (List.map ePk ps)) : Int), V.int IntKind.i64 (↑(List.length ps) : Int))] <| .loop 16 (keeps K29) (S29 ps (List.length ps) (0 : Nat)) (Ex.ret) (mkSt (19 : Nat) [((4 : Nat), V.int IntKind.i64 (↑j : Int))] []) <| .ret (V.int IntKind.i64 (↑j : Int))) (by kernel_rfl) ?_
  exact ⟨⟨trivial, ⟨by simp (disch := omega) only [List.length_map], trivial⟩⟩, ⟨(hl), rfl⟩⟩
theorem contains_none (ps : List Pk) (h47 : ps.length * 32 ≤ 2 ^ 47) (hb : ps.any badP = false) : Sp C1 26 [ePs ps, fnBad] (.bool false) := by
  refine sp_tree draws (dm := []) (fs := []) (
    .call 7 29 ([ePs ps, fnBad]) (V.int IntKind.i64 (-1 : Int)) <| .ret (V.bool false)) (by kernel_rfl) ?_
  exact ⟨(Go.Fw.index_none _ h47 hb), rfl⟩
theorem contains_some (ps : List Pk) (j : Nat) (p : Pk) (h47 : ps.length * 32 ≤ 2 ^ 47) (hj : ps[j]? = some p) (hjb : badP p = true) (hf : ∀ l q, l < j → ps[l]? = some q → badP q = false) : Sp C1 26 [ePs ps, fnBad] (.bool true) := by
  have hi := index_some ps j p h47 hj hjb hf
  refine sp_tree draws (dm := []) (fs := []) (
    .call 7 29 ([ePs ps, fnBad]) (V.int IntKind.i64 (↑j : Int)) <| .ret (V.bool true)) (by kernel_rfl) ?_
  exact ⟨(hi), rfl⟩
theorem first_bad : ∀ (ps : List Pk), ps.any badP = true → ∃ (j : Nat) (p : Pk), ps[j]? = some p ∧ badP p = true ∧ ∀ l q, l < j → ps[l]? = some q → badP q = false
  | [], h => by simp at h
  | p :: ps, h => by
    by_cases hp : badP p = true
    · exact ⟨0, p, rfl, hp, fun l q hl => by omega⟩
    · obtain ⟨j, q, h1, h2, h3⟩ := first_bad ps (by simpa [hp] using h)
      refine ⟨j + 1, q, by simpa using h1, h2, fun l q hl hq => ?_⟩
      cases l with
      | zero => simp at hq; subst hq; simpa using hp
      | succ l => exact h3 l q (by omega) (by simpa using hq)
theorem contains_sp (ps : List Pk) (h47 : ps.length * 32 ≤ 2 ^ 47) : Sp C1 26 [ePs ps, fnBad] (.bool (ps.any badP)) := by
  cases hb : ps.any badP with
  | false => exact contains_none ps h47 hb
  | true =>
    obtain ⟨j, p, h1, h2, h3⟩ := first_bad ps hb
    exact contains_some ps j p h47 h1 h2 h3
def okNet (ps : List Pk) : Bool := decide (ps.length ≤ 4096) && !ps.any badP
theorem check_long (ps : List Pk) (h : 4096 < ps.length) : Sp C1 18 [eNet ps] (.int .i64 6) := by
  refine sp_tree draws (dm := []) (fs := []) (
    .rw 8005 [] [(5, V.int IntKind.i64 (↑(List.length (List.map ePk ps)) : Int), V.int IntKind.i64 (↑(List.length ps) : Int))] <| .rw 8006 [] [(6, V.bool (decide ((↑(List.length ps) : Int) > (4096 : Int))), V.bool true)] <| .ret (V.int IntKind.i64 (6 : Int))) (by kernel_rfl) ?_
  exact ⟨⟨trivial, ⟨by simp (disch := omega) only [List.length_map], trivial⟩⟩, ⟨⟨trivial, ⟨congrArg V.bool (by (simp <;> omega)), trivial⟩⟩, rfl⟩⟩
theorem check_short (ps : List Pk) (h : ps.length ≤ 4096) : Sp C1 18 [eNet ps] (.int .i64 (if ps.any badP then 6 else 0)) := by
  refine sp_tree draws (dm := []) (fs := []) (
    .rw 8005 [] [(5, V.int IntKind.i64 (↑(List.length (List.map ePk ps)) : Int), V.int IntKind.i64 (↑(List.length ps) : Int))] <| .rw 8006 [] [(6, V.bool (decide ((↑(List.length ps) : Int) > (4096 : Int))), V.bool false)] <| .call 10 26 ([ePs ps, fnBad]) (V.bool (List.any ps badP)) <| .ite 2011 (List.any ps badP)
    (.rw 8002 [] [(10, V.bool (List.any ps badP), V.bool true)] <| .ret (V.int IntKind.i64 (6 : Int)))
    (.ret (V.int IntKind.i64 (0 : Int)))) (by kernel_rfl) ?_
  exact ⟨⟨trivial, ⟨by simp (disch := omega) only [List.length_map], trivial⟩⟩, ⟨⟨trivial, ⟨congrArg V.bool (by (simp <;> omega)), trivial⟩⟩, ⟨(Go.Fw.contains_sp _ (by omega)), ⟨fun h0 => have h0p : ∃ x, x ∈ ps ∧ badP x = true := (by simpa using h0); ⟨⟨trivial, ⟨congrArg V.bool (h0), trivial⟩⟩, by show _ = _; (simp_all)⟩,
    fun h0 => have h0p : ∀ (x : Pk), x ∈ ps → badP x = false := (by simpa using h0); by show _ = _; (simp_all)⟩⟩⟩⟩
def chkE (ps : List Pk) : Int := if okNet ps then 0 else 6
theorem check_sp (ps : List Pk) : Sp C1 18 [eNet ps] (.int .i64 (chkE ps)) := by
  unfold chkE okNet
  by_cases h : ps.length ≤ 4096
  · have := check_short ps h
    cases hb : ps.any badP <;> simpa [h, hb] using this
  · have := check_long ps (by omega)
    simpa [h] using this
theorem clone_nil : Sp C1 28 [.nils] (.lin true 30 3 []) := by
  refine sp_tree draws (dm := []) (fs := [.of (.lin 30 3)]) (
    .ret (V.lin true (30 : Nat) (3 : Nat) [])) (by kernel_rfl) ?_
  exact rfl
theorem clone_nne : Sp C1 28 [.nne] (.lin true 30 3 []) := by
  refine sp_tree draws (dm := []) (fs := [.of (.lin 30 3)]) (
    .ret (V.lin true (30 : Nat) (3 : Nat) [])) (by kernel_rfl) ?_
  exact rfl
theorem clone_cons (p : Pk) (ps : List Pk) (h : (p :: ps).length * 32 ≤ 2 ^ 47) : Sp C1 28 [ePs (p :: ps)] (.lin true 30 3 ((p :: ps).map ePk)) := by
  refine sp_tree draws (dm := []) (fs := [.of (.lin 30 3)]) (
    .chk 7 (decide (((0 : Nat) + List.length (V.agg [V.int IntKind.i64 p.1, V.int IntKind.i64 p.2, V.str p.3] :: List.map ePk ps)) * (32 : Nat) ≤ (140737488355328 : Nat))) <| .ret (V.lin true (30 : Nat) (3 : Nat) (V.agg [V.int IntKind.i64 p.1, V.int IntKind.i64 p.2, V.str p.3] :: List.map ePk ps))) (by kernel_rfl) ?_
  exact ⟨by (simp at h ⊢; omega), rfl⟩
theorem clone_sp (ps : List Pk) (h : ps.length * 32 ≤ 2 ^ 47) : Sp C1 28 [ePs ps] (.lin true 30 3 (ps.map ePk)) := by
  cases ps with
  | nil => exact Sp.imm0 (pre := []) clone_nil clone_nne
  | cons p ps => exact clone_cons p ps h
abbrev eNl (ps : List Pk) : V := .agg [.lin true 30 3 (ps.map ePk)]
abbrev fN : Fm := .agg [.imm 3]
theorem own_sp (ps : List Pk) (h : ps.length * 32 ≤ 2 ^ 47) : Sp C1 22 [eNet ps] (eNl ps) := by
  refine sp_tree draws (dm := []) (fs := [.agg [.lin 30 3]]) (
    .rw 8002 [] [(2, V.ptr (List.length [Blk.cells [V.imm false (3 : Nat) (List.map ePk ps)] (24 : Nat)]) (0 : Nat), V.ptr (1 : Nat) (0 : Nat))] <| .call 5 28 ([ePs ps]) (V.lin true (30 : TypeId) (3 : Nat) (List.map ePk ps)) <| .ret (V.agg [V.lin true (30 : Nat) (3 : Nat) (List.map ePk ps)])) (by kernel_rfl) ?_
  exact ⟨⟨trivial, ⟨by simp (disch := omega) only [List.length_cons, List.length_nil, Nat.zero_add], trivial⟩⟩, ⟨(Go.Fw.clone_sp _ h), rfl⟩⟩
theorem own2_sp (ps : List Pk) (h : ps.length * 32 ≤ 2 ^ 47) : Sp C1 7 [eNet ps] (eNl ps) := by
  refine sp_tree draws (dm := []) (fs := [.agg [.lin 30 3]]) (
    .rw 8002 [] [(2, V.ptr (List.length [Blk.cells [V.imm false (3 : Nat) (List.map ePk ps)] (24 : Nat)]) (0 : Nat), V.ptr (1 : Nat) (0 : Nat))] <| .ite 6 (List.isEmpty (List.map ePk ps))
    (.ret (V.agg [V.lin true (30 : Nat) (3 : Nat) []]))
    (.chk 6 (decide (((0 : Nat) + List.length (List.map ePk ps)) * (32 : Nat) ≤ (140737488355328 : Nat))) <| .rw 8006 [] [(6, V.lin true (30 : Nat) (3 : Nat) ([] ++ List.map ePk ps), V.lin true (30 : Nat) (3 : Nat) (List.map ePk ps))] <| .ret (V.agg [V.lin true (30 : Nat) (3 : Nat) (List.map ePk ps)]))) (by kernel_rfl) ?_
  exact ⟨⟨trivial, ⟨by simp (disch := omega) only [List.length_cons, List.length_nil, Nat.zero_add], trivial⟩⟩, ⟨fun h0 => have h0p : ps = [] := (by simpa using h0); by show _ = _; (simp_all),
    fun h0 => have h0p : ¬ps = [] := (by simpa using h0); ⟨by (simp at *; omega), ⟨⟨trivial, ⟨by simp (disch := omega) only [List.nil_append], trivial⟩⟩, rfl⟩⟩⟩⟩
end Go.Fw
