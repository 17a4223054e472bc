/- Net: Same, has. -/
import Derived.Test.YtcobacfinalleaaNetG
set_option linter.all false
set_option maxHeartbeats 20000000
namespace Go.Fw
open Go.Proofs
def pEq (p q : Pk) : Bool := p.f == q.f && (p.t == q.t && (p.s.toList == q.s.toList && true))
abbrev K17 : List Nat := [2, 3, 15, 16]
abbrev S17 (ps qs : List Pk) (n i : Nat) : St := mkSt 31 [(2, .ptr 0 0), (3, .ptr 1 0), (15, .int .i64 (n : Int)), (16, .int .i64 (i : Int))] [.cells [ePs ps] 24, .cells [ePs qs] 24]
theorem loop17_eq (ps qs : List Pk) (n : Nat) (hn : ps.length = n) (hq : qs.length = n) (h47 : n * 32 ≤ 2 ^ 47) : ∀ (k i : Nat), i + k = n → (∀ j p q, i ≤ j → ps[j]? = some p → qs[j]? = some q → pEq p q = true) →
    LoopK C1 17 32 (keeps K17) (S17 ps qs n i) (.exit 0) (mkSt 31 [] [.cells [ePs ps] 24, .cells [ePs qs] 24])
  | 0, i, h, hb => by
    obtain rfl : i = n := by omega
    refine loop_tree draws (kn := (keeps K17)) (ke := (keeps [4])) (
    .rw 8017 [] [(17, V.bool (decide ((↑i : Int) < (↑i : Int))), V.bool false)] <| .ret ((Ex.exit (0 : Nat), St.mk [V.undef, V.undef, V.undef, V.undef, V.undef, V.undef, V.undef, V.undef, V.undef, V.undef, V.undef, V.undef, V.undef, V.undef, V.undef, V.undef, V.undef, V.undef, V.undef, V.undef, V.undef, V.undef, V.undef, V.undef, V.undef, V.undef, V.undef, V.undef, V.undef, V.undef, V.undef] [Blk.cells [V.imm false (3 : Nat) (List.map ePk ps)] (24 : Nat), Blk.cells [V.imm false (3 : Nat) (List.map ePk qs)] (24 : Nat)]))) (by kernel_rfl) ?_
    exact ⟨⟨trivial, ⟨congrArg V.bool (by (simp <;> omega)), trivial⟩⟩, ⟨rfl, rfl⟩⟩
  | k + 1, i, h, hb => by
    have ih := loop17_eq ps qs n hn hq h47 k (i + 1) (by omega) (fun j p q hj => hb j p q (by omega))
    obtain ⟨p, hp⟩ : ∃ p, ps[i]? = some p := ⟨ps[i]'(by omega), List.getElem?_eq_getElem (by omega)⟩
    obtain ⟨q, hp2⟩ : ∃ p, qs[i]? = some p := ⟨qs[i]'(by omega), List.getElem?_eq_getElem (by omega)⟩
    have hbp := hb i p q (Nat.le_refl _) hp hp2
    refine loop_tree draws (kn := (keeps K17)) (ke := (keeps [4])) (
    .rw 8017 [] [(17, V.bool (decide ((↑i : Int) < (↑n : Int))), V.bool true)] <| .opt 22 (idx (List.map ePk ps) (↑i : Int)) (ePk p) <| .opt 27 (idx (List.map ePk qs) (↑i : Int)) (ePk q) <| .rw 8029 [] [(29, V.bool !(Pk.f p == Pk.f q && (Pk.t p == Pk.t q && (ByteArray.toList (Pk.s p) == ByteArray.toList (Pk.s q) && true))), V.bool false)] <| .rw 8030 [] [(30, V.int IntKind.i64 (IntKind.wrap IntKind.i64 ((↑i : Int) + (1 : Int))), V.int IntKind.i64 (↑(i + (1 : Nat)) : Int))] <| .ret (.normal, S17 ps qs n (i + (1 : Nat)))) (by kernel_rfl) ?_
    exact ⟨⟨trivial, ⟨congrArg V.bool (by (simp <;> omega)), trivial⟩⟩, ⟨(Go.Fw.idx_map _ hp), ⟨(Go.Fw.idx_map _ hp2), ⟨⟨trivial, ⟨congrArg V.bool (by (unfold pEq at hbp; rw [hbp]; rfl)), trivial⟩⟩, ⟨⟨trivial, ⟨by simp (disch := omega) only [Go.Fw.cast_succ, Go.Fw.wrap_i64], trivial⟩⟩, (ih)⟩⟩⟩⟩⟩
theorem loop17_ne (ps qs : List Pk) (n : Nat) (hn : ps.length = n) (hq : qs.length = n) (h47 : n * 32 ≤ 2 ^ 47) (l : Nat) (p q : Pk) (hp : ps[l]? = some p) (hp2 : qs[l]? = some q) (hne : pEq p q = false) : ∀ (k i : Nat), i + k = n → i ≤ l →
    LoopK C1 17 32 (keeps K17) (S17 ps qs n i) .ret (mkSt 31 [(4, .bool false)] [.cells [ePs ps] 24, .cells [ePs qs] 24])
  | 0, i, h, hl => by
    have := (List.getElem?_eq_some_iff.1 hp).1
    omega
  | k + 1, i, h, hl => by
    obtain ⟨p', hp'⟩ : ∃ p, ps[i]? = some p := ⟨ps[i]'(by omega), List.getElem?_eq_getElem (by omega)⟩
    obtain ⟨q', hp2'⟩ : ∃ p, qs[i]? = some p := ⟨qs[i]'(by omega), List.getElem?_eq_getElem (by omega)⟩
    cases hbp : pEq p' q' with
    | false =>
      clear hp hp2 hne
      refine loop_tree draws (kn := (keeps K17)) (ke := (keeps [4])) (
    .rw 8017 [] [(17, V.bool (decide ((↑i : Int) < (↑n : Int))), V.bool true)] <| .opt 22 (idx (List.map ePk ps) (↑i : Int)) (ePk p') <| .opt 27 (idx (List.map ePk qs) (↑i : Int)) (ePk q') <| .rw 8029 [] [(29, V.bool !(Pk.f p' == Pk.f q' && (Pk.t p' == Pk.t q' && (ByteArray.toList (Pk.s p') == ByteArray.toList (Pk.s q') && true))), V.bool true)] <| .ret ((Ex.ret, St.mk [V.undef, V.undef, V.undef, V.undef, V.bool false, V.undef, V.undef, V.undef, V.undef, V.undef, V.undef, V.undef, V.undef, V.undef, V.undef, V.undef, V.undef, V.undef, V.undef, V.undef, V.undef, V.undef, V.undef, V.undef, V.undef, V.undef, V.undef, V.undef, V.undef, V.undef, V.undef] [Blk.cells [V.imm false (3 : Nat) (List.map ePk ps)] (24 : Nat), Blk.cells [V.imm false (3 : Nat) (List.map ePk qs)] (24 : Nat)]))) (by kernel_rfl) ?_
      exact ⟨⟨trivial, ⟨congrArg V.bool (by (simp <;> omega)), trivial⟩⟩, ⟨(Go.Fw.idx_map _ hp'), ⟨(Go.Fw.idx_map _ hp2'), ⟨⟨trivial, ⟨congrArg V.bool (by (unfold pEq at hbp; rw [hbp]; rfl)), trivial⟩⟩, ⟨rfl, rfl⟩⟩⟩⟩⟩
    | true =>
      have hil : i ≠ l := by
        rintro rfl
        rw [hp] at hp'; rw [hp2] at hp2'
        cases hp'; cases hp2'
        rw [hne] at hbp; cases hbp
      have ih := loop17_ne ps qs n hn hq h47 l p q hp hp2 hne k (i + 1) (by omega) (by omega)
      clear hp hp2 hne
      refine loop_tree draws (kn := (keeps K17)) (ke := (keeps [4])) (
    .rw 8017 [] [(17, V.bool (decide ((↑i : Int) < (↑n : Int))), V.bool true)] <| .opt 22 (idx (List.map ePk ps) (↑i : Int)) (ePk p') <| .opt 27 (idx (List.map ePk qs) (↑i : Int)) (ePk q') <| .rw 8029 [] [(29, V.bool !(Pk.f p' == Pk.f q' && (Pk.t p' == Pk.t q' && (ByteArray.toList (Pk.s p') == ByteArray.toList (Pk.s q') && true))), V.bool false)] <| .rw 8030 [] [(30, V.int IntKind.i64 (IntKind.wrap IntKind.i64 ((↑i : Int) + (1 : Int))), V.int IntKind.i64 (↑(i + (1 : Nat)) : Int))] <| .ret (.normal, S17 ps qs n (i + (1 : Nat)))) (by kernel_rfl) ?_
      exact ⟨⟨trivial, ⟨congrArg V.bool (by (simp <;> omega)), trivial⟩⟩, ⟨(Go.Fw.idx_map _ hp'), ⟨(Go.Fw.idx_map _ hp2'), ⟨⟨trivial, ⟨congrArg V.bool (by (unfold pEq at hbp; rw [hbp]; rfl)), trivial⟩⟩, ⟨⟨trivial, ⟨by simp (disch := omega) only [Go.Fw.cast_succ, Go.Fw.wrap_i64], trivial⟩⟩, (ih)⟩⟩⟩⟩⟩
def sameP (ps qs : List Pk) : Prop := ps.length = qs.length ∧ ∀ (j : Nat) (p q : Pk), ps[j]? = some p → qs[j]? = some q → pEq p q = true
theorem same_len (ps qs : List Pk) (h : ps.length ≠ qs.length) : Sp C1 17 [eNet ps, eNet qs] (.bool false) := by
  refine sp_tree draws (dm := []) (fs := []) (
    .rw 8003 [] [(3, V.ptr (List.length [Blk.cells [V.imm false (3 : Nat) (List.map ePk ps)] (24 : Nat)]) (0 : Nat), V.ptr (1 : Nat) (0 : Nat))] <| .rw 8008 [] [(8, V.int IntKind.i64 (↑(List.length (List.map ePk ps)) : Int), V.int IntKind.i64 (↑(List.length ps) : Int))] <| .rw 8011 [] [(11, V.int IntKind.i64 (↑(List.length (List.map ePk qs)) : Int), V.int IntKind.i64 (↑(List.length qs) : Int))] <| .rw 8012 [] [(12, V.bool ((↑(List.length ps) : Int) != (↑(List.length qs) : Int)), V.bool true)] <| .ret (V.bool false)) (by kernel_rfl) ?_
  exact ⟨⟨trivial, ⟨by simp (disch := omega) only [List.length_cons, List.length_nil, Nat.zero_add], trivial⟩⟩, ⟨⟨trivial, ⟨by simp (disch := omega) only [List.length_map], trivial⟩⟩, ⟨⟨trivial, ⟨by simp (disch := omega) only [List.length_map], trivial⟩⟩, ⟨⟨trivial, ⟨congrArg V.bool (by (simp <;> omega)), trivial⟩⟩, rfl⟩⟩⟩⟩
theorem same_yes (ps qs : List Pk) (h47 : ps.length * 32 ≤ 2 ^ 47) (h : sameP ps qs) : Sp C1 17 [eNet ps, eNet qs] (.bool true) := by
  obtain ⟨hl, he⟩ := h
  have hlp := loop17_eq ps qs ps.length rfl hl.symm h47 ps.length 0 (by omega) (fun j p q _ => he j p q)
  refine sp_tree draws (dm := []) (fs := []) (
    .rw 8003 [] [(3, V.ptr (List.length [Blk.cells [V.imm false (3 : Nat) (List.map ePk ps)] (24 : Nat)]) (0 : Nat), V.ptr (1 : Nat) (0 : Nat))] <| .rw 8008 [] [(8, V.int IntKind.i64 (↑(List.length (List.map ePk ps)) : Int), V.int IntKind.i64 (↑(List.length ps) : Int))] <| .rw 8011 [] [(11, V.int IntKind.i64 (↑(List.length (List.map ePk qs)) : Int), V.int IntKind.i64 (↑(List.length qs) : Int))] <| .rw 8012 [] [(12, V.bool ((↑(List.length ps) : Int) != (↑(List.length qs) : Int)), V.bool false)] <| .rw 8015 [] [(15, V.int IntKind.i64 (↑(List.length (List.map ePk ps)) : Int), V.int IntKind.i64 (↑(List.length ps) : Int))] <| .loop 32 (keeps K17) (S17 ps qs (List.length ps) (0 : Nat)) (Ex.exit (0 : Nat)) (mkSt (31 : Nat) [] [Blk.cells [ePs ps] (24 : TypeId), Blk.cells [ePs qs] (24 : TypeId)]) <| .ret (V.bool true)) (by kernel_rfl) ?_
  exact ⟨⟨trivial, ⟨by simp (disch := omega) only [List.length_cons, List.length_nil, Nat.zero_add], trivial⟩⟩, ⟨⟨trivial, ⟨by simp (disch := omega) only [List.length_map], trivial⟩⟩, ⟨⟨trivial, ⟨by simp (disch := omega) only [List.length_map], trivial⟩⟩, ⟨⟨trivial, ⟨congrArg V.bool (by (simp <;> omega)), trivial⟩⟩, ⟨⟨trivial, ⟨by simp (disch := omega) only [List.length_map], trivial⟩⟩, ⟨(hlp), rfl⟩⟩⟩⟩⟩⟩
theorem same_no (ps qs : List Pk) (h47 : ps.length * 32 ≤ 2 ^ 47) (hl : ps.length = qs.length) (l : Nat) (p q : Pk) (hp : ps[l]? = some p) (hp2 : qs[l]? = some q) (hne : pEq p q = false) : Sp C1 17 [eNet ps, eNet qs] (.bool false) := by
  have hlp := loop17_ne ps qs ps.length rfl hl.symm h47 l p q hp hp2 hne ps.length 0 (by omega) (by omega)
  clear hp hp2 hne
  refine sp_tree draws (dm := []) (fs := []) (
    .rw 8003 [] [(3, V.ptr (List.length [Blk.cells [V.imm false (3 : Nat) (List.map ePk ps)] (24 : Nat)]) (0 : Nat), V.ptr (1 : Nat) (0 : Nat))] <| .rw 8008 [] [(8, V.int IntKind.i64 (↑(List.length (List.map ePk ps)) : Int), V.int IntKind.i64 (↑(List.length ps) : Int))] <| .rw 8011 [] [(11, V.int IntKind.i64 (↑(List.length (List.map ePk qs)) : Int), V.int IntKind.i64 (↑(List.length qs) : Int))] <| .rw 8012 [] [(12, V.bool ((↑(List.length ps) : Int) != (↑(List.length qs) : Int)), V.bool false)] <| .rw 8015 [] [(15, V.int IntKind.i64 (↑(List.length (List.map ePk ps)) : Int), V.int IntKind.i64 (↑(List.length ps) : Int))] <| .loop 32 (keeps K17) (S17 ps qs (List.length ps) (0 : Nat)) (Ex.ret) (mkSt (31 : Nat) [((4 : Nat), V.bool false)] [Blk.cells [ePs ps] (24 : TypeId), Blk.cells [ePs qs] (24 : TypeId)]) <| .ret (V.bool false)) (by kernel_rfl) ?_
  exact ⟨⟨trivial, ⟨by simp (disch := omega) only [List.length_cons, List.length_nil, Nat.zero_add], trivial⟩⟩, ⟨⟨trivial, ⟨by simp (disch := omega) only [List.length_map], trivial⟩⟩, ⟨⟨trivial, ⟨by simp (disch := omega) only [List.length_map], trivial⟩⟩, ⟨⟨trivial, ⟨congrArg V.bool (by (simp <;> omega)), trivial⟩⟩, ⟨⟨trivial, ⟨by simp (disch := omega) only [List.length_map], trivial⟩⟩, ⟨(hlp), rfl⟩⟩⟩⟩⟩⟩
end Go.Fw
