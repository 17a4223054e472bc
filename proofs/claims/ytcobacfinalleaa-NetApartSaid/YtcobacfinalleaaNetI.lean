/- Net: has. -/
import Derived.Test.YtcobacfinalleaaNetH
set_option linter.all false
set_option maxHeartbeats 20000000
namespace Go.Fw
open Go.Proofs
abbrev K20 : List Nat := [3, 7, 8, 9]
abbrev S20 (ps : List Pk) (p : Pk) (n i : Nat) : St := mkSt 17 [(3, .ptr 0 0), (7, ePs ps), (8, .int .i64 (n : Int)), (9, .int .i64 (i : Int))] [.cells [.int .i64 p.f, .int .i64 p.t, .str p.s] 30]
theorem loop20_no (ps : List Pk) (p : Pk) (n : Nat) (hn : ps.length = n) (h47 : n * 32 ≤ 2 ^ 47) : ∀ (k i : Nat), i + k = n → (∀ j q, i ≤ j → ps[j]? = some q → pEq q p = false) →
    LoopK C1 20 16 (keeps K20) (S20 ps p n i) (.exit 0) (mkSt 17 [] [.cells [.int .i64 p.f, .int .i64 p.t, .str p.s] 30])
  | 0, i, h, hb => by
    obtain rfl : i = n := by omega
    refine loop_tree draws (kn := (keeps K20)) (ke := (keeps [4])) (
    .rw 8010 [] [(10, V.bool (decide ((↑i : Int) < (↑i : Int))), V.bool false)] <| .ret ((Ex.exit (0 : Nat), St.mk [V.undef, V.undef, V.undef, V.undef, V.undef, V.undef, V.undef, V.undef, V.undef, V.undef, V.undef, V.undef, V.undef, V.undef, V.undef, V.undef, V.undef] [Blk.cells [V.int IntKind.i64 (Pk.f p), V.int IntKind.i64 (Pk.t p), V.str (Pk.s p)] (30 : Nat)]))) (by kernel_rfl) ?_
    exact ⟨⟨trivial, ⟨congrArg V.bool (by (simp <;> omega)), trivial⟩⟩, ⟨rfl, rfl⟩⟩
  | k + 1, i, h, hb => by
    have ih := loop20_no ps p n hn h47 k (i + 1) (by omega) (fun j q hj => hb j q (by omega))
    obtain ⟨q, hp⟩ : ∃ p, ps[i]? = some p := ⟨ps[i]'(by omega), List.getElem?_eq_getElem (by omega)⟩
    have hbp := hb i q (Nat.le_refl _) hp
    refine loop_tree draws (kn := (keeps K20)) (ke := (keeps [4])) (
    .rw 8010 [] [(10, V.bool (decide ((↑i : Int) < (↑n : Int))), V.bool true)] <| .opt 11 (idx (List.map ePk ps) (↑i : Int)) (ePk q) <| .rw 8006 [] [(6, V.ptr (List.length [Blk.cells [V.int IntKind.i64 (Pk.f p), V.int IntKind.i64 (Pk.t p), V.str (Pk.s p)] (30 : Nat)]) (0 : Nat), V.ptr (1 : Nat) (0 : Nat))] <| .rw 8015 [] [(15, V.bool (Pk.f q == Pk.f p && (Pk.t q == Pk.t p && (ByteArray.toList (Pk.s q) == ByteArray.toList (Pk.s p) && true))), V.bool false)] <| .rw 8016 [] [(16, V.int IntKind.i64 (IntKind.wrap IntKind.i64 ((↑i : Int) + (1 : Int))), V.int IntKind.i64 (↑(i + (1 : Nat)) : Int))] <| .to 8009 ([.cut 1]) <| .ret (.normal, S20 ps p n (i + (1 : Nat)))) (by kernel_rfl) ?_
    exact ⟨⟨trivial, ⟨congrArg V.bool (by (simp <;> omega)), trivial⟩⟩, ⟨(Go.Fw.idx_map _ hp), ⟨⟨trivial, ⟨by simp (disch := omega) only [List.length_cons, List.length_nil, Nat.zero_add], trivial⟩⟩, ⟨⟨trivial, ⟨congrArg V.bool (by (unfold pEq at hbp; rw [hbp])), trivial⟩⟩, ⟨⟨trivial, ⟨by simp (disch := omega) only [Go.Fw.cast_succ, Go.Fw.wrap_i64], trivial⟩⟩, (ih)⟩⟩⟩⟩⟩
theorem loop20_yes (ps : List Pk) (p : Pk) (n : Nat) (hn : ps.length = n) (h47 : n * 32 ≤ 2 ^ 47) (l : Nat) (r : Pk) (hr : ps[l]? = some r) (he : pEq r p = true) : ∀ (k i : Nat), i + k = n → i ≤ l →
    ∃ x, LoopK C1 20 16 (keeps K20) (S20 ps p n i) .ret (mkSt 17 [(4, .bool true)] [.cells [.int .i64 p.f, .int .i64 p.t, .str p.s] 30, x])
  | 0, i, h, hl => by
    have := (List.getElem?_eq_some_iff.1 hr).1
    omega
  | k + 1, i, h, hl => by
    obtain ⟨q, hp⟩ : ∃ p, ps[i]? = some p := ⟨ps[i]'(by omega), List.getElem?_eq_getElem (by omega)⟩
    cases hbp : pEq q p with
    | true =>
      clear hr he
      refine ⟨.cells [.int .i64 q.f, .int .i64 q.t, .str q.s] 30, ?_⟩
      refine loop_tree draws (kn := (keeps K20)) (ke := (keeps [4])) (
    .rw 8010 [] [(10, V.bool (decide ((↑i : Int) < (↑n : Int))), V.bool true)] <| .opt 11 (idx (List.map ePk ps) (↑i : Int)) (ePk q) <| .rw 8006 [] [(6, V.ptr (List.length [Blk.cells [V.int IntKind.i64 (Pk.f p), V.int IntKind.i64 (Pk.t p), V.str (Pk.s p)] (30 : Nat)]) (0 : Nat), V.ptr (1 : Nat) (0 : Nat))] <| .rw 8015 [] [(15, V.bool (Pk.f q == Pk.f p && (Pk.t q == Pk.t p && (ByteArray.toList (Pk.s q) == ByteArray.toList (Pk.s p) && true))), V.bool true)] <| .ret ((Ex.ret, St.mk [V.undef, V.undef, V.undef, V.undef, V.bool true, V.undef, V.undef, V.undef, V.undef, V.undef, V.undef, V.undef, V.undef, V.undef, V.undef, V.undef, V.undef] [Blk.cells [V.int IntKind.i64 (Pk.f p), V.int IntKind.i64 (Pk.t p), V.str (Pk.s p)] (30 : Nat), Blk.cells [V.int IntKind.i64 (Pk.f q), V.int IntKind.i64 (Pk.t q), V.str (Pk.s q)] (30 : Nat)]))) (by kernel_rfl) ?_
      exact ⟨⟨trivial, ⟨congrArg V.bool (by (simp <;> omega)), trivial⟩⟩, ⟨(Go.Fw.idx_map _ hp), ⟨⟨trivial, ⟨by simp (disch := omega) only [List.length_cons, List.length_nil, Nat.zero_add], trivial⟩⟩, ⟨⟨trivial, ⟨congrArg V.bool (by (unfold pEq at hbp; rw [hbp])), trivial⟩⟩, ⟨rfl, rfl⟩⟩⟩⟩⟩
    | false =>
      have hil : i ≠ l := by
        rintro rfl
        rw [hr] at hp
        cases hp
        rw [he] at hbp; cases hbp
      obtain ⟨x, ih⟩ := loop20_yes ps p n hn h47 l r hr he k (i + 1) (by omega) (by omega)
      clear hr he
      refine ⟨x, ?_⟩
      refine loop_tree draws (kn := (keeps K20)) (ke := (keeps [4])) (
    .rw 8010 [] [(10, V.bool (decide ((↑i : Int) < (↑n : Int))), V.bool true)] <| .opt 11 (idx (List.map ePk ps) (↑i : Int)) (ePk q) <| .rw 8006 [] [(6, V.ptr (List.length [Blk.cells [V.int IntKind.i64 (Pk.f p), V.int IntKind.i64 (Pk.t p), V.str (Pk.s p)] (30 : Nat)]) (0 : Nat), V.ptr (1 : Nat) (0 : Nat))] <| .rw 8015 [] [(15, V.bool (Pk.f q == Pk.f p && (Pk.t q == Pk.t p && (ByteArray.toList (Pk.s q) == ByteArray.toList (Pk.s p) && true))), V.bool false)] <| .rw 8016 [] [(16, V.int IntKind.i64 (IntKind.wrap IntKind.i64 ((↑i : Int) + (1 : Int))), V.int IntKind.i64 (↑(i + (1 : Nat)) : Int))] <| .to 8009 ([.cut 1]) <| .ret (.normal, S20 ps p n (i + (1 : Nat)))) (by kernel_rfl) ?_
      exact ⟨⟨trivial, ⟨congrArg V.bool (by (simp <;> omega)), trivial⟩⟩, ⟨(Go.Fw.idx_map _ hp), ⟨⟨trivial, ⟨by simp (disch := omega) only [List.length_cons, List.length_nil, Nat.zero_add], trivial⟩⟩, ⟨⟨trivial, ⟨congrArg V.bool (by (unfold pEq at hbp; rw [hbp])), trivial⟩⟩, ⟨⟨trivial, ⟨by simp (disch := omega) only [Go.Fw.cast_succ, Go.Fw.wrap_i64], trivial⟩⟩, (ih)⟩⟩⟩⟩⟩
theorem has_no (ps : List Pk) (p : Pk) (h47 : ps.length * 32 ≤ 2 ^ 47) (h : ∀ q ∈ ps, pEq q p = false) : Sp C1 20 [ePs ps, ePk p] (.bool false) := by
  have hlp := loop20_no ps p ps.length rfl h47 ps.length 0 (by omega) (fun j q _ hj => h q (List.mem_of_getElem? hj))
  refine sp_tree draws (dm := []) (fs := []) (
    .rw 8008 [] [(8, V.int IntKind.i64 (↑(List.length (List.map ePk ps)) : Int), V.int IntKind.i64 (↑(List.length ps) : Int))] <| .loop 16 (keeps K20) (S20 ps p (List.length ps) (0 : Nat)) (Ex.exit (0 : Nat)) (mkSt (17 : Nat) [] [Blk.cells [V.int IntKind.i64 (Pk.f p), V.int IntKind.i64 (Pk.t p), V.str (Pk.s p)] (30 : TypeId)]) <| .ret (V.bool false)) (by kernel_rfl) ?_
  exact ⟨⟨trivial, ⟨by simp (disch := omega) only [List.length_map], trivial⟩⟩, ⟨(hlp), rfl⟩⟩
theorem has_yes (ps : List Pk) (p r : Pk) (h47 : ps.length * 32 ≤ 2 ^ 47) (hr : r ∈ ps) (he : pEq r p = true) : Sp C1 20 [ePs ps, ePk p] (.bool true) := by
  obtain ⟨l, hl⟩ := List.getElem?_of_mem hr
  obtain ⟨x, hlp⟩ := loop20_yes ps p ps.length rfl h47 l r hl he ps.length 0 (by omega) (by omega)
  clear hl hr he
  refine sp_tree draws (dm := []) (fs := []) (
    .rw 8008 [] [(8, V.int IntKind.i64 (↑(List.length (List.map ePk ps)) : Int), V.int IntKind.i64 (↑(List.length ps) : Int))] <| .loop 16 (keeps K20) (S20 ps p (List.length ps) (0 : Nat)) (Ex.ret) (mkSt (17 : Nat) [((4 : Nat), V.bool true)] [Blk.cells [V.int IntKind.i64 (Pk.f p), V.int IntKind.i64 (Pk.t p), V.str (Pk.s p)] (30 : TypeId), x]) <| .ret (V.bool true)) (by kernel_rfl) ?_
  exact ⟨⟨trivial, ⟨by simp (disch := omega) only [List.length_map], trivial⟩⟩, ⟨(hlp), rfl⟩⟩
abbrev aP : Pk := ⟨1, 2, ⟨#[97]⟩⟩
theorem lives_sp : Sp C1 16 [] (.bool true) := by
  have h1 := send_ok [] 1 2 ⟨#[97]⟩ rfl rfl rfl (by decide) (by decide)
  have h2 := copy_ok [aP] 0 aP (by rfl) rfl (by decide)
  have h3 := deliver_ok [aP, aP] 1 aP (by rfl) rfl
  have h4 := drop_out [aP] 1 (by rfl) (by decide)
  refine sp_tree draws (dm := []) (fs := []) (
    .to 8009 ([.put 9 (.agg [.imm 3])]) <| .call 10 8 ([eNet [], V.int IntKind.i64 (1 : Int), V.int IntKind.i64 (2 : Int), V.str (ByteArray.mk #[(97 : UInt8)])]) (V.tup [eNet ([] ++ [Pk.mk (1 : Int) (2 : Int) (ByteArray.mk #[(97 : UInt8)])]), V.int IntKind.i64 (0 : Int)]) <| .call 15 14 ([eNet [aP], V.int IntKind.i64 (↑(0 : Nat) : Int)]) (V.tup [eNet ([aP] ++ [aP]), V.int IntKind.i64 (0 : Int)]) <| .call 20 10 ([eNet [aP, aP], V.int IntKind.i64 (↑(1 : Nat) : Int)]) (V.tup [eNet (List.eraseIdx [aP, aP] (1 : Nat)), ePk aP, V.int IntKind.i64 (0 : Int)]) <| .call 26 12 ([eNet [aP], V.int IntKind.i64 (1 : Int)]) (V.tup [eNet [aP], V.int IntKind.i64 (7 : Int)]) <| .ret (V.bool true)) (by kernel_rfl) ?_
  exact ⟨(h1), ⟨(h2), ⟨(h3), ⟨(h4), rfl⟩⟩⟩⟩
end Go.Fw
