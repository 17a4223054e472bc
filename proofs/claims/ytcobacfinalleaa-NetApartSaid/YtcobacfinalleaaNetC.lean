/- Net: checks, copies, sends (3). -/
import Derived.Test.YtcobacfinalleaaNetB
set_option linter.all false
set_option maxHeartbeats 20000000
namespace Go.Fw
open Go.Proofs
theorem check2_long (ps : List Pk) (h : 4096 < ps.length) : Sp C1 19 [eNet ps] (.int .i64 6) := by
  refine sp_tree draws (dm := []) (fs := []) (
    .rw 8007 [] [(7, V.int IntKind.i64 (↑(List.length (List.map ePk ps)) : Int), V.int IntKind.i64 (↑(List.length ps) : Int))] <| .rw 8008 [] [(8, V.bool (decide ((↑(List.length ps) : Int) > (4096 : Int))), V.bool true)] <| .ret (V.int IntKind.i64 (6 : Int))) (by kernel_rfl) ?_
  exact ⟨⟨trivial, ⟨by simp (disch := omega) only [List.length_map], trivial⟩⟩, ⟨⟨trivial, ⟨congrArg V.bool (by (simp <;> omega)), trivial⟩⟩, rfl⟩⟩
abbrev K19 : List Nat := [10, 11, 12]
abbrev S19 (ps : List Pk) (n i : Nat) : St := mkSt 33 [(10, ePs ps), (11, .int .i64 (n : Int)), (12, .int .i64 (i : Int))] [.cells [ePs ps] 24]
theorem loop19_none (ps : List Pk) (n : Nat) (hn : ps.length = n) (h47 : n ≤ 4096) : ∀ (k i : Nat), i + k = n → (∀ j p, i ≤ j → ps[j]? = some p → badP p = false) →
    LoopK C1 19 32 (keeps K19) (S19 ps n i) (.exit 0) (mkSt 33 [] [.cells [ePs ps] 24])
  | 0, i, h, hb => by
    obtain rfl : i = n := by omega
    refine loop_tree draws (kn := (keeps K19)) (ke := (keeps [2])) (
    .rw 8013 [] [(13, V.bool (decide ((↑i : Int) < (↑i : Int))), V.bool false)] <| .ret ((Ex.exit (0 : Nat), St.mk [V.undef, V.undef, V.undef, V.undef, V.undef, V.undef, V.undef, V.undef, V.undef, V.undef, V.undef, V.undef, V.undef, V.undef, V.undef, V.undef, V.undef, V.undef, V.undef, V.undef, V.undef, V.undef, V.undef, V.undef, V.undef, V.undef, V.undef, V.undef, V.undef, V.undef, V.undef, V.undef, V.undef] [Blk.cells [V.imm false (3 : Nat) (List.map ePk ps)] (24 : Nat)]))) (by kernel_rfl) ?_
    exact ⟨⟨trivial, ⟨congrArg V.bool (by (simp <;> omega)), trivial⟩⟩, ⟨rfl, rfl⟩⟩
  | k + 1, i, h, hb => by
    have ih := loop19_none ps n hn h47 k (i + 1) (by omega) (fun j p hj => hb j p (by omega))
    obtain ⟨p, hp⟩ : ∃ p, ps[i]? = some p := ⟨ps[i]'(by omega), List.getElem?_eq_getElem (by omega)⟩
    have hbp := hb i p (Nat.le_refl _) hp
    unfold badP at hbp
    simp only [Bool.or_eq_false_iff, Bool.not_eq_false', decide_eq_false_iff_not] at hbp
    obtain ⟨⟨hf, ht⟩, hs⟩ := hbp
    refine loop_tree draws (kn := (keeps K19)) (ke := (keeps [2])) (
    .rw 8013 [] [(13, V.bool (decide ((↑i : Int) < (↑n : Int))), V.bool true)] <| .opt 14 (idx (List.map ePk ps) (↑i : Int)) (ePk p) <| .rw 8004 [] [(4, V.ptr (List.length [Blk.cells [V.imm false (3 : Nat) (List.map ePk ps)] (24 : Nat)]) (0 : Nat), V.ptr (1 : Nat) (0 : Nat))] <| .call 18 24 ([V.int IntKind.i64 (Pk.f p)]) (V.bool (okN (Pk.f p))) <| .rw 8018 [] [(18, V.bool (okN (Pk.f p)), V.bool true)] <| .call 23 24 ([V.int IntKind.i64 (Pk.t p)]) (V.bool (okN (Pk.t p))) <| .rw 8023 [] [(23, V.bool (okN (Pk.t p)), V.bool true)] <| .rw 8030 [] [(30, V.bool (decide ((↑(ByteArray.size (Pk.s p)) : Int) > (65536 : Int))), V.bool false)] <| .rw 8032 [] [(32, V.int IntKind.i64 (IntKind.wrap IntKind.i64 ((↑i : Int) + (1 : Int))), V.int IntKind.i64 (↑(i + (1 : Nat)) : Int))] <| .to 8012 ([.cut 1]) <| .ret (.normal, S19 ps n (i + (1 : Nat)))) (by kernel_rfl) ?_
    exact ⟨⟨trivial, ⟨congrArg V.bool (by (simp <;> omega)), trivial⟩⟩, ⟨(Go.Fw.idx_map _ hp), ⟨⟨trivial, ⟨by simp (disch := omega) only [List.length_cons, List.length_nil, Nat.zero_add], trivial⟩⟩, ⟨(Go.Fw.node2_sp _), ⟨⟨trivial, ⟨congrArg V.bool (hf), trivial⟩⟩, ⟨(Go.Fw.node2_sp _), ⟨⟨trivial, ⟨congrArg V.bool (ht), trivial⟩⟩, ⟨⟨trivial, ⟨congrArg V.bool (by (simp <;> omega)), trivial⟩⟩, ⟨⟨trivial, ⟨by simp (disch := omega) only [Go.Fw.cast_succ, Go.Fw.wrap_i64], trivial⟩⟩, (ih)⟩⟩⟩⟩⟩⟩⟩⟩⟩
theorem loop19_some (ps : List Pk) (n j : Nat) (p : Pk) (hn : ps.length = n) (h47 : n ≤ 4096) (hj : ps[j]? = some p) (hjb : badP p = true) : ∀ (k i : Nat), i + k = n → i ≤ j → (∀ l q, i ≤ l → l < j → ps[l]? = some q → badP q = false) →
    LoopK C1 19 32 (keeps K19) (S19 ps n i) .ret (mkSt 33 [(2, .int .i64 6)] [.cells [ePs ps] 24, .cells [.int .i64 p.f, .int .i64 p.t, .str p.s] 30])
  | 0, i, h, hi, hb => by
    have := (List.getElem?_eq_some_iff.1 hj).1
    omega
  | k + 1, i, h, hi, hb => by
    by_cases hij : i = j
    · subst hij
      unfold badP at hjb
      simp only [Bool.or_eq_true, Bool.not_eq_true', decide_eq_true_eq] at hjb
      refine loop_tree draws (kn := (keeps K19)) (ke := (keeps [2])) (
    .rw 8013 [] [(13, V.bool (decide ((↑i : Int) < (↑n : Int))), V.bool true)] <| .opt 14 (idx (List.map ePk ps) (↑i : Int)) (ePk p) <| .rw 8004 [] [(4, V.ptr (List.length [Blk.cells [V.imm false (3 : Nat) (List.map ePk ps)] (24 : Nat)]) (0 : Nat), V.ptr (1 : Nat) (0 : Nat))] <| .call 18 24 ([V.int IntKind.i64 (Pk.f p)]) (V.bool (okN (Pk.f p))) <| .ite 1021 ((!okN (Pk.f p)) == false)
    (.rw 8021 [] [(18, V.bool (okN (Pk.f p)), V.bool true), (19, V.bool !okN (Pk.f p), V.bool false)] <| .tt 1022 ((!okN (Pk.f p)) == false) <| .tt 1023 ((!okN (Pk.f p)) == false) <| .call 23 24 ([V.int IntKind.i64 (Pk.t p)]) (V.bool (okN (Pk.t p))) <| .tt 1024 ((!okN (Pk.f p)) == false) <| .ff 25 (!okN (Pk.f p)) <| .ite 1027 ((!okN (Pk.t p)) == false)
      (.rw 8027 [] [(20, V.bool !okN (Pk.f p), V.bool false), (23, V.bool (okN (Pk.t p)), V.bool true), (24, V.bool !okN (Pk.t p), V.bool false)] <| .tt 1028 ((!okN (Pk.t p)) == false) <| .tt 1029 ((!okN (Pk.t p)) == false) <| .tt 1030 ((!okN (Pk.t p)) == false) <| .rw 8030 [] [(30, V.bool (decide ((↑(ByteArray.size (Pk.s p)) : Int) > (65536 : Int))), V.bool true)] <| .ff 31 (!okN (Pk.t p)) <| .ret ((Ex.ret, St.mk [V.undef, V.undef, V.int IntKind.i64 (6 : Int), V.undef, V.undef, V.undef, V.undef, V.undef, V.undef, V.undef, V.undef, V.undef, V.undef, V.undef, V.undef, V.undef, V.undef, V.undef, V.undef, V.undef, V.undef, V.undef, V.undef, V.undef, V.undef, V.undef, V.undef, V.undef, V.undef, V.undef, V.undef, V.undef, V.undef] [Blk.cells [V.imm false (3 : Nat) (List.map ePk ps)] (24 : Nat), Blk.cells [V.int IntKind.i64 (Pk.f p), V.int IntKind.i64 (Pk.t p), V.str (Pk.s p)] (30 : Nat)])))
      (.ff 1028 ((!okN (Pk.t p)) == false) <| .ff 1029 ((!okN (Pk.t p)) == false) <| .ff 1030 ((!okN (Pk.t p)) == false) <| .tt 31 (!okN (Pk.t p)) <| .ret ((Ex.ret, St.mk [V.undef, V.undef, V.int IntKind.i64 (6 : Int), V.undef, V.undef, V.undef, V.undef, V.undef, V.undef, V.undef, V.undef, V.undef, V.undef, V.undef, V.undef, V.undef, V.undef, V.undef, V.undef, V.undef, V.undef, V.undef, V.undef, V.undef, V.undef, V.undef, V.undef, V.undef, V.undef, V.undef, V.undef, V.undef, V.undef] [Blk.cells [V.imm false (3 : Nat) (List.map ePk ps)] (24 : Nat), Blk.cells [V.int IntKind.i64 (Pk.f p), V.int IntKind.i64 (Pk.t p), V.str (Pk.s p)] (30 : Nat)]))))
    (.ff 1022 ((!okN (Pk.f p)) == false) <| .ff 1023 ((!okN (Pk.f p)) == false) <| .ff 1024 ((!okN (Pk.f p)) == false) <| .tt 25 (!okN (Pk.f p)) <| .ret ((Ex.ret, St.mk [V.undef, V.undef, V.int IntKind.i64 (6 : Int), V.undef, V.undef, V.undef, V.undef, V.undef, V.undef, V.undef, V.undef, V.undef, V.undef, V.undef, V.undef, V.undef, V.undef, V.undef, V.undef, V.undef, V.undef, V.undef, V.undef, V.undef, V.undef, V.undef, V.undef, V.undef, V.undef, V.undef, V.undef, V.undef, V.undef] [Blk.cells [V.imm false (3 : Nat) (List.map ePk ps)] (24 : Nat), Blk.cells [V.int IntKind.i64 (Pk.f p), V.int IntKind.i64 (Pk.t p), V.str (Pk.s p)] (30 : Nat)])))) (by kernel_rfl) ?_
      exact ⟨⟨trivial, ⟨congrArg V.bool (by (simp <;> omega)), trivial⟩⟩, ⟨(Go.Fw.idx_map _ hj), ⟨⟨trivial, ⟨by simp (disch := omega) only [List.length_cons, List.length_nil, Nat.zero_add], trivial⟩⟩, ⟨(Go.Fw.node2_sp _), ⟨fun h0 => have h0p : okN (Pk.f p) = true := (by simpa using h0); ⟨⟨trivial, ⟨congrArg V.bool (h0p), ⟨congrArg V.bool (by simp_all), trivial⟩⟩⟩, ⟨(h0), ⟨(h0), ⟨(Go.Fw.node2_sp _), ⟨(h0), ⟨by simp_all, ⟨fun h1 => have h1p : okN (Pk.t p) = true := (by simpa using h1); ⟨⟨trivial, ⟨congrArg V.bool (by simp_all), ⟨congrArg V.bool (h1p), ⟨congrArg V.bool (by simp_all), trivial⟩⟩⟩⟩, ⟨(h1), ⟨(h1), ⟨(h1), ⟨⟨trivial, ⟨congrArg V.bool (by simp_all), trivial⟩⟩, ⟨by simp_all, ⟨rfl, rfl⟩⟩⟩⟩⟩⟩⟩,
      fun h1 => have h1p : okN (Pk.t p) = false := (by simpa using h1); ⟨(h1), ⟨(h1), ⟨(h1), ⟨by simp_all, ⟨rfl, rfl⟩⟩⟩⟩⟩⟩⟩⟩⟩⟩⟩⟩,
    fun h0 => have h0p : okN (Pk.f p) = false := (by simpa using h0); ⟨(h0), ⟨(h0), ⟨(h0), ⟨by simp_all, ⟨rfl, rfl⟩⟩⟩⟩⟩⟩⟩⟩⟩⟩
    · have ih := loop19_some ps n j p hn h47 hj hjb k (i + 1) (by omega) (by omega) (fun l q hl => hb l q (by omega))
      obtain ⟨q, hq⟩ : ∃ q, ps[i]? = some q := ⟨ps[i]'(by omega), List.getElem?_eq_getElem (by omega)⟩
      have hbp := hb i q (Nat.le_refl _) (by omega) hq
      unfold badP at hbp
      simp only [Bool.or_eq_false_iff, Bool.not_eq_false', decide_eq_false_iff_not] at hbp
      obtain ⟨⟨hf, ht⟩, hs⟩ := hbp
      refine loop_tree draws (kn := (keeps K19)) (ke := (keeps [2])) (
    .rw 8013 [] [(13, V.bool (decide ((↑i : Int) < (↑n : Int))), V.bool true)] <| .opt 14 (idx (List.map ePk ps) (↑i : Int)) (ePk q) <| .rw 8004 [] [(4, V.ptr (List.length [Blk.cells [V.imm false (3 : Nat) (List.map ePk ps)] (24 : Nat)]) (0 : Nat), V.ptr (1 : Nat) (0 : Nat))] <| .call 18 24 ([V.int IntKind.i64 (Pk.f q)]) (V.bool (okN (Pk.f q))) <| .rw 8018 [] [(18, V.bool (okN (Pk.f q)), V.bool true)] <| .call 23 24 ([V.int IntKind.i64 (Pk.t q)]) (V.bool (okN (Pk.t q))) <| .rw 8023 [] [(23, V.bool (okN (Pk.t q)), V.bool true)] <| .rw 8030 [] [(30, V.bool (decide ((↑(ByteArray.size (Pk.s q)) : Int) > (65536 : Int))), V.bool false)] <| .rw 8032 [] [(32, V.int IntKind.i64 (IntKind.wrap IntKind.i64 ((↑i : Int) + (1 : Int))), V.int IntKind.i64 (↑(i + (1 : Nat)) : Int))] <| .to 8012 ([.cut 1]) <| .ret (.normal, S19 ps n (i + (1 : Nat)))) (by kernel_rfl) ?_
      exact ⟨⟨trivial, ⟨congrArg V.bool (by (simp <;> omega)), trivial⟩⟩, ⟨(Go.Fw.idx_map _ hq), ⟨⟨trivial, ⟨by simp (disch := omega) only [List.length_cons, List.length_nil, Nat.zero_add], trivial⟩⟩, ⟨(Go.Fw.node2_sp _), ⟨⟨trivial, ⟨congrArg V.bool (hf), trivial⟩⟩, ⟨(Go.Fw.node2_sp _), ⟨⟨trivial, ⟨congrArg V.bool (ht), trivial⟩⟩, ⟨⟨trivial, ⟨congrArg V.bool (by (simp <;> omega)), trivial⟩⟩, ⟨⟨trivial, ⟨by simp (disch := omega) only [Go.Fw.cast_succ, Go.Fw.wrap_i64], trivial⟩⟩, (ih)⟩⟩⟩⟩⟩⟩⟩⟩⟩
theorem check2_none (ps : List Pk) (h : ps.length ≤ 4096) (hb : ps.any badP = false) : Sp C1 19 [eNet ps] (.int .i64 0) := by
  have hl := loop19_none ps ps.length rfl h ps.length 0 (by omega) (fun j p _ hj => by
    rw [List.any_eq_false] at hb
    simpa using hb p (List.mem_of_getElem? hj))
  refine sp_tree draws (dm := []) (fs := []) (
    .rw 8007 [] [(7, V.int IntKind.i64 (↑(List.length (List.map ePk ps)) : Int), V.int IntKind.i64 (↑(List.length ps) : Int))] <| .rw 8008 [] [(8, V.bool (decide ((↑(List.length ps) : Int) > (4096 : Int))), V.bool false)] <| .rw 8011 [] [(11, V.int IntKind.i64 (↑(List.length (List.map ePk ps)) : Int), V.int IntKind.i64 (↑(List.length ps) : Int))] <| .loop 32 (keeps K19) (S19 ps (List.length ps) (0 : Nat)) (Ex.exit (0 : Nat)) (mkSt (33 : Nat) [] [Blk.cells [ePs ps] (24 : TypeId)]) <| .ret (V.int IntKind.i64 (0 : Int))) (by kernel_rfl) ?_
  exact ⟨⟨trivial, ⟨by simp (disch := omega) only [List.length_map], trivial⟩⟩, ⟨⟨trivial, ⟨congrArg V.bool (by (simp <;> omega)), trivial⟩⟩, ⟨⟨trivial, ⟨by simp (disch := omega) only [List.length_map], trivial⟩⟩, ⟨(hl), rfl⟩⟩⟩⟩
theorem check2_some (ps : List Pk) (h : ps.length ≤ 4096) (hb : ps.any badP = true) : Sp C1 19 [eNet ps] (.int .i64 6) := by
  obtain ⟨j, p, h1, h2, h3⟩ := first_bad ps hb
  have hl := loop19_some ps ps.length j p rfl h h1 h2 ps.length 0 (by omega) (Nat.zero_le _) (fun l q _ => h3 l q)
  refine sp_tree draws (dm := []) (fs := []) (
    .rw 8007 [] [(7, V.int IntKind.i64 (↑(List.length (List.map ePk ps)) : Int), V.int IntKind.i64 (↑(List.length ps) : Int))] <| .rw 8008 [] [(8, V.bool (decide ((↑(List.length ps) : Int) > (4096 : Int))), V.bool false)] <| .rw 8011 [] [(11, V.int IntKind.i64 (↑(List.length (List.map ePk ps)) : Int), V.int IntKind.i64 (↑(List.length ps) : Int))] <| .loop 32 (keeps K19) (S19 ps (List.length ps) (0 : Nat)) (Ex.ret) (mkSt (33 : Nat) [((2 : Nat), V.int IntKind.i64 (6 : Int))] [Blk.cells [ePs ps] (24 : TypeId), Blk.cells [V.int IntKind.i64 (Pk.f p), V.int IntKind.i64 (Pk.t p), V.str (Pk.s p)] (30 : TypeId)]) <| .ret (V.int IntKind.i64 (6 : Int))) (by kernel_rfl) ?_
  exact ⟨⟨trivial, ⟨by simp (disch := omega) only [List.length_map], trivial⟩⟩, ⟨⟨trivial, ⟨congrArg V.bool (by (simp <;> omega)), trivial⟩⟩, ⟨⟨trivial, ⟨by simp (disch := omega) only [List.length_map], trivial⟩⟩, ⟨(hl), rfl⟩⟩⟩⟩
theorem check2_sp (ps : List Pk) : Sp C1 19 [eNet ps] (.int .i64 (chkE ps)) := by
  unfold chkE okNet
  by_cases h : ps.length ≤ 4096
  · cases hb : ps.any badP
    · simpa [h] using check2_none ps h hb
    · simpa [h] using check2_some ps h hb
  · simpa [h] using check2_long ps (by omega)
theorem with_full (ps : List Pk) (p : Pk) (h : ps.length * 32 ≤ 2 ^ 47) (hf : 4096 ≤ ps.length) : Sp C1 23 [eNet ps, ePk p] (.tup [eNet ps, .int .i64 8]) := by
  refine sp_tree draws (dm := [0]) (fs := [fN, .of .keep]) (
    .rw 8003 [] [(3, V.ptr (List.length [Blk.cells [V.imm false (3 : Nat) (List.map ePk ps)] (24 : Nat)]) (0 : Nat), V.ptr (1 : Nat) (0 : Nat))] <| .rw 8004 [] [(4, V.ptr (List.length [Blk.cells [V.imm false (3 : Nat) (List.map ePk ps)] (24 : Nat), Blk.cells [V.int IntKind.i64 (Pk.f p), V.int IntKind.i64 (Pk.t p), V.str (Pk.s p)] (30 : Nat)]) (0 : Nat), V.ptr ((1 : Nat) + (1 : Nat)) (0 : Nat))] <| .call 7 22 ([eNet ps]) (eNl ps) <| .rw 8010 [] [(10, V.int IntKind.i64 (↑(List.length (List.map ePk ps)) : Int), V.int IntKind.i64 (↑(List.length ps) : Int))] <| .rw 8011 [] [(11, V.bool (decide ((↑(List.length ps) : Int) ≥ (4096 : Int))), V.bool true)] <| .ret (V.tup [V.agg [V.imm false (3 : Nat) (List.map ePk ps)], V.int IntKind.i64 (8 : Int)])) (by kernel_rfl) ?_
  exact ⟨⟨trivial, ⟨by simp (disch := omega) only [List.length_cons, List.length_nil, Nat.zero_add], trivial⟩⟩, ⟨⟨trivial, ⟨by simp (disch := omega) only [List.length_cons, List.length_nil, Nat.zero_add], trivial⟩⟩, ⟨(Go.Fw.own_sp _ h), ⟨⟨trivial, ⟨by simp (disch := omega) only [List.length_map], trivial⟩⟩, ⟨⟨trivial, ⟨congrArg V.bool (by (simp <;> omega)), trivial⟩⟩, rfl⟩⟩⟩⟩⟩
theorem with_room (ps : List Pk) (p : Pk) (hf : ps.length < 4096) : Sp C1 23 [eNet ps, ePk p] (.tup [eNet (ps ++ [p]), .int .i64 0]) := by
  refine sp_tree draws (dm := [0]) (fs := [fN, .of .keep]) (
    .rw 8003 [] [(3, V.ptr (List.length [Blk.cells [V.imm false (3 : Nat) (List.map ePk ps)] (24 : Nat)]) (0 : Nat), V.ptr (1 : Nat) (0 : Nat))] <| .rw 8004 [] [(4, V.ptr (List.length [Blk.cells [V.imm false (3 : Nat) (List.map ePk ps)] (24 : Nat), Blk.cells [V.int IntKind.i64 (Pk.f p), V.int IntKind.i64 (Pk.t p), V.str (Pk.s p)] (30 : Nat)]) (0 : Nat), V.ptr ((1 : Nat) + (1 : Nat)) (0 : Nat))] <| .call 7 22 ([eNet ps]) (eNl ps) <| .rw 8010 [] [(10, V.int IntKind.i64 (↑(List.length (List.map ePk ps)) : Int), V.int IntKind.i64 (↑(List.length ps) : Int))] <| .rw 8011 [] [(11, V.bool (decide ((↑(List.length ps) : Int) ≥ (4096 : Int))), V.bool false)] <| .chk 17 (decide ((List.length (List.map ePk ps) + List.length [V.agg [V.int IntKind.i64 (Pk.f p), V.int IntKind.i64 (Pk.t p), V.str (Pk.s p)]]) * (32 : Nat) ≤ (140737488355328 : Nat))) <| .ret (V.tup [V.agg [V.imm false (3 : Nat) (List.map ePk ps ++ [V.agg [V.int IntKind.i64 (Pk.f p), V.int IntKind.i64 (Pk.t p), V.str (Pk.s p)]])], V.int IntKind.i64 (0 : Int)])) (by kernel_rfl) ?_
  exact ⟨⟨trivial, ⟨by simp (disch := omega) only [List.length_cons, List.length_nil, Nat.zero_add], trivial⟩⟩, ⟨⟨trivial, ⟨by simp (disch := omega) only [List.length_cons, List.length_nil, Nat.zero_add], trivial⟩⟩, ⟨(Go.Fw.own_sp _ (by omega)), ⟨⟨trivial, ⟨by simp (disch := omega) only [List.length_map], trivial⟩⟩, ⟨⟨trivial, ⟨congrArg V.bool (by (simp <;> omega)), trivial⟩⟩, ⟨by (simp <;> omega), by show _ = _; simp⟩⟩⟩⟩⟩⟩
end Go.Fw
