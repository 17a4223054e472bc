/- Net: NetOnly. -/
import Derived.Test.YtcobacfinalleaaPk4
set_option linter.all false
set_option maxHeartbeats 20000000
namespace Go.Fw
open Go.Proofs
/-- What stands through the loop. -/
structure Inv4 (ps sent : List Pk) (extra got : Int) (i : Nat) : Prop where
  ok : okNet ps = true
  sub : ∀ p ∈ ps, p ∈ sent
  num : (ps.length : Int) + got = sent.length + extra
  ex : -(i : Int) ≤ extra ∧ extra ≤ i
  go : 0 ≤ got ∧ got ≤ i
  len : sent.length ≤ i
theorem chkE_ok {ps : List Pk} (h : okNet ps = true) : Sp C1 18 [eNet ps] (.int .i64 0) := by
  have := check_sp ps
  unfold chkE at this
  rw [if_pos h] at this
  exact this
theorem okNet_len {ps : List Pk} (h : okNet ps = true) : ps.length ≤ 4096 := by
  unfold okNet at h
  simp only [Bool.and_eq_true, decide_eq_true_eq] at h
  exact h.1
theorem okNet_all {ps : List Pk} (h : okNet ps = true) : ∀ p ∈ ps, badP p = false := by
  unfold okNet at h
  simp only [Bool.and_eq_true, decide_eq_true_eq, Bool.not_eq_true'] at h
  intro p hp
  have := List.any_eq_false.1 h.2 p hp
  simpa using this
theorem okNet_of {ps : List Pk} (h1 : ps.length ≤ 4096) (h2 : ∀ p ∈ ps, badP p = false) : okNet ps = true := by
  unfold okNet
  simp only [Bool.and_eq_true, decide_eq_true_eq, Bool.not_eq_true']
  exact ⟨h1, List.any_eq_false.2 (fun p hp => by simp [h2 p hp])⟩
theorem okNet_app {ps : List Pk} {p : Pk} (h : okNet ps = true) (hp : badP p = false) (hl : ps.length < 4096) : okNet (ps ++ [p]) = true :=
  okNet_of (by simp; omega) (fun q hq => by
    rcases List.mem_append.1 hq with hq | hq
    · exact okNet_all h q hq
    · simp at hq; subst hq; exact hp)
theorem okNet_erase {ps : List Pk} {i : Nat} (h : okNet ps = true) : okNet (ps.eraseIdx i) = true :=
  okNet_of (Nat.le_trans (List.length_eraseIdx_le ps i) (okNet_len h)) (fun q hq => okNet_all h q (List.mem_of_mem_eraseIdx hq))
theorem tmod4 (k : Int) (h : 0 ≤ k) : k.tmod 4 = 0 ∨ k.tmod 4 = 1 ∨ k.tmod 4 = 2 ∨ k.tmod 4 = 3 := by
  rw [Int.tmod_eq_emod_of_nonneg h]; omega
theorem loop4 (ms : List Mv) (n : Nat) (hn : ms.length = n) (hms : ∀ m ∈ ms, 0 ≤ m.k) : ∀ (k i : Nat) (ps sent : List Pk) (pr : Bool) (extra got : Int), i + k = n → i ≤ 301 → Inv4 ps sent extra got i →
    ∃ ps' sent' pr' extra' got' H, LoopK C1 4 56 (keeps K4) (S4 ps (eSent pr sent) extra got ms n i) (.exit 0) (E4 ps' sent' pr' extra' got' H) ∧ Inv4 ps' sent' extra' got' 301 ∧ (H = [] ∨ ∃ m, H = [mvC m])
  | 0, i, ps, sent, pr, extra, got, h, hi, hv => by
    obtain rfl : i = n := by omega
    exact ⟨ps, sent, pr, extra, got, [], step4_end ps sent pr extra got ms i hn, ⟨hv.ok, hv.sub, hv.num, by have := hv.ex; omega, by have := hv.go; omega, by have := hv.len; omega⟩, .inl rfl⟩
  | k + 1, i, ps, sent, pr, extra, got, h, hi, hv => by
    obtain ⟨m, hm⟩ : ∃ m, ms[i]? = some m := ⟨ms[i]'(by omega), List.getElem?_eq_getElem (by omega)⟩
    have hmk := hms m (List.mem_of_getElem? hm)
    have he := hv.ex
    have hg := hv.go
    have hs := hv.len
    by_cases hb : 300 < i
    · exact ⟨ps, sent, pr, extra, got, _, step4_brk ps sent pr extra got ms n i hn m hm hb, ⟨hv.ok, hv.sub, hv.num, by omega, by omega, by omega⟩, .inr ⟨m, rfl⟩⟩
    have he' : -301 ≤ extra ∧ extra ≤ 301 := by omega
    have hg' : 0 ≤ got ∧ got ≤ 301 := by omega
    have hs' : sent.length ≤ 301 := by omega
    have hi' : i ≤ 300 := by omega
    have hl := okNet_len hv.ok
    have hsm := same_refl ps (by omega)
    have hco := chkE_ok hv.ok
    have hnext := fun ps' sent' pr' extra' got' (hw : Inv4 ps' sent' extra' got' (i + 1)) => loop4 ms n hn hms k (i + 1) ps' sent' pr' extra' got' (by omega) (by omega) hw
    have hsame : Inv4 ps sent extra got (i + 1) := ⟨hv.ok, hv.sub, hv.num, by omega, by omega, by omega⟩
    rcases tmod4 m.k hmk with hk | hk | hk | hk
    · have h1 := send_sp ps m.f m.t m.s
      unfold sRes at h1
      rw [if_neg (by simp [hv.ok])] at h1
      split at h1
      · obtain ⟨a, b, c, d, e, H, h2, h3⟩ := hnext ps sent pr extra got hsame
        exact ⟨a, b, c, d, e, H, step4_s0 ps sent pr extra got he' hg' hs' ms n i hn m hm hi' hk 2 (by decide) h1 hsm hco _ (fun v hv => by subst hv; exact h2), h3⟩
      · rename_i hft
        split at h1
        · obtain ⟨a, b, c, d, e, H, h2, h3⟩ := hnext ps sent pr extra got hsame
          exact ⟨a, b, c, d, e, H, step4_s0 ps sent pr extra got he' hg' hs' ms n i hn m hm hi' hk 4 (by decide) h1 hsm hco _ (fun v hv => by subst hv; exact h2), h3⟩
        · rename_i hsz
          split at h1
          · obtain ⟨a, b, c, d, e, H, h2, h3⟩ := hnext ps sent pr extra got hsame
            exact ⟨a, b, c, d, e, H, step4_s0 ps sent pr extra got he' hg' hs' ms n i hn m hm hi' hk 8 (by decide) h1 hsm hco _ (fun v hv => by subst hv; exact h2), h3⟩
          · have hok : okNet (ps ++ [⟨m.f, m.t, m.s⟩]) = true := okNet_app hv.ok (by
              unfold badP
              simp only [not_or, Bool.not_eq_false] at hft
              simp [hft.1, hft.2]; omega) (by omega)
            obtain ⟨a, b, c, d, e, H, h2, h3⟩ := hnext (ps ++ [⟨m.f, m.t, m.s⟩]) (sent ++ [⟨m.f, m.t, m.s⟩]) pr extra got ⟨hok, fun p hp => by
              rcases List.mem_append.1 hp with hp | hp
              · exact List.mem_append_left _ (hv.sub p hp)
              · exact List.mem_append_right _ hp, by have := hv.num; simp; omega, by omega, by omega, by simp; omega⟩
            exact ⟨a, b, c, d, e, H, step4_s1 ps sent pr extra got he' hg' hs' ms n i hn m hm hi' hk _ h1 (chkE_ok hok) _ (fun v hv => by subst hv; exact h2), h3⟩
    · have h1 := deliver_sp ps m.f
      unfold dRes at h1
      rw [if_neg (by simp [hv.ok])] at h1
      cases hd : dIdx ps m.f with
      | none =>
        rw [hd] at h1
        obtain ⟨a, b, c, d, e, H, h2, h3⟩ := hnext ps sent pr extra got hsame
        exact ⟨a, b, c, d, e, H, step4_d0 ps sent pr extra got he' hg' hs' ms n i hn m hm hi' hk 7 (by decide) _ h1 hsm hco _ (fun v hv => by subst hv; exact h2), h3⟩
      | some p =>
        rw [hd] at h1
        obtain ⟨j, hj, hp⟩ := dIdx_some hd
        have hin := hv.sub p (List.mem_of_getElem? hp)
        have hjl := (List.getElem?_eq_some_iff.1 hp).1
        have hjn : m.f.toNat = j := by omega
        have hel : (ps.eraseIdx m.f.toNat).length = ps.length - 1 := List.length_eraseIdx_of_lt (by omega)
        have hok : okNet (ps.eraseIdx m.f.toNat) = true := okNet_erase hv.ok
        obtain ⟨a, b, c, d, e, H, h2, h3⟩ := hnext (ps.eraseIdx m.f.toNat) sent false extra (got + 1) ⟨hok, fun q hq => hv.sub q (List.mem_of_mem_eraseIdx hq), by have := hv.num; omega, by omega, by omega, by omega⟩
        exact ⟨a, b, c, d, e, H, step4_d1 ps sent pr extra got he' hg' hs' ms n i hn m hm hi' hk _ p h1 (chkE_ok hok) (has_yes sent p p (by omega) hin (pEq_refl p)) _ (fun v hv => by subst hv; exact h2), h3⟩
    · have h1 := drop_sp ps m.f
      unfold dRes at h1
      rw [if_neg (by simp [hv.ok])] at h1
      cases hd : dIdx ps m.f with
      | none =>
        rw [hd] at h1
        obtain ⟨a, b, c, d, e, H, h2, h3⟩ := hnext ps sent pr extra got hsame
        exact ⟨a, b, c, d, e, H, step4_r0 ps sent pr extra got he' hg' hs' ms n i hn m hm hi' hk 7 (by decide) h1 hsm hco _ (fun v hv => by subst hv; exact h2), h3⟩
      | some p =>
        rw [hd] at h1
        obtain ⟨j, hj, hp⟩ := dIdx_some hd
        have hjl := (List.getElem?_eq_some_iff.1 hp).1
        have hel : (ps.eraseIdx m.f.toNat).length = ps.length - 1 := List.length_eraseIdx_of_lt (by omega)
        have hok : okNet (ps.eraseIdx m.f.toNat) = true := okNet_erase hv.ok
        obtain ⟨a, b, c, d, e, H, h2, h3⟩ := hnext (ps.eraseIdx m.f.toNat) sent pr (extra - 1) got ⟨hok, fun q hq => hv.sub q (List.mem_of_mem_eraseIdx hq), by have := hv.num; omega, by omega, by omega, by omega⟩
        exact ⟨a, b, c, d, e, H, step4_r1 ps sent pr extra got he' hg' hs' ms n i hn m hm hi' hk _ h1 (chkE_ok hok) _ (fun v hv => by subst hv; exact h2), h3⟩
    · have h1 := copy_sp ps m.f
      unfold cRes at h1
      rw [if_neg (by simp [hv.ok])] at h1
      cases hd : dIdx ps m.f with
      | none =>
        rw [hd] at h1
        obtain ⟨a, b, c, d, e, H, h2, h3⟩ := hnext ps sent pr extra got hsame
        exact ⟨a, b, c, d, e, H, step4_c0 ps sent pr extra got he' hg' hs' ms n i hn m hm hi' hk 7 (by decide) h1 hsm hco _ (fun v hv => by subst hv; exact h2), h3⟩
      | some p =>
        rw [hd] at h1
        dsimp only at h1
        obtain ⟨j, hj, hp⟩ := dIdx_some hd
        split at h1
        · obtain ⟨a, b, c, d, e, H, h2, h3⟩ := hnext ps sent pr extra got hsame
          exact ⟨a, b, c, d, e, H, step4_c0 ps sent pr extra got he' hg' hs' ms n i hn m hm hi' hk 8 (by decide) h1 hsm hco _ (fun v hv => by subst hv; exact h2), h3⟩
        · have hin := List.mem_of_getElem? hp
          have hok : okNet (ps ++ [p]) = true := okNet_app hv.ok (okNet_all hv.ok p hin) (by omega)
          obtain ⟨a, b, c, d, e, H, h2, h3⟩ := hnext (ps ++ [p]) sent pr (extra + 1) got ⟨hok, fun q hq => by
              rcases List.mem_append.1 hq with hq | hq
              · exact hv.sub q hq
              · simp at hq; subst hq; exact hv.sub _ hin, by have := hv.num; simp; omega, by omega, by omega, by omega⟩
          exact ⟨a, b, c, d, e, H, step4_c1 ps sent pr extra got he' hg' hs' ms n i hn m hm hi' hk _ h1 (chkE_ok hok) _ (fun v hv => by subst hv; exact h2), h3⟩
abbrev K4b : List Nat := [3, 4, 5, 6, 113, 114, 115, 116]
abbrev S4b (ps sent : List Pk) (pr : Bool) (extra got : Int) (H : List Blk) (n i : Nat) : St := mkSt 135 [(3, .ptr 0 0), (4, eSent pr sent), (5, .int .i64 extra), (6, .int .i64 got), (113, .ptr 0 0), (114, ePs ps), (115, .int .i64 (n : Int)), (116, .int .i64 (i : Int))] (.cells [ePs ps] 24 :: H)
theorem loop4b (ps sent : List Pk) (extra got : Int) (n : Nat) (hn : ps.length = n) (hn2 : n ≤ 4096) (hsl : sent.length ≤ 301) (hsub : ∀ p ∈ ps, p ∈ sent) : ∀ (k i : Nat) (pr : Bool), i + k = n → ∃ pr', LoopK C1 4 280 (keeps K4b) (S4b ps sent pr extra got [] n i) (.exit 3) (E4 ps sent pr' extra got [])
  | 0, i, pr, h => by
    obtain rfl : i = n := by omega
    refine ⟨pr, ?_⟩
    refine loop_tree draws (kn := (keeps K4b)) (ke := (keeps KE4)) (
    .rw 8117 [] [(117, V.bool (decide ((↑i : Int) < (↑i : Int))), V.bool false)] <| .ret ((Ex.exit (3 : Nat), St.mk [V.undef, V.undef, V.undef, V.ptr (0 : Nat) (0 : Nat), V.lin pr (30 : Nat) (3 : Nat) (List.map ePk sent), V.int IntKind.i64 extra, V.int IntKind.i64 got, V.undef, V.undef, V.undef, V.undef, V.undef, V.undef, V.undef, V.undef, V.undef, V.undef, V.undef, V.undef, V.undef, V.undef, V.undef, V.undef, V.undef, V.undef, V.undef, V.undef, V.undef, V.undef, V.undef, V.undef, V.undef, V.undef, V.undef, V.undef, V.undef, V.undef, V.undef, V.undef, V.undef, V.undef, V.undef, V.undef, V.undef, V.undef, V.undef, V.undef, V.undef, V.undef, V.undef, V.undef, V.undef, V.undef, V.undef, V.undef, V.undef, V.undef, V.undef, V.undef, V.undef, V.undef, V.undef, V.undef, V.undef, V.undef, V.undef, V.undef, V.undef, V.undef, V.undef, V.undef, V.undef, V.undef, V.undef, V.undef, V.undef, V.undef, V.undef, V.undef, V.undef, V.undef, V.undef, V.undef, V.undef, V.undef, V.undef, V.undef, V.undef, V.undef, V.undef, V.undef, V.undef, V.undef, V.undef, V.undef, V.undef, V.undef, V.undef, V.undef, V.undef, V.undef, V.undef, V.undef, V.undef, V.undef, V.undef, V.undef, V.undef, V.undef, V.undef, V.undef, V.undef, V.undef, V.undef, V.undef, V.undef, V.undef, V.undef, V.undef, V.undef, V.undef, V.undef, V.undef, V.undef, V.undef, V.undef, V.undef, V.undef, V.undef, V.undef, V.undef, V.undef, V.undef, V.undef, V.undef] [Blk.cells [V.imm false (3 : Nat) (List.map ePk ps)] (24 : Nat)]))) (by kernel_rfl) ?_
    exact ⟨⟨trivial, ⟨congrArg V.bool (by (simp <;> omega)), trivial⟩⟩, ⟨rfl, rfl⟩⟩
  | k + 1, i, pr, h => by
    obtain ⟨pr', ih⟩ := loop4b ps sent extra got n hn hn2 hsl hsub k (i + 1) false (by omega)
    obtain ⟨p, hp⟩ : ∃ p, ps[i]? = some p := ⟨ps[i]'(by omega), List.getElem?_eq_getElem (by omega)⟩
    have hin := hsub p (List.mem_of_getElem? hp)
    have hh := has_yes sent p p (by omega) hin (pEq_refl p)
    clear hsub hin
    refine ⟨pr', ?_⟩
    refine loop_tree draws (kn := (keeps K4b)) (ke := (keeps KE4)) (
    .rw 8117 [] [(117, V.bool (decide ((↑i : Int) < (↑n : Int))), V.bool true)] <| .opt 118 (idx (List.map ePk ps) (↑i : Int)) (ePk p) <| .rw 8013 [] [(13, V.ptr (List.length [Blk.cells [V.imm false (3 : Nat) (List.map ePk ps)] (24 : Nat)]) (0 : Nat), V.ptr (1 : Nat) (0 : Nat))] <| .call 122 20 ([ePs sent, ePk p]) (V.bool true) <| .rw 8124 [] [(124, V.int IntKind.i64 (IntKind.wrap IntKind.i64 ((↑i : Int) + (1 : Int))), V.int IntKind.i64 (↑(i + (1 : Nat)) : Int))] <| .to 8116 ([.cut 1]) <| .ret (.normal, S4b ps sent false extra got [] n (i + (1 : Nat)))) (by kernel_rfl) ?_
    exact ⟨⟨trivial, ⟨congrArg V.bool (by (simp <;> omega)), trivial⟩⟩, ⟨(Go.Fw.idx_map _ hp), ⟨⟨trivial, ⟨by simp (disch := omega) only [List.length_cons, List.length_nil, Nat.zero_add], trivial⟩⟩, ⟨(hh), ⟨⟨trivial, ⟨by simp (disch := omega) only [Go.Fw.cast_succ, Go.Fw.wrap_i64], trivial⟩⟩, (ih)⟩⟩⟩⟩⟩
theorem loop4c (ps sent : List Pk) (extra got : Int) (m : Mv) (n : Nat) (hn : ps.length = n) (hn2 : n ≤ 4096) (hsl : sent.length ≤ 301) (hsub : ∀ p ∈ ps, p ∈ sent) : ∀ (k i : Nat) (pr : Bool), i + k = n → ∃ pr', LoopK C1 4 280 (keeps K4b) (S4b ps sent pr extra got [mvC m] n i) (.exit 3) (E4 ps sent pr' extra got [mvC m])
  | 0, i, pr, h => by
    obtain rfl : i = n := by omega
    refine ⟨pr, ?_⟩
    refine loop_tree draws (kn := (keeps K4b)) (ke := (keeps KE4)) (
    .rw 8117 [] [(117, V.bool (decide ((↑i : Int) < (↑i : Int))), V.bool false)] <| .ret ((Ex.exit (3 : Nat), St.mk [V.undef, V.undef, V.undef, V.ptr (0 : Nat) (0 : Nat), V.lin pr (30 : Nat) (3 : Nat) (List.map ePk sent), V.int IntKind.i64 extra, V.int IntKind.i64 got, V.undef, V.undef, V.undef, V.undef, V.undef, V.undef, V.undef, V.undef, V.undef, V.undef, V.undef, V.undef, V.undef, V.undef, V.undef, V.undef, V.undef, V.undef, V.undef, V.undef, V.undef, V.undef, V.undef, V.undef, V.undef, V.undef, V.undef, V.undef, V.undef, V.undef, V.undef, V.undef, V.undef, V.undef, V.undef, V.undef, V.undef, V.undef, V.undef, V.undef, V.undef, V.undef, V.undef, V.undef, V.undef, V.undef, V.undef, V.undef, V.undef, V.undef, V.undef, V.undef, V.undef, V.undef, V.undef, V.undef, V.undef, V.undef, V.undef, V.undef, V.undef, V.undef, V.undef, V.undef, V.undef, V.undef, V.undef, V.undef, V.undef, V.undef, V.undef, V.undef, V.undef, V.undef, V.undef, V.undef, V.undef, V.undef, V.undef, V.undef, V.undef, V.undef, V.undef, V.undef, V.undef, V.undef, V.undef, V.undef, V.undef, V.undef, V.undef, V.undef, V.undef, V.undef, V.undef, V.undef, V.undef, V.undef, V.undef, V.undef, V.undef, V.undef, V.undef, V.undef, V.undef, V.undef, V.undef, V.undef, V.undef, V.undef, V.undef, V.undef, V.undef, V.undef, V.undef, V.undef, V.undef, V.undef, V.undef, V.undef, V.undef, V.undef, V.undef, V.undef, V.undef, V.undef, V.undef, V.undef] [Blk.cells [V.imm false (3 : Nat) (List.map ePk ps)] (24 : Nat), Blk.cells [V.int IntKind.u8 (Mv.k m), V.int IntKind.i64 (Mv.f m), V.int IntKind.i64 (Mv.t m), V.str (Mv.s m)] (40 : Nat)]))) (by kernel_rfl) ?_
    exact ⟨⟨trivial, ⟨congrArg V.bool (by (simp <;> omega)), trivial⟩⟩, ⟨rfl, rfl⟩⟩
  | k + 1, i, pr, h => by
    obtain ⟨pr', ih⟩ := loop4c ps sent extra got m n hn hn2 hsl hsub k (i + 1) false (by omega)
    obtain ⟨p, hp⟩ : ∃ p, ps[i]? = some p := ⟨ps[i]'(by omega), List.getElem?_eq_getElem (by omega)⟩
    have hin := hsub p (List.mem_of_getElem? hp)
    have hh := has_yes sent p p (by omega) hin (pEq_refl p)
    clear hsub hin
    refine ⟨pr', ?_⟩
    refine loop_tree draws (kn := (keeps K4b)) (ke := (keeps KE4)) (
    .rw 8117 [] [(117, V.bool (decide ((↑i : Int) < (↑n : Int))), V.bool true)] <| .opt 118 (idx (List.map ePk ps) (↑i : Int)) (ePk p) <| .rw 8013 [] [(13, V.ptr (List.length [Blk.cells [V.imm false (3 : Nat) (List.map ePk ps)] (24 : Nat), Blk.cells [V.int IntKind.u8 (Mv.k m), V.int IntKind.i64 (Mv.f m), V.int IntKind.i64 (Mv.t m), V.str (Mv.s m)] (40 : Nat)]) (0 : Nat), V.ptr ((1 : Nat) + (1 : Nat)) (0 : Nat))] <| .call 122 20 ([ePs sent, ePk p]) (V.bool true) <| .rw 8124 [] [(124, V.int IntKind.i64 (IntKind.wrap IntKind.i64 ((↑i : Int) + (1 : Int))), V.int IntKind.i64 (↑(i + (1 : Nat)) : Int))] <| .to 8116 ([.cut 2]) <| .ret (.normal, S4b ps sent false extra got [mvC m] n (i + (1 : Nat)))) (by kernel_rfl) ?_
    exact ⟨⟨trivial, ⟨congrArg V.bool (by (simp <;> omega)), trivial⟩⟩, ⟨(Go.Fw.idx_map _ hp), ⟨⟨trivial, ⟨by simp (disch := omega) only [List.length_cons, List.length_nil, Nat.zero_add], trivial⟩⟩, ⟨(hh), ⟨⟨trivial, ⟨by simp (disch := omega) only [Go.Fw.cast_succ, Go.Fw.wrap_i64], trivial⟩⟩, (ih)⟩⟩⟩⟩⟩
theorem only_a (ms : List Mv) (hms : ms.length * 40 ≤ 2 ^ 47) (ps sent : List Pk) (pr : Bool) (extra got : Int) (hv : Inv4 ps sent extra got 301) (h1 : LoopK C1 4 56 (keeps K4) (S4 [] (eSent true []) 0 0 ms ms.length 0) (.exit 0) (E4 ps sent pr extra got [])) : Sp C1 4 [.imm false 4 (ms.map eMv)] (.bool true) := by
  have hl := okNet_len hv.ok
  have hs := hv.len
  have hnum := hv.num
  have hex := hv.ex
  have hgo := hv.go
  obtain ⟨pr', h2⟩ := loop4b ps sent extra got ps.length rfl hl hs hv.sub ps.length 0 pr (by omega)
  clear hv
  refine sp_tree draws (dm := []) (fs := []) (
    .call 14 16 ([]) (V.bool true) <| .to 8016 ([.put 16 (.agg [.imm 3])]) <| .to 8004 ([.put 4 (.of (.lin 30 3))]) <| .rw 8018 [] [(18, V.int IntKind.i64 (↑(List.length (List.map eMv ms)) : Int), V.int IntKind.i64 (↑(List.length ms) : Int))] <| .loop 56 (keeps K4) (S4 [] (eSent true []) (0 : Int) (0 : Int) ms (List.length ms) (0 : Nat)) (Ex.exit (0 : Nat)) (E4 ps sent pr extra got []) <| .rw 8115 [] [(115, V.int IntKind.i64 (↑(List.length (List.map ePk ps)) : Int), V.int IntKind.i64 (↑(List.length ps) : Int))] <| .loop 280 (keeps K4b) (S4b ps sent pr extra got [] (List.length ps) (0 : Nat)) (Ex.exit (3 : Nat)) (E4 ps sent pr' extra got []) <| .rw 8127 [] [(127, V.int IntKind.i64 (↑(List.length (List.map ePk ps)) : Int), V.int IntKind.i64 (↑(List.length ps) : Int))] <| .rw 8129 [] [(129, V.int IntKind.i64 (IntKind.wrap IntKind.i64 ((↑(List.length ps) : Int) + got)), V.int IntKind.i64 ((↑(List.length ps) : Int) + got))] <| .rw 8131 [] [(131, V.int IntKind.i64 (↑(List.length (List.map ePk sent)) : Int), V.int IntKind.i64 (↑(List.length sent) : Int))] <| .rw 8133 [] [(133, V.int IntKind.i64 (IntKind.wrap IntKind.i64 ((↑(List.length sent) : Int) + extra)), V.int IntKind.i64 ((↑(List.length sent) : Int) + extra))] <| .rw 8134 [] [(134, V.bool ((↑(List.length ps) : Int) + got == (↑(List.length sent) : Int) + extra), V.bool true)] <| .ret (V.bool true)) (by kernel_rfl) ?_
  exact ⟨(Go.Fw.lives_sp), ⟨⟨trivial, ⟨by simp (disch := omega) only [List.length_map], trivial⟩⟩, ⟨(h1), ⟨⟨trivial, ⟨by simp (disch := omega) only [List.length_map], trivial⟩⟩, ⟨(h2), ⟨⟨trivial, ⟨by simp (disch := omega) only [List.length_map], trivial⟩⟩, ⟨⟨trivial, ⟨by simp (disch := omega) only [Go.Fw.wrap_i64], trivial⟩⟩, ⟨⟨trivial, ⟨by simp (disch := omega) only [List.length_map], trivial⟩⟩, ⟨⟨trivial, ⟨by simp (disch := omega) only [Go.Fw.wrap_i64], trivial⟩⟩, ⟨⟨trivial, ⟨congrArg V.bool (by (simp <;> omega)), trivial⟩⟩, rfl⟩⟩⟩⟩⟩⟩⟩⟩⟩⟩
theorem only_b (ms : List Mv) (hms : ms.length * 40 ≤ 2 ^ 47) (ps sent : List Pk) (pr : Bool) (extra got : Int) (m : Mv) (hv : Inv4 ps sent extra got 301) (h1 : LoopK C1 4 56 (keeps K4) (S4 [] (eSent true []) 0 0 ms ms.length 0) (.exit 0) (E4 ps sent pr extra got [mvC m])) : Sp C1 4 [.imm false 4 (ms.map eMv)] (.bool true) := by
  have hl := okNet_len hv.ok
  have hs := hv.len
  have hnum := hv.num
  have hex := hv.ex
  have hgo := hv.go
  obtain ⟨pr', h2⟩ := loop4c ps sent extra got m ps.length rfl hl hs hv.sub ps.length 0 pr (by omega)
  clear hv
  refine sp_tree draws (dm := []) (fs := []) (
    .call 14 16 ([]) (V.bool true) <| .to 8016 ([.put 16 (.agg [.imm 3])]) <| .to 8004 ([.put 4 (.of (.lin 30 3))]) <| .rw 8018 [] [(18, V.int IntKind.i64 (↑(List.length (List.map eMv ms)) : Int), V.int IntKind.i64 (↑(List.length ms) : Int))] <| .loop 56 (keeps K4) (S4 [] (eSent true []) (0 : Int) (0 : Int) ms (List.length ms) (0 : Nat)) (Ex.exit (0 : Nat)) (E4 ps sent pr extra got [mvC m]) <| .rw 8115 [] [(115, V.int IntKind.i64 (↑(List.length (List.map ePk ps)) : Int), V.int IntKind.i64 (↑(List.length ps) : Int))] <| .loop 280 (keeps K4b) (S4b ps sent pr extra got [mvC m] (List.length ps) (0 : Nat)) (Ex.exit (3 : Nat)) (E4 ps sent pr' extra got [mvC m]) <| .rw 8127 [] [(127, V.int IntKind.i64 (↑(List.length (List.map ePk ps)) : Int), V.int IntKind.i64 (↑(List.length ps) : Int))] <| .rw 8129 [] [(129, V.int IntKind.i64 (IntKind.wrap IntKind.i64 ((↑(List.length ps) : Int) + got)), V.int IntKind.i64 ((↑(List.length ps) : Int) + got))] <| .rw 8131 [] [(131, V.int IntKind.i64 (↑(List.length (List.map ePk sent)) : Int), V.int IntKind.i64 (↑(List.length sent) : Int))] <| .rw 8133 [] [(133, V.int IntKind.i64 (IntKind.wrap IntKind.i64 ((↑(List.length sent) : Int) + extra)), V.int IntKind.i64 ((↑(List.length sent) : Int) + extra))] <| .rw 8134 [] [(134, V.bool ((↑(List.length ps) : Int) + got == (↑(List.length sent) : Int) + extra), V.bool true)] <| .ret (V.bool true)) (by kernel_rfl) ?_
  exact ⟨(Go.Fw.lives_sp), ⟨⟨trivial, ⟨by simp (disch := omega) only [List.length_map], trivial⟩⟩, ⟨(h1), ⟨⟨trivial, ⟨by simp (disch := omega) only [List.length_map], trivial⟩⟩, ⟨(h2), ⟨⟨trivial, ⟨by simp (disch := omega) only [List.length_map], trivial⟩⟩, ⟨⟨trivial, ⟨by simp (disch := omega) only [Go.Fw.wrap_i64], trivial⟩⟩, ⟨⟨trivial, ⟨by simp (disch := omega) only [List.length_map], trivial⟩⟩, ⟨⟨trivial, ⟨by simp (disch := omega) only [Go.Fw.wrap_i64], trivial⟩⟩, ⟨⟨trivial, ⟨congrArg V.bool (by (simp <;> omega)), trivial⟩⟩, rfl⟩⟩⟩⟩⟩⟩⟩⟩⟩⟩
theorem only_sp (ms : List Mv) (hms : ms.length * 40 ≤ 2 ^ 47) (hk : ∀ m ∈ ms, 0 ≤ m.k) : Sp C1 4 [.imm false 4 (ms.map eMv)] (.bool true) := by
  obtain ⟨ps, sent, pr, extra, got, H, h1, hv, hH⟩ := loop4 ms ms.length rfl hk ms.length 0 [] [] true 0 0 (by omega) (by omega) ⟨by rfl, by simp, by simp, by omega, by omega, by simp⟩
  rcases hH with rfl | ⟨m, rfl⟩
  · exact only_a ms hms ps sent pr extra got hv h1
  · exact only_b ms hms ps sent pr extra got m hv h1
theorem mv_of {n : Nat} {x : V} (h : TypE Try.prog (TypC Try.prog (n + 1)) 40 x) : ∃ p : Mv, x = eMv p ∧ 0 ≤ p.k := by
  obtain ⟨cs, rfl, hl, hc⟩ := typ_agg (ts := [5, 3, 3, 9]) (by kernel_rfl) (by kernel_rfl) h
  match cs, hl with
  | [c0, c1, c2, c3], _ =>
    obtain ⟨k, rfl, hk⟩ := typC_int (k := .u8) Try.underlying5 (hc 0 c0 5 rfl rfl)
    obtain ⟨f, rfl, _⟩ := typC_int (k := .i64) Try.underlying3 (hc 1 c1 3 rfl rfl)
    obtain ⟨t, rfl, _⟩ := typC_int (k := .i64) Try.underlying3 (hc 2 c2 3 rfl rfl)
    obtain ⟨s, rfl, _⟩ := typC_str Try.underlying9 (hc 3 c3 9 rfl rfl)
    refine ⟨⟨k, f, t, s⟩, rfl, ?_⟩
    unfold Lit.wf at hk
    dsimp only at hk ⊢
    simp [IntKind.min, IntKind.max, IntKind.signed, IntKind.bits] at hk
    omega
theorem only_typed (x0 : V) (h0 : TypE Try.prog (TypC Try.prog 8) 38 x0) : Sp C1 4 [x0] (.bool true) := by
  have ha : isAggT Try.prog 38 = some false := by kernel_rfl
  unfold TypE at h0
  rw [ha] at h0
  dsimp only at h0
  unfold TypC at h0
  rw [Try.underlying38] at h0
  obtain ⟨xs, rfl, hb, hx⟩ := h0
  have : ∀ l : List V, (∀ x ∈ l, ∃ p, x = eMv p ∧ 0 ≤ p.k) → ∃ ps : List Mv, l = ps.map eMv ∧ ∀ m ∈ ps, 0 ≤ m.k := by
    intro l hl
    induction l with
    | nil => exact ⟨[], rfl, by simp⟩
    | cons x l ih =>
      obtain ⟨p, rfl, hp⟩ := hl x (by simp)
      obtain ⟨ps, rfl, hps⟩ := ih (fun x hx => hl x (by simp [hx]))
      exact ⟨p :: ps, rfl, by simp; exact ⟨hp, hps⟩⟩
  obtain ⟨ps, rfl, hps⟩ := this xs (fun x hm => mv_of (hx x hm))
  have e1 : Try.prog.bytesOf 40 = 40 := by kernel_rfl
  have e2 : Try.prog.cellsOf 40 = 4 := by kernel_rfl
  rw [e1] at hb
  rw [e2]
  have hr : reachBytes ≤ 2 ^ 47 := by decide
  exact only_sp ps (by rw [List.length_map] at hb; omega) hps
end Go.Fw
/- Net: NetFull. -/
set_option maxHeartbeats 20000000
namespace Go.Fw
open Go.Proofs
theorem full_range (f t : Int) (s : ByteArray) (h : okN f = false ∨ okN t = false) : Sp C1 6 [.int .i64 f, .int .i64 t, .str s] (.bool true) := by
  have h1 := send_range [] f t s rfl h
  refine sp_tree draws (dm := []) (fs := []) (
    .call 19 16 ([]) (V.bool true) <| .to 8022 ([.put 22 (.agg [.imm 3])]) <| .call 26 8 ([eNet [], V.int IntKind.i64 f, V.int IntKind.i64 t, V.str s]) (V.tup [eNet [], V.int IntKind.i64 (2 : Int)]) <| .ret (V.bool true)) (by kernel_rfl) ?_
  exact ⟨(Go.Fw.lives_sp), ⟨(h1), rfl⟩⟩
theorem full_long (f t : Int) (s : ByteArray) (hf : okN f = true) (ht : okN t = true) (hs : 65536 < s.size) : Sp C1 6 [.int .i64 f, .int .i64 t, .str s] (.bool true) := by
  have h1 := send_long [] f t s rfl hf ht hs
  refine sp_tree draws (dm := []) (fs := []) (
    .call 19 16 ([]) (V.bool true) <| .to 8022 ([.put 22 (.agg [.imm 3])]) <| .call 26 8 ([eNet [], V.int IntKind.i64 f, V.int IntKind.i64 t, V.str s]) (V.tup [eNet [], V.int IntKind.i64 (4 : Int)]) <| .ret (V.bool true)) (by kernel_rfl) ?_
  exact ⟨(Go.Fw.lives_sp), ⟨(h1), rfl⟩⟩
theorem flat_zP (n : Nat) : (List.replicate n [V.int .i64 0, V.int .i64 0, V.str ByteArray.empty]).flatten = cellsP (List.replicate n pZ) := by
  induction n with
  | zero => rfl
  | succ n ih => rw [List.replicate_succ, List.flatten_cons, ih, List.replicate_succ, cellsP_cons]; rfl
theorem init6 (p : Pk) (n : Nat) : (List.replicate n [V.int .i64 0, V.int .i64 0, V.str (ByteArray.mk #[])]).flatten = cellsP (List.replicate 0 p ++ List.replicate (n - 0) pZ) := by
  rw [List.replicate_zero, List.nil_append, Nat.sub_zero]; exact flat_zP n
theorem set6 (p : Pk) (n i : Nat) (hi : i < n) : setAt (cellsP (List.replicate i p ++ List.replicate (n - i) pZ)) (i * 3) [.int .i64 p.f, .int .i64 p.t, .str p.s] = cellsP (List.replicate (i + 1) p ++ List.replicate (n - (i + 1)) pZ) := by
  rw [setAt_eq _ _ _ (by rw [cellsP_len]; simp; omega), cellsP_take, List.length_cons, List.length_cons, List.length_cons, List.length_nil, show i * 3 + (0 + 1 + 1 + 1) = (i + 1) * 3 by omega, cellsP_drop]
  have e1 : (List.replicate i p ++ List.replicate (n - i) pZ).take i = List.replicate i p := by rw [List.take_append_of_le_length (by simp)]; simp
  have e2 : (List.replicate i p ++ List.replicate (n - i) pZ).drop (i + 1) = List.replicate (n - (i + 1)) pZ := by
    rw [List.drop_append]
    simp
    omega
  rw [e1, e2, show ([V.int .i64 p.f, .int .i64 p.t, .str p.s] : List V) = cellsP [p] from rfl, ← cellsP_app, ← cellsP_app]
  congr 2
  rw [List.replicate_succ']
theorem len6 (p : Pk) (n i : Nat) (hi : i ≤ n) {cs : List V} (h : cs = cellsP (List.replicate i p ++ List.replicate (n - i) pZ)) : cs.length = n * 3 := by
  rw [h, cellsP_len]; simp; omega
abbrev K6 : List Nat := [0, 1, 2, 7, 9, 38, 39, 40]
abbrev KE6 : List Nat := [0, 1, 2, 7, 9]
abbrev H6 (p : Pk) (cs : List V) (n : Nat) : List Blk := [.cells [.imm false 3 [ePk p]] 24, .cells cs 30, .cells [.own 1 0 n n] 24]
abbrev S6 (p : Pk) (cs : List V) (n i : Nat) : St := mkSt 98 [(0, .int .i64 p.f), (1, .int .i64 p.t), (2, .str p.s), (7, .ptr 0 0), (9, .ptr 2 0), (38, .own 1 0 n n), (39, .int .i64 (n : Int)), (40, .int .i64 (i : Int))] (H6 p cs n)
abbrev E6 (p : Pk) (cs : List V) (n : Nat) : St := mkSt 98 [(0, .int .i64 p.f), (1, .int .i64 p.t), (2, .str p.s), (7, .ptr 0 0), (9, .ptr 2 0)] (H6 p cs n)
theorem loop6 (p : Pk) (n : Nat) (hn : n ≤ 4096) (ce : List V) (hce : ce = cellsP (List.replicate n p ++ List.replicate (n - n) pZ)) : ∀ (k i : Nat) (cs : List V), i + k = n → cs = cellsP (List.replicate i p ++ List.replicate (n - i) pZ) →
    LoopK C1 6 64 (keeps K6) (S6 p cs n i) (.exit 0) (E6 p ce n)
  | 0, i, cs, h, hc => by
    obtain rfl : i = n := by omega
    obtain rfl : cs = ce := by rw [hc, hce]
    refine loop_tree draws (kn := (keeps K6)) (ke := (keeps KE6)) (
    .rw 8041 [] [(41, V.bool (decide ((↑i : Int) < (↑i : Int))), V.bool false)] <| .ret ((Ex.exit (0 : Nat), St.mk [V.int IntKind.i64 (Pk.f p), V.int IntKind.i64 (Pk.t p), V.str (Pk.s p), V.undef, V.undef, V.undef, V.undef, V.ptr (0 : Nat) (0 : Nat), V.undef, V.ptr (2 : Nat) (0 : Nat), V.undef, V.undef, V.undef, V.undef, V.undef, V.undef, V.undef, V.undef, V.undef, V.undef, V.undef, V.undef, V.undef, V.undef, V.undef, V.undef, V.undef, V.undef, V.undef, V.undef, V.undef, V.undef, V.undef, V.undef, V.undef, V.undef, V.undef, V.undef, V.undef, V.undef, V.undef, V.undef, V.undef, V.undef, V.undef, V.undef, V.undef, V.undef, V.undef, V.undef, V.undef, V.undef, V.undef, V.undef, V.undef, V.undef, V.undef, V.undef, V.undef, V.undef, V.undef, V.undef, V.undef, V.undef, V.undef, V.undef, V.undef, V.undef, V.undef, V.undef, V.undef, V.undef, V.undef, V.undef, V.undef, V.undef, V.undef, V.undef, V.undef, V.undef, V.undef, V.undef, V.undef, V.undef, V.undef, V.undef, V.undef, V.undef, V.undef, V.undef, V.undef, V.undef, V.undef, V.undef, V.undef, V.undef, V.undef, V.undef] [Blk.cells [V.imm false (3 : Nat) [V.agg [V.int IntKind.i64 (Pk.f p), V.int IntKind.i64 (Pk.t p), V.str (Pk.s p)]]] (24 : Nat), Blk.cells cs (30 : Nat), Blk.cells [V.own (1 : Nat) (0 : Nat) i i] (24 : Nat)]))) (by kernel_rfl) ?_
    exact ⟨⟨trivial, ⟨congrArg V.bool (by (simp <;> omega)), trivial⟩⟩, ⟨rfl, rfl⟩⟩
  | k + 1, i, cs, h, hc => by
    have ih := fun cs => loop6 p n hn ce hce k (i + 1) cs (by omega)
    have hl := len6 p n i (by omega) hc
    have hs := set6 p n i (by omega)
    rw [← hc] at hs
    refine loop_tree draws (kn := (keeps K6)) (ke := (keeps KE6)) (
    .rw 8041 [] [(41, V.bool (decide ((↑i : Int) < (↑n : Int))), V.bool true)] <| .chk 50 (decide ((0 : Int) ≤ (↑i : Int) ∧ (↑i : Int) < (↑n : Int))) <| .rw 8050 [] [(50, V.ptr (1 : Nat) ((0 : Nat) + Int.toNat (↑i : Int) * (3 : Nat)), V.ptr (1 : Nat) (i * (3 : Nat)))] <| .chk 3050 (decide (i * (3 : Nat) + (3 : Nat) ≤ List.length cs)) <| .rw 8051 [] [(51, V.int IntKind.i64 (IntKind.wrap IntKind.i64 ((↑i : Int) + (1 : Int))), V.int IntKind.i64 (↑(i + (1 : Nat)) : Int))] <| .ret (.normal, S6 p (List.set (List.set (List.set cs (i * (3 : Nat)) (V.int IntKind.i64 (Pk.f p))) (i * (3 : Nat) + (1 : Nat)) (V.int IntKind.i64 (Pk.t p))) (i * (3 : Nat) + (1 : Nat) + (1 : Nat)) (V.str (Pk.s p))) n (i + (1 : Nat)))) (by kernel_rfl) ?_
    exact ⟨⟨trivial, ⟨congrArg V.bool (by (simp <;> omega)), trivial⟩⟩, ⟨by (simp <;> omega), ⟨⟨trivial, ⟨by simp (disch := omega) only [Int.toNat_natCast, Nat.zero_add], trivial⟩⟩, ⟨by (simp_all <;> omega), ⟨⟨trivial, ⟨by simp (disch := omega) only [Go.Fw.cast_succ, Go.Fw.wrap_i64], trivial⟩⟩, (ih _ hs)⟩⟩⟩⟩⟩
@[irreducible] def reps (p : Pk) : List Pk := List.replicate 4096 p
theorem reps_len (p : Pk) : (reps p).length = 4096 := by unfold reps; exact List.length_replicate
theorem reps_at (p : Pk) : (reps p)[0]? = some p := by unfold reps; rw [List.getElem?_replicate, if_pos (by omega)]
theorem reps_end (p : Pk) : cellsP (reps p) = cellsP (List.replicate 4096 p ++ List.replicate (4096 - 4096) pZ) := by
  unfold reps
  rw [Nat.sub_self, List.replicate_zero, List.append_nil]
theorem chunkP : ∀ (ps : List Pk) (r : List V), chunk 3 ps.length (cellsP ps ++ r) = ps.map ePk
  | [], r => by rfl
  | p :: ps, r => by
    rw [cellsP_cons]
    show V.agg [.int .i64 p.f, .int .i64 p.t, .str p.s] :: chunk 3 ps.length (cellsP ps ++ r) = _
    rw [chunkP ps r]; rfl
theorem chunk6 (p : Pk) : chunk 3 4096 ((cellsP (reps p)).drop 0) = (reps p).map ePk := by
  have := chunkP (reps p) []
  rw [reps_len, List.append_nil] at this
  rw [List.drop_zero]
  exact this
theorem chunk6' (p : Pk) : chunk 3 4096 (cellsP (reps p)) = (reps p).map ePk := by
  have := chunk6 p
  rw [List.drop_zero] at this
  exact this
theorem told6 (p : Pk) : ((cellsP (reps p)).all flat1 && decide (0 + 4096 * 3 ≤ (cellsP (reps p)).length)) = true := by
  rw [Bool.and_eq_true, decide_eq_true_eq, cellsP_len, reps_len]
  refine ⟨?_, by omega⟩
  rw [List.all_eq_true]
  intro x hx
  unfold cellsP at hx
  obtain ⟨y, hy, hx⟩ := List.mem_flatMap.1 hx
  obtain ⟨q, _, rfl⟩ := List.mem_map.1 hy
  simp only [V.cells, List.mem_cons, List.not_mem_nil, or_false] at hx
  rcases hx with rfl | rfl | rfl <;> rfl
theorem reps_ok {p : Pk} (h : badP p = false) : okNet (reps p) = true := okNet_of (by rw [reps_len]; omega) (fun q hq => by
  unfold reps at hq
  rw [List.eq_of_mem_replicate hq]; exact h)
theorem full_ok (f t : Int) (s : ByteArray) (hf : okN f = true) (ht : okN t = true) (hs : s.size ≤ 65536) : Sp C1 6 [.int .i64 f, .int .i64 t, .str s] (.bool true) := by
  have h1 := send_ok [] f t s rfl hf ht hs (by decide)
  have h2 := fun cs => loop6 ⟨f, t, s⟩ 4096 (by omega) (cellsP (reps ⟨f, t, s⟩)) (reps_end _) 4096 0 cs (by omega)
  have hi := init6 ⟨f, t, s⟩ 4096
  have hok : okNet (reps ⟨f, t, s⟩) = true := reps_ok (by unfold badP; simp [hf, ht]; omega)
  have hok2 := okNet_erase (i := 0) hok
  have hl := reps_len ⟨f, t, s⟩
  have h3 := send_full (reps ⟨f, t, s⟩) f t s hok hf ht hs (by omega)
  have h4 := copy_full (reps ⟨f, t, s⟩) 0 ⟨f, t, s⟩ hok (reps_at _) (by omega)
  have h5 := drop_ok (reps ⟨f, t, s⟩) 0 ⟨f, t, s⟩ hok (reps_at _)
  have hl2 : ((reps ⟨f, t, s⟩).eraseIdx 0).length = 4095 := by rw [List.length_eraseIdx_of_lt (by omega), hl]
  have h6 := send_ok ((reps ⟨f, t, s⟩).eraseIdx 0) f t s hok2 hf ht hs (by omega)
  have ht6 := told6 ⟨f, t, s⟩
  refine sp_tree draws (dm := []) (fs := []) (
    .call 19 16 ([]) (V.bool true) <| .to 8022 ([.put 22 (.agg [.imm 3])]) <| .call 26 8 ([eNet [], V.int IntKind.i64 f, V.int IntKind.i64 t, V.str s]) (V.tup [eNet ([] ++ [Pk.mk f t s]), V.int IntKind.i64 (0 : Int)]) <| .rw 8035 [] [(35, V.own (List.length [Blk.cells [V.imm false (3 : Nat) [V.agg [V.int IntKind.i64 f, V.int IntKind.i64 t, V.str s]]] (24 : Nat)]) (0 : Nat) (4096 : Nat) (4096 : Nat), V.own (1 : Nat) (0 : Nat) (4096 : Nat) (4096 : Nat))] <| .rw 8009 [] [(9, V.ptr (List.length (Prod.snd (V.agg (setAt (List.map ofVal1 (Array.toList #[Value.slice none (0 : Nat) (0 : Nat)])) (Field.offset #[Field.mk "Packets" (22 : Nat) (0 : Nat) false "" "" (0 : Nat)][(0 : Nat)]) (V.cells (St.peek (St.mk [V.int IntKind.i64 f, V.int IntKind.i64 t, V.str s, V.undef, V.undef, V.undef, V.bool false, V.ptr (0 : Nat) (0 : Nat), V.int IntKind.i64 (0 : Int), V.undef, V.undef, V.undef, V.undef, V.undef, V.undef, V.undef, V.undef, V.undef, V.undef, V.bool true, V.bool false, V.tup [V.agg [V.imm false (3 : Nat) [V.agg [V.int IntKind.i64 f, V.int IntKind.i64 t, V.str s]]], V.int IntKind.i64 (0 : Int)], V.agg [V.imm false (3 : Nat) []], V.int IntKind.i64 f, V.int IntKind.i64 t, V.str s, V.tup [V.agg [V.imm false (3 : Nat) [V.agg [V.int IntKind.i64 f, V.int IntKind.i64 t, V.str s]]], V.int IntKind.i64 (0 : Int)], V.agg [V.imm false (3 : Nat) [V.agg [V.int IntKind.i64 f, V.int IntKind.i64 t, V.str s]]], V.int IntKind.i64 (0 : Int), V.int IntKind.i64 (0 : Int), V.bool false, V.undef, V.undef, V.undef, V.undef, V.own (1 : Nat) (0 : Nat) (4096 : Nat) (4096 : Nat), V.undef, V.undef, V.undef, V.undef, V.undef, V.undef, V.undef, V.undef, V.undef, V.undef, V.undef, V.undef, V.undef, V.undef, V.undef, V.undef, V.undef, V.undef, V.undef, V.undef, V.undef, V.undef, V.undef, V.undef, V.undef, V.undef, V.undef, V.undef, V.undef, V.undef, V.undef, V.undef, V.undef, V.undef, V.undef, V.undef, V.undef, V.undef, V.undef, V.undef, V.undef, V.undef, V.undef, V.undef, V.undef, V.undef, V.undef, V.undef, V.undef, V.undef, V.undef, V.undef, V.undef, V.undef, V.undef, V.undef, V.undef, V.undef, V.undef, V.undef, V.undef, V.undef] [Blk.cells [V.imm false (3 : Nat) [V.agg [V.int IntKind.i64 f, V.int IntKind.i64 t, V.str s]]] (24 : Nat), Blk.cells (List.flatten (List.replicate (4096 : Nat) [V.int IntKind.i64 (0 : Int), V.int IntKind.i64 (0 : Int), V.str (ByteArray.mk #[])])) (30 : Nat)]) (Operand.tmp (35 : Nat))))), St.takeS (St.mk [V.int IntKind.i64 f, V.int IntKind.i64 t, V.str s, V.undef, V.undef, V.undef, V.bool false, V.ptr (0 : Nat) (0 : Nat), V.int IntKind.i64 (0 : Int), V.undef, V.undef, V.undef, V.undef, V.undef, V.undef, V.undef, V.undef, V.undef, V.undef, V.bool true, V.bool false, V.tup [V.agg [V.imm false (3 : Nat) [V.agg [V.int IntKind.i64 f, V.int IntKind.i64 t, V.str s]]], V.int IntKind.i64 (0 : Int)], V.agg [V.imm false (3 : Nat) []], V.int IntKind.i64 f, V.int IntKind.i64 t, V.str s, V.tup [V.agg [V.imm false (3 : Nat) [V.agg [V.int IntKind.i64 f, V.int IntKind.i64 t, V.str s]]], V.int IntKind.i64 (0 : Int)], V.agg [V.imm false (3 : Nat) [V.agg [V.int IntKind.i64 f, V.int IntKind.i64 t, V.str s]]], V.int IntKind.i64 (0 : Int), V.int IntKind.i64 (0 : Int), V.bool false, V.undef, V.undef, V.undef, V.undef, V.own (1 : Nat) (0 : Nat) (4096 : Nat) (4096 : Nat), V.undef, V.undef, V.undef, V.undef, V.undef, V.undef, V.undef, V.undef, V.undef, V.undef, V.undef, V.undef, V.undef, V.undef, V.undef, V.undef, V.undef, V.undef, V.undef, V.undef, V.undef, V.undef, V.undef, V.undef, V.undef, V.undef, V.undef, V.undef, V.undef, V.undef, V.undef, V.undef, V.undef, V.undef, V.undef, V.undef, V.undef, V.undef, V.undef, V.undef, V.undef, V.undef, V.undef, V.undef, V.undef, V.undef, V.undef, V.undef, V.undef, V.undef, V.undef, V.undef, V.undef, V.undef, V.undef, V.undef, V.undef, V.undef, V.undef, V.undef, V.undef, V.undef] [Blk.cells [V.imm false (3 : Nat) [V.agg [V.int IntKind.i64 f, V.int IntKind.i64 t, V.str s]]] (24 : Nat), Blk.cells (List.flatten (List.replicate (4096 : Nat) [V.int IntKind.i64 (0 : Int), V.int IntKind.i64 (0 : Int), V.str (ByteArray.mk #[])])) (30 : Nat)]) (Operand.tmp (35 : Nat)))).2) (0 : Nat), V.ptr (List.length (St.takeS (St.mk [V.int IntKind.i64 f, V.int IntKind.i64 t, V.str s, V.undef, V.undef, V.undef, V.bool false, V.ptr (0 : Nat) (0 : Nat), V.int IntKind.i64 (0 : Int), V.undef, V.undef, V.undef, V.undef, V.undef, V.undef, V.undef, V.undef, V.undef, V.undef, V.bool true, V.bool false, V.tup [V.agg [V.imm false (3 : Nat) [V.agg [V.int IntKind.i64 f, V.int IntKind.i64 t, V.str s]]], V.int IntKind.i64 (0 : Int)], V.agg [V.imm false (3 : Nat) []], V.int IntKind.i64 f, V.int IntKind.i64 t, V.str s, V.tup [V.agg [V.imm false (3 : Nat) [V.agg [V.int IntKind.i64 f, V.int IntKind.i64 t, V.str s]]], V.int IntKind.i64 (0 : Int)], V.agg [V.imm false (3 : Nat) [V.agg [V.int IntKind.i64 f, V.int IntKind.i64 t, V.str s]]], V.int IntKind.i64 (0 : Int), V.int IntKind.i64 (0 : Int), V.bool false, V.undef, V.undef, V.undef, V.undef, V.own (1 : Nat) (0 : Nat) (4096 : Nat) (4096 : Nat), V.undef, V.undef, V.undef, V.undef, V.undef, V.undef, V.undef, V.undef, V.undef, V.undef, V.undef, V.undef, V.undef, V.undef, V.undef, V.undef, V.undef, V.undef, V.undef, V.undef, V.undef, V.undef, V.undef, V.undef, V.undef, V.undef, V.undef, V.undef, V.undef, V.undef, V.undef, V.undef, V.undef, V.undef, V.undef, V.undef, V.undef, V.undef, V.undef, V.undef, V.undef, V.undef, V.undef, V.undef, V.undef, V.undef, V.undef, V.undef, V.undef, V.undef, V.undef, V.undef, V.undef, V.undef, V.undef, V.undef, V.undef, V.undef, V.undef, V.undef, V.undef, V.undef] [Blk.cells [V.imm false (3 : Nat) [V.agg [V.int IntKind.i64 f, V.int IntKind.i64 t, V.str s]]] (24 : Nat), Blk.cells (List.flatten (List.replicate (4096 : Nat) [V.int IntKind.i64 (0 : Int), V.int IntKind.i64 (0 : Int), V.str (ByteArray.mk #[])])) (30 : Nat)]) (Operand.tmp (35 : Nat))).2) (0 : Nat))] <| .rw 8037 [] [(37, V.ptr (List.length (St.h (St.mk [V.int IntKind.i64 f, V.int IntKind.i64 t, V.str s, V.undef, V.undef, V.undef, V.bool false, V.ptr (0 : Nat) (0 : Nat), V.int IntKind.i64 (0 : Int), V.undef, V.undef, V.undef, V.undef, V.undef, V.undef, V.undef, V.undef, V.undef, V.undef, V.bool true, V.bool false, V.tup [V.agg [V.imm false (3 : Nat) [V.agg [V.int IntKind.i64 f, V.int IntKind.i64 t, V.str s]]], V.int IntKind.i64 (0 : Int)], V.agg [V.imm false (3 : Nat) []], V.int IntKind.i64 f, V.int IntKind.i64 t, V.str s, V.tup [V.agg [V.imm false (3 : Nat) [V.agg [V.int IntKind.i64 f, V.int IntKind.i64 t, V.str s]]], V.int IntKind.i64 (0 : Int)], V.agg [V.imm false (3 : Nat) [V.agg [V.int IntKind.i64 f, V.int IntKind.i64 t, V.str s]]], V.int IntKind.i64 (0 : Int), V.int IntKind.i64 (0 : Int), V.bool false, V.undef, V.undef, V.undef, V.undef, V.own (1 : Nat) (0 : Nat) (4096 : Nat) (4096 : Nat), V.undef, V.undef, V.undef, V.undef, V.undef, V.undef, V.undef, V.undef, V.undef, V.undef, V.undef, V.undef, V.undef, V.undef, V.undef, V.undef, V.undef, V.undef, V.undef, V.undef, V.undef, V.undef, V.undef, V.undef, V.undef, V.undef, V.undef, V.undef, V.undef, V.undef, V.undef, V.undef, V.undef, V.undef, V.undef, V.undef, V.undef, V.undef, V.undef, V.undef, V.undef, V.undef, V.undef, V.undef, V.undef, V.undef, V.undef, V.undef, V.undef, V.undef, V.undef, V.undef, V.undef, V.undef, V.undef, V.undef, V.undef, V.undef, V.undef, V.undef, V.undef, V.undef] [Blk.cells [V.imm false (3 : Nat) [V.agg [V.int IntKind.i64 f, V.int IntKind.i64 t, V.str s]]] (24 : Nat), Blk.cells (List.flatten (List.replicate (4096 : Nat) [V.int IntKind.i64 (0 : Int), V.int IntKind.i64 (0 : Int), V.str (ByteArray.mk #[])])) (30 : Nat)]))) (0 : Nat), V.ptr ((1 : Nat) + (1 : Nat)) (0 : Nat))] <| .rw 8038 [] [(9, V.ptr (List.length (St.h (St.mk [V.int IntKind.i64 f, V.int IntKind.i64 t, V.str s, V.undef, V.undef, V.undef, V.bool false, V.ptr (0 : Nat) (0 : Nat), V.int IntKind.i64 (0 : Int), V.undef, V.undef, V.undef, V.undef, V.undef, V.undef, V.undef, V.undef, V.undef, V.undef, V.bool true, V.bool false, V.tup [V.agg [V.imm false (3 : Nat) [V.agg [V.int IntKind.i64 f, V.int IntKind.i64 t, V.str s]]], V.int IntKind.i64 (0 : Int)], V.agg [V.imm false (3 : Nat) []], V.int IntKind.i64 f, V.int IntKind.i64 t, V.str s, V.tup [V.agg [V.imm false (3 : Nat) [V.agg [V.int IntKind.i64 f, V.int IntKind.i64 t, V.str s]]], V.int IntKind.i64 (0 : Int)], V.agg [V.imm false (3 : Nat) [V.agg [V.int IntKind.i64 f, V.int IntKind.i64 t, V.str s]]], V.int IntKind.i64 (0 : Int), V.int IntKind.i64 (0 : Int), V.bool false, V.undef, V.undef, V.undef, V.undef, V.own (1 : Nat) (0 : Nat) (4096 : Nat) (4096 : Nat), V.undef, V.undef, V.undef, V.undef, V.undef, V.undef, V.undef, V.undef, V.undef, V.undef, V.undef, V.undef, V.undef, V.undef, V.undef, V.undef, V.undef, V.undef, V.undef, V.undef, V.undef, V.undef, V.undef, V.undef, V.undef, V.undef, V.undef, V.undef, V.undef, V.undef, V.undef, V.undef, V.undef, V.undef, V.undef, V.undef, V.undef, V.undef, V.undef, V.undef, V.undef, V.undef, V.undef, V.undef, V.undef, V.undef, V.undef, V.undef, V.undef, V.undef, V.undef, V.undef, V.undef, V.undef, V.undef, V.undef, V.undef, V.undef, V.undef, V.undef, V.undef, V.undef] [Blk.cells [V.imm false (3 : Nat) [V.agg [V.int IntKind.i64 f, V.int IntKind.i64 t, V.str s]]] (24 : Nat), Blk.cells (List.flatten (List.replicate (4096 : Nat) [V.int IntKind.i64 (0 : Int), V.int IntKind.i64 (0 : Int), V.str (ByteArray.mk #[])])) (30 : Nat)]))) (0 : Nat), V.ptr ((1 : Nat) + (1 : Nat)) (0 : Nat))] <| .loop 64 (keeps K6) (S6 (Pk.mk f t s) (List.flatten (List.replicate (4096 : Nat) [V.int IntKind.i64 (0 : Int), V.int IntKind.i64 (0 : Int), V.str (ByteArray.mk #[])])) (4096 : Nat) (0 : Nat)) (Ex.exit (0 : Nat)) (E6 (Pk.mk f t s) (cellsP (reps (Pk.mk f t s))) (4096 : Nat)) <| .tob 8053 (true) ([.frz 1 3 true []]) <| .rw 8054 [(2, [V.imm false (3 : Nat) (chunk (3 : Nat) (4096 : Nat) (List.drop (0 : Nat) (cellsP (reps (Pk.mk f t s)))))], [V.imm false (3 : Nat) (List.map ePk (reps (Pk.mk f t s)))])] [(53, V.agg [V.imm false (3 : Nat) (chunk (3 : Nat) (4096 : Nat) (List.drop (0 : Nat) (cellsP (reps (Pk.mk f t s)))))], V.agg [V.imm false (3 : Nat) (List.map ePk (reps (Pk.mk f t s)))])] <| .call 57 8 ([eNet (reps (Pk.mk f t s)), V.int IntKind.i64 f, V.int IntKind.i64 t, V.str s]) (V.tup [eNet (reps (Pk.mk f t s)), V.int IntKind.i64 (8 : Int)]) <| .rw 8011 [] [(11, V.ptr (List.length [Blk.cells [V.imm false (3 : Nat) [V.agg [V.int IntKind.i64 f, V.int IntKind.i64 t, V.str s]]] (24 : Nat), Blk.dead, Blk.cells [V.imm false (3 : Nat) (List.map ePk (reps (Pk.mk f t s)))] (24 : Nat)]) (0 : Nat), V.ptr ((1 : Nat) + (1 : Nat) + (1 : Nat)) (0 : Nat))] <| .call 62 14 ([eNet (reps (Pk.mk f t s)), V.int IntKind.i64 (↑(0 : Nat) : Int)]) (V.tup [eNet (reps (Pk.mk f t s)), V.int IntKind.i64 (8 : Int)]) <| .rw 8013 [] [(13, V.ptr (List.length [Blk.cells [V.imm false (3 : Nat) [V.agg [V.int IntKind.i64 f, V.int IntKind.i64 t, V.str s]]] (24 : Nat), Blk.dead, Blk.cells [V.imm false (3 : Nat) (List.map ePk (reps (Pk.mk f t s)))] (24 : Nat), Blk.cells [V.imm false (3 : Nat) (List.map ePk (reps (Pk.mk f t s)))] (24 : Nat)]) (0 : Nat), V.ptr ((1 : Nat) + (1 : Nat) + (1 : Nat) + (1 : Nat)) (0 : Nat))] <| .call 67 12 ([eNet (reps (Pk.mk f t s)), V.int IntKind.i64 (↑(0 : Nat) : Int)]) (V.tup [eNet (List.eraseIdx (reps (Pk.mk f t s)) (0 : Nat)), V.int IntKind.i64 (0 : Int)]) <| .rw 8015 [] [(15, V.ptr (List.length [Blk.cells [V.imm false (3 : Nat) [V.agg [V.int IntKind.i64 f, V.int IntKind.i64 t, V.str s]]] (24 : Nat), Blk.dead, Blk.cells [V.imm false (3 : Nat) (List.map ePk (reps (Pk.mk f t s)))] (24 : Nat), Blk.cells [V.imm false (3 : Nat) (List.map ePk (reps (Pk.mk f t s)))] (24 : Nat), Blk.cells [V.imm false (3 : Nat) (List.map ePk (reps (Pk.mk f t s)))] (24 : Nat)]) (0 : Nat), V.ptr ((1 : Nat) + (1 : Nat) + (1 : Nat) + (1 : Nat) + (1 : Nat)) (0 : Nat))] <| .call 75 8 ([eNet (List.eraseIdx (reps (Pk.mk f t s)) (0 : Nat)), V.int IntKind.i64 f, V.int IntKind.i64 t, V.str s]) (V.tup [eNet (List.eraseIdx (reps (Pk.mk f t s)) (0 : Nat) ++ [Pk.mk f t s]), V.int IntKind.i64 (0 : Int)]) <| .rw 8017 [] [(17, V.ptr (List.length [Blk.cells [V.imm false (3 : Nat) [V.agg [V.int IntKind.i64 f, V.int IntKind.i64 t, V.str s]]] (24 : Nat), Blk.dead, Blk.cells [V.imm false (3 : Nat) (List.map ePk (reps (Pk.mk f t s)))] (24 : Nat), Blk.cells [V.imm false (3 : Nat) (List.map ePk (reps (Pk.mk f t s)))] (24 : Nat), Blk.cells [V.imm false (3 : Nat) (List.map ePk (reps (Pk.mk f t s)))] (24 : Nat), Blk.cells [V.imm false (3 : Nat) (List.map ePk (List.eraseIdx (reps (Pk.mk f t s)) (0 : Nat)))] (24 : Nat)]) (0 : Nat), V.ptr ((1 : Nat) + (1 : Nat) + (1 : Nat) + (1 : Nat) + (1 : Nat) + (1 : Nat)) (0 : Nat))] <| .rw 8095 [] [(95, V.int IntKind.i64 (↑(List.length (List.map ePk (List.eraseIdx (reps (Pk.mk f t s)) (0 : Nat) ++ [Pk.mk f t s]))) : Int), V.int IntKind.i64 (↑(List.length (List.eraseIdx (reps (Pk.mk f t s)) (0 : Nat)) + (1 : Nat)) : Int))] <| .ret (V.bool true)) (by kernel_rfl) ?_
  exact ⟨(Go.Fw.lives_sp), ⟨(h1), ⟨⟨trivial, ⟨by simp (disch := omega) only [List.length_cons, List.length_nil, Nat.zero_add], trivial⟩⟩, ⟨⟨trivial, ⟨by simp (disch := omega) only [], trivial⟩⟩, ⟨⟨trivial, ⟨by simp (disch := omega) only [List.length_cons, List.length_nil, Nat.zero_add], trivial⟩⟩, ⟨⟨trivial, ⟨by simp (disch := omega) only [List.length_cons, List.length_nil, Nat.zero_add], trivial⟩⟩, ⟨(h2 _ hi), ⟨by rfl, ⟨⟨⟨by simp (disch := omega) only [Go.Fw.chunk6], trivial⟩, ⟨by simp (disch := omega) only [Go.Fw.chunk6], trivial⟩⟩, ⟨(h3), ⟨⟨trivial, ⟨by simp (disch := omega) only [List.length_cons, List.length_nil, Nat.zero_add], trivial⟩⟩, ⟨(h4), ⟨⟨trivial, ⟨by simp (disch := omega) only [List.length_cons, List.length_nil, Nat.zero_add], trivial⟩⟩, ⟨(h5), ⟨⟨trivial, ⟨by simp (disch := omega) only [List.length_cons, List.length_nil, Nat.zero_add], trivial⟩⟩, ⟨(h6), ⟨⟨trivial, ⟨by simp (disch := omega) only [List.length_cons, List.length_nil, Nat.zero_add], trivial⟩⟩, ⟨⟨trivial, ⟨by simp (disch := omega) only [List.length_map, List.length_append, List.length_cons, List.length_nil, Nat.zero_add], trivial⟩⟩, rfl⟩⟩⟩⟩⟩⟩⟩⟩⟩⟩⟩⟩⟩⟩⟩⟩⟩⟩
theorem full_typed (x0 x1 x2 : V) (h0 : TypE Try.prog (TypC Try.prog 8) 3 x0) (h1 : TypE Try.prog (TypC Try.prog 8) 3 x1) (h2 : TypE Try.prog (TypC Try.prog 8) 9 x2) : Sp C1 6 [x0, x1, x2] (.bool true) := by
  obtain ⟨f, rfl⟩ := int_of h0
  obtain ⟨t, rfl⟩ := int_of h1
  obtain ⟨s, rfl⟩ := str_of h2
  by_cases h : okN f = false ∨ okN t = false
  · exact full_range f t s h
  · have hf : okN f = true := by cases e : okN f <;> simp_all
    have ht : okN t = true := by cases e : okN t <;> simp_all
    by_cases hs : 65536 < s.size
    · exact full_long f t s hf ht hs
    · exact full_ok f t s hf ht (by omega)
end Go.Fw
