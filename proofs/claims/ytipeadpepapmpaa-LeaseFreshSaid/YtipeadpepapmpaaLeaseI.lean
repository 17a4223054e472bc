/- The four Lease laws, of typed values. -/
import Derived.Test.YtipeadpepapmpaaLeaseH
set_option linter.all false
set_option maxHeartbeats 20000000
namespace Go.Fw
open Go.Proofs

theorem typ_ints {P : Program} {n : Nat} {t e : TypeId} {k : IntKind} {c : V} (ht : P.underlying t = some (.slice e)) (he : P.underlying e = some (.int k)) (ha : isAggT P e = some false) (hc : P.cellsOf e = 1) (h : TypC P (n + 2) t c) :
    ∃ xs : List Int, c = .imm false 1 (xs.map (V.int k)) ∧ xs.length * P.bytesOf e ≤ reachBytes ∧ ∀ x ∈ xs, (Lit.int k x).wf = true := by
  unfold TypC at h
  rw [ht] at h
  obtain ⟨xs, rfl, hb, hx⟩ := h
  rw [hc]
  have each : ∀ x ∈ xs, ∃ z, x = V.int k z ∧ (Lit.int k z).wf = true := fun x hm => by
    have := hx x hm
    unfold TypE at this
    rw [ha] at this
    dsimp only at this
    unfold TypC at this
    rw [he] at this
    exact this
  have : ∀ l : List V, (∀ x ∈ l, ∃ z, x = V.int k z ∧ (Lit.int k z).wf = true) → ∃ zs : List Int, l = zs.map (V.int k) ∧ ∀ z ∈ zs, (Lit.int k z).wf = true := by
    intro l hl
    induction l with
    | nil => exact ⟨[], rfl, fun z hz => by cases hz⟩
    | cons x l ih =>
      obtain ⟨z, rfl, hz⟩ := hl x (by simp)
      obtain ⟨zs, rfl, hzs⟩ := ih (fun x hx => hl x (by simp [hx]))
      exact ⟨z :: zs, rfl, fun y hy => by rcases List.mem_cons.1 hy with rfl | hy; exact hz; exact hzs y hy⟩
  obtain ⟨zs, rfl, hzs⟩ := this xs each
  exact ⟨zs, rfl, by simpa using hb, hzs⟩
theorem typ_int {P : Program} {n : Nat} {t : TypeId} {k : IntKind} {x : V} (ht : P.underlying t = some (.int k)) (ha : isAggT P t = some false) (h : TypE P (TypC P (n + 1)) t x) : ∃ z, x = .int k z ∧ (Lit.int k z).wf = true := by
  unfold TypE at h
  rw [ha] at h
  dsimp only at h
  unfold TypC at h
  rw [ht] at h
  exact h
theorem typ_agg {P : Program} {n : Nat} {t : TypeId} {ts : List TypeId} {x : V} (hf : flatT P 20 t = some ts) (ha : isAggT P t = some true) (h : TypE P (TypC P n) t x) : ∃ cs, x = .agg cs ∧ cs.length = ts.length ∧ ∀ (j : Nat) (c : V) (u : TypeId), cs[j]? = some c → ts[j]? = some u → TypC P n u c := by
  unfold TypE at h
  rw [ha] at h
  obtain ⟨ts', cs, h1, h2, h3, h4⟩ := h
  rw [hf] at h1
  cases h1
  exact ⟨cs, h2, h3, h4⟩
theorem u64_of {x : Int} (h : (Lit.int .u64 x).wf = true) : U64 x := by
  simp [Lit.wf, IntKind.min, IntKind.max, IntKind.bits, IntKind.signed] at h
  unfold U64; omega
theorem leases_of {x : V} (h : TypE Try.prog (TypC Try.prog 8) 24 x) : ∃ b s : List Int, x = eL b s ∧ b.length * 8 ≤ 2 ^ 47 ∧ s.length * 8 ≤ 2 ^ 47 ∧ (∀ x ∈ b, U64 x) ∧ ∀ x ∈ s, U64 x := by
  obtain ⟨cs, rfl, hl, hc⟩ := typ_agg (ts := [22, 22]) (by kernel_rfl) (by kernel_rfl) h
  match cs, hl with
  | [c0, c1], _ =>
    obtain ⟨b, rfl, hb, hbu⟩ := typ_ints (k := .u64) (e := 25) (n := 6) Try.underlying22 Try.underlying25 (by kernel_rfl) (by kernel_rfl) (hc 0 c0 22 rfl rfl)
    obtain ⟨s, rfl, hs, hsu⟩ := typ_ints (k := .u64) (e := 25) (n := 6) Try.underlying22 Try.underlying25 (by kernel_rfl) (by kernel_rfl) (hc 1 c1 22 rfl rfl)
    have e : Try.prog.bytesOf 25 = 8 := by kernel_rfl
    rw [e] at hb hs
    have hr : reachBytes ≤ 2 ^ 47 := by decide
    exact ⟨b, s, rfl, by omega, by omega, fun x hx => u64_of (hbu x hx), fun x hx => u64_of (hsu x hx)⟩
theorem int_of {x : V} (h : TypE Try.prog (TypC Try.prog 8) 3 x) : ∃ z, x = .int .i64 z := by
  obtain ⟨z, h, _⟩ := typ_int (k := .i64) Try.underlying3 (by kernel_rfl) h; exact ⟨z, h⟩
theorem uint_of {x : V} (h : TypE Try.prog (TypC Try.prog 8) 25 x) : ∃ z, x = .int .u64 z ∧ U64 z := by
  obtain ⟨z, h, hw⟩ := typ_int (k := .u64) Try.underlying25 (by kernel_rfl) h; exact ⟨z, h, u64_of hw⟩

theorem does_typed (x0 x1 x2 x3 x4 : V) (h0 : TypE Try.prog (TypC Try.prog 8) 24 x0) (h1 : TypE Try.prog (TypC Try.prog 8) 3 x1) (h2 : TypE Try.prog (TypC Try.prog 8) 3 x2) (h3 : TypE Try.prog (TypC Try.prog 8) 25 x3) (h4 : TypE Try.prog (TypC Try.prog 8) 25 x4) : Sp C1 3 [x0, x1, x2, x3, x4] (.bool true) := by
  obtain ⟨b, s, rfl, hb, hs, hbu, hsu⟩ := leases_of h0
  obtain ⟨nodes, rfl⟩ := int_of h1
  obtain ⟨node, rfl⟩ := int_of h2
  obtain ⟨boot, rfl, hbo⟩ := uint_of h3
  obtain ⟨now, rfl, hn⟩ := uint_of h4
  exact does_true b s nodes node boot now hb hs hn hsu hbu

theorem while_true (b s : List Int) (node boot now later : Int) (hn : U64 now) (hbo : U64 boot) (hl : U64 later) (hbu : ∀ x ∈ b, U64 x) (hsu : ∀ x ∈ s, U64 x) : Sp C1 4 [eL b s, .int .i64 node, .int .u64 boot, .int .u64 now, .int .u64 later] (.bool true) := by
  by_cases hg : Good b s
  · obtain ⟨g1, g2, g3⟩ := hg
    by_cases hr : node < 1 ∨ (b.length : Int) ≤ node ∨ boot = 0
    · exact while_range b s node boot now later g1 g2 g3 hr
    · obtain ⟨k, rfl⟩ : ∃ k : Nat, node = (k : Int) := ⟨node.toNat, by omega⟩
      have hk : k < b.length := by omega
      obtain ⟨o, ho⟩ : ∃ o, b[k]? = some o := ⟨b[k], List.getElem?_eq_getElem hk⟩
      obtain ⟨t, ht⟩ : ∃ t, s[k]? = some t := ⟨s[k]'(by omega), List.getElem?_eq_getElem (by omega)⟩
      by_cases hst : boot < o ∨ boot = o ∧ now < t
      · exact while_stale b s k boot now later o t g1 g2 g3 (by omega) hk (by omega) ho ht hst
      · have hsu' : ∀ x ∈ s.set k now, U64 x := fun x hx => by
          rcases List.mem_or_eq_of_mem_set hx with h | h
          · exact hsu x h
          · exact h ▸ hn
        have hbo' := hbo.1
        refine while_ok b s k boot now later o t g1 g2 g3 (by omega) hk (by omega) ho ht hst hn hl
          ((List.range b.length).map (alv (b.set k boot) (s.set k now) later)) ((List.range b.length).map (alv b s later)) (by simp) (by simp) (fun i hi => ?_) ?_ ?_ ?_ ?_
        · simp only [List.getElem?_map]
          cases hh : (List.range b.length)[i]? with
          | none => rfl
          | some j =>
            have hj : j = i := by
              obtain ⟨h1, h2⟩ := List.getElem?_eq_some_iff.1 hh
              rw [← h2]; simp
            subst hj
            simp only [Option.map_some, alv, List.getD_eq_getElem?_getD, List.getElem?_set_ne (fun e => hi (Eq.symm e))]
        · rw [List.getElem?_map, List.getElem?_range (by omega)]; simp [alv]
        · rw [List.getElem?_map, List.getElem?_range hk]
          simp only [Option.map_some, alv, List.getD_eq_getElem?_getD, List.getElem?_set_self hk, List.getElem?_set_self (show k < s.length by omega), Option.getD_some]
          have e1 : (k == 0) = false := by simp; omega
          have e2 : decide (boot > 0) = true := by simp; omega
          rw [e1, e2]; simp
        · have := alive_ok (b.set k boot) (s.set k now) later (by simpa using g1) (by simpa using g2) (by simpa using g3) hl hsu'
          rw [List.length_set] at this
          exact this
        · exact alive_ok b s later g1 g2 g3 hl hsu
  · exact while_state b s node boot now later hg
theorem while_typed (x0 x1 x2 x3 x4 : V) (h0 : TypE Try.prog (TypC Try.prog 8) 24 x0) (h1 : TypE Try.prog (TypC Try.prog 8) 3 x1) (h2 : TypE Try.prog (TypC Try.prog 8) 25 x2) (h3 : TypE Try.prog (TypC Try.prog 8) 25 x3) (h4 : TypE Try.prog (TypC Try.prog 8) 25 x4) : Sp C1 4 [x0, x1, x2, x3, x4] (.bool true) := by
  obtain ⟨b, s, rfl, hb, hs, hbu, hsu⟩ := leases_of h0
  obtain ⟨node, rfl⟩ := int_of h1
  obtain ⟨boot, rfl, hbo⟩ := uint_of h2
  obtain ⟨now, rfl, hn⟩ := uint_of h3
  obtain ⟨later, rfl, hl⟩ := uint_of h4
  exact while_true b s node boot now later hn hbo hl hbu hsu

theorem fresh_true (b s : List Int) (node boot now : Int) (hbo : U64 boot) : Sp C1 5 [eL b s, .int .i64 node, .int .u64 boot, .int .u64 now] (.bool true) := by
  by_cases hg : Good b s
  · obtain ⟨g1, g2, g3⟩ := hg
    by_cases hr : node < 1 ∨ (b.length : Int) ≤ node ∨ boot = 0
    · exact fresh_range b s node boot now g1 g2 g3 hr
    · obtain ⟨k, rfl⟩ : ∃ k : Nat, node = (k : Int) := ⟨node.toNat, by omega⟩
      have hk : k < b.length := by omega
      obtain ⟨o, ho⟩ : ∃ o, b[k]? = some o := ⟨b[k], List.getElem?_eq_getElem hk⟩
      obtain ⟨t, ht⟩ : ∃ t, s[k]? = some t := ⟨s[k]'(by omega), List.getElem?_eq_getElem (by omega)⟩
      by_cases hst : boot < o ∨ boot = o ∧ now < t
      · exact fresh_stale b s k boot now o t g1 g2 g3 (by omega) hk (by omega) ho ht hst
      · have e1 : (b.set k boot)[k]? = some boot := List.getElem?_set_self hk
        have e2 : (s.set k now)[k]? = some now := List.getElem?_set_self (by omega)
        refine fresh_ok b s k boot now o t g1 g2 g3 (by omega) hk (by omega) ho ht hst hbo ?_ (fun h2 => ?_)
        · have := beat_ok (b.set k boot) (s.set k now) k boot now boot now (by simpa using g1) (by simpa using g2) (by simpa using g3) (by omega) (by simpa using hk) (by omega) e1 e2 (by omega)
          rw [List.set_set, List.set_set] at this
          simpa using this
        · exact beat_stale (b.set k boot) (s.set k now) k (boot - 1) now boot now (by simpa using g1) (by simpa using g2) (by simpa using g3) (by omega) (by simpa using hk) (by omega) e1 e2 (by omega)
  · exact fresh_state b s node boot now hg
theorem fresh_typed (x0 x1 x2 x3 : V) (h0 : TypE Try.prog (TypC Try.prog 8) 24 x0) (h1 : TypE Try.prog (TypC Try.prog 8) 3 x1) (h2 : TypE Try.prog (TypC Try.prog 8) 25 x2) (h3 : TypE Try.prog (TypC Try.prog 8) 25 x3) : Sp C1 5 [x0, x1, x2, x3] (.bool true) := by
  obtain ⟨b, s, rfl, hb, hs, hbu, hsu⟩ := leases_of h0
  obtain ⟨node, rfl⟩ := int_of h1
  obtain ⟨boot, rfl, hbo⟩ := uint_of h2
  obtain ⟨now, rfl, hn⟩ := uint_of h3
  exact fresh_true b s node boot now hbo
end Go.Fw
