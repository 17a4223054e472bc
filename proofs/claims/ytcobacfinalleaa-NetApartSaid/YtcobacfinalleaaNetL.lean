/- Net: typed values. -/
import Derived.Test.YtcobacfinalleaaNetK
set_option linter.all false
set_option maxHeartbeats 20000000
namespace Go.Fw
open Go.Proofs
theorem typ_int {P : Program} {n : Nat} {t : TypeId} {k : IntKind} {x : V} (ht : P.underlying t = some (.int k)) (ha : isAggT P t = some false) (h : TypE P (TypC P (n + 1)) t x) : ∃ z, x = .int k z ∧ (Lit.int k z).wf = true := by
  unfold TypE at h
  rw [ha] at h
  dsimp only at h
  unfold TypC at h
  rw [ht] at h
  exact h
theorem typ_str {P : Program} {n : Nat} {t : TypeId} {x : V} (ht : P.underlying t = some .string) (ha : isAggT P t = some false) (h : TypE P (TypC P (n + 1)) t x) : ∃ s, x = .str s ∧ s.size ≤ reachBytes := by
  unfold TypE at h
  rw [ha] at h
  dsimp only at h
  unfold TypC at h
  rw [ht] at h
  exact h
theorem typ_agg {P : Program} {n : Nat} {t : TypeId} {ts : List TypeId} {x : V} (hf : flatT P 20 t = some ts) (ha : isAggT P t = some true) (h : TypE P (TypC P n) t x) : ∃ cs, x = .agg cs ∧ cs.length = ts.length ∧ ∀ (j : Nat) (c : V) (u : TypeId), cs[j]? = some c → ts[j]? = some u → TypC P n u c := by
  unfold TypE at h
  rw [ha] at h
  obtain ⟨ts', cs, h1, h2, h3, h4⟩ := h
  rw [hf] at h1
  cases h1
  exact ⟨cs, h2, h3, h4⟩
theorem typC_int {P : Program} {n : Nat} {t : TypeId} {k : IntKind} {x : V} (ht : P.underlying t = some (.int k)) (h : TypC P (n + 1) t x) : ∃ z, x = .int k z ∧ (Lit.int k z).wf = true := by
  unfold TypC at h
  rw [ht] at h
  exact h
theorem typC_str {P : Program} {n : Nat} {t : TypeId} {x : V} (ht : P.underlying t = some .string) (h : TypC P (n + 1) t x) : ∃ s, x = .str s ∧ s.size ≤ reachBytes := by
  unfold TypC at h
  rw [ht] at h
  exact h
theorem pk_of {n : Nat} {x : V} (h : TypE Try.prog (TypC Try.prog (n + 1)) 30 x) : ∃ p : Pk, x = ePk p := by
  obtain ⟨cs, rfl, hl, hc⟩ := typ_agg (ts := [3, 3, 9]) (by kernel_rfl) (by kernel_rfl) h
  match cs, hl with
  | [c0, c1, c2], _ =>
    obtain ⟨f, rfl, _⟩ := typC_int (k := .i64) Try.underlying3 (hc 0 c0 3 rfl rfl)
    obtain ⟨t, rfl, _⟩ := typC_int (k := .i64) Try.underlying3 (hc 1 c1 3 rfl rfl)
    obtain ⟨s, rfl, _⟩ := typC_str Try.underlying9 (hc 2 c2 9 rfl rfl)
    exact ⟨⟨f, t, s⟩, rfl⟩
theorem net_of {x : V} (h : TypE Try.prog (TypC Try.prog 8) 24 x) : ∃ ps : List Pk, x = eNet ps ∧ ps.length * 32 ≤ 2 ^ 47 := by
  obtain ⟨cs, rfl, hl, hc⟩ := typ_agg (ts := [22]) (by kernel_rfl) (by kernel_rfl) h
  match cs, hl with
  | [c0], _ =>
    have h0 := hc 0 c0 22 rfl rfl
    unfold TypC at h0
    rw [Try.underlying22] at h0
    obtain ⟨xs, rfl, hb, hx⟩ := h0
    have : ∀ l : List V, (∀ x ∈ l, ∃ p, x = ePk p) → ∃ ps : List Pk, l = ps.map ePk := by
      intro l hl
      induction l with
      | nil => exact ⟨[], rfl⟩
      | cons x l ih =>
        obtain ⟨p, rfl⟩ := hl x (by simp)
        obtain ⟨ps, rfl⟩ := ih (fun x hx => hl x (by simp [hx]))
        exact ⟨p :: ps, rfl⟩
    obtain ⟨ps, rfl⟩ := this xs (fun x hm => pk_of (hx x hm))
    have e1 : Try.prog.bytesOf 30 = 32 := by kernel_rfl
    have e2 : Try.prog.cellsOf 30 = 3 := by kernel_rfl
    rw [e1] at hb
    rw [e2]
    have hr : reachBytes ≤ 2 ^ 47 := by decide
    exact ⟨ps, rfl, by rw [List.length_map] at hb; omega⟩
theorem int_of {x : V} (h : TypE Try.prog (TypC Try.prog 8) 3 x) : ∃ z, x = .int .i64 z := by
  obtain ⟨z, h, _⟩ := typ_int (k := .i64) Try.underlying3 (by kernel_rfl) h; exact ⟨z, h⟩
theorem str_of {x : V} (h : TypE Try.prog (TypC Try.prog 8) 9 x) : ∃ s, x = .str s := by
  obtain ⟨z, h, _⟩ := typ_str Try.underlying9 (by kernel_rfl) h; exact ⟨z, h⟩
theorem does_typed (x0 x1 x2 x3 x4 : V) (h0 : TypE Try.prog (TypC Try.prog 8) 24 x0) (h1 : TypE Try.prog (TypC Try.prog 8) 3 x1) (h2 : TypE Try.prog (TypC Try.prog 8) 3 x2) (h3 : TypE Try.prog (TypC Try.prog 8) 9 x3) (h4 : TypE Try.prog (TypC Try.prog 8) 3 x4) : Sp C1 3 [x0, x1, x2, x3, x4] (.bool true) := by
  obtain ⟨ps, rfl, h⟩ := net_of h0
  obtain ⟨f, rfl⟩ := int_of h1
  obtain ⟨t, rfl⟩ := int_of h2
  obtain ⟨s, rfl⟩ := str_of h3
  obtain ⟨i, rfl⟩ := int_of h4
  exact netDoes_sp ps f t i s h
end Go.Fw
