/- The operations (7): closures, elements, parts of slices. -/
import Derived.Test.YtcobacfinalleaaFwOps6
set_option linter.all false
namespace Go.Fw
open Go.RowKit

section
variable {B τ : Nat} {g : Gh} {st : St} {a : Act} {w : World}

theorem useAll_sound : ∀ (xs : List Operand) {g : Gh} {st : St}, R B τ g st a w → ∃ g', Later B τ g g' w w ∧ R B τ g' (st.useAll xs) a w ∧ g'.loc = g.loc
  | [], g, st, h => ⟨g, Later.refl .., h, rfl⟩
  | x :: xs, g, st, h => by
    obtain ⟨g1, l1, h1, e1⟩ := use_loc h x
    obtain ⟨g2, l2, h2, e2⟩ := useAll_sound xs h1
    exact ⟨g2, l1.trans l2, h2, e2.trans e1⟩
where
  use_loc {g : Gh} {st : St} (h : R B τ g st a w) (x : Operand) : ∃ g', Later B τ g g' w w ∧ R B τ g' (st.useS x) a w ∧ g'.loc = g.loc := by
    cases x with
    | tmp t =>
      have hm := h.mark t
      refine ⟨_, later_share h t, ?_, rfl⟩
      unfold St.useS
      dsimp only
      cases hl : isLin3 (getS st.fr t) with
      | true => rw [condB_true]; exact hm
      | false => rw [condB_false]; exact R.setSame hm (map3_of (fun _ h => mark1_of h) hl)
    | const v => exact ⟨g, Later.refl .., h, rfl⟩
    | global b => exact ⟨g, Later.refl .., h, rfl⟩
    | func f => exact ⟨g, Later.refl .., h, rfl⟩

/-- The demoted value stays what it is while others are marked. -/
theorem peek_useS (st : St) (x y : Operand) : map3 demote1 ((st.useS y).peek x) = map3 demote1 (st.peek x) := by
  have hdm : ∀ v, demote1 (mark1 v) = demote1 v := by intro v; cases v <;> rfl
  have hdm2 : ∀ v, map2 demote1 (map2 mark1 v) = map2 demote1 v := by
    intro v
    by_cases ha : ∃ vs, v = .agg vs
    · obtain ⟨vs, rfl⟩ := ha
      simp only [map2, List.map_map]
      congr 1
      exact List.map_congr_left (fun v _ => hdm v)
    · cases v <;> first | exact absurd ⟨_, rfl⟩ ha | rfl
  have hdm3 : ∀ v, map3 demote1 (map3 mark1 v) = map3 demote1 v := by
    intro v
    by_cases ha : ∃ vs, v = .tup vs
    · obtain ⟨vs, rfl⟩ := ha
      simp only [map3, List.map_map]
      congr 1
      exact List.map_congr_left (fun v _ => hdm2 v)
    · obtain ⟨a1, a2⟩ := map3_notTup isCell_mark1 (fun vs e => ha ⟨vs, e⟩)
      obtain ⟨b1, _⟩ := map3_notTup isCell_demote1 (fun vs e => ha ⟨vs, e⟩)
      obtain ⟨c1, _⟩ := map3_notTup isCell_demote1 a2
      rw [a1, b1, c1]
      exact hdm2 _
  cases y with
  | tmp t =>
    simp only [St.useS]
    cases hl : isLin3 (getS st.fr t) with
    | false => rw [condB_false]
    | true =>
      rw [condB_true]
      cases x with
      | tmp s =>
        simp only [St.peek]
        by_cases hst : t = s
        · subst hst
          by_cases hlt : t < st.fr.length
          · rw [getS_eq (List.getElem?_set_self hlt)]
            exact hdm3 _
          · have e : st.fr.set t (map3 mark1 (getS st.fr t)) = st.fr := List.set_eq_of_length_le (Nat.le_of_not_lt hlt)
            rw [e]
        · simp only [getS, List.getD_eq_getElem?_getD, List.getElem?_set_ne hst]
      | const v => rfl
      | global b => rfl
      | func f => rfl
  | const v => rfl
  | global b => rfl
  | func f => rfl
theorem useV_useS (st : St) (x y : Operand) : (st.useS y).useV x = st.useV x := peek_useS st x y

theorem isLin1_demote (v : V) : isLin1 (demote1 v) = false := by cases v <;> rfl
theorem isLin2_demote (v : V) : isLin2 (map2 demote1 v) = false := by
  cases v <;> first | rfl | skip
  simp only [map2, isLin2, List.any_map]
  rw [List.any_eq_false]
  intro x _
  simp [isLin1_demote]
theorem isLin3_demote (v : V) : isLin3 (map3 demote1 v) = false := by
  by_cases ha : ∃ vs, v = .tup vs
  · obtain ⟨vs, rfl⟩ := ha
    simp only [map3, isLin3, List.any_map]
    rw [List.any_eq_false]
    intro x _
    simp [isLin2_demote]
  · obtain ⟨b1, b2⟩ := map3_notTup isCell_demote1 (fun vs e => ha ⟨vs, e⟩)
    rw [b1]
    have := isLin2_demote v
    cases hm : map2 demote1 v <;> rw [hm] at this b2 <;> first | exact this | exact absurd rfl (b2 _)
theorem RepA.any {g : Gh} {pl pl' : Nat → Place} {v : V} {u : Value} (hv : isLin2 v = false) (h : RepA g pl v u) : RepA g pl' v u := by
  by_cases ha : ∃ vs, v = .agg vs
  · obtain ⟨vs, rfl⟩ := ha
    obtain ⟨cs, e, h1, h2⟩ := h
    refine ⟨cs, e, h1, fun j c hj hc => (h2 j c hj hc).any ?_⟩
    simp only [isLin2] at hv
    rw [List.any_eq_false] at hv
    exact Bool.eq_false_iff.2 (hv c (List.mem_of_getElem? hc))
  · rcases repA_inv h with e | h | h
    · subst e; trivial
    · exact repA_cell (h.any (by cases v <;> first | exact hv | exact absurd ⟨_, rfl⟩ ha))
    · exact absurd h ha
theorem RepS.any {g : Gh} {τ d τ' d' : Nat} {v : V} {u : Value} (hv : isLin3 v = false) (h : RepS g τ d v u) : RepS g τ' d' v u := by
  by_cases ha : ∃ vs, v = .tup vs
  · obtain ⟨vs, rfl⟩ := ha
    obtain ⟨cs, e, h1, h2⟩ := h
    refine ⟨cs, e, h1, fun j c hj hc => (h2 j c hj hc).any ?_⟩
    simp only [isLin3] at hv
    rw [List.any_eq_false] at hv
    exact Bool.eq_false_iff.2 (hv c (List.mem_of_getElem? hc))
  · have hv' : ∀ vs, v ≠ .tup vs := fun vs e => ha ⟨vs, e⟩
    rw [repS_notTup hv'] at h ⊢
    exact h.any (by cases v <;> first | exact hv | exact absurd rfl (hv' _))

/-- Several copies at once. -/
theorem uses_sound : ∀ (xs : List Operand) {g : Gh} {st : St}, R B τ g st a w → ∃ g', Later B τ g g' w w ∧ R B τ g' (st.useAll xs) a w ∧ ∀ (j : Nat) (x : Operand), xs[j]? = some x → ∀ τ' d, RepS g' τ' d (st.useV x) (a.eval x)
  | [], g, st, h => ⟨g, Later.refl .., h, fun j x hx => by cases hx⟩
  | x :: xs, g, st, h => by
    obtain ⟨g1, l1, h1, e1⟩ := use_sound h x
    obtain ⟨g2, l2, h2, e2⟩ := uses_sound xs h1
    refine ⟨g2, l1.trans l2, h2, fun j y hy τ' d => ?_⟩
    cases j with
    | zero =>
      cases hy
      have h1 := (e1 (τ + 1) d).mono l2.mem l2.loc (fun j k b x hx hp => l2.lin b x hx ⟨τ + 1, _, _, _, hp, by omega⟩)
      exact h1.any (isLin3_demote _)
    | succ j =>
      have := e2 j y hy τ' d
      rwa [useV_useS] at this
end
end Go.Fw
