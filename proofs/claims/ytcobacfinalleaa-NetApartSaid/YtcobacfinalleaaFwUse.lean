/- A copy and a taking, over the whole state. -/
import Derived.Test.YtcobacfinalleaaFwState
set_option linter.all false
namespace Go.Fw
open Go.RowKit

theorem mark1_of {v : V} (h : isLin1 v = false) : mark1 v = v := by cases v <;> first | rfl | simp [isLin1] at h
theorem demote1_of {v : V} (h : isLin1 v = false) : demote1 v = v := by cases v <;> first | rfl | simp [isLin1] at h
theorem drop1_of {v : V} (h : isLin1 v = false) : drop1 v = v := by cases v <;> first | rfl | simp [isLin1] at h
theorem map_of {f : V → V} {p : V → Bool} (hf : ∀ v, p v = false → f v = v) : ∀ {vs : List V}, vs.any p = false → vs.map f = vs
  | [], _ => rfl
  | v :: vs, h => by
    simp only [List.any_cons, Bool.or_eq_false_iff] at h
    rw [List.map_cons, hf v h.1, map_of hf h.2]
theorem map2_of {f : V → V} (hf : ∀ v, isLin1 v = false → f v = v) {v : V} (h : isLin2 v = false) : map2 f v = v := by
  cases v <;> simp only [map2, isLin2] at h ⊢ <;> first | exact congrArg V.agg (map_of hf h) | exact hf _ h
theorem map3_of {f : V → V} (hf : ∀ v, isLin1 v = false → f v = v) {v : V} (h : isLin3 v = false) : map3 f v = v := by
  cases v <;> simp only [map3, isLin3] at h ⊢ <;> first | exact congrArg V.tup (map_of (fun _ h => map2_of hf h) h) | exact map2_of hf h

theorem mark1_undef {v : V} : (∀ vs, v ≠ .agg vs) → (∀ vs, v ≠ .tup vs) → v ≠ .undef → (∀ vs, mark1 v ≠ .agg vs) ∧ mark1 v ≠ .undef := by
  intro h1 h2 h3
  cases v <;> simp_all [mark1]

/-- 'RepA' of a one-cell value. -/
theorem repA_cell {g : Gh} {pl : Nat → Place} {v : V} {u : Value} (h : RepC g (pl 0) v u) : RepA g pl v u := by
  unfold RepA
  split
  · exact h.elim
  · trivial
  · exact h
theorem repA_inv {g : Gh} {pl : Nat → Place} {v : V} {u : Value} (h : RepA g pl v u) : v = .undef ∨ RepC g (pl 0) v u ∨ ∃ vs, v = .agg vs := by
  unfold RepA at h
  split at h
  · exact .inr (.inr ⟨_, rfl⟩)
  · exact .inl rfl
  · exact .inr (.inl h)
theorem RepC.notAgg {g : Gh} {p : Place} {v : V} {u : Value} (h : RepC g p v u) : isCell v = true := by
  cases v <;> first | rfl | exact h.elim
theorem RepC.one {g : Gh} {p : Place} {v : V} {u : Value} (h : RepC g p v u) : u.oneCell' = true := by
  cases v <;> simp only [RepC] at h <;> try exact RepI.one h rfl
  case undef => exact h
  case ptr => obtain ⟨b, _, rfl⟩ := h; rfl
  case own => rcases h with ⟨b, c, _, rfl, _⟩ | ⟨_, _, ad, rfl⟩ <;> rfl
  case lin => rcases h with ⟨b, c, _, _, _, _, rfl, _⟩ | ⟨_, _, ad, rfl⟩ <;> rfl
  case fn => obtain ⟨b, c, rfl, _⟩ := h; rfl

theorem RepA.shared {g : Gh} {q : Place → Bool} {B : Nat} {w : World} (hL : LinOk g B w) {pl : Nat → Place} (hq : ∀ j, q (pl j) = true) {v : V} {u : Value} (h : RepA g pl v u) :
    RepA (g.share q) pl (map2 mark1 v) u ∧ ∀ pl', RepA (g.share q) pl' (map2 demote1 v) u := by
  by_cases hv : ∃ vs, v = .agg vs
  · obtain ⟨vs, rfl⟩ := hv
    obtain ⟨cs, rfl, h2, h3⟩ := h
    refine ⟨⟨cs, rfl, by simpa using h2, fun j c hj hc => ?_⟩, fun pl' => ⟨cs, rfl, by simpa using h2, fun j c hj hc => ?_⟩⟩ <;>
    · rw [List.getElem?_map] at hc
      obtain ⟨c0, hc0, rfl⟩ := Option.map_eq_some_iff.1 hc
      first | exact ((h3 j c0 hj hc0).shared hL (hq _)).1 | exact ((h3 j c0 hj hc0).shared hL (hq _)).2 _
  · by_cases hu : v = .undef
    · subst hu; exact ⟨trivial, fun _ => trivial⟩
    · have hc : RepC g (pl 0) v u := by
        rcases repA_inv h with h | h | h
        · exact absurd h hu
        · exact h
        · exact absurd h hv
      have hs := hc.shared hL (hq 0)
      have e1 : map2 mark1 v = mark1 v := by cases v <;> first | rfl | exact absurd ⟨_, rfl⟩ hv
      have e2 : map2 demote1 v = demote1 v := by cases v <;> first | rfl | exact absurd ⟨_, rfl⟩ hv
      rw [e1, e2]
      exact ⟨repA_cell hs.1, fun pl' => repA_cell (hs.2 _)⟩

theorem RepA.moved {g : Gh} {f : Place → Place} {pl pl' : Nat → Place} (hf : ∀ j, f (pl j) = pl' j) {v : V} {u : Value} (h : RepA g pl v u) : RepA (g.ren f) pl' v u ∧ RepA (g.ren f) pl (map2 drop1 v) u := by
  by_cases hv : ∃ vs, v = .agg vs
  · obtain ⟨vs, rfl⟩ := hv
    obtain ⟨cs, rfl, h2, h3⟩ := h
    refine ⟨⟨cs, rfl, h2, fun j c hj hc => ((h3 j c hj hc).moved (hf _)).1⟩, ⟨cs, rfl, by simpa using h2, fun j c hj hc => ?_⟩⟩
    rw [List.getElem?_map] at hc
    obtain ⟨c0, hc0, rfl⟩ := Option.map_eq_some_iff.1 hc
    exact ((h3 j c0 hj hc0).moved (hf _)).2
  · by_cases hu : v = .undef
    · subst hu; exact ⟨trivial, trivial⟩
    · have hc : RepC g (pl 0) v u := by
        rcases repA_inv h with h | h | h
        · exact absurd h hu
        · exact h
        · exact absurd h hv
      have hs := hc.moved (hf 0)
      have e1 : map2 drop1 v = drop1 v := by cases v <;> first | rfl | exact absurd ⟨_, rfl⟩ hv
      rw [e1]
      exact ⟨repA_cell hs.1, repA_cell hs.2⟩

theorem map3_notTup {f : V → V} (hf : ∀ v, isCell v = true → isCell (f v) = true) {v : V} (h : ∀ vs, v ≠ .tup vs) : map3 f v = map2 f v ∧ ∀ vs, map2 f v ≠ .tup vs := by
  refine ⟨by cases v <;> first | rfl | exact absurd rfl (h _), fun vs e => ?_⟩
  cases v with
  | agg ws => simp [map2] at e
  | tup ws => exact h _ rfl
  | undef => have := hf .undef rfl; simp only [map2] at e; rw [e] at this; simp [isCell] at this
  | bool b => have := hf (.bool b) rfl; simp only [map2] at e; rw [e] at this; simp [isCell] at this
  | int b c => have := hf (.int b c) rfl; simp only [map2] at e; rw [e] at this; simp [isCell] at this
  | str b => have := hf (.str b) rfl; simp only [map2] at e; rw [e] at this; simp [isCell] at this
  | nilp => have := hf .nilp rfl; simp only [map2] at e; rw [e] at this; simp [isCell] at this
  | ptr b c => have := hf (.ptr b c) rfl; simp only [map2] at e; rw [e] at this; simp [isCell] at this
  | iptr b c => have := hf (.iptr b c) rfl; simp only [map2] at e; rw [e] at this; simp [isCell] at this
  | nils => have := hf .nils rfl; simp only [map2] at e; rw [e] at this; simp [isCell] at this
  | nne => have := hf .nne rfl; simp only [map2] at e; rw [e] at this; simp [isCell] at this
  | imm b c d => have := hf (.imm b c d) rfl; simp only [map2] at e; rw [e] at this; simp [isCell] at this
  | lin b c d e' => have := hf (.lin b c d e') rfl; simp only [map2] at e; rw [e] at this; simp [isCell] at this
  | own b c d r => have := hf (.own b c d r) rfl; simp only [map2] at e; rw [e] at this; simp [isCell] at this
  | fn b c d => have := hf (.fn b c d) rfl; simp only [map2] at e; rw [e] at this; simp [isCell] at this
  | nilf => have := hf .nilf rfl; simp only [map2] at e; rw [e] at this; simp [isCell] at this
  | iface b c => have := hf (.iface b c) rfl; simp only [map2] at e; rw [e] at this; simp [isCell] at this
  | nili => have := hf .nili rfl; simp only [map2] at e; rw [e] at this; simp [isCell] at this
  | nilm => have := hf .nilm rfl; simp only [map2] at e; rw [e] at this; simp [isCell] at this
theorem repS_notTup {g : Gh} {τ i : Nat} {v : V} {u : Value} (h : ∀ vs, v ≠ .tup vs) : RepS g τ i v u = RepA g (fun j => .slot τ i j 0) v u := by
  cases v <;> first | rfl | exact absurd rfl (h _)

theorem isCell_mark1 (v : V) (h : isCell v = true) : isCell (mark1 v) = true := by cases v <;> first | exact h | rfl
theorem isCell_demote1 (v : V) (h : isCell v = true) : isCell (demote1 v) = true := by cases v <;> first | exact h | rfl
theorem isCell_drop1 (v : V) (h : isCell v = true) : isCell (drop1 v) = true := by cases v <;> first | exact h | rfl

theorem RepS.shared {g : Gh} {q : Place → Bool} {B : Nat} {w : World} (hL : LinOk g B w) {τ i : Nat} (hq : ∀ j k, q (.slot τ i j k) = true) {v : V} {u : Value} (h : RepS g τ i v u) :
    RepS (g.share q) τ i (map3 mark1 v) u ∧ ∀ τ' d, RepS (g.share q) τ' d (map3 demote1 v) u := by
  by_cases hv : ∃ vs, v = .tup vs
  · obtain ⟨vs, rfl⟩ := hv
    obtain ⟨cs, rfl, h2, h3⟩ := h
    refine ⟨⟨cs, rfl, by simpa using h2, fun k c hk hc => ?_⟩, fun τ' d => ⟨cs, rfl, by simpa using h2, fun k c hk hc => ?_⟩⟩ <;>
    · rw [List.getElem?_map] at hc
      obtain ⟨c0, hc0, rfl⟩ := Option.map_eq_some_iff.1 hc
      first | exact ((h3 k c0 hk hc0).shared hL (fun j => hq _ _)).1 | exact ((h3 k c0 hk hc0).shared hL (fun j => hq _ _)).2 _
  · have hv' : ∀ vs, v ≠ .tup vs := fun vs e => hv ⟨vs, e⟩
    obtain ⟨a1, a2⟩ := map3_notTup isCell_mark1 hv'
    obtain ⟨b1, b2⟩ := map3_notTup isCell_demote1 hv'
    rw [repS_notTup hv'] at h
    have hs := h.shared hL (fun j => hq j 0)
    rw [a1, b1]
    exact ⟨by rw [repS_notTup a2]; exact hs.1, fun τ' d => by rw [repS_notTup b2]; exact hs.2 _⟩
theorem RepS.moved {g : Gh} {f : Place → Place} {τ i d : Nat} (hf : ∀ j k, f (.slot τ i j k) = .slot τ d j k) {v : V} {u : Value} (h : RepS g τ i v u) : RepS (g.ren f) τ d v u ∧ RepS (g.ren f) τ i (map3 drop1 v) u := by
  by_cases hv : ∃ vs, v = .tup vs
  · obtain ⟨vs, rfl⟩ := hv
    obtain ⟨cs, rfl, h2, h3⟩ := h
    refine ⟨⟨cs, rfl, h2, fun k c hk hc => ((h3 k c hk hc).moved (pl' := fun j => .slot τ d j (k + 1)) (fun j => hf _ _)).1⟩, ⟨cs, rfl, by simpa using h2, fun k c hk hc => ?_⟩⟩
    rw [List.getElem?_map] at hc
    obtain ⟨c0, hc0, rfl⟩ := Option.map_eq_some_iff.1 hc
    exact ((h3 k c0 hk hc0).moved (pl' := fun j => .slot τ d j (k + 1)) (fun j => hf _ _)).2
  · have hv' : ∀ vs, v ≠ .tup vs := fun vs e => hv ⟨vs, e⟩
    obtain ⟨a1, a2⟩ := map3_notTup isCell_drop1 hv'
    rw [repS_notTup hv'] at h
    have hs := h.moved (pl' := fun j => .slot τ d j 0) (fun j => hf j 0)
    rw [a1]
    exact ⟨by rw [repS_notTup hv']; exact hs.1, by rw [repS_notTup a2]; exact hs.2⟩

/-- Marking the holders of a slot: all of the relation. -/
def qSlot (τ t : Nat) : Place → Bool
  | .slot τ' x _ _ => τ' == τ && x == t
  | _ => false
def fSlot (τ t d : Nat) : Place → Place
  | .slot τ' x j k => if τ' = τ ∧ x = t then .slot τ d j k else .slot τ' x j k
  | p => p

theorem getS_eq {fr : List V} {t : Nat} {v : V} (h : fr[t]? = some v) : getS fr t = v := by
  unfold getS; rw [List.getD_eq_getElem?_getD, h]; rfl
theorem getS_out {fr : List V} {t : Nat} (h : fr.length ≤ t) : getS fr t = .undef := by
  unfold getS; rw [List.getD_eq_getElem?_getD, List.getElem?_eq_none h]; rfl
theorem slot_of {B τ : Nat} {g : Gh} {st : St} {a : Act} {w : World} (h : R B τ g st a w) (t : Nat) : RepS g τ t (getS st.fr t) (a.tmps.getD t undef) := by
  by_cases ht : t < a.tmps.size
  · have h1 : st.fr[t]? = some (getS st.fr t) := by
      have : t < st.fr.length := by rw [h.size]; exact ht
      rw [List.getElem?_eq_getElem this]
      rw [getS_eq (List.getElem?_eq_getElem this)]
    have := h.slots t _ ht h1
    simpa [Array.getD, ht] using this
  · rw [getS_out (by rw [h.size]; omega)]
    exact trivial

theorem R.mark {B τ : Nat} {g : Gh} {st : St} {a : Act} {w : World} (h : R B τ g st a w) (t : Nat) : R B τ (g.share (qSlot τ t)) { st with fr := st.fr.set t (map3 mark1 (getS st.fr t)) } a w := by
  refine ⟨by simpa using h.size, fun i v hi hv => ?_, share_heap h.lin (fun _ _ => rfl) h.heap, share_mem h.lin h.mem, share_lin h.lin, h.base, h.defers⟩
  by_cases hit : i = t
  · subst hit
    rw [List.getElem?_set_self (by rw [h.size]; exact hi)] at hv
    cases hv
    have hs := slot_of h i
    simp only [Array.getD, hi, dif_pos] at hs
    exact (RepS.shared h.lin (fun j k => by simp [qSlot]) hs).1
  · rw [List.getElem?_set_ne (fun e => hit e.symm)] at hv
    exact (h.slots i v hi hv).mono (share_memLe h.lin) (fun _ _ h => h) (fun j k b x hx hp => lin_share_of hx (by rw [hp]; simp [qSlot, hit]))
theorem R.drop {B τ : Nat} {g : Gh} {st : St} {a : Act} {w : World} (h : R B τ g st a w) (t : Nat) (f : Place → Place) (hf : ∀ p, (∀ j k, p ≠ .slot τ t j k) → f p = p) : R B τ (g.ren f) { st with fr := st.fr.set t (map3 drop1 (getS st.fr t)) } a w := by
  refine ⟨by simpa using h.size, fun i v hi hv => ?_, ren_heap (fun _ _ => hf _ (by simp)) h.heap, h.mem, ren_lin h.lin, h.base, h.defers⟩
  by_cases hit : i = t
  · subst hit
    rw [List.getElem?_set_self (by rw [h.size]; exact hi)] at hv
    cases hv
    have hs := slot_of h i
    simp only [Array.getD, hi, dif_pos] at hs
    -- what is left needs no place
    generalize getS st.fr i = v at hs
    by_cases hv : ∃ vs, v = .tup vs
    · obtain ⟨vs, rfl⟩ := hv
      obtain ⟨cs, e1, h2, h3⟩ := hs
      refine ⟨cs, e1, by simpa using h2, fun k c hk hc => ?_⟩
      rw [List.getElem?_map] at hc
      obtain ⟨c0, hc0, rfl⟩ := Option.map_eq_some_iff.1 hc
      exact ((h3 k c0 hk hc0).moved (pl' := fun j => f (.slot τ i j (k + 1))) (fun j => rfl)).2
    · have hv' : ∀ vs, v ≠ .tup vs := fun vs e => hv ⟨vs, e⟩
      obtain ⟨a1, a2⟩ := map3_notTup isCell_drop1 hv'
      rw [repS_notTup hv'] at hs
      rw [a1, repS_notTup a2]
      exact (hs.moved (pl' := fun j => f (.slot τ i j 0)) (fun j => rfl)).2
  · rw [List.getElem?_set_ne (fun e => hit e.symm)] at hv
    refine RepS.mono (g := g) (g' := g.ren f) (MemLe.refl _) (fun _ _ h => h) (fun j k b x hx hp => lin_ren_of hx ?_) (h.slots i v hi hv)
    rw [hp]
    exact hf _ (by intro j k e; injection e with _ e; exact hit e)

theorem R.setSame {B τ : Nat} {g : Gh} {st : St} {a : Act} {w : World} {t : Nat} {v : V} (h : R B τ g { st with fr := st.fr.set t v } a w) (hv : v = getS st.fr t) : R B τ g st a w := by
  have e : st.fr.set t v = st.fr := by
    subst hv
    by_cases ht : t < st.fr.length
    · rw [getS_eq (List.getElem?_eq_getElem ht)]
      exact List.set_getElem_self ht
    · exact List.set_eq_of_length_le (by omega)
  rw [e] at h
  exact h

theorem later_share {B τ : Nat} {g : Gh} {st : St} {a : Act} {w : World} (h : R B τ g st a w) (t : Nat) : Later B τ g (g.share (qSlot τ t)) w w :=
  share_later h.lin (fun τ' x j k hq => by simp [qSlot] at hq; exact hq.1)

/-- What is a constant is what it is. -/
theorem ofVal1_rep (g : Gh) (p : Place) (v : Value) (h : v.oneCell' = true) : RepC g p (ofVal1 v) v := by
  unfold ofVal1
  split <;> simp only [RepC]
  case _ => exact .bool _
  case _ => exact .int _ _
  case _ => exact .str _
  case _ => exact .nilp
  case _ => exact .nils
  case _ => exact .nili
  case _ => exact .nilf
  case _ => exact .nilm
  case _ => exact h
end Go.Fw
