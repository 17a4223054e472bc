/- A state may be told otherwise on the way: what grows alone becomes an array of the evaluator's heap; slots are weakened. -/
import Derived.Test.YtipeadpepapmpaaFwSem
set_option linter.all false
namespace Go.Fw
open Go.RowKit

/-- One state leads to another with nothing done. -/
def StTo (st st' : St) : Prop := ∀ (B τ : Nat) (g : Gh) (a : Act) (w : World), R B τ g st a w → ∃ g', Later B τ g g' w w ∧ R B τ g' st' a w
theorem StTo.refl (st : St) : StTo st st := fun _ _ g _ _ h => ⟨g, Later.refl .., h⟩
theorem StTo.trans {a b c : St} (h : StTo a b) (k : StTo b c) : StTo a c := fun B τ g x w hr => by
  obtain ⟨g1, l1, r1⟩ := h B τ g x w hr
  obtain ⟨g2, l2, r2⟩ := k B τ g1 x w r1
  exact ⟨g2, l1.trans l2, r2⟩
theorem StTo.relax (keep : List (Nat × Fm)) (st : St) : StTo st (relax keep st) := fun _ _ g _ _ h => ⟨g, Later.refl .., h.weak (relaxFr_le keep st.fr 0)⟩

inductive Tell where
  | thaw (t : Nat) | thawAt (t j : Nat) | relax (keep : List (Nat × Fm)) | put (t : Nat) (f : Fm)
def tell1 (st : St) : Tell → Option St
  | .thaw t => match getS st.fr t with
    | .lin true e _ xs => some ⟨st.fr.set t (.own st.h.length 0 xs.length), st.h ++ [.cells (xs.flatMap V.cells) e]⟩
    | _ => none
  | .thawAt t j => match getS st.fr t with
    | .agg vs => match vs[j]? with
      | some (.lin true e _ xs) => some ⟨st.fr.set t (.agg (vs.set j (.own st.h.length 0 xs.length))), st.h ++ [.cells (xs.flatMap V.cells) e]⟩
      | _ => none
    | _ => none
  | .relax keep => some (Fw.relax keep st)
  | .put t f => some { st with fr := st.fr.set t (f.ap (getS st.fr t)) }
def tell : List Tell → St → Option St
  | [], st => some st
  | x :: r, st => match tell1 st x with
    | some st => tell r st
    | none => none

theorem thaw_cell {B τ : Nat} {g : Gh} {st : St} {a : Act} {w : World} (h : R B τ g st a w) {t q : Nat} {e : TypeId} {sz : Nat} {xs : List V} {u : Value} {v' : V} (hu : RepC g (.slot τ t q 0) (.lin true e sz xs) u)
    (hv' : ∀ g' : Gh, MemLe g.mem g'.mem → (∀ id b, g.loc id = some b → g'.loc id = some b) → (∀ b i, g.lin b = some i → i.place ≠ .slot τ t q 0 → g'.lin b = some i) → RepC g' (.slot τ t q 0) (.own st.h.length 0 xs.length) u → ∀ x, a.tmps[t]? = some x → RepS g' τ t v' x) :
    ∃ g', Later B τ g g' w w ∧ R B τ g' ⟨st.fr.set t v', st.h ++ [.cells (xs.flatMap V.cells) e]⟩ a w := by
  have slots : ∀ g' : Gh, MemLe g.mem g'.mem → (∀ id b, g.loc id = some b → g'.loc id = some b) → (∀ b i, g.lin b = some i → i.place ≠ .slot τ t q 0 → g'.lin b = some i) → RepC g' (.slot τ t q 0) (.own st.h.length 0 xs.length) u →
      ∀ (i : Nat) (v : V) (hi : i < a.tmps.size), (st.fr.set t v')[i]? = some v → RepS g' τ i v a.tmps[i] := by
    intro g' h1 h2 h3 h4 i v hi hv
    by_cases e : t = i
    · subst e
      have hlt : t < st.fr.length := by rw [h.size]; exact hi
      rw [List.getElem?_set_self hlt] at hv
      cases hv
      exact hv' g' h1 h2 h3 h4 _ (Array.getElem?_eq_getElem hi)
    · rw [List.getElem?_set_ne e] at hv
      exact RepS.mono h1 h2 (fun j k b x hx hp => h3 b x hx (by rw [hp]; intro e'; injection e' with _ e'; exact e e'.symm)) (h.slots i v hi hv)
  simp only [RepC] at hu
  rcases hu with ⟨b, i, hb, hp, hpr, ⟨rfl, rfl⟩, rfl, hel⟩ | ⟨rfl, hz0, ad, rfl⟩
  rotate_left
  · refine ⟨g, Later.refl .., ⟨by simpa using h.size, slots g (MemLe.refl _) (fun _ _ h => h) (fun _ _ h _ => h) (.inr ⟨rfl, ad, rfl⟩), ⟨fun id x hx => ?_, h.heap.inj, h.heap.fresh, fun id x cs e hx he => ?_⟩, h.mem, h.lin, h.base, h.defers⟩⟩
    · have := h.heap.bound _ _ hx; simp; omega
    · have hlt := h.heap.bound _ _ hx
      rw [List.getElem?_append_left hlt] at he
      exact h.heap.blk id x cs e hx he
  obtain ⟨k1, ⟨cur, k2, k3, k4⟩, k5, k6, k7, k8, _⟩ := h.lin.at_ b i hb
  have hmb := k8 hpr
  have hnl : ∀ id, g.loc id ≠ some b := by
    intro id hid
    obtain ⟨_, _, _, h4⟩ := h.heap.fresh id b hid
    rw [hb] at h4; cases h4
  have hno : g.loc st.h.length = none := by
    cases hh : g.loc st.h.length with
    | none => rfl
    | some x => have := h.heap.bound _ _ hh; omega
  have hloc : ∀ id x, g.loc id = some x → (g.thaw st.h.length b).loc id = some x := by
    intro id x hx
    unfold Gh.thaw; dsimp only
    rw [if_neg (by rintro rfl; rw [hno] at hx; cases hx)]
    exact hx
  have hlin : ∀ x i', g.lin x = some i' → i'.place ≠ .slot τ t q 0 → (g.thaw st.h.length b).lin x = some i' := by
    intro x i' hx hne
    unfold Gh.thaw; dsimp only
    rw [if_neg (by rintro rfl; rw [hb] at hx; cases hx; exact hne hp)]
    exact hx
  have hwl : xs.length ≤ i.cap := by rw [hel.1] at k5; exact Nat.le_of_mul_le_mul_right k5 k7
  refine ⟨g.thaw st.h.length b, ⟨Below.refl _ _, MemLe.refl _, fun _ _ => rfl, hloc, fun x i' hx ⟨τ', y, j, k, hq, hne⟩ => hlin x i' hx (by rw [hq]; intro e; injection e with e _; exact hne e)⟩,
    ⟨by simpa using h.size, slots _ (MemLe.refl _) hloc hlin (.inl ⟨b, i.cap, ?_, rfl, hwl, k6⟩), ⟨fun id x hx => ?_, fun id id' x h1 h2 => ?_, fun id x hx => ?_, fun id x cs e hx he => ?_⟩, h.mem, ⟨fun x i' hx => ?_⟩, h.base, h.defers⟩⟩
  · unfold Gh.thaw; dsimp only; rw [if_pos rfl]
  · unfold Gh.thaw at hx; dsimp only at hx
    rw [List.length_append]
    split at hx
    · rename_i e; subst e; simp
    · have := h.heap.bound _ _ hx; simp; omega
  · unfold Gh.thaw at h1 h2; dsimp only at h1 h2
    split at h1 <;> split at h2
    · rename_i e1 e2; rw [e1, e2]
    · cases h1; exact absurd h2 (hnl _)
    · cases h2; exact absurd h1 (hnl _)
    · exact h.heap.inj _ _ _ h1 h2
  · unfold Gh.thaw at hx; dsimp only at hx
    split at hx
    · cases hx
      refine ⟨k1, (Array.getElem?_eq_some_iff.1 k2).1, hmb, ?_⟩
      unfold Gh.thaw; dsimp only; rw [if_pos rfl]
    · obtain ⟨h1, h2, h3, h4⟩ := h.heap.fresh id x hx
      refine ⟨h1, h2, h3, ?_⟩
      unfold Gh.thaw; dsimp only
      rw [if_neg (by rintro rfl; exact hnl _ hx)]; exact h4
  · unfold Gh.thaw at hx; dsimp only at hx
    split at hx
    · rename_i e'
      subst e'
      cases hx
      rw [List.getElem?_append_right (Nat.le_refl _)] at he
      simp at he
      obtain ⟨rfl, rfl⟩ := he
      have hfl := flatMap_len hel.2.2.1
      refine ⟨cur, k2, by rw [hfl, k4]; exact Nat.mul_le_mul_right _ hwl, fun j c hj hc => ?_⟩
      obtain ⟨x, h1, h2⟩ := flatMap_at hel.2.2.1 k7 hc
      obtain ⟨q1, q, q2, q3⟩ := hel.2.2.2 _ x _ c h1 h2
      have hjj : j / i.esz * i.esz + j % i.esz = j := by rw [Nat.mul_comm]; exact Nat.div_add_mod _ _
      rw [hjj] at q2
      have := mem_of_prefix k3 q2
      rw [Array.getElem?_eq_getElem hj] at this
      cases this
      exact cell_flat q1 q3
    · rename_i hne
      have hlt := h.heap.bound _ _ hx
      rw [List.getElem?_append_left hlt] at he
      obtain ⟨cur', h1, h2, h3⟩ := h.heap.blk id x cs e hx he
      exact ⟨cur', h1, h2, fun j c hj hc => RepC.mono (g := g) (g' := g.thaw st.h.length b) (MemLe.refl _) hloc (fun y i0 hy hp => hlin y i0 hy (by rw [hp]; intro e; cases e)) (h3 j c hj hc)⟩
  · unfold Gh.thaw at hx; dsimp only at hx
    split at hx
    · cases hx
    · exact h.lin.at_ x i' hx

theorem tell1_ok {st st' : St} {x : Tell} (h : tell1 st x = some st') : StTo st st' := by
  intro B τ g a w hR
  unfold tell1 at h
  split at h
  · rename_i t
    split at h
    · rename_i e sz xs hv
      cases h
      by_cases ht : t < a.tmps.size
      · have hs : RepS g τ t (.lin true e sz xs) a.tmps[t] := hR.slots t _ ht (by
          have hlt : t < st.fr.length := by rw [hR.size]; exact ht
          rw [List.getElem?_eq_getElem hlt, ← getS_eq (List.getElem?_eq_getElem hlt), hv])
        exact thaw_cell hR (q := 0) hs (fun g' h1 h2 h3 h4 x hx => by
          rw [Array.getElem?_eq_getElem ht] at hx
          cases hx
          exact h4)
      · exfalso
        have : getS st.fr t = .undef := by
          unfold getS
          rw [List.getD_eq_getElem?_getD, List.getElem?_eq_none (by rw [hR.size]; omega)]
          rfl
        rw [this] at hv; cases hv
    · cases h
  · rename_i t j
    split at h
    · rename_i vs hv
      split at h
      · rename_i e sz xs hj
        cases h
        by_cases ht : t < a.tmps.size
        · have hs : RepS g τ t (.agg vs) a.tmps[t] := hR.slots t _ ht (by
            have hlt : t < st.fr.length := by rw [hR.size]; exact ht
            rw [List.getElem?_eq_getElem hlt, ← getS_eq (List.getElem?_eq_getElem hlt), hv])
          obtain ⟨cs, hcs, hl, hc⟩ := hs
          have hjl : j < cs.size := by rw [← hl]; exact (List.getElem?_eq_some_iff.1 hj).1
          refine thaw_cell hR (q := j + 1) (hc j _ hjl hj) (fun g' h1 h2 h3 h4 x hx => ?_)
          rw [Array.getElem?_eq_getElem ht] at hx
          cases hx
          refine ⟨cs, hcs, by simpa using hl, fun i c hi hci => ?_⟩
          by_cases e : j = i
          · subst e
            rw [List.getElem?_set_self (by omega)] at hci
            cases hci
            exact h4
          · rw [List.getElem?_set_ne e] at hci
            exact (hc i c hi hci).mono h1 h2 (fun b x hx hp => h3 b x hx (by rw [hp]; intro e'; injection e' with _ _ e'; omega))
        · exfalso
          have : getS st.fr t = .undef := by
            unfold getS
            rw [List.getD_eq_getElem?_getD, List.getElem?_eq_none (by rw [hR.size]; omega)]
            rfl
          rw [this] at hv; cases hv
      · cases h
    · cases h
  · cases h
    exact StTo.relax _ _ B τ g a w hR
  · rename_i t f
    cases h
    refine ⟨g, Later.refl .., hR.weak ⟨by simp, fun i v v' hv hv' => ?_⟩⟩
    by_cases e : t = i
    · subst e
      have hlt := (List.getElem?_eq_some_iff.1 hv).1
      rw [List.getElem?_set_self hlt] at hv'
      cases hv'
      rw [getS_eq hv]
      exact f.le v
    · rw [List.getElem?_set_ne e] at hv'
      rw [hv] at hv'
      cases hv'
      exact VLe.rfl
theorem tell_ok : ∀ {l : List Tell} {st st' : St}, tell l st = some st' → StTo st st'
  | [], st, st', h => by cases h; exact StTo.refl _
  | x :: r, st, st', h => by
    unfold tell at h
    split at h
    · rename_i s hs
      exact (tell1_ok hs).trans (tell_ok h)
    · cases h
end Go.Fw
