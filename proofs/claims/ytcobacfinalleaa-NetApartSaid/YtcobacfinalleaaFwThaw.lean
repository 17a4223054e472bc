/- A state may be told otherwise on the way: what grows alone becomes an array of the evaluator's heap; slots are weakened. -/
import Derived.Test.YtcobacfinalleaaFwSem
set_option linter.all false
namespace Go.Fw
open Go.RowKit

/-- One state leads to another with nothing done. -/
def StTo (N : Nat) (st st' : St) : Prop := ∀ (B τ : Nat) (g : Gh) (a : Act) (w : World), R B τ g st a w → ∃ g', LaterN N B τ g g' w w ∧ R B τ g' st' a w
theorem StTo.refl {N : Nat} (st : St) : StTo N st st := fun _ _ g _ _ h => ⟨g, LaterN.refl .., h⟩
theorem StTo.trans {N : Nat} {a b c : St} (h : StTo N a b) (k : StTo N b c) : StTo N a c := fun B τ g x w hr => by
  obtain ⟨g1, l1, r1⟩ := h B τ g x w hr
  obtain ⟨g2, l2, r2⟩ := k B τ g1 x w r1
  exact ⟨g2, l1.trans l2, r2⟩

/-! ### boxes that nobody holds any more -/
def refB0 (M : Nat) : V → Bool
  | .ptr id _ => decide (id < M)
  | _ => true
def refB1 (M : Nat) : V → Bool
  | .ptr id _ => decide (id < M)
  | .own id _ _ _ => decide (id < M)
  | .fn _ first caps => first.all (refB0 M) && caps.all (refB0 M)
  | _ => true
def refB2 (M : Nat) : V → Bool
  | .agg vs => vs.all (refB1 M)
  | v => refB1 M v
def refB3 (M : Nat) : V → Bool
  | .tup vs => vs.all (refB2 M)
  | v => refB2 M v
def Gh.cut (g : Gh) (M : Nat) : Gh := { g with loc := fun id => if id < M then g.loc id else none }
theorem cut_loc {g : Gh} {M id b : Nat} (hi : id < M) (h : g.loc id = some b) : (g.cut M).loc id = some b := by
  show (if id < M then g.loc id else none) = some b
  rw [if_pos hi]; exact h
theorem RepP.cut {g : Gh} {M : Nat} {v : V} {u : Value} (hv : refB0 M v = true) (h : RepP g v u) : RepP (g.cut M) v u := by
  unfold RepP at *
  split at h
  · obtain ⟨b, h1, h2⟩ := h
    simp only [refB0, decide_eq_true_eq] at hv
    exact ⟨b, cut_loc hv h1, h2⟩
  · exact h
theorem RepC.cut {g : Gh} {M : Nat} {p : Place} {v : V} {u : Value} (hv : refB1 M v = true) (h : RepC g p v u) : RepC (g.cut M) p v u := by
  cases v with
  | ptr id off =>
    obtain ⟨b, h1, h2⟩ := h
    simp only [refB1, decide_eq_true_eq] at hv
    exact ⟨b, cut_loc hv h1, h2⟩
  | own id off len room =>
    simp only [refB1, decide_eq_true_eq] at hv
    rcases h with ⟨b, cap, h1, h2⟩ | h
    · exact .inl ⟨b, cap, cut_loc hv h1, h2⟩
    · exact .inr h
  | fn f first caps =>
    simp only [refB1, Bool.and_eq_true, List.all_eq_true] at hv
    obtain ⟨a, c, h1, h2, h3, h4, h5⟩ := h
    exact ⟨a, c, h1, h2, h3, fun j x hj hx => (h4 j x hj hx).cut (hv.1 _ (List.mem_of_getElem? hx)), fun j x hj hx => (h5 j x hj hx).cut (hv.2 _ (List.mem_of_getElem? hx))⟩
  | agg => exact h.elim
  | tup => exact h.elim
  | _ => exact h
theorem RepA.cut {g : Gh} {M : Nat} {pl : Nat → Place} {v : V} {u : Value} (hv : refB2 M v = true) (h : RepA g pl v u) : RepA (g.cut M) pl v u := by
  by_cases ha : ∃ vs, v = .agg vs
  · obtain ⟨vs, rfl⟩ := ha
    simp only [refB2, List.all_eq_true] at hv
    obtain ⟨cs, h1, h2, h3⟩ := h
    exact ⟨cs, h1, h2, fun j c hj hc => (h3 j c hj hc).cut (hv _ (List.mem_of_getElem? hc))⟩
  · have hv' : refB1 M v = true := by cases v <;> first | exact hv | exact absurd ⟨_, rfl⟩ ha
    rcases repA_inv h with e | h | h
    · subst e; trivial
    · exact repA_cell (h.cut hv')
    · exact absurd h ha
theorem RepS.cut {g : Gh} {M τ i : Nat} {v : V} {u : Value} (hv : refB3 M v = true) (h : RepS g τ i v u) : RepS (g.cut M) τ i v u := by
  by_cases ha : ∃ vs, v = .tup vs
  · obtain ⟨vs, rfl⟩ := ha
    simp only [refB3, List.all_eq_true] at hv
    obtain ⟨cs, h1, h2, h3⟩ := h
    exact ⟨cs, h1, h2, fun k c hk hc => (h3 k c hk hc).cut (hv _ (List.mem_of_getElem? hc))⟩
  · have hn : ∀ vs, v ≠ .tup vs := fun vs e => ha ⟨vs, e⟩
    have hv' : refB2 M v = true := by cases v <;> first | exact hv | exact absurd rfl (hn _)
    rw [repS_notTup hn] at h ⊢
    exact h.cut hv'
def blkBelow (M : Nat) : Blk → Bool
  | .cells cs _ => cs.all (refB1 M)
  | .dead => true
/-- The boxes from 'M' on are forgotten. -/
def cutSt (M : Nat) (st : St) : St := ⟨st.fr.map fun v => match refB3 M v with | true => v | false => .undef, st.h.take M⟩
theorem R.cut {B τ : Nat} {g : Gh} {st : St} {a : Act} {w : World} {M : Nat} (h : R B τ g st a w) (hb : (st.h.take M).all (blkBelow M) = true) : R B τ (g.cut M) (cutSt M st) a w := by
  refine ⟨by simpa [cutSt] using h.size, fun i v hi hv => ?_, ⟨fun id b hl => ?_, fun id id' b h1 h2 => ?_, fun id b hl => ?_, fun id b cs e hl he => ?_⟩, ⟨h.mem.at_⟩, ⟨h.lin.at_⟩, h.base, h.defers⟩
  · simp only [cutSt, List.getElem?_map] at hv
    obtain ⟨v0, hv0, rfl⟩ := Option.map_eq_some_iff.1 hv
    cases hr : refB3 M v0 with
    | true => exact (h.slots i v0 hi hv0).cut hr
    | false => trivial
  · have hl : (if id < M then g.loc id else none) = some b := hl
    split at hl
    · rename_i hm
      have := h.heap.bound id b hl
      simp [cutSt]; omega
    · cases hl
  · have h1 : (if id < M then g.loc id else none) = some b := h1
    have h2 : (if id' < M then g.loc id' else none) = some b := h2
    split at h1 <;> split at h2 <;> first | exact h.heap.inj _ _ _ h1 h2 | cases h1 | cases h2
  · have hl : (if id < M then g.loc id else none) = some b := hl
    split at hl
    · exact h.heap.fresh id b hl
    · cases hl
  · have hl : (if id < M then g.loc id else none) = some b := hl
    split at hl
    · rename_i hm
      have he : (st.h.take M)[id]? = some (.cells cs e) := he
      have hmem := List.mem_of_getElem? he
      rw [List.all_eq_true] at hb
      have hcs := hb _ hmem
      simp only [blkBelow, List.all_eq_true] at hcs
      rw [List.getElem?_take, if_pos hm] at he
      obtain ⟨cur, q1, q2, q3⟩ := h.heap.blk id b cs e hl he
      exact ⟨cur, q1, q2, fun j c hj hc => (q3 j c hj hc).cut (hcs _ (List.mem_of_getElem? hc))⟩
    · cases hl

inductive Tell where
  | thaw (t : Nat) | thawAt (t j : Nat) | relax (keep : List (Nat × Fm)) | put (t : Nat) (f : Fm) | cut (M : Nat)
def tell1 (N : Nat) (st : St) : Tell → Option St
  | .cut M => match decide (N ≤ M) && (st.h.take M).all (blkBelow M) with
    | true => some (cutSt M st)
    | false => none
  | .thaw t => match getS st.fr t with
    | .lin true e _ xs => some ⟨st.fr.set t (.own st.h.length 0 xs.length xs.length), st.h ++ [.cells (xs.flatMap V.cells) e]⟩
    | _ => none
  | .thawAt t j => match getS st.fr t with
    | .agg vs => match vs[j]? with
      | some (.lin true e _ xs) => some ⟨st.fr.set t (.agg (vs.set j (.own st.h.length 0 xs.length xs.length))), st.h ++ [.cells (xs.flatMap V.cells) e]⟩
      | _ => none
    | _ => none
  | .relax keep => some (Fw.relax keep st)
  | .put t f => some { st with fr := st.fr.set t (f.ap (getS st.fr t)) }
def tell (N : Nat) : List Tell → St → Option St
  | [], st => some st
  | x :: r, st => match tell1 N st x with
    | some st => tell N r st
    | none => none

theorem thaw_cell {B τ : Nat} {g : Gh} {st : St} {a : Act} {w : World} (h : R B τ g st a w) {t q : Nat} {e : TypeId} {sz : Nat} {xs : List V} {u : Value} {v' : V} (hu : RepC g (.slot τ t q 0) (.lin true e sz xs) u)
    (hv' : ∀ g' : Gh, MemLe g.mem g'.mem → (∀ id b, g.loc id = some b → g'.loc id = some b) → (∀ b i, g.lin b = some i → i.place ≠ .slot τ t q 0 → g'.lin b = some i) → RepC g' (.slot τ t q 0) (.own st.h.length 0 xs.length xs.length) u → ∀ x, a.tmps[t]? = some x → RepS g' τ t v' x) :
    ∃ g', Later B τ g g' w w ∧ R B τ g' ⟨st.fr.set t v', st.h ++ [.cells (xs.flatMap V.cells) e]⟩ a w := by
  have slots : ∀ g' : Gh, MemLe g.mem g'.mem → (∀ id b, g.loc id = some b → g'.loc id = some b) → (∀ b i, g.lin b = some i → i.place ≠ .slot τ t q 0 → g'.lin b = some i) → RepC g' (.slot τ t q 0) (.own st.h.length 0 xs.length xs.length) u →
      ∀ (i : Nat) (v : V) (hi : i < a.tmps.size), (st.fr.set t v')[i]? = some v → RepS g' τ i v a.tmps[i] := by
    intro g' h1 h2 h3 h4 i v hi hv
    by_cases e : t = i
    · subst e
      have hlt : t < st.fr.length := by rw [h.size]; exact hi
      rw [List.getElem?_set_self hlt] at hv
      cases hv
      exact hv' g' h1 h2 h3 h4 _ (Array.getElem?_eq_getElem hi)
    · rw [List.getElem?_set_ne e] at hv
      exact RepS.mono h1 h2 (fun j k b x hx hp => h3 b x hx (by rw [hp]; intro e'; injection e' with _ e'; exact e e'.symm)) (h.slots i v hi hv)
  simp only [RepC] at hu
  rcases hu with ⟨b, i, hb, hp, hpr, ⟨rfl, rfl⟩, rfl, hel⟩ | ⟨rfl, hz0, ad, rfl⟩
  rotate_left
  · refine ⟨g, Later.refl .., ⟨by simpa using h.size, slots g (MemLe.refl _) (fun _ _ h => h) (fun _ _ h _ => h) (.inr ⟨rfl, rfl, ad, rfl⟩), ⟨fun id x hx => ?_, h.heap.inj, h.heap.fresh, fun id x cs e hx he => ?_⟩, h.mem, h.lin, h.base, h.defers⟩⟩
    · have := h.heap.bound _ _ hx; simp; omega
    · have hlt := h.heap.bound _ _ hx
      rw [List.getElem?_append_left hlt] at he
      exact h.heap.blk id x cs e hx he
  obtain ⟨k1, ⟨cur, k2, k3, k4⟩, k5, k6, k7, k8, _⟩ := h.lin.at_ b i hb
  have hmb := k8 hpr
  have hnl : ∀ id, g.loc id ≠ some b := by
    intro id hid
    obtain ⟨_, _, _, h4⟩ := h.heap.fresh id b hid
    rw [hb] at h4; cases h4
  have hno : g.loc st.h.length = none := by
    cases hh : g.loc st.h.length with
    | none => rfl
    | some x => have := h.heap.bound _ _ hh; omega
  have hloc : ∀ id x, g.loc id = some x → (g.thaw st.h.length b).loc id = some x := by
    intro id x hx
    unfold Gh.thaw; dsimp only
    rw [if_neg (by rintro rfl; rw [hno] at hx; cases hx)]
    exact hx
  have hlin : ∀ x i', g.lin x = some i' → i'.place ≠ .slot τ t q 0 → (g.thaw st.h.length b).lin x = some i' := by
    intro x i' hx hne
    unfold Gh.thaw; dsimp only
    rw [if_neg (by rintro rfl; rw [hb] at hx; cases hx; exact hne hp)]
    exact hx
  have hwl : xs.length ≤ i.cap := by rw [hel.1] at k5; exact Nat.le_of_mul_le_mul_right k5 k7
  refine ⟨g.thaw st.h.length b, ⟨Below.refl _ _, MemLe.refl _, fun _ _ => rfl, hloc, fun x i' hx ⟨τ', y, j, k, hq, hne⟩ => hlin x i' hx (by rw [hq]; intro e; injection e with e _; exact hne e)⟩,
    ⟨by simpa using h.size, slots _ (MemLe.refl _) hloc hlin (.inl ⟨b, i.cap, ?_, rfl, hwl, k6, hwl⟩), ⟨fun id x hx => ?_, fun id id' x h1 h2 => ?_, fun id x hx => ?_, fun id x cs e hx he => ?_⟩, h.mem, ⟨fun x i' hx => ?_⟩, h.base, h.defers⟩⟩
  · unfold Gh.thaw; dsimp only; rw [if_pos rfl]
  · unfold Gh.thaw at hx; dsimp only at hx
    rw [List.length_append]
    split at hx
    · rename_i e; subst e; simp
    · have := h.heap.bound _ _ hx; simp; omega
  · unfold Gh.thaw at h1 h2; dsimp only at h1 h2
    split at h1 <;> split at h2
    · rename_i e1 e2; rw [e1, e2]
    · cases h1; exact absurd h2 (hnl _)
    · cases h2; exact absurd h1 (hnl _)
    · exact h.heap.inj _ _ _ h1 h2
  · unfold Gh.thaw at hx; dsimp only at hx
    split at hx
    · cases hx
      refine ⟨k1, (Array.getElem?_eq_some_iff.1 k2).1, hmb, ?_⟩
      unfold Gh.thaw; dsimp only; rw [if_pos rfl]
    · obtain ⟨h1, h2, h3, h4⟩ := h.heap.fresh id x hx
      refine ⟨h1, h2, h3, ?_⟩
      unfold Gh.thaw; dsimp only
      rw [if_neg (by rintro rfl; exact hnl _ hx)]; exact h4
  · unfold Gh.thaw at hx; dsimp only at hx
    split at hx
    · rename_i e'
      subst e'
      cases hx
      rw [List.getElem?_append_right (Nat.le_refl _)] at he
      simp at he
      obtain ⟨rfl, rfl⟩ := he
      have hfl := flatMap_len hel.2.2.1
      refine ⟨cur, k2, by rw [hfl, k4]; exact Nat.mul_le_mul_right _ hwl, fun j c hj hc => ?_⟩
      obtain ⟨x, h1, h2⟩ := flatMap_at hel.2.2.1 k7 hc
      obtain ⟨q1, q, q2, q3⟩ := hel.2.2.2 _ x _ c h1 h2
      have hjj : j / i.esz * i.esz + j % i.esz = j := by rw [Nat.mul_comm]; exact Nat.div_add_mod _ _
      rw [hjj] at q2
      have := mem_of_prefix k3 q2
      rw [Array.getElem?_eq_getElem hj] at this
      cases this
      exact cell_flat q1 q3
    · rename_i hne
      have hlt := h.heap.bound _ _ hx
      rw [List.getElem?_append_left hlt] at he
      obtain ⟨cur', h1, h2, h3⟩ := h.heap.blk id x cs e hx he
      exact ⟨cur', h1, h2, fun j c hj hc => RepC.mono (g := g) (g' := g.thaw st.h.length b) (MemLe.refl _) hloc (fun y i0 hy hp => hlin y i0 hy (by rw [hp]; intro e; cases e)) (h3 j c hj hc)⟩
  · unfold Gh.thaw at hx; dsimp only at hx
    split at hx
    · cases hx
    · exact h.lin.at_ x i' hx

theorem tell1_ok {N : Nat} {st st' : St} {x : Tell} (h : tell1 N st x = some st') : StTo N st st' := by
  intro B τ g a w hR
  have strong : ∀ {st' : St}, (∃ g', Later B τ g g' w w ∧ R B τ g' st' a w) → ∃ g', LaterN N B τ g g' w w ∧ R B τ g' st' a w := fun ⟨g', l, r⟩ => ⟨g', .of l, r⟩
  unfold tell1 at h
  split at h
  · rename_i M
    split at h
    · rename_i hc
      cases h
      simp only [Bool.and_eq_true, decide_eq_true_eq] at hc
      exact ⟨g.cut M, ⟨Below.refl _ _, MemLe.refl _, fun _ _ => rfl, fun id b hn hl => cut_loc (by omega) hl, fun _ _ h _ => h⟩, hR.cut hc.2⟩
    · cases h
  · rename_i t
    split at h
    · rename_i e sz xs hv
      cases h
      by_cases ht : t < a.tmps.size
      · have hs : RepS g τ t (.lin true e sz xs) a.tmps[t] := hR.slots t _ ht (by
          have hlt : t < st.fr.length := by rw [hR.size]; exact ht
          rw [List.getElem?_eq_getElem hlt, ← getS_eq (List.getElem?_eq_getElem hlt), hv])
        exact strong <| thaw_cell hR (q := 0) hs (fun g' h1 h2 h3 h4 x hx => by
          rw [Array.getElem?_eq_getElem ht] at hx
          cases hx
          exact h4)
      · exfalso
        have : getS st.fr t = .undef := by
          unfold getS
          rw [List.getD_eq_getElem?_getD, List.getElem?_eq_none (by rw [hR.size]; omega)]
          rfl
        rw [this] at hv; cases hv
    · cases h
  · rename_i t j
    split at h
    · rename_i vs hv
      split at h
      · rename_i e sz xs hj
        cases h
        by_cases ht : t < a.tmps.size
        · have hs : RepS g τ t (.agg vs) a.tmps[t] := hR.slots t _ ht (by
            have hlt : t < st.fr.length := by rw [hR.size]; exact ht
            rw [List.getElem?_eq_getElem hlt, ← getS_eq (List.getElem?_eq_getElem hlt), hv])
          obtain ⟨cs, hcs, hl, hc⟩ := hs
          have hjl : j < cs.size := by rw [← hl]; exact (List.getElem?_eq_some_iff.1 hj).1
          refine strong <| thaw_cell hR (q := j + 1) (hc j _ hjl hj) (fun g' h1 h2 h3 h4 x hx => ?_)
          rw [Array.getElem?_eq_getElem ht] at hx
          cases hx
          refine ⟨cs, hcs, by simpa using hl, fun i c hi hci => ?_⟩
          by_cases e : j = i
          · subst e
            rw [List.getElem?_set_self (by omega)] at hci
            cases hci
            exact h4
          · rw [List.getElem?_set_ne e] at hci
            exact (hc i c hi hci).mono h1 h2 (fun b x hx hp => h3 b x hx (by rw [hp]; intro e'; injection e' with _ _ e'; omega))
        · exfalso
          have : getS st.fr t = .undef := by
            unfold getS
            rw [List.getD_eq_getElem?_getD, List.getElem?_eq_none (by rw [hR.size]; omega)]
            rfl
          rw [this] at hv; cases hv
      · cases h
    · cases h
  · cases h
    exact ⟨g, LaterN.refl .., hR.weak (relaxFr_le _ st.fr 0)⟩
  · rename_i t f
    cases h
    refine ⟨g, LaterN.refl .., hR.weak ⟨by simp, fun i v v' hv hv' => ?_⟩⟩
    by_cases e : t = i
    · subst e
      have hlt := (List.getElem?_eq_some_iff.1 hv).1
      rw [List.getElem?_set_self hlt] at hv'
      cases hv'
      rw [getS_eq hv]
      exact f.le v
    · rw [List.getElem?_set_ne e] at hv'
      rw [hv] at hv'
      cases hv'
      exact VLe.rfl
theorem tell_ok {N : Nat} : ∀ {l : List Tell} {st st' : St}, tell N l st = some st' → StTo N st st'
  | [], st, st', h => by cases h; exact StTo.refl _
  | x :: r, st, st', h => by
    unfold tell at h
    split at h
    · rename_i s hs
      exact (tell1_ok hs).trans (tell_ok h)
    · cases h
end Go.Fw
