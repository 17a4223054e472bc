/- Steps of the evaluator's state: a copy, a taking, a new slot; and what they leave of the relation. -/
import Derived.Test.YtcobacfinalleaaFwRep
set_option linter.all false
namespace Go.Fw
open Go.RowKit

/-- What lies at places of a kind gets readers. -/
def Gh.share (g : Gh) (q : Place → Bool) : Gh where
  mem := fun b => match g.lin b with | some i => if q i.place then some i.cs else g.mem b | none => g.mem b
  loc := g.loc
  lin := fun b => (g.lin b).map fun i => if q i.place then { i with priv := false } else i
/-- What lies at places is held elsewhere from now on. -/
def Gh.ren (g : Gh) (f : Place → Place) : Gh where
  mem := g.mem
  loc := g.loc
  lin := fun b => (g.lin b).map fun i => { i with place := f i.place }

theorem share_memLe {g : Gh} {q : Place → Bool} {B : Nat} {w : World} (h : LinOk g B w) : MemLe g.mem (g.share q).mem := by
  intro b cs hb
  unfold Gh.share
  dsimp only
  cases hl : g.lin b with
  | none => exact ⟨cs, hb, List.prefix_refl _⟩
  | some i =>
    dsimp only
    split
    · obtain ⟨_, _, _, _, _, hp, hs⟩ := h.at_ b i hl
      cases hpr : i.priv with
      | true => rw [hp hpr] at hb; cases hb
      | false => rw [hs hpr] at hb; cases hb; exact ⟨_, rfl, List.prefix_refl _⟩
    · exact ⟨cs, hb, List.prefix_refl _⟩
theorem share_lin {g : Gh} {q : Place → Bool} {B : Nat} {w : World} (h : LinOk g B w) : LinOk (g.share q) B w := by
  constructor
  intro b i hi
  unfold Gh.share at hi ⊢
  dsimp only at hi ⊢
  cases hl : g.lin b with
  | none => rw [hl] at hi; cases hi
  | some i0 =>
    rw [hl] at hi
    simp only [Option.map_some, Option.some.injEq] at hi
    subst hi
    obtain ⟨h1, h2, h3, h4, h5, h6, h7⟩ := h.at_ b i0 hl
    by_cases hq : q i0.place = true
    · simp only [hq, if_true]
      exact ⟨h1, h2, h3, h4, h5, fun h => by simp at h, fun _ => trivial⟩
    · simp only [hq]
      exact ⟨h1, h2, h3, h4, h5, h6, h7⟩
theorem share_mem {g : Gh} {q : Place → Bool} {B : Nat} {w : World} (h : LinOk g B w) (hm : MemOk g.mem w) : MemOk (g.share q).mem w := by
  constructor
  intro b cs hb
  unfold Gh.share at hb
  dsimp only at hb
  cases hl : g.lin b with
  | none => rw [hl] at hb; exact hm.at_ b cs hb
  | some i =>
    rw [hl] at hb
    dsimp only at hb
    split at hb
    · cases hb
      obtain ⟨_, ⟨cur, h2, h3, _⟩, _⟩ := h.at_ b i hl
      exact ⟨cur, _, _, h2, h3⟩
    · exact hm.at_ b cs hb
theorem share_heap {g : Gh} {q : Place → Bool} {B : Nat} {H : List Blk} {w : World} (h : LinOk g B w) (hq : ∀ id j, q (.cell id j) = false) (hh : HeapOk g H B w) : HeapOk (g.share q) H B w := by
  refine ⟨hh.bound, hh.inj, fun id b hb => ?_, fun id b cs e hb he => ?_⟩
  · obtain ⟨h1, h2, h3, h4⟩ := hh.fresh id b hb
    refine ⟨h1, h2, ?_, ?_⟩
    · unfold Gh.share; dsimp only; rw [h4]; exact h3
    · unfold Gh.share; dsimp only; rw [h4]; rfl
  · obtain ⟨cur, h1, h2, h3⟩ := hh.blk id b cs e hb he
    refine ⟨cur, h1, h2, fun j c hj hc => (h3 j c hj hc).mono (share_memLe h) (fun _ _ h => h) (fun b i hi hp => ?_)⟩
    unfold Gh.share; dsimp only; rw [hi]; simp [hp, hq]
theorem ren_lin {g : Gh} {f : Place → Place} {B : Nat} {w : World} (h : LinOk g B w) : LinOk (g.ren f) B w := by
  constructor
  intro b i hi
  unfold Gh.ren at hi
  dsimp only at hi
  cases hl : g.lin b with
  | none => rw [hl] at hi; cases hi
  | some i0 =>
    rw [hl] at hi
    simp only [Option.map_some, Option.some.injEq] at hi
    subst hi
    exact h.at_ b i0 hl
theorem ren_heap {g : Gh} {f : Place → Place} {B : Nat} {H : List Blk} {w : World} (hf : ∀ id j, f (.cell id j) = .cell id j) (hh : HeapOk g H B w) : HeapOk (g.ren f) H B w := by
  refine ⟨hh.bound, hh.inj, fun id b hb => ?_, fun id b cs e hb he => ?_⟩
  · obtain ⟨h1, h2, h3, h4⟩ := hh.fresh id b hb
    refine ⟨h1, h2, h3, ?_⟩
    unfold Gh.ren; dsimp only; rw [h4]; rfl
  · obtain ⟨cur, h1, h2, h3⟩ := hh.blk id b cs e hb he
    refine ⟨cur, h1, h2, fun j c hj hc => RepC.mono (g := g) (g' := g.ren f) (MemLe.refl _) (fun _ _ h => h) (fun b i hi hp => ?_) (h3 j c hj hc)⟩
    unfold Gh.ren; dsimp only; rw [hi]
    cases i; simp at hp; simp [hp, hf]
theorem lin_share_of {g : Gh} {q : Place → Bool} {b : Nat} {i : LinI} (h : g.lin b = some i) (hq : q i.place = false) : (g.share q).lin b = some i := by
  unfold Gh.share; dsimp only; rw [h]; simp [hq]
theorem lin_ren_of {g : Gh} {f : Place → Place} {b : Nat} {i : LinI} (h : g.lin b = some i) (hf : f i.place = i.place) : (g.ren f).lin b = some i := by
  unfold Gh.ren; dsimp only; rw [h]; simp [hf]

theorem share_later {g : Gh} {q : Place → Bool} {B τ : Nat} {w : World} (h : LinOk g B w) (hq : ∀ τ' x j k, q (.slot τ' x j k) = true → τ' = τ) : Later B τ g (g.share q) w w := by
  refine ⟨Below.refl _ _, share_memLe h, fun b hb => ?_, fun _ _ h => h, fun b i hi ⟨τ', x, j, k, hp, hne⟩ => lin_share_of hi ?_⟩
  · unfold Gh.share; dsimp only
    cases hl : g.lin b with
    | none => rfl
    | some i => have := (h.at_ b i hl).1; omega
  · rw [hp]
    cases hh : q (.slot τ' x j k) with
    | false => rfl
    | true => exact absurd (hq _ _ _ _ hh) hne
theorem ren_later {g : Gh} {f : Place → Place} {B τ : Nat} {w : World} (hf : ∀ τ' x j k, τ' ≠ τ → f (.slot τ' x j k) = .slot τ' x j k) : Later B τ g (g.ren f) w w :=
  ⟨Below.refl _ _, MemLe.refl _, fun _ _ => rfl, fun _ _ h => h, fun b i hi ⟨τ', x, j, k, hp, hne⟩ => lin_ren_of hi (by rw [hp]; exact hf _ _ _ _ hne)⟩

/-! ### a cell that is copied, marked, taken -/
theorem repI_imm_of {m : Mem} {b cap esz : Nat} {xs : List V} {cs : List Value} (hb : m b = some cs) (he : Elems m esz xs cs) (hc : cs.length ≤ cap * esz) (hmx : cap ≤ maxLen) : RepI m (.imm false esz xs) (.slice (some ⟨b, 0, none⟩) xs.length cap) := by
  obtain ⟨h1, h2, h3, h4⟩ := he
  have hle : xs.length ≤ cap := by rw [h1] at hc; exact Nat.le_of_mul_le_mul_right hc h2
  refine .imm false xs b 0 cap esz (fun i j => (cs[i * esz + j]?).getD default) hle (fun h => by cases h) hmx h2 h3 (fun i x j c hx hj => ?_) (fun i x j c hx hj => ?_)
  · obtain ⟨a, v, hv, _⟩ := h4 i x j c hx hj
    refine ⟨a, ?_⟩
    unfold stAt
    rw [hb]
    simp [hv]
  · obtain ⟨a, v, hv, hr⟩ := h4 i x j c hx hj
    rw [hv]; exact hr

theorem repI_empty {m : Mem} {full : Bool} {esz : Nat} (hz : 0 < esz) (ad : Option Addr) : RepI m (.imm full esz []) (.slice ad 0 0) := by
  cases ad with
  | none => exact .none0 full esz hz
  | some a =>
    obtain ⟨b, off, sp⟩ := a
    exact .imm full [] b off 0 esz (fun _ _ => default) (Nat.le_refl 0) (fun _ => rfl) (by simp [maxLen]) hz (fun i x hx => by cases hx) (fun i x j c hx => by cases hx) (fun i x j c hx => by cases hx) sp (.inr rfl)

/-- Behind a share: the cell as its holder has it, and as a reader has it. -/
theorem RepC.shared {g : Gh} {q : Place → Bool} {B : Nat} {w : World} (hL : LinOk g B w) {p : Place} (hq : q p = true) {v : V} {u : Value} (h : RepC g p v u) : RepC (g.share q) p (mark1 v) u ∧ ∀ p', RepC (g.share q) p' (demote1 v) u := by
  have hm : MemLe g.mem (g.share q).mem := share_memLe hL
  cases v with
  | lin priv e n xs =>
    simp only [RepC, mark1, demote1] at h ⊢
    rcases h with ⟨b, i, h1, h2, h3, ⟨rfl, rfl⟩, h4, h5⟩ | h
    rotate_left
    · refine ⟨.inr h, fun _ => ?_⟩
      obtain ⟨rfl, hz, ad, rfl⟩ := h
      exact repI_empty hz ad
    obtain ⟨k1, k2, k3, k4, k5, _, _⟩ := hL.at_ b i h1
    have hl : (g.share q).lin b = some { i with priv := false } := by unfold Gh.share; dsimp only; rw [h1]; simp [h2, hq]
    have hme : (g.share q).mem b = some i.cs := by unfold Gh.share; dsimp only; rw [h1]; simp [h2, hq]
    refine ⟨.inl ⟨b, _, hl, h2, rfl, ⟨rfl, rfl⟩, h4, h5.mono hm⟩, fun p' => ?_⟩
    rw [h4]
    exact repI_imm_of hme (h5.mono hm) k3 k4
  | undef => exact ⟨h, fun _ => h⟩
  | ptr => simp only [RepC, mark1, demote1] at h ⊢; exact ⟨h, fun _ => h⟩
  | own => simp only [RepC, mark1, demote1] at h ⊢; exact ⟨h, fun _ => h⟩
  | agg => exact h.elim
  | tup => exact h.elim
  | fn f a c =>
    have := fun p' => RepC.mono (p := p') (g' := g.share q) (v := V.fn f a c) (u := u) hm (fun _ _ h => h)
    simp only [RepC, mark1, demote1] at h ⊢
    obtain ⟨a', c', h1, h2, h3, h4, h5⟩ := h
    have hh : ∃ first' caps', u = .func f first' caps' ∧ a.length = first'.size ∧ c.length = caps'.size ∧
      (∀ (j : Nat) (x : V) (h : j < first'.size), a[j]? = some x → RepP (g.share q) x first'[j]) ∧ (∀ (j : Nat) (x : V) (h : j < caps'.size), c[j]? = some x → RepP (g.share q) x caps'[j]) :=
      ⟨a', c', h1, h2, h3, fun j x hj hx => (h4 j x hj hx).mono hm (fun _ _ h => h), fun j x hj hx => (h5 j x hj hx).mono hm (fun _ _ h => h)⟩
    exact ⟨hh, fun _ => hh⟩
  | _ => simp only [RepC, mark1, demote1] at h ⊢; exact ⟨h.mono hm, fun _ => h.mono hm⟩

/-- A cell that is taken elsewhere, and what is left. -/
theorem RepC.moved {g : Gh} {f : Place → Place} {p p' : Place} (hf : f p = p') {v : V} {u : Value} (h : RepC g p v u) : RepC (g.ren f) p' v u ∧ RepC (g.ren f) p (drop1 v) u := by
  cases v with
  | lin priv e n xs =>
    simp only [RepC, drop1] at h ⊢
    rcases h with ⟨b, i, h1, h2, h3, h0, h4, h5⟩ | h
    rotate_left
    · obtain ⟨h1, h2, ad, rfl⟩ := h
      exact ⟨.inr ⟨h1, h2, ad, rfl⟩, rfl⟩
    have hl : (g.ren f).lin b = some { i with place := p' } := by unfold Gh.ren; dsimp only; rw [h1]; simp [h2, hf]
    exact ⟨.inl ⟨b, _, hl, rfl, h3, h0, h4, h5⟩, by rw [h4]; rfl⟩
  | agg => exact h.elim
  | tup => exact h.elim
  | _ => exact ⟨h, h⟩

/-- Cells without anything that grows: wherever they lie. -/
theorem RepC.any {g : Gh} {p p' : Place} {v : V} {u : Value} (hv : isLin1 v = false) (h : RepC g p v u) : RepC g p' v u := by
  cases v <;> first | exact h | simp [isLin1] at hv
end Go.Fw
