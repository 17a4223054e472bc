/- Calls of the program's own functions: what a call's evaluation means; the operation. -/
import Derived.Test.YtcobacfinalleaaFwOps14
set_option linter.all false
namespace Go.Fw
open Go.RowKit

def ArgsI (m : Mem) (vs : List V) (us : Array Value) : Prop := vs.length = us.size ∧ ∀ (j : Nat) (c : V) (h : j < us.size), vs[j]? = some c → RepI m c us[j]
def ArgsS (g : Gh) (vs : List V) (us : Array Value) : Prop := vs.length = us.size ∧ ∀ (j : Nat) (c : V) (h : j < us.size), vs[j]? = some c → isLin3 c = false ∧ ∀ τ d, RepS g τ d c us[j]

def OutIs (g : Gh) (out : FOut) (e : Ending) : Prop := match out with
  | .ret v _ => ∃ u, e = .returned u ∧ RepS g 0 0 v u
  | .pan v _ => ∃ u, e = .panicked [{ v := u, recovered := false }] ∧ isLin3 v = false ∧ RepS g 0 0 v u
def FOut.heap : FOut → List Blk
  | .ret _ h => h
  | .pan _ h => h

def FOut.plain : FOut → Prop
  | .ret v _ => isLin3 v = false
  | .pan _ _ => True

/-- A call that has nothing to do with the caller's heap. -/
def PureOut (m : Mem) (w : World) (out : FOut) (e : Ending) (w' : World) : Prop :=
  ∃ g', OutIs g' out e ∧ g'.loc = (fun _ => none) ∧ Below w.heap.size w w' ∧ MemLe m g'.mem ∧ (∀ b, b < w.heap.size → g'.mem b = m b) ∧ MemOk g'.mem w' ∧ LinOk g' w.heap.size w'
/-- A call that has. -/
def HeapOut (B : Nat) (g : Gh) (w : World) (out : FOut) (e : Ending) (w' : World) : Prop :=
  ∃ g', OutIs g' out e ∧ out.plain ∧ Below B w w' ∧ MemLe g.mem g'.mem ∧ (∀ b, b < B → g'.mem b = g.mem b) ∧ (∀ id b, g.loc id = some b → g'.loc id = some b) ∧
    (∀ b i, g.lin b = some i → (∃ τ x j k, i.place = .slot τ x j k) → g'.lin b = some i) ∧ HeapOk g' out.heap B w' ∧ MemOk g'.mem w' ∧ LinOk g' B w'

structure VbSound (C : Cx) (vb : FuncId → List V → List Blk → Option FOut) : Prop where
  fn : ∀ f args h out, vb f args h = some out → ∃ fn c, C.P.funcs[f]? = some fn ∧ fn.body = some c ∧ (fn.name == "runtime.NumGoroutine") = false
  pure_ : ∀ f args out, vb f args [] = some out → args.all flat2 = true → ∀ (n : Nat) (us : Array Value) (w : World) (m : Mem), MemOk m w → ArgsI m args us → CallsIn Fence.wide n C.P f us w (PureOut m w out)
  heap : ∀ f args h out, vb f args h = some out → args.all flat2 = false → ∀ (n : Nat) (us : Array Value) (w : World) (B : Nat) (g : Gh), HeapOk g h B w → MemOk g.mem w → LinOk g B w → B ≤ w.heap.size → ArgsS g args us → CallsIn Fence.wide n C.P f us w (HeapOut B g w out)

/-! ### flat values -/
theorem flat0_repI {g : Gh} {v : V} {u : Value} (hv : flat0 v = true) (h : RepP g v u) : RepI g.mem v u := by
  cases v <;> first | exact h | simp [flat0] at hv
theorem flat0_repP {g : Gh} {v : V} {u : Value} (hv : flat0 v = true) (h : RepI g.mem v u) : RepP g v u := by
  cases v <;> first | exact h | simp [flat0] at hv
theorem flat0_cell {v : V} (hv : flat0 v = true) : isCell v = true ∧ isLin1 v = false ∧ v ≠ .undef := by
  cases v <;> first | (simp [flat0] at hv; done) | exact ⟨rfl, rfl, by simp⟩

theorem flat1_repC {g : Gh} {p : Place} {v : V} {u : Value} (hv : flat1 v = true) (h : RepI g.mem v u) : RepC g p v u := by
  cases v <;> simp only [flat1, flat0, Bool.false_eq_true] at hv <;> try exact h
  case fn f first caps =>
    cases h with
    | fn _ _ _ first' caps' h1 h2 v1 v2 =>
      simp only [Bool.and_eq_true, List.all_eq_true] at hv
      exact ⟨first', caps', rfl, h1, h2, fun j c hj hc => flat0_repP (hv.1 _ (List.mem_of_getElem? hc)) (v1 j c hj hc), fun j c hj hc => flat0_repP (hv.2 _ (List.mem_of_getElem? hc)) (v2 j c hj hc)⟩
theorem flat1_cell {v : V} (hv : flat1 v = true) : isCell v = true ∧ isLin1 v = false ∧ v ≠ .undef := by
  cases v <;> first | (simp [flat1, flat0] at hv; done) | exact ⟨rfl, rfl, by simp⟩
theorem repC_flat1 {g : Gh} {p : Place} {v : V} {u : Value} (hv : flat1 v = true) (h : RepC g p v u) : RepI g.mem v u := by
  cases v <;> simp only [flat1, flat0, Bool.false_eq_true] at hv <;> try exact h
  case fn f first caps =>
    obtain ⟨first', caps', rfl, h1, h2, h3, h4⟩ := h
    simp only [Bool.and_eq_true, List.all_eq_true] at hv
    exact .fn f first caps first' caps' h1 h2 (fun j c hj hc => flat0_repI (hv.1 _ (List.mem_of_getElem? hc)) (h3 j c hj hc)) (fun j c hj hc => flat0_repI (hv.2 _ (List.mem_of_getElem? hc)) (h4 j c hj hc))

theorem flat2_notTup {v : V} (hv : flat2 v = true) : (∀ vs, v ≠ .tup vs) ∧ v ≠ .undef := by
  constructor
  · intro vs e; rw [e] at hv; simp [flat2, flat1, flat0] at hv
  · intro e; rw [e] at hv; simp [flat2, flat1, flat0] at hv
theorem flat2_lin {v : V} (hv : flat2 v = true) : isLin3 v = false := by
  cases v <;> first | rfl | simp [flat2, flat1, flat0] at hv
  case agg vs =>
    simp only [isLin3, isLin2]
    rw [List.any_eq_false]
    intro x hx
    simp [(flat1_cell (hv x hx)).2.1]

theorem flat2_repS {g : Gh} {τ d : Nat} {v : V} {u : Value} (hv : flat2 v = true) (h : RepI g.mem v u) : RepS g τ d v u := by
  rw [repS_notTup (flat2_notTup hv).1]
  by_cases ha : ∃ vs, v = .agg vs
  · obtain ⟨vs, rfl⟩ := ha
    simp only [flat2, List.all_eq_true] at hv
    cases h with
    | agg _ cs hn hs hv' => exact ⟨cs, rfl, hn, fun j c hj hc => flat1_repC (hv _ (List.mem_of_getElem? hc)) (hv' j c hj hc)⟩
  · have hf : flat1 v = true := by cases v <;> first | exact hv | exact absurd ⟨_, rfl⟩ ha
    exact repA_cell (flat1_repC hf h)
theorem repS_flat2 {g : Gh} {τ d : Nat} {v : V} {u : Value} (hv : flat2 v = true) (h : RepS g τ d v u) : RepI g.mem v u := by
  rw [repS_notTup (flat2_notTup hv).1] at h
  by_cases ha : ∃ vs, v = .agg vs
  · obtain ⟨vs, rfl⟩ := ha
    simp only [flat2, List.all_eq_true] at hv
    obtain ⟨cs, rfl, h1, h2⟩ := h
    exact .agg vs cs h1 (fun j c hc => (flat1_cell (hv _ (List.mem_of_getElem? hc))).1) (fun j c hj hc => repC_flat1 (hv _ (List.mem_of_getElem? hc)) (h2 j c hj hc))
  · have hf : flat1 v = true := by cases v <;> first | exact hv | exact absurd ⟨_, rfl⟩ ha
    rcases repA_inv h with e | h | h
    · exact absurd e (flat2_notTup hv).2
    · exact repC_flat1 hf h
    · exact absurd h ha

theorem demote_lin {v : V} : isLin3 (map3 demote1 v) = false := by
  have h1 : ∀ v, isLin1 (demote1 v) = false := fun v => by cases v <;> rfl
  have h2 : ∀ v, isLin2 (map2 demote1 v) = false := by
    intro v
    cases v <;> try rfl
    simp only [map2, isLin2]
    rw [List.any_eq_false]
    intro x hx
    obtain ⟨y, _, rfl⟩ := List.mem_map.1 hx
    simp [h1]
  cases v <;> try rfl
  case agg vs => exact h2 (.agg vs)
  simp only [map3, isLin3]
  rw [List.any_eq_false]
  intro x hx
  obtain ⟨y, _, rfl⟩ := List.mem_map.1 hx
  simp [h2]

/-! ### what the caller knows behind a call -/
section
variable {B τ : Nat} {g : Gh} {st : St} {a : Act} {w : World}

def renTo (τ d : Nat) : Place → Place
  | .slot _ _ j k => .slot τ d j k
  | p => p
def Gh.merge (g g' : Gh) (N τ d : Nat) : Gh where
  mem := g'.mem
  loc := g.loc
  lin := fun b => if b < N then g.lin b else (g'.lin b).map fun i => { i with place := renTo τ d i.place }

theorem RepP.loc {g g' : Gh} (hl : g.loc = fun _ => none) (hm : g'.mem = g.mem) {v : V} {u : Value} (h : RepP g v u) : RepP g' v u := by
  unfold RepP at *
  split at h
  · obtain ⟨b, h1, _⟩ := h; rw [hl] at h1; cases h1
  · rw [hm]; exact h
theorem RepC.merge {g g' : Gh} {p p' : Place} (hl : g.loc = fun _ => none) (hm : g'.mem = g.mem) (hn : ∀ b i, g.lin b = some i → i.place = p → g'.lin b = some { i with place := p' }) {v : V} {u : Value} (h : RepC g p v u) : RepC g' p' v u := by
  cases v <;> simp only [RepC] at h ⊢ <;> try (rw [hm]; exact h)
  case undef => exact h
  case ptr id off => obtain ⟨b, h1, _⟩ := h; rw [hl] at h1; cases h1
  case own id off len room =>
    rcases h with ⟨b, cap, h1, _⟩ | h
    · rw [hl] at h1; cases h1
    · exact .inr h
  case lin priv e n xs =>
    rcases h with ⟨b, i, h1, h2, h3, h0, h4, h5⟩ | h
    · exact .inl ⟨b, _, hn b i h1 h2, rfl, h3, h0, h4, by rw [hm]; exact h5⟩
    · exact .inr h
  case fn f first caps =>
    obtain ⟨a, c, h1, h2, h3, h4, h5⟩ := h
    exact ⟨a, c, h1, h2, h3, fun j x hj hx => (h4 j x hj hx).loc hl hm, fun j x hj hx => (h5 j x hj hx).loc hl hm⟩
theorem RepA.merge {g g' : Gh} {pl pl' : Nat → Place} (hl : g.loc = fun _ => none) (hm : g'.mem = g.mem) (hn : ∀ j b i, g.lin b = some i → i.place = pl j → g'.lin b = some { i with place := pl' j }) {v : V} {u : Value} (h : RepA g pl v u) : RepA g' pl' v u := by
  unfold RepA at *
  split at h
  · obtain ⟨cs, h1, h2, h3⟩ := h
    exact ⟨cs, h1, h2, fun j c hj hc => (h3 j c hj hc).merge hl hm (hn _)⟩
  · trivial
  · exact h.merge hl hm (hn _)
theorem RepS.merge {g g' : Gh} {τ i τ' i' : Nat} (hl : g.loc = fun _ => none) (hm : g'.mem = g.mem) (hn : ∀ j k b x, g.lin b = some x → x.place = .slot τ i j k → g'.lin b = some { x with place := .slot τ' i' j k }) {v : V} {u : Value} (h : RepS g τ i v u) : RepS g' τ' i' v u := by
  unfold RepS at *
  split at h
  · obtain ⟨cs, h1, h2, h3⟩ := h
    exact ⟨cs, h1, h2, fun k c hk hc => (h3 k c hk hc).merge (pl' := fun j => .slot τ' i' j (k + 1)) hl hm (fun j => hn j _)⟩
  · exact h.merge (pl' := fun j => .slot τ' i' j 0) hl hm (fun j => hn j _)

theorem merge_sound (h : R B τ g st a w) {g' : Gh} {w' : World} (d : Nat) (hb : Below w.heap.size w w') (hm : MemLe g.mem g'.mem) (ho : ∀ b, b < w.heap.size → g'.mem b = g.mem b) (hmo : MemOk g'.mem w') (hlo : LinOk g' w.heap.size w') :
    Later B τ g (g.merge g' w.heap.size τ d) w w' ∧ R B τ (g.merge g' w.heap.size τ d) st a w' := by
  have hlt : ∀ b i, g.lin b = some i → b < w.heap.size := by
    intro b i hi
    obtain ⟨_, ⟨cur, h2, _⟩, _⟩ := h.lin.at_ b i hi
    exact (Array.getElem?_eq_some_iff.1 h2).1
  have hl : ∀ b i, g.lin b = some i → (g.merge g' w.heap.size τ d).lin b = some i := by
    intro b i hi
    unfold Gh.merge; dsimp only; rw [if_pos (hlt b i hi)]; exact hi
  refine ⟨⟨hb.mono h.base, hm, fun b hB => ho b (Nat.lt_of_lt_of_le hB h.base), fun _ _ h => h, fun b i hi _ => hl b i hi⟩, ⟨h.size, fun i v hi hv => ?_, ⟨h.heap.bound, h.heap.inj, ?_, ?_⟩, hmo, ⟨?_⟩, Nat.le_trans h.base hb.size, h.defers⟩⟩
  · exact RepS.mono (g := g) (g' := g.merge g' w.heap.size τ d) hm (fun _ _ h => h) (fun j k b x hx _ => hl b x hx) (h.slots i v hi hv)
  · intro id b hid
    obtain ⟨h1, h2, h3, h4⟩ := h.heap.fresh id b hid
    refine ⟨h1, Nat.lt_of_lt_of_le h2 hb.size, by show g'.mem b = none; rw [ho b h2]; exact h3, ?_⟩
    unfold Gh.merge; dsimp only; rw [if_pos h2]; exact h4
  · intro id b cs e hid he
    obtain ⟨cur, h1, h2, h3⟩ := h.heap.blk id b cs e hid he
    refine ⟨cur, by rw [hb.block b (h.heap.fresh id b hid).2.1]; exact h1, h2, fun j c hj hc => RepC.mono (g := g) (g' := g.merge g' w.heap.size τ d) hm (fun _ _ h => h) (fun b i hi _ => hl b i hi) (h3 j c hj hc)⟩
  · intro b i hi
    unfold Gh.merge at hi
    dsimp only at hi
    split at hi
    · rename_i hb'
      obtain ⟨h1, ⟨cur, h2, h3⟩, h4, h5, h6, h7, h8⟩ := h.lin.at_ b i hi
      refine ⟨h1, ⟨cur, by rw [hb.block b hb']; exact h2, h3⟩, h4, h5, h6, fun hp => ?_, fun hp => ?_⟩
      · show g'.mem b = none; rw [ho b hb']; exact h7 hp
      · show g'.mem b = some i.cs; rw [ho b hb']; exact h8 hp
    · cases hl' : g'.lin b with
      | none => rw [hl'] at hi; cases hi
      | some i0 =>
        rw [hl'] at hi
        simp only [Option.map_some, Option.some.injEq] at hi
        subst hi
        obtain ⟨h1, h2, h3, h4, h5, h6, h7⟩ := hlo.at_ b i0 hl'
        exact ⟨Nat.le_trans h.base h1, h2, h3, h4, h5, h6, h7⟩

theorem merge_val {g' : Gh} {w' : World} {N d : Nat} (hl : g'.loc = fun _ => none) (hlo : LinOk g' N w') {v : V} {u : Value} (h : RepS g' 0 0 v u) : RepS (g.merge g' N τ d) τ d v u := by
  refine RepS.merge (g' := g.merge g' N τ d) hl rfl (fun j k b x hx hp => ?_) h
  have hge := (hlo.at_ b x hx).1
  unfold Gh.merge; dsimp only
  rw [if_neg (by omega), hx]
  simp [hp, renTo]

/-! ### laid into the heap -/
def Gh.thaw (g : Gh) (id b : Nat) : Gh where
  mem := g.mem
  loc := fun x => if x = id then some b else g.loc x
  lin := fun x => if x = b then none else g.lin x

theorem thaw_sound (h : R B τ g st a w) {d : Nat} {e : TypeId} {sz : Nat} {xs : List V} {u : Value} (hu : RepS g τ d (.lin true e sz xs) u) (hfree : ∀ v, st.fr[d]? = some v → isLin3 v = false) :
    ∃ g', Later B τ g g' w w ∧ R B τ g' { st with h := st.h ++ [.cells (xs.flatMap V.cells) e] } a w ∧ RepS g' τ d (.own st.h.length 0 xs.length xs.length) u := by
  simp only [RepS, RepA, RepC] at hu
  rcases hu with ⟨b, i, hb, hp, hpr, ⟨rfl, rfl⟩, rfl, hel⟩ | ⟨rfl, hz0, ad, rfl⟩
  rotate_left
  · refine ⟨g, Later.refl .., ⟨h.size, h.slots, ⟨fun id x hx => ?_, h.heap.inj, h.heap.fresh, fun id x cs e hx he => ?_⟩, h.mem, h.lin, h.base, h.defers⟩, .inr ⟨rfl, rfl, ad, rfl⟩⟩
    · have := h.heap.bound _ _ hx; simp; omega
    · have hlt := h.heap.bound _ _ hx
      rw [List.getElem?_append_left hlt] at he
      exact h.heap.blk id x cs e hx he
  obtain ⟨k1, ⟨cur, k2, k3, k4⟩, k5, k6, k7, k8, _⟩ := h.lin.at_ b i hb
  have hmb := k8 hpr
  have hnl : ∀ id, g.loc id ≠ some b := by
    intro id hid
    obtain ⟨_, _, _, h4⟩ := h.heap.fresh id b hid
    rw [hb] at h4; cases h4
  have hno : g.loc st.h.length = none := by
    cases hh : g.loc st.h.length with
    | none => rfl
    | some x => have := h.heap.bound _ _ hh; omega
  have hloc : ∀ id x, g.loc id = some x → (g.thaw st.h.length b).loc id = some x := by
    intro id x hx
    unfold Gh.thaw; dsimp only
    rw [if_neg (by rintro rfl; rw [hno] at hx; cases hx)]
    exact hx
  have hlin : ∀ x i', g.lin x = some i' → i'.place ≠ .slot τ d 0 0 → (g.thaw st.h.length b).lin x = some i' := by
    intro x i' hx hne
    unfold Gh.thaw; dsimp only
    rw [if_neg (by rintro rfl; rw [hb] at hx; cases hx; exact hne hp)]
    exact hx
  have hwl : xs.length ≤ i.cap := by rw [hel.1] at k5; exact Nat.le_of_mul_le_mul_right k5 k7
  refine ⟨g.thaw st.h.length b, ⟨Below.refl _ _, MemLe.refl _, fun _ _ => rfl, hloc, fun x i' hx ⟨τ', y, j, k, hq, hne⟩ => hlin x i' hx (by rw [hq]; intro e; injection e with e _; exact hne e)⟩,
    ⟨h.size, fun s v hs hv => ?_, ⟨fun id x hx => ?_, fun id id' x h1 h2 => ?_, fun id x hx => ?_, fun id x cs e hx he => ?_⟩, h.mem, ⟨fun x i' hx => ?_⟩, h.base, h.defers⟩, ?_⟩
  · by_cases hsd : s = d
    · subst hsd
      have h2 : RepS g (τ + 1) s v a.tmps[s] := (h.slots s v hs hv).any (hfree v hv)
      have h3 := RepS.mono (g := g) (g' := g.thaw st.h.length b) (MemLe.refl _) hloc (fun j k x i0 hx hp => hlin x i0 hx (by rw [hp]; intro e; injection e with e _; omega)) h2
      exact h3.any (hfree v hv)
    · exact RepS.mono (g := g) (g' := g.thaw st.h.length b) (MemLe.refl _) hloc (fun j k x i0 hx hp => hlin x i0 hx (by rw [hp]; intro e; injection e with _ e _; exact hsd e)) (h.slots s v hs hv)
  · unfold Gh.thaw at hx; dsimp only at hx
    rw [List.length_append]
    split at hx
    · rename_i e; subst e; simp
    · have := h.heap.bound _ _ hx; simp; omega
  · unfold Gh.thaw at h1 h2; dsimp only at h1 h2
    split at h1 <;> split at h2
    · rename_i e1 e2; rw [e1, e2]
    · cases h1; exact absurd h2 (hnl _)
    · cases h2; exact absurd h1 (hnl _)
    · exact h.heap.inj _ _ _ h1 h2
  · unfold Gh.thaw at hx; dsimp only at hx
    split at hx
    · cases hx
      refine ⟨k1, (Array.getElem?_eq_some_iff.1 k2).1, hmb, ?_⟩
      unfold Gh.thaw; dsimp only; rw [if_pos rfl]
    · obtain ⟨h1, h2, h3, h4⟩ := h.heap.fresh id x hx
      refine ⟨h1, h2, h3, ?_⟩
      unfold Gh.thaw; dsimp only
      rw [if_neg (by rintro rfl; exact hnl _ hx)]; exact h4
  · unfold Gh.thaw at hx; dsimp only at hx
    split at hx
    · rename_i e'
      subst e'
      cases hx
      rw [List.getElem?_append_right (Nat.le_refl _)] at he
      simp at he
      obtain ⟨rfl, rfl⟩ := he
      have hfl := flatMap_len hel.2.2.1
      refine ⟨cur, k2, by rw [hfl, k4]; exact Nat.mul_le_mul_right _ hwl, fun j c hj hc => ?_⟩
      obtain ⟨x, h1, h2⟩ := flatMap_at hel.2.2.1 k7 hc
      obtain ⟨q1, q, q2, q3⟩ := hel.2.2.2 _ x _ c h1 h2
      have hjj : j / i.esz * i.esz + j % i.esz = j := by rw [Nat.mul_comm]; exact Nat.div_add_mod _ _
      rw [hjj] at q2
      have := mem_of_prefix k3 q2
      rw [Array.getElem?_eq_getElem hj] at this
      cases this
      exact cell_flat q1 q3
    · rename_i hne
      have hlt := h.heap.bound _ _ hx
      rw [List.getElem?_append_left hlt] at he
      obtain ⟨cur', h1, h2, h3⟩ := h.heap.blk id x cs e hx he
      exact ⟨cur', h1, h2, fun j c hj hc => RepC.mono (g := g) (g' := g.thaw st.h.length b) (MemLe.refl _) hloc (fun y i0 hy hp => hlin y i0 hy (by rw [hp]; intro e; cases e)) (h3 j c hj hc)⟩
  · unfold Gh.thaw at hx; dsimp only at hx
    split at hx
    · cases hx
    · exact h.lin.at_ x i' hx
  · refine .inl ⟨b, i.cap, ?_, rfl, hwl, k6, hwl⟩
    unfold Gh.thaw; dsimp only; rw [if_pos rfl]
end
end Go.Fw
