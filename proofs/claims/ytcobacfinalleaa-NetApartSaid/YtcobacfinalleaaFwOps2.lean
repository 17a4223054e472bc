/- The operations (2): new variables, loads, stores, parts. -/
import Derived.Test.YtcobacfinalleaaFwOps1
set_option linter.all false
namespace Go.Fw
open Go.RowKit

section
variable {B τ : Nat} {g : Gh} {st : St} {a : Act} {w : World}

theorem heap_alloc_old (w : World) (o : Obj) {b : Nat} {x : Obj} (h : w.heap[b]? = some x) : (w.alloc o).heap[b]? = some x := by
  have hb := (Array.getElem?_eq_some_iff.1 h).1
  rw [Below.heap_alloc w o b hb]; exact h
theorem heap_alloc_at (w : World) (o : Obj) : (w.alloc o).heap[w.heap.size]? = some o := by
  show (w.heap.push o)[w.heap.size]? = _
  simp

theorem memOk_alloc {m : Mem} (h : MemOk m w) (o : Obj) : MemOk m (w.alloc o) := ⟨fun b cs hb => by
  obtain ⟨cur, e, fr, h1, h2⟩ := h.at_ b cs hb
  exact ⟨cur, e, fr, heap_alloc_old w o h1, h2⟩⟩
theorem linOk_alloc (h : LinOk g B w) (o : Obj) : LinOk g B (w.alloc o) := ⟨fun b i hi => by
  obtain ⟨h1, ⟨cur, h2, h3, h4⟩, h5⟩ := h.at_ b i hi
  exact ⟨h1, ⟨cur, heap_alloc_old w o h2, h3, h4⟩, h5⟩⟩

def Gh.newLoc (g : Gh) (id b : Nat) : Gh := { g with loc := fun i => if i = id then some b else g.loc i }

/-- A new block of the evaluator's heap. -/
theorem new_block (h : R B τ g st a w) (cs : List V) (cur : Array Value) (t : TypeId) (hl : cs.length ≤ cur.size) (hc : ∀ (j : Nat) (c : V) (hj : j < cur.size), cs[j]? = some c → RepC g (.cell st.h.length j) c cur[j]) :
    ∃ g', Later B τ g g' w (w.alloc (.cells cur t)) ∧ R B τ g' { st with h := st.h ++ [.cells cs t] } a (w.alloc (.cells cur t)) ∧ g'.loc st.h.length = some w.heap.size ∧ g'.mem = g.mem ∧ g'.lin = g.lin ∧ (∀ id b, g.loc id = some b → g'.loc id = some b) := by
  have hfree : g.mem w.heap.size = none := by
    cases hm : g.mem w.heap.size with
    | none => rfl
    | some cs =>
      obtain ⟨cur, e, fr, h1, _⟩ := h.mem.at_ _ cs hm
      have := (Array.getElem?_eq_some_iff.1 h1).1; omega
  have hfreel : g.lin w.heap.size = none := by
    cases hm : g.lin w.heap.size with
    | none => rfl
    | some i =>
      obtain ⟨_, ⟨cur, h1, _⟩, _⟩ := h.lin.at_ _ i hm
      have := (Array.getElem?_eq_some_iff.1 h1).1; omega
  have hnew : g.loc st.h.length = none := by
    cases hm : g.loc st.h.length with
    | none => rfl
    | some b => have := h.heap.bound _ b hm; omega
  have hmono : ∀ id b, g.loc id = some b → (if id = st.h.length then some w.heap.size else g.loc id) = some b := by
    intro id b hb
    split
    · rename_i e; subst e; rw [hnew] at hb; cases hb
    · exact hb
  refine ⟨g.newLoc st.h.length w.heap.size, ?_, ?_, by simp [Gh.newLoc], rfl, rfl, hmono⟩
  · exact ⟨(Below.refl _ _).alloc h.base _, MemLe.refl _, fun _ _ => rfl, hmono, fun _ _ h _ => h⟩
  · refine ⟨h.size, fun i v hi hv => RepS.mono (g := g) (g' := g.newLoc st.h.length w.heap.size) (MemLe.refl _) hmono (fun _ _ _ _ h _ => h) (h.slots i v hi hv), ⟨?_, ?_, ?_, ?_⟩, memOk_alloc h.mem _, ⟨(linOk_alloc h.lin _).at_⟩, by have := h.base; simp; omega, h.defers⟩
    · intro id b hb
      simp only [Gh.newLoc] at hb
      split at hb
      · simp; omega
      · have := h.heap.bound id b hb; simp; omega
    · intro id id' b hb hb'
      simp only [Gh.newLoc] at hb hb'
      split at hb <;> split at hb'
      · omega
      · cases hb; have := (h.heap.fresh _ _ hb').2.1; omega
      · cases hb'; have := (h.heap.fresh _ _ hb).2.1; omega
      · exact h.heap.inj id id' b hb hb'
    · intro id b hb
      simp only [Gh.newLoc] at hb
      split at hb
      · cases hb; exact ⟨h.base, by simp, hfree, hfreel⟩
      · obtain ⟨h1, h2, h3, h4⟩ := h.heap.fresh id b hb
        exact ⟨h1, by simp; omega, h3, h4⟩
    · intro id b cs' e hb he
      simp only [Gh.newLoc] at hb he
      split at hb
      · rename_i hid
        cases hb
        subst hid
        simp at he
        obtain ⟨rfl, rfl⟩ := he
        refine ⟨cur, heap_alloc_at w _, hl, fun j c hj hc' => ?_⟩
        exact RepC.mono (g := g) (g' := g.newLoc st.h.length w.heap.size) (MemLe.refl _) hmono (fun _ _ h _ => h) (hc j c hj hc')
      · rename_i hid
        have hlt := h.heap.bound id b hb
        rw [List.getElem?_append_left hlt] at he
        obtain ⟨cur', h1, h2, h3⟩ := h.heap.blk id b cs' e hb he
        exact ⟨cur', heap_alloc_old w _ h1, h2, fun j c hj hc' => RepC.mono (g := g) (g' := g.newLoc st.h.length w.heap.size) (MemLe.refl _) hmono (fun _ _ h _ => h) (h3 j c hj hc')⟩

/-- The cells of a value, taken into the heap. -/
def fCell (τ t id off : Nat) : Place → Place
  | .slot τ' x j k => if τ' = τ ∧ x = t then .cell id (off + (j - 1)) else .slot τ' x j k
  | p => p
theorem cellsA {g : Gh} {pl : Nat → Place} {v : V} {u : Value} (hv : v ≠ .undef) (h : RepA g pl v u) : v.cells.length = u.cells.size ∧ ∀ (j : Nat) (c : V) (hj : j < u.cells.size), v.cells[j]? = some c → ∃ j', j' - 1 = j ∧ RepC g (pl j') c u.cells[j] := by
  by_cases ha : ∃ vs, v = .agg vs
  · obtain ⟨vs, rfl⟩ := ha
    obtain ⟨cs, rfl, h2, h3⟩ := h
    exact ⟨h2, fun j c hj hc => ⟨j + 1, rfl, h3 j c hj hc⟩⟩
  · have hc : RepC g (pl 0) v u := by
      rcases repA_inv h with h | h | h
      · exact absurd h hv
      · exact h
      · exact absurd h ha
    have hone := hc.one
    have hu : u.cells = #[u] := by cases u <;> first | rfl | cases hone
    have hv' : v.cells = [v] := by cases v <;> first | rfl | exact absurd ⟨_, rfl⟩ ha
    rw [hv']
    refine ⟨by rw [hu]; rfl, fun j c hj hcc => ?_⟩
    have hj0 : j = 0 := by
      cases j with
      | zero => rfl
      | succ j => simp at hcc
    subst hj0
    simp at hcc
    subst hcc
    exact ⟨0, rfl, by simpa [hu] using hc⟩

theorem take_cells (h : R B τ g st a w) (x : Operand) (id off : Nat) (hv : okV (st.peek x) = true) : ∃ g', Later B τ g g' w w ∧ R B τ g' (st.takeS x) a w ∧ g'.loc = g.loc ∧ (st.peek x).cells.length = (a.eval x).cells.size ∧
    ∀ (j : Nat) (c : V) (hj : j < (a.eval x).cells.size), (st.peek x).cells[j]? = some c → RepC g' (.cell id (off + j)) c (a.eval x).cells[j] := by
  cases x with
  | tmp t =>
    have hf : ∀ p, (∀ j k, p ≠ .slot τ t j k) → fCell τ t id off p = p := by
      intro p hp
      cases p with
      | cell => rfl
      | slot τ' x j k =>
        have hn : ¬ (τ' = τ ∧ x = t) := by
          rintro ⟨rfl, rfl⟩
          exact hp j k rfl
        simp only [fCell, if_neg hn]
    have hs0 := slot_of h t
    have hnt : ∀ vs, getS st.fr t ≠ .tup vs := fun vs e => by simp only [St.peek, e] at hv; cases hv
    have hnu : getS st.fr t ≠ .undef := fun e => by simp only [St.peek, e] at hv; cases hv
    rw [repS_notTup hnt] at hs0
    have hs := (hs0.moved (f := fCell τ t id off) (pl' := fun j => .cell id (off + (j - 1))) (fun j => by simp [fCell])).1
    have hm := h.drop t (fCell τ t id off) hf
    obtain ⟨c1, c2⟩ := cellsA hnu hs
    refine ⟨g.ren (fCell τ t id off), ren_later (fun τ' x j k hne => ?_), ?_, rfl, c1, fun j c hj hc => ?_⟩
    · exact hf _ (by intro j' k' e; injection e with e _; exact hne e)
    · unfold St.takeS
      dsimp only
      cases hl : isLin3 (getS st.fr t) with
      | true => rw [condB_true]; exact hm
      | false => rw [condB_false]; exact R.setSame hm (map3_of (fun _ h => drop1_of h) hl)
    · obtain ⟨j', e, hr⟩ := c2 j c hj hc
      rw [e] at hr; exact hr
  | const v =>
    have hs := ofVal_rep g τ 0 v
    have hl := isLin_ofVal v
    have hnt : ∀ vs, ofVal v ≠ .tup vs := fun vs e => by simp only [St.peek, e] at hv; cases hv
    have hnu : ofVal v ≠ .undef := fun e => by simp only [St.peek, e] at hv; cases hv
    rw [repS_notTup hnt] at hs
    obtain ⟨c1, c2⟩ := cellsA hnu hs
    refine ⟨g, Later.refl .., h, rfl, c1, fun j c hj hc => ?_⟩
    obtain ⟨j', e, hr⟩ := c2 j c hj hc
    refine hr.any ?_
    have hin : c ∈ (ofVal v).cells := List.mem_of_getElem? hc
    have : ∀ c ∈ (ofVal v).cells, isLin1 c = false := by
      intro c hc
      cases hv' : ofVal v <;> rw [hv'] at hc hl <;> simp only [V.cells, List.mem_singleton] at hc <;> try (subst hc; first | exact hl | rfl)
      simp only [isLin3, isLin2] at hl
      rw [List.any_eq_false] at hl
      exact Bool.eq_false_iff.2 (hl c hc)
    exact this c hin
  | global b => cases hv
  | func f =>
    refine ⟨g, Later.refl .., h, rfl, rfl, fun j c hj hc => ?_⟩
    have hj0 : j = 0 := by
      cases j with
      | zero => rfl
      | succ j => simp [St.peek, V.cells] at hc
    subst hj0
    simp [St.peek, V.cells] at hc
    subst hc
    exact ⟨#[], #[], rfl, rfl, rfl, fun j c hj => absurd hj (by simp), fun j c hj => absurd hj (by simp)⟩
end

theorem run_newRow' {P : Program} (e : TypeId) (cells : Array Value) (w : World) : (newRow e cells).run P w = .ok ⟨w.heap.size, 0, none⟩ (w.alloc (.cells cells e)) := rfl
theorem run_newVar' {P : Program} (e : TypeId) (v : Value) (w : World) : (newVar e v).run P w = .ok ⟨w.heap.size, 0, none⟩ (w.alloc (.cells v.cells e)) := rfl

section
variable {C : Cx} {vb : FuncId → List V → List Blk → Option FOut} {f : FuncId} {ρ : Option Nat} {n : Nat} {o : Oper} {st : St} {α : Type} {k kp : V → St → Option α} {out : α}
  {B τ : Nat} {g : Gh} {a : Act} {w : World} {next : Act → World → Prop} {Q : Exit → Act → World → Prop}

theorem op_box {t : TypeId} {x : Operand} (ho : o.op = .box t x) (h : vop C vb f o st k kp = some out) (hR : R B τ g st a w) (hk : Goes B τ g a w o.dst k out next) : o.wpIn (FW ρ) n C.P a w next Q := by
  unfold vop at h
  rw [ho] at h
  dsimp only at h
  split at h
  · rename_i hok
    obtain ⟨g', h1, h2, _, hl, h3⟩ := take_cells hR x (st.takeS x).h.length 0 hok
    simp only [Nat.zero_add] at h3
    obtain ⟨g'', k1, k2, k3, k4, k5, k6⟩ := new_block h2 (st.peek x).cells (a.eval x).cells t (Nat.le_of_eq hl) h3
    exact wp_value (by simp [ho]) (w' := w.alloc (.cells (a.eval x).cells t)) (v := .pointer (some ⟨w.heap.size, 0, none⟩)) (by simp [execOp, ho, Instr.box, run_newVar'])
      (hk (.ptr (st.takeS x).h.length 0) _ g'' _ _ (h1.trans k1) k2 ⟨_, k3, rfl⟩ h)
  · cases h

theorem zeroT_eq {P : Program} {t : TypeId} {z : V} (h : zeroT P t = some z) : ∃ i v, P.info? t = some i ∧ i.zero = some v ∧ z = ofVal v := by
  unfold zeroT at h
  obtain ⟨i, hi, h⟩ := Option.bind_eq_some_iff.1 h
  obtain ⟨v, hv, rfl⟩ := Option.map_eq_some_iff.1 h
  exact ⟨i, v, hi, hv, rfl⟩
theorem run_zero {P : Program} {t : TypeId} {i : TypeInfo} {v : Value} (hi : P.info? t = some i) (hv : i.zero = some v) (w : World) : (zeroValue t).run P w = .ok v w := by
  simp [zeroValue, run_typeInfo w hi, hv]

theorem ofVal_cells {g : Gh} {v : Value} (hok : okV (ofVal v) = true) : (ofVal v).cells.length = v.cells.size ∧ ∀ (p : Place) (j : Nat) (c : V) (hj : j < v.cells.size), (ofVal v).cells[j]? = some c → RepC g p c v.cells[j] := by
  have hs := ofVal_rep g 0 0 v
  have hl := isLin_ofVal v
  have hnt : ∀ vs, ofVal v ≠ .tup vs := fun vs e => by rw [e] at hok; cases hok
  have hnu : ofVal v ≠ .undef := fun e => by rw [e] at hok; cases hok
  rw [repS_notTup hnt] at hs
  obtain ⟨c1, c2⟩ := cellsA hnu hs
  refine ⟨c1, fun p j c hj hc => ?_⟩
  obtain ⟨j', e, hr⟩ := c2 j c hj hc
  refine hr.any ?_
  have hin : c ∈ (ofVal v).cells := List.mem_of_getElem? hc
  have : ∀ c ∈ (ofVal v).cells, isLin1 c = false := by
    intro c hc
    cases hv' : ofVal v <;> rw [hv'] at hc hl <;> simp only [V.cells, List.mem_singleton] at hc <;> try (subst hc; first | exact hl | rfl)
    simp only [isLin3, isLin2] at hl
    rw [List.any_eq_false] at hl
    exact Bool.eq_false_iff.2 (hl c hc)
  exact this c hin

theorem op_alloc {t : TypeId} (ho : o.op = .alloc t) (h : vop C vb f o st k kp = some out) (hR : R B τ g st a w) (hk : Goes B τ g a w o.dst k out next) : o.wpIn (FW ρ) n C.P a w next Q := by
  unfold vop at h
  rw [ho] at h
  dsimp only at h
  split at h
  · rename_i z hz
    split at h
    · rename_i hok
      obtain ⟨i, v, hi, hv, rfl⟩ := zeroT_eq hz
      obtain ⟨c1, c2⟩ := ofVal_cells (g := g) hok
      obtain ⟨g'', k1, k2, k3, k4, k5, k6⟩ := new_block hR (ofVal v).cells v.cells t (Nat.le_of_eq c1) (fun j c hj hc => c2 _ j c hj hc)
      exact wp_value (by simp [ho]) (w' := w.alloc (.cells v.cells t)) (v := .pointer (some ⟨w.heap.size, 0, none⟩)) (by simp [execOp, ho, Instr.alloc, run_zero hi hv, run_newVar'])
        (hk (.ptr st.h.length 0) _ g'' _ _ k1 k2 ⟨_, k3, rfl⟩ h)
    · cases h
  · cases h
end
end Go.Fw
