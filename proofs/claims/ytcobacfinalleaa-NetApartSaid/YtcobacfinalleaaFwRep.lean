/- How an abstract value stands for a value of the model; what the evaluator's state says of a world. -/
import Derived.Test.YtcobacfinalleaaFwV
import Derived.Maps.AppendAt
import Derived.Below
set_option linter.all false
namespace Go.Fw
open Go.RowKit

def isCell : V → Bool
  | .agg _ | .tup _ => false
  | _ => true

abbrev Mem := Nat → Option (List Value)
def stAt (m : Mem) (b i : Nat) : Option Value := (m b).bind (·[i]?)

/-- What is read out of memory that nobody writes any more. -/
inductive RepI (m : Mem) : V → Value → Prop
  | bool (b : Bool) : RepI m (.bool b) (.bool b)
  | int (k : IntKind) (n : Int) : RepI m (.int k n) (.int k n)
  | str (s : ByteArray) : RepI m (.str s) (.string s)
  | nilp : RepI m .nilp (.pointer none)
  | nils : RepI m .nils (.slice none 0 0)
  | nne (a : Addr) (cap : Nat) (hm : cap ≤ maxLen) (hp : a.spot = none ∨ cap = 0) : RepI m .nne (.slice (some a) 0 cap)
  | nilf : RepI m .nilf .nilFunc
  | nili : RepI m .nili .nilIface
  | nilm : RepI m .nilm (.map none)
  | imm (full : Bool) (xs : List V) (b off cap esz : Nat) (val : Nat → Nat → Value) (hc : xs.length ≤ cap) (hf : full = true → cap = xs.length) (hm : cap ≤ maxLen) (hz : 0 < esz)
      (hl : ∀ (i : Nat) (x : V), xs[i]? = some x → x.cells.length = esz)
      (hs : ∀ (i : Nat) (x : V) (j : Nat) (c : V), xs[i]? = some x → x.cells[j]? = some c → isCell c = true ∧ stAt m b (off + i * esz + j) = some (val i j))
      (hv : ∀ (i : Nat) (x : V) (j : Nat) (c : V), xs[i]? = some x → x.cells[j]? = some c → RepI m c (val i j)) (sp : Option Nat := none) (hp : sp = none ∨ cap = 0 := by exact Or.inl rfl) :
      RepI m (.imm full esz xs) (.slice (some ⟨b, off, sp⟩) xs.length cap)
  | none0 (full : Bool) (esz : Nat) (hz : 0 < esz) : RepI m (.imm full esz []) (.slice none 0 0)
  | iptr (e : V) (o : Nat) (b base : Nat) (val : Nat → Value)
      (hs : ∀ (j : Nat) (c : V), e.cells[j]? = some c → isCell c = true ∧ stAt m b (base + j) = some (val j))
      (hv : ∀ (j : Nat) (c : V), e.cells[j]? = some c → RepI m c (val j)) :
      RepI m (.iptr e o) (.pointer (some ⟨b, base + o, none⟩))
  | agg (vs : List V) (cs : Array Value) (hn : vs.length = cs.size) (hs : ∀ (j : Nat) (c : V), vs[j]? = some c → isCell c = true)
      (hv : ∀ (j : Nat) (c : V) (h : j < cs.size), vs[j]? = some c → RepI m c cs[j]) : RepI m (.agg vs) (.agg cs)
  | fn (f : Fn) (first caps : List V) (first' caps' : Array Value) (h1 : first.length = first'.size) (h2 : caps.length = caps'.size)
      (v1 : ∀ (j : Nat) (c : V) (h : j < first'.size), first[j]? = some c → RepI m c first'[j])
      (v2 : ∀ (j : Nat) (c : V) (h : j < caps'.size), caps[j]? = some c → RepI m c caps'[j]) : RepI m (.fn f first caps) (.func f first' caps')
  | iface (t : TypeId) (v : V) (u : Value) (h : RepI m v u) : RepI m (.iface t v) (.iface t u)

def MemLe (m m' : Mem) : Prop := ∀ b cs, m b = some cs → ∃ cs', m' b = some cs' ∧ cs <+: cs'
theorem MemLe.refl (m : Mem) : MemLe m m := fun _ cs h => ⟨cs, h, List.prefix_refl _⟩
theorem MemLe.trans {a b c : Mem} (h : MemLe a b) (k : MemLe b c) : MemLe a c := fun x cs hx => by
  obtain ⟨cs', h1, h2⟩ := h x cs hx
  obtain ⟨cs'', h3, h4⟩ := k x cs' h1
  exact ⟨cs'', h3, h2.trans h4⟩
theorem stAt_le {m m' : Mem} (h : MemLe m m') {b i : Nat} {v : Value} (hv : stAt m b i = some v) : stAt m' b i = some v := by
  unfold stAt at *
  obtain ⟨cs, hc, hi⟩ := Option.bind_eq_some_iff.1 hv
  obtain ⟨cs', h1, t, rfl⟩ := h b cs hc
  rw [h1]
  simp only [Option.bind_some]
  have hlt := (List.getElem?_eq_some_iff.1 hi).1
  rw [List.getElem?_append_left hlt]
  exact hi

theorem RepI.mono {m m' : Mem} (hm : MemLe m m') {v : V} {u : Value} (h : RepI m v u) : RepI m' v u := by
  induction h with
  | bool b => exact .bool b
  | int k n => exact .int k n
  | str s => exact .str s
  | nilp => exact .nilp
  | nils => exact .nils
  | nne a cap h hp => exact .nne a cap h hp
  | nilf => exact .nilf
  | nili => exact .nili
  | nilm => exact .nilm
  | imm full xs b off cap esz val hc hf hmx hz hl hs hv sp hp ih =>
    exact .imm full xs b off cap esz val hc hf hmx hz hl (fun i x j c h1 h2 => ⟨(hs i x j c h1 h2).1, stAt_le hm (hs i x j c h1 h2).2⟩) ih sp hp
  | none0 full esz hz => exact .none0 full esz hz
  | iptr e o b base val hs hv ih => exact .iptr e o b base val (fun j c h => ⟨(hs j c h).1, stAt_le hm (hs j c h).2⟩) ih
  | agg vs cs hn hs hv ih => exact .agg vs cs hn hs ih
  | fn f first caps first' caps' h1 h2 v1 v2 ih1 ih2 => exact .fn f first caps first' caps' h1 h2 ih1 ih2
  | iface t v u h ih => exact .iface t v u ih

theorem RepI.one {m : Mem} {v : V} {u : Value} (h : RepI m v u) (hc : isCell v = true) : u.oneCell' = true := by
  cases h <;> first | rfl | simp [isCell] at hc

/-- Where a value that may grow is held. -/
inductive Place where
  | slot (τ i j k : Nat)
  | cell (id j : Nat)
  deriving DecidableEq

structure LinI where
  place : Place
  priv : Bool
  cs : List Value
  ety : TypeId
  esz : Nat
  cap : Nat

structure Gh where
  mem : Mem
  loc : Nat → Option Nat
  lin : Nat → Option LinI

/-- The elements of a row of cells. -/
def Elems (m : Mem) (esz : Nat) (xs : List V) (cs : List Value) : Prop :=
  cs.length = xs.length * esz ∧ 0 < esz ∧ (∀ (i : Nat) (x : V), xs[i]? = some x → x.cells.length = esz) ∧
  ∀ (i : Nat) (x : V) (j : Nat) (c : V), xs[i]? = some x → x.cells[j]? = some c → isCell c = true ∧ ∃ v, cs[i * esz + j]? = some v ∧ RepI m c v

theorem Elems.mono {m m' : Mem} (hm : MemLe m m') {esz : Nat} {xs : List V} {cs : List Value} (h : Elems m esz xs cs) : Elems m' esz xs cs :=
  ⟨h.1, h.2.1, h.2.2.1, fun i x j c h1 h2 => by
    obtain ⟨a, v, b, d⟩ := h.2.2.2 i x j c h1 h2
    exact ⟨a, v, b, d.mono hm⟩⟩

/-- One captured value. -/
def RepP (g : Gh) (v : V) (u : Value) : Prop := match v with
  | .ptr id off => ∃ b, g.loc id = some b ∧ u = .pointer (some ⟨b, off, none⟩)
  | v => RepI g.mem v u

/-- One cell. -/
def RepC (g : Gh) (p : Place) (v : V) (u : Value) : Prop := match v with
  | .undef => u.oneCell' = true
  | .ptr id off => ∃ b, g.loc id = some b ∧ u = .pointer (some ⟨b, off, none⟩)
  | .own id off len room => (∃ b cap, g.loc id = some b ∧ u = .slice (some ⟨b, off, none⟩) len cap ∧ len ≤ cap ∧ cap ≤ maxLen ∧ room ≤ cap) ∨ (len = 0 ∧ room = 0 ∧ ∃ ad, u = .slice ad 0 0)
  | .lin priv e n xs => (∃ b i, g.lin b = some i ∧ i.place = p ∧ i.priv = priv ∧ (i.ety = e ∧ i.esz = n) ∧ u = .slice (some ⟨b, 0, none⟩) xs.length i.cap ∧ Elems g.mem i.esz xs i.cs) ∨ (xs = [] ∧ 0 < n ∧ ∃ ad, u = .slice ad 0 0)
  | .fn f first caps => ∃ first' caps', u = .func f first' caps' ∧ first.length = first'.size ∧ caps.length = caps'.size ∧
      (∀ (j : Nat) (c : V) (h : j < first'.size), first[j]? = some c → RepP g c first'[j]) ∧ (∀ (j : Nat) (c : V) (h : j < caps'.size), caps[j]? = some c → RepP g c caps'[j])
  | .agg _ | .tup _ => False
  | v => RepI g.mem v u

/-- A value of a variable: one cell, or the cells of a struct; 'pl': where its cells are held. -/
def RepA (g : Gh) (pl : Nat → Place) (v : V) (u : Value) : Prop := match v with
  | .agg vs => ∃ cs : Array Value, u = .agg cs ∧ vs.length = cs.size ∧ ∀ (j : Nat) (c : V) (h : j < cs.size), vs[j]? = some c → RepC g (pl (j + 1)) c cs[j]
  | .undef => True
  | v => RepC g (pl 0) v u

/-- What lies in a slot. -/
def RepS (g : Gh) (τ i : Nat) (v : V) (u : Value) : Prop := match v with
  | .tup vs => ∃ cs : Array Value, u = .tuple cs ∧ vs.length = cs.size ∧ ∀ (k : Nat) (c : V) (h : k < cs.size), vs[k]? = some c → RepA g (fun j => .slot τ i j (k + 1)) c cs[k]
  | v => RepA g (fun j => .slot τ i j 0) v u

/-! ### the world -/
structure HeapOk (g : Gh) (H : List Blk) (B : Nat) (w : World) : Prop where
  bound : ∀ id b, g.loc id = some b → id < H.length
  inj : ∀ id id' b, g.loc id = some b → g.loc id' = some b → id = id'
  fresh : ∀ id b, g.loc id = some b → B ≤ b ∧ b < w.heap.size ∧ g.mem b = none ∧ g.lin b = none
  blk : ∀ id b cs e, g.loc id = some b → H[id]? = some (.cells cs e) → ∃ cur, w.heap[b]? = some (.cells cur e (0, 0)) ∧ cs.length ≤ cur.size ∧
    ∀ (j : Nat) (c : V) (h : j < cur.size), cs[j]? = some c → RepC g (.cell id j) c cur[j]

structure MemOk (m : Mem) (w : World) : Prop where
  at_ : ∀ b cs, m b = some cs → ∃ cur e fr, w.heap[b]? = some (.cells cur e fr) ∧ cs <+: cur.toList

structure LinOk (g : Gh) (B : Nat) (w : World) : Prop where
  at_ : ∀ b i, g.lin b = some i → B ≤ b ∧ (∃ cur, w.heap[b]? = some (.cells cur i.ety (0, 0)) ∧ i.cs <+: cur.toList ∧ cur.size = i.cap * i.esz) ∧ i.cs.length ≤ i.cap * i.esz ∧ i.cap ≤ maxLen ∧ 0 < i.esz ∧
    (i.priv = true → g.mem b = none) ∧ (i.priv = false → g.mem b = some i.cs)

structure R (B τ : Nat) (g : Gh) (st : St) (a : Act) (w : World) : Prop where
  size : st.fr.length = a.tmps.size
  slots : ∀ (i : Nat) (v : V) (h : i < a.tmps.size), st.fr[i]? = some v → RepS g τ i v a.tmps[i]
  heap : HeapOk g st.h B w
  mem : MemOk g.mem w
  lin : LinOk g B w
  base : B ≤ w.heap.size
  defers : a.defers = []

/-- From one state to a later one of the same function: what others hold stays. -/
structure Later (B τ : Nat) (g g' : Gh) (w w' : World) : Prop where
  below : Below B w w'
  mem : MemLe g.mem g'.mem
  old : ∀ b, b < B → g'.mem b = g.mem b
  loc : ∀ id b, g.loc id = some b → g'.loc id = some b
  lin : ∀ b i, g.lin b = some i → (∃ τ' x j k, i.place = .slot τ' x j k ∧ τ' ≠ τ) → g'.lin b = some i

theorem Later.refl (B τ : Nat) (g : Gh) (w : World) : Later B τ g g w w := ⟨Below.refl _ _, MemLe.refl _, fun _ _ => rfl, fun _ _ h => h, fun _ _ h _ => h⟩
theorem Later.trans {B τ : Nat} {g g' g'' : Gh} {w w' w'' : World} (h : Later B τ g g' w w') (k : Later B τ g' g'' w' w'') : Later B τ g g'' w w'' :=
  ⟨h.below.trans k.below, h.mem.trans k.mem, fun b hb => (k.old b hb).trans (h.old b hb), fun id b hl => k.loc id b (h.loc id b hl), fun b i hi hp => k.lin b i (h.lin b i hi hp) hp⟩

theorem RepI.stays {g g' : Gh} (hm : MemLe g.mem g'.mem) {v : V} {u : Value} (h : RepI g.mem v u) : RepI g'.mem v u := h.mono hm

theorem RepP.mono {g g' : Gh} (hm : MemLe g.mem g'.mem) (hl : ∀ id b, g.loc id = some b → g'.loc id = some b) {v : V} {u : Value} (h : RepP g v u) : RepP g' v u := by
  unfold RepP at *
  split at h
  · obtain ⟨b, h1, h2⟩ := h; exact ⟨b, hl _ _ h1, h2⟩
  · exact h.mono hm

/-- A cell stays what it is where what it holds itself stays. -/
theorem RepC.mono {g g' : Gh} {p : Place} (hm : MemLe g.mem g'.mem) (hl : ∀ id b, g.loc id = some b → g'.loc id = some b) (hn : ∀ b i, g.lin b = some i → i.place = p → g'.lin b = some i) {v : V} {u : Value} (h : RepC g p v u) : RepC g' p v u := by
  cases v <;> simp only [RepC] at h ⊢ <;> try exact h.mono hm
  case undef => exact h
  case ptr id off => obtain ⟨b, h1, h2⟩ := h; exact ⟨b, hl _ _ h1, h2⟩
  case own id off len room =>
    rcases h with ⟨b, cap, h1, h2⟩ | h
    · exact .inl ⟨b, cap, hl _ _ h1, h2⟩
    · exact .inr h
  case lin priv e n xs =>
    rcases h with ⟨b, i, h1, h2, h3, h0, h4, h5⟩ | h
    · exact .inl ⟨b, i, hn b i h1 h2, h2, h3, h0, h4, h5.mono hm⟩
    · exact .inr h
  case fn f first caps =>
    obtain ⟨a, c, h1, h2, h3, h4, h5⟩ := h
    exact ⟨a, c, h1, h2, h3, fun j x hj hx => (h4 j x hj hx).mono hm hl, fun j x hj hx => (h5 j x hj hx).mono hm hl⟩
theorem RepA.mono {g g' : Gh} {pl : Nat → Place} (hm : MemLe g.mem g'.mem) (hl : ∀ id b, g.loc id = some b → g'.loc id = some b) (hn : ∀ j b i, g.lin b = some i → i.place = pl j → g'.lin b = some i) {v : V} {u : Value} (h : RepA g pl v u) : RepA g' pl v u := by
  unfold RepA at *
  split at h
  · obtain ⟨cs, h1, h2, h3⟩ := h
    exact ⟨cs, h1, h2, fun j c hj hc => (h3 j c hj hc).mono hm hl (hn _)⟩
  · trivial
  · exact h.mono hm hl (hn _)
theorem RepS.mono {g g' : Gh} {τ i : Nat} (hm : MemLe g.mem g'.mem) (hl : ∀ id b, g.loc id = some b → g'.loc id = some b) (hn : ∀ j k b x, g.lin b = some x → x.place = .slot τ i j k → g'.lin b = some x) {v : V} {u : Value} (h : RepS g τ i v u) : RepS g' τ i v u := by
  unfold RepS at *
  split at h
  · obtain ⟨cs, h1, h2, h3⟩ := h
    exact ⟨cs, h1, h2, fun k c hk hc => (h3 k c hk hc).mono hm hl (fun j => hn j _)⟩
  · exact h.mono hm hl (fun j => hn j _)
end Go.Fw
