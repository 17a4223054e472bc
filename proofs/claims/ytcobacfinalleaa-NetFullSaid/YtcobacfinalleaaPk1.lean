/- The abstract values, and the evaluator over them (a framework of this session's own). -/
import Derived.CallsIn
import Derived.RangeFuncIn
import Derived.Orders
import Derived.Laws.Sem
import Derived.Maps.AppendAt
import Derived.Below
import Derived.Laws.Cells
import Derived.Laws.CopyRow
import Derived.Laws.Tables
import Derived.ChangeKeysEq
import Derived.Laws.Entries
import Derived.Laws.CopyOwn
import Derived.Laws.StructEq
import Derived.Laws.Slices
import Derived.Laws.OwnMore
set_option linter.all false
namespace Go.Fw

/-- Abstract values: slices are immutable trees ('imm'), growing ones ('lin'), or arrays in the evaluator's own heap ('own'). -/
inductive V where
  | undef
  | bool (b : Bool)
  | int (k : IntKind) (n : Int)
  | str (s : ByteArray)
  | nilp
  | ptr (id off : Nat)
  | iptr (e : V) (off : Nat)
  | nils
  | nne
  | imm (full : Bool) (n : Nat) (xs : List V)
  | lin (priv : Bool) (e : TypeId) (n : Nat) (xs : List V)
  | own (id off len room : Nat)
  | agg (vs : List V)
  | tup (vs : List V)
  | fn (f : Fn) (first caps : List V)
  | nilf
  | iface (t : TypeId) (v : V)
  | nili
  | nilm
  deriving Inhabited

def V.cells : V → List V
  | .agg vs => vs
  | v => [v]

@[irreducible] def condB {α : Type} (b : Bool) (x y : α) : α := match b with | true => x | false => y
theorem condB_true {α : Type} (x y : α) : condB true x y = x := by unfold condB; rfl
theorem condB_false {α : Type} (x y : α) : condB false x y = y := by unfold condB; rfl
@[irreducible] def bindO {α β : Type} (o : Option α) (k : α → Option β) : Option β := o.bind k
theorem bindO_some {α β : Type} (a : α) (k : α → Option β) : bindO (some a) k = k a := by unfold bindO; rfl
theorem bindO_none {α β : Type} (k : α → Option β) : bindO none k = none := by unfold bindO; rfl
theorem bindO_eq {α β : Type} {o : Option α} {k : α → Option β} {r : β} (h : bindO o k = some r) : ∃ a, o = some a ∧ k a = some r := by
  unfold bindO at h; exact Option.bind_eq_some_iff.1 h
theorem condB_cases {α : Type} {b : Bool} {x y r : α} (h : condB b x y = r) : (b = true ∧ x = r) ∨ (b = false ∧ y = r) := by
  cases b
  · exact .inr ⟨rfl, by rw [condB_false] at h; exact h⟩
  · exact .inl ⟨rfl, by rw [condB_true] at h; exact h⟩

/-- A one-cell value as a reader has it; as its holder has it once there is a reader; as what is left where it was taken. -/
def demote1 : V → V | .lin _ _ n xs => .imm false n xs | v => v
def mark1 : V → V | .lin _ e n xs => .lin false e n xs | v => v
def drop1 : V → V | .lin .. => .undef | v => v
def isLin1 : V → Bool | .lin .. => true | _ => false
def map2 (f : V → V) : V → V | .agg vs => .agg (vs.map f) | v => f v
def map3 (f : V → V) : V → V | .tup vs => .tup (vs.map (map2 f)) | v => map2 f v
def isLin2 : V → Bool | .agg vs => vs.any isLin1 | v => isLin1 v
def isLin3 : V → Bool | .tup vs => vs.any isLin2 | v => isLin2 v

/-- No part of it lies in the evaluator's heap, none grows. -/
def flat0 : V → Bool
  | .undef | .ptr .. | .own .. | .lin .. | .agg _ | .tup _ | .iface .. => false
  | .fn _ first caps => first.isEmpty && caps.isEmpty
  | _ => true
def flat1 : V → Bool
  | .fn _ first caps => first.all flat0 && caps.all flat0
  | .iface _ (.agg vs) => vs.all flat0
  | .iface _ v => flat0 v
  | v => flat0 v
def flat2 : V → Bool
  | .agg vs => vs.all flat1
  | v => flat1 v

/-- A value that a closure can hold. -/
def capOk : V → Bool
  | .undef | .own .. | .lin .. | .agg _ | .tup _ => false
  | .fn _ first caps => first.isEmpty && caps.isEmpty
  | _ => true
/-- A value that a variable can hold. -/
def okV : V → Bool
  | .undef | .tup _ => false
  | _ => true

inductive Blk where
  | cells (cs : List V) (ety : TypeId)
  | dead
  deriving Inhabited

inductive FOut where
  | ret (v : V) (h : List Blk)
  | pan (v : V) (h : List Blk)
  deriving Inhabited

structure St where
  fr : List V
  h : List Blk

/-- How a function is left. -/
inductive Ex where
  | normal | exit (id : Nat) | ret | pan (v : V)

def getS (fr : List V) (i : Nat) : V := fr.getD i .undef

/-- Constants. -/
def ofVal1 : Value → V
  | .bool b => .bool b
  | .int k n => .int k n
  | .string s => .str s
  | .pointer none => .nilp
  | .slice none 0 0 => .nils
  | .nilIface => .nili
  | .nilFunc => .nilf
  | .map none => .nilm
  | _ => .undef
def ofVal : Value → V
  | .agg cs => if cs.toList.all Value.oneCell' then .agg (cs.toList.map ofVal1) else .undef
  | .tuple _ => .undef
  | v => ofVal1 v
def toVal1 : V → Option Value
  | .bool b => some (.bool b)
  | .int k n => some (.int k n)
  | .str s => some (.string s)
  | .nilp => some (.pointer none)
  | .nili => some .nilIface
  | .nilf => some .nilFunc
  | .nilm => some (.map none)
  | .nils => some (.slice none 0 0)
  | _ => none

def St.peek (st : St) : Operand → V
  | .tmp t => getS st.fr t
  | .const v => ofVal v
  | .global _ => .undef
  | .func f => .fn (.func f) [] []
/-- A copy is made: the holder of what grows is marked. -/
def St.useV (st : St) (x : Operand) : V := map3 demote1 (st.peek x)
def St.useS (st : St) : Operand → St
  | .tmp t => condB (isLin3 (getS st.fr t)) { st with fr := st.fr.set t (map3 mark1 (getS st.fr t)) } st
  | _ => st
/-- It is taken away. -/
def St.takeS (st : St) : Operand → St
  | .tmp t => condB (isLin3 (getS st.fr t)) { st with fr := st.fr.set t (map3 drop1 (getS st.fr t)) } st
  | _ => st

def St.useAll (st : St) : List Operand → St
  | [] => st
  | x :: xs => (st.useS x).useAll xs
def St.takeAll (st : St) : List Operand → St
  | [] => st
  | x :: xs => (st.takeS x).takeAll xs

/-- What a computation that asks for nothing but the program comes to. -/
def quiet {α : Type} (P : Program) : Sem α → Option α
  | .pure a => some a
  | .program k => quiet P (k P)
  | _ => none
theorem quiet_run {α : Type} {P : Program} {s : Sem α} {a : α} (h : quiet P s = some a) (w : World) : s.run P w = .ok a w := by
  induction s with
  | pure b => simp [quiet] at h; subst h; rfl
  | program k ih => simp only [quiet] at h; simp only [Sem.run]; exact ih P h
  | _ => simp [quiet] at h

def isAggT (P : Program) (t : TypeId) : Option Bool :=
  match P.underlying t with
  | some (.struct _) | some (.array _ _) => some true
  | some _ => some false
  | none => none
def sizeT (P : Program) (t : TypeId) : Option Nat := (P.info? t).map (·.size)
def bytesT (P : Program) (t : TypeId) : Option Nat := (P.info? t).map (·.bytes)
def zeroT (P : Program) (t : TypeId) : Option V := (P.info? t).bind fun i => i.zero.map ofVal
def elemT (P : Program) (t : TypeId) : Option TypeId := match P.underlying t with | some (.slice e) => some e | _ => none
def fieldT (P : Program) (t : TypeId) (f : Nat) : Option Field := match P.underlying t with | some (.struct fs) => fs[f]? | _ => none

/-- A value of a type out of its cells. -/
def ofCells (a : Bool) (cs : List V) : Option V := match a, cs with
  | true, cs => some (.agg cs)
  | false, [v] => some v
  | _, _ => none

def setAt (cs : List V) (off : Nat) : List V → List V
  | [] => cs
  | v :: vs => setAt (cs.set off v) (off + 1) vs

/-- '==' of two values of a type that is plain: bools, whole numbers, texts, and structs of such. -/
def eqFs (P : Program) (r : TypeId → List V → List V → Option Bool) : List Field → List V → List V → Option Bool
  | [], _, _ => some true
  | f :: fs, xs, ys =>
    if f.name = "_" then eqFs P r fs xs ys else
    match sizeT P f.type with
    | some n => match r f.type ((xs.drop f.offset).take n) ((ys.drop f.offset).take n), eqFs P r fs xs ys with
      | some a, some b => some (a && b)
      | _, _ => none
    | none => none
def eqPlain (P : Program) : Nat → TypeId → List V → List V → Option Bool
  | 0, _, _, _ => none
  | d + 1, t, xs, ys =>
    match P.underlying t, xs, ys with
    | some .bool, [.bool a], [.bool b] => some (a == b)
    | some (.int _), [.int k a], [.int k' b] => if k = k' then some (a == b) else none
    | some .string, [.str a], [.str b] => some (a.toList == b.toList)
    | some (.struct fs), xs, ys => if P.stoodInHeld t then none else eqFs P (eqPlain P d) fs.toList xs ys
    | _, _, _ => none

/-- A slice that is nil against one that is not. -/
def nilEq : V → V → Option Bool
  | .nils, .nne | .nne, .nils | .nils, .imm _ _ (_ :: _) | .nils, .lin _ _ _ (_ :: _) | .nils, .own _ _ (_ + 1) _ | .imm _ _ (_ :: _), .nils | .lin _ _ _ (_ :: _), .nils | .own _ _ (_ + 1) _, .nils => some false
  | _, _ => none

def vbin (P : Program) (op : BinOp) (t : TypeId) (x y : V) : Option V :=
  match op, x, y with
  | .eql, .agg xs, .agg ys => if P.eqGuardType P.depth t ∨ isAggT P t ≠ some true then none else (eqPlain P 40 t xs ys).map .bool
  | .neq, .agg xs, .agg ys => if P.eqGuardType P.depth t ∨ isAggT P t ≠ some true then none else (eqPlain P 40 t xs ys).map fun b => .bool (!b)
  | op, x, y => match nilEq x y with
    | some b => if (elemT P t).isSome then (match op with | .eql => some (.bool b) | .neq => some (.bool (!b)) | _ => none) else none
    | none => match toVal1 x, toVal1 y with
      | some .nilIface, _ | _, some .nilIface => none
      | some a, some b => (quiet P (binOp op t a b)).map ofVal1
      | _, _ => none

def vun (P : Program) (op : UnOp) (x : V) : Option V := match toVal1 x with
  | some a => (quiet P (Op.unary op a)).map ofVal1
  | none => none
def vconv (P : Program) (src dst : TypeId) (x : V) : Option V := match toVal1 x with
  | some a => (quiet P (convert src dst a)).map ofVal1
  | none => none

/-- The element at a place. -/
def idx {α : Type} (xs : List α) (n : Int) : Option α := if 0 ≤ n then xs[n.toNat]? else none

def isTmp (x : Operand) (d : Nat) : Bool := match x with | .tmp t => t == d | _ => false
/-- The parts of a struct, taken one after the other. -/
def buildV (P : Program) (t : TypeId) : St → List V → List (Nat × Operand) → Option (List V × St)
  | st, cs, [] => some (cs, st)
  | st, cs, (i, x) :: r => match fieldT P t i with
    | some g => match sizeT P g.type with
      | some n => if okV (st.peek x) ∧ (st.peek x).cells.length = n ∧ g.offset + n ≤ cs.length then buildV P t (st.takeS x) (setAt cs g.offset (st.peek x).cells) r else none
      | none => none
    | none => none
def fieldsOk (P : Program) (t : TypeId) : Bool := match P.underlying t with
  | some (.struct fs) => fs.toList.all fun f => (sizeT P f.type).isSome
  | _ => false

def slen : V → Option Nat
  | .nils | .nne => some 0
  | .imm _ _ xs | .lin _ _ _ xs => some xs.length
  | .own _ _ n _ => some n
  | .str s => some s.size
  | _ => none

def intOf? : V → Option Int
  | .int _ n => some n
  | _ => none

/-- A part of a slice or a text: from, to, how long it is, the part. -/
def vslice (P : Program) (t : TypeId) (x : V) (lo hi mx : Option Int) : Option (Int × Int × Nat × V) :=
  if mx.isSome && hi.isNone then none else match P.underlying t, x with
  | some (.slice e), .nils => if (sizeT P e).isSome then some (lo.getD 0, hi.getD 0, 0, .nils) else none
  | some (.slice e), .imm full n xs => if sizeT P e = some n then
      some (lo.getD 0, hi.getD xs.length, xs.length, .imm (mx.isSome || (full && hi.isNone)) n ((xs.take (hi.getD xs.length).toNat).drop (lo.getD 0).toNat)) else none
  | some (.slice e), .lin _ _ n xs => if sizeT P e = some n then
      some (lo.getD 0, hi.getD xs.length, xs.length, .imm mx.isSome n ((xs.take (hi.getD xs.length).toNat).drop (lo.getD 0).toNat)) else none
  | some .string, .str s => if mx.isNone then some (lo.getD 0, hi.getD s.size, s.size, .str (s.extract (lo.getD 0).toNat (hi.getD s.size).toNat)) else none
  | _, _ => none
def optInt (st : V → V) (v : Option V) : Option (Option Int) := match v with
  | none => some none
  | some v => (intOf? (st v)).map some

/-- What is appended, as elements. -/
def elems : V → Option (Nat × List V)
  | .nils | .nne => some (0, [])
  | .imm _ n xs | .lin _ _ n xs => some (n, xs)
  | _ => none

def vappend (e : TypeId) (sz : Nat) (s : V) (ys : List V) : Option (Nat × V) :=
  match s, ys with
  | .nils, [] => some (0, .nils)
  | .nils, ys => some (ys.length, .lin true e sz ys)
  | .imm true n xs, [] => some (xs.length, .imm true n xs)
  | .imm true n xs, ys => if n = sz then some (xs.length + ys.length, .lin true e sz (xs ++ ys)) else none
  | .lin p e' n xs, ys => if n = sz ∧ e' = e then some (xs.length + ys.length, .lin p e sz (xs ++ ys)) else none
  | _, _ => none

/-- What is appended to an array of the heap: cells. -/
def ownSrc (h : List Blk) (sz : Nat) : V → Option (Nat × List V)
  | .own id off len _ => match h[id]? with
    | some (.cells cs _) => some (len, (cs.drop off).take (len * sz))
    | _ => none
  | .imm _ n xs => if n = sz then some (xs.length, xs.flatMap V.cells) else none
  | _ => none

/-- The evaluator's context: the program; where a copy takes; where a fresh result is laid into the heap. -/
structure Cx where
  P : Program
  tr : FuncId → List Nat
  thaw : FuncId → List Nat
  un : FuncId → Nat → Option (List Nat)

def put (st : St) (d : Option Tmp) (v : V) : St := match d with
  | some d => { st with fr := st.fr.set d v }
  | none => st

def chunk (n : Nat) : Nat → List V → List V
  | 0, _ => []
  | m + 1, cs => .agg (cs.take n) :: chunk n m (cs.drop n)

/-- A fresh result is laid into the heap, to be written. -/
def thaw1 (h : List Blk) (e : TypeId) : V → Option (V × List Blk)
  | .lin true e' _ xs => if e' = e then some (.own h.length 0 xs.length xs.length, h ++ [.cells (xs.flatMap V.cells) e]) else none
  | _ => none

def vop {α : Type} (C : Cx) (vb : FuncId → List V → List Blk → Option FOut) (f : FuncId) (o : Oper) (st : St) (k : V → St → Option α) (kp : V → St → Option α) : Option α :=
  match o.op with
  | .move x => match o.dst with
    | some d => match st.peek x with
      | .tup vs => k (.tup vs) (st.takeS x)
      | v => if (C.tr f).contains d then k v (st.takeS x) else k (map3 demote1 v) (st.useS x)
    | none => none
  | .assign x => k (st.peek x) (st.takeS x)
  | .pick c a b => match st.peek c with
    | .bool t => condB t (k (st.useV a) (st.useS a)) (k (st.useV b) (st.useS b))
    | _ => none
  | .alloc t => match zeroT C.P t with
    | some z => if okV z then k (.ptr st.h.length 0) { st with h := st.h ++ [.cells z.cells t] } else none
    | none => none
  | .box t x => let st' := st.takeS x
    if okV (st.peek x) then k (.ptr st'.h.length 0) { st' with h := st'.h ++ [.cells (st.peek x).cells t] } else none
  | .build t parts => match zeroT C.P t with
    | some (.agg zs) => if fieldsOk C.P t ∧ (parts.toList.all fun p => !isTmp p.2 (o.dst.getD 0)) then match buildV C.P t st zs parts.toList with
        | some (cs, st') => k (.agg cs) st'
        | none => none
      else none
    | _ => none
  | .buildSlice t n parts => match elemT C.P t with
    | some e => match isAggT C.P e, sizeT C.P e with
      | some a, some sz =>
        if n * sz ≤ 4096 ∧ 0 < sz ∧ (parts.toList.map (·.1)) = List.range n ∧ (zeroT C.P e).isSome then
          let vs := parts.toList.map fun p => st.useV p.2
          let st' := st.useAll (parts.toList.map (·.2))
          if vs.all (fun v => okV v && v.cells.length == sz && (match v with | .agg _ => a | _ => !a)) then
            if vs.all flat2 then k (.imm true sz vs) st'
            else k (.own st'.h.length 0 n n) { st' with h := st'.h ++ [.cells (vs.flatMap V.cells) e] }
          else none
        else none
      | _, _ => none
    | none => none
  | .load t a => match isAggT C.P t, sizeT C.P t with
    | some g, some n => match st.peek a with
      | .ptr id off => match st.h[id]? with
        | some (.cells cs e) =>
          if off + n ≤ cs.length then
            let c := (cs.drop off).take n
            match o.dst with
            | some d =>
              if (C.tr f).contains d then match ofCells g c with
                | some v => k v { st with h := st.h.set id (.cells (setAt cs off (c.map drop1)) e) }
                | none => none
              else match ofCells g (c.map demote1) with
                | some v => condB (c.any isLin1) (k v { st with h := st.h.set id (.cells (setAt cs off (c.map mark1)) e) }) (k v st)
                | none => none
            | none => none
          else none
        | _ => none
      | .iptr x off => if off + n ≤ x.cells.length then match ofCells g ((x.cells.drop off).take n) with
          | some v => k v st
          | none => none
        else none
      | _ => none
    | _, _ => none
  | .store t a x => match (if o.dst = none then sizeT C.P t else none) with
    | some n => match st.peek a with
      | .ptr id off => match st.h[id]? with
        | some (.cells cs e) => let v := st.peek x
          if okV v ∧ v.cells.length = n ∧ off + n ≤ cs.length then let st' := st.takeS x
            k .undef { st' with h := st'.h.set id (.cells (setAt cs off v.cells) e) }
          else none
        | _ => none
      | _ => none
    | none => none
  | .nilCheck x => match st.peek x with
    | .ptr id off => k (.ptr id off) st
    | .iptr e off => k (.iptr e off) st
    | .fn (.func g) a c => k (.fn (.func g) a c) st
    | _ => none
  | .binOp op t x y _ => match vbin C.P op t (st.peek x) (st.peek y) with
    | some v => k v st
    | none => none
  | .unOp op _ x => match vun C.P op (st.peek x) with
    | some v => k v st
    | none => none
  | .convert src dst x => match vconv C.P src dst (st.peek x) with
    | some v => k v st
    | none => none
  | .makeFunc g first caps =>
    let a := first.toList.map st.useV; let c := caps.toList.map st.useV
    if a.all capOk && c.all capOk then k (.fn g a c) (st.useAll (first.toList ++ caps.toList)) else none
  | .makeSlice t l c => match elemT C.P t with
    | some e => match sizeT C.P e, bytesT C.P e, zeroT C.P e, st.peek l, st.peek c with
      | some sz, some by_, some z, .int _ n, .int _ m =>
        condB (decide (0 ≤ n ∧ n ≤ m ∧ m * by_ ≤ 2 ^ 47 ∧ m ≤ 2 ^ 47 ∧ z.cells.length = sz ∧ 0 < sz ∧ okV z = true))
          (if flat2 z ∧ !((C.thaw f).contains (o.dst.getD 0)) then condB (decide (n = m)) (k (.imm true sz (List.replicate n.toNat z)) st) none
          else k (.own st.h.length 0 n.toNat m.toNat) { st with h := st.h ++ [.cells ((List.replicate m.toNat z.cells).flatten) e] }) none
      | _, _, _, _, _ => none
    | none => none
  | .slice t x lo hi mx => match st.peek x with
    | .own id off len room => match optInt _root_.id (lo.map st.peek), optInt _root_.id (hi.map st.peek), optInt _root_.id (mx.map st.peek), (elemT C.P t).bind (sizeT C.P) with
      | some l, some h, some m, some sz => if mx.isSome && hi.isNone then none else condB (decide (0 ≤ l.getD 0 ∧ l.getD 0 ≤ h.getD len ∧ h.getD len ≤ m.getD (max len room) ∧ m.getD (max len room) ≤ (max len room : Nat)))
          (k (.own id (off + (l.getD 0).toNat * sz) ((h.getD len).toNat - (l.getD 0).toNat) ((m.getD (max len room)).toNat - (l.getD 0).toNat)) st) none
      | _, _, _, _ => none
    | _ => match optInt id (lo.map st.peek), optInt id (hi.map st.peek), optInt id (mx.map st.peek) with
    | some l, some h, some m => match vslice C.P t (st.peek x) l h m with
      | some (l, h, n, v) => match m with
        | none => condB (decide (0 ≤ l ∧ l ≤ h ∧ h ≤ n)) (k v (st.useS x)) none
        | some m => condB (decide (0 ≤ l ∧ l ≤ h ∧ h ≤ n ∧ m = h)) (k v (st.useS x)) none
      | none => none
    | _, _, _ => none
  | .fieldAddr s x j => match fieldT C.P s j with
    | some g => match sizeT C.P g.type with
      | some (_ + 1) => match st.peek x with
        | .ptr id off => k (.ptr id (off + g.offset)) st
        | .iptr e off => k (.iptr e (off + g.offset)) st
        | _ => none
      | _ => none
    | none => none
  | .field s x j => match fieldT C.P s j with
    | some g => match isAggT C.P g.type, sizeT C.P g.type with
      | some a, some n => match st.peek x with
        | .agg cs => if g.offset + n ≤ cs.length then match ofCells a (((cs.drop g.offset).take n).map demote1) with
            | some v => k v (st.useS x)
            | none => none
          else none
        | _ => none
      | _, _ => none
    | none => none
  | .indexAddr t x i => match st.peek i with
    | .int _ n => match st.peek x with
      | .imm _ m xs => if (elemT C.P t).bind (sizeT C.P) = some m then bindO (idx xs n) fun e => k (.iptr e 0) st else none
      | .lin _ _ m xs => if (elemT C.P t).bind (sizeT C.P) = some m then bindO (idx xs n) fun e => k (.iptr e 0) (st.useS x) else none
      | .own id off len _ => match (elemT C.P t).bind (sizeT C.P) with
        | some sz => condB (decide (0 ≤ n ∧ n < len)) (k (.ptr id (off + n.toNat * sz)) st) none
        | none => none
      | _ => none
    | _ => none
  | .index t x i => match C.P.underlying t with
    | some .string => match st.peek x, st.peek i with
      | .str s, .int _ n => bindO (idx s.data.toList n) fun b => k (.int .u8 b.toNat) st
      | _, _ => none
    | _ => none
  | .extract x i => match x with
    | .tmp t => match getS st.fr t with
      | .tup vs => match vs[i]? with
        | some v => k v { st with fr := st.fr.set t (.tup (vs.set i (map2 drop1 v))) }
        | none => none
      | _ => none
    | _ => none
  | .call c => match c.callee with
    | .builtin .len => match c.args.toList, c.argTypes.toList with
      | [x], [t] => match C.P.underlying t, st.peek x with
        | some .string, .str s => k (.int .i64 s.size) st
        | some (.slice _), .str _ => none
        | some (.slice _), v => match slen v with
          | some n => k (.int .i64 n) st
          | none => none
        | _, _ => none
      | _, _ => none
    | .builtin .append => match c.args.toList, c.argTypes.toList with
      | [s, x], [t, tx] => match elemT C.P t, elemT C.P tx with
        | some e, some _ => match st.peek s with
          | .own id off len room => match sizeT C.P e, st.h[id]? with
            | some sz, some (.cells cs e') => match ownSrc st.h sz (st.peek x) with
              | some (m, ys) => condB (decide (t = tx ∧ 0 < sz ∧ ys.length = m * sz ∧ len + m ≤ room ∧ off + (len + m) * sz ≤ cs.length) && ys.all fun c => !isLin1 c && okV c)
                  (k (.own id off (len + m) room) { st with h := st.h.set id (.cells (setAt cs (off + len * sz) ys) e') }) none
              | none => none
            | _, _ => none
          | _ => match bytesT C.P e, sizeT C.P e, zeroT C.P e, elems (st.peek x) with
          | some by_, some sz, some z, some (m, ys) => if t = tx ∧ (ys.isEmpty ∨ m = sz) ∧ 0 < sz ∧ 0 < by_ ∧ okV z ∧ z.cells.length = sz then
            let st1 := st.useS x
            match vappend e sz (st1.peek s) ys with
            | some (n, v) => condB (decide (n * by_ ≤ 2 ^ 47) && !isLin3 (getS (st1.takeS s).fr (o.dst.getD 0))) (k v (st1.takeS s)) none
            | none => none
            else none
          | _, _, _, _ => none
        | _, _ => none
      | _, _ => none
    | .builtin .clear => match c.args.toList, c.argTypes.toList with
      | [x], [t] => match elemT C.P t, st.peek x with
        | some e, .own id off len _ => match sizeT C.P e, zeroT C.P e, st.h[id]? with
          | some sz, some z, some (.cells cs e') => condB (decide (0 < sz ∧ z.cells.length = sz ∧ okV z = true ∧ flat2 z = true ∧ o.dst.isNone = true ∧ off + len * sz ≤ cs.length))
              (k .undef { st with h := st.h.set id (.cells (setAt cs off (List.replicate len z.cells).flatten) e') }) none
          | _, _, _ => none
        | _, _ => none
      | _, _ => none
    | .value g => match st.peek g with
      | .fn (.func g) first caps =>
        let args := first ++ (c.args.toList.map st.useV) ++ caps
        let st' := st.useAll c.args.toList
        if args.all flat2 then
          bindO (vb g args []) fun
            | .ret v _ => match o.dst with
              | some d => if (C.thaw f).contains d then match thaw1 st'.h ((elemT C.P o.type).getD 0) v with
                  | some (v, h) => condB (isLin3 (getS st'.fr d)) none (k v { st' with h := h })
                  | none => none
                else k v st'
              | none => k .undef st'
            | .pan v _ => kp v st'
        else bindO (vb g args st'.h) fun
            | .ret v h => k v { st' with h := h }
            | .pan v h => kp v { st' with h := h }
      | _ => none
    | _ => none
  | _ => none

/-- Whether an operation behind a guard is carried out: 'tup []' lies where one was not. -/
def wantedV (ops : List Oper) (fr : List V) (j : Nat) (want : Bool) : Option Bool :=
  match ((ops[j]?).bind (·.dst)) with
  | none => some false
  | some d => match getS fr d with
    | .bool b => some (b == want)
    | .tup [] => some false
    | _ => none

def vops (C : Cx) (vb : FuncId → List V → List Blk → Option FOut) (f : FuncId) (all : List Oper) : List Oper → St → (St → Option FOut) → (V → St → Option FOut) → Option FOut
  | [], st, k, _ => k st
  | o :: r, st, k, kp =>
    match o.guard with
    | none => vop C vb f o st (fun v st => vops C vb f all r (put st o.dst v) k kp) kp
    | some (j, want) => match wantedV all st.fr j want with
      | some b => condB b (vop C vb f o st (fun v st => vops C vb f all r (put st o.dst v) k kp) kp) (vops C vb f all r (put st o.dst (.tup [])) k kp)
      | none => none

/-! ### regions whose order is drawn -/
/-- What an operation has to do with the evaluator's heap. -/
inductive Kd where
  | none | rd (id : Nat) | wr (id : Nat) | al | any
  deriving Inhabited

def nonlin (o : Oper) (st : St) : Bool := o.op.operands.toList.all fun x => !isLin3 (st.peek x)
def kindV (C : Cx) (f : FuncId) (o : Oper) (st : St) : Kd := match o.op with
  | .alloc _ | .box .. => .al
  | .load t a => if (C.tr f).contains (o.dst.getD 0) then .any else match st.peek a with
    | .ptr id off => match st.h[id]?, sizeT C.P t with
      | some (.cells cs _), some n => condB (((cs.drop off).take n).any isLin1) .any (.rd id)
      | _, _ => .any
    | .iptr .. => .none
    | _ => .any
  | .store _ a _ => match st.peek a with
    | .ptr id _ => .wr id
    | _ => .any
  | .buildSlice _ _ parts => condB ((parts.toList.map fun p => st.useV p.2).all flat2) .none .al
  | .makeSlice t _ _ => if (C.thaw f).contains (o.dst.getD 0) then .al else match (elemT C.P t).bind (zeroT C.P) with
    | some z => if flat2 z then .none else .al
    | none => .any
  | .move _ | .assign _ | .pick .. | .build .. | .nilCheck _ | .binOp .. | .unOp .. | .convert .. | .makeFunc .. | .slice .. | .fieldAddr .. | .field .. | .indexAddr .. | .index .. | .extract .. => .none
  | .call c => match c.callee with
    | .builtin .len => .none
    | .builtin .append => match c.args.toList with
      | s :: _ => match st.peek s with
        | .own .. => .any
        | _ => if o.dst.isSome then .none else .any
      | _ => .any
    | .value g => match st.peek g with
      | .fn (.func _) first caps => condB ((first ++ (c.args.toList.map st.useV) ++ caps).all flat2) (match o.dst with | some d => if (C.thaw f).contains d then .al else .none | none => .none) .any
      | _ => .any
    | _ => .any
  | _ => .any
def compatK (h0 : Nat) : Kd → Kd → Bool
  | .any, _ | _, .any => false
  | .none, _ | _, .none => true
  | .rd _, .rd _ => true
  | .rd a, .wr b | .wr a, .rd b | .wr a, .wr b => a != b
  | .al, .rd a | .al, .wr a | .rd a, .al | .wr a, .al => decide (a < h0)
  | .al, .al => false

def guardV (ops : List Oper) (o : Oper) (st : St) : Option Bool := match o.guard with
  | none => some true
  | some (j, want) => wantedV ops st.fr j want

/-- 'un': for each operation, as bits, those before it in the text that it is not ordered with. -/
def unAt (un : List Nat) (j i : Nat) : Bool := (un.getD i 0).testBit j
def involved (un : List Nat) (i : Nat) : Bool := un.getD i 0 != 0 || un.any (·.testBit i)
/-- A slot that none of the operations looks at that this one is not ordered with. -/
def freeTmp (un : List Nat) (ops : List Oper) (i : Nat) (x : Operand) : Bool := match x with
  | .tmp t => (List.range ops.length).all fun j => !(unAt un i j || unAt un j i) || (match ops[j]? with
    | some oj => !(oj.looksAt ops.toArray).contains t
    | none => true)
  | _ => false
def takesOp : Op → Bool
  | .build .. | .store .. => true
  | .call c => match c.callee with | .builtin .append => true | _ => false
  | _ => false
/-- Nothing that grows is among the operands, or it is taken, and none other looks there. -/
def calm (un : List Nat) (ops : List Oper) (i : Nat) (o : Oper) (st : St) : Bool := nonlin o st || (takesOp o.op && o.op.operands.toList.all fun x => !isLin3 (st.peek x) || freeTmp un ops i x)
def notAny : Kd → Bool
  | .any => false
  | _ => true
def vdraw (C : Cx) (vb : Nat → FuncId → List V → List Blk → Option FOut) (f : FuncId) (un : List Nat) (h0 : Nat) (ops : List Oper) : List Nat → List (Nat × Kd) → St → (St → Option FOut) → Option FOut
  | [], _, st, k => k st
  | i :: r, acc, st, k => match ops[i]? with
    | none => none
    | some o => condB (!involved un i || decide (h0 ≤ st.h.length)) (bindO (guardV ops o st) fun b =>
      condB b
        (condB (involved un i)
          (condB (calm un ops i o st && notAny (kindV C f o st) && acc.all fun p => !unAt un p.1 i || compatK h0 p.2 (kindV C f o st))
            (bindO (vop C (vb i) f o st (fun v s => some (v, s)) (fun _ _ => none)) fun q => vdraw C vb f un h0 ops r ((i, kindV C f o st) :: acc) (put q.2 o.dst q.1) k) none)
          (bindO (vop C (vb i) f o st (fun v s => some (v, s)) (fun _ _ => none)) fun q => vdraw C vb f un h0 ops r acc (put q.2 o.dst q.1) k))
        (vdraw C vb f un h0 ops r acc (put st o.dst (.tup [])) k)) none

/-- The code of a function. 'n': rounds and nesting. -/
def vexec (C : Cx) (vb : FuncId → List V → List Blk → Option FOut) (f : FuncId) : Nat → Code → St → (Ex → St → Option FOut) → Option FOut
  | 0, _, _, _ => none
  | n + 1, c, st, K =>
    match c with
    | .skip | .label _ => K .normal st
    | .region _ ops false => vops C vb f ops.toList ops.toList st (K .normal) (fun v st => K (.pan v) st)
    | .region id ops true => match C.un f id with
      | some un => vdraw C (fun _ => vb) f un st.h.length ops.toList (List.range ops.size) [] st (K .normal)
      | none => none
    | .seq a b => vexec C vb f n a st fun e st' => match e with
      | .normal => vexec C vb f n b st' K
      | e => K e st'
    | .cond x a b => match st.peek x with
      | .bool t => condB t (vexec C vb f n a st K) (vexec C vb f n b st K)
      | _ => none
    | .block id b => vexec C vb f n b st fun e st' => match e with
      | .exit i => if i = id then K .normal st' else K (.exit i) st'
      | e => K e st'
    | .loop b => vexec C vb f n b st fun e st' => match e with
      | .normal => vexec C vb f n (.loop b) st' K
      | e => K e st'
    | .exit id => K (.exit id) st
    | .ret => K .ret st
    | _ => none

/-- What lies in the heap is taken out, at a function's end: nobody will write it any more. -/
def escape1 (P : Program) (h : List Blk) : V → Option V
  | .own id off n _ => match h[id]? with
    | some (.cells cs e) => match isAggT P e, sizeT P e with
      | some false, some 1 => condB (decide (off + n ≤ cs.length) && ((cs.drop off).take n).all flat1) (some (.imm false 1 ((cs.drop off).take n))) none
      | some true, some (m + 1) => condB (decide (off + n * (m + 1) ≤ cs.length) && ((cs.drop off).take (n * (m + 1))).all flat1) (some (.imm false (m + 1) (chunk (m + 1) n (cs.drop off)))) none
      | _, _ => none
    | _ => none
  | .lin p e n xs => some (.lin p e n xs)
  | v => condB (flat1 v) (some v) none
def optAll {α β : Type} (f : α → Option β) : List α → Option (List β)
  | [] => some []
  | x :: xs => bindO (f x) fun y => bindO (optAll f xs) fun ys => some (y :: ys)
def escape2 (P : Program) (h : List Blk) : V → Option V
  | .agg vs => bindO (optAll (escape1 P h) vs) fun vs => some (.agg vs)
  | v => escape1 P h v

def resultV (C : Cx) (st : St) : ResultVar → Option V
  | .tmp t => some (getS st.fr t)
  | .cell a t => match getS st.fr a, isAggT C.P t, sizeT C.P t with
    | .ptr id off, some g, some n => match st.h[id]? with
      | some (.cells cs _) => if off + n ≤ cs.length then ofCells g ((cs.drop off).take n) else none
      | _ => none
    | _, _, _ => none
def resultKey (st : St) : ResultVar → Nat × Nat
  | .tmp t => (0, t)
  | .cell a _ => match getS st.fr a with
    | .ptr id _ => (1, id)
    | _ => (2, a)
def distinct : List (Nat × Nat) → Bool
  | [] => true
  | x :: xs => !xs.contains x && distinct xs
def one (vs : List V) : V := match vs with
  | [v] => v
  | vs => .tup vs

def vfinal (C : Cx) (fn : Func) (pure : Bool) : Ex → St → Option FOut
  | .normal, st | .ret, st => bindO (optAll (resultV C st) fn.results.toList) fun vs =>
    if pure then (if distinct (fn.results.toList.map (resultKey st)) then bindO (optAll (escape2 C.P st.h) vs) fun vs => some (.ret (one vs) []) else none)
    else condB (vs.all fun v => !isLin2 v && okV v) (some (.ret (one vs) st.h)) none
  | .pan v, st => if pure then condB (flat2 v) (some (.pan v [])) none else some (.pan v st.h)
  | .exit _, _ => none

def vcall (C : Cx) : Nat → FuncId → List V → List Blk → Option FOut
  | 0, _, _, _ => none
  | n + 1, f, args, h =>
    match C.P.funcs[f]? with
    | some fn => match fn.body with
      | some c => if fn.name == "runtime.NumGoroutine" then none else
        vexec C (vcall C n) f (n + 1) c ⟨args ++ List.replicate (fn.ntmps - args.length) .undef, h⟩ (vfinal C fn (args.all flat2))
      | none => none
    | none => none

end Go.Fw
/- How an abstract value stands for a value of the model; what the evaluator's state says of a world. -/
namespace Go.Fw
open Go.RowKit

def isCell : V → Bool
  | .agg _ | .tup _ => false
  | _ => true

abbrev Mem := Nat → Option (List Value)
def stAt (m : Mem) (b i : Nat) : Option Value := (m b).bind (·[i]?)

/-- What is read out of memory that nobody writes any more. -/
inductive RepI (m : Mem) : V → Value → Prop
  | bool (b : Bool) : RepI m (.bool b) (.bool b)
  | int (k : IntKind) (n : Int) : RepI m (.int k n) (.int k n)
  | str (s : ByteArray) : RepI m (.str s) (.string s)
  | nilp : RepI m .nilp (.pointer none)
  | nils : RepI m .nils (.slice none 0 0)
  | nne (a : Addr) (cap : Nat) (hm : cap ≤ maxLen) (hp : a.spot = none ∨ cap = 0) : RepI m .nne (.slice (some a) 0 cap)
  | nilf : RepI m .nilf .nilFunc
  | nili : RepI m .nili .nilIface
  | nilm : RepI m .nilm (.map none)
  | imm (full : Bool) (xs : List V) (b off cap esz : Nat) (val : Nat → Nat → Value) (hc : xs.length ≤ cap) (hf : full = true → cap = xs.length) (hm : cap ≤ maxLen) (hz : 0 < esz)
      (hl : ∀ (i : Nat) (x : V), xs[i]? = some x → x.cells.length = esz)
      (hs : ∀ (i : Nat) (x : V) (j : Nat) (c : V), xs[i]? = some x → x.cells[j]? = some c → isCell c = true ∧ stAt m b (off + i * esz + j) = some (val i j))
      (hv : ∀ (i : Nat) (x : V) (j : Nat) (c : V), xs[i]? = some x → x.cells[j]? = some c → RepI m c (val i j)) (sp : Option Nat := none) (hp : sp = none ∨ cap = 0 := by exact Or.inl rfl) :
      RepI m (.imm full esz xs) (.slice (some ⟨b, off, sp⟩) xs.length cap)
  | none0 (full : Bool) (esz : Nat) (hz : 0 < esz) : RepI m (.imm full esz []) (.slice none 0 0)
  | iptr (e : V) (o : Nat) (b base : Nat) (val : Nat → Value)
      (hs : ∀ (j : Nat) (c : V), e.cells[j]? = some c → isCell c = true ∧ stAt m b (base + j) = some (val j))
      (hv : ∀ (j : Nat) (c : V), e.cells[j]? = some c → RepI m c (val j)) :
      RepI m (.iptr e o) (.pointer (some ⟨b, base + o, none⟩))
  | agg (vs : List V) (cs : Array Value) (hn : vs.length = cs.size) (hs : ∀ (j : Nat) (c : V), vs[j]? = some c → isCell c = true)
      (hv : ∀ (j : Nat) (c : V) (h : j < cs.size), vs[j]? = some c → RepI m c cs[j]) : RepI m (.agg vs) (.agg cs)
  | fn (f : Fn) (first caps : List V) (first' caps' : Array Value) (h1 : first.length = first'.size) (h2 : caps.length = caps'.size)
      (v1 : ∀ (j : Nat) (c : V) (h : j < first'.size), first[j]? = some c → RepI m c first'[j])
      (v2 : ∀ (j : Nat) (c : V) (h : j < caps'.size), caps[j]? = some c → RepI m c caps'[j]) : RepI m (.fn f first caps) (.func f first' caps')
  | iface (t : TypeId) (v : V) (u : Value) (h : RepI m v u) : RepI m (.iface t v) (.iface t u)

def MemLe (m m' : Mem) : Prop := ∀ b cs, m b = some cs → ∃ cs', m' b = some cs' ∧ cs <+: cs'
theorem MemLe.refl (m : Mem) : MemLe m m := fun _ cs h => ⟨cs, h, List.prefix_refl _⟩
theorem MemLe.trans {a b c : Mem} (h : MemLe a b) (k : MemLe b c) : MemLe a c := fun x cs hx => by
  obtain ⟨cs', h1, h2⟩ := h x cs hx
  obtain ⟨cs'', h3, h4⟩ := k x cs' h1
  exact ⟨cs'', h3, h2.trans h4⟩
theorem stAt_le {m m' : Mem} (h : MemLe m m') {b i : Nat} {v : Value} (hv : stAt m b i = some v) : stAt m' b i = some v := by
  unfold stAt at *
  obtain ⟨cs, hc, hi⟩ := Option.bind_eq_some_iff.1 hv
  obtain ⟨cs', h1, t, rfl⟩ := h b cs hc
  rw [h1]
  simp only [Option.bind_some]
  have hlt := (List.getElem?_eq_some_iff.1 hi).1
  rw [List.getElem?_append_left hlt]
  exact hi

theorem RepI.mono {m m' : Mem} (hm : MemLe m m') {v : V} {u : Value} (h : RepI m v u) : RepI m' v u := by
  induction h with
  | bool b => exact .bool b
  | int k n => exact .int k n
  | str s => exact .str s
  | nilp => exact .nilp
  | nils => exact .nils
  | nne a cap h hp => exact .nne a cap h hp
  | nilf => exact .nilf
  | nili => exact .nili
  | nilm => exact .nilm
  | imm full xs b off cap esz val hc hf hmx hz hl hs hv sp hp ih =>
    exact .imm full xs b off cap esz val hc hf hmx hz hl (fun i x j c h1 h2 => ⟨(hs i x j c h1 h2).1, stAt_le hm (hs i x j c h1 h2).2⟩) ih sp hp
  | none0 full esz hz => exact .none0 full esz hz
  | iptr e o b base val hs hv ih => exact .iptr e o b base val (fun j c h => ⟨(hs j c h).1, stAt_le hm (hs j c h).2⟩) ih
  | agg vs cs hn hs hv ih => exact .agg vs cs hn hs ih
  | fn f first caps first' caps' h1 h2 v1 v2 ih1 ih2 => exact .fn f first caps first' caps' h1 h2 ih1 ih2
  | iface t v u h ih => exact .iface t v u ih

theorem RepI.one {m : Mem} {v : V} {u : Value} (h : RepI m v u) (hc : isCell v = true) : u.oneCell' = true := by
  cases h <;> first | rfl | simp [isCell] at hc

/-- Where a value that may grow is held. -/
inductive Place where
  | slot (τ i j k : Nat)
  | cell (id j : Nat)
  deriving DecidableEq

structure LinI where
  place : Place
  priv : Bool
  cs : List Value
  ety : TypeId
  esz : Nat
  cap : Nat

structure Gh where
  mem : Mem
  loc : Nat → Option Nat
  lin : Nat → Option LinI

/-- The elements of a row of cells. -/
def Elems (m : Mem) (esz : Nat) (xs : List V) (cs : List Value) : Prop :=
  cs.length = xs.length * esz ∧ 0 < esz ∧ (∀ (i : Nat) (x : V), xs[i]? = some x → x.cells.length = esz) ∧
  ∀ (i : Nat) (x : V) (j : Nat) (c : V), xs[i]? = some x → x.cells[j]? = some c → isCell c = true ∧ ∃ v, cs[i * esz + j]? = some v ∧ RepI m c v

theorem Elems.mono {m m' : Mem} (hm : MemLe m m') {esz : Nat} {xs : List V} {cs : List Value} (h : Elems m esz xs cs) : Elems m' esz xs cs :=
  ⟨h.1, h.2.1, h.2.2.1, fun i x j c h1 h2 => by
    obtain ⟨a, v, b, d⟩ := h.2.2.2 i x j c h1 h2
    exact ⟨a, v, b, d.mono hm⟩⟩

/-- One captured value. -/
def RepP (g : Gh) (v : V) (u : Value) : Prop := match v with
  | .ptr id off => ∃ b, g.loc id = some b ∧ u = .pointer (some ⟨b, off, none⟩)
  | v => RepI g.mem v u

/-- One cell. -/
def RepC (g : Gh) (p : Place) (v : V) (u : Value) : Prop := match v with
  | .undef => u.oneCell' = true
  | .ptr id off => ∃ b, g.loc id = some b ∧ u = .pointer (some ⟨b, off, none⟩)
  | .own id off len room => (∃ b cap, g.loc id = some b ∧ u = .slice (some ⟨b, off, none⟩) len cap ∧ len ≤ cap ∧ cap ≤ maxLen ∧ room ≤ cap) ∨ (len = 0 ∧ room = 0 ∧ ∃ ad, u = .slice ad 0 0)
  | .lin priv e n xs => (∃ b i, g.lin b = some i ∧ i.place = p ∧ i.priv = priv ∧ (i.ety = e ∧ i.esz = n) ∧ u = .slice (some ⟨b, 0, none⟩) xs.length i.cap ∧ Elems g.mem i.esz xs i.cs) ∨ (xs = [] ∧ 0 < n ∧ ∃ ad, u = .slice ad 0 0)
  | .fn f first caps => ∃ first' caps', u = .func f first' caps' ∧ first.length = first'.size ∧ caps.length = caps'.size ∧
      (∀ (j : Nat) (c : V) (h : j < first'.size), first[j]? = some c → RepP g c first'[j]) ∧ (∀ (j : Nat) (c : V) (h : j < caps'.size), caps[j]? = some c → RepP g c caps'[j])
  | .agg _ | .tup _ => False
  | v => RepI g.mem v u

/-- A value of a variable: one cell, or the cells of a struct; 'pl': where its cells are held. -/
def RepA (g : Gh) (pl : Nat → Place) (v : V) (u : Value) : Prop := match v with
  | .agg vs => ∃ cs : Array Value, u = .agg cs ∧ vs.length = cs.size ∧ ∀ (j : Nat) (c : V) (h : j < cs.size), vs[j]? = some c → RepC g (pl (j + 1)) c cs[j]
  | .undef => True
  | v => RepC g (pl 0) v u

/-- What lies in a slot. -/
def RepS (g : Gh) (τ i : Nat) (v : V) (u : Value) : Prop := match v with
  | .tup vs => ∃ cs : Array Value, u = .tuple cs ∧ vs.length = cs.size ∧ ∀ (k : Nat) (c : V) (h : k < cs.size), vs[k]? = some c → RepA g (fun j => .slot τ i j (k + 1)) c cs[k]
  | v => RepA g (fun j => .slot τ i j 0) v u

/-! ### the world -/
structure HeapOk (g : Gh) (H : List Blk) (B : Nat) (w : World) : Prop where
  bound : ∀ id b, g.loc id = some b → id < H.length
  inj : ∀ id id' b, g.loc id = some b → g.loc id' = some b → id = id'
  fresh : ∀ id b, g.loc id = some b → B ≤ b ∧ b < w.heap.size ∧ g.mem b = none ∧ g.lin b = none
  blk : ∀ id b cs e, g.loc id = some b → H[id]? = some (.cells cs e) → ∃ cur, w.heap[b]? = some (.cells cur e (0, 0)) ∧ cs.length ≤ cur.size ∧
    ∀ (j : Nat) (c : V) (h : j < cur.size), cs[j]? = some c → RepC g (.cell id j) c cur[j]

structure MemOk (m : Mem) (w : World) : Prop where
  at_ : ∀ b cs, m b = some cs → ∃ cur e fr, w.heap[b]? = some (.cells cur e fr) ∧ cs <+: cur.toList

structure LinOk (g : Gh) (B : Nat) (w : World) : Prop where
  at_ : ∀ b i, g.lin b = some i → B ≤ b ∧ (∃ cur, w.heap[b]? = some (.cells cur i.ety (0, 0)) ∧ i.cs <+: cur.toList ∧ cur.size = i.cap * i.esz) ∧ i.cs.length ≤ i.cap * i.esz ∧ i.cap ≤ maxLen ∧ 0 < i.esz ∧
    (i.priv = true → g.mem b = none) ∧ (i.priv = false → g.mem b = some i.cs)

structure R (B τ : Nat) (g : Gh) (st : St) (a : Act) (w : World) : Prop where
  size : st.fr.length = a.tmps.size
  slots : ∀ (i : Nat) (v : V) (h : i < a.tmps.size), st.fr[i]? = some v → RepS g τ i v a.tmps[i]
  heap : HeapOk g st.h B w
  mem : MemOk g.mem w
  lin : LinOk g B w
  base : B ≤ w.heap.size
  defers : a.defers = []

/-- From one state to a later one of the same function: what others hold stays. -/
structure Later (B τ : Nat) (g g' : Gh) (w w' : World) : Prop where
  below : Below B w w'
  mem : MemLe g.mem g'.mem
  old : ∀ b, b < B → g'.mem b = g.mem b
  loc : ∀ id b, g.loc id = some b → g'.loc id = some b
  lin : ∀ b i, g.lin b = some i → (∃ τ' x j k, i.place = .slot τ' x j k ∧ τ' ≠ τ) → g'.lin b = some i

theorem Later.refl (B τ : Nat) (g : Gh) (w : World) : Later B τ g g w w := ⟨Below.refl _ _, MemLe.refl _, fun _ _ => rfl, fun _ _ h => h, fun _ _ h _ => h⟩
theorem Later.trans {B τ : Nat} {g g' g'' : Gh} {w w' w'' : World} (h : Later B τ g g' w w') (k : Later B τ g' g'' w' w'') : Later B τ g g'' w w'' :=
  ⟨h.below.trans k.below, h.mem.trans k.mem, fun b hb => (k.old b hb).trans (h.old b hb), fun id b hl => k.loc id b (h.loc id b hl), fun b i hi hp => k.lin b i (h.lin b i hi hp) hp⟩

theorem RepI.stays {g g' : Gh} (hm : MemLe g.mem g'.mem) {v : V} {u : Value} (h : RepI g.mem v u) : RepI g'.mem v u := h.mono hm

theorem RepP.mono {g g' : Gh} (hm : MemLe g.mem g'.mem) (hl : ∀ id b, g.loc id = some b → g'.loc id = some b) {v : V} {u : Value} (h : RepP g v u) : RepP g' v u := by
  unfold RepP at *
  split at h
  · obtain ⟨b, h1, h2⟩ := h; exact ⟨b, hl _ _ h1, h2⟩
  · exact h.mono hm

/-- A cell stays what it is where what it holds itself stays. -/
theorem RepC.mono {g g' : Gh} {p : Place} (hm : MemLe g.mem g'.mem) (hl : ∀ id b, g.loc id = some b → g'.loc id = some b) (hn : ∀ b i, g.lin b = some i → i.place = p → g'.lin b = some i) {v : V} {u : Value} (h : RepC g p v u) : RepC g' p v u := by
  cases v <;> simp only [RepC] at h ⊢ <;> try exact h.mono hm
  case undef => exact h
  case ptr id off => obtain ⟨b, h1, h2⟩ := h; exact ⟨b, hl _ _ h1, h2⟩
  case own id off len room =>
    rcases h with ⟨b, cap, h1, h2⟩ | h
    · exact .inl ⟨b, cap, hl _ _ h1, h2⟩
    · exact .inr h
  case lin priv e n xs =>
    rcases h with ⟨b, i, h1, h2, h3, h0, h4, h5⟩ | h
    · exact .inl ⟨b, i, hn b i h1 h2, h2, h3, h0, h4, h5.mono hm⟩
    · exact .inr h
  case fn f first caps =>
    obtain ⟨a, c, h1, h2, h3, h4, h5⟩ := h
    exact ⟨a, c, h1, h2, h3, fun j x hj hx => (h4 j x hj hx).mono hm hl, fun j x hj hx => (h5 j x hj hx).mono hm hl⟩
theorem RepA.mono {g g' : Gh} {pl : Nat → Place} (hm : MemLe g.mem g'.mem) (hl : ∀ id b, g.loc id = some b → g'.loc id = some b) (hn : ∀ j b i, g.lin b = some i → i.place = pl j → g'.lin b = some i) {v : V} {u : Value} (h : RepA g pl v u) : RepA g' pl v u := by
  unfold RepA at *
  split at h
  · obtain ⟨cs, h1, h2, h3⟩ := h
    exact ⟨cs, h1, h2, fun j c hj hc => (h3 j c hj hc).mono hm hl (hn _)⟩
  · trivial
  · exact h.mono hm hl (hn _)
theorem RepS.mono {g g' : Gh} {τ i : Nat} (hm : MemLe g.mem g'.mem) (hl : ∀ id b, g.loc id = some b → g'.loc id = some b) (hn : ∀ j k b x, g.lin b = some x → x.place = .slot τ i j k → g'.lin b = some x) {v : V} {u : Value} (h : RepS g τ i v u) : RepS g' τ i v u := by
  unfold RepS at *
  split at h
  · obtain ⟨cs, h1, h2, h3⟩ := h
    exact ⟨cs, h1, h2, fun k c hk hc => (h3 k c hk hc).mono hm hl (fun j => hn j _)⟩
  · exact h.mono hm hl (fun j => hn j _)
end Go.Fw
/- Steps of the evaluator's state: a copy, a taking, a new slot; and what they leave of the relation. -/
namespace Go.Fw
open Go.RowKit

/-- What lies at places of a kind gets readers. -/
def Gh.share (g : Gh) (q : Place → Bool) : Gh where
  mem := fun b => match g.lin b with | some i => if q i.place then some i.cs else g.mem b | none => g.mem b
  loc := g.loc
  lin := fun b => (g.lin b).map fun i => if q i.place then { i with priv := false } else i
/-- What lies at places is held elsewhere from now on. -/
def Gh.ren (g : Gh) (f : Place → Place) : Gh where
  mem := g.mem
  loc := g.loc
  lin := fun b => (g.lin b).map fun i => { i with place := f i.place }

theorem share_memLe {g : Gh} {q : Place → Bool} {B : Nat} {w : World} (h : LinOk g B w) : MemLe g.mem (g.share q).mem := by
  intro b cs hb
  unfold Gh.share
  dsimp only
  cases hl : g.lin b with
  | none => exact ⟨cs, hb, List.prefix_refl _⟩
  | some i =>
    dsimp only
    split
    · obtain ⟨_, _, _, _, _, hp, hs⟩ := h.at_ b i hl
      cases hpr : i.priv with
      | true => rw [hp hpr] at hb; cases hb
      | false => rw [hs hpr] at hb; cases hb; exact ⟨_, rfl, List.prefix_refl _⟩
    · exact ⟨cs, hb, List.prefix_refl _⟩
theorem share_lin {g : Gh} {q : Place → Bool} {B : Nat} {w : World} (h : LinOk g B w) : LinOk (g.share q) B w := by
  constructor
  intro b i hi
  unfold Gh.share at hi ⊢
  dsimp only at hi ⊢
  cases hl : g.lin b with
  | none => rw [hl] at hi; cases hi
  | some i0 =>
    rw [hl] at hi
    simp only [Option.map_some, Option.some.injEq] at hi
    subst hi
    obtain ⟨h1, h2, h3, h4, h5, h6, h7⟩ := h.at_ b i0 hl
    by_cases hq : q i0.place = true
    · simp only [hq, if_true]
      exact ⟨h1, h2, h3, h4, h5, fun h => by simp at h, fun _ => trivial⟩
    · simp only [hq]
      exact ⟨h1, h2, h3, h4, h5, h6, h7⟩
theorem share_mem {g : Gh} {q : Place → Bool} {B : Nat} {w : World} (h : LinOk g B w) (hm : MemOk g.mem w) : MemOk (g.share q).mem w := by
  constructor
  intro b cs hb
  unfold Gh.share at hb
  dsimp only at hb
  cases hl : g.lin b with
  | none => rw [hl] at hb; exact hm.at_ b cs hb
  | some i =>
    rw [hl] at hb
    dsimp only at hb
    split at hb
    · cases hb
      obtain ⟨_, ⟨cur, h2, h3, _⟩, _⟩ := h.at_ b i hl
      exact ⟨cur, _, _, h2, h3⟩
    · exact hm.at_ b cs hb
theorem share_heap {g : Gh} {q : Place → Bool} {B : Nat} {H : List Blk} {w : World} (h : LinOk g B w) (hq : ∀ id j, q (.cell id j) = false) (hh : HeapOk g H B w) : HeapOk (g.share q) H B w := by
  refine ⟨hh.bound, hh.inj, fun id b hb => ?_, fun id b cs e hb he => ?_⟩
  · obtain ⟨h1, h2, h3, h4⟩ := hh.fresh id b hb
    refine ⟨h1, h2, ?_, ?_⟩
    · unfold Gh.share; dsimp only; rw [h4]; exact h3
    · unfold Gh.share; dsimp only; rw [h4]; rfl
  · obtain ⟨cur, h1, h2, h3⟩ := hh.blk id b cs e hb he
    refine ⟨cur, h1, h2, fun j c hj hc => (h3 j c hj hc).mono (share_memLe h) (fun _ _ h => h) (fun b i hi hp => ?_)⟩
    unfold Gh.share; dsimp only; rw [hi]; simp [hp, hq]
theorem ren_lin {g : Gh} {f : Place → Place} {B : Nat} {w : World} (h : LinOk g B w) : LinOk (g.ren f) B w := by
  constructor
  intro b i hi
  unfold Gh.ren at hi
  dsimp only at hi
  cases hl : g.lin b with
  | none => rw [hl] at hi; cases hi
  | some i0 =>
    rw [hl] at hi
    simp only [Option.map_some, Option.some.injEq] at hi
    subst hi
    exact h.at_ b i0 hl
theorem ren_heap {g : Gh} {f : Place → Place} {B : Nat} {H : List Blk} {w : World} (hf : ∀ id j, f (.cell id j) = .cell id j) (hh : HeapOk g H B w) : HeapOk (g.ren f) H B w := by
  refine ⟨hh.bound, hh.inj, fun id b hb => ?_, fun id b cs e hb he => ?_⟩
  · obtain ⟨h1, h2, h3, h4⟩ := hh.fresh id b hb
    refine ⟨h1, h2, h3, ?_⟩
    unfold Gh.ren; dsimp only; rw [h4]; rfl
  · obtain ⟨cur, h1, h2, h3⟩ := hh.blk id b cs e hb he
    refine ⟨cur, h1, h2, fun j c hj hc => RepC.mono (g := g) (g' := g.ren f) (MemLe.refl _) (fun _ _ h => h) (fun b i hi hp => ?_) (h3 j c hj hc)⟩
    unfold Gh.ren; dsimp only; rw [hi]
    cases i; simp at hp; simp [hp, hf]
theorem lin_share_of {g : Gh} {q : Place → Bool} {b : Nat} {i : LinI} (h : g.lin b = some i) (hq : q i.place = false) : (g.share q).lin b = some i := by
  unfold Gh.share; dsimp only; rw [h]; simp [hq]
theorem lin_ren_of {g : Gh} {f : Place → Place} {b : Nat} {i : LinI} (h : g.lin b = some i) (hf : f i.place = i.place) : (g.ren f).lin b = some i := by
  unfold Gh.ren; dsimp only; rw [h]; simp [hf]

theorem share_later {g : Gh} {q : Place → Bool} {B τ : Nat} {w : World} (h : LinOk g B w) (hq : ∀ τ' x j k, q (.slot τ' x j k) = true → τ' = τ) : Later B τ g (g.share q) w w := by
  refine ⟨Below.refl _ _, share_memLe h, fun b hb => ?_, fun _ _ h => h, fun b i hi ⟨τ', x, j, k, hp, hne⟩ => lin_share_of hi ?_⟩
  · unfold Gh.share; dsimp only
    cases hl : g.lin b with
    | none => rfl
    | some i => have := (h.at_ b i hl).1; omega
  · rw [hp]
    cases hh : q (.slot τ' x j k) with
    | false => rfl
    | true => exact absurd (hq _ _ _ _ hh) hne
theorem ren_later {g : Gh} {f : Place → Place} {B τ : Nat} {w : World} (hf : ∀ τ' x j k, τ' ≠ τ → f (.slot τ' x j k) = .slot τ' x j k) : Later B τ g (g.ren f) w w :=
  ⟨Below.refl _ _, MemLe.refl _, fun _ _ => rfl, fun _ _ h => h, fun b i hi ⟨τ', x, j, k, hp, hne⟩ => lin_ren_of hi (by rw [hp]; exact hf _ _ _ _ hne)⟩

/-! ### a cell that is copied, marked, taken -/
theorem repI_imm_of {m : Mem} {b cap esz : Nat} {xs : List V} {cs : List Value} (hb : m b = some cs) (he : Elems m esz xs cs) (hc : cs.length ≤ cap * esz) (hmx : cap ≤ maxLen) : RepI m (.imm false esz xs) (.slice (some ⟨b, 0, none⟩) xs.length cap) := by
  obtain ⟨h1, h2, h3, h4⟩ := he
  have hle : xs.length ≤ cap := by rw [h1] at hc; exact Nat.le_of_mul_le_mul_right hc h2
  refine .imm false xs b 0 cap esz (fun i j => (cs[i * esz + j]?).getD default) hle (fun h => by cases h) hmx h2 h3 (fun i x j c hx hj => ?_) (fun i x j c hx hj => ?_)
  · obtain ⟨a, v, hv, _⟩ := h4 i x j c hx hj
    refine ⟨a, ?_⟩
    unfold stAt
    rw [hb]
    simp [hv]
  · obtain ⟨a, v, hv, hr⟩ := h4 i x j c hx hj
    rw [hv]; exact hr

theorem repI_empty {m : Mem} {full : Bool} {esz : Nat} (hz : 0 < esz) (ad : Option Addr) : RepI m (.imm full esz []) (.slice ad 0 0) := by
  cases ad with
  | none => exact .none0 full esz hz
  | some a =>
    obtain ⟨b, off, sp⟩ := a
    exact .imm full [] b off 0 esz (fun _ _ => default) (Nat.le_refl 0) (fun _ => rfl) (by simp [maxLen]) hz (fun i x hx => by cases hx) (fun i x j c hx => by cases hx) (fun i x j c hx => by cases hx) sp (.inr rfl)

/-- Behind a share: the cell as its holder has it, and as a reader has it. -/
theorem RepC.shared {g : Gh} {q : Place → Bool} {B : Nat} {w : World} (hL : LinOk g B w) {p : Place} (hq : q p = true) {v : V} {u : Value} (h : RepC g p v u) : RepC (g.share q) p (mark1 v) u ∧ ∀ p', RepC (g.share q) p' (demote1 v) u := by
  have hm : MemLe g.mem (g.share q).mem := share_memLe hL
  cases v with
  | lin priv e n xs =>
    simp only [RepC, mark1, demote1] at h ⊢
    rcases h with ⟨b, i, h1, h2, h3, ⟨rfl, rfl⟩, h4, h5⟩ | h
    rotate_left
    · refine ⟨.inr h, fun _ => ?_⟩
      obtain ⟨rfl, hz, ad, rfl⟩ := h
      exact repI_empty hz ad
    obtain ⟨k1, k2, k3, k4, k5, _, _⟩ := hL.at_ b i h1
    have hl : (g.share q).lin b = some { i with priv := false } := by unfold Gh.share; dsimp only; rw [h1]; simp [h2, hq]
    have hme : (g.share q).mem b = some i.cs := by unfold Gh.share; dsimp only; rw [h1]; simp [h2, hq]
    refine ⟨.inl ⟨b, _, hl, h2, rfl, ⟨rfl, rfl⟩, h4, h5.mono hm⟩, fun p' => ?_⟩
    rw [h4]
    exact repI_imm_of hme (h5.mono hm) k3 k4
  | undef => exact ⟨h, fun _ => h⟩
  | ptr => simp only [RepC, mark1, demote1] at h ⊢; exact ⟨h, fun _ => h⟩
  | own => simp only [RepC, mark1, demote1] at h ⊢; exact ⟨h, fun _ => h⟩
  | agg => exact h.elim
  | tup => exact h.elim
  | fn f a c =>
    have := fun p' => RepC.mono (p := p') (g' := g.share q) (v := V.fn f a c) (u := u) hm (fun _ _ h => h)
    simp only [RepC, mark1, demote1] at h ⊢
    obtain ⟨a', c', h1, h2, h3, h4, h5⟩ := h
    have hh : ∃ first' caps', u = .func f first' caps' ∧ a.length = first'.size ∧ c.length = caps'.size ∧
      (∀ (j : Nat) (x : V) (h : j < first'.size), a[j]? = some x → RepP (g.share q) x first'[j]) ∧ (∀ (j : Nat) (x : V) (h : j < caps'.size), c[j]? = some x → RepP (g.share q) x caps'[j]) :=
      ⟨a', c', h1, h2, h3, fun j x hj hx => (h4 j x hj hx).mono hm (fun _ _ h => h), fun j x hj hx => (h5 j x hj hx).mono hm (fun _ _ h => h)⟩
    exact ⟨hh, fun _ => hh⟩
  | _ => simp only [RepC, mark1, demote1] at h ⊢; exact ⟨h.mono hm, fun _ => h.mono hm⟩

/-- A cell that is taken elsewhere, and what is left. -/
theorem RepC.moved {g : Gh} {f : Place → Place} {p p' : Place} (hf : f p = p') {v : V} {u : Value} (h : RepC g p v u) : RepC (g.ren f) p' v u ∧ RepC (g.ren f) p (drop1 v) u := by
  cases v with
  | lin priv e n xs =>
    simp only [RepC, drop1] at h ⊢
    rcases h with ⟨b, i, h1, h2, h3, h0, h4, h5⟩ | h
    rotate_left
    · obtain ⟨h1, h2, ad, rfl⟩ := h
      exact ⟨.inr ⟨h1, h2, ad, rfl⟩, rfl⟩
    have hl : (g.ren f).lin b = some { i with place := p' } := by unfold Gh.ren; dsimp only; rw [h1]; simp [h2, hf]
    exact ⟨.inl ⟨b, _, hl, rfl, h3, h0, h4, h5⟩, by rw [h4]; rfl⟩
  | agg => exact h.elim
  | tup => exact h.elim
  | _ => exact ⟨h, h⟩

/-- Cells without anything that grows: wherever they lie. -/
theorem RepC.any {g : Gh} {p p' : Place} {v : V} {u : Value} (hv : isLin1 v = false) (h : RepC g p v u) : RepC g p' v u := by
  cases v <;> first | exact h | simp [isLin1] at hv
end Go.Fw
/- A copy and a taking, over the whole state. -/
namespace Go.Fw
open Go.RowKit

theorem mark1_of {v : V} (h : isLin1 v = false) : mark1 v = v := by cases v <;> first | rfl | simp [isLin1] at h
theorem demote1_of {v : V} (h : isLin1 v = false) : demote1 v = v := by cases v <;> first | rfl | simp [isLin1] at h
theorem drop1_of {v : V} (h : isLin1 v = false) : drop1 v = v := by cases v <;> first | rfl | simp [isLin1] at h
theorem map_of {f : V → V} {p : V → Bool} (hf : ∀ v, p v = false → f v = v) : ∀ {vs : List V}, vs.any p = false → vs.map f = vs
  | [], _ => rfl
  | v :: vs, h => by
    simp only [List.any_cons, Bool.or_eq_false_iff] at h
    rw [List.map_cons, hf v h.1, map_of hf h.2]
theorem map2_of {f : V → V} (hf : ∀ v, isLin1 v = false → f v = v) {v : V} (h : isLin2 v = false) : map2 f v = v := by
  cases v <;> simp only [map2, isLin2] at h ⊢ <;> first | exact congrArg V.agg (map_of hf h) | exact hf _ h
theorem map3_of {f : V → V} (hf : ∀ v, isLin1 v = false → f v = v) {v : V} (h : isLin3 v = false) : map3 f v = v := by
  cases v <;> simp only [map3, isLin3] at h ⊢ <;> first | exact congrArg V.tup (map_of (fun _ h => map2_of hf h) h) | exact map2_of hf h

theorem mark1_undef {v : V} : (∀ vs, v ≠ .agg vs) → (∀ vs, v ≠ .tup vs) → v ≠ .undef → (∀ vs, mark1 v ≠ .agg vs) ∧ mark1 v ≠ .undef := by
  intro h1 h2 h3
  cases v <;> simp_all [mark1]

/-- 'RepA' of a one-cell value. -/
theorem repA_cell {g : Gh} {pl : Nat → Place} {v : V} {u : Value} (h : RepC g (pl 0) v u) : RepA g pl v u := by
  unfold RepA
  split
  · exact h.elim
  · trivial
  · exact h
theorem repA_inv {g : Gh} {pl : Nat → Place} {v : V} {u : Value} (h : RepA g pl v u) : v = .undef ∨ RepC g (pl 0) v u ∨ ∃ vs, v = .agg vs := by
  unfold RepA at h
  split at h
  · exact .inr (.inr ⟨_, rfl⟩)
  · exact .inl rfl
  · exact .inr (.inl h)
theorem RepC.notAgg {g : Gh} {p : Place} {v : V} {u : Value} (h : RepC g p v u) : isCell v = true := by
  cases v <;> first | rfl | exact h.elim
theorem RepC.one {g : Gh} {p : Place} {v : V} {u : Value} (h : RepC g p v u) : u.oneCell' = true := by
  cases v <;> simp only [RepC] at h <;> try exact RepI.one h rfl
  case undef => exact h
  case ptr => obtain ⟨b, _, rfl⟩ := h; rfl
  case own => rcases h with ⟨b, c, _, rfl, _⟩ | ⟨_, _, ad, rfl⟩ <;> rfl
  case lin => rcases h with ⟨b, c, _, _, _, _, rfl, _⟩ | ⟨_, _, ad, rfl⟩ <;> rfl
  case fn => obtain ⟨b, c, rfl, _⟩ := h; rfl

theorem RepA.shared {g : Gh} {q : Place → Bool} {B : Nat} {w : World} (hL : LinOk g B w) {pl : Nat → Place} (hq : ∀ j, q (pl j) = true) {v : V} {u : Value} (h : RepA g pl v u) :
    RepA (g.share q) pl (map2 mark1 v) u ∧ ∀ pl', RepA (g.share q) pl' (map2 demote1 v) u := by
  by_cases hv : ∃ vs, v = .agg vs
  · obtain ⟨vs, rfl⟩ := hv
    obtain ⟨cs, rfl, h2, h3⟩ := h
    refine ⟨⟨cs, rfl, by simpa using h2, fun j c hj hc => ?_⟩, fun pl' => ⟨cs, rfl, by simpa using h2, fun j c hj hc => ?_⟩⟩ <;>
    · rw [List.getElem?_map] at hc
      obtain ⟨c0, hc0, rfl⟩ := Option.map_eq_some_iff.1 hc
      first | exact ((h3 j c0 hj hc0).shared hL (hq _)).1 | exact ((h3 j c0 hj hc0).shared hL (hq _)).2 _
  · by_cases hu : v = .undef
    · subst hu; exact ⟨trivial, fun _ => trivial⟩
    · have hc : RepC g (pl 0) v u := by
        rcases repA_inv h with h | h | h
        · exact absurd h hu
        · exact h
        · exact absurd h hv
      have hs := hc.shared hL (hq 0)
      have e1 : map2 mark1 v = mark1 v := by cases v <;> first | rfl | exact absurd ⟨_, rfl⟩ hv
      have e2 : map2 demote1 v = demote1 v := by cases v <;> first | rfl | exact absurd ⟨_, rfl⟩ hv
      rw [e1, e2]
      exact ⟨repA_cell hs.1, fun pl' => repA_cell (hs.2 _)⟩

theorem RepA.moved {g : Gh} {f : Place → Place} {pl pl' : Nat → Place} (hf : ∀ j, f (pl j) = pl' j) {v : V} {u : Value} (h : RepA g pl v u) : RepA (g.ren f) pl' v u ∧ RepA (g.ren f) pl (map2 drop1 v) u := by
  by_cases hv : ∃ vs, v = .agg vs
  · obtain ⟨vs, rfl⟩ := hv
    obtain ⟨cs, rfl, h2, h3⟩ := h
    refine ⟨⟨cs, rfl, h2, fun j c hj hc => ((h3 j c hj hc).moved (hf _)).1⟩, ⟨cs, rfl, by simpa using h2, fun j c hj hc => ?_⟩⟩
    rw [List.getElem?_map] at hc
    obtain ⟨c0, hc0, rfl⟩ := Option.map_eq_some_iff.1 hc
    exact ((h3 j c0 hj hc0).moved (hf _)).2
  · by_cases hu : v = .undef
    · subst hu; exact ⟨trivial, trivial⟩
    · have hc : RepC g (pl 0) v u := by
        rcases repA_inv h with h | h | h
        · exact absurd h hu
        · exact h
        · exact absurd h hv
      have hs := hc.moved (hf 0)
      have e1 : map2 drop1 v = drop1 v := by cases v <;> first | rfl | exact absurd ⟨_, rfl⟩ hv
      rw [e1]
      exact ⟨repA_cell hs.1, repA_cell hs.2⟩

theorem map3_notTup {f : V → V} (hf : ∀ v, isCell v = true → isCell (f v) = true) {v : V} (h : ∀ vs, v ≠ .tup vs) : map3 f v = map2 f v ∧ ∀ vs, map2 f v ≠ .tup vs := by
  refine ⟨by cases v <;> first | rfl | exact absurd rfl (h _), fun vs e => ?_⟩
  cases v with
  | agg ws => simp [map2] at e
  | tup ws => exact h _ rfl
  | undef => have := hf .undef rfl; simp only [map2] at e; rw [e] at this; simp [isCell] at this
  | bool b => have := hf (.bool b) rfl; simp only [map2] at e; rw [e] at this; simp [isCell] at this
  | int b c => have := hf (.int b c) rfl; simp only [map2] at e; rw [e] at this; simp [isCell] at this
  | str b => have := hf (.str b) rfl; simp only [map2] at e; rw [e] at this; simp [isCell] at this
  | nilp => have := hf .nilp rfl; simp only [map2] at e; rw [e] at this; simp [isCell] at this
  | ptr b c => have := hf (.ptr b c) rfl; simp only [map2] at e; rw [e] at this; simp [isCell] at this
  | iptr b c => have := hf (.iptr b c) rfl; simp only [map2] at e; rw [e] at this; simp [isCell] at this
  | nils => have := hf .nils rfl; simp only [map2] at e; rw [e] at this; simp [isCell] at this
  | nne => have := hf .nne rfl; simp only [map2] at e; rw [e] at this; simp [isCell] at this
  | imm b c d => have := hf (.imm b c d) rfl; simp only [map2] at e; rw [e] at this; simp [isCell] at this
  | lin b c d e' => have := hf (.lin b c d e') rfl; simp only [map2] at e; rw [e] at this; simp [isCell] at this
  | own b c d r => have := hf (.own b c d r) rfl; simp only [map2] at e; rw [e] at this; simp [isCell] at this
  | fn b c d => have := hf (.fn b c d) rfl; simp only [map2] at e; rw [e] at this; simp [isCell] at this
  | nilf => have := hf .nilf rfl; simp only [map2] at e; rw [e] at this; simp [isCell] at this
  | iface b c => have := hf (.iface b c) rfl; simp only [map2] at e; rw [e] at this; simp [isCell] at this
  | nili => have := hf .nili rfl; simp only [map2] at e; rw [e] at this; simp [isCell] at this
  | nilm => have := hf .nilm rfl; simp only [map2] at e; rw [e] at this; simp [isCell] at this
theorem repS_notTup {g : Gh} {τ i : Nat} {v : V} {u : Value} (h : ∀ vs, v ≠ .tup vs) : RepS g τ i v u = RepA g (fun j => .slot τ i j 0) v u := by
  cases v <;> first | rfl | exact absurd rfl (h _)

theorem isCell_mark1 (v : V) (h : isCell v = true) : isCell (mark1 v) = true := by cases v <;> first | exact h | rfl
theorem isCell_demote1 (v : V) (h : isCell v = true) : isCell (demote1 v) = true := by cases v <;> first | exact h | rfl
theorem isCell_drop1 (v : V) (h : isCell v = true) : isCell (drop1 v) = true := by cases v <;> first | exact h | rfl

theorem RepS.shared {g : Gh} {q : Place → Bool} {B : Nat} {w : World} (hL : LinOk g B w) {τ i : Nat} (hq : ∀ j k, q (.slot τ i j k) = true) {v : V} {u : Value} (h : RepS g τ i v u) :
    RepS (g.share q) τ i (map3 mark1 v) u ∧ ∀ τ' d, RepS (g.share q) τ' d (map3 demote1 v) u := by
  by_cases hv : ∃ vs, v = .tup vs
  · obtain ⟨vs, rfl⟩ := hv
    obtain ⟨cs, rfl, h2, h3⟩ := h
    refine ⟨⟨cs, rfl, by simpa using h2, fun k c hk hc => ?_⟩, fun τ' d => ⟨cs, rfl, by simpa using h2, fun k c hk hc => ?_⟩⟩ <;>
    · rw [List.getElem?_map] at hc
      obtain ⟨c0, hc0, rfl⟩ := Option.map_eq_some_iff.1 hc
      first | exact ((h3 k c0 hk hc0).shared hL (fun j => hq _ _)).1 | exact ((h3 k c0 hk hc0).shared hL (fun j => hq _ _)).2 _
  · have hv' : ∀ vs, v ≠ .tup vs := fun vs e => hv ⟨vs, e⟩
    obtain ⟨a1, a2⟩ := map3_notTup isCell_mark1 hv'
    obtain ⟨b1, b2⟩ := map3_notTup isCell_demote1 hv'
    rw [repS_notTup hv'] at h
    have hs := h.shared hL (fun j => hq j 0)
    rw [a1, b1]
    exact ⟨by rw [repS_notTup a2]; exact hs.1, fun τ' d => by rw [repS_notTup b2]; exact hs.2 _⟩
theorem RepS.moved {g : Gh} {f : Place → Place} {τ i d : Nat} (hf : ∀ j k, f (.slot τ i j k) = .slot τ d j k) {v : V} {u : Value} (h : RepS g τ i v u) : RepS (g.ren f) τ d v u ∧ RepS (g.ren f) τ i (map3 drop1 v) u := by
  by_cases hv : ∃ vs, v = .tup vs
  · obtain ⟨vs, rfl⟩ := hv
    obtain ⟨cs, rfl, h2, h3⟩ := h
    refine ⟨⟨cs, rfl, h2, fun k c hk hc => ((h3 k c hk hc).moved (pl' := fun j => .slot τ d j (k + 1)) (fun j => hf _ _)).1⟩, ⟨cs, rfl, by simpa using h2, fun k c hk hc => ?_⟩⟩
    rw [List.getElem?_map] at hc
    obtain ⟨c0, hc0, rfl⟩ := Option.map_eq_some_iff.1 hc
    exact ((h3 k c0 hk hc0).moved (pl' := fun j => .slot τ d j (k + 1)) (fun j => hf _ _)).2
  · have hv' : ∀ vs, v ≠ .tup vs := fun vs e => hv ⟨vs, e⟩
    obtain ⟨a1, a2⟩ := map3_notTup isCell_drop1 hv'
    rw [repS_notTup hv'] at h
    have hs := h.moved (pl' := fun j => .slot τ d j 0) (fun j => hf j 0)
    rw [a1]
    exact ⟨by rw [repS_notTup hv']; exact hs.1, by rw [repS_notTup a2]; exact hs.2⟩

/-- Marking the holders of a slot: all of the relation. -/
def qSlot (τ t : Nat) : Place → Bool
  | .slot τ' x _ _ => τ' == τ && x == t
  | _ => false
def fSlot (τ t d : Nat) : Place → Place
  | .slot τ' x j k => if τ' = τ ∧ x = t then .slot τ d j k else .slot τ' x j k
  | p => p

theorem getS_eq {fr : List V} {t : Nat} {v : V} (h : fr[t]? = some v) : getS fr t = v := by
  unfold getS; rw [List.getD_eq_getElem?_getD, h]; rfl
theorem getS_out {fr : List V} {t : Nat} (h : fr.length ≤ t) : getS fr t = .undef := by
  unfold getS; rw [List.getD_eq_getElem?_getD, List.getElem?_eq_none h]; rfl
theorem slot_of {B τ : Nat} {g : Gh} {st : St} {a : Act} {w : World} (h : R B τ g st a w) (t : Nat) : RepS g τ t (getS st.fr t) (a.tmps.getD t undef) := by
  by_cases ht : t < a.tmps.size
  · have h1 : st.fr[t]? = some (getS st.fr t) := by
      have : t < st.fr.length := by rw [h.size]; exact ht
      rw [List.getElem?_eq_getElem this]
      rw [getS_eq (List.getElem?_eq_getElem this)]
    have := h.slots t _ ht h1
    simpa [Array.getD, ht] using this
  · rw [getS_out (by rw [h.size]; omega)]
    exact trivial

theorem R.mark {B τ : Nat} {g : Gh} {st : St} {a : Act} {w : World} (h : R B τ g st a w) (t : Nat) : R B τ (g.share (qSlot τ t)) { st with fr := st.fr.set t (map3 mark1 (getS st.fr t)) } a w := by
  refine ⟨by simpa using h.size, fun i v hi hv => ?_, share_heap h.lin (fun _ _ => rfl) h.heap, share_mem h.lin h.mem, share_lin h.lin, h.base, h.defers⟩
  by_cases hit : i = t
  · subst hit
    rw [List.getElem?_set_self (by rw [h.size]; exact hi)] at hv
    cases hv
    have hs := slot_of h i
    simp only [Array.getD, hi, dif_pos] at hs
    exact (RepS.shared h.lin (fun j k => by simp [qSlot]) hs).1
  · rw [List.getElem?_set_ne (fun e => hit e.symm)] at hv
    exact (h.slots i v hi hv).mono (share_memLe h.lin) (fun _ _ h => h) (fun j k b x hx hp => lin_share_of hx (by rw [hp]; simp [qSlot, hit]))
theorem R.drop {B τ : Nat} {g : Gh} {st : St} {a : Act} {w : World} (h : R B τ g st a w) (t : Nat) (f : Place → Place) (hf : ∀ p, (∀ j k, p ≠ .slot τ t j k) → f p = p) : R B τ (g.ren f) { st with fr := st.fr.set t (map3 drop1 (getS st.fr t)) } a w := by
  refine ⟨by simpa using h.size, fun i v hi hv => ?_, ren_heap (fun _ _ => hf _ (by simp)) h.heap, h.mem, ren_lin h.lin, h.base, h.defers⟩
  by_cases hit : i = t
  · subst hit
    rw [List.getElem?_set_self (by rw [h.size]; exact hi)] at hv
    cases hv
    have hs := slot_of h i
    simp only [Array.getD, hi, dif_pos] at hs
    -- what is left needs no place
    generalize getS st.fr i = v at hs
    by_cases hv : ∃ vs, v = .tup vs
    · obtain ⟨vs, rfl⟩ := hv
      obtain ⟨cs, e1, h2, h3⟩ := hs
      refine ⟨cs, e1, by simpa using h2, fun k c hk hc => ?_⟩
      rw [List.getElem?_map] at hc
      obtain ⟨c0, hc0, rfl⟩ := Option.map_eq_some_iff.1 hc
      exact ((h3 k c0 hk hc0).moved (pl' := fun j => f (.slot τ i j (k + 1))) (fun j => rfl)).2
    · have hv' : ∀ vs, v ≠ .tup vs := fun vs e => hv ⟨vs, e⟩
      obtain ⟨a1, a2⟩ := map3_notTup isCell_drop1 hv'
      rw [repS_notTup hv'] at hs
      rw [a1, repS_notTup a2]
      exact (hs.moved (pl' := fun j => f (.slot τ i j 0)) (fun j => rfl)).2
  · rw [List.getElem?_set_ne (fun e => hit e.symm)] at hv
    refine RepS.mono (g := g) (g' := g.ren f) (MemLe.refl _) (fun _ _ h => h) (fun j k b x hx hp => lin_ren_of hx ?_) (h.slots i v hi hv)
    rw [hp]
    exact hf _ (by intro j k e; injection e with _ e; exact hit e)

theorem R.setSame {B τ : Nat} {g : Gh} {st : St} {a : Act} {w : World} {t : Nat} {v : V} (h : R B τ g { st with fr := st.fr.set t v } a w) (hv : v = getS st.fr t) : R B τ g st a w := by
  have e : st.fr.set t v = st.fr := by
    subst hv
    by_cases ht : t < st.fr.length
    · rw [getS_eq (List.getElem?_eq_getElem ht)]
      exact List.set_getElem_self ht
    · exact List.set_eq_of_length_le (by omega)
  rw [e] at h
  exact h

theorem later_share {B τ : Nat} {g : Gh} {st : St} {a : Act} {w : World} (h : R B τ g st a w) (t : Nat) : Later B τ g (g.share (qSlot τ t)) w w :=
  share_later h.lin (fun τ' x j k hq => by simp [qSlot] at hq; exact hq.1)

/-- What is a constant is what it is. -/
theorem ofVal1_rep (g : Gh) (p : Place) (v : Value) (h : v.oneCell' = true) : RepC g p (ofVal1 v) v := by
  unfold ofVal1
  split <;> simp only [RepC]
  case _ => exact .bool _
  case _ => exact .int _ _
  case _ => exact .str _
  case _ => exact .nilp
  case _ => exact .nils
  case _ => exact .nili
  case _ => exact .nilf
  case _ => exact .nilm
  case _ => exact h
end Go.Fw
/- The operations, one by one: what the evaluator says of each is what the model does (1: copies, numbers, boxes, loads, stores). -/
namespace Go.Fw
open Go.RowKit

abbrev FW (ρ : Option Nat) : Fence := { Fence.wide with round := ρ }

section
variable {P : Program} {ρ : Option Nat} {n : Nat} {o : Oper} {a : Act} {w : World} {next : Act → World → Prop} {Q : Exit → Act → World → Prop}

theorem wp_value (hd : ∀ c, o.op ≠ .defer c) {v : Value} {w' : World} (h : (execOp a.eval o).run P w = .ok (.value v) w') (k : next (a.put o.dst v) w') : o.wpIn (FW ρ) n P a w next Q := by
  refine ⟨fun _ _ => trivial, ?_⟩
  rw [Oper.semAt_eq _ _ _ hd, h]
  exact k
theorem wp_skip_ (hd : ∀ c, o.op ≠ .defer c) {w' : World} (h : (execOp a.eval o).run P w = .ok .skip w') (k : next (a.put o.dst undef) w') : o.wpIn (FW ρ) n P a w next Q := by
  refine ⟨fun _ _ => trivial, ?_⟩
  rw [Oper.semAt_eq _ _ _ hd, h]
  exact k
theorem run_v {s : Sem Value} {v : Value} {w' : World} (h : s.run P w = .ok v w') : ((s >>= fun x => Pure.pure (Next.value x)) : Sem Next).run P w = .ok (.value v) w' := by
  simp [h]
end

/-! ### a copy, a taking, a look -/
section
variable {B τ : Nat} {g : Gh} {st : St} {a : Act} {w : World}

theorem ofVal_rep (g : Gh) (τ d : Nat) (v : Value) : RepS g τ d (ofVal v) v := by
  unfold ofVal
  split
  · split
    · rename_i cs h
      refine ⟨cs, rfl, by simp, fun j c hj hc => ?_⟩
      rw [List.getElem?_map] at hc
      obtain ⟨c0, hc0, rfl⟩ := Option.map_eq_some_iff.1 hc
      have e : c0 = cs[j] := by
        rw [Array.getElem?_toList, Array.getElem?_eq_getElem hj] at hc0
        exact (Option.some.inj hc0).symm
      subst e
      exact ofVal1_rep g _ _ (by rw [List.all_eq_true] at h; exact h _ (by simp))
    · exact trivial
  · exact trivial
  · rename_i h1 h2
    have h0 : v.oneCell' = true := by cases v <;> first | rfl | exact absurd rfl (h1 _) | exact absurd rfl (h2 _)
    have hc := ofVal1_rep g (.slot τ d 0 0) v h0
    have hn := hc.notAgg
    rw [repS_notTup (by intro vs e; rw [e] at hn; cases hn)]
    exact repA_cell hc

theorem isLin_ofVal1 (v : Value) : isLin1 (ofVal1 v) = false := by unfold ofVal1; split <;> rfl
theorem isLin_ofVal (v : Value) : isLin3 (ofVal v) = false := by
  unfold ofVal
  split
  · split
    · simp only [isLin3, isLin2]
      rw [List.any_eq_false]
      intro x hx
      obtain ⟨y, _, rfl⟩ := List.mem_map.1 hx
      simp [isLin_ofVal1]
    · rfl
  · rfl
  · rename_i v h1 h2
    unfold ofVal1
    split <;> rfl

theorem peek_rep (h : R B τ g st a w) (x : Operand) : ∃ d, RepS g τ d (st.peek x) (a.eval x) := by
  cases x with
  | tmp t => exact ⟨t, slot_of h t⟩
  | const v => exact ⟨0, ofVal_rep g τ 0 v⟩
  | global b => exact ⟨0, trivial⟩
  | func f => exact ⟨0, #[], #[], rfl, rfl, rfl, fun j c hj => absurd hj (by simp), fun j c hj => absurd hj (by simp)⟩

theorem use_sound (h : R B τ g st a w) (x : Operand) : ∃ g', Later B τ g g' w w ∧ R B τ g' (st.useS x) a w ∧ ∀ τ' d, RepS g' τ' d (st.useV x) (a.eval x) := by
  cases x with
  | tmp t =>
    have hs := RepS.shared (q := qSlot τ t) h.lin (fun j k => by simp [qSlot]) (slot_of h t)
    have hm := h.mark t
    refine ⟨_, later_share h t, ?_, hs.2⟩
    unfold St.useS
    dsimp only
    cases hl : isLin3 (getS st.fr t) with
    | true => rw [condB_true]; exact hm
    | false => rw [condB_false]; exact R.setSame hm (map3_of (fun _ h => mark1_of h) hl)
  | const v =>
    refine ⟨g, Later.refl .., h, fun τ' d => ?_⟩
    unfold St.useV St.peek
    rw [map3_of (fun _ h => demote1_of h) (isLin_ofVal v)]
    exact ofVal_rep g τ' d v
  | global b => exact ⟨g, Later.refl .., h, fun _ _ => trivial⟩
  | func f => exact ⟨g, Later.refl .., h, fun _ _ => ⟨#[], #[], rfl, rfl, rfl, fun j c hj => absurd hj (by simp), fun j c hj => absurd hj (by simp)⟩⟩

theorem take_sound (h : R B τ g st a w) (x : Operand) (d : Nat) : ∃ g', Later B τ g g' w w ∧ R B τ g' (st.takeS x) a w ∧ RepS g' τ d (st.peek x) (a.eval x) := by
  cases x with
  | tmp t =>
    have hf : ∀ p, (∀ j k, p ≠ .slot τ t j k) → fSlot τ t d p = p := by
      intro p hp
      cases p with
      | cell => rfl
      | slot τ' x j k =>
        have hn : ¬ (τ' = τ ∧ x = t) := by
          rintro ⟨rfl, rfl⟩
          exact hp j k rfl
        simp only [fSlot, if_neg hn]
    have hs := RepS.moved (f := fSlot τ t d) (d := d) (fun j k => by simp [fSlot]) (slot_of h t)
    have hm := h.drop t (fSlot τ t d) hf
    refine ⟨_, ren_later (fun τ' x j k hne => ?_), ?_, hs.1⟩
    · exact hf _ (by intro j' k' e; injection e with e _; exact hne e)
    · unfold St.takeS
      dsimp only
      cases hl : isLin3 (getS st.fr t) with
      | true => rw [condB_true]; exact hm
      | false => rw [condB_false]; exact R.setSame hm (map3_of (fun _ h => drop1_of h) hl)
  | const v => exact ⟨g, Later.refl .., h, ofVal_rep g τ d v⟩
  | global b => exact ⟨g, Later.refl .., h, trivial⟩
  | func f => exact ⟨g, Later.refl .., h, ⟨#[], #[], rfl, rfl, rfl, fun j c hj => absurd hj (by simp), fun j c hj => absurd hj (by simp)⟩⟩

/-- What is plain is what it stands for. -/
theorem toVal1_eq {g : Gh} {τ d : Nat} {v : V} {u x : Value} (h : RepS g τ d v u) (hx : toVal1 v = some x) : u = x := by
  unfold toVal1 at hx
  split at hx <;> first | (cases hx; simp only [RepS, RepA, RepC] at h; cases h; rfl) | cases hx

theorem put_sound (h : R B τ g st a w) {d : Option Tmp} {v : V} {u : Value} (hv : RepS g τ (d.getD 0) v u) : R B τ g (put st d v) (a.put d u) w := by
  cases d with
  | none => exact h
  | some d =>
    refine ⟨by simp [put, Act.put, h.size], fun i x hi hx => ?_, h.heap, h.mem, h.lin, h.base, h.defers⟩
    simp only [put, Act.put] at hx hi ⊢
    have hi' : i < a.tmps.size := by simpa using hi
    by_cases hid : i = d
    · subst hid
      rw [List.getElem?_set_self (by rw [h.size]; exact hi')] at hx
      cases hx
      simpa [Array.getElem_setIfInBounds, hi'] using hv
    · rw [List.getElem?_set_ne (fun e => hid e.symm)] at hx
      have := h.slots i x hi' hx
      have hdi : ¬ d = i := fun e => hid e.symm
      have e : (a.tmps.setIfInBounds d u)[i]'hi = a.tmps[i] := by rw [Array.getElem_setIfInBounds]; exact if_neg hdi
      rw [e]; exact this
end

/-! ### the operations -/
section
variable {C : Cx} {vb : FuncId → List V → List Blk → Option FOut} {f : FuncId} {ρ : Option Nat} {n : Nat} {o : Oper} {st : St} {α : Type} {k kp : V → St → Option α} {out : α}
  {B τ : Nat} {g : Gh} {a : Act} {w : World} {next : Act → World → Prop} {Q : Exit → Act → World → Prop}

/-- What is known behind an operation, where the evaluator goes on. -/
def Goes {α : Type} (B τ : Nat) (g : Gh) (a : Act) (w : World) (d : Option Tmp) (k : V → St → Option α) (out : α) (next : Act → World → Prop) : Prop :=
  ∀ v st' g' u w', Later B τ g g' w w' → R B τ g' st' a w' → RepS g' τ (d.getD 0) v u → k v st' = some out → next (a.put d u) w'

theorem op_move {x : Operand} (ho : o.op = .move x) (h : vop C vb f o st k kp = some out) (hR : R B τ g st a w) (hk : Goes B τ g a w o.dst k out next) : o.wpIn (FW ρ) n C.P a w next Q := by
  have hrun : (execOp a.eval o).run C.P w = .ok (.value (a.eval x)) w := by simp [execOp, ho]
  unfold vop at h
  rw [ho] at h
  dsimp only at h
  split at h
  · rename_i d hd
    split at h
    · rename_i vs hvs
      obtain ⟨g', h1, h2, h3⟩ := take_sound hR x d
      exact wp_value (by simp [ho]) hrun (hk _ _ g' _ w h1 h2 (by rw [hd]; rw [hvs] at h3; exact h3) h)
    · split at h
      · obtain ⟨g', h1, h2, h3⟩ := take_sound hR x d
        exact wp_value (by simp [ho]) hrun (hk _ _ g' _ w h1 h2 (by rw [hd]; exact h3) h)
      · obtain ⟨g', h1, h2, h3⟩ := use_sound hR x
        exact wp_value (by simp [ho]) hrun (hk _ _ g' _ w h1 h2 (h3 _ _) h)
  · cases h
theorem op_assign {x : Operand} (ho : o.op = .assign x) (h : vop C vb f o st k kp = some out) (hR : R B τ g st a w) (hk : Goes B τ g a w o.dst k out next) : o.wpIn (FW ρ) n C.P a w next Q := by
  have hrun : (execOp a.eval o).run C.P w = .ok (.value (a.eval x)) w := by simp [execOp, ho]
  unfold vop at h
  rw [ho] at h
  obtain ⟨g', h1, h2, h3⟩ := take_sound hR x (o.dst.getD 0)
  exact wp_value (by simp [ho]) hrun (hk _ _ g' _ w h1 h2 h3 h)

theorem rep_bool {g : Gh} {τ d : Nat} {b : Bool} {u : Value} (h : RepS g τ d (.bool b) u) : u = .bool b := by
  simp only [RepS, RepA, RepC] at h; cases h; rfl
theorem rep_int {g : Gh} {τ d : Nat} {k : IntKind} {b : Int} {u : Value} (h : RepS g τ d (.int k b) u) : u = .int k b := by
  simp only [RepS, RepA, RepC] at h; cases h; rfl
theorem rep_str {g : Gh} {τ d : Nat} {b : ByteArray} {u : Value} (h : RepS g τ d (.str b) u) : u = .string b := by
  simp only [RepS, RepA, RepC] at h; cases h; rfl

theorem op_pick {c x y : Operand} (ho : o.op = .pick c x y) (h : vop C vb f o st k kp = some out) (hR : R B τ g st a w) (hk : Goes B τ g a w o.dst k out next) : o.wpIn (FW ρ) n C.P a w next Q := by
  unfold vop at h
  rw [ho] at h
  dsimp only at h
  split at h
  · rename_i t ht
    obtain ⟨dc, hc⟩ := peek_rep hR c
    rw [ht] at hc
    have hc' := rep_bool hc
    rcases condB_cases h with ⟨e, h⟩ | ⟨e, h⟩
    · obtain ⟨g', h1, h2, h3⟩ := use_sound hR x
      exact wp_value (by simp [ho]) (by simp [execOp, ho, hc', e, asBool]) (hk _ _ g' _ w h1 h2 (h3 _ _) h)
    · obtain ⟨g', h1, h2, h3⟩ := use_sound hR y
      exact wp_value (by simp [ho]) (by simp [execOp, ho, hc', e, asBool]) (hk _ _ g' _ w h1 h2 (h3 _ _) h)
  · cases h

theorem rep_ptr {g : Gh} {τ d : Nat} {id off : Nat} {u : Value} (h : RepS g τ d (.ptr id off) u) : ∃ b, g.loc id = some b ∧ u = .pointer (some ⟨b, off, none⟩) := h
theorem rep_iptr {g : Gh} {τ d : Nat} {e : V} {off : Nat} {u : Value} (h : RepS g τ d (.iptr e off) u) : RepI g.mem (.iptr e off) u := h

theorem op_nilCheck {x : Operand} (ho : o.op = .nilCheck x) (h : vop C vb f o st k kp = some out) (hR : R B τ g st a w) (hk : Goes B τ g a w o.dst k out next) : o.wpIn (FW ρ) n C.P a w next Q := by
  obtain ⟨dx, hx⟩ := peek_rep hR x
  unfold vop at h
  rw [ho] at h
  dsimp only at h
  split at h
  · rename_i id off hp
    rw [hp] at hx
    obtain ⟨b, hb, hu⟩ := rep_ptr hx
    exact wp_value (by simp [ho]) (by simp [execOp, ho, hu]) (hk (.ptr id off) st g _ w (Later.refl ..) hR ⟨b, hb, rfl⟩ h)
  · rename_i e off hp
    rw [hp] at hx
    have hi := rep_iptr hx
    have hu : ∃ ad, a.eval x = .pointer (some ad) := by generalize a.eval x = u at hi; cases hi; exact ⟨_, rfl⟩
    obtain ⟨ad, hu⟩ := hu
    rw [hu] at hi
    exact wp_value (by simp [ho]) (by simp [execOp, ho, hu]) (hk (.iptr e off) st g _ w (Later.refl ..) hR hi h)
  · rename_i fn' a1 c1 hp
    rw [hp] at hx
    obtain ⟨x1, x2, hu, h1, h2, h3, h4⟩ := hx
    exact wp_value (by simp [ho]) (by simp [execOp, ho, hu]) (hk (.fn (.func fn') a1 c1) st g _ w (Later.refl ..) hR ⟨x1, x2, rfl, h1, h2, h3, h4⟩ h)
  · cases h

theorem ofVal1_repS {g : Gh} {τ d : Nat} {v : Value} (h : v.oneCell' = true) : RepS g τ d (ofVal1 v) v := by
  have hc := ofVal1_rep g (.slot τ d 0 0) v h
  have hn := hc.notAgg
  rw [repS_notTup (by intro vs e; rw [e] at hn; cases hn)]
  exact repA_cell hc
theorem ofVal1_repS' {g : Gh} {τ d : Nat} {v : Value} : RepS g τ d (ofVal1 v) v := by
  by_cases h : v.oneCell' = true
  · exact ofVal1_repS h
  · cases v <;> first | exact absurd rfl h | exact trivial

theorem op_unOp {op : UnOp} {t : TypeId} {x : Operand} (ho : o.op = .unOp op t x) (h : vop C vb f o st k kp = some out) (hR : R B τ g st a w) (hk : Goes B τ g a w o.dst k out next) : o.wpIn (FW ρ) n C.P a w next Q := by
  obtain ⟨dx, hx⟩ := peek_rep hR x
  unfold vop at h
  rw [ho] at h
  dsimp only at h
  split at h
  · rename_i v hv
    unfold vun at hv
    split at hv
    · rename_i x' hx'
      have e := toVal1_eq hx hx'
      obtain ⟨r, hr, rfl⟩ := Option.map_eq_some_iff.1 hv
      exact wp_value (by simp [ho]) (by simp [execOp, ho, e, quiet_run hr w]) (hk _ _ g _ w (Later.refl ..) hR ofVal1_repS' h)
    · cases hv
  · cases h
theorem op_convert {s t : TypeId} {x : Operand} (ho : o.op = .convert s t x) (h : vop C vb f o st k kp = some out) (hR : R B τ g st a w) (hk : Goes B τ g a w o.dst k out next) : o.wpIn (FW ρ) n C.P a w next Q := by
  obtain ⟨dx, hx⟩ := peek_rep hR x
  unfold vop at h
  rw [ho] at h
  dsimp only at h
  split at h
  · rename_i v hv
    unfold vconv at hv
    split at hv
    · rename_i x' hx'
      have e := toVal1_eq hx hx'
      obtain ⟨r, hr, rfl⟩ := Option.map_eq_some_iff.1 hv
      exact wp_value (by simp [ho]) (by simp [execOp, ho, e, quiet_run hr w]) (hk _ _ g _ w (Later.refl ..) hR ofVal1_repS' h)
    · cases hv
  · cases h
end
end Go.Fw
/- The operations (2): new variables, loads, stores, parts. -/
namespace Go.Fw
open Go.RowKit

section
variable {B τ : Nat} {g : Gh} {st : St} {a : Act} {w : World}

theorem heap_alloc_old (w : World) (o : Obj) {b : Nat} {x : Obj} (h : w.heap[b]? = some x) : (w.alloc o).heap[b]? = some x := by
  have hb := (Array.getElem?_eq_some_iff.1 h).1
  rw [Below.heap_alloc w o b hb]; exact h
theorem heap_alloc_at (w : World) (o : Obj) : (w.alloc o).heap[w.heap.size]? = some o := by
  show (w.heap.push o)[w.heap.size]? = _
  simp

theorem memOk_alloc {m : Mem} (h : MemOk m w) (o : Obj) : MemOk m (w.alloc o) := ⟨fun b cs hb => by
  obtain ⟨cur, e, fr, h1, h2⟩ := h.at_ b cs hb
  exact ⟨cur, e, fr, heap_alloc_old w o h1, h2⟩⟩
theorem linOk_alloc (h : LinOk g B w) (o : Obj) : LinOk g B (w.alloc o) := ⟨fun b i hi => by
  obtain ⟨h1, ⟨cur, h2, h3, h4⟩, h5⟩ := h.at_ b i hi
  exact ⟨h1, ⟨cur, heap_alloc_old w o h2, h3, h4⟩, h5⟩⟩

def Gh.newLoc (g : Gh) (id b : Nat) : Gh := { g with loc := fun i => if i = id then some b else g.loc i }

/-- A new block of the evaluator's heap. -/
theorem new_block (h : R B τ g st a w) (cs : List V) (cur : Array Value) (t : TypeId) (hl : cs.length ≤ cur.size) (hc : ∀ (j : Nat) (c : V) (hj : j < cur.size), cs[j]? = some c → RepC g (.cell st.h.length j) c cur[j]) :
    ∃ g', Later B τ g g' w (w.alloc (.cells cur t)) ∧ R B τ g' { st with h := st.h ++ [.cells cs t] } a (w.alloc (.cells cur t)) ∧ g'.loc st.h.length = some w.heap.size ∧ g'.mem = g.mem ∧ g'.lin = g.lin ∧ (∀ id b, g.loc id = some b → g'.loc id = some b) := by
  have hfree : g.mem w.heap.size = none := by
    cases hm : g.mem w.heap.size with
    | none => rfl
    | some cs =>
      obtain ⟨cur, e, fr, h1, _⟩ := h.mem.at_ _ cs hm
      have := (Array.getElem?_eq_some_iff.1 h1).1; omega
  have hfreel : g.lin w.heap.size = none := by
    cases hm : g.lin w.heap.size with
    | none => rfl
    | some i =>
      obtain ⟨_, ⟨cur, h1, _⟩, _⟩ := h.lin.at_ _ i hm
      have := (Array.getElem?_eq_some_iff.1 h1).1; omega
  have hnew : g.loc st.h.length = none := by
    cases hm : g.loc st.h.length with
    | none => rfl
    | some b => have := h.heap.bound _ b hm; omega
  have hmono : ∀ id b, g.loc id = some b → (if id = st.h.length then some w.heap.size else g.loc id) = some b := by
    intro id b hb
    split
    · rename_i e; subst e; rw [hnew] at hb; cases hb
    · exact hb
  refine ⟨g.newLoc st.h.length w.heap.size, ?_, ?_, by simp [Gh.newLoc], rfl, rfl, hmono⟩
  · exact ⟨(Below.refl _ _).alloc h.base _, MemLe.refl _, fun _ _ => rfl, hmono, fun _ _ h _ => h⟩
  · refine ⟨h.size, fun i v hi hv => RepS.mono (g := g) (g' := g.newLoc st.h.length w.heap.size) (MemLe.refl _) hmono (fun _ _ _ _ h _ => h) (h.slots i v hi hv), ⟨?_, ?_, ?_, ?_⟩, memOk_alloc h.mem _, ⟨(linOk_alloc h.lin _).at_⟩, by have := h.base; simp; omega, h.defers⟩
    · intro id b hb
      simp only [Gh.newLoc] at hb
      split at hb
      · simp; omega
      · have := h.heap.bound id b hb; simp; omega
    · intro id id' b hb hb'
      simp only [Gh.newLoc] at hb hb'
      split at hb <;> split at hb'
      · omega
      · cases hb; have := (h.heap.fresh _ _ hb').2.1; omega
      · cases hb'; have := (h.heap.fresh _ _ hb).2.1; omega
      · exact h.heap.inj id id' b hb hb'
    · intro id b hb
      simp only [Gh.newLoc] at hb
      split at hb
      · cases hb; exact ⟨h.base, by simp, hfree, hfreel⟩
      · obtain ⟨h1, h2, h3, h4⟩ := h.heap.fresh id b hb
        exact ⟨h1, by simp; omega, h3, h4⟩
    · intro id b cs' e hb he
      simp only [Gh.newLoc] at hb he
      split at hb
      · rename_i hid
        cases hb
        subst hid
        simp at he
        obtain ⟨rfl, rfl⟩ := he
        refine ⟨cur, heap_alloc_at w _, hl, fun j c hj hc' => ?_⟩
        exact RepC.mono (g := g) (g' := g.newLoc st.h.length w.heap.size) (MemLe.refl _) hmono (fun _ _ h _ => h) (hc j c hj hc')
      · rename_i hid
        have hlt := h.heap.bound id b hb
        rw [List.getElem?_append_left hlt] at he
        obtain ⟨cur', h1, h2, h3⟩ := h.heap.blk id b cs' e hb he
        exact ⟨cur', heap_alloc_old w _ h1, h2, fun j c hj hc' => RepC.mono (g := g) (g' := g.newLoc st.h.length w.heap.size) (MemLe.refl _) hmono (fun _ _ h _ => h) (h3 j c hj hc')⟩

/-- The cells of a value, taken into the heap. -/
def fCell (τ t id off : Nat) : Place → Place
  | .slot τ' x j k => if τ' = τ ∧ x = t then .cell id (off + (j - 1)) else .slot τ' x j k
  | p => p
theorem cellsA {g : Gh} {pl : Nat → Place} {v : V} {u : Value} (hv : v ≠ .undef) (h : RepA g pl v u) : v.cells.length = u.cells.size ∧ ∀ (j : Nat) (c : V) (hj : j < u.cells.size), v.cells[j]? = some c → ∃ j', j' - 1 = j ∧ RepC g (pl j') c u.cells[j] := by
  by_cases ha : ∃ vs, v = .agg vs
  · obtain ⟨vs, rfl⟩ := ha
    obtain ⟨cs, rfl, h2, h3⟩ := h
    exact ⟨h2, fun j c hj hc => ⟨j + 1, rfl, h3 j c hj hc⟩⟩
  · have hc : RepC g (pl 0) v u := by
      rcases repA_inv h with h | h | h
      · exact absurd h hv
      · exact h
      · exact absurd h ha
    have hone := hc.one
    have hu : u.cells = #[u] := by cases u <;> first | rfl | cases hone
    have hv' : v.cells = [v] := by cases v <;> first | rfl | exact absurd ⟨_, rfl⟩ ha
    rw [hv']
    refine ⟨by rw [hu]; rfl, fun j c hj hcc => ?_⟩
    have hj0 : j = 0 := by
      cases j with
      | zero => rfl
      | succ j => simp at hcc
    subst hj0
    simp at hcc
    subst hcc
    exact ⟨0, rfl, by simpa [hu] using hc⟩

theorem take_cells (h : R B τ g st a w) (x : Operand) (id off : Nat) (hv : okV (st.peek x) = true) : ∃ g', Later B τ g g' w w ∧ R B τ g' (st.takeS x) a w ∧ g'.loc = g.loc ∧ (st.peek x).cells.length = (a.eval x).cells.size ∧
    ∀ (j : Nat) (c : V) (hj : j < (a.eval x).cells.size), (st.peek x).cells[j]? = some c → RepC g' (.cell id (off + j)) c (a.eval x).cells[j] := by
  cases x with
  | tmp t =>
    have hf : ∀ p, (∀ j k, p ≠ .slot τ t j k) → fCell τ t id off p = p := by
      intro p hp
      cases p with
      | cell => rfl
      | slot τ' x j k =>
        have hn : ¬ (τ' = τ ∧ x = t) := by
          rintro ⟨rfl, rfl⟩
          exact hp j k rfl
        simp only [fCell, if_neg hn]
    have hs0 := slot_of h t
    have hnt : ∀ vs, getS st.fr t ≠ .tup vs := fun vs e => by simp only [St.peek, e] at hv; cases hv
    have hnu : getS st.fr t ≠ .undef := fun e => by simp only [St.peek, e] at hv; cases hv
    rw [repS_notTup hnt] at hs0
    have hs := (hs0.moved (f := fCell τ t id off) (pl' := fun j => .cell id (off + (j - 1))) (fun j => by simp [fCell])).1
    have hm := h.drop t (fCell τ t id off) hf
    obtain ⟨c1, c2⟩ := cellsA hnu hs
    refine ⟨g.ren (fCell τ t id off), ren_later (fun τ' x j k hne => ?_), ?_, rfl, c1, fun j c hj hc => ?_⟩
    · exact hf _ (by intro j' k' e; injection e with e _; exact hne e)
    · unfold St.takeS
      dsimp only
      cases hl : isLin3 (getS st.fr t) with
      | true => rw [condB_true]; exact hm
      | false => rw [condB_false]; exact R.setSame hm (map3_of (fun _ h => drop1_of h) hl)
    · obtain ⟨j', e, hr⟩ := c2 j c hj hc
      rw [e] at hr; exact hr
  | const v =>
    have hs := ofVal_rep g τ 0 v
    have hl := isLin_ofVal v
    have hnt : ∀ vs, ofVal v ≠ .tup vs := fun vs e => by simp only [St.peek, e] at hv; cases hv
    have hnu : ofVal v ≠ .undef := fun e => by simp only [St.peek, e] at hv; cases hv
    rw [repS_notTup hnt] at hs
    obtain ⟨c1, c2⟩ := cellsA hnu hs
    refine ⟨g, Later.refl .., h, rfl, c1, fun j c hj hc => ?_⟩
    obtain ⟨j', e, hr⟩ := c2 j c hj hc
    refine hr.any ?_
    have hin : c ∈ (ofVal v).cells := List.mem_of_getElem? hc
    have : ∀ c ∈ (ofVal v).cells, isLin1 c = false := by
      intro c hc
      cases hv' : ofVal v <;> rw [hv'] at hc hl <;> simp only [V.cells, List.mem_singleton] at hc <;> try (subst hc; first | exact hl | rfl)
      simp only [isLin3, isLin2] at hl
      rw [List.any_eq_false] at hl
      exact Bool.eq_false_iff.2 (hl c hc)
    exact this c hin
  | global b => cases hv
  | func f =>
    refine ⟨g, Later.refl .., h, rfl, rfl, fun j c hj hc => ?_⟩
    have hj0 : j = 0 := by
      cases j with
      | zero => rfl
      | succ j => simp [St.peek, V.cells] at hc
    subst hj0
    simp [St.peek, V.cells] at hc
    subst hc
    exact ⟨#[], #[], rfl, rfl, rfl, fun j c hj => absurd hj (by simp), fun j c hj => absurd hj (by simp)⟩
end

theorem run_newRow' {P : Program} (e : TypeId) (cells : Array Value) (w : World) : (newRow e cells).run P w = .ok ⟨w.heap.size, 0, none⟩ (w.alloc (.cells cells e)) := rfl
theorem run_newVar' {P : Program} (e : TypeId) (v : Value) (w : World) : (newVar e v).run P w = .ok ⟨w.heap.size, 0, none⟩ (w.alloc (.cells v.cells e)) := rfl

section
variable {C : Cx} {vb : FuncId → List V → List Blk → Option FOut} {f : FuncId} {ρ : Option Nat} {n : Nat} {o : Oper} {st : St} {α : Type} {k kp : V → St → Option α} {out : α}
  {B τ : Nat} {g : Gh} {a : Act} {w : World} {next : Act → World → Prop} {Q : Exit → Act → World → Prop}

theorem op_box {t : TypeId} {x : Operand} (ho : o.op = .box t x) (h : vop C vb f o st k kp = some out) (hR : R B τ g st a w) (hk : Goes B τ g a w o.dst k out next) : o.wpIn (FW ρ) n C.P a w next Q := by
  unfold vop at h
  rw [ho] at h
  dsimp only at h
  split at h
  · rename_i hok
    obtain ⟨g', h1, h2, _, hl, h3⟩ := take_cells hR x (st.takeS x).h.length 0 hok
    simp only [Nat.zero_add] at h3
    obtain ⟨g'', k1, k2, k3, k4, k5, k6⟩ := new_block h2 (st.peek x).cells (a.eval x).cells t (Nat.le_of_eq hl) h3
    exact wp_value (by simp [ho]) (w' := w.alloc (.cells (a.eval x).cells t)) (v := .pointer (some ⟨w.heap.size, 0, none⟩)) (by simp [execOp, ho, Instr.box, run_newVar'])
      (hk (.ptr (st.takeS x).h.length 0) _ g'' _ _ (h1.trans k1) k2 ⟨_, k3, rfl⟩ h)
  · cases h

theorem zeroT_eq {P : Program} {t : TypeId} {z : V} (h : zeroT P t = some z) : ∃ i v, P.info? t = some i ∧ i.zero = some v ∧ z = ofVal v := by
  unfold zeroT at h
  obtain ⟨i, hi, h⟩ := Option.bind_eq_some_iff.1 h
  obtain ⟨v, hv, rfl⟩ := Option.map_eq_some_iff.1 h
  exact ⟨i, v, hi, hv, rfl⟩
theorem run_zero {P : Program} {t : TypeId} {i : TypeInfo} {v : Value} (hi : P.info? t = some i) (hv : i.zero = some v) (w : World) : (zeroValue t).run P w = .ok v w := by
  simp [zeroValue, run_typeInfo w hi, hv]

theorem ofVal_cells {g : Gh} {v : Value} (hok : okV (ofVal v) = true) : (ofVal v).cells.length = v.cells.size ∧ ∀ (p : Place) (j : Nat) (c : V) (hj : j < v.cells.size), (ofVal v).cells[j]? = some c → RepC g p c v.cells[j] := by
  have hs := ofVal_rep g 0 0 v
  have hl := isLin_ofVal v
  have hnt : ∀ vs, ofVal v ≠ .tup vs := fun vs e => by rw [e] at hok; cases hok
  have hnu : ofVal v ≠ .undef := fun e => by rw [e] at hok; cases hok
  rw [repS_notTup hnt] at hs
  obtain ⟨c1, c2⟩ := cellsA hnu hs
  refine ⟨c1, fun p j c hj hc => ?_⟩
  obtain ⟨j', e, hr⟩ := c2 j c hj hc
  refine hr.any ?_
  have hin : c ∈ (ofVal v).cells := List.mem_of_getElem? hc
  have : ∀ c ∈ (ofVal v).cells, isLin1 c = false := by
    intro c hc
    cases hv' : ofVal v <;> rw [hv'] at hc hl <;> simp only [V.cells, List.mem_singleton] at hc <;> try (subst hc; first | exact hl | rfl)
    simp only [isLin3, isLin2] at hl
    rw [List.any_eq_false] at hl
    exact Bool.eq_false_iff.2 (hl c hc)
  exact this c hin

theorem op_alloc {t : TypeId} (ho : o.op = .alloc t) (h : vop C vb f o st k kp = some out) (hR : R B τ g st a w) (hk : Goes B τ g a w o.dst k out next) : o.wpIn (FW ρ) n C.P a w next Q := by
  unfold vop at h
  rw [ho] at h
  dsimp only at h
  split at h
  · rename_i z hz
    split at h
    · rename_i hok
      obtain ⟨i, v, hi, hv, rfl⟩ := zeroT_eq hz
      obtain ⟨c1, c2⟩ := ofVal_cells (g := g) hok
      obtain ⟨g'', k1, k2, k3, k4, k5, k6⟩ := new_block hR (ofVal v).cells v.cells t (Nat.le_of_eq c1) (fun j c hj hc => c2 _ j c hj hc)
      exact wp_value (by simp [ho]) (w' := w.alloc (.cells v.cells t)) (v := .pointer (some ⟨w.heap.size, 0, none⟩)) (by simp [execOp, ho, Instr.alloc, run_zero hi hv, run_newVar'])
        (hk (.ptr st.h.length 0) _ g'' _ _ k1 k2 ⟨_, k3, rfl⟩ h)
    · cases h
  · cases h
end
end Go.Fw
/- The operations (3): loads, stores, parts of values, lengths. -/
namespace Go.Fw
open Go.RowKit

theorem getElem?_setAt : ∀ (vs cs : List V) (off j : Nat), off + vs.length ≤ cs.length → (setAt cs off vs)[j]? = if off ≤ j ∧ j < off + vs.length then vs[j - off]? else cs[j]?
  | [], cs, off, j, _ => by
    simp only [setAt]
    rw [if_neg (by simp only [List.length_nil]; omega)]
  | v :: vs, cs, off, j, h => by
    simp only [setAt, List.length_cons] at h ⊢
    rw [getElem?_setAt vs (cs.set off v) (off + 1) j (by simp; omega)]
    by_cases h1 : off + 1 ≤ j ∧ j < off + 1 + vs.length
    · rw [if_pos h1, if_pos (by omega)]
      obtain ⟨m, rfl⟩ : ∃ m, j = off + 1 + m := ⟨j - (off + 1), by omega⟩
      rw [show off + 1 + m - (off + 1) = m by omega, show off + 1 + m - off = m + 1 by omega]
      simp
    · rw [if_neg h1]
      by_cases h2 : j = off
      · subst h2
        rw [if_pos (by omega), List.getElem?_set_self (by omega)]
        simp
      · rw [if_neg (by omega), List.getElem?_set_ne (by omega)]
theorem length_setAt : ∀ (vs cs : List V) (off : Nat), (setAt cs off vs).length = cs.length
  | [], _, _ => rfl
  | v :: vs, cs, off => by simp only [setAt]; rw [length_setAt vs]; simp
theorem takeDrop_get {α : Type} (cs : List α) (off n j : Nat) : ((cs.drop off).take n)[j]? = if j < n then cs[off + j]? else none := by
  rw [List.getElem?_take]
  split
  · rw [List.getElem?_drop]
  · rfl

section
variable {B τ : Nat} {g : Gh} {st : St} {a : Act} {w : World}

/-- Where a row of cells lies. -/
def qCell (id off n : Nat) : Place → Bool
  | .cell i j => i == id && (decide (off ≤ j) && decide (j < off + n))
  | _ => false

theorem heap_share (h : R B τ g st a w) {id off n : Nat} {cs : List V} {e : TypeId} (hc : st.h[id]? = some (.cells cs e)) (hn : off + n ≤ cs.length) :
    R B τ (g.share (qCell id off n)) { st with h := st.h.set id (.cells (setAt cs off (((cs.drop off).take n).map mark1)) e) } a w := by
  have hlen : (((cs.drop off).take n).map mark1).length = n := by simp; omega
  refine ⟨h.size, fun i v hi hv => ?_, ⟨?_, h.heap.inj, ?_, ?_⟩, share_mem h.lin h.mem, share_lin h.lin, h.base, h.defers⟩
  · exact (h.slots i v hi hv).mono (share_memLe h.lin) (fun _ _ h => h) (fun j k b x hx hp => lin_share_of hx (by rw [hp]; rfl))
  · intro id' b hb; have := h.heap.bound id' b hb; simpa using this
  · intro id' b hb
    obtain ⟨h1, h2, h3, h4⟩ := h.heap.fresh id' b hb
    refine ⟨h1, h2, ?_, ?_⟩
    · unfold Gh.share; dsimp only; rw [h4]; exact h3
    · unfold Gh.share; dsimp only; rw [h4]; rfl
  · intro id' b cs' e' hb he
    by_cases hid : id' = id
    · subst hid
      have hlt := h.heap.bound id' b hb
      rw [List.getElem?_set_self hlt] at he
      cases he
      obtain ⟨cur, h1, h2, h3⟩ := h.heap.blk id' b cs e hb hc
      refine ⟨cur, h1, by rw [length_setAt]; exact h2, fun j c hj hcj => ?_⟩
      rw [getElem?_setAt _ _ _ _ (by rw [hlen]; exact hn), hlen] at hcj
      by_cases hr : off ≤ j ∧ j < off + n
      · rw [if_pos hr, List.getElem?_map, takeDrop_get, if_pos (by omega), show off + (j - off) = j by omega] at hcj
        obtain ⟨c0, hc0, rfl⟩ := Option.map_eq_some_iff.1 hcj
        exact ((h3 j c0 hj hc0).shared h.lin (by simp [qCell, hr])).1
      · rw [if_neg hr] at hcj
        refine (h3 j c hj hcj).mono (share_memLe h.lin) (fun _ _ h => h) (fun b i hi hp => lin_share_of hi ?_)
        rw [hp]
        simp only [qCell, beq_self_eq_true, Bool.true_and]
        rcases Nat.lt_or_ge j off with h' | h'
        · simp; omega
        · simp; omega
    · rw [List.getElem?_set_ne (fun e => hid e.symm)] at he
      obtain ⟨cur, h1, h2, h3⟩ := h.heap.blk id' b cs' e' hb he
      refine ⟨cur, h1, h2, fun j c hj hcj => (h3 j c hj hcj).mono (share_memLe h.lin) (fun _ _ h => h) (fun b i hi hp => lin_share_of hi ?_)⟩
      rw [hp]; simp [qCell, hid]

/-- Cells that are taken out of the heap. -/
theorem heap_take (h : R B τ g st a w) {id off n : Nat} {cs : List V} {e : TypeId} (hc : st.h[id]? = some (.cells cs e)) (hn : off + n ≤ cs.length) (f : Place → Place) (hf : ∀ p, (∀ j, off ≤ j → j < off + n → p ≠ .cell id j) → f p = p) :
    R B τ (g.ren f) { st with h := st.h.set id (.cells (setAt cs off (((cs.drop off).take n).map drop1)) e) } a w := by
  have hlen : (((cs.drop off).take n).map drop1).length = n := by simp; omega
  refine ⟨h.size, fun i v hi hv => ?_, ⟨?_, h.heap.inj, ?_, ?_⟩, h.mem, ren_lin h.lin, h.base, h.defers⟩
  · exact RepS.mono (g := g) (g' := g.ren f) (MemLe.refl _) (fun _ _ h => h) (fun j k b x hx hp => lin_ren_of hx (by rw [hp]; exact hf _ (by intro j _ _ e; cases e))) (h.slots i v hi hv)
  · intro id' b hb; have := h.heap.bound id' b hb; simpa using this
  · intro id' b hb
    obtain ⟨h1, h2, h3, h4⟩ := h.heap.fresh id' b hb
    refine ⟨h1, h2, h3, ?_⟩
    unfold Gh.ren; dsimp only; rw [h4]; rfl
  · intro id' b cs' e' hb he
    by_cases hid : id' = id
    · subst hid
      have hlt := h.heap.bound id' b hb
      rw [List.getElem?_set_self hlt] at he
      cases he
      obtain ⟨cur, h1, h2, h3⟩ := h.heap.blk id' b cs e hb hc
      refine ⟨cur, h1, by rw [length_setAt]; exact h2, fun j c hj hcj => ?_⟩
      rw [getElem?_setAt _ _ _ _ (by rw [hlen]; exact hn), hlen] at hcj
      by_cases hr : off ≤ j ∧ j < off + n
      · rw [if_pos hr, List.getElem?_map, takeDrop_get, if_pos (by omega), show off + (j - off) = j by omega] at hcj
        obtain ⟨c0, hc0, rfl⟩ := Option.map_eq_some_iff.1 hcj
        exact ((h3 j c0 hj hc0).moved (p' := f (.cell id' j)) rfl).2
      · rw [if_neg hr] at hcj
        refine RepC.mono (g := g) (g' := g.ren f) (MemLe.refl _) (fun _ _ h => h) (fun b i hi hp => lin_ren_of hi ?_) (h3 j c hj hcj)
        rw [hp]
        exact hf _ (by intro j' h1 h2 e; injection e with _ e; omega)
    · rw [List.getElem?_set_ne (fun e => hid e.symm)] at he
      obtain ⟨cur, h1, h2, h3⟩ := h.heap.blk id' b cs' e' hb he
      refine ⟨cur, h1, h2, fun j c hj hcj => RepC.mono (g := g) (g' := g.ren f) (MemLe.refl _) (fun _ _ h => h) (fun b i hi hp => lin_ren_of hi ?_) (h3 j c hj hcj)⟩
      rw [hp]
      exact hf _ (by intro j' h1 h2 e; injection e with e _; exact hid e)

theorem R.setBlkSame {id : Nat} {cs cs' : List V} {e : TypeId} (h : R B τ g { st with h := st.h.set id (.cells cs' e) } a w) (hc : st.h[id]? = some (.cells cs e)) (he : cs' = cs) : R B τ g st a w := by
  subst he
  have hlt := (List.getElem?_eq_some_iff.1 hc).1
  have e2 : st.h.set id (.cells cs' e) = st.h := by
    apply List.ext_getElem?
    intro j
    by_cases hj : id = j
    · subst hj; rw [List.getElem?_set_self hlt, hc]
    · rw [List.getElem?_set_ne hj]
  rw [e2] at h
  exact h

theorem setAt_self {cs : List V} {off n : Nat} (hn : off + n ≤ cs.length) : setAt cs off ((cs.drop off).take n) = cs := by
  have hlen : ((cs.drop off).take n).length = n := by simp; omega
  apply List.ext_getElem?
  intro j
  rw [getElem?_setAt _ _ _ _ (by rw [hlen]; exact hn), hlen]
  split
  · rename_i h
    rw [takeDrop_get, if_pos (by omega), show off + (j - off) = j by omega]
  · rfl
end

section
variable {P : Program}
theorem isAggT_some {t : TypeId} {b : Bool} (h : isAggT P t = some b) (w : World) : (isAgg t).run P w = .ok b w := by
  unfold isAggT at h
  split at h
  · rename_i d hd; cases h; simp [isAgg, run_underlying hd]
  · rename_i d n hd; cases h; simp [isAgg, run_underlying hd]
  · rename_i d h1 h2 hd
    cases h
    simp only [isAgg, Sem.run_bind, run_underlying hd, Result.andThen_ok]
    cases d <;> first | rfl | exact absurd rfl (h1 _) | exact absurd rfl (h2 _ _)
  · cases h
theorem sizeT_some {t : TypeId} {n : Nat} (h : sizeT P t = some n) (w : World) : (sizeOf t).run P w = .ok n w := by
  unfold sizeT at h
  obtain ⟨i, hi, rfl⟩ := Option.map_eq_some_iff.1 h
  rw [run_sizeOf w hi]
  simp [Program.cellsOf, hi]

theorem ofCells_some {g : Bool} {cs : List V} {v : V} (h : ofCells g cs = some v) : (g = true ∧ v = .agg cs) ∨ (g = false ∧ cs = [v]) := by
  unfold ofCells at h
  split at h
  · cases h; exact .inl ⟨rfl, rfl⟩
  · cases h; exact .inr ⟨rfl, rfl⟩
  · cases h

theorem addr_add (b off j : Nat) : (⟨b, off, none⟩ : Addr).add j = ⟨b, off + j, none⟩ := by unfold Addr.add; split <;> simp_all

/-- A variable is read: its cells are there. -/
theorem run_loadVar_cells {t : TypeId} {gg : Bool} {n : Nat} {w : World} {b off : Nat} (hg : isAggT P t = some gg) (hn : sizeT P t = some n) (vals : List Value) (hl : vals.length = n) (hc : ∀ (j : Nat) (v : Value), vals[j]? = some v → w.cell? ⟨b, off + j, none⟩ = some v) (h1 : gg = false → n = 1) :
    (loadVar t ⟨b, off, none⟩).run P w = .ok (if gg then .agg vals.toArray else vals.headD undef) w := by
  unfold loadVar
  simp only [Sem.run_bind, isAggT_some hg w, Result.andThen_ok]
  cases gg with
  | true =>
    simp only [if_true, Sem.run_bind, sizeT_some hn w, Result.andThen_ok]
    rw [← hl, run_loadCells_list w ⟨b, off, none⟩ vals (fun j v hv => by rw [addr_add]; exact hc j v hv)]
    rfl
  | false =>
    have := h1 rfl
    subst this
    match vals, hl with
    | [v], _ =>
      have hv := hc 0 v rfl
      simp only [Nat.add_zero] at hv
      simp [run_load, hv]
end

section
variable {C : Cx} {vb : FuncId → List V → List Blk → Option FOut} {f : FuncId} {ρ : Option Nat} {n : Nat} {o : Oper} {st : St} {α : Type} {k kp : V → St → Option α} {out : α}
  {B τ : Nat} {g : Gh} {a : Act} {w : World} {next : Act → World → Prop} {Q : Exit → Act → World → Prop}

theorem cell_of_heap {w : World} {b : Nat} {cur : Array Value} {e : TypeId} {fr : Nat × Nat} (h : w.heap[b]? = some (.cells cur e fr)) (j : Nat) : w.cell? ⟨b, j, none⟩ = cur[j]? := by
  simp [World.cell?, h]

theorem RepI.repP {g : Gh} {v : V} {u : Value} (h : RepI g.mem v u) : RepP g v u := by
  cases v <;> first | exact h | cases h
theorem RepI.repC {g : Gh} {p : Place} {v : V} {u : Value} (h : RepI g.mem v u) (hc : isCell v = true) : RepC g p v u := by
  cases v <;> first | exact h | (cases h; done) | (simp [isCell] at hc; done) | skip
  cases h with
  | fn _ _ _ first' caps' h1 h2 v1 v2 => exact ⟨first', caps', rfl, h1, h2, fun j c hj hc => (v1 j c hj hc).repP, fun j c hj hc => (v2 j c hj hc).repP⟩

/-- Cells that stand for values, put together to one of a type. -/
theorem rep_ofCells {g : Gh} {τ d : Nat} {gg : Bool} {c : List V} {v : V} {vals : List Value} (h : ofCells gg c = some v) (hl : c.length = vals.length) (hc : ∀ (j : Nat) (x : V) (u : Value), c[j]? = some x → vals[j]? = some u → RepC g (.slot τ d (if gg then j + 1 else 0) 0) x u) :
    RepS g τ d v (if gg then .agg vals.toArray else vals.headD undef) := by
  rcases ofCells_some h with ⟨rfl, rfl⟩ | ⟨rfl, rfl⟩
  · refine ⟨vals.toArray, rfl, by simpa using hl, fun j x hj hx => ?_⟩
    have := hc j x (vals.toArray[j]) hx (by simp at hj; simp [hj])
    simpa using this
  · match vals, hl with
    | [u], _ =>
      have := hc 0 v u rfl rfl
      have hn := this.notAgg
      show RepS g τ d v u
      rw [repS_notTup (by intro vs e; rw [e] at hn; cases hn)]
      exact repA_cell (by simpa using this)

def fLoad (τ d id off n : Nat) (gg : Bool) : Place → Place
  | .cell i j => if i = id ∧ off ≤ j ∧ j < off + n then .slot τ d (if gg then j - off + 1 else 0) 0 else .cell i j
  | p => p

theorem op_load {t : TypeId} {x : Operand} (ho : o.op = .load t x) (h : vop C vb f o st k kp = some out) (hR : R B τ g st a w) (hk : Goes B τ g a w o.dst k out next) : o.wpIn (FW ρ) n C.P a w next Q := by
  obtain ⟨dx, hx⟩ := peek_rep hR x
  unfold vop at h
  rw [ho] at h
  dsimp only at h
  split at h
  · rename_i gg m hg hm
    split at h
    · rename_i id off hp
      rw [hp] at hx
      obtain ⟨b, hb, hu⟩ := rep_ptr hx
      split at h
      · rename_i cs e hcs
        split at h
        · rename_i hle
          obtain ⟨cur, hcur, hlc, hrep⟩ := hR.heap.blk id b cs e hb hcs
          have hlen : ((cs.drop off).take m).length = m := by simp; omega
          have hvl : ((cur.toList.drop off).take m).length = m := by simp; omega
          have h1 : ∀ (c : List V) (v : V), c.length = m → ofCells gg c = some v → gg = false → m = 1 := by
            intro c v hc hv hgf
            rcases ofCells_some hv with ⟨e1, _⟩ | ⟨_, e1⟩
            · rw [hgf] at e1; cases e1
            · rw [← hc, e1]; rfl
          have hrun : ∀ (c : List V) (v : V), c.length = m → ofCells gg c = some v → (execOp a.eval o).run C.P w = .ok (.value (if gg then .agg ((cur.toList.drop off).take m).toArray else ((cur.toList.drop off).take m).headD undef)) w := by
            intro c v hc hv
            have hl := run_loadVar_cells (P := C.P) (w := w) (b := b) (off := off) hg hm _ hvl (fun j u hj => by
              rw [cell_of_heap hcur]
              rw [takeDrop_get] at hj
              split at hj
              · simpa using hj
              · cases hj) (h1 c v hc hv)
            simp [execOp, ho, hu, Instr.loadAt, Instr.sureAddr, hl]
          have hval : ∀ (j : Nat) (u : Value), ((cur.toList.drop off).take m)[j]? = some u → ∃ hj : off + j < cur.size, u = cur[off + j] ∧ j < m := by
            intro j u hj
            rw [takeDrop_get] at hj
            split at hj
            · rename_i hjm
              have hlt := (List.getElem?_eq_some_iff.1 hj).1
              simp at hlt
              refine ⟨hlt, ?_, hjm⟩
              have := (List.getElem?_eq_some_iff.1 hj).2
              rw [← this]; simp
            · cases hj
          split at h
          · rename_i d hd
            split at h
            · -- it is taken
              split at h
              · rename_i v hv
                have hf : ∀ p, (∀ j, off ≤ j → j < off + m → p ≠ .cell id j) → fLoad τ d id off m gg p = p := by
                  intro p hp
                  cases p with
                  | slot => rfl
                  | cell i j =>
                    have hn : ¬ (i = id ∧ off ≤ j ∧ j < off + m) := by
                      rintro ⟨rfl, h1, h2⟩
                      exact hp j h1 h2 rfl
                    simp only [fLoad, if_neg hn]
                have hR' := heap_take hR hcs hle (fLoad τ d id off m gg) hf
                refine wp_value (by simp [ho]) (hrun _ v hlen hv) (hk v _ _ _ w (ren_later (fun τ' x j k _ => hf _ (by intro j _ _ e; cases e))) hR' ?_ h)
                rw [hd]
                refine rep_ofCells hv (by rw [hlen, hvl]) (fun j x u hj hu' => ?_)
                obtain ⟨hjc, rfl, hjm⟩ := hval j u hu'
                rw [takeDrop_get, if_pos hjm] at hj
                refine ((hrep (off + j) x hjc hj).moved (f := fLoad τ d id off m gg) (p' := .slot τ d (if gg then j + 1 else 0) 0) ?_).1
                simp [fLoad, hjm]
              · cases h
            · split at h
              · rename_i v hv
                have hR' := heap_share hR hcs hle
                have hrepS : RepS (g.share (qCell id off m)) τ (o.dst.getD 0) v (if gg then .agg ((cur.toList.drop off).take m).toArray else ((cur.toList.drop off).take m).headD undef) := by
                  refine rep_ofCells hv (by rw [List.length_map, hlen, hvl]) (fun j x u hj hu' => ?_)
                  obtain ⟨hjc, rfl, hjm⟩ := hval j u hu'
                  rw [List.getElem?_map, takeDrop_get, if_pos hjm] at hj
                  obtain ⟨c0, hc0, rfl⟩ := Option.map_eq_some_iff.1 hj
                  exact ((hrep (off + j) c0 hjc hc0).shared (q := qCell id off m) hR.lin (by simp [qCell, hjm])).2 _
                have hlat : Later B τ g (g.share (qCell id off m)) w w := share_later hR.lin (fun τ' x j k hq => by simp [qCell] at hq)
                refine wp_value (by simp [ho]) (hrun _ v (by rw [List.length_map, hlen]) hv) ?_
                rcases condB_cases h with ⟨hl, h⟩ | ⟨hl, h⟩
                · exact hk v _ _ _ w hlat hR' hrepS h
                · refine hk v _ _ _ w hlat (hR'.setBlkSame hcs ?_) hrepS h
                  rw [map_of (fun _ h => mark1_of h) hl]
                  exact setAt_self hle
              · cases h
          · cases h
        · cases h
      · cases h
    · rename_i e off hp
      rw [hp] at hx
      have hi := rep_iptr hx
      split at h
      · rename_i hle
        split at h
        · rename_i v hv
          generalize hu : a.eval x = u at hi
          cases hi with
          | iptr _ _ b base val hs hvv =>
            have hlen : ((e.cells.drop off).take m).length = m := by simp; omega
            have h1 : gg = false → m = 1 := by
              intro hgf
              rcases ofCells_some hv with ⟨e1, _⟩ | ⟨_, e1⟩
              · rw [hgf] at e1; cases e1
              · rw [← hlen, e1]; rfl
            have hvl : ((List.range m).map fun j => val (off + j)).length = m := by simp
            have hget : ∀ (j : Nat) (u : Value), ((List.range m).map fun j => val (off + j))[j]? = some u → j < m ∧ u = val (off + j) := by
              intro j u hj
              have hjm := (List.getElem?_eq_some_iff.1 hj).1
              simp at hjm
              refine ⟨hjm, ?_⟩
              have := (List.getElem?_eq_some_iff.1 hj).2
              rw [← this]; simp
            have hl := run_loadVar_cells (P := C.P) (w := w) (b := b) (off := base + off) hg hm ((List.range m).map fun j => val (off + j)) hvl (fun j u hj => by
              obtain ⟨hjm, rfl⟩ := hget j u hj
              have hlt : off + j < e.cells.length := by omega
              obtain ⟨_, hst⟩ := hs (off + j) _ (List.getElem?_eq_getElem hlt)
              unfold stAt at hst
              obtain ⟨cs, hcs, hci⟩ := Option.bind_eq_some_iff.1 hst
              obtain ⟨cur, e', fr, hh, tl, htl⟩ := hR.mem.at_ b cs hcs
              rw [cell_of_heap hh, ← Array.getElem?_toList, ← htl, Nat.add_assoc]
              rw [List.getElem?_append_left (List.getElem?_eq_some_iff.1 hci).1]
              exact hci) h1
            generalize ((List.range m).map fun j => val (off + j)) = vals at hvl hget hl
            refine wp_value (by simp [ho]) (v := if gg then .agg vals.toArray else vals.headD undef) (w' := w) (by simp [execOp, ho, hu, Instr.loadAt, Instr.sureAddr, hl]) (hk v st g _ w (Later.refl ..) hR ?_ h)
            refine rep_ofCells hv (by rw [hlen, hvl]) (fun j x u hj hu' => ?_)
            obtain ⟨hjm, rfl⟩ := hget j u hu'
            rw [takeDrop_get, if_pos hjm] at hj
            have hci := (hs (off + j) x hj).1
            have hri := hvv (off + j) x hj
            exact hri.repC hci
        · cases h
      · cases h
    · cases h
  · cases h
end
end Go.Fw
/- The operations (4): stores, addresses, parts, tests. -/
namespace Go.Fw
open Go.RowKit

theorem splice_get {α : Type} (l vs : List α) (off j : Nat) (h : off + vs.length ≤ l.length) : (l.take off ++ vs ++ l.drop (off + vs.length))[j]? = if off ≤ j ∧ j < off + vs.length then vs[j - off]? else l[j]? := by
  by_cases h1 : j < off
  · rw [if_neg (by omega), List.append_assoc, List.getElem?_append_left (by simp; omega), List.getElem?_take, if_pos h1]
  · by_cases h2 : j < off + vs.length
    · rw [if_pos (by omega), List.append_assoc, List.getElem?_append_right (by simp; omega), List.getElem?_append_left (by simp; omega)]
      congr 1; simp; omega
    · rw [if_neg (by omega), List.getElem?_append_right (by simp; omega), List.getElem?_drop]
      congr 1; simp; omega

section
variable {B τ : Nat} {g : Gh} {st : St} {a : Act} {w : World}

theorem write_blk (h : R B τ g st a w) {id b : Nat} {cs cs' : List V} {e : TypeId} {cur cur' : Array Value} (hb : g.loc id = some b) (hcs : st.h[id]? = some (.cells cs e)) (hcur : w.heap[b]? = some (.cells cur e (0, 0)))
    (hl : cs'.length ≤ cur'.size) (hrep : ∀ (j : Nat) (c : V) (hj : j < cur'.size), cs'[j]? = some c → RepC g (.cell id j) c cur'[j]) :
    Later B τ g g w (w.setRow b cur') ∧ R B τ g { st with h := st.h.set id (.cells cs' e) } a (w.setRow b cur') := by
  obtain ⟨f1, f2, f3, f4⟩ := h.heap.fresh id b hb
  have hne : ∀ x, (g.mem x).isSome = true ∨ (g.lin x).isSome = true → x ≠ b := by
    intro x hx e
    subst e
    rw [f3, f4] at hx
    simp at hx
  refine ⟨⟨below_setRow (Below.refl _ _) f1 _, MemLe.refl _, fun _ _ => rfl, fun _ _ h => h, fun _ _ h _ => h⟩, h.size, h.slots, ⟨?_, h.heap.inj, ?_, ?_⟩, ⟨?_⟩, ⟨?_⟩, by simpa using h.base, h.defers⟩
  · intro id' b' hb'; have := h.heap.bound id' b' hb'; simpa using this
  · intro id' b' hb'
    obtain ⟨h1, h2, h3, h4⟩ := h.heap.fresh id' b' hb'
    exact ⟨h1, by simpa using h2, h3, h4⟩
  · intro id' b' cs0 e0 hb' he
    by_cases hid : id' = id
    · subst hid
      rw [hb] at hb'; cases hb'
      have hlt := h.heap.bound id' b hb
      rw [List.getElem?_set_self hlt] at he
      cases he
      exact ⟨cur', setRow_heap w b cur cur' e (0, 0) hcur, hl, hrep⟩
    · rw [List.getElem?_set_ne (fun e => hid e.symm)] at he
      obtain ⟨cur0, h1, h2, h3⟩ := h.heap.blk id' b' cs0 e0 hb' he
      refine ⟨cur0, ?_, h2, h3⟩
      rw [setRow_other w b b' cur' (fun e => hid (h.heap.inj id' id b (e ▸ hb') hb))]
      exact h1
  · intro x xs hx
    obtain ⟨cur0, e0, fr, h1, h2⟩ := h.mem.at_ x xs hx
    exact ⟨cur0, e0, fr, by rw [setRow_other w b x cur' (hne x (.inl (by simp [hx])))]; exact h1, h2⟩
  · intro x i hx
    obtain ⟨h1, ⟨cur0, h2, h3, h4⟩, h5⟩ := h.lin.at_ x i hx
    exact ⟨h1, ⟨cur0, by rw [setRow_other w b x cur' (hne x (.inr (by simp [hx])))]; exact h2, h3, h4⟩, h5⟩

theorem takeS_h (st : St) (x : Operand) : (st.takeS x).h = st.h := by
  cases x <;> first | rfl | skip
  simp only [St.takeS]
  cases isLin3 (getS st.fr _) <;> simp [condB_true, condB_false]
theorem useS_h (st : St) (x : Operand) : (st.useS x).h = st.h := by
  cases x <;> first | rfl | skip
  simp only [St.useS]
  cases isLin3 (getS st.fr _) <;> simp [condB_true, condB_false]
end

section
variable {C : Cx} {vb : FuncId → List V → List Blk → Option FOut} {f : FuncId} {ρ : Option Nat} {n : Nat} {o : Oper} {st : St} {α : Type} {k kp : V → St → Option α} {out : α}
  {B τ : Nat} {g : Gh} {a : Act} {w : World} {next : Act → World → Prop} {Q : Exit → Act → World → Prop}

theorem op_store {t : TypeId} {p x : Operand} (ho : o.op = .store t p x) (h : vop C vb f o st k kp = some out) (hR : R B τ g st a w) (hk : Goes B τ g a w o.dst k out next) : o.wpIn (FW ρ) n C.P a w next Q := by
  obtain ⟨dx, hx⟩ := peek_rep hR p
  unfold vop at h
  rw [ho] at h
  dsimp only at h
  split at h
  · rename_i m hm
    have hdst : o.dst = none := by
      by_cases hd : o.dst = none
      · exact hd
      · rw [if_neg hd] at hm; cases hm
    rw [if_pos hdst] at hm
    split at h
    · rename_i id off hp
      rw [hp] at hx
      obtain ⟨b, hb, hu⟩ := rep_ptr hx
      split at h
      · rename_i cs e hcs
        split at h
        · rename_i hcond
          obtain ⟨hok, hvl, hle⟩ := hcond
          obtain ⟨g', l1, hR', hloc, hcl, hrep⟩ := take_cells hR x id off hok
          have hb' : g'.loc id = some b := by rw [hloc]; exact hb
          have hcs' : (st.takeS x).h[id]? = some (.cells cs e) := by rw [takeS_h]; exact hcs
          obtain ⟨cur, hcur, hlc, hrep0⟩ := hR'.heap.blk id b cs e hb' hcs'
          have hul : (a.eval x).cells.toList.length = m := by rw [Array.length_toList, ← hcl]; exact hvl
          have hone : ∀ v ∈ (a.eval x).cells.toList, v.oneCell' = true := by
            intro v hv
            obtain ⟨j, hj, rfl⟩ := List.mem_iff_getElem.1 hv
            have hj' : j < (a.eval x).cells.size := by simpa using hj
            have := hrep j ((st.peek x).cells[j]'(by rw [hcl]; exact hj')) hj' (List.getElem?_eq_getElem _)
            simpa using this.one
          have hst := run_storeCells_at (P := C.P) b off e (a.eval x).cells.toList 0 cur w hcur (by omega) hone
          simp only [Nat.add_zero] at hst
          generalize hcur' : (cur.toList.take off ++ (a.eval x).cells.toList ++ cur.toList.drop (off + (a.eval x).cells.toList.length)).toArray = cur' at hst
          have hsz : cur'.size = cur.size := by rw [← hcur']; simp; omega
          have hat : ∀ (j : Nat) (hj : j < cur'.size), (∃ h1 : j - off < (a.eval x).cells.size, off ≤ j ∧ j < off + m ∧ cur'[j] = (a.eval x).cells[j - off]) ∨ ((j < off ∨ off + m ≤ j) ∧ cur'[j] = cur[j]'(by omega)) := by
            intro j hj
            have hsz' : (a.eval x).cells.size = m := by simpa using hul
            have hg : cur'[j]? = if off ≤ j ∧ j < off + m then (a.eval x).cells.toList[j - off]? else cur.toList[j]? := by
              rw [← hcur', ← hul]
              simpa using splice_get cur.toList (a.eval x).cells.toList off j (by rw [hul, Array.length_toList]; omega)
            rw [Array.getElem?_eq_getElem hj] at hg
            by_cases h1 : off ≤ j ∧ j < off + m
            · rw [if_pos h1, Array.getElem?_toList, Array.getElem?_eq_getElem (by omega)] at hg
              exact .inl ⟨by omega, h1.1, h1.2, Option.some.inj hg⟩
            · rw [if_neg h1, Array.getElem?_toList, Array.getElem?_eq_getElem (by omega)] at hg
              exact .inr ⟨by omega, Option.some.inj hg⟩
          obtain ⟨l2, hR''⟩ := write_blk hR' (cs' := setAt cs off (st.peek x).cells) (cur' := cur') hb' hcs' hcur (by rw [length_setAt, hsz]; exact hlc) (fun j c hj hc => by
            rw [getElem?_setAt _ _ _ _ (by rw [hvl]; exact hle), hvl] at hc
            rcases hat j hj with ⟨h1, h2, h3, h4⟩ | ⟨h1, h2⟩
            · rw [if_pos ⟨h2, h3⟩] at hc
              rw [h4]
              have := hrep (j - off) c h1 hc
              rwa [show off + (j - off) = j by omega] at this
            · rw [if_neg (by omega)] at hc
              rw [h2]
              exact hrep0 j c (by omega) hc)
          refine wp_skip_ (by simp [ho]) (w' := w.setRow b cur') ?_ (hk .undef _ g' _ _ (l1.trans l2) hR'' trivial h)
          simp [execOp, ho, hu, Instr.storeAt, Instr.sureAddr, storeVar, sizeT_some hm w, hst]
          simpa using hul
        · cases h
      · cases h
    · cases h
  · cases h

theorem fieldT_some {P : Program} {t : TypeId} {j : Nat} {x : Field} (h : fieldT P t j = some x) : ∃ fs, P.underlying t = some (.struct fs) ∧ fs[j]? = some x := by
  unfold fieldT at h
  split at h
  · exact ⟨_, by assumption, h⟩
  · cases h

theorem fieldPlace_run {P : Program} (b off : Nat) (x : Field) {m : Nat} (hm : sizeT P x.type = some (m + 1)) (w : World) : (fieldPlace ⟨b, off, none⟩ x).run P w = .ok ⟨b, off + x.offset, none⟩ w := by
  simp [fieldPlace, sizeT_some hm w, addr_add]

theorem op_fieldAddr {s : TypeId} {x : Operand} {j : Nat} (ho : o.op = .fieldAddr s x j) (h : vop C vb f o st k kp = some out) (hR : R B τ g st a w) (hk : Goes B τ g a w o.dst k out next) : o.wpIn (FW ρ) n C.P a w next Q := by
  obtain ⟨dx, hx⟩ := peek_rep hR x
  unfold vop at h
  rw [ho] at h
  dsimp only at h
  split at h
  · rename_i fl hfl
    obtain ⟨fs, hu, hfs⟩ := fieldT_some hfl
    split at h
    · rename_i m hm
      split at h
      · rename_i id off hp
        rw [hp] at hx
        obtain ⟨b, hb, hux⟩ := rep_ptr hx
        exact wp_value (by simp [ho]) (v := .pointer (some ⟨b, off + fl.offset, none⟩)) (w' := w) (by simp [execOp, ho, Instr.fieldAt, run_underlying hu, hfs, hux, Instr.sureAddr, fieldPlace_run b off fl hm w])
          (hk (.ptr id (off + fl.offset)) st g _ w (Later.refl ..) hR ⟨b, hb, rfl⟩ h)
      · rename_i e off hp
        rw [hp] at hx
        have hi := rep_iptr hx
        generalize hux : a.eval x = u at hi
        cases hi with
        | iptr _ _ b base val hs hv =>
          exact wp_value (by simp [ho]) (v := .pointer (some ⟨b, base + off + fl.offset, none⟩)) (w' := w) (by simp [execOp, ho, Instr.fieldAt, run_underlying hu, hfs, hux, Instr.sureAddr, fieldPlace_run b (base + off) fl hm w])
            (hk (.iptr e (off + fl.offset)) st g _ w (Later.refl ..) hR (by rw [Nat.add_assoc]; exact RepI.iptr e (off + fl.offset) b base val hs hv) h)
      · cases h
    · cases h
  · cases h

theorem op_extract {x : Operand} {i : Nat} (ho : o.op = .extract x i) (h : vop C vb f o st k kp = some out) (hR : R B τ g st a w) (hk : Goes B τ g a w o.dst k out next) : o.wpIn (FW ρ) n C.P a w next Q := by
  unfold vop at h
  rw [ho] at h
  dsimp only at h
  split at h
  · rename_i t
    split at h
    · rename_i vs hvs
      split at h
      · rename_i v hv
        have hs := slot_of hR t
        rw [hvs] at hs
        obtain ⟨cs, hcs, hl, hrep⟩ := hs
        have hi : i < cs.size := by rw [← hl]; exact (List.getElem?_eq_some_iff.1 hv).1
        -- it is taken out of its place
        let d := o.dst.getD 0
        let fm : Place → Place := fun p => match p with
          | .slot τ' y j kk => if τ' = τ ∧ y = t ∧ kk = i + 1 then .slot τ d j 0 else .slot τ' y j kk
          | p => p
        have hf : ∀ p, (∀ j kk, p ≠ .slot τ t j kk) → fm p = p := by
          intro p hp
          cases p with
          | cell => rfl
          | slot τ' y j kk =>
            have hn : ¬ (τ' = τ ∧ y = t ∧ kk = i + 1) := by
              rintro ⟨rfl, rfl, rfl⟩
              exact hp j _ rfl
            show (if _ then _ else _) = _
            rw [if_neg hn]
        have hmv := (hrep i v hi hv).moved (f := fm) (pl' := fun j => .slot τ d j 0) (fun j => by show (if _ then _ else _) = _; rw [if_pos ⟨rfl, rfl, rfl⟩])
        have htt : t < a.tmps.size := by
          rcases Nat.lt_or_ge t a.tmps.size with h1 | h1
          · exact h1
          · rw [getS_out (by rw [hR.size]; exact h1)] at hvs; cases hvs
        have hR' : R B τ (g.ren fm) { st with fr := st.fr.set t (.tup (vs.set i (map2 drop1 v))) } a w := by
          refine ⟨by simpa using hR.size, fun i' v' hi' hv' => ?_, ren_heap (fun _ _ => rfl) hR.heap, hR.mem, ren_lin hR.lin, hR.base, hR.defers⟩
          by_cases hit : i' = t
          · subst hit
            rw [List.getElem?_set_self (by rw [hR.size]; exact hi')] at hv'
            cases hv'
            have hcs' : a.tmps[i'] = .tuple cs := by simpa [Array.getD, hi'] using hcs
            refine ⟨cs, hcs', by simpa using hl, fun kk c hkk hc => ?_⟩
            by_cases hki : kk = i
            · subst hki
              rw [List.getElem?_set_self (by rw [hl]; exact hi)] at hc
              cases hc
              exact hmv.2
            · rw [List.getElem?_set_ne (fun e => hki e.symm)] at hc
              refine RepA.mono (g := g) (g' := g.ren fm) (MemLe.refl _) (fun _ _ h => h) (fun j b x hx hp => lin_ren_of hx ?_) (hrep kk c hkk hc)
              rw [hp]
              show (if _ then _ else _) = _
              rw [if_neg (by rintro ⟨_, _, e⟩; omega)]
          · rw [List.getElem?_set_ne (fun e => hit e.symm)] at hv'
            refine RepS.mono (g := g) (g' := g.ren fm) (MemLe.refl _) (fun _ _ h => h) (fun j kk b x hx hp => lin_ren_of hx ?_) (hR.slots i' v' hi' hv')
            rw [hp]
            exact hf (.slot τ i' j kk) (by intro j' k' e; injection e with _ e; exact hit e)
        have hval : (execOp a.eval o).run C.P w = .ok (.value cs[i]) w := by
          have : a.eval (.tmp t) = .tuple cs := hcs
          simp [execOp, ho, this, Instr.extract, hi]
        by_cases htup : ∃ ws, v = .tup ws
        · obtain ⟨ws, rfl⟩ := htup
          exact (hrep i _ hi hv).elim
        · refine wp_value (by simp [ho]) hval (hk v _ (g.ren fm) _ w (ren_later (fun τ' y j kk hne => hf (.slot τ' y j kk) (by intro j' k' e; injection e with e _; exact hne e))) hR' ?_ h)
          rw [repS_notTup (fun ws e => htup ⟨ws, e⟩)]
          exact hmv.1
      · cases h
    · cases h
  · cases h

theorem slen_rep {g : Gh} {τ d : Nat} {v : V} {u : Value} {m : Nat} (h : RepS g τ d v u) (hm : slen v = some m) : (∃ a c, u = .slice a m c) ∨ (∃ s, u = .string s ∧ s.size = m) := by
  unfold slen at hm
  split at hm <;> cases hm <;> simp only [RepS, RepA, RepC] at h
  · cases h; exact .inl ⟨_, _, rfl⟩
  · cases h; exact .inl ⟨_, _, rfl⟩
  · cases h <;> exact .inl ⟨_, _, rfl⟩
  · rcases h with ⟨b, i, _, _, _, _, rfl, _⟩ | ⟨rfl, _, ad, rfl⟩ <;> exact .inl ⟨_, _, rfl⟩
  · rcases h with ⟨b, c, _, rfl, _⟩ | ⟨rfl, _, ad, rfl⟩ <;> exact .inl ⟨_, _, rfl⟩
  · cases h; exact .inr ⟨_, rfl, rfl⟩
end
end Go.Fw
/- The operations (5): tests, lengths, letters, closures. -/
namespace Go.Fw
open Go.RowKit

def valT (b : Bool) (us : List Value) : Value := if b then .agg us.toArray else us.headD undef

def Cells (g : Gh) (xs : List V) (us : List Value) : Prop := xs.length = us.length ∧ ∀ (j : Nat) (c : V) (u : Value), xs[j]? = some c → us[j]? = some u → ∃ p, RepC g p c u
theorem Cells.part {g : Gh} {xs : List V} {us : List Value} (h : Cells g xs us) (off n : Nat) : Cells g ((xs.drop off).take n) ((us.drop off).take n) := by
  refine ⟨by simp [h.1], fun j c u hc hu => ?_⟩
  rw [takeDrop_get] at hc hu
  split at hc
  · rename_i hj
    rw [if_pos hj] at hu
    exact h.2 _ c u hc hu
  · cases hc
theorem Cells.one {g : Gh} {x : V} {us : List Value} (h : Cells g [x] us) : ∃ u p, us = [u] ∧ RepC g p x u := by
  match us, h.1 with
  | [u], _ =>
    obtain ⟨p, hp⟩ := h.2 0 x u rfl rfl
    exact ⟨u, p, rfl, hp⟩

theorem run_part {P : Program} {t : TypeId} {b : Bool} {n : Nat} (hb : isAggT P t = some b) (hn : sizeT P t = some n) (us : List Value) (off : Nat) (h1 : b = false → off < us.length ∧ 0 < n) (w : World) :
    (part t us.toArray off).run P w = .ok (valT b ((us.drop off).take n)) w := by
  unfold part valT
  simp only [Sem.run_bind, isAggT_some hb w, Result.andThen_ok]
  cases b with
  | true =>
    simp only [if_true, Sem.run_bind, sizeT_some hn w, Result.andThen_ok, Sem.run_pure]
    congr 2
    rw [← Array.toList_inj]
    simp [List.extract_eq_take_drop]
  | false =>
    obtain ⟨hlt, hn0⟩ := h1 rfl
    obtain ⟨m, rfl⟩ : ∃ m, n = m + 1 := ⟨n - 1, by omega⟩
    have : (us.drop off).take (m + 1) = us[off] :: (us.drop (off + 1)).take m := by
      rw [List.drop_eq_getElem_cons hlt]; rfl
    rw [this]
    simp [List.getElem?_eq_getElem hlt]

theorem eqPlain_run {P : Program} {g : Gh} : ∀ (d : Nat) (t : TypeId) (xs ys : List V) (r : Bool) (us vs : List Value), eqPlain P d t xs ys = some r → Cells g xs us → Cells g ys vs → ∀ (e : Nat), d ≤ e → ∀ (w : World),
    ∃ b, isAggT P t = some b ∧ (b = false → xs.length = 1 ∧ ys.length = 1) ∧ (Op.equalIn e t (valT b us) (valT b vs)).run P w = .ok r w := by
  intro d
  induction d with
  | zero => intro t xs ys r us vs h; cases h
  | succ d ih =>
    intro t xs ys r us vs h hx hy e he w
    obtain ⟨e, rfl⟩ : ∃ m, e = m + 1 := ⟨e - 1, by omega⟩
    simp only [eqPlain] at h
    split at h
    · rename_i a b ht
      cases h
      obtain ⟨u, p, rfl, hu⟩ := hx.one
      obtain ⟨v, q, rfl, hv⟩ := hy.one
      simp only [RepC] at hu hv
      cases hu; cases hv
      exact ⟨false, by simp [isAggT, ht], fun _ => ⟨rfl, rfl⟩, run_equalIn_bool' w e t a b ht⟩
    · rename_i k0 k a k' b ht
      split at h
      · rename_i hkk
        subst hkk
        cases h
        obtain ⟨u, p, rfl, hu⟩ := hx.one
        obtain ⟨v, q, rfl, hv⟩ := hy.one
        simp only [RepC] at hu hv
        cases hu; cases hv
        exact ⟨false, by simp [isAggT, ht], fun _ => ⟨rfl, rfl⟩, run_equalIn_int w e t _ _ a b ht⟩
      · cases h
    · rename_i a b ht
      cases h
      obtain ⟨u, p, rfl, hu⟩ := hx.one
      obtain ⟨v, q, rfl, hv⟩ := hy.one
      simp only [RepC] at hu hv
      cases hu; cases hv
      exact ⟨false, by simp [isAggT, ht], fun _ => ⟨rfl, rfl⟩, run_equalIn_string w e t a b ht⟩
    · rename_i fs ht
      split at h
      · cases h
      · rename_i hst
        refine ⟨true, by simp [isAggT, ht], (fun h => by cases h), ?_⟩
        have hf : P.fieldsOf t = fs := by simp [Program.fieldsOf, ht]
        show (Op.equalIn (e + 1) t (.agg us.toArray) (.agg vs.toArray)).run P w = _
        rw [run_equalIn_struct (P := P) w e t us.toArray vs.toArray (by rw [hf]; exact ht) (by simpa using hst), hf]
        clear ht hf hst
        generalize fs.toList = fl at h
        induction fl generalizing r with
        | nil => simp only [eqFs] at h; cases h; simp [Op.eqFields]
        | cons fd fl ihf =>
          simp only [eqFs] at h
          rw [Op.eqFields]
          by_cases hn : fd.name = "_"
          · rw [if_pos hn] at h
            rw [if_neg (by simp [hn])]
            exact ihf r h
          · rw [if_neg hn] at h
            rw [if_pos hn]
            split at h
            · rename_i n hsz
              split at h
              · rename_i ra rb hra hrb
                cases h
                obtain ⟨b, hb, h1, hrun⟩ := ih fd.type _ _ ra _ _ hra (hx.part fd.offset n) (hy.part fd.offset n) e (by omega) w
                have hb1 := hb
                have hx1 : b = false → fd.offset < us.length ∧ 0 < n := fun hbf => by
                  have h1' := (h1 hbf).1
                  rw [List.length_take, List.length_drop] at h1'
                  have := hx.1
                  omega
                have hy1 : b = false → fd.offset < vs.length ∧ 0 < n := fun hbf => by
                  have h1' := (h1 hbf).2
                  rw [List.length_take, List.length_drop] at h1'
                  have := hy.1
                  omega
                simp only [Sem.run_bind, run_part hb hsz us fd.offset hx1 w, run_part hb hsz vs fd.offset hy1 w, hrun, Result.andThen_ok]
                cases ra
                · simp
                · simpa using ihf rb hrb
              · cases h
            · cases h
    · cases h

section
variable {C : Cx} {vb : FuncId → List V → List Blk → Option FOut} {f : FuncId} {ρ : Option Nat} {n : Nat} {o : Oper} {st : St} {α : Type} {k kp : V → St → Option α} {out : α}
  {B τ : Nat} {g : Gh} {a : Act} {w : World} {next : Act → World → Prop} {Q : Exit → Act → World → Prop}

theorem cellsS {g : Gh} {τ d : Nat} {xs : List V} {u : Value} (h : RepS g τ d (.agg xs) u) : ∃ us : List Value, u = .agg us.toArray ∧ Cells g xs us := by
  obtain ⟨cs, rfl, h1, h2⟩ := h
  refine ⟨cs.toList, rfl, by simpa using h1, fun j c x hc hx => ?_⟩
  rw [Array.getElem?_toList] at hx
  obtain ⟨hj, rfl⟩ := Array.getElem?_eq_some_iff.1 hx
  exact ⟨_, h2 j c hj hc⟩

theorem guard_agg {P : Program} {op : BinOp} {t : TypeId} {x y : Operand} {us vs : Array Value} (hg : P.eqGuardType P.depth t = false) (w : World) : (eqGuard op t x y (.agg us) (.agg vs)).run P w = .ok () w := by
  unfold eqGuard
  cases op <;> simp [hg]
theorem guard_plain {P : Program} {op : BinOp} {t : TypeId} {x y : Operand} {u v : Value} (h1 : u.oneCell' = true) (h2 : u ≠ .nilIface ∨ v ≠ .nilIface) (w : World) : (eqGuard op t x y u v).run P w = .ok () w := by
  unfold eqGuard
  cases op <;> cases u <;> cases v <;> first | rfl | (simp at h1; done) | (cases h1; done) | (exfalso; rcases h2 with h2 | h2 <;> exact h2 rfl)
theorem equal_nil {P : Program} {t e : TypeId} (he : elemT P t = some e) (w : World) (d : Nat) (ad : Addr) (l c : Nat) : (Op.equalIn (d + 1) t (.slice none 0 0) (.slice (some ad) l c)).run P w = .ok false w ∧ (Op.equalIn (d + 1) t (.slice (some ad) l c) (.slice none 0 0)).run P w = .ok false w := by
  have : P.underlying t = some (.slice e) := by
    unfold elemT at he
    split at he
    · cases he; assumption
    · cases he
  exact ⟨by simp [Op.equalIn, run_underlying this], by simp [Op.equalIn, run_underlying this]⟩
theorem equal_eq (t : TypeId) (x y : Value) : Op.equal t x y = Op.equalIn (9999 + 1) t x y := rfl

theorem rep_slice {g : Gh} {τ d : Nat} {v : V} {u : Value} (h : RepS g τ d v u) (hv : v = .nne ∨ (∃ b n x xs, v = .imm b n (x :: xs)) ∨ (∃ b e n x xs, v = .lin b e n (x :: xs)) ∨ ∃ i j l r, v = .own i j (l + 1) r) : ∃ ad l c, u = .slice (some ad) l c := by
  rcases hv with rfl | ⟨b, n, x, xs, rfl⟩ | ⟨b, e, n, x, xs, rfl⟩ | ⟨i, j, l, r, rfl⟩ <;> simp only [RepS, RepA, RepC] at h
  · cases h; exact ⟨_, _, _, rfl⟩
  · cases h; exact ⟨_, _, _, rfl⟩
  · rcases h with ⟨_, _, _, _, _, _, rfl, _⟩ | ⟨h, _⟩
    · exact ⟨_, _, _, rfl⟩
    · cases h
  · rcases h with ⟨_, _, _, rfl, _⟩ | ⟨h, _⟩
    · exact ⟨_, _, _, rfl⟩
    · cases h

theorem rep_nils {g : Gh} {τ d : Nat} {u : Value} (h : RepS g τ d .nils u) : u = .slice none 0 0 := by
  simp only [RepS, RepA, RepC] at h; cases h; rfl

theorem sliceT {P : Program} {t : TypeId} {e : TypeId} (h : elemT P t = some e) : P.underlying t = some (.slice e) := by
  unfold elemT at h
  split at h
  · cases h; assumption
  · cases h

theorem op_binOp {op : BinOp} {t t' : TypeId} {x y : Operand} (ho : o.op = .binOp op t x y t') (h : vop C vb f o st k kp = some out) (hR : R B τ g st a w) (hk : Goes B τ g a w o.dst k out next) : o.wpIn (FW ρ) n C.P a w next Q := by
  obtain ⟨dx, hx⟩ := peek_rep hR x
  obtain ⟨dy, hy⟩ := peek_rep hR y
  unfold vop at h
  rw [ho] at h
  dsimp only at h
  split at h
  · rename_i v hv
    unfold vbin at hv
    have fin : ∀ (u : Value), RepS g τ (o.dst.getD 0) v u → ((do eqGuard op t x y (a.eval x) (a.eval y); binOp op t (a.eval x) (a.eval y)) : Sem Value).run C.P w = .ok u w → o.wpIn (FW ρ) n C.P a w next Q := by
      intro u hu hr
      refine wp_value (by simp [ho]) (v := u) (w' := w) ?_ (hk v st g u w (Later.refl ..) hR hu h)
      simp only [execOp, ho]
      exact run_v hr
    have agg : ∀ (xs ys : List V) (r : Bool), st.peek x = .agg xs → st.peek y = .agg ys → ¬ (C.P.eqGuardType C.P.depth t = true ∨ isAggT C.P t ≠ some true) → eqPlain C.P 40 t xs ys = some r →
        ∃ us vs : Array Value, a.eval x = .agg us ∧ a.eval y = .agg vs ∧ (eqGuard op t x y (.agg us) (.agg vs)).run C.P w = .ok () w ∧ (Op.equal t (.agg us) (.agg vs)).run C.P w = .ok r w := by
      intro xs ys r hxs hys hg hr
      rw [hxs] at hx; rw [hys] at hy
      obtain ⟨us, eu, cu⟩ := cellsS hx
      obtain ⟨vs, ev, cv⟩ := cellsS hy
      obtain ⟨b, hb, _, hrun⟩ := eqPlain_run 40 t xs ys r us vs hr cu cv (9999 + 1) (by omega) w
      have h1 : isAggT C.P t = some true := by
        cases hh : isAggT C.P t with
        | none => exact absurd (.inr (by simp [hh])) hg
        | some z => cases z with
          | true => rfl
          | false => exact absurd (.inr (by simp [hh])) hg
      rw [h1] at hb
      cases hb
      exact ⟨_, _, eu, ev, guard_agg (by cases hh : C.P.eqGuardType C.P.depth t with | true => exact absurd (.inl hh) hg | false => rfl) w, by rw [equal_eq]; exact hrun⟩
    split at hv
    · rename_i xs ys hxs hys
      split at hv
      · cases hv
      · rename_i hg
        obtain ⟨r, hr, rfl⟩ := Option.map_eq_some_iff.1 hv
        obtain ⟨us, vs, eu, ev, g1, g2⟩ := agg xs ys r hxs hys hg hr
        refine fin (.bool r) (RepI.bool r) ?_
        rw [eu, ev]
        simp only [Sem.run_bind, g1, Result.andThen_ok, binOp, g2]
        rfl
    · rename_i xs ys hxs hys
      split at hv
      · cases hv
      · rename_i hg
        obtain ⟨r, hr, rfl⟩ := Option.map_eq_some_iff.1 hv
        obtain ⟨us, vs, eu, ev, g1, g2⟩ := agg xs ys r hxs hys hg hr
        refine fin (.bool !r) (RepI.bool (!r)) ?_
        rw [eu, ev]
        simp only [Sem.run_bind, g1, Result.andThen_ok, binOp, g2]
        rfl
    · split at hv
      · rename_i b hb
        split at hv
        · rename_i hes
          obtain ⟨e, he⟩ := Option.isSome_iff_exists.1 hes
          have hcase : b = false ∧ ((a.eval x = .slice none 0 0 ∧ ∃ ad l c, a.eval y = .slice (some ad) l c) ∨ (a.eval y = .slice none 0 0 ∧ ∃ ad l c, a.eval x = .slice (some ad) l c)) := by
            unfold nilEq at hb
            split at hb <;> cases hb <;> refine ⟨rfl, ?_⟩ <;> rename_i e1 e2 <;> rw [e1] at hx <;> rw [e2] at hy
            · exact .inl ⟨rep_nils hx, rep_slice hy (.inl rfl)⟩
            · exact .inr ⟨rep_nils hy, rep_slice hx (.inl rfl)⟩
            · exact .inl ⟨rep_nils hx, rep_slice hy (.inr (.inl ⟨_, _, _, _, rfl⟩))⟩
            · exact .inl ⟨rep_nils hx, rep_slice hy (.inr (.inr (.inl ⟨_, _, _, _, _, rfl⟩)))⟩
            · exact .inl ⟨rep_nils hx, rep_slice hy (.inr (.inr (.inr ⟨_, _, _, _, rfl⟩)))⟩
            · exact .inr ⟨rep_nils hy, rep_slice hx (.inr (.inl ⟨_, _, _, _, rfl⟩))⟩
            · exact .inr ⟨rep_nils hy, rep_slice hx (.inr (.inr (.inl ⟨_, _, _, _, _, rfl⟩)))⟩
            · exact .inr ⟨rep_nils hy, rep_slice hx (.inr (.inr (.inr ⟨_, _, _, _, rfl⟩)))⟩
          obtain ⟨rfl, hcase⟩ := hcase
          split at hv
          · rcases hcase with ⟨e1, ad, l, c, e2⟩ | ⟨e1, ad, l, c, e2⟩ <;> rw [e1, e2] at fin <;> cases hv <;> refine fin (.bool false) (RepI.bool false) ?_
            · simp only [Sem.run_bind, guard_plain (P := C.P) (t := t) (x := x) (y := y) (u := .slice none 0 0) (v := .slice (some ad) l c) rfl (.inl (by intro e; cases e)) w, Result.andThen_ok, binOp, equal_eq, (equal_nil he w 9999 ad l c).1]; rfl
            · simp only [Sem.run_bind, guard_plain (P := C.P) (t := t) (x := x) (y := y) (u := .slice (some ad) l c) (v := .slice none 0 0) rfl (.inl (by intro e; cases e)) w, Result.andThen_ok, binOp, equal_eq, (equal_nil he w 9999 ad l c).2]; rfl
          · rcases hcase with ⟨e1, ad, l, c, e2⟩ | ⟨e1, ad, l, c, e2⟩ <;> rw [e1, e2] at fin <;> cases hv <;> refine fin (.bool true) (RepI.bool true) ?_
            · simp only [Sem.run_bind, guard_plain (P := C.P) (t := t) (x := x) (y := y) (u := .slice none 0 0) (v := .slice (some ad) l c) rfl (.inl (by intro e; cases e)) w, Result.andThen_ok, binOp, equal_eq, (equal_nil he w 9999 ad l c).1]; rfl
            · simp only [Sem.run_bind, guard_plain (P := C.P) (t := t) (x := x) (y := y) (u := .slice (some ad) l c) (v := .slice none 0 0) rfl (.inl (by intro e; cases e)) w, Result.andThen_ok, binOp, equal_eq, (equal_nil he w 9999 ad l c).2]; rfl
          · cases hv
        · cases hv
      · split at hv
        · cases hv
        · cases hv
        · rename_i u1 u2 n1 n2 h1 h2
          have e1 := toVal1_eq hx h1
          have e2 := toVal1_eq hy h2
          obtain ⟨r, hr, rfl⟩ := Option.map_eq_some_iff.1 hv
          have one : u1.oneCell' = true := by
            unfold toVal1 at h1
            split at h1 <;> cases h1 <;> rfl
          refine fin r ofVal1_repS' ?_
          rw [e1, e2]
          simp only [Sem.run_bind, guard_plain (P := C.P) (t := t) (x := x) (y := y) one (.inl (fun e => by subst e; exact n1 rfl)) w, Result.andThen_ok, quiet_run hr w]
        · cases hv
  · cases h
end
end Go.Fw
/- The operations (6): lengths, letters, parts, closures, elements. -/
namespace Go.Fw
open Go.RowKit

section
variable {C : Cx} {vb : FuncId → List V → List Blk → Option FOut} {f : FuncId} {ρ : Option Nat} {n : Nat} {o : Oper} {st : St} {α : Type} {k kp : V → St → Option α} {out : α}
  {B τ : Nat} {g : Gh} {a : Act} {w : World} {next : Act → World → Prop} {Q : Exit → Act → World → Prop}

theorem rep_imm {g : Gh} {τ d : Nat} {b : Bool} {m : Nat} {xs : List V} {u : Value} (h : RepS g τ d (.imm b m xs) u) : RepI g.mem (.imm b m xs) u := h

theorem op_len {c : Call} (ho : o.op = .call c) (hb : c.callee = .builtin .len) (h : vop C vb f o st k kp = some out) (hR : R B τ g st a w) (hk : Goes B τ g a w o.dst k out next) : o.wpIn (FW ρ) n C.P a w next Q := by
  unfold vop at h
  rw [ho] at h
  dsimp only at h
  rw [hb] at h
  dsimp only at h
  split at h
  · rename_i x t hx' ht
    obtain ⟨dx, hx⟩ := peek_rep hR x
    have ea : c.args = #[x] := by rw [← Array.toList_inj]; exact hx'
    have et : c.argTypes = #[t] := by rw [← Array.toList_inj]; exact ht
    have fin : ∀ m : Nat, k (.int .i64 m) st = some out → (Builtin.len_ #[t] o.type #[a.eval x]).run C.P w = .ok (.int .i64 m) w → o.wpIn (FW ρ) n C.P a w next Q := by
      intro m h hrun
      refine wp_value (by simp [ho]) (v := .int .i64 m) (w' := w) ?_ (hk (.int .i64 m) st g _ w (Later.refl ..) hR (RepI.int .i64 m) h)
      simp [execOp, ho, resolve, hb, ea, et, invoke, builtin, hrun]
    split at h
    · rename_i s hu hs
      rw [hs] at hx
      have ex := rep_str hx
      exact fin _ h (by rw [ex]; simp [Builtin.len_, run_underlying hu, goInt])
    · cases h
    · rename_i e hu hns
      split at h
      · rename_i m hm
        rcases slen_rep hx hm with ⟨ad, cp, eu⟩ | ⟨s, eu, hsz⟩
        · exact fin _ h (by rw [eu]; simp [Builtin.len_, run_underlying hu, goInt])
        · exfalso
          rw [eu] at hx
          generalize st.peek x = v at hx hm hns
          unfold slen at hm
          split at hm <;> first | cases hm | skip
          all_goals (simp only [RepS, RepA, RepC] at hx)
          · cases hx
          · cases hx
          · cases hx
          · rcases hx with ⟨_, _, _, _, _, _, e, _⟩ | ⟨_, _, _, e⟩ <;> cases e
          · rcases hx with ⟨_, _, _, e, _⟩ | ⟨_, _, _, e⟩ <;> cases e
          · exact hns _ rfl
      · cases h
    · cases h
  · cases h

theorem idx_some {α : Type} {xs : List α} {i : Int} {x : α} (h : idx xs i = some x) : 0 ≤ i ∧ i < xs.length ∧ xs[i.toNat]? = some x := by
  unfold idx at h
  split at h
  · rename_i h0
    have := (List.getElem?_eq_some_iff.1 h).1
    exact ⟨h0, by omega, h⟩
  · cases h

theorem op_index {t : TypeId} {x i : Operand} (ho : o.op = .index t x i) (h : vop C vb f o st k kp = some out) (hR : R B τ g st a w) (hk : Goes B τ g a w o.dst k out next) : o.wpIn (FW ρ) n C.P a w next Q := by
  obtain ⟨dx, hx⟩ := peek_rep hR x
  obtain ⟨di, hi⟩ := peek_rep hR i
  unfold vop at h
  rw [ho] at h
  dsimp only at h
  split at h
  case h_2 => cases h
  rename_i ht
  split at h
  · rename_i s kk j hs hj
    rw [hs] at hx; rw [hj] at hi
    have ex := rep_str hx
    have ei := rep_int hi
    obtain ⟨b, hb, h⟩ := bindO_eq h
    obtain ⟨h0, h1, h2⟩ := idx_some hb
    have hsz : s.data.toList.length = s.size := by rw [Array.length_toList]; rfl
    have hlt : j.toNat < s.size := by omega
    have hget : s[j.toNat]? = some b := by
      rw [Array.getElem?_toList] at h2
      have : s[j.toNat]? = s.data[j.toNat]? := by
        rw [getElem?_pos s j.toNat hlt, getElem?_pos s.data j.toNat hlt]; rfl
      rw [this]; exact h2
    refine wp_value (by simp [ho]) (v := .int .u8 b.toNat) (w' := w) ?_ (hk (.int .u8 b.toNat) st g _ w (Later.refl ..) hR (RepI.int .u8 b.toNat) h)
    simp [execOp, ho, Instr.index, ex, ei, asIntOf, run_underlying ht, h0, hget]
  · cases h

theorem op_field {t : TypeId} {x : Operand} {j : Nat} (ho : o.op = .field t x j) (h : vop C vb f o st k kp = some out) (hR : R B τ g st a w) (hk : Goes B τ g a w o.dst k out next) : o.wpIn (FW ρ) n C.P a w next Q := by
  unfold vop at h
  rw [ho] at h
  dsimp only at h
  split at h
  · rename_i fl hfl
    obtain ⟨fs, hu, hfs⟩ := fieldT_some hfl
    split at h
    · rename_i gg m hg hm
      split at h
      · rename_i cs hcs
        split at h
        · rename_i hle
          split at h
          · rename_i v hv
            obtain ⟨g', l1, hR', hrep⟩ := use_sound hR x
            have hx := hrep 0 0
            have hux : st.useV x = .agg (cs.map demote1) := by unfold St.useV; rw [hcs]; rfl
            rw [hux] at hx
            obtain ⟨us, eu, cu⟩ := cellsS hx
            have hl : us.length = cs.length := by have := cu.1; simpa using this.symm
            have hlen : (((cs.drop fl.offset).take m).map demote1).length = m := by simp; omega
            have h1 : gg = false → fl.offset < us.length ∧ 0 < m := by
              intro hgf
              rcases ofCells_some hv with ⟨e1, _⟩ | ⟨_, e1⟩
              · rw [hgf] at e1; cases e1
              · have : m = 1 := by rw [← hlen, e1]; rfl
                omega
            refine wp_value (by simp [ho]) (v := valT gg ((us.drop fl.offset).take m)) (w' := w) ?_ (hk v _ g' _ w l1 hR' ?_ h)
            · simp [execOp, ho, Instr.field, run_underlying hu, hfs, eu, asAgg, run_part hg hm us fl.offset h1 w]
            · refine rep_ofCells hv (by rw [hlen]; simp; omega) (fun jj y u hy hu' => ?_)
              rw [List.getElem?_map, takeDrop_get] at hy
              rw [takeDrop_get] at hu'
              split at hu'
              · rename_i hjm
                rw [if_pos hjm] at hy
                obtain ⟨c0, hc0, rfl⟩ := Option.map_eq_some_iff.1 hy
                obtain ⟨p, hp⟩ := cu.2 (fl.offset + jj) (demote1 c0) u (by rw [List.getElem?_map, hc0]; rfl) hu'
                exact hp.any (by cases c0 <;> rfl)
              · cases hu'
          · cases h
        · cases h
      · cases h
    · cases h
  · cases h
end
end Go.Fw
/- The operations (7): closures, elements, parts of slices. -/
namespace Go.Fw
open Go.RowKit

section
variable {B τ : Nat} {g : Gh} {st : St} {a : Act} {w : World}

theorem useAll_sound : ∀ (xs : List Operand) {g : Gh} {st : St}, R B τ g st a w → ∃ g', Later B τ g g' w w ∧ R B τ g' (st.useAll xs) a w ∧ g'.loc = g.loc
  | [], g, st, h => ⟨g, Later.refl .., h, rfl⟩
  | x :: xs, g, st, h => by
    obtain ⟨g1, l1, h1, e1⟩ := use_loc h x
    obtain ⟨g2, l2, h2, e2⟩ := useAll_sound xs h1
    exact ⟨g2, l1.trans l2, h2, e2.trans e1⟩
where
  use_loc {g : Gh} {st : St} (h : R B τ g st a w) (x : Operand) : ∃ g', Later B τ g g' w w ∧ R B τ g' (st.useS x) a w ∧ g'.loc = g.loc := by
    cases x with
    | tmp t =>
      have hm := h.mark t
      refine ⟨_, later_share h t, ?_, rfl⟩
      unfold St.useS
      dsimp only
      cases hl : isLin3 (getS st.fr t) with
      | true => rw [condB_true]; exact hm
      | false => rw [condB_false]; exact R.setSame hm (map3_of (fun _ h => mark1_of h) hl)
    | const v => exact ⟨g, Later.refl .., h, rfl⟩
    | global b => exact ⟨g, Later.refl .., h, rfl⟩
    | func f => exact ⟨g, Later.refl .., h, rfl⟩

/-- The demoted value stays what it is while others are marked. -/
theorem peek_useS (st : St) (x y : Operand) : map3 demote1 ((st.useS y).peek x) = map3 demote1 (st.peek x) := by
  have hdm : ∀ v, demote1 (mark1 v) = demote1 v := by intro v; cases v <;> rfl
  have hdm2 : ∀ v, map2 demote1 (map2 mark1 v) = map2 demote1 v := by
    intro v
    by_cases ha : ∃ vs, v = .agg vs
    · obtain ⟨vs, rfl⟩ := ha
      simp only [map2, List.map_map]
      congr 1
      exact List.map_congr_left (fun v _ => hdm v)
    · cases v <;> first | exact absurd ⟨_, rfl⟩ ha | rfl
  have hdm3 : ∀ v, map3 demote1 (map3 mark1 v) = map3 demote1 v := by
    intro v
    by_cases ha : ∃ vs, v = .tup vs
    · obtain ⟨vs, rfl⟩ := ha
      simp only [map3, List.map_map]
      congr 1
      exact List.map_congr_left (fun v _ => hdm2 v)
    · obtain ⟨a1, a2⟩ := map3_notTup isCell_mark1 (fun vs e => ha ⟨vs, e⟩)
      obtain ⟨b1, _⟩ := map3_notTup isCell_demote1 (fun vs e => ha ⟨vs, e⟩)
      obtain ⟨c1, _⟩ := map3_notTup isCell_demote1 a2
      rw [a1, b1, c1]
      exact hdm2 _
  cases y with
  | tmp t =>
    simp only [St.useS]
    cases hl : isLin3 (getS st.fr t) with
    | false => rw [condB_false]
    | true =>
      rw [condB_true]
      cases x with
      | tmp s =>
        simp only [St.peek]
        by_cases hst : t = s
        · subst hst
          by_cases hlt : t < st.fr.length
          · rw [getS_eq (List.getElem?_set_self hlt)]
            exact hdm3 _
          · have e : st.fr.set t (map3 mark1 (getS st.fr t)) = st.fr := List.set_eq_of_length_le (Nat.le_of_not_lt hlt)
            rw [e]
        · simp only [getS, List.getD_eq_getElem?_getD, List.getElem?_set_ne hst]
      | const v => rfl
      | global b => rfl
      | func f => rfl
  | const v => rfl
  | global b => rfl
  | func f => rfl
theorem useV_useS (st : St) (x y : Operand) : (st.useS y).useV x = st.useV x := peek_useS st x y

theorem isLin1_demote (v : V) : isLin1 (demote1 v) = false := by cases v <;> rfl
theorem isLin2_demote (v : V) : isLin2 (map2 demote1 v) = false := by
  cases v <;> first | rfl | skip
  simp only [map2, isLin2, List.any_map]
  rw [List.any_eq_false]
  intro x _
  simp [isLin1_demote]
theorem isLin3_demote (v : V) : isLin3 (map3 demote1 v) = false := by
  by_cases ha : ∃ vs, v = .tup vs
  · obtain ⟨vs, rfl⟩ := ha
    simp only [map3, isLin3, List.any_map]
    rw [List.any_eq_false]
    intro x _
    simp [isLin2_demote]
  · obtain ⟨b1, b2⟩ := map3_notTup isCell_demote1 (fun vs e => ha ⟨vs, e⟩)
    rw [b1]
    have := isLin2_demote v
    cases hm : map2 demote1 v <;> rw [hm] at this b2 <;> first | exact this | exact absurd rfl (b2 _)
theorem RepA.any {g : Gh} {pl pl' : Nat → Place} {v : V} {u : Value} (hv : isLin2 v = false) (h : RepA g pl v u) : RepA g pl' v u := by
  by_cases ha : ∃ vs, v = .agg vs
  · obtain ⟨vs, rfl⟩ := ha
    obtain ⟨cs, e, h1, h2⟩ := h
    refine ⟨cs, e, h1, fun j c hj hc => (h2 j c hj hc).any ?_⟩
    simp only [isLin2] at hv
    rw [List.any_eq_false] at hv
    exact Bool.eq_false_iff.2 (hv c (List.mem_of_getElem? hc))
  · rcases repA_inv h with e | h | h
    · subst e; trivial
    · exact repA_cell (h.any (by cases v <;> first | exact hv | exact absurd ⟨_, rfl⟩ ha))
    · exact absurd h ha
theorem RepS.any {g : Gh} {τ d τ' d' : Nat} {v : V} {u : Value} (hv : isLin3 v = false) (h : RepS g τ d v u) : RepS g τ' d' v u := by
  by_cases ha : ∃ vs, v = .tup vs
  · obtain ⟨vs, rfl⟩ := ha
    obtain ⟨cs, e, h1, h2⟩ := h
    refine ⟨cs, e, h1, fun j c hj hc => (h2 j c hj hc).any ?_⟩
    simp only [isLin3] at hv
    rw [List.any_eq_false] at hv
    exact Bool.eq_false_iff.2 (hv c (List.mem_of_getElem? hc))
  · have hv' : ∀ vs, v ≠ .tup vs := fun vs e => ha ⟨vs, e⟩
    rw [repS_notTup hv'] at h ⊢
    exact h.any (by cases v <;> first | exact hv | exact absurd rfl (hv' _))

/-- Several copies at once. -/
theorem uses_sound : ∀ (xs : List Operand) {g : Gh} {st : St}, R B τ g st a w → ∃ g', Later B τ g g' w w ∧ R B τ g' (st.useAll xs) a w ∧ ∀ (j : Nat) (x : Operand), xs[j]? = some x → ∀ τ' d, RepS g' τ' d (st.useV x) (a.eval x)
  | [], g, st, h => ⟨g, Later.refl .., h, fun j x hx => by cases hx⟩
  | x :: xs, g, st, h => by
    obtain ⟨g1, l1, h1, e1⟩ := use_sound h x
    obtain ⟨g2, l2, h2, e2⟩ := uses_sound xs h1
    refine ⟨g2, l1.trans l2, h2, fun j y hy τ' d => ?_⟩
    cases j with
    | zero =>
      cases hy
      have h1 := (e1 (τ + 1) d).mono l2.mem l2.loc (fun j k b x hx hp => l2.lin b x hx ⟨τ + 1, _, _, _, hp, by omega⟩)
      exact h1.any (isLin3_demote _)
    | succ j =>
      have := e2 j y hy τ' d
      rwa [useV_useS] at this
end
end Go.Fw
/- The operations (8): closures, elements, parts of slices, new slices. -/
namespace Go.Fw
open Go.RowKit

section
variable {C : Cx} {vb : FuncId → List V → List Blk → Option FOut} {f : FuncId} {ρ : Option Nat} {n : Nat} {o : Oper} {st : St} {α : Type} {k kp : V → St → Option α} {out : α}
  {B τ : Nat} {g : Gh} {a : Act} {w : World} {next : Act → World → Prop} {Q : Exit → Act → World → Prop}

theorem RepC.repP {g : Gh} {p : Place} {v : V} {u : Value} (h : RepC g p v u) (hv : capOk v = true) : RepP g v u := by
  cases v <;> simp only [capOk] at hv <;> first | exact h | cases hv | skip
  simp only [Bool.and_eq_true, List.isEmpty_iff] at hv
  obtain ⟨rfl, rfl⟩ := hv
  obtain ⟨x, y, rfl, h1, h2, _, _⟩ := h
  exact RepI.fn _ _ _ _ _ h1 h2 (fun j c hj hc => by cases hc) (fun j c hj hc => by cases hc)
theorem repS_cell {g : Gh} {τ d : Nat} {v : V} {u : Value} (h : RepS g τ d v u) (hc : isCell v = true) (hu : v ≠ .undef) : RepC g (.slot τ d 0 0) v u := by
  rw [repS_notTup (by intro vs e; subst e; cases hc)] at h
  rcases repA_inv h with e | h | ⟨vs, e⟩
  · exact absurd e hu
  · exact h
  · subst e; cases hc

theorem op_makeFunc {fn' : Fn} {first caps : Array Operand} (ho : o.op = .makeFunc fn' first caps) (h : vop C vb f o st k kp = some out) (hR : R B τ g st a w) (hk : Goes B τ g a w o.dst k out next) : o.wpIn (FW ρ) n C.P a w next Q := by
  unfold vop at h
  rw [ho] at h
  dsimp only at h
  split at h
  · rename_i hok
    obtain ⟨g', l1, hR', hrep⟩ := uses_sound (first.toList ++ caps.toList) hR
    have cap : ∀ (x : Operand), capOk (st.useV x) = true → (∃ j : Nat, (first.toList ++ caps.toList)[j]? = some x) → RepP g' (st.useV x) (a.eval x) := by
      intro x hx ⟨j, hj⟩
      have := hrep j x hj 0 0
      refine (repS_cell this ?_ ?_).repP hx
      · cases hv : st.useV x <;> rw [hv] at hx <;> first | rfl | cases hx
      · intro e; rw [e] at hx; cases hx
    simp only [Bool.and_eq_true, List.all_eq_true] at hok
    refine wp_value (by simp [ho]) (v := .func fn' (first.map a.eval) (caps.map a.eval)) (w' := w) (by simp [execOp, ho, Instr.makeFunc]) (hk _ _ g' _ w l1 hR' ?_ h)
    refine ⟨first.map a.eval, caps.map a.eval, rfl, by simp, by simp, fun j c hj hc => ?_, fun j c hj hc => ?_⟩
    · rw [List.getElem?_map] at hc
      obtain ⟨x, hx, rfl⟩ := Option.map_eq_some_iff.1 hc
      have hj' : j < first.size := by simpa using hj
      have e : first[j] = x := by
        rw [Array.getElem?_toList, Array.getElem?_eq_getElem hj'] at hx
        exact Option.some.inj hx
      rw [Array.getElem_map, e]
      exact cap x (hok.1 _ (List.mem_map.2 ⟨x, List.mem_of_getElem? hx, rfl⟩)) ⟨j, by rw [List.getElem?_append_left (by simpa using hj')]; exact hx⟩
    · rw [List.getElem?_map] at hc
      obtain ⟨x, hx, rfl⟩ := Option.map_eq_some_iff.1 hc
      have hj' : j < caps.size := by simpa using hj
      have e : caps[j] = x := by
        rw [Array.getElem?_toList, Array.getElem?_eq_getElem hj'] at hx
        exact Option.some.inj hx
      rw [Array.getElem_map, e]
      exact cap x (hok.2 _ (List.mem_map.2 ⟨x, List.mem_of_getElem? hx, rfl⟩)) ⟨first.toList.length + j, by rw [List.getElem?_append_right (by omega)]; simpa using hx⟩
  · cases h

theorem bindT {P : Program} {t : TypeId} {m : Nat} (h : (elemT P t).bind (sizeT P) = some m) : ∃ e, P.underlying t = some (.slice e) ∧ sizeT P e = some m := by
  obtain ⟨e, he, hm⟩ := Option.bind_eq_some_iff.1 h
  exact ⟨e, sliceT he, hm⟩

theorem repI_elem {m : Mem} {full : Bool} {esz : Nat} {xs : List V} {u : Value} (h : RepI m (.imm full esz xs) u) {i : Nat} {e : V} (he : xs[i]? = some e) :
    ∃ b off cap, u = .slice (some ⟨b, off, none⟩) xs.length cap ∧ RepI m (.iptr e 0) (.pointer (some ⟨b, off + i * esz, none⟩)) := by
  cases h with
  | none0 => simp at he
  | imm _ _ b off cap _ val hc hf hm hz hl hs hv sp hp =>
    have hlt := (List.getElem?_eq_some_iff.1 he).1
    have hsp : sp = none := by
      rcases hp with h | h
      · exact h
      · omega
    subst hsp
    refine ⟨b, off, cap, rfl, ?_⟩
    have := RepI.iptr e 0 b (off + i * esz) (fun j => val i j) (fun j c hj => hs i e j c he hj) (fun j c hj => hv i e j c he hj)
    simpa using this

theorem run_indexAt {P : Program} {t e : TypeId} {m : Nat} (ht : P.underlying t = some (.slice e)) (hm : sizeT P e = some m) (b off len cap : Nat) (kk : IntKind) (i : Int) (h0 : 0 ≤ i) (h1 : i < len) (w : World) :
    (Instr.indexAt t (.slice (some ⟨b, off, none⟩) len cap) (.int kk i)).run P w = .ok (.pointer (some ⟨b, off + i.toNat * m, none⟩)) w := by
  simp [Instr.indexAt, asIntOf, run_underlying ht, h0, h1, sizeT_some hm w, addr_add]

theorem op_indexAddr {t : TypeId} {x i : Operand} (ho : o.op = .indexAddr t x i) (h : vop C vb f o st k kp = some out) (hR : R B τ g st a w) (hk : Goes B τ g a w o.dst k out next) : o.wpIn (FW ρ) n C.P a w next Q := by
  obtain ⟨dx, hx⟩ := peek_rep hR x
  obtain ⟨di, hi⟩ := peek_rep hR i
  unfold vop at h
  rw [ho] at h
  dsimp only at h
  split at h
  · rename_i kk j hj
    rw [hj] at hi
    have ei := rep_int hi
    split at h
    · rename_i full m xs hp
      rw [hp] at hx
      split at h
      · rename_i hb
        obtain ⟨e, ht, hm⟩ := bindT hb
        obtain ⟨v, hv, h⟩ := bindO_eq h
        obtain ⟨h0, h1, h2⟩ := idx_some hv
        obtain ⟨b, off, cap, eu, hrep⟩ := repI_elem hx h2
        exact wp_value (by simp [ho]) (by simp [execOp, ho, eu, ei, run_indexAt ht hm b off xs.length cap kk j h0 h1 w]) (hk (.iptr v 0) st g _ w (Later.refl ..) hR hrep h)
      · cases h
    · rename_i pr et m xs hp
      split at h
      · rename_i hb
        obtain ⟨e, ht, hm⟩ := bindT hb
        obtain ⟨v, hv, h⟩ := bindO_eq h
        obtain ⟨h0, h1, h2⟩ := idx_some hv
        obtain ⟨g', l1, hR', hrep'⟩ := use_sound hR x
        have hx' := hrep' 0 0
        have hux : st.useV x = .imm false m xs := by unfold St.useV; rw [hp]; rfl
        rw [hux] at hx'
        obtain ⟨b, off, cap, eu, hrep⟩ := repI_elem hx' h2
        exact wp_value (by simp [ho]) (by simp [execOp, ho, eu, ei, run_indexAt ht hm b off xs.length cap kk j h0 h1 w]) (hk (.iptr v 0) _ g' _ w l1 hR' hrep h)
      · cases h
    · rename_i id off len room hp
      rw [hp] at hx
      split at h
      · rename_i m hb
        obtain ⟨e, ht, hm⟩ := bindT hb
        rcases condB_cases h with ⟨hc, h⟩ | ⟨_, h⟩
        · simp only [decide_eq_true_eq] at hc
          rcases hx with ⟨b, cap, hl, eu, _⟩ | ⟨h0, _⟩
          rotate_left
          · exfalso; omega
          exact wp_value (by simp [ho]) (by simp [execOp, ho, eu, ei, run_indexAt ht hm b off len cap kk j hc.1 hc.2 w]) (hk (.ptr id (off + j.toNat * m)) st g _ w (Later.refl ..) hR ⟨b, hl, rfl⟩ h)
        · cases h
      · cases h
    · cases h
  · cases h

/-! ### a part of a slice -/
theorem run_slice_gen {P : Program} {t e : TypeId} {m : Nat} (ht : P.underlying t = some (.slice e)) (hm : sizeT P e = some m) (ad : Option Addr) (len cap l h mx : Nat) (hl : l ≤ h) (hh : h ≤ mx) (hmx : mx ≤ cap)
    (lo hi mo : Option Value) (h1 : (lo = none ∧ l = 0) ∨ ∃ kk, lo = some (.int kk l)) (h2 : (hi = none ∧ h = len ∧ mo = none) ∨ ∃ kk, hi = some (.int kk h)) (h3 : (mo = none ∧ mx = cap) ∨ ∃ kk, mo = some (.int kk mx)) (w : World) :
    (Instr.sliceAt t (.slice ad len cap) lo hi mo).run P w = .ok (sliced ad l h mx m) w := by
  have hel : P.elem t = e := by simp [Program.elem, ht]
  have ht' : P.underlying t = some (.slice (P.elem t)) := by rw [hel]; exact ht
  rw [run_sliceAt_slice w t _ _ _ _ ht', run_slice_any w t ad len cap ht']
  rw [hel]
  simp only [Instr.sliceBounds]
  rcases h1 with ⟨rfl, rfl⟩ | ⟨k1, rfl⟩ <;> rcases h2 with ⟨rfl, rfl, rfl⟩ | ⟨k2, rfl⟩ <;> rcases h3 with ⟨h3a, rfl⟩ | ⟨k3, h3a⟩ <;> (try subst h3a) <;> (try cases h3a) <;>
    simp [run_sliceBound, sizeT_some hm, hl, hh, hmx, Int.ofNat_le]

theorem rep_part {m : Mem} {full full' : Bool} {esz : Nat} {xs : List V} {u : Value} (hr : RepI m (.imm full esz xs) u) {l h mx len cap : Nat} {ad : Option Addr} (eu : u = .slice ad len cap) (hl : l ≤ h) (hh : h ≤ xs.length) (hmx : h ≤ mx) (hmc : mx ≤ cap) (hf : full' = true → mx = h) :
    RepI m (.imm full' esz ((xs.take h).drop l)) (sliced ad l h mx esz) ∧ len = xs.length := by
  cases hr with
  | none0 _ _ hz =>
    cases eu
    have e1 : h = 0 := by simpa using hh
    subst e1
    obtain rfl : l = 0 := by omega
    obtain rfl : mx = 0 := by omega
    exact ⟨repI_empty hz none, rfl⟩
  | imm _ _ b off cap0 _ val hc hf0 hm hz hlx hs hv sp hp =>
    cases eu
    have hlen : ((xs.take h).drop l).length = h - l := by simp; omega
    refine ⟨?_, rfl⟩
    unfold sliced
    have hget : ∀ (i : Nat) (x : V), ((xs.take h).drop l)[i]? = some x → xs[l + i]? = some x := by
      intro i x hi
      rw [List.getElem?_drop, List.getElem?_take] at hi
      split at hi
      · exact hi
      · cases hi
    by_cases hml : mx = l
    · rw [if_pos hml]
      have e0 : (xs.take h).drop l = [] := by apply List.eq_nil_of_length_eq_zero; omega
      rw [e0, show h - l = 0 by omega, show mx - l = 0 by omega]
      exact RepI.imm full' [] b off 0 esz (fun _ _ => default) (Nat.le_refl 0) (fun _ => rfl) (by simp [maxLen]) hz (fun i x hx => by cases hx) (fun i x j c hx => by cases hx) (fun i x j c hx => by cases hx) sp (.inr rfl)
    · have hsp : sp = none := by
        rcases hp with h | h
        · exact h
        · omega
      subst hsp
      rw [if_neg hml]
      simp only [Option.map_some, addr_add]
      have := RepI.imm (m := m) full' ((xs.take h).drop l) b (off + l * esz) (mx - l) esz (fun i j => val (l + i) j) (by rw [hlen]; omega) (fun hft => by rw [hlen, hf hft]) (by omega) hz
        (fun i x hx => hlx _ x (hget i x hx))
        (fun i x j c hx hj => by
          obtain ⟨h1, h2⟩ := hs _ x j c (hget i x hx) hj
          refine ⟨h1, ?_⟩
          rw [← h2]; congr 1; rw [Nat.add_mul]; omega)
        (fun i x j c hx hj => hv _ x j c (hget i x hx) hj)
      rwa [hlen] at this
end
end Go.Fw
/- The operations (9): parts of slices and texts. -/
namespace Go.Fw
open Go.RowKit

section
variable {C : Cx} {vb : FuncId → List V → List Blk → Option FOut} {f : FuncId} {ρ : Option Nat} {n : Nat} {o : Oper} {st : St} {α : Type} {k kp : V → St → Option α} {out : α}
  {B τ : Nat} {g : Gh} {a : Act} {w : World} {next : Act → World → Prop} {Q : Exit → Act → World → Prop}

theorem optInt_sound (h : R B τ g st a w) {y : Option Operand} {r : Option Int} (hr : optInt id (y.map st.peek) = some r) : (y = none ∧ r = none) ∨ ∃ x i kk, y = some x ∧ r = some i ∧ a.eval x = .int kk i := by
  cases y with
  | none => simp only [optInt, Option.map_none] at hr; cases hr; exact .inl ⟨rfl, rfl⟩
  | some x =>
    simp only [optInt, Option.map_some, id] at hr
    obtain ⟨i, hi, rfl⟩ := Option.map_eq_some_iff.1 hr
    obtain ⟨d, hd⟩ := peek_rep h x
    generalize st.peek x = v at hi hd
    cases v <;> simp only [intOf?] at hi <;> cases hi
    exact .inr ⟨x, _, _, rfl, rfl, rep_int hd⟩

theorem run_slice_str {P : Program} {t : TypeId} (ht : P.underlying t = some .string) (s : ByteArray) (l h : Nat) (hl : l ≤ h) (hh : h ≤ s.size)
    (lo hi : Option Value) (h1 : (lo = none ∧ l = 0) ∨ ∃ kk, lo = some (.int kk l)) (h2 : (hi = none ∧ h = s.size) ∨ ∃ kk, hi = some (.int kk h)) (w : World) :
    (Instr.sliceAt t (.string s) lo hi none).run P w = .ok (.string (s.extract l h)) w := by
  rw [run_sliceAt_string w t _ _ _ _ ht]
  simp only [Instr.slice, Sem.run_bind, run_underlying ht, Result.andThen_ok]
  simp only [Instr.sliceBounds]
  rcases h1 with ⟨rfl, rfl⟩ | ⟨k1, rfl⟩ <;> rcases h2 with ⟨rfl, rfl⟩ | ⟨k2, rfl⟩ <;>
    simp [run_sliceBound, hl, hh, Int.ofNat_le]

theorem op_slice_own {t : TypeId} {x : Operand} {lo hi mx : Option Operand} {bid off len room : Nat} (ho : o.op = .slice t x lo hi mx) (hp : st.peek x = .own bid off len room)
    (h : (match optInt id (lo.map st.peek), optInt id (hi.map st.peek), optInt id (mx.map st.peek), (elemT C.P t).bind (sizeT C.P) with
      | some l, some h, some m, some sz => if mx.isSome && hi.isNone then none else condB (decide (0 ≤ l.getD 0 ∧ l.getD 0 ≤ h.getD len ∧ h.getD len ≤ m.getD (max len room) ∧ m.getD (max len room) ≤ (max len room : Nat)))
          (k (.own bid (off + (l.getD 0).toNat * sz) ((h.getD len).toNat - (l.getD 0).toNat) ((m.getD (max len room)).toNat - (l.getD 0).toNat)) st) none
      | _, _, _, _ => none) = some out) (hR : R B τ g st a w) (hk : Goes B τ g a w o.dst k out next) : o.wpIn (FW ρ) n C.P a w next Q := by
  split at h
  · rename_i l0 h0 m0 sz hl0 hh0 hm0 hsz
    have sl := optInt_sound hR hl0
    have sh := optInt_sound hR hh0
    have sm := optInt_sound hR hm0
    split at h
    · cases h
    · rename_i hmh
      rcases condB_cases h with ⟨hc, h⟩ | ⟨_, h⟩
      · simp only [decide_eq_true_eq] at hc
        obtain ⟨c0, c1, c2, c3⟩ := hc
        obtain ⟨e, ht, hm⟩ := bindT hsz
        obtain ⟨L, eL⟩ := Int.eq_ofNat_of_zero_le c0
        obtain ⟨H, eH⟩ := Int.eq_ofNat_of_zero_le (Int.le_trans c0 c1)
        obtain ⟨M, eM⟩ := Int.eq_ofNat_of_zero_le (Int.le_trans (Int.le_trans c0 c1) c2)
        rw [eL, eH, eM] at h
        rw [eL, eH] at c1
        rw [eH, eM] at c2
        rw [eM] at c3
        simp only [Int.toNat_natCast] at h
        have hLH : L ≤ H := by omega
        have hHM : H ≤ M := by omega
        have hMc : M ≤ max len room := by omega
        have e1 : (lo.map a.eval = none ∧ L = 0) ∨ ∃ kk, lo.map a.eval = some (.int kk L) := by
          rcases sl with ⟨rfl, rfl⟩ | ⟨y, i, kk, rfl, rfl, ey⟩
          · left; simp at eL ⊢; omega
          · right; simp at eL; subst eL; exact ⟨kk, by simp [ey]⟩
        have e2 : (hi.map a.eval = none ∧ H = len ∧ mx.map a.eval = none) ∨ ∃ kk, hi.map a.eval = some (.int kk H) := by
          rcases sh with ⟨rfl, rfl⟩ | ⟨y, i, kk, rfl, rfl, ey⟩
          · left
            simp at eH
            refine ⟨rfl, by omega, ?_⟩
            cases mx with
            | none => rfl
            | some z => simp at hmh
          · right; simp at eH; subst eH; exact ⟨kk, by simp [ey]⟩
        obtain ⟨dx, hx⟩ := peek_rep hR x
        rw [hp] at hx
        have fin : ∀ (ad : Option Addr) (cap Mr : Nat), a.eval x = .slice ad len cap → H ≤ Mr → Mr ≤ cap → ((mx.map a.eval = none ∧ Mr = cap) ∨ ∃ kk, mx.map a.eval = some (.int kk Mr)) → RepS g τ (o.dst.getD 0) (.own bid (off + L * sz) (H - L) (M - L)) (sliced ad L H Mr sz) → o.wpIn (FW ρ) n C.P a w next Q := by
          intro ad cap Mr eu q1 q2 q3 hr
          refine wp_value (by simp [ho]) (v := sliced ad L H Mr sz) (w' := w) ?_ (hk _ st g _ w (Later.refl ..) hR hr h)
          have hrun := run_slice_gen (P := C.P) ht hm ad len cap L H Mr hLH q1 q2 _ _ _ e1 e2 q3 w
          rw [← eu] at hrun
          simp [execOp, ho, hrun]
        rcases hx with ⟨b, cap, hl, eu, hlc, hcm, hrm⟩ | ⟨rfl, rfl, ad, eu⟩
        · have hcap : max len room ≤ cap := by omega
          obtain ⟨Mr, r1, r2, r3, r4⟩ : ∃ Mr, H ≤ Mr ∧ Mr ≤ cap ∧ ((mx.map a.eval = none ∧ Mr = cap) ∨ ∃ kk, mx.map a.eval = some (.int kk Mr)) ∧ M ≤ Mr := by
            rcases sm with ⟨rfl, rfl⟩ | ⟨y, i, kk, rfl, rfl, ey⟩
            · exact ⟨cap, by omega, Nat.le_refl _, .inl ⟨rfl, rfl⟩, by omega⟩
            · simp at eM; subst eM; exact ⟨M, hHM, by omega, .inr ⟨kk, by simp [ey]⟩, Nat.le_refl _⟩
          refine fin _ cap Mr eu r1 r2 r3 ?_
          unfold sliced
          by_cases hml : Mr = L
          · rw [if_pos hml]
            exact .inr ⟨by omega, by omega, _, by rw [show H - L = 0 by omega, show Mr - L = 0 by omega]⟩
          · rw [if_neg hml]
            simp only [Option.map_some, addr_add]
            exact .inl ⟨b, Mr - L, hl, rfl, by omega, by omega, by omega⟩
        · have hM0 : M = 0 := by simpa using hMc
          obtain rfl : H = 0 := by omega
          obtain rfl : L = 0 := by omega
          subst hM0
          obtain ⟨Mr, r1, r3⟩ : ∃ Mr : Nat, Mr = 0 ∧ ((mx.map a.eval = none ∧ Mr = 0) ∨ ∃ kk, mx.map a.eval = some (.int kk Mr)) := by
            rcases sm with ⟨rfl, rfl⟩ | ⟨y, i, kk, rfl, rfl, ey⟩
            · exact ⟨0, rfl, .inl ⟨rfl, rfl⟩⟩
            · simp at eM; subst eM; exact ⟨0, rfl, .inr ⟨kk, by simp [ey]⟩⟩
          subst r1
          refine fin ad 0 0 eu (Nat.le_refl _) (Nat.le_refl _) r3 ?_
          exact .inr ⟨rfl, rfl, ad, by simp [sliced]⟩
      · cases h
  · cases h

theorem op_slice {t : TypeId} {x : Operand} {lo hi mx : Option Operand} (ho : o.op = .slice t x lo hi mx) (h : vop C vb f o st k kp = some out) (hR : R B τ g st a w) (hk : Goes B τ g a w o.dst k out next) : o.wpIn (FW ρ) n C.P a w next Q := by
  unfold vop at h
  rw [ho] at h
  dsimp only at h
  split at h
  · rename_i bid off len room hp
    exact op_slice_own ho hp h hR hk
  rename_i hnown
  split at h
  · rename_i l0 h0 m0 hl0 hh0 hm0
    have sl := optInt_sound hR hl0
    have sh := optInt_sound hR hh0
    have sm := optInt_sound hR hm0
    split at h
    · rename_i r l hh nn v hv
      -- what is asked of the places
      have hcond : ∃ (_ : 0 ≤ l ∧ l ≤ hh ∧ hh ≤ nn) (_ : ∀ m, m0 = some m → m = hh), k v (st.useS x) = some out := by
        split at h
        · rcases condB_cases h with ⟨hc, h⟩ | ⟨_, h⟩
          · simp only [decide_eq_true_eq] at hc
            exact ⟨hc, (fun m hm => by cases hm), h⟩
          · cases h
        · rcases condB_cases h with ⟨hc, h⟩ | ⟨_, h⟩
          · simp only [decide_eq_true_eq] at hc
            exact ⟨⟨hc.1, hc.2.1, hc.2.2.1⟩, (fun m hm => by cases hm; exact hc.2.2.2), h⟩
          · cases h
      obtain ⟨⟨c0, c1, c2⟩, cm, h'⟩ := hcond
      obtain ⟨L, rfl⟩ := Int.eq_ofNat_of_zero_le c0
      obtain ⟨H, rfl⟩ := Int.eq_ofNat_of_zero_le (by omega : 0 ≤ hh)
      have hLH : L ≤ H := by omega
      have hHn : H ≤ nn := by omega
      obtain ⟨g', l1, hR', hrep⟩ := use_sound hR x
      have hx := hrep 0 0
      have hrun : ∀ u, (Instr.sliceAt t (a.eval x) (lo.map a.eval) (hi.map a.eval) (mx.map a.eval)).run C.P w = .ok u w → RepS g' τ (o.dst.getD 0) v u → o.wpIn (FW ρ) n C.P a w next Q := by
        intro u hr hu
        exact wp_value (by simp [ho]) (v := u) (w' := w) (by simp [execOp, ho, hr]) (hk v _ g' u w l1 hR' hu h')
      have e1 : l0.getD 0 = (L : Int) → (lo.map a.eval = none ∧ L = 0) ∨ ∃ kk, lo.map a.eval = some (.int kk L) := by
        intro e
        rcases sl with ⟨rfl, rfl⟩ | ⟨y, i, kk, rfl, rfl, ey⟩
        · left; simp at e ⊢; omega
        · right; simp at e; subst e; exact ⟨kk, by simp [ey]⟩
      unfold vslice at hv
      split at hv
      · cases hv
      · rename_i hmh
        have hmh' : mx ≠ none → hi ≠ none := by
          intro h1 h2
          subst h2
          rcases sh with ⟨_, rfl⟩ | ⟨y, i, kk, e, _⟩
          · rcases sm with ⟨e, _⟩ | ⟨y, i, kk, rfl, rfl, _⟩
            · exact h1 e
            · simp at hmh
          · cases e
        have e2 : ∀ len : Nat, h0.getD len = (H : Int) → (hi.map a.eval = none ∧ H = len ∧ mx.map a.eval = none) ∨ ∃ kk, hi.map a.eval = some (.int kk H) := by
          intro len e
          rcases sh with ⟨rfl, rfl⟩ | ⟨y, i, kk, rfl, rfl, ey⟩
          · left
            simp at e
            refine ⟨rfl, by omega, ?_⟩
            cases mx with
            | none => rfl
            | some z => exact absurd rfl (hmh' (by simp))
          · right; simp at e; subst e; exact ⟨kk, by simp [ey]⟩
        have e3 : ∀ cap : Nat, H ≤ cap → ∃ M : Nat, H ≤ M ∧ M ≤ cap ∧ ((mx.map a.eval = none ∧ M = cap) ∨ ∃ kk, mx.map a.eval = some (.int kk M)) ∧ (m0.isSome = true → M = H) ∧ (m0 = none → M = cap) := by
          intro cap hc
          rcases sm with ⟨rfl, rfl⟩ | ⟨y, i, kk, rfl, rfl, ey⟩
          · exact ⟨cap, hc, Nat.le_refl _, .inl ⟨rfl, rfl⟩, (fun h => by cases h), fun _ => rfl⟩
          · have := cm i rfl
            subst this
            exact ⟨H, Nat.le_refl _, hc, .inr ⟨kk, by simp [ey]⟩, (fun _ => rfl), (fun h => by cases h)⟩
        split at hv
        · -- nil
          rename_i e ht hp
          split at hv
          · rename_i hsz
            simp only [Option.some.injEq, Prod.mk.injEq] at hv
            obtain ⟨v1, v2, rfl, rfl⟩ := hv
            obtain ⟨m, hm⟩ := Option.isSome_iff_exists.1 hsz
            have hH : H = 0 := by omega
            subst hH
            have hL : L = 0 := by omega
            subst hL
            have hux : a.eval x = .slice none 0 0 := by
              obtain ⟨d, hd⟩ := peek_rep hR x
              rw [hp] at hd
              exact rep_nils hd
            obtain ⟨M, m1, m2, m3, _, _⟩ := e3 0 (Nat.le_refl _)
            have hM : M = 0 := by omega
            subst hM
            refine hrun (.slice none 0 0) ?_ (RepI.nils)
            rw [hux, run_slice_gen (P := C.P) ht hm none 0 0 0 0 0 (Nat.le_refl _) (Nat.le_refl _) (Nat.le_refl _) (lo.map a.eval) (hi.map a.eval) (mx.map a.eval) (e1 v1) (e2 0 (by cases h0 <;> simp_all)) m3 w]
            rfl
          · cases hv
        · rename_i e full m xs ht hp
          split at hv
          · rename_i hm
            simp only [Option.some.injEq, Prod.mk.injEq] at hv
            obtain ⟨v1, v2, rfl, ev⟩ := hv
            rw [show st.useV x = .imm full m xs by unfold St.useV; rw [hp]; rfl] at hx
            have hi' := rep_imm hx
            obtain ⟨ad, cap, eu, hcl, hfl⟩ : ∃ ad cap, a.eval x = .slice ad xs.length cap ∧ xs.length ≤ cap ∧ (full = true → cap = xs.length) := by
              generalize a.eval x = u at hi'
              cases hi' with
              | imm _ _ b off cap _ val hc hf => exact ⟨_, cap, rfl, hc, hf⟩
              | none0 => exact ⟨none, 0, rfl, Nat.le_refl _, fun _ => rfl⟩
            obtain ⟨M, m1, m2, m3, m4, m5⟩ := e3 cap (by omega)
            have hres := rep_part (full' := m0.isSome || (full && h0.isNone)) hi' eu hLH hHn m1 m2 (by
              intro hff
              simp only [Bool.or_eq_true, Bool.and_eq_true] at hff
              rcases hff with hff | ⟨hff, hn⟩
              · exact m4 hff
              · cases m0 with
                | some z => exact m4 rfl
                | none =>
                  have hnn : h0 = none := by cases h0 <;> simp_all
                  subst hnn
                  simp at v2
                  rw [m5 rfl, hfl hff]; omega)
            refine hrun (sliced ad L H M m) ?_ ?_
            · rw [eu]
              exact run_slice_gen (P := C.P) ht hm _ xs.length cap L H M hLH m1 m2 _ _ _ (e1 v1) (e2 xs.length v2) m3 w
            · rw [← ev, v1, v2, Int.toNat_natCast, Int.toNat_natCast]
              exact hres.1
          · cases hv
        · rename_i e pr et m xs ht hp
          split at hv
          · rename_i hm
            simp only [Option.some.injEq, Prod.mk.injEq] at hv
            obtain ⟨v1, v2, rfl, ev⟩ := hv
            rw [show st.useV x = .imm false m xs by unfold St.useV; rw [hp]; rfl] at hx
            have hi' := rep_imm hx
            obtain ⟨ad, cap, eu, hcl, hfl⟩ : ∃ ad cap, a.eval x = .slice ad xs.length cap ∧ xs.length ≤ cap ∧ (false = true → cap = xs.length) := by
              generalize a.eval x = u at hi'
              cases hi' with
              | imm _ _ b off cap _ val hc hf => exact ⟨_, cap, rfl, hc, hf⟩
              | none0 => exact ⟨none, 0, rfl, Nat.le_refl _, fun _ => rfl⟩
            obtain ⟨M, m1, m2, m3, m4, m5⟩ := e3 cap (by omega)
            have hres := rep_part (full' := m0.isSome) hi' eu hLH hHn m1 m2 (by
              intro hff; exact m4 hff)
            refine hrun (sliced ad L H M m) ?_ ?_
            · rw [eu]
              exact run_slice_gen (P := C.P) ht hm _ xs.length cap L H M hLH m1 m2 _ _ _ (e1 v1) (e2 xs.length v2) m3 w
            · rw [← ev, v1, v2, Int.toNat_natCast, Int.toNat_natCast]
              exact hres.1
          · cases hv
        · rename_i s ht hp
          split at hv
          · rename_i hmn
            simp only [Option.some.injEq, Prod.mk.injEq] at hv
            obtain ⟨v1, v2, rfl, ev⟩ := hv
            have hux : a.eval x = .string s := by
              obtain ⟨d, hd⟩ := peek_rep hR x
              rw [hp] at hd
              exact rep_str hd
            have hmx : mx = none := by
              rcases sm with ⟨e, _⟩ | ⟨y, i, kk, _, e, _⟩
              · exact e
              · subst e; cases hmn
            subst hmx
            refine hrun (.string (s.extract L H)) ?_ ?_
            · rw [hux]
              refine run_slice_str (P := C.P) ht s L H hLH hHn (lo.map a.eval) (hi.map a.eval) (e1 v1) ?_ w
              rcases e2 s.size v2 with ⟨h1, h2, _⟩ | h1
              · exact .inl ⟨h1, h2⟩
              · exact .inr h1
            · rw [← ev, v1, v2, Int.toNat_natCast, Int.toNat_natCast]
              exact RepI.str _
          · cases hv
        · cases hv
    · cases h
  · cases h
end
end Go.Fw
/- The operations (10): structs, slices that are written out, slices that are made. -/
namespace Go.Fw
open Go.RowKit

/-! ### the model's 'fill' -/
theorem foldl_set (off : Nat) : ∀ (l : List Value) (i : Nat) (cells : Array Value), off + i + l.length ≤ cells.size →
    let r := (l.zipIdx i).foldl (fun cs (c, j) => cs.setIfInBounds (off + j) c) cells
    r.size = cells.size ∧ ∀ p, r[p]? = if off + i ≤ p ∧ p < off + i + l.length then l[p - (off + i)]? else cells[p]?
  | [], i, cells, _ => ⟨rfl, fun p => by simp only [List.zipIdx_nil, List.foldl_nil, List.length_nil]; rw [if_neg (by omega)]⟩
  | c :: l, i, cells, h => by
    simp only [List.length_cons] at h
    have ih := foldl_set off l (i + 1) (cells.setIfInBounds (off + i) c) (by simp; omega)
    simp only [List.zipIdx_cons, List.foldl_cons, List.length_cons] at ih ⊢
    refine ⟨by rw [ih.1]; simp, fun p => ?_⟩
    rw [ih.2 p]
    by_cases h1 : off + (i + 1) ≤ p ∧ p < off + (i + 1) + l.length
    · rw [if_pos h1, if_pos (by omega)]
      obtain ⟨m, rfl⟩ : ∃ m, p = off + (i + 1) + m := ⟨p - (off + (i + 1)), by omega⟩
      rw [show off + (i + 1) + m - (off + (i + 1)) = m by omega, show off + (i + 1) + m - (off + i) = m + 1 by omega]
      simp
    · rw [if_neg h1]
      by_cases h2 : p = off + i
      · subst h2
        rw [if_pos (by omega), Array.getElem?_setIfInBounds_self_of_lt (by omega)]
        simp
      · rw [if_neg (by omega), Array.getElem?_setIfInBounds_ne (by omega)]

theorem fill_one (cells : Array Value) (off : Nat) (v : Value) (h : off + v.cells.size ≤ cells.size) :
    let r := v.cells.zipIdx.foldl (fun cs (c, j) => cs.setIfInBounds (off + j) c) cells
    r.size = cells.size ∧ ∀ p, r[p]? = if off ≤ p ∧ p < off + v.cells.size then v.cells[p - off]? else cells[p]? := by
  have := foldl_set off v.cells.toList 0 cells (by simpa using h)
  rw [← Array.foldl_toList]
  simp only [Array.toList_zipIdx] 
  simp only [Nat.add_zero, Array.length_toList, Array.getElem?_toList] at this
  exact this

section
variable {B τ : Nat} {a : Act} {w : World}

/-- A part of a struct is taken into the slot that is being made. -/
def fPart (τ t d off : Nat) : Place → Place
  | .slot τ' x j k => if τ' = τ ∧ x = t then .slot τ d (off + (j - 1) + 1) 0 else .slot τ' x j k
  | p => p

theorem take_part {g : Gh} {st : St} (h : R B τ g st a w) (x : Operand) (d off : Nat) (hv : okV (st.peek x) = true) : ∃ g', (∀ b i, g.lin b = some i → (∀ t j k, x = .tmp t → i.place ≠ .slot τ t j k) → g'.lin b = some i) ∧ g'.mem = g.mem ∧ g'.loc = g.loc ∧ Later B τ g g' w w ∧ R B τ g' (st.takeS x) a w ∧ (st.peek x).cells.length = (a.eval x).cells.size ∧
    ∀ (j : Nat) (c : V) (hj : j < (a.eval x).cells.size), (st.peek x).cells[j]? = some c → RepC g' (.slot τ d (off + j + 1) 0) c (a.eval x).cells[j] := by
  have plain : ∀ (v : V) (u : Value), RepS g τ 0 v u → isLin3 v = false → okV v = true → v.cells.length = u.cells.size ∧ ∀ (p : Place) (j : Nat) (c : V) (hj : j < u.cells.size), v.cells[j]? = some c → RepC g p c u.cells[j] := by
    intro v u hs hl hok
    have hnt : ∀ vs, v ≠ .tup vs := fun vs e => by rw [e] at hok; cases hok
    have hnu : v ≠ .undef := fun e => by rw [e] at hok; cases hok
    rw [repS_notTup hnt] at hs
    obtain ⟨c1, c2⟩ := cellsA hnu hs
    refine ⟨c1, fun p j c hj hc => ?_⟩
    obtain ⟨j', e, hr⟩ := c2 j c hj hc
    refine hr.any ?_
    have hin := List.mem_of_getElem? hc
    cases v <;> simp only [V.cells, List.mem_singleton] at hin <;> try (subst hin; first | exact hl | rfl)
    simp only [isLin3, isLin2] at hl
    rw [List.any_eq_false] at hl
    exact Bool.eq_false_iff.2 (hl c hin)
  cases x with
  | tmp t =>
    have hf : ∀ p, (∀ j k, p ≠ .slot τ t j k) → fPart τ t d off p = p := by
      intro p hp
      cases p with
      | cell => rfl
      | slot τ' x j k =>
        have hn : ¬ (τ' = τ ∧ x = t) := by
          rintro ⟨rfl, rfl⟩
          exact hp j k rfl
        simp only [fPart, if_neg hn]
    have hs0 := slot_of h t
    have hnt : ∀ vs, getS st.fr t ≠ .tup vs := fun vs e => by simp only [St.peek, e] at hv; cases hv
    have hnu : getS st.fr t ≠ .undef := fun e => by simp only [St.peek, e] at hv; cases hv
    rw [repS_notTup hnt] at hs0
    have hs := (hs0.moved (f := fPart τ t d off) (pl' := fun j => .slot τ d (off + (j - 1) + 1) 0) (fun j => by simp [fPart])).1
    have hm := h.drop t (fPart τ t d off) hf
    obtain ⟨c1, c2⟩ := cellsA hnu hs
    refine ⟨g.ren (fPart τ t d off), fun b i hi hp => lin_ren_of hi (hf _ (fun j k => hp t j k rfl)), rfl, rfl, ren_later (fun τ' x j k hne => ?_), ?_, c1, fun j c hj hc => ?_⟩
    · exact hf _ (by intro j' k' e; injection e with e _; exact hne e)
    · unfold St.takeS
      dsimp only
      cases hl : isLin3 (getS st.fr t) with
      | true => rw [condB_true]; exact hm
      | false => rw [condB_false]; exact R.setSame hm (map3_of (fun _ h => drop1_of h) hl)
    · obtain ⟨j', e, hr⟩ := c2 j c hj hc
      rw [e] at hr; exact hr
  | const v =>
    obtain ⟨c1, c2⟩ := plain _ _ (ofVal_rep g τ 0 v) (isLin_ofVal v) hv
    exact ⟨g, fun _ _ h _ => h, rfl, rfl, Later.refl .., h, c1, fun j c hj hc => c2 _ j c hj hc⟩
  | global b => cases hv
  | func f =>
    obtain ⟨c1, c2⟩ := plain (.fn (.func f) [] []) (.func (.func f) #[] #[]) ⟨#[], #[], rfl, rfl, rfl, fun j c hj => absurd hj (by simp), fun j c hj => absurd hj (by simp)⟩ rfl rfl
    exact ⟨g, fun _ _ h _ => h, rfl, rfl, Later.refl .., h, c1, fun j c hj hc => c2 _ j c hj hc⟩

/-- The parts of a struct: the evaluator's filling is the model's. -/
theorem buildV_sound {P : Program} {t : TypeId} {fs : Array Field} (hu : P.underlying t = some (.struct fs)) {place : Nat → Option (Nat × Nat)} (hpl : ∀ i fl n, fs[i]? = some fl → sizeT P fl.type = some n → place i = some (fl.offset, n)) (d : Nat) :
    ∀ (parts : List (Nat × Operand)) (g : Gh) (st : St) (cs : List V) (cur : Array Value) (cs' : List V) (st' : St), (∀ p ∈ parts, p.2 ≠ .tmp d) → buildV P t st cs parts = some (cs', st') → R B τ g st a w → cs.length = cur.size →
      (∀ (j : Nat) (c : V) (hj : j < cur.size), cs[j]? = some c → RepC g (.slot τ d (j + 1) 0) c cur[j]) →
      ∃ g' cur', Instr.fill place cur (parts.map fun p => (p.1, a.eval p.2)) = some cur' ∧ Later B τ g g' w w ∧ R B τ g' st' a w ∧ cs'.length = cur'.size ∧ ∀ (j : Nat) (c : V) (hj : j < cur'.size), cs'[j]? = some c → RepC g' (.slot τ d (j + 1) 0) c cur'[j]
  | [], g, st, cs, cur, cs', st', _, hb, hR, hl, hrep => by
    simp only [buildV] at hb
    cases hb
    exact ⟨g, cur, rfl, Later.refl .., hR, hl, hrep⟩
  | (i, x) :: r, g, st, cs, cur, cs', st', hne, hb, hR, hl, hrep => by
    simp only [buildV] at hb
    split at hb
    · rename_i fl hfl
      obtain ⟨fs', hu', hfs⟩ := fieldT_some hfl
      rw [hu] at hu'; cases hu'
      split at hb
      · rename_i n hn
        split at hb
        · rename_i hc
          obtain ⟨hok, hvl, hle⟩ := hc
          obtain ⟨g1, k1, k2, k3, l1, hR1, hcl, hrep1⟩ := take_part hR x d fl.offset hok
          have hsz : (a.eval x).cells.size = n := by rw [← hcl]; exact hvl
          obtain ⟨f1, f2⟩ := fill_one cur fl.offset (a.eval x) (by rw [hsz, ← hl]; exact hle)
          dsimp only at f1 f2
          generalize hcur1 : (a.eval x).cells.zipIdx.foldl (fun cs (c, j) => cs.setIfInBounds (fl.offset + j) c) cur = cur1 at f1 f2
          obtain ⟨g2, cur', e1, l2, hR2, e2, e3⟩ := buildV_sound hu hpl d r g1 (st.takeS x) (setAt cs fl.offset (st.peek x).cells) cur1 cs' st' (fun p hp => hne p (List.mem_cons_of_mem _ hp)) hb hR1 (by rw [length_setAt, f1, hl]) (fun j c hj hcj => by
            rw [getElem?_setAt _ _ _ _ (by rw [hvl]; exact hle), hvl] at hcj
            have hg := f2 j
            rw [Array.getElem?_eq_getElem hj, hsz] at hg
            by_cases hr : fl.offset ≤ j ∧ j < fl.offset + n
            · rw [if_pos hr] at hcj hg
              have hlt : j - fl.offset < (a.eval x).cells.size := by omega
              rw [Array.getElem?_eq_getElem hlt] at hg
              have := hrep1 (j - fl.offset) c hlt hcj
              rw [show fl.offset + (j - fl.offset) = j by omega] at this
              rw [Option.some.inj hg]; exact this
            · rw [if_neg hr] at hcj hg
              have hlt : j < cur.size := by omega
              rw [Array.getElem?_eq_getElem hlt] at hg
              rw [Option.some.inj hg]
              refine (hrep j c hlt hcj).mono (by rw [k2]; exact MemLe.refl _) (fun _ _ h => by rw [k3]; exact h) (fun b i' hi hp => k1 b i' hi (fun t' j' k' e => ?_))
              rw [hp]
              intro e'
              injection e' with _ e'
              subst e'
              exact hne (i, x) (List.mem_cons_self ..) (by rw [e]))
          refine ⟨g2, cur', ?_, l1.trans l2, hR2, e2, e3⟩
          simp only [List.map_cons, Instr.fill, hpl i fl n hfs hn]
          rw [if_neg (by simp only [hsz, ne_eq, not_true_eq_false, decide_false, Bool.false_or, decide_eq_true_eq]; omega), hcur1]
          exact e1
        · cases hb
      · cases hb
    · cases hb
end

theorem fieldsOk_places {P : Program} {t : TypeId} (h : fieldsOk P t = true) : ∃ fs places, P.underlying t = some (.struct fs) ∧ fs.toList.mapM (fun f => (P.info? f.type).map fun i => (f.offset, i.size)) = some places ∧ ∀ (i : Nat) (fl : Field) (n : Nat), fs[i]? = some fl → sizeT P fl.type = some n → places[i]? = some (fl.offset, n) := by
  unfold fieldsOk at h
  split at h
  · rename_i fs hu
    have key : ∀ l : List Field, l.all (fun f => (sizeT P f.type).isSome) = true → ∃ places, l.mapM (fun f => (P.info? f.type).map fun i => (f.offset, i.size)) = some places ∧ ∀ (i : Nat) (fl : Field) (n : Nat), l[i]? = some fl → sizeT P fl.type = some n → places[i]? = some (fl.offset, n) := by
      intro l
      induction l with
      | nil => intro _; exact ⟨[], rfl, fun i fl n h => by cases h⟩
      | cons x l ih =>
        intro hl
        simp only [List.all_cons, Bool.and_eq_true] at hl
        obtain ⟨m, hm⟩ := Option.isSome_iff_exists.1 hl.1
        unfold sizeT at hm
        obtain ⟨it, hit, rfl⟩ := Option.map_eq_some_iff.1 hm
        obtain ⟨places, hp, hq⟩ := ih hl.2
        refine ⟨(x.offset, it.size) :: places, by simp [List.mapM_cons, hit, hp], fun i fl n hi hn => ?_⟩
        cases i with
        | zero =>
          simp at hi
          subst hi
          simp [sizeT, hit] at hn
          simp [hn]
        | succ i => simpa using hq i fl n (by simpa using hi) hn
    obtain ⟨places, hp, hq⟩ := key fs.toList h
    exact ⟨fs, places, hu, hp, fun i fl n hi hn => hq i fl n (by rw [Array.getElem?_toList]; exact hi) hn⟩
  · cases h

section
variable {C : Cx} {vb : FuncId → List V → List Blk → Option FOut} {f : FuncId} {ρ : Option Nat} {n : Nat} {o : Oper} {st : St} {α : Type} {k kp : V → St → Option α} {out : α}
  {B τ : Nat} {g : Gh} {a : Act} {w : World} {next : Act → World → Prop} {Q : Exit → Act → World → Prop}

theorem op_build {t : TypeId} {parts : Array (Nat × Operand)} (ho : o.op = .build t parts) (h : vop C vb f o st k kp = some out) (hR : R B τ g st a w) (hk : Goes B τ g a w o.dst k out next) : o.wpIn (FW ρ) n C.P a w next Q := by
  unfold vop at h
  rw [ho] at h
  dsimp only at h
  split at h
  · rename_i zs hz
    split at h
    · rename_i hok
      obtain ⟨hfo, hnd⟩ := hok
      split at h
      · rename_i cs st' hb
        obtain ⟨fs, places, hu, hpl, hq⟩ := fieldsOk_places hfo
        obtain ⟨it, zv, hit, hzv, e⟩ := zeroT_eq hz
        have hokz : okV (ofVal zv) = true := by rw [← e]; rfl
        obtain ⟨c1, c2⟩ := ofVal_cells (g := g) hokz
        rw [← e] at c1 c2
        obtain ⟨g', cur', hfill, l1, hR', e1, e2⟩ := buildV_sound (a := a) (w := w) (B := B) (τ := τ) hu (place := (places.toArray[·]?)) (fun i fl n hi hn => by
          simpa using hq i fl n hi hn) (o.dst.getD 0) parts.toList g st zs zv.cells cs st' (fun p hp e => by
            rw [List.all_eq_true] at hnd
            have := hnd p hp
            rw [e] at this
            simp [isTmp] at this) hb hR c1 (fun j c hj hc => c2 _ j c hj hc)
        refine wp_value (by simp [ho]) (v := .agg cur') (w' := w) ?_ (hk (.agg cs) st' g' _ w l1 hR' ⟨cur', rfl, e1, e2⟩ h)
        simp only [execOp, ho]
        refine run_v (run_build w t _ cur' ?_)
        simp only [Program.built, hit, hu, hzv, hpl]
        simpa using hfill
      · cases h
    · cases h
  · cases h

/-! ### make -/
theorem flat_get : ∀ (M : Nat) (zs : List V) (sz : Nat), zs.length = sz → 0 < sz → ∀ (j : Nat) (x : V), ((List.replicate M zs).flatten)[j]? = some x → zs[j % sz]? = some x
  | 0, zs, sz, _, _, j, x, h => by simp at h
  | M + 1, zs, sz, hz, h0, j, x, h => by
    rw [List.replicate_succ, List.flatten_cons] at h
    by_cases hj : j < sz
    · rw [List.getElem?_append_left (by omega)] at h
      rwa [Nat.mod_eq_of_lt hj]
    · rw [List.getElem?_append_right (by omega), hz] at h
      have := flat_get M zs sz hz h0 (j - sz) x h
      rwa [Nat.mod_eq_sub_mod (by omega)]

end
end Go.Fw
/- The operations (11): a slice that is written out; append. -/
namespace Go.Fw
open Go.RowKit

theorem flat1_repI {g : Gh} {p : Place} {v : V} {u : Value} (h : RepC g p v u) (hf : flat1 v = true) : RepI g.mem v u := by
  cases v <;> simp only [flat1, flat0] at hf <;> first | exact h | cases hf | skip
  simp only [Bool.and_eq_true, List.all_eq_true] at hf
  obtain ⟨x, y, rfl, h1, h2, h3, h4⟩ := h
  have key : ∀ c w', flat0 c = true → RepP g c w' → RepI g.mem c w' := by
    intro c w' hc hr
    cases c <;> first | exact hr | (simp [flat0] at hc; done)
  exact RepI.fn _ _ _ _ _ h1 h2 (fun j c hj hc => key c _ (hf.1 c (List.mem_of_getElem? hc)) (h3 j c hj hc)) (fun j c hj hc => key c _ (hf.2 c (List.mem_of_getElem? hc)) (h4 j c hj hc))

/-- The cells of a flat value. -/
theorem flat_cells {g : Gh} {τ d : Nat} {v : V} {u : Value} (h : RepS g τ d v u) (hok : okV v = true) (hf : flat2 v = true) : v.cells.length = u.cells.size ∧ ∀ (j : Nat) (c : V) (hj : j < u.cells.size), v.cells[j]? = some c → isCell c = true ∧ RepI g.mem c u.cells[j] := by
  have hnt : ∀ vs, v ≠ .tup vs := fun vs e => by rw [e] at hok; cases hok
  have hnu : v ≠ .undef := fun e => by rw [e] at hok; cases hok
  rw [repS_notTup hnt] at h
  obtain ⟨c1, c2⟩ := cellsA hnu h
  refine ⟨c1, fun j c hj hc => ?_⟩
  obtain ⟨j', e, hr⟩ := c2 j c hj hc
  refine ⟨hr.notAgg, flat1_repI hr ?_⟩
  have hin := List.mem_of_getElem? hc
  cases v <;> simp only [V.cells, List.mem_singleton] at hin <;> try (subst hin; exact hf)
  simp only [flat2, List.all_eq_true] at hf
  exact hf c hin

section
variable {B τ : Nat} {g : Gh} {st : St} {a : Act} {w : World}

theorem free_mem (h : R B τ g st a w) : g.mem w.heap.size = none := by
  cases hm : g.mem w.heap.size with
  | none => rfl
  | some cs =>
    obtain ⟨cur, e, fr, h1, _⟩ := h.mem.at_ _ cs hm
    have := (Array.getElem?_eq_some_iff.1 h1).1; omega
theorem free_lin (h : R B τ g st a w) : g.lin w.heap.size = none := by
  cases hm : g.lin w.heap.size with
  | none => rfl
  | some i =>
    obtain ⟨_, ⟨cur, h1, _⟩, _⟩ := h.lin.at_ _ i hm
    have := (Array.getElem?_eq_some_iff.1 h1).1; omega

def Gh.addMem (g : Gh) (b : Nat) (cs : List Value) : Gh := { g with mem := fun x => if x = b then some cs else g.mem x }
/-- New memory that nobody will write. -/
theorem new_mem (h : R B τ g st a w) (cur : Array Value) (t : TypeId) : Later B τ g (g.addMem w.heap.size cur.toList) w (w.alloc (.cells cur t)) ∧ R B τ (g.addMem w.heap.size cur.toList) st a (w.alloc (.cells cur t)) := by
  have hfm := free_mem h
  have hfl := free_lin h
  have hle : MemLe g.mem (g.addMem w.heap.size cur.toList).mem := by
    intro b cs hb
    unfold Gh.addMem
    dsimp only
    split
    · rename_i e; subst e; rw [hfm] at hb; cases hb
    · exact ⟨cs, hb, List.prefix_refl _⟩
  have hne : ∀ b, (g.lin b).isSome = true ∨ (∃ id, g.loc id = some b) → b ≠ w.heap.size := by
    rintro b (hb | ⟨id, hb⟩) e
    · subst e; rw [hfl] at hb; cases hb
    · have := (h.heap.fresh id b hb).2.1; omega
  refine ⟨⟨(Below.refl _ _).alloc h.base _, hle, fun b hb => ?_, fun _ _ h => h, fun _ _ h _ => h⟩, ⟨h.size, fun i v hi hv => RepS.mono (g := g) (g' := g.addMem w.heap.size cur.toList) hle (fun _ _ h => h) (fun _ _ _ _ h _ => h) (h.slots i v hi hv), ⟨h.heap.bound, h.heap.inj, ?_, ?_⟩, ⟨?_⟩, ⟨?_⟩, by have := h.base; simp; omega, h.defers⟩⟩
  · unfold Gh.addMem; dsimp only
    rw [if_neg (by have := h.base; omega)]
  · intro id b hb
    obtain ⟨h1, h2, h3, h4⟩ := h.heap.fresh id b hb
    refine ⟨h1, by simp; omega, ?_, h4⟩
    unfold Gh.addMem; dsimp only
    rw [if_neg (hne b (.inr ⟨id, hb⟩))]; exact h3
  · intro id b cs e hb he
    obtain ⟨cur', h1, h2, h3⟩ := h.heap.blk id b cs e hb he
    exact ⟨cur', heap_alloc_old w _ h1, h2, fun j c hj hc => RepC.mono (g := g) (g' := g.addMem w.heap.size cur.toList) hle (fun _ _ h => h) (fun _ _ h _ => h) (h3 j c hj hc)⟩
  · intro b cs hb
    unfold Gh.addMem at hb
    dsimp only at hb
    split at hb
    · rename_i e; subst e; cases hb; exact ⟨cur, t, (0, 0), heap_alloc_at w _, List.prefix_refl _⟩
    · exact (memOk_alloc h.mem _).at_ b cs hb
  · intro b i hi
    have hb := hne b (.inl (by rw [show g.lin b = some i from hi]; rfl))
    have := (linOk_alloc h.lin (.cells cur t)).at_ b i hi
    unfold Gh.addMem
    dsimp only
    rw [if_neg hb]
    exact this
end

/-! ### the model's 'fill' over parts in a row -/
theorem fill_seq (sz : Nat) : ∀ (vs : List Value) (i0 : Nat) (cells : Array Value), (∀ v ∈ vs, v.cells.size = sz) → (i0 + vs.length) * sz ≤ cells.size →
    ∃ r, Instr.fill (fun i => some (i * sz, sz)) cells (vs.zipIdx i0 |>.map fun p => (p.2, p.1)) = some r ∧ r.size = cells.size ∧ (∀ p, p < i0 * sz → r[p]? = cells[p]?) ∧ ∀ (k : Nat) (v : Value) (j : Nat), vs[k]? = some v → j < sz → r[(i0 + k) * sz + j]? = v.cells[j]?
  | [], i0, cells, _, _ => ⟨cells, rfl, rfl, fun _ _ => rfl, fun k v j h => by cases h⟩
  | v :: vs, i0, cells, hv, hl => by
    have hvs := hv v (List.mem_cons_self ..)
    simp only [List.length_cons] at hl
    have h1 : i0 * sz + sz ≤ cells.size := by
      have : (i0 + 1) * sz ≤ (i0 + (vs.length + 1)) * sz := Nat.mul_le_mul_right _ (by omega)
      rw [Nat.add_mul, Nat.one_mul] at this
      omega
    obtain ⟨f1, f2⟩ := fill_one cells (i0 * sz) v (by rw [hvs]; exact h1)
    dsimp only at f1 f2
    generalize hc1 : v.cells.zipIdx.foldl (fun cs (c, j) => cs.setIfInBounds (i0 * sz + j) c) cells = cells1 at f1 f2
    obtain ⟨r, e1, e2, e3, e4⟩ := fill_seq sz vs (i0 + 1) cells1 (fun x hx => hv x (List.mem_cons_of_mem _ hx)) (by rw [f1, show i0 + 1 + vs.length = i0 + (vs.length + 1) by omega]; exact hl)
    refine ⟨r, ?_, by rw [e2, f1], fun p hp => ?_, fun k x j hk hj => ?_⟩
    · simp only [List.zipIdx_cons, List.map_cons, Instr.fill]
      rw [if_neg (by simp only [hvs, ne_eq, not_true_eq_false, decide_false, Bool.false_or, decide_eq_true_eq]; omega), hc1]
      exact e1
    · rw [e3 p (by rw [Nat.add_mul]; omega), f2 p, if_neg (by omega)]
    · cases k with
      | zero =>
        cases hk
        rw [Nat.add_zero, e3 _ (by rw [Nat.add_mul, Nat.one_mul]; omega), f2, if_pos (by rw [hvs]; omega)]
        congr 1; omega
      | succ k =>
        have := e4 k x j (by simpa using hk) hj
        rwa [show i0 + 1 + k = i0 + (k + 1) by omega] at this

section
variable {C : Cx} {vb : FuncId → List V → List Blk → Option FOut} {f : FuncId} {ρ : Option Nat} {n : Nat} {o : Oper} {st : St} {α : Type} {k kp : V → St → Option α} {out : α}
  {B τ : Nat} {g : Gh} {a : Act} {w : World} {next : Act → World → Prop} {Q : Exit → Act → World → Prop}

theorem useAll_h : ∀ (xs : List Operand) (st : St), (st.useAll xs).h = st.h
  | [], _ => rfl
  | x :: xs, st => by
    show ((st.useS x).useAll xs).h = _
    rw [useAll_h xs, useS_h]

theorem flatMap_get (sz : Nat) (h0 : 0 < sz) : ∀ (vs : List V), (∀ v ∈ vs, v.cells.length = sz) → (vs.flatMap V.cells).length = vs.length * sz ∧ ∀ (p : Nat) (c : V), (vs.flatMap V.cells)[p]? = some c → ∃ v, vs[p / sz]? = some v ∧ v.cells[p % sz]? = some c
  | [], _ => ⟨by simp, fun p c h => by simp at h⟩
  | v :: vs, hv => by
    have h1 := hv v (List.mem_cons_self ..)
    obtain ⟨i1, i2⟩ := flatMap_get sz h0 vs (fun x hx => hv x (List.mem_cons_of_mem _ hx))
    refine ⟨by simp only [List.flatMap_cons, List.length_append, h1, i1, List.length_cons, Nat.add_mul, Nat.one_mul]; omega, fun p c hc => ?_⟩
    rw [List.flatMap_cons] at hc
    by_cases hp : p < sz
    · rw [List.getElem?_append_left (by omega)] at hc
      exact ⟨v, by rw [Nat.div_eq_of_lt hp]; rfl, by rw [Nat.mod_eq_of_lt hp]; exact hc⟩
    · rw [List.getElem?_append_right (by omega), h1] at hc
      obtain ⟨x, hx, hxc⟩ := i2 _ c hc
      have e1 : p / sz = (p - sz) / sz + 1 := by
        rw [Nat.div_eq_sub_div h0 (by omega)]
      exact ⟨x, by rw [e1]; simpa using hx, by rw [Nat.mod_eq_sub_mod (by omega)]; exact hxc⟩

theorem op_buildSlice {t : TypeId} {m : Nat} {parts : Array (Nat × Operand)} (ho : o.op = .buildSlice t m parts) (h : vop C vb f o st k kp = some out) (hR : R B τ g st a w) (hk : Goes B τ g a w o.dst k out next) : o.wpIn (FW ρ) n C.P a w next Q := by
  unfold vop at h
  rw [ho] at h
  dsimp only at h
  split at h
  · rename_i e he
    have ht := sliceT he
    split at h
    · rename_i ag sz hag hsz
      split at h
      · rename_i hcond
        obtain ⟨hsmall, h0, hidx, hzs⟩ := hcond
        split at h
        · rename_i hvs
          rw [List.all_eq_true] at hvs
          obtain ⟨z, hz⟩ := Option.isSome_iff_exists.1 hzs
          obtain ⟨it, zv, hit, hzv, _⟩ := zeroT_eq hz
          obtain ⟨g1, l1, hR1, hrep⟩ := uses_sound (parts.toList.map (·.2)) hR
          have hval : ∀ (i : Nat) (x : Operand), (parts.toList.map (·.2))[i]? = some x → okV (st.useV x) = true ∧ (st.useV x).cells.length = sz := by
            intro i x hx
            have hin : st.useV x ∈ parts.toList.map (fun p => st.useV p.2) := by
              obtain ⟨p, hp, rfl⟩ := List.mem_map.1 (List.mem_of_getElem? hx)
              exact List.mem_map.2 ⟨p, hp, rfl⟩
            have := hvs _ hin
            simp only [Bool.and_eq_true, beq_iff_eq] at this
            exact ⟨this.1.1, this.1.2⟩
          have hlen : parts.toList.length = m := by have := congrArg List.length hidx; simpa using this
          -- the values of the model
          let us := parts.toList.map fun p => a.eval p.2
          have hus : us.length = m := by simp [us, hlen]
          have husz : ∀ u ∈ us, u.cells.size = sz := by
            intro u hu
            obtain ⟨i, hi, rfl⟩ := List.mem_iff_getElem.1 hu
            have hi' : i < parts.toList.length := by simpa [us] using hi
            have hx : (parts.toList.map (·.2))[i]? = some parts.toList[i].2 := by rw [List.getElem?_map, List.getElem?_eq_getElem hi']; rfl
            obtain ⟨k1, k2⟩ := hval i _ hx
            have hr := hrep i _ hx 0 0
            have hnt : ∀ vs, st.useV parts.toList[i].2 ≠ .tup vs := fun vs e => by rw [e] at k1; cases k1
            have hnu : st.useV parts.toList[i].2 ≠ .undef := fun e => by rw [e] at k1; cases k1
            rw [repS_notTup hnt] at hr
            have := (cellsA hnu hr).1
            simp only [us, List.getElem_map]
            rw [← this]; exact k2
          let zc : Array Value := if m * sz = 0 then #[] else zv.cells
          obtain ⟨cur, e1, e2, _, e4⟩ := fill_seq sz us 0 ((Array.range (m * sz)).map (zc[· % zc.size]!)) husz (by simp [hus])
          have hparts : us.zipIdx.map (fun p => (p.2, p.1)) = parts.toList.map fun p => (p.1, a.eval p.2) := by
            apply List.ext_getElem?
            intro i
            simp only [List.getElem?_map, List.getElem?_zipIdx, us]
            cases hp : parts.toList[i]? with
            | none => rfl
            | some p =>
              have : (parts.toList.map (·.1))[i]? = some p.1 := by rw [List.getElem?_map, hp]; rfl
              rw [hidx] at this
              have hi : i < m := by have := (List.getElem?_eq_some_iff.1 hp).1; omega
              rw [List.getElem?_range hi] at this
              simp at this
              simp [this]
          have hcsz : cur.size = m * sz := by rw [e2]; simp
          have hrun : (execOp a.eval o).run C.P w = .ok (.value (.slice (some ⟨w.heap.size, 0, none⟩) m m)) (w.alloc (.cells cur e)) := by
            simp only [execOp, ho]
            refine run_v ?_
            have hfill : Instr.fill (fun i => some (i * sz, sz)) ((Array.range (m * sz)).map (zc[· % zc.size]!)) (parts.map (fun p => (p.1, a.eval p.2))).toList = some cur := by
              rw [Array.toList_map, ← hparts]; exact e1
            have hsm : ¬ m * sz > 2 ^ 24 := by omega
            by_cases hz0 : m * sz = 0
            · have hzc : zc = #[] := by simp [zc, hz0]
              rw [hzc] at hfill
              simp only [Instr.buildSlice, Sem.run_bind, run_underlying ht, Result.andThen_ok, sizeT_some hsz w, Sem.run_ite, gt_iff_lt, Nat.not_lt_zero, if_false, hz0, if_true, Sem.run_pure]
              rw [hz0] at hfill
              simp only [hfill, Sem.run_bind, run_newRow', Result.andThen_ok, Sem.run_pure]
            · have hzc : zc = zv.cells := by simp [zc, hz0]
              rw [hzc] at hfill
              simp only [Instr.buildSlice, Sem.run_bind, run_underlying ht, Result.andThen_ok, sizeT_some hsz w, Sem.run_ite, if_neg hsm, if_neg hz0, run_zero hit hzv, Sem.run_pure]
              simp only [hfill, Sem.run_bind, run_newRow', Result.andThen_ok, Sem.run_pure]
          have hel : ∀ (i : Nat) (v : V), (parts.toList.map fun p => st.useV p.2)[i]? = some v → ∃ x, (parts.toList.map (·.2))[i]? = some x ∧ v = st.useV x ∧ us[i]? = some (a.eval x) := by
            intro i v hv
            rw [List.getElem?_map] at hv
            obtain ⟨p, hp, rfl⟩ := Option.map_eq_some_iff.1 hv
            exact ⟨p.2, by rw [List.getElem?_map, hp]; rfl, rfl, by simp only [us]; rw [List.getElem?_map, hp]; rfl⟩
          split at h
          · rename_i hfl
            rw [List.all_eq_true] at hfl
            obtain ⟨l2, hR2⟩ := new_mem hR1 cur e
            refine wp_value (by simp [ho]) hrun (hk _ _ _ _ _ (l1.trans l2) hR2 ?_ h)
            have hvl : (parts.toList.map fun p => st.useV p.2).length = m := by simp [hlen]
            have hcell : ∀ (i : Nat) (v : V) (j : Nat) (c : V), (parts.toList.map fun p => st.useV p.2)[i]? = some v → v.cells[j]? = some c → isCell c = true ∧ ∃ u, cur.toList[i * sz + j]? = some u ∧ RepI g1.mem c u := by
              intro i v j c hv hc
              obtain ⟨x, hx, rfl, hux⟩ := hel i v hv
              obtain ⟨k1, k2⟩ := hval i x hx
              have hf2 := hfl _ (List.mem_of_getElem? hv)
              obtain ⟨q1, q2⟩ := flat_cells (hrep i x hx 0 0) k1 hf2
              have hj : j < (a.eval x).cells.size := by rw [← q1]; exact (List.getElem?_eq_some_iff.1 hc).1
              obtain ⟨r1, r2⟩ := q2 j c hj hc
              have := e4 i _ j hux (by have := husz _ (List.mem_of_getElem? hux); omega)
              rw [Nat.zero_add, Array.getElem?_eq_getElem hj] at this
              exact ⟨r1, _, by rw [Array.getElem?_toList]; exact this, r2⟩
            have hmem : ∀ p, stAt (g1.addMem w.heap.size cur.toList).mem w.heap.size p = cur.toList[p]? := by intro p; simp [stAt, Gh.addMem]
            have himm := RepI.imm (m := (g1.addMem w.heap.size cur.toList).mem) true (parts.toList.map fun p => st.useV p.2) w.heap.size 0 m sz (fun i j => (cur.toList[i * sz + j]?).getD default) (by rw [hvl]; exact Nat.le_refl _) (fun _ => by rw [hvl]) (by
                simp only [maxLen]
                have : m ≤ m * sz := Nat.le_mul_of_pos_right _ h0
                omega) h0
              (fun i v hv => by
                obtain ⟨x, hx, rfl, _⟩ := hel i v hv
                exact (hval i x hx).2)
              (fun i v j c hv hc => by
                obtain ⟨r1, u, r2, _⟩ := hcell i v j c hv hc
                refine ⟨r1, ?_⟩
                rw [Nat.zero_add, hmem, r2]; rfl)
              (fun i v j c hv hc => by
                obtain ⟨_, u, r2, r3⟩ := hcell i v j c hv hc
                rw [r2]
                exact r3.mono l2.mem)
            rw [hvl] at himm
            exact himm
          · -- it is laid into the heap
            have hh : (st.useAll (parts.toList.map (·.2))).h = st.h := useAll_h _ _
            obtain ⟨fm1, fm2⟩ := flatMap_get sz h0 (parts.toList.map fun p => st.useV p.2) (fun v hv => by
              obtain ⟨i, hi, rfl⟩ := List.mem_iff_getElem.1 hv
              obtain ⟨x, hx, e, _⟩ := hel i _ (List.getElem?_eq_getElem hi)
              rw [e]; exact (hval i x hx).2)
            obtain ⟨g2, q1, q2, q3, _, _, _⟩ := new_block hR1 ((parts.toList.map fun p => st.useV p.2).flatMap V.cells) cur e (by rw [fm1, hcsz]; simp [hlen]) (fun j c hj hc => by
              obtain ⟨v, hv, hvc⟩ := fm2 j c hc
              obtain ⟨x, hx, rfl, hux⟩ := hel _ v hv
              obtain ⟨k1, k2⟩ := hval _ x hx
              have hr := hrep _ x hx 0 0
              have hnt : ∀ vs, st.useV x ≠ .tup vs := fun vs e => by rw [e] at k1; cases k1
              have hnu : st.useV x ≠ .undef := fun e => by rw [e] at k1; cases k1
              rw [repS_notTup hnt] at hr
              obtain ⟨c1, c2⟩ := cellsA hnu hr
              have hjm : j % sz < (a.eval x).cells.size := by rw [← c1, k2]; exact Nat.mod_lt _ h0
              obtain ⟨j', _, hrc⟩ := c2 (j % sz) c hjm hvc
              have := e4 (j / sz) _ (j % sz) hux (Nat.mod_lt _ h0)
              rw [Nat.zero_add, Nat.mul_comm, Nat.div_add_mod, Array.getElem?_eq_getElem hjm, Array.getElem?_eq_getElem hj] at this
              rw [Option.some.inj this]
              refine hrc.any ?_
              have hin := List.mem_of_getElem? hvc
              have hl3 := isLin3_demote (st.peek x)
              generalize hg : map3 demote1 (st.peek x) = vv at hl3
              have hg' : st.useV x = vv := hg
              rw [hg'] at hin k1
              cases vv <;> simp only [V.cells, List.mem_singleton] at hin <;> try (subst hin; first | exact hl3 | rfl | (cases k1; done))
              simp only [isLin3, isLin2] at hl3
              rw [List.any_eq_false] at hl3
              exact Bool.eq_false_iff.2 (hl3 c hin))
            refine wp_value (by simp [ho]) hrun (hk _ _ g2 _ _ (l1.trans q1) q2 ?_ h)
            exact .inl ⟨_, m, q3, rfl, Nat.le_refl _, by
              have : m ≤ m * sz := Nat.le_mul_of_pos_right _ h0
              simp only [maxLen]; omega, Nat.le_refl _⟩
        · cases h
      · cases h
    · cases h
  · cases h
end
end Go.Fw
/- The operations (12): append. -/
namespace Go.Fw
open Go.RowKit

theorem isPre_take {α : Type} {cs l : List α} (h : cs <+: l) : l.take cs.length = cs := by
  obtain ⟨t, rfl⟩ := h
  simp

theorem Elems.append {m : Mem} {esz : Nat} {xs ys : List V} {cs ds : List Value} (h : Elems m esz xs cs) (k : Elems m esz ys ds) : Elems m esz (xs ++ ys) (cs ++ ds) := by
  obtain ⟨h1, h2, h3, h4⟩ := h
  obtain ⟨k1, _, k3, k4⟩ := k
  refine ⟨by rw [List.length_append, List.length_append, h1, k1, Nat.add_mul], h2, fun i x hx => ?_, fun i x j c hx hc => ?_⟩
  · by_cases hi : i < xs.length
    · rw [List.getElem?_append_left hi] at hx; exact h3 i x hx
    · rw [List.getElem?_append_right (by omega)] at hx; exact k3 _ x hx
  · by_cases hi : i < xs.length
    · rw [List.getElem?_append_left hi] at hx
      obtain ⟨a, v, hv, hr⟩ := h4 i x j c hx hc
      exact ⟨a, v, by rw [List.getElem?_append_left (List.getElem?_eq_some_iff.1 hv).1]; exact hv, hr⟩
    · rw [List.getElem?_append_right (by omega)] at hx
      obtain ⟨a, v, hv, hr⟩ := k4 _ x j c hx hc
      refine ⟨a, v, ?_, hr⟩
      have hle : xs.length * esz ≤ i * esz := Nat.mul_le_mul_right _ (by omega)
      rw [List.getElem?_append_right (by omega), h1]
      rw [← hv]
      congr 1
      rw [Nat.sub_mul]; omega

/-- The cells of a slice that is read. -/
theorem imm_news {m : Mem} {full : Bool} {esz : Nat} {ys : List V} {u : Value} {w : World} (h : RepI m (.imm full esz ys) u) (hm : MemOk m w) (hne : ys ≠ []) :
    ∃ ad c news, u = .slice (some ad) ys.length c ∧ news.length = ys.length * esz ∧ (∀ (j : Nat) (v : Value), news[j]? = some v → w.cell? (ad.add j) = some v) ∧ (∀ v ∈ news, v.oneCell' = true) ∧ Elems m esz ys news := by
  cases h with
  | none0 => exact absurd rfl hne
  | imm _ _ b off cap _ val hc hf hmx hz hl hs hv sp hsp =>
    have hcell : ∀ j, j < ys.length * esz → ∃ (x : V) (c : V), ys[j / esz]? = some x ∧ x.cells[j % esz]? = some c := by
      intro j hj
      have h1 : j / esz < ys.length := Nat.div_lt_of_lt_mul (by rw [Nat.mul_comm]; exact hj)
      have hx := List.getElem?_eq_getElem h1
      have hl' := hl _ _ hx
      have h2 : j % esz < ys[j / esz].cells.length := by rw [hl']; exact Nat.mod_lt _ hz
      exact ⟨_, _, hx, List.getElem?_eq_getElem h2⟩
    let news := (List.range (ys.length * esz)).map fun j => val (j / esz) (j % esz)
    have hlen : news.length = ys.length * esz := by simp [news]
    have hget : ∀ j v, news[j]? = some v → j < ys.length * esz ∧ v = val (j / esz) (j % esz) := by
      intro j v hj
      have hlt := (List.getElem?_eq_some_iff.1 hj).1
      rw [hlen] at hlt
      refine ⟨hlt, ?_⟩
      have := (List.getElem?_eq_some_iff.1 hj).2
      rw [← this]; simp [news]
    refine ⟨⟨b, off, sp⟩, cap, news, rfl, hlen, fun j v hj => ?_, fun v hvm => ?_, hlen, hz, hl, fun i x j c hx hxc => ?_⟩
    · obtain ⟨hlt, rfl⟩ := hget j v hj
      obtain ⟨x, c, hx, hxc⟩ := hcell j hlt
      have hyl : 0 < ys.length := Nat.lt_of_le_of_lt (Nat.zero_le _) (List.getElem?_eq_some_iff.1 hx).1
      have hsp : sp = none := by
        rcases hsp with h | h
        · exact h
        · omega
      subst hsp
      have hst := (hs _ x _ c hx hxc).2
      unfold stAt at hst
      obtain ⟨cs, hcs, hci⟩ := Option.bind_eq_some_iff.1 hst
      obtain ⟨cur, e', fr, hh, tl, htl⟩ := hm.at_ b cs hcs
      rw [addr_add, cell_of_heap hh, ← Array.getElem?_toList, ← htl]
      have : off + j = off + j / esz * esz + j % esz := by rw [Nat.add_assoc, Nat.mul_comm, Nat.div_add_mod]
      rw [this, List.getElem?_append_left (List.getElem?_eq_some_iff.1 hci).1]
      exact hci
    · obtain ⟨j, hj, rfl⟩ := List.mem_iff_getElem.1 hvm
      obtain ⟨hlt, e⟩ := hget j _ (List.getElem?_eq_getElem hj)
      obtain ⟨x, c, hx, hxc⟩ := hcell j hlt
      rw [e]
      exact (hv _ x _ c hx hxc).one (hs _ x _ c hx hxc).1
    · refine ⟨(hs i x j c hx hxc).1, val i j, ?_, hv i x j c hx hxc⟩
      have hi := (List.getElem?_eq_some_iff.1 hx).1
      have hj := (List.getElem?_eq_some_iff.1 hxc).1
      rw [hl i x hx] at hj
      have hlt : i * esz + j < ys.length * esz := by
        have : (i + 1) * esz ≤ ys.length * esz := Nat.mul_le_mul_right _ hi
        rw [Nat.add_mul, Nat.one_mul] at this
        omega
      have hg : news[i * esz + j]? = some (val ((i * esz + j) / esz) ((i * esz + j) % esz)) := by
        simp [news, hlt]
      rw [hg]
      have e1 : (i * esz + j) / esz = i := by
        rw [Nat.add_comm, Nat.add_mul_div_right _ _ hz, Nat.div_eq_of_lt hj, Nat.zero_add]
      have e2 : (i * esz + j) % esz = j := by rw [Nat.mul_comm, Nat.mul_add_mod]; exact Nat.mod_eq_of_lt hj
      rw [e1, e2]

section
variable {B τ : Nat} {g : Gh} {st : St} {a : Act} {w : World}

/-- What grows has grown: in its block, or in a new one. -/
def Gh.grown (g : Gh) (b : Nat) (i : LinI) : Gh where
  mem := fun x => if x = b ∧ i.priv = false then some i.cs else g.mem x
  loc := g.loc
  lin := fun x => if x = b then some i else g.lin x

theorem grow_sound (h : R B τ g st a w) {w' : World} {b d : Nat} {i : LinI} {row : Option Nat} (hg : w.grownBy w' row) (hrow : ∀ k, row = some k → k = b ∧ B ≤ k) (hBb : B ≤ b) (hplace : i.place = .slot τ d 0 0)
    (hold : (∃ i0, g.lin b = some i0 ∧ i0.place = .slot τ d 0 0 ∧ i0.priv = i.priv ∧ i0.cs <+: i.cs) ∨ (g.lin b = none ∧ g.mem b = none ∧ w.heap.size ≤ b))
    (hcur : ∃ cur, w'.heap[b]? = some (.cells cur i.ety (0, 0)) ∧ i.cs <+: cur.toList ∧ cur.size = i.cap * i.esz) (hle : i.cs.length ≤ i.cap * i.esz) (hmx : i.cap ≤ maxLen) (hz : 0 < i.esz) (hfree : ∀ v, st.fr[d]? = some v → isLin3 v = false) :
    Later B τ g (g.grown b i) w w' ∧ R B τ (g.grown b i) st a w' := by
  have hnl : ∀ id, g.loc id ≠ some b := by
    intro id hid
    obtain ⟨h1, h2, h3, h4⟩ := h.heap.fresh id b hid
    rcases hold with ⟨i0, e, _⟩ | ⟨_, _, e⟩
    · rw [h4] at e; cases e
    · omega
  have hmem : MemLe g.mem (g.grown b i).mem := by
    intro x cs hx
    unfold Gh.grown
    dsimp only
    split
    · rename_i e
      obtain ⟨rfl, hp⟩ := e
      rcases hold with ⟨i0, e, e2, e3, e4⟩ | ⟨_, e, _⟩
      · obtain ⟨_, _, _, _, _, _, hs⟩ := h.lin.at_ _ i0 e
        rw [hs (by rw [e3]; exact hp)] at hx
        cases hx
        exact ⟨_, rfl, e4⟩
      · rw [e] at hx; cases hx
    · exact ⟨cs, hx, List.prefix_refl _⟩
  have hblk : ∀ k x, w.heap[k]? = some x → k ≠ b → w'.heap[k]? = some x := by
    intro k x hk hne
    rw [hg.block k (Array.getElem?_eq_some_iff.1 hk).1 (fun e => hne (hrow k e.symm).1)]
    exact hk
  have hlinm : ∀ x i0, g.lin x = some i0 → i0.place ≠ .slot τ d 0 0 → (g.grown b i).lin x = some i0 := by
    intro x i0 hx hne
    unfold Gh.grown
    dsimp only
    split
    · rename_i e; subst e
      rcases hold with ⟨i1, e, e2, _⟩ | ⟨e, _⟩
      · rw [e] at hx; cases hx; exact absurd e2 hne
      · rw [e] at hx; cases hx
    · exact hx
  refine ⟨⟨(Below.refl B w).grown hg h.base (fun k hk => (hrow k hk).2), hmem, fun x hx => ?_, fun _ _ h => h, fun x i0 hx ⟨τ', y, j, k, hp, hne⟩ => hlinm x i0 hx (by rw [hp]; intro e; injection e with e _; exact hne e)⟩, ⟨h.size, fun s v hs hv => ?_, ⟨h.heap.bound, h.heap.inj, ?_, ?_⟩, ⟨?_⟩, ⟨?_⟩, Nat.le_trans h.base hg.size, h.defers⟩⟩
  · unfold Gh.grown; dsimp only; rw [if_neg (by omega)]
  · by_cases hsd : s = d
    · subst hsd
      have hnl := hfree v hv
      have h1 := h.slots s v hs hv
      have h2 : RepS g (τ + 1) s v a.tmps[s] := h1.any hnl
      have h3 := RepS.mono (g' := g.grown b i) hmem (fun _ _ h => h) (fun j k x i0 hx hp => hlinm x i0 hx (by rw [hp]; intro e; injection e with e _; omega)) h2
      exact h3.any hnl
    · exact RepS.mono (g' := g.grown b i) hmem (fun _ _ h => h) (fun j k x i0 hx hp => hlinm x i0 hx (by rw [hp]; intro e; injection e with _ e _; exact hsd e)) (h.slots s v hs hv)
  · intro id x hx
    obtain ⟨h1, h2, h3, h4⟩ := h.heap.fresh id x hx
    have hne : x ≠ b := fun e => hnl id (e ▸ hx)
    refine ⟨h1, Nat.lt_of_lt_of_le h2 hg.size, ?_, ?_⟩
    · unfold Gh.grown; dsimp only; rw [if_neg (by simp [hne])]; exact h3
    · unfold Gh.grown; dsimp only; rw [if_neg hne]; exact h4
  · intro id x cs e hx he
    obtain ⟨cur, h1, h2, h3⟩ := h.heap.blk id x cs e hx he
    have hne : x ≠ b := fun e => hnl id (e ▸ hx)
    exact ⟨cur, hblk x _ h1 hne, h2, fun j c hj hc => RepC.mono (g := g) (g' := g.grown b i) hmem (fun _ _ h => h) (fun y i0 hy hp => hlinm y i0 hy (by rw [hp]; intro e; cases e)) (h3 j c hj hc)⟩
  · intro x cs hx
    unfold Gh.grown at hx
    dsimp only at hx
    split at hx
    · rename_i e
      obtain ⟨rfl, _⟩ := e
      cases hx
      obtain ⟨cur, h1, h2, _⟩ := hcur
      exact ⟨cur, _, _, h1, h2⟩
    · rename_i hne
      by_cases hxb : x = b
      · subst hxb
        -- it is private: there is no shared memory here
        rcases hold with ⟨i0, e, e2, e3, e4⟩ | ⟨_, e, _⟩
        · obtain ⟨_, _, _, _, _, hp, _⟩ := h.lin.at_ _ i0 e
          have : i0.priv = true := by
            rw [e3]
            cases hpr : i.priv with
            | true => rfl
            | false => exact absurd ⟨rfl, hpr⟩ hne
          rw [hp this] at hx; cases hx
        · rw [e] at hx; cases hx
      · obtain ⟨cur, e, fr, h1, h2⟩ := h.mem.at_ x cs hx
        exact ⟨cur, e, fr, hblk x _ h1 hxb, h2⟩
  · intro x i0 hx
    unfold Gh.grown at hx
    dsimp only at hx
    split at hx
    · rename_i e
      subst e
      cases hx
      refine ⟨hBb, hcur, hle, hmx, hz, fun hp => ?_, fun hp => ?_⟩
      · unfold Gh.grown; dsimp only
        rw [if_neg (by simp [hp])]
        rcases hold with ⟨i1, e, e2, e3, e4⟩ | ⟨_, e, _⟩
        · obtain ⟨_, _, _, _, _, hq, _⟩ := h.lin.at_ _ i1 e
          exact hq (by rw [e3]; exact hp)
        · exact e
      · unfold Gh.grown; dsimp only
        rw [if_pos ⟨rfl, hp⟩]
    · rename_i hne
      obtain ⟨h1, ⟨cur, h2, h3, h4⟩, h5, h6, h7, h8, h9⟩ := h.lin.at_ x i0 hx
      refine ⟨h1, ⟨cur, hblk x _ h2 hne, h3, h4⟩, h5, h6, h7, fun hp => ?_, fun hp => ?_⟩
      · unfold Gh.grown; dsimp only; rw [if_neg (by simp [hne])]; exact h8 hp
      · unfold Gh.grown; dsimp only; rw [if_neg (by simp [hne])]; exact h9 hp
end
end Go.Fw
