/- The abstract values, and the evaluator over them (a framework of this session's own). -/
import Derived.CallsIn
import Derived.RangeFuncIn
import Derived.Orders
import Derived.Laws.Sem
set_option linter.all false
namespace Go.Fw

/-- Abstract values: slices are immutable trees ('imm'), growing ones ('lin'), or arrays in the evaluator's own heap ('own'). -/
inductive V where
  | undef
  | bool (b : Bool)
  | int (k : IntKind) (n : Int)
  | str (s : ByteArray)
  | nilp
  | ptr (id off : Nat)
  | iptr (e : V) (off : Nat)
  | nils
  | nne
  | imm (full : Bool) (n : Nat) (xs : List V)
  | lin (priv : Bool) (e : TypeId) (n : Nat) (xs : List V)
  | own (id off len room : Nat)
  | agg (vs : List V)
  | tup (vs : List V)
  | fn (f : Fn) (first caps : List V)
  | nilf
  | iface (t : TypeId) (v : V)
  | nili
  | nilm
  deriving Inhabited

def V.cells : V → List V
  | .agg vs => vs
  | v => [v]

@[irreducible] def condB {α : Type} (b : Bool) (x y : α) : α := match b with | true => x | false => y
theorem condB_true {α : Type} (x y : α) : condB true x y = x := by unfold condB; rfl
theorem condB_false {α : Type} (x y : α) : condB false x y = y := by unfold condB; rfl
@[irreducible] def bindO {α β : Type} (o : Option α) (k : α → Option β) : Option β := o.bind k
theorem bindO_some {α β : Type} (a : α) (k : α → Option β) : bindO (some a) k = k a := by unfold bindO; rfl
theorem bindO_none {α β : Type} (k : α → Option β) : bindO none k = none := by unfold bindO; rfl
theorem bindO_eq {α β : Type} {o : Option α} {k : α → Option β} {r : β} (h : bindO o k = some r) : ∃ a, o = some a ∧ k a = some r := by
  unfold bindO at h; exact Option.bind_eq_some_iff.1 h
theorem condB_cases {α : Type} {b : Bool} {x y r : α} (h : condB b x y = r) : (b = true ∧ x = r) ∨ (b = false ∧ y = r) := by
  cases b
  · exact .inr ⟨rfl, by rw [condB_false] at h; exact h⟩
  · exact .inl ⟨rfl, by rw [condB_true] at h; exact h⟩

/-- A one-cell value as a reader has it; as its holder has it once there is a reader; as what is left where it was taken. -/
def demote1 : V → V | .lin _ _ n xs => .imm false n xs | v => v
def mark1 : V → V | .lin _ e n xs => .lin false e n xs | v => v
def drop1 : V → V | .lin .. => .undef | v => v
def isLin1 : V → Bool | .lin .. => true | _ => false
def map2 (f : V → V) : V → V | .agg vs => .agg (vs.map f) | v => f v
def map3 (f : V → V) : V → V | .tup vs => .tup (vs.map (map2 f)) | v => map2 f v
def isLin2 : V → Bool | .agg vs => vs.any isLin1 | v => isLin1 v
def isLin3 : V → Bool | .tup vs => vs.any isLin2 | v => isLin2 v

/-- No part of it lies in the evaluator's heap, none grows. -/
def flat0 : V → Bool
  | .undef | .ptr .. | .own .. | .lin .. | .agg _ | .tup _ | .iface .. => false
  | .fn _ first caps => first.isEmpty && caps.isEmpty
  | _ => true
def flat1 : V → Bool
  | .fn _ first caps => first.all flat0 && caps.all flat0
  | .iface _ (.agg vs) => vs.all flat0
  | .iface _ v => flat0 v
  | v => flat0 v
def flat2 : V → Bool
  | .agg vs => vs.all flat1
  | v => flat1 v

/-- A value that a closure can hold. -/
def capOk : V → Bool
  | .undef | .own .. | .lin .. | .agg _ | .tup _ => false
  | .fn _ first caps => first.isEmpty && caps.isEmpty
  | _ => true
/-- A value that a variable can hold. -/
def okV : V → Bool
  | .undef | .tup _ => false
  | _ => true

inductive Blk where
  | cells (cs : List V) (ety : TypeId)
  | dead
  deriving Inhabited

inductive FOut where
  | ret (v : V) (h : List Blk)
  | pan (v : V) (h : List Blk)
  deriving Inhabited

structure St where
  fr : List V
  h : List Blk

/-- How a function is left. -/
inductive Ex where
  | normal | exit (id : Nat) | ret | pan (v : V)

def getS (fr : List V) (i : Nat) : V := fr.getD i .undef

/-- Constants. -/
def ofVal1 : Value → V
  | .bool b => .bool b
  | .int k n => .int k n
  | .string s => .str s
  | .pointer none => .nilp
  | .slice none 0 0 => .nils
  | .nilIface => .nili
  | .nilFunc => .nilf
  | .map none => .nilm
  | _ => .undef
def ofVal : Value → V
  | .agg cs => if cs.toList.all Value.oneCell' then .agg (cs.toList.map ofVal1) else .undef
  | .tuple _ => .undef
  | v => ofVal1 v
def toVal1 : V → Option Value
  | .bool b => some (.bool b)
  | .int k n => some (.int k n)
  | .str s => some (.string s)
  | .nilp => some (.pointer none)
  | .nili => some .nilIface
  | .nilf => some .nilFunc
  | .nilm => some (.map none)
  | .nils => some (.slice none 0 0)
  | _ => none

def St.peek (st : St) : Operand → V
  | .tmp t => getS st.fr t
  | .const v => ofVal v
  | .global _ => .undef
  | .func f => .fn (.func f) [] []
/-- A copy is made: the holder of what grows is marked. -/
def St.useV (st : St) (x : Operand) : V := map3 demote1 (st.peek x)
def St.useS (st : St) : Operand → St
  | .tmp t => condB (isLin3 (getS st.fr t)) { st with fr := st.fr.set t (map3 mark1 (getS st.fr t)) } st
  | _ => st
/-- It is taken away. -/
def St.takeS (st : St) : Operand → St
  | .tmp t => condB (isLin3 (getS st.fr t)) { st with fr := st.fr.set t (map3 drop1 (getS st.fr t)) } st
  | _ => st

def St.useAll (st : St) : List Operand → St
  | [] => st
  | x :: xs => (st.useS x).useAll xs
def St.takeAll (st : St) : List Operand → St
  | [] => st
  | x :: xs => (st.takeS x).takeAll xs

/-- What a computation that asks for nothing but the program comes to. -/
def quiet {α : Type} (P : Program) : Sem α → Option α
  | .pure a => some a
  | .program k => quiet P (k P)
  | _ => none
theorem quiet_run {α : Type} {P : Program} {s : Sem α} {a : α} (h : quiet P s = some a) (w : World) : s.run P w = .ok a w := by
  induction s with
  | pure b => simp [quiet] at h; subst h; rfl
  | program k ih => simp only [quiet] at h; simp only [Sem.run]; exact ih P h
  | _ => simp [quiet] at h

def isAggT (P : Program) (t : TypeId) : Option Bool :=
  match P.underlying t with
  | some (.struct _) | some (.array _ _) => some true
  | some _ => some false
  | none => none
def sizeT (P : Program) (t : TypeId) : Option Nat := (P.info? t).map (·.size)
def bytesT (P : Program) (t : TypeId) : Option Nat := (P.info? t).map (·.bytes)
def zeroT (P : Program) (t : TypeId) : Option V := (P.info? t).bind fun i => i.zero.map ofVal
def elemT (P : Program) (t : TypeId) : Option TypeId := match P.underlying t with | some (.slice e) => some e | _ => none
def fieldT (P : Program) (t : TypeId) (f : Nat) : Option Field := match P.underlying t with | some (.struct fs) => fs[f]? | _ => none

/-- A value of a type out of its cells. -/
def ofCells (a : Bool) (cs : List V) : Option V := match a, cs with
  | true, cs => some (.agg cs)
  | false, [v] => some v
  | _, _ => none

def setAt (cs : List V) (off : Nat) : List V → List V
  | [] => cs
  | v :: vs => setAt (cs.set off v) (off + 1) vs

/-- '==' of two values of a type that is plain: bools, whole numbers, texts, and structs of such. -/
def eqFs (P : Program) (r : TypeId → List V → List V → Option Bool) : List Field → List V → List V → Option Bool
  | [], _, _ => some true
  | f :: fs, xs, ys =>
    if f.name = "_" then eqFs P r fs xs ys else
    match sizeT P f.type with
    | some n => match r f.type ((xs.drop f.offset).take n) ((ys.drop f.offset).take n), eqFs P r fs xs ys with
      | some a, some b => some (a && b)
      | _, _ => none
    | none => none
def eqPlain (P : Program) : Nat → TypeId → List V → List V → Option Bool
  | 0, _, _, _ => none
  | d + 1, t, xs, ys =>
    match P.underlying t, xs, ys with
    | some .bool, [.bool a], [.bool b] => some (a == b)
    | some (.int _), [.int k a], [.int k' b] => if k = k' then some (a == b) else none
    | some .string, [.str a], [.str b] => some (a.toList == b.toList)
    | some (.struct fs), xs, ys => if P.stoodInHeld t then none else eqFs P (eqPlain P d) fs.toList xs ys
    | _, _, _ => none

/-- A slice that is nil against one that is not. -/
def nilEq : V → V → Option Bool
  | .nils, .nne | .nne, .nils | .nils, .imm _ _ (_ :: _) | .nils, .lin _ _ _ (_ :: _) | .nils, .own _ _ (_ + 1) _ | .imm _ _ (_ :: _), .nils | .lin _ _ _ (_ :: _), .nils | .own _ _ (_ + 1) _, .nils => some false
  | _, _ => none

def vbin (P : Program) (op : BinOp) (t : TypeId) (x y : V) : Option V :=
  match op, x, y with
  | .eql, .agg xs, .agg ys => if P.eqGuardType P.depth t ∨ isAggT P t ≠ some true then none else (eqPlain P 40 t xs ys).map .bool
  | .neq, .agg xs, .agg ys => if P.eqGuardType P.depth t ∨ isAggT P t ≠ some true then none else (eqPlain P 40 t xs ys).map fun b => .bool (!b)
  | op, x, y => match nilEq x y with
    | some b => if (elemT P t).isSome then (match op with | .eql => some (.bool b) | .neq => some (.bool (!b)) | _ => none) else none
    | none => match toVal1 x, toVal1 y with
      | some .nilIface, _ | _, some .nilIface => none
      | some a, some b => (quiet P (binOp op t a b)).map ofVal1
      | _, _ => none

def vun (P : Program) (op : UnOp) (x : V) : Option V := match toVal1 x with
  | some a => (quiet P (Op.unary op a)).map ofVal1
  | none => none
def vconv (P : Program) (src dst : TypeId) (x : V) : Option V := match toVal1 x with
  | some a => (quiet P (convert src dst a)).map ofVal1
  | none => none

/-- The element at a place. -/
def idx {α : Type} (xs : List α) (n : Int) : Option α := if 0 ≤ n then xs[n.toNat]? else none

def isTmp (x : Operand) (d : Nat) : Bool := match x with | .tmp t => t == d | _ => false
/-- The parts of a struct, taken one after the other. -/
def buildV (P : Program) (t : TypeId) : St → List V → List (Nat × Operand) → Option (List V × St)
  | st, cs, [] => some (cs, st)
  | st, cs, (i, x) :: r => match fieldT P t i with
    | some g => match sizeT P g.type with
      | some n => if okV (st.peek x) ∧ (st.peek x).cells.length = n ∧ g.offset + n ≤ cs.length then buildV P t (st.takeS x) (setAt cs g.offset (st.peek x).cells) r else none
      | none => none
    | none => none
def fieldsOk (P : Program) (t : TypeId) : Bool := match P.underlying t with
  | some (.struct fs) => fs.toList.all fun f => (sizeT P f.type).isSome
  | _ => false

def slen : V → Option Nat
  | .nils | .nne => some 0
  | .imm _ _ xs | .lin _ _ _ xs => some xs.length
  | .own _ _ n _ => some n
  | .str s => some s.size
  | _ => none

def intOf? : V → Option Int
  | .int _ n => some n
  | _ => none

/-- A part of a slice or a text: from, to, how long it is, the part. -/
def vslice (P : Program) (t : TypeId) (x : V) (lo hi mx : Option Int) : Option (Int × Int × Nat × V) :=
  if mx.isSome && hi.isNone then none else match P.underlying t, x with
  | some (.slice e), .nils => if (sizeT P e).isSome then some (lo.getD 0, hi.getD 0, 0, .nils) else none
  | some (.slice e), .imm full n xs => if sizeT P e = some n then
      some (lo.getD 0, hi.getD xs.length, xs.length, .imm (mx.isSome || (full && hi.isNone)) n ((xs.take (hi.getD xs.length).toNat).drop (lo.getD 0).toNat)) else none
  | some (.slice e), .lin _ _ n xs => if sizeT P e = some n then
      some (lo.getD 0, hi.getD xs.length, xs.length, .imm mx.isSome n ((xs.take (hi.getD xs.length).toNat).drop (lo.getD 0).toNat)) else none
  | some .string, .str s => if mx.isNone then some (lo.getD 0, hi.getD s.size, s.size, .str (s.extract (lo.getD 0).toNat (hi.getD s.size).toNat)) else none
  | _, _ => none
def optInt (st : V → V) (v : Option V) : Option (Option Int) := match v with
  | none => some none
  | some v => (intOf? (st v)).map some

/-- What is appended, as elements. -/
def elems : V → Option (Nat × List V)
  | .nils | .nne => some (0, [])
  | .imm _ n xs | .lin _ _ n xs => some (n, xs)
  | _ => none

def vappend (e : TypeId) (sz : Nat) (s : V) (ys : List V) : Option (Nat × V) :=
  match s, ys with
  | .nils, [] => some (0, .nils)
  | .nils, ys => some (ys.length, .lin true e sz ys)
  | .imm true n xs, [] => some (xs.length, .imm true n xs)
  | .imm true n xs, ys => if n = sz then some (xs.length + ys.length, .lin true e sz (xs ++ ys)) else none
  | .lin p e' n xs, ys => if n = sz ∧ e' = e then some (xs.length + ys.length, .lin p e sz (xs ++ ys)) else none
  | _, _ => none

/-- What is appended to an array of the heap: cells. -/
def ownSrc (h : List Blk) (sz : Nat) : V → Option (Nat × List V)
  | .own id off len _ => match h[id]? with
    | some (.cells cs _) => some (len, (cs.drop off).take (len * sz))
    | _ => none
  | .imm _ n xs => if n = sz then some (xs.length, xs.flatMap V.cells) else none
  | _ => none

/-- The evaluator's context: the program; where a copy takes; where a fresh result is laid into the heap. -/
structure Cx where
  P : Program
  tr : FuncId → List Nat
  thaw : FuncId → List Nat
  un : FuncId → Nat → Option (List Nat)

def put (st : St) (d : Option Tmp) (v : V) : St := match d with
  | some d => { st with fr := st.fr.set d v }
  | none => st

def chunk (n : Nat) : Nat → List V → List V
  | 0, _ => []
  | m + 1, cs => .agg (cs.take n) :: chunk n m (cs.drop n)

/-- A fresh result is laid into the heap, to be written. -/
def thaw1 (h : List Blk) (e : TypeId) : V → Option (V × List Blk)
  | .lin true e' _ xs => if e' = e then some (.own h.length 0 xs.length xs.length, h ++ [.cells (xs.flatMap V.cells) e]) else none
  | _ => none

def vop {α : Type} (C : Cx) (vb : FuncId → List V → List Blk → Option FOut) (f : FuncId) (o : Oper) (st : St) (k : V → St → Option α) (kp : V → St → Option α) : Option α :=
  match o.op with
  | .move x => match o.dst with
    | some d => match st.peek x with
      | .tup vs => k (.tup vs) (st.takeS x)
      | v => if (C.tr f).contains d then k v (st.takeS x) else k (map3 demote1 v) (st.useS x)
    | none => none
  | .assign x => k (st.peek x) (st.takeS x)
  | .pick c a b => match st.peek c with
    | .bool t => condB t (k (st.useV a) (st.useS a)) (k (st.useV b) (st.useS b))
    | _ => none
  | .alloc t => match zeroT C.P t with
    | some z => if okV z then k (.ptr st.h.length 0) { st with h := st.h ++ [.cells z.cells t] } else none
    | none => none
  | .box t x => let st' := st.takeS x
    if okV (st.peek x) then k (.ptr st'.h.length 0) { st' with h := st'.h ++ [.cells (st.peek x).cells t] } else none
  | .build t parts => match zeroT C.P t with
    | some (.agg zs) => if fieldsOk C.P t ∧ (parts.toList.all fun p => !isTmp p.2 (o.dst.getD 0)) then match buildV C.P t st zs parts.toList with
        | some (cs, st') => k (.agg cs) st'
        | none => none
      else none
    | _ => none
  | .buildSlice t n parts => match elemT C.P t with
    | some e => match isAggT C.P e, sizeT C.P e with
      | some a, some sz =>
        if n * sz ≤ 4096 ∧ 0 < sz ∧ (parts.toList.map (·.1)) = List.range n ∧ (zeroT C.P e).isSome then
          let vs := parts.toList.map fun p => st.useV p.2
          let st' := st.useAll (parts.toList.map (·.2))
          if vs.all (fun v => okV v && v.cells.length == sz && (match v with | .agg _ => a | _ => !a)) then
            if vs.all flat2 then k (.imm true sz vs) st'
            else k (.own st'.h.length 0 n n) { st' with h := st'.h ++ [.cells (vs.flatMap V.cells) e] }
          else none
        else none
      | _, _ => none
    | none => none
  | .load t a => match isAggT C.P t, sizeT C.P t with
    | some g, some n => match st.peek a with
      | .ptr id off => match st.h[id]? with
        | some (.cells cs e) =>
          if off + n ≤ cs.length then
            let c := (cs.drop off).take n
            match o.dst with
            | some d =>
              if (C.tr f).contains d then match ofCells g c with
                | some v => k v { st with h := st.h.set id (.cells (setAt cs off (c.map drop1)) e) }
                | none => none
              else match ofCells g (c.map demote1) with
                | some v => condB (c.any isLin1) (k v { st with h := st.h.set id (.cells (setAt cs off (c.map mark1)) e) }) (k v st)
                | none => none
            | none => none
          else none
        | _ => none
      | .iptr x off => if off + n ≤ x.cells.length then match ofCells g ((x.cells.drop off).take n) with
          | some v => k v st
          | none => none
        else none
      | _ => none
    | _, _ => none
  | .store t a x => match (if o.dst = none then sizeT C.P t else none) with
    | some n => match st.peek a with
      | .ptr id off => match st.h[id]? with
        | some (.cells cs e) => let v := st.peek x
          if okV v ∧ v.cells.length = n ∧ off + n ≤ cs.length then let st' := st.takeS x
            k .undef { st' with h := st'.h.set id (.cells (setAt cs off v.cells) e) }
          else none
        | _ => none
      | _ => none
    | none => none
  | .nilCheck x => match st.peek x with
    | .ptr id off => k (.ptr id off) st
    | .iptr e off => k (.iptr e off) st
    | .fn (.func g) a c => k (.fn (.func g) a c) st
    | _ => none
  | .binOp op t x y _ => match vbin C.P op t (st.peek x) (st.peek y) with
    | some v => k v st
    | none => none
  | .unOp op _ x => match vun C.P op (st.peek x) with
    | some v => k v st
    | none => none
  | .convert src dst x => match vconv C.P src dst (st.peek x) with
    | some v => k v st
    | none => none
  | .makeFunc g first caps =>
    let a := first.toList.map st.useV; let c := caps.toList.map st.useV
    if a.all capOk && c.all capOk then k (.fn g a c) (st.useAll (first.toList ++ caps.toList)) else none
  | .makeSlice t l c => match elemT C.P t with
    | some e => match sizeT C.P e, bytesT C.P e, zeroT C.P e, st.peek l, st.peek c with
      | some sz, some by_, some z, .int _ n, .int _ m =>
        condB (decide (0 ≤ n ∧ n ≤ m ∧ m * by_ ≤ 2 ^ 47 ∧ m ≤ 2 ^ 47 ∧ z.cells.length = sz ∧ 0 < sz ∧ okV z = true))
          (if flat2 z ∧ !((C.thaw f).contains (o.dst.getD 0)) then condB (decide (n = m)) (k (.imm true sz (List.replicate n.toNat z)) st) none
          else k (.own st.h.length 0 n.toNat m.toNat) { st with h := st.h ++ [.cells ((List.replicate m.toNat z.cells).flatten) e] }) none
      | _, _, _, _, _ => none
    | none => none
  | .slice t x lo hi mx => match st.peek x with
    | .own id off len room => match optInt _root_.id (lo.map st.peek), optInt _root_.id (hi.map st.peek), optInt _root_.id (mx.map st.peek), (elemT C.P t).bind (sizeT C.P) with
      | some l, some h, some m, some sz => if mx.isSome && hi.isNone then none else condB (decide (0 ≤ l.getD 0 ∧ l.getD 0 ≤ h.getD len ∧ h.getD len ≤ m.getD (max len room) ∧ m.getD (max len room) ≤ (max len room : Nat)))
          (k (.own id (off + (l.getD 0).toNat * sz) ((h.getD len).toNat - (l.getD 0).toNat) ((m.getD (max len room)).toNat - (l.getD 0).toNat)) st) none
      | _, _, _, _ => none
    | _ => match optInt id (lo.map st.peek), optInt id (hi.map st.peek), optInt id (mx.map st.peek) with
    | some l, some h, some m => match vslice C.P t (st.peek x) l h m with
      | some (l, h, n, v) => match m with
        | none => condB (decide (0 ≤ l ∧ l ≤ h ∧ h ≤ n)) (k v (st.useS x)) none
        | some m => condB (decide (0 ≤ l ∧ l ≤ h ∧ h ≤ n ∧ m = h)) (k v (st.useS x)) none
      | none => none
    | _, _, _ => none
  | .fieldAddr s x j => match fieldT C.P s j with
    | some g => match sizeT C.P g.type with
      | some (_ + 1) => match st.peek x with
        | .ptr id off => k (.ptr id (off + g.offset)) st
        | .iptr e off => k (.iptr e (off + g.offset)) st
        | _ => none
      | _ => none
    | none => none
  | .field s x j => match fieldT C.P s j with
    | some g => match isAggT C.P g.type, sizeT C.P g.type with
      | some a, some n => match st.peek x with
        | .agg cs => if g.offset + n ≤ cs.length then match ofCells a (((cs.drop g.offset).take n).map demote1) with
            | some v => k v (st.useS x)
            | none => none
          else none
        | _ => none
      | _, _ => none
    | none => none
  | .indexAddr t x i => match st.peek i with
    | .int _ n => match st.peek x with
      | .imm _ m xs => if (elemT C.P t).bind (sizeT C.P) = some m then bindO (idx xs n) fun e => k (.iptr e 0) st else none
      | .lin _ _ m xs => if (elemT C.P t).bind (sizeT C.P) = some m then bindO (idx xs n) fun e => k (.iptr e 0) (st.useS x) else none
      | .own id off len _ => match (elemT C.P t).bind (sizeT C.P) with
        | some sz => condB (decide (0 ≤ n ∧ n < len)) (k (.ptr id (off + n.toNat * sz)) st) none
        | none => none
      | _ => none
    | _ => none
  | .index t x i => match C.P.underlying t with
    | some .string => match st.peek x, st.peek i with
      | .str s, .int _ n => bindO (idx s.data.toList n) fun b => k (.int .u8 b.toNat) st
      | _, _ => none
    | _ => none
  | .extract x i => match x with
    | .tmp t => match getS st.fr t with
      | .tup vs => match vs[i]? with
        | some v => k v { st with fr := st.fr.set t (.tup (vs.set i (map2 drop1 v))) }
        | none => none
      | _ => none
    | _ => none
  | .call c => match c.callee with
    | .builtin .len => match c.args.toList, c.argTypes.toList with
      | [x], [t] => match C.P.underlying t, st.peek x with
        | some .string, .str s => k (.int .i64 s.size) st
        | some (.slice _), .str _ => none
        | some (.slice _), v => match slen v with
          | some n => k (.int .i64 n) st
          | none => none
        | _, _ => none
      | _, _ => none
    | .builtin .append => match c.args.toList, c.argTypes.toList with
      | [s, x], [t, tx] => match elemT C.P t, elemT C.P tx with
        | some e, some _ => match st.peek s with
          | .own id off len room => match sizeT C.P e, st.h[id]? with
            | some sz, some (.cells cs e') => match ownSrc st.h sz (st.peek x) with
              | some (m, ys) => condB (decide (t = tx ∧ 0 < sz ∧ ys.length = m * sz ∧ len + m ≤ room ∧ off + (len + m) * sz ≤ cs.length) && ys.all fun c => !isLin1 c && okV c)
                  (k (.own id off (len + m) room) { st with h := st.h.set id (.cells (setAt cs (off + len * sz) ys) e') }) none
              | none => none
            | _, _ => none
          | _ => match bytesT C.P e, sizeT C.P e, zeroT C.P e, elems (st.peek x) with
          | some by_, some sz, some z, some (m, ys) => if t = tx ∧ (ys.isEmpty ∨ m = sz) ∧ 0 < sz ∧ 0 < by_ ∧ okV z ∧ z.cells.length = sz then
            let st1 := st.useS x
            match vappend e sz (st1.peek s) ys with
            | some (n, v) => condB (decide (n * by_ ≤ 2 ^ 47) && !isLin3 (getS (st1.takeS s).fr (o.dst.getD 0))) (k v (st1.takeS s)) none
            | none => none
            else none
          | _, _, _, _ => none
        | _, _ => none
      | _, _ => none
    | .builtin .clear => match c.args.toList, c.argTypes.toList with
      | [x], [t] => match elemT C.P t, st.peek x with
        | some e, .own id off len _ => match sizeT C.P e, zeroT C.P e, st.h[id]? with
          | some sz, some z, some (.cells cs e') => condB (decide (0 < sz ∧ z.cells.length = sz ∧ okV z = true ∧ flat2 z = true ∧ o.dst.isNone = true ∧ off + len * sz ≤ cs.length))
              (k .undef { st with h := st.h.set id (.cells (setAt cs off (List.replicate len z.cells).flatten) e') }) none
          | _, _, _ => none
        | _, _ => none
      | _, _ => none
    | .value g => match st.peek g with
      | .fn (.func g) first caps =>
        let args := first ++ (c.args.toList.map st.useV) ++ caps
        let st' := st.useAll c.args.toList
        if args.all flat2 then
          bindO (vb g args []) fun
            | .ret v _ => match o.dst with
              | some d => if (C.thaw f).contains d then match thaw1 st'.h ((elemT C.P o.type).getD 0) v with
                  | some (v, h) => condB (isLin3 (getS st'.fr d)) none (k v { st' with h := h })
                  | none => none
                else k v st'
              | none => k .undef st'
            | .pan v _ => kp v st'
        else bindO (vb g args st'.h) fun
            | .ret v h => k v { st' with h := h }
            | .pan v h => kp v { st' with h := h }
      | _ => none
    | _ => none
  | _ => none

/-- Whether an operation behind a guard is carried out: 'tup []' lies where one was not. -/
def wantedV (ops : List Oper) (fr : List V) (j : Nat) (want : Bool) : Option Bool :=
  match ((ops[j]?).bind (·.dst)) with
  | none => some false
  | some d => match getS fr d with
    | .bool b => some (b == want)
    | .tup [] => some false
    | _ => none

def vops (C : Cx) (vb : FuncId → List V → List Blk → Option FOut) (f : FuncId) (all : List Oper) : List Oper → St → (St → Option FOut) → (V → St → Option FOut) → Option FOut
  | [], st, k, _ => k st
  | o :: r, st, k, kp =>
    match o.guard with
    | none => vop C vb f o st (fun v st => vops C vb f all r (put st o.dst v) k kp) kp
    | some (j, want) => match wantedV all st.fr j want with
      | some b => condB b (vop C vb f o st (fun v st => vops C vb f all r (put st o.dst v) k kp) kp) (vops C vb f all r (put st o.dst (.tup [])) k kp)
      | none => none

/-! ### regions whose order is drawn -/
/-- What an operation has to do with the evaluator's heap. -/
inductive Kd where
  | none | rd (id : Nat) | wr (id : Nat) | al | any
  deriving Inhabited

def nonlin (o : Oper) (st : St) : Bool := o.op.operands.toList.all fun x => !isLin3 (st.peek x)
def kindV (C : Cx) (f : FuncId) (o : Oper) (st : St) : Kd := match o.op with
  | .alloc _ | .box .. => .al
  | .load t a => if (C.tr f).contains (o.dst.getD 0) then .any else match st.peek a with
    | .ptr id off => match st.h[id]?, sizeT C.P t with
      | some (.cells cs _), some n => condB (((cs.drop off).take n).any isLin1) .any (.rd id)
      | _, _ => .any
    | .iptr .. => .none
    | _ => .any
  | .store _ a _ => match st.peek a with
    | .ptr id _ => .wr id
    | _ => .any
  | .buildSlice _ _ parts => condB ((parts.toList.map fun p => st.useV p.2).all flat2) .none .al
  | .makeSlice t _ _ => if (C.thaw f).contains (o.dst.getD 0) then .al else match (elemT C.P t).bind (zeroT C.P) with
    | some z => if flat2 z then .none else .al
    | none => .any
  | .move _ | .assign _ | .pick .. | .build .. | .nilCheck _ | .binOp .. | .unOp .. | .convert .. | .makeFunc .. | .slice .. | .fieldAddr .. | .field .. | .indexAddr .. | .index .. | .extract .. => .none
  | .call c => match c.callee with
    | .builtin .len => .none
    | .builtin .append => match c.args.toList with
      | s :: _ => match st.peek s with
        | .own .. => .any
        | _ => if o.dst.isSome then .none else .any
      | _ => .any
    | .value g => match st.peek g with
      | .fn (.func _) first caps => condB ((first ++ (c.args.toList.map st.useV) ++ caps).all flat2) (match o.dst with | some d => if (C.thaw f).contains d then .al else .none | none => .none) .any
      | _ => .any
    | _ => .any
  | _ => .any
def compatK (h0 : Nat) : Kd → Kd → Bool
  | .any, _ | _, .any => false
  | .none, _ | _, .none => true
  | .rd _, .rd _ => true
  | .rd a, .wr b | .wr a, .rd b | .wr a, .wr b => a != b
  | .al, .rd a | .al, .wr a | .rd a, .al | .wr a, .al => decide (a < h0)
  | .al, .al => false

def guardV (ops : List Oper) (o : Oper) (st : St) : Option Bool := match o.guard with
  | none => some true
  | some (j, want) => wantedV ops st.fr j want

/-- 'un': for each operation, as bits, those before it in the text that it is not ordered with. -/
def unAt (un : List Nat) (j i : Nat) : Bool := (un.getD i 0).testBit j
def involved (un : List Nat) (i : Nat) : Bool := un.getD i 0 != 0 || un.any (·.testBit i)
/-- A slot that none of the operations looks at that this one is not ordered with. -/
def freeTmp (un : List Nat) (ops : List Oper) (i : Nat) (x : Operand) : Bool := match x with
  | .tmp t => (List.range ops.length).all fun j => !(unAt un i j || unAt un j i) || (match ops[j]? with
    | some oj => !(oj.looksAt ops.toArray).contains t
    | none => true)
  | _ => false
def takesOp : Op → Bool
  | .build .. | .store .. => true
  | .call c => match c.callee with | .builtin .append => true | _ => false
  | _ => false
/-- Nothing that grows is among the operands, or it is taken, and none other looks there. -/
def calm (un : List Nat) (ops : List Oper) (i : Nat) (o : Oper) (st : St) : Bool := nonlin o st || (takesOp o.op && o.op.operands.toList.all fun x => !isLin3 (st.peek x) || freeTmp un ops i x)
def notAny : Kd → Bool
  | .any => false
  | _ => true
def vdraw (C : Cx) (vb : Nat → FuncId → List V → List Blk → Option FOut) (f : FuncId) (un : List Nat) (h0 : Nat) (ops : List Oper) : List Nat → List (Nat × Kd) → St → (St → Option FOut) → Option FOut
  | [], _, st, k => k st
  | i :: r, acc, st, k => match ops[i]? with
    | none => none
    | some o => condB (!involved un i || decide (h0 ≤ st.h.length)) (bindO (guardV ops o st) fun b =>
      condB b
        (condB (involved un i)
          (condB (calm un ops i o st && notAny (kindV C f o st) && acc.all fun p => !unAt un p.1 i || compatK h0 p.2 (kindV C f o st))
            (bindO (vop C (vb i) f o st (fun v s => some (v, s)) (fun _ _ => none)) fun q => vdraw C vb f un h0 ops r ((i, kindV C f o st) :: acc) (put q.2 o.dst q.1) k) none)
          (bindO (vop C (vb i) f o st (fun v s => some (v, s)) (fun _ _ => none)) fun q => vdraw C vb f un h0 ops r acc (put q.2 o.dst q.1) k))
        (vdraw C vb f un h0 ops r acc (put st o.dst (.tup [])) k)) none

/-- The code of a function. 'n': rounds and nesting. -/
def vexec (C : Cx) (vb : FuncId → List V → List Blk → Option FOut) (f : FuncId) : Nat → Code → St → (Ex → St → Option FOut) → Option FOut
  | 0, _, _, _ => none
  | n + 1, c, st, K =>
    match c with
    | .skip | .label _ => K .normal st
    | .region _ ops false => vops C vb f ops.toList ops.toList st (K .normal) (fun v st => K (.pan v) st)
    | .region id ops true => match C.un f id with
      | some un => vdraw C (fun _ => vb) f un st.h.length ops.toList (List.range ops.size) [] st (K .normal)
      | none => none
    | .seq a b => vexec C vb f n a st fun e st' => match e with
      | .normal => vexec C vb f n b st' K
      | e => K e st'
    | .cond x a b => match st.peek x with
      | .bool t => condB t (vexec C vb f n a st K) (vexec C vb f n b st K)
      | _ => none
    | .block id b => vexec C vb f n b st fun e st' => match e with
      | .exit i => if i = id then K .normal st' else K (.exit i) st'
      | e => K e st'
    | .loop b => vexec C vb f n b st fun e st' => match e with
      | .normal => vexec C vb f n (.loop b) st' K
      | e => K e st'
    | .exit id => K (.exit id) st
    | .ret => K .ret st
    | _ => none

/-- What lies in the heap is taken out, at a function's end: nobody will write it any more. -/
def escape1 (P : Program) (h : List Blk) : V → Option V
  | .own id off n _ => match h[id]? with
    | some (.cells cs e) => match isAggT P e, sizeT P e with
      | some false, some 1 => condB (decide (off + n ≤ cs.length) && ((cs.drop off).take n).all flat1) (some (.imm false 1 ((cs.drop off).take n))) none
      | some true, some (m + 1) => condB (decide (off + n * (m + 1) ≤ cs.length) && ((cs.drop off).take (n * (m + 1))).all flat1) (some (.imm false (m + 1) (chunk (m + 1) n (cs.drop off)))) none
      | _, _ => none
    | _ => none
  | .lin p e n xs => some (.lin p e n xs)
  | v => condB (flat1 v) (some v) none
def optAll {α β : Type} (f : α → Option β) : List α → Option (List β)
  | [] => some []
  | x :: xs => bindO (f x) fun y => bindO (optAll f xs) fun ys => some (y :: ys)
def escape2 (P : Program) (h : List Blk) : V → Option V
  | .agg vs => bindO (optAll (escape1 P h) vs) fun vs => some (.agg vs)
  | v => escape1 P h v

def resultV (C : Cx) (st : St) : ResultVar → Option V
  | .tmp t => some (getS st.fr t)
  | .cell a t => match getS st.fr a, isAggT C.P t, sizeT C.P t with
    | .ptr id off, some g, some n => match st.h[id]? with
      | some (.cells cs _) => if off + n ≤ cs.length then ofCells g ((cs.drop off).take n) else none
      | _ => none
    | _, _, _ => none
def resultKey (st : St) : ResultVar → Nat × Nat
  | .tmp t => (0, t)
  | .cell a _ => match getS st.fr a with
    | .ptr id _ => (1, id)
    | _ => (2, a)
def distinct : List (Nat × Nat) → Bool
  | [] => true
  | x :: xs => !xs.contains x && distinct xs
def one (vs : List V) : V := match vs with
  | [v] => v
  | vs => .tup vs

def vfinal (C : Cx) (fn : Func) (pure : Bool) : Ex → St → Option FOut
  | .normal, st | .ret, st => bindO (optAll (resultV C st) fn.results.toList) fun vs =>
    if pure then (if distinct (fn.results.toList.map (resultKey st)) then bindO (optAll (escape2 C.P st.h) vs) fun vs => some (.ret (one vs) []) else none)
    else condB (vs.all fun v => !isLin2 v && okV v) (some (.ret (one vs) st.h)) none
  | .pan v, st => if pure then condB (flat2 v) (some (.pan v [])) none else some (.pan v st.h)
  | .exit _, _ => none

def vcall (C : Cx) : Nat → FuncId → List V → List Blk → Option FOut
  | 0, _, _, _ => none
  | n + 1, f, args, h =>
    match C.P.funcs[f]? with
    | some fn => match fn.body with
      | some c => if fn.name == "runtime.NumGoroutine" then none else
        vexec C (vcall C n) f (n + 1) c ⟨args ++ List.replicate (fn.ntmps - args.length) .undef, h⟩ (vfinal C fn (args.all flat2))
      | none => none
    | none => none

end Go.Fw
