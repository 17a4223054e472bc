/- The program that the framework speaks of (one for each seat), and what its package variables hold. -/
import Derived.Test.YtnmfjjfnkhcpkaaGreatDoorProg
import Derived.CallsIn
import Derived.RangeFuncIn
import Derived.Orders
import Derived.Laws.Sem
import Derived.Lib.Bytealg
import Derived.Maps.AppendAt
import Derived.Below
import Derived.Laws.Cells
import Derived.Laws.CopyRow
import Derived.Laws.Tables
import Derived.ChangeKeysEq
import Derived.Laws.Entries
import Derived.Laws.CopyOwn
import Derived.Laws.StructEq
import Derived.Laws.Slices
set_option linter.all false
namespace Go.Fw
@[irreducible] noncomputable def theP:Program:=Go.Proofs.Tryz.prog
theorem theP_eq:theP=Go.Proofs.Tryz.prog:=by unfold theP;rfl
def globNums:Nat→Option (List Nat):=fun g=>match g with
 | 0=>some [240,240,240,240,240,240,240,240,240,240,240,240,240,240,240,240,240,240,240,240,240,240,240,240,240,240,240,240,240,240,240,240,240,240,240,240,240,240,240,240,240,240,240,240,240,240,240,240,240,240,240,240,240,240,240,240,240,240,240,240,240,240,240,240,240,240,240,240,240,240,240,240,240,240,240,240,240,240,240,240,240,240,240,240,240,240,240,240,240,240,240,240,240,240,240,240,240,240,240,240,240,240,240,240,240,240,240,240,240,240,240,240,240,240,240,240,240,240,240,240,240,240,240,240,240,240,240,240,241,241,241,241,241,241,241,241,241,241,241,241,241,241,241,241,241,241,241,241,241,241,241,241,241,241,241,241,241,241,241,241,241,241,241,241,241,241,241,241,241,241,241,241,241,241,241,241,241,241,241,241,241,241,241,241,241,241,241,241,241,241,241,241,241,241,2,2,2,2,2,2,2,2,2,2,2,2,2,2,2,2,2,2,2,2,2,2,2,2,2,2,2,2,2,2,19,3,3,3,3,3,3,3,3,3,3,3,3,35,3,3,52,4,4,4,68,241,241,241,241,241,241,241,241,241,241,241]
 | 1=>some [128,191,160,191,128,159,144,191,128,143,0,0,0,0,0,0,0,0,0,0,0,0,0,0,0,0,0,0,0,0,0,0]
 | 4=>some [0,0,0,0,0,0,0,0,0,1,1,1,1,1,0,0,0,0,0,0,0,0,0,0,0,0,0,0,0,0,0,0,1,0,0,0,0,0,0,0,0,0,0,0,0,0,0,0,0,0,0,0,0,0,0,0,0,0,0,0,0,0,0,0,0,0,0,0,0,0,0,0,0,0,0,0,0,0,0,0,0,0,0,0,0,0,0,0,0,0,0,0,0,0,0,0,0,0,0,0,0,0,0,0,0,0,0,0,0,0,0,0,0,0,0,0,0,0,0,0,0,0,0,0,0,0,0,0,0,0,0,0,0,0,0,0,0,0,0,0,0,0,0,0,0,0,0,0,0,0,0,0,0,0,0,0,0,0,0,0,0,0,0,0,0,0,0,0,0,0,0,0,0,0,0,0,0,0,0,0,0,0,0,0,0,0,0,0,0,0,0,0,0,0,0,0,0,0,0,0,0,0,0,0,0,0,0,0,0,0,0,0,0,0,0,0,0,0,0,0,0,0,0,0,0,0,0,0,0,0,0,0,0,0,0,0,0,0,0,0,0,0,0,0,0,0,0,0,0,0,0,0,0,0,0,0]
 | _=>none
def theGlob (g:Nat):Option (List Value):=(globNums g).map fun l=>l.map fun (n:Nat)=>Value.int .u8 (n:Int)
end Go.Fw
namespace Go.Fw
inductive V where
 | undef
 | bool (b:Bool)
 | int (k:IntKind) (n:Int)
 | str (s:ByteArray)
 | nilp
 | ptr (id off:Nat)
 | iptr (e:V) (off:Nat)
 | nils
 | nne
 | imm (full:Bool) (n:Nat) (xs:List V)
 | lin (priv:Bool) (e:TypeId) (n:Nat) (xs:List V)
 | own (id off len room:Nat)
 | agg (vs:List V)
 | tup (vs:List V)
 | fn (f:Fn) (first caps:List V)
 | nilf
 | iface (t:TypeId) (v:V)
 | nili
 | nilm
 | obj (k id:Nat)
 deriving Inhabited
def V.cells:V→List V
 | .agg vs=>vs
 | v=>[v]
@[irreducible] def condB {α:Type} (b:Bool) (x y:α):α:=match b with | true=>x | false=>y
theorem condB_true {α:Type} (x y:α):condB true x y=x:=by unfold condB;rfl
theorem condB_false {α:Type} (x y:α):condB false x y=y:=by unfold condB;rfl
@[irreducible] def bindO {α β:Type} (o:Option α) (k:α→Option β):Option β:=o.bind k
theorem bindO_some {α β:Type} (a:α) (k:α→Option β):bindO (some a) k=k a:=by unfold bindO;rfl
theorem bindO_none {α β:Type} (k:α→Option β):bindO none k=none:=by unfold bindO;rfl
theorem bindO_eq {α β:Type} {o:Option α} {k:α→Option β} {r:β} (h:bindO o k=some r):∃ a,o=some a∧k a=some r:=by
 unfold bindO at h;exact Option.bind_eq_some_iff.1 h
theorem condB_cases {α:Type} {b:Bool} {x y r:α} (h:condB b x y=r):(b=true∧x=r)∨(b=false∧y=r):=by
 cases b
 ·exact .inr ⟨rfl,by rw [condB_false] at h;exact h⟩
 ·exact .inl ⟨rfl,by rw [condB_true] at h;exact h⟩
def demote1:V→V | .lin _ _ n xs=>.imm false n xs | v=>v
def mark1:V→V | .lin _ e n xs=>.lin false e n xs | v=>v
def drop1:V→V | .lin ..=>.undef | v=>v
def isLin1:V→Bool | .lin ..=>true | _=>false
def map2 (f:V→V):V→V | .agg vs=>.agg (vs.map f) | v=>f v
def map3 (f:V→V):V→V | .tup vs=>.tup (vs.map (map2 f)) | v=>map2 f v
def isLin2:V→Bool | .agg vs=>vs.any isLin1 | v=>isLin1 v
def isLin3:V→Bool | .tup vs=>vs.any isLin2 | v=>isLin2 v
def flat0:V→Bool
 | .undef | .ptr .. | .own .. | .lin .. | .agg _ | .tup _ | .iface .. | .obj ..=>false
 | .fn _ first caps=>first.isEmpty&&caps.isEmpty
 | _=>true
def flat1:V→Bool
 | .fn _ first caps=>first.all flat0&&caps.all flat0
 | .iface _ (.agg vs)=>vs.all flat0
 | .iface _ v=>flat0 v
 | v=>flat0 v
def flat2:V→Bool
 | .agg vs=>vs.all flat1
 | v=>flat1 v
def capOk:V→Bool
 | .undef | .own .. | .lin .. | .agg _ | .tup _=>false
 | .fn _ first caps=>first.isEmpty&&caps.isEmpty
 | _=>true
def okV:V→Bool
 | .undef | .tup _=>false
 | _=>true
def drawRegs:Code→List (Nat×Array Oper)
 | .region id ops true=>[(id,ops)]
 | .seq a b=>drawRegs a++drawRegs b
 | .cond _ a b=>drawRegs a++drawRegs b
 | .block _ b=>drawRegs b
 | .loop b=>drawRegs b
 | .rangeFunc _ _ a b=>drawRegs a++drawRegs b
 | _=>[]
def RegOf (P:Program) (f:FuncId) (id:Nat) (ops:Array Oper):Prop:=∃ fn c,P.funcs[f]?=some fn∧fn.body=some c∧(id,ops)∈drawRegs c
structure LoopV where
 state:LoopState
 pending:Option Code
 f:FuncId
 fr:List V
 ps:Array Tmp
 asg:Code
 body:Code
 deriving Inhabited
inductive Blk where
 | cells (cs:List V) (ety:TypeId)
 | dead
 | gone
 | dfr
 | iter (s:ByteArray) (pos:Nat)
 | mp (es:List (V×V))
 | loop (l:LoopV)
 deriving Inhabited
def Blk.live:Blk→Bool
 | .gone=>false
 | _=>true
def Blk.isDfr:Blk→Bool
 | .dfr=>true
 | _=>false
inductive Df where
 | mark (id:Nat)
 | call (f:FuncId) (caps:List V)
 deriving Inhabited
inductive FOut where
 | ret (v:V) (h:List Blk)
 | pan (v:V) (h:List Blk)
 deriving Inhabited
structure St where
 fr:List V
 h:List Blk
 df:List Df
def dfKeep (df:List Df) (h:List Blk):Bool:=df.all fun d=>match d with
 | .mark id=>match h[id]? with
  | some b=>b.isDfr
  | none=>false
 | .call ..=>true
inductive Ex where
 | normal | exit (id:Nat) | ret | pan (v:V)
def getS (fr:List V) (i:Nat):V:=fr.getD i .undef
def ofVal1:Value→V
 | .bool b=>.bool b
 | .int k n=>.int k n
 | .string s=>.str s
 | .pointer none=>.nilp
 | .slice none 0 0=>.nils
 | .nilIface=>.nili
 | .nilFunc=>.nilf
 | .map none=>.nilm
 | _=>.undef
def ofVal:Value→V
 | .agg cs=>if cs.toList.all Value.oneCell' then .agg (cs.toList.map ofVal1) else .undef
 | .tuple _=>.undef
 | v=>ofVal1 v
def toVal1:V→Option Value
 | .bool b=>some (.bool b)
 | .int k n=>some (.int k n)
 | .str s=>some (.string s)
 | .nilp=>some (.pointer none)
 | .nili=>some .nilIface
 | .nilf=>some .nilFunc
 | .nilm=>some (.map none)
 | .nils=>some (.slice none 0 0)
 | _=>none
def St.peek (st:St):Operand→V
 | .tmp t=>getS st.fr t
 | .const v=>ofVal v
 | .global b=>match theGlob b with
  | some cs=>.iptr (.agg (cs.map ofVal1)) 0
  | none=>.undef
 | .func f=>.fn (.func f) [] []
def St.useV (st:St) (x:Operand):V:=map3 demote1 (st.peek x)
def St.useS (st:St):Operand→St
 | .tmp t=>condB (isLin3 (getS st.fr t)) {st with fr:=st.fr.set t (map3 mark1 (getS st.fr t))} st
 | _=>st
def St.takeS (st:St):Operand→St
 | .tmp t=>condB (isLin3 (getS st.fr t)) {st with fr:=st.fr.set t (map3 drop1 (getS st.fr t))} st
 | _=>st
def St.useAll (st:St):List Operand→St
 | []=>st
 | x::xs=>(st.useS x).useAll xs
def St.takeAll (st:St):List Operand→St
 | []=>st
 | x::xs=>(st.takeS x).takeAll xs
def quiet {α:Type} (P:Program):Sem α→Option α
 | .pure a=>some a
 | .program k=>quiet P (k P)
 | _=>none
theorem quiet_run {α:Type} {P:Program} {s:Sem α} {a:α} (h:quiet P s=some a) (w:World):s.run P w=.ok a w:=by
 induction s with
 | pure b=>simp [quiet] at h;subst h;rfl
 | program k ih=>simp only [quiet] at h;simp only [Sem.run];exact ih P h
 | _=>simp [quiet] at h
def isAggT (P:Program) (t:TypeId):Option Bool :=
 match P.underlying t with
 | some (.struct _) | some (.array _ _)=>some true
 | some _=>some false
 | none=>none
def sizeT (P:Program) (t:TypeId):Option Nat:=(P.info? t).map (·.size)
def bytesT (P:Program) (t:TypeId):Option Nat:=(P.info? t).map (·.bytes)
def zeroT (P:Program) (t:TypeId):Option V:=(P.info? t).bind fun i=>i.zero.map ofVal
def elemT (P:Program) (t:TypeId):Option TypeId:=match P.underlying t with | some (.slice e)=>some e | _=>none
def fieldT (P:Program) (t:TypeId) (f:Nat):Option Field:=match P.underlying t with | some (.struct fs)=>fs[f]? | _=>none
def ofCells (a:Bool) (cs:List V):Option V:=match a,cs with
 | true,cs=>some (.agg cs)
 | false,[v]=>some v
 | _,_=>none
def setAt (cs:List V) (off:Nat):List V→List V
 | []=>cs
 | v::vs=>setAt (cs.set off v) (off+1) vs
def eqFs (P:Program) (r:TypeId→List V→List V→Option Bool):List Field→List V→List V→Option Bool
 | [],_,_=>some true
 | f::fs,xs,ys =>
  if f.name = "_" then eqFs P r fs xs ys else
  match sizeT P f.type with
  | some n=>match r f.type ((xs.drop f.offset).take n) ((ys.drop f.offset).take n),eqFs P r fs xs ys with
   | some a,some b=>some (a&&b)
   | _,_=>none
  | none=>none
def eqPlain (P:Program):Nat→TypeId→List V→List V→Option Bool
 | 0,_,_,_=>none
 | d+1,t,xs,ys =>
  match P.underlying t,xs,ys with
  | some .bool,[.bool a],[.bool b]=>some (a==b)
  | some (.int _),[.int k a],[.int k' b]=>if k=k' then some (a==b) else none
  | some .string,[.str a],[.str b]=>some (a.toList==b.toList)
  | some (.struct fs),xs,ys=>if P.stoodInHeld t then none else eqFs P (eqPlain P d) fs.toList xs ys
  | _,_,_=>none
def nilEq:V→V→Option Bool
 | .nils,.nne | .nne,.nils | .nils,.imm _ _ (_::_) | .nils,.lin _ _ _ (_::_) | .nils,.own _ _ (_+1) _ | .imm _ _ (_::_),.nils | .lin _ _ _ (_::_),.nils | .own _ _ (_+1) _,.nils=>some false
 | _,_=>none
def vbin (P:Program) (op:BinOp) (t:TypeId) (x y:V):Option V :=
 match op,x,y with
 | .eql,.agg xs,.agg ys=>if P.eqGuardType P.depth t∨isAggT P t≠some true then none else (eqPlain P 40 t xs ys).map .bool
 | .neq,.agg xs,.agg ys=>if P.eqGuardType P.depth t∨isAggT P t≠some true then none else (eqPlain P 40 t xs ys).map fun b=>.bool (!b)
 | op,x,y=>match nilEq x y with
  | some b=>if (elemT P t).isSome then (match op with | .eql=>some (.bool b) | .neq=>some (.bool (!b)) | _=>none) else none
  | none=>match toVal1 x,toVal1 y with
   | some .nilIface,_ | _,some .nilIface=>none
   | some a,some b=>(quiet P (binOp op t a b)).map ofVal1
   | _,_=>none
def vbytes (P:Program) (src dst:TypeId) (x:V):Option (Nat×V):=match x with
 | .str s=>match P.underlying src,P.underlying dst with
  | some .string,some (.slice e)=>match P.underlying e with
   | some (.int .u8)=>some (s.size,.imm false 1 (s.data.toList.map fun b=>.int .u8 b.toNat))
   | _=>none
  | _,_=>none
 | _=>none
def vnil (P:Program) (op:BinOp) (t:TypeId) (x:V) (y:Operand):Option Bool:=match y with
 | .const .nilIface=>match P.underlying t,x,op with
  | some (.interface _),.nili,.eql | some (.interface _),.iface ..,.neq=>some true
  | some (.interface _),.nili,.neq | some (.interface _),.iface ..,.eql=>some false
  | _,_,_=>none
 | _=>none
def vun (P:Program) (op:UnOp) (x:V):Option V:=match toVal1 x with
 | some a=>(quiet P (Op.unary op a)).map ofVal1
 | none=>none
def vconv (P:Program) (src dst:TypeId) (x:V):Option V:=match toVal1 x with
 | some a=>(quiet P (convert src dst a)).map ofVal1
 | none=>none
def idx {α:Type} (xs:List α) (n:Int):Option α:=if 0≤n then xs[n.toNat]? else none
def isTmp (x:Operand) (d:Nat):Bool:=match x with | .tmp t=>t==d | _=>false
def buildV (P:Program) (t:TypeId):St→List V→List (Nat×Operand)→Option (List V×St)
 | st,cs,[]=>some (cs,st)
 | st,cs,(i,x)::r=>match fieldT P t i with
  | some g=>match sizeT P g.type with
   | some n=>if okV (st.peek x)∧(st.peek x).cells.length=n∧g.offset+n≤cs.length then buildV P t (st.takeS x) (setAt cs g.offset (st.peek x).cells) r else none
   | none=>none
  | none=>none
def fieldsOk (P:Program) (t:TypeId):Bool:=match P.underlying t with
 | some (.struct fs)=>fs.toList.all fun f=>(sizeT P f.type).isSome
 | _=>false
def slen:V→Option Nat
 | .nils | .nne=>some 0
 | .imm _ _ xs | .lin _ _ _ xs=>some xs.length
 | .own _ _ n _=>some n
 | .str s=>some s.size
 | _=>none
def intOf?:V→Option Int
 | .int _ n=>some n
 | _=>none
def vslice (P:Program) (t:TypeId) (x:V) (lo hi mx:Option Int):Option (Int×Int×Nat×V) :=
 if mx.isSome&&hi.isNone then none else match P.underlying t,x with
 | some (.slice e),.nils=>if (sizeT P e).isSome then some (lo.getD 0,hi.getD 0,0,.nils) else none
 | some (.slice e),.imm full n xs=>if sizeT P e=some n then
   some (lo.getD 0,hi.getD xs.length,xs.length,.imm (mx.isSome||(full&&hi.isNone)) n ((xs.take (hi.getD xs.length).toNat).drop (lo.getD 0).toNat)) else none
 | some (.slice e),.lin _ _ n xs=>if sizeT P e=some n then
   some (lo.getD 0,hi.getD xs.length,xs.length,.imm mx.isSome n ((xs.take (hi.getD xs.length).toNat).drop (lo.getD 0).toNat)) else none
 | some .string,.str s=>if mx.isNone then some (lo.getD 0,hi.getD s.size,s.size,.str (s.extract (lo.getD 0).toNat (hi.getD s.size).toNat)) else none
 | _,_=>none
def optInt (st:V→V) (v:Option V):Option (Option Int):=match v with
 | none=>some none
 | some v=>(intOf? (st v)).map some
def elems:V→Option (Nat×List V)
 | .nils | .nne=>some (0,[])
 | .imm _ n xs | .lin _ _ n xs=>some (n,xs)
 | _=>none
def vappend (e:TypeId) (sz:Nat) (s:V) (ys:List V):Option (Nat×V) :=
 match s,ys with
 | .nils,[]=>some (0,.nils)
 | .nils,ys=>some (ys.length,.lin true e sz ys)
 | .imm true n xs,[]=>some (xs.length,.imm true n xs)
 | .imm true n xs,ys=>if n=sz then some (xs.length+ys.length,.lin true e sz (xs++ys)) else none
 | .lin p e' n xs,ys=>if n=sz∧e'=e then some (xs.length+ys.length,.lin p e sz (xs++ys)) else none
 | _,_=>none
def ownSrc (h:List Blk) (sz:Nat):V→Option (Nat×List V)
 | .own id off len _=>match h[id]? with
  | some (.cells cs _)=>some (len,(cs.drop off).take (len*sz))
  | _=>none
 | .imm _ n xs=>if n=sz then some (xs.length,xs.flatMap V.cells) else none
 | _=>none
structure Cx where
 P:Program
 isP:P=theP
 tr:FuncId→List Nat
 thaw:FuncId→List Nat
 un:FuncId→Nat→Option (List Nat)
 heapy:FuncId→Bool
def put (st:St) (d:Option Tmp) (v:V):St:=match d with
 | some d=>{st with fr:=st.fr.set d v}
 | none=>st
def chunk (n:Nat):Nat→List V→List V
 | 0,_=>[]
 | m+1,cs=>.agg (cs.take n)::chunk n m (cs.drop n)
def thaw1 (P:Program) (h:List Blk) (e:TypeId):V→Option (V×List Blk)
 | .lin true e' n xs=>if e'=e∧sizeT P e=some n then some (.own h.length 0 xs.length xs.length,h++[.cells (xs.flatMap V.cells) e]) else none
 | .nils=>some (.nils,h)
 | .imm full n []=>some (.imm full n [],h)
 | _=>none
theorem thaw1_cases {P:Program} {h h':List Blk} {e:TypeId} {v v':V} (hth:thaw1 P h e v=some (v',h')):(∃ n xs,v=.lin true e n xs∧sizeT P e=some n∧v'=.own h.length 0 xs.length xs.length∧h'=h++[.cells (xs.flatMap V.cells) e])∨(v'=v∧h'=h∧∀ p e n xs,v≠.lin p e n xs):=by
 unfold thaw1 at hth
 split at hth
 ·split at hth
  ·rename_i hc
   obtain ⟨rfl,hs⟩:=hc
   cases hth
   exact .inl ⟨_,_,rfl,hs,rfl,rfl⟩
  ·cases hth
 ·cases hth;exact .inr ⟨rfl,rfl,fun _ _ _ _ h=>by cases h⟩
 ·cases hth;exact .inr ⟨rfl,rfl,fun _ _ _ _ h=>by cases h⟩
 ·cases hth
def vext (P:Program) (g:FuncId) (args:List V):Option V:=match P.funcs[g]? with
 | some fn=>match fn.body,fn.origin == "" with
  | none,true=>match fn.name == "internal/bytealg.IndexByteString" with
   | true=>match args with
    | [.str s,.int .u8 c]=>some (.int .i64 (Lib.indexByte s.data.toList c.toNat.toUInt8))
    | _=>none
   | false=>match fn.name == "internal/bytealg.CountString" with
    | true=>match args with
     | [.str s,.int .u8 c]=>some (.int .i64 (Lib.countByte s.data.toList c.toNat.toUInt8))
     | _=>none
    | false=>none
  | _,_=>none
 | none=>none
def vbx (P:Program) (vb:FuncId→List V→List Blk→Option FOut) (g:FuncId) (args:List V):Option FOut:=match vext P g args with
 | some v=>some (.ret v [])
 | none=>vb g args []
theorem vbx_body {P:Program} {vb:FuncId→List V→List Blk→Option FOut} {g:FuncId} {args:List V} {fn:Func} {c:Code} (h1:P.funcs[g]?=some fn) (h2:fn.body=some c):vbx P vb g args=vb g args []:=by
 unfold vbx vext
 rw [h1]
 dsimp only
 rw [h2]
def isOwnV:V→Bool
 | .own ..=>true
 | _=>false
def vgrow {α:Type} (P:Program) (t tx e:TypeId) (sz id off len room:Nat) (cs:List V) (e':TypeId) (m:Nat) (ys:List V) (st:St) (k:V→St→Option α):Option α :=
 match bytesT P e,zeroT P e with
 | some by_,some z=>condB (decide (t=tx∧e'=e∧off=0∧0<sz∧0<by_∧z.cells.length=sz∧ys.length=m*sz∧len*sz≤cs.length∧0<m∧(len+m)*by_≤2 ^ 47)&&okV z&&(ys.all fun c=>!isLin1 c&&okV c)&&((cs.take (len*sz)).all fun c=>!isLin1 c&&okV c))
   (k (.own st.h.length 0 (len+m) (len+m)) {st with h:=(st.h.set id .gone)++[.cells (cs.take (len*sz)++ys) e]}) none
 | _,_=>none
def vnew {α:Type} (P:Program) (t tx e:TypeId) (st:St) (s x:V) (k:V→St→Option α):Option α :=
 match bytesT P e,sizeT P e,zeroT P e with
 | some by_,some sz,some z=>match (match s with | .nils=>some [] | .imm true n xs=>if n=sz then some xs else none | _=>none),ownSrc st.h sz x with
  | some xs,some (m,ys)=>condB (decide (t=tx∧0<sz∧0<by_∧z.cells.length=sz∧ys.length=m*sz∧0<m∧(xs.length+m)*by_≤2 ^ 47)&&okV z&&(ys.all fun c=>!isLin1 c&&okV c))
    (k (.own st.h.length 0 (xs.length+m) (xs.length+m)) {st with h:=st.h++[.cells (xs.flatMap V.cells++ys) e]})
    (condB (decide (t=tx∧0<sz∧m=0)) (k s st) none)
  | _,_=>none
 | _,_,_=>none
def vblt {α:Type} (P:Program) (b:Builtin) (o:Oper) (st:St) (c:Call) (k:V→St→Option α):Option α:=match b,c.args.toList.map st.peek,c.argTypes.toList with
 | .min,[.int a x,.int _ y],_=>k (.int a (if y<x then y else x)) st
 | .max,[.int a x,.int _ y],_=>k (.int a (if x<y then y else x)) st
 | .cap,[.nils],[t]=>match elemT P t with
  | some _=>k (.int .i64 0) st
  | none=>none
 | .cap,[.imm true _ xs],[t]=>match elemT P t with
  | some _=>k (.int .i64 xs.length) st
  | none=>none
 | .copy,[.own id off len _,x],[t,_]=>match (elemT P t).bind (sizeT P),st.h[id]? with
  | some sz,some (.cells cs e')=>match ownSrc st.h sz x with
   | some (m,ys)=>condB (decide (0<sz∧ys.length=m*sz∧off+(min m len)*sz≤cs.length)&&ys.all fun c=>!isLin1 c&&okV c)
     (k (.int .i64 (min m len)) {st with h:=st.h.set id (.cells (setAt cs off (ys.take (min m len*sz))) e')}) none
   | none=>none
  | _,_=>none
 | _,_,_=>none
def findV (kd:TypeDesc) (k:Value):List (V×V)→Nat→Option (Option (Nat×V))
 | [],_=>some none
 | e::es,i=>match (toVal1 e.1).bind (Instr.sameNow kd k) with
  | some true=>some (some (i,e.2))
  | some false=>findV kd k es (i+1)
  | none=>none
def vop2 {α:Type} (P:Program) (o:Oper) (st:St) (k:V→St→Option α):Option α :=
 match o.op with
 | .range t x=>match P.underlying t,st.peek x with
  | some .string,.str s=>k (.ptr st.h.length 0) {st with h:=st.h++[.iter s 0]}
  | _,_=>none
 | .next x true=>match st.peek x with
  | .ptr id 0=>match st.h[id]? with
   | some (.iter s p)=>condB (decide (p<s.size))
     (k (.tup [.bool true,.int .i64 p,.int .i32 (Utf8.decode s p).1]) {st with h:=st.h.set id (.iter s (p+(Utf8.decode s p).2))})
     (k (.tup [.bool false]) st)
   | _=>none
  | _=>none
 | .makeMap t none=>k (.obj 0 st.h.length) {st with h:=st.h++[.mp []]}
 | .makeMap t (some x)=>match P.underlying t,st.peek x with
  | some (.map _ _),.int _ _=>k (.obj 0 st.h.length) {st with h:=st.h++[.mp []]}
  | _,_=>none
 | .mapUpdate t m kx x | .insert t m kx x=>match P.underlying t,st.peek m,toVal1 (st.peek kx) with
  | some (.map kt _),.obj 0 id,some kv=>match P.underlying kt,st.h[id]? with
   | some kd,some (.mp es)=>condB ((Instr.sameNow kd kv kv==some true)&&o.dst.isNone&&!isLin2 (st.peek x)&&okV (st.peek x)) (match findV kd kv es 0 with
     | some none=>k .undef {st with h:=st.h.set id (.mp (es++[(st.peek kx,st.peek x)]))}
     | some (some (i,_))=>k .undef {st with h:=st.h.set id (.mp (es.set i (st.peek kx,st.peek x)))}
     | none=>none) none
   | _,_=>none
  | _,_,_=>none
 | .lookup t m kx ok=>match P.underlying t,st.peek m,toVal1 (st.peek kx) with
  | some (.map kt et),.obj 0 id,some kv=>match P.underlying kt,st.h[id]?,zeroT P et with
   | some kd,some (.mp es),some z=>condB ((Instr.sameNow kd kv kv==some true)&&okV z) (match findV kd kv es 0 with
     | some none=>if ok then k (.tup [z,.bool false]) st else k z st
     | some (some (_,v))=>if ok then k (.tup [v,.bool true]) st else k v st
     | none=>none) none
   | _,_,_=>none
  | _,_,_=>none
 | .makeInterface t x=>match P.underlying t with
  | some (.interface _)=>none
  | some _=>condB (flat0 (st.peek x)&&okV (st.peek x)) (k (.iface t (st.peek x)) st) none
  | none=>none
 | .typeAssert x _ t ok=>match P.underlying t,st.peek x,zeroT P t with
  | some (.interface _),_,_=>none
  | some _,.nili,some z=>condB (ok&&okV z) (k (.tup [z,.bool false]) st) none
  | some _,.iface t' v,some z=>condB (decide (t=t')) (if ok then k (.tup [v,.bool true]) st else k v st) (condB (ok&&okV z) (k (.tup [z,.bool false]) st) none)
  | _,_,_=>none
 | _=>none
def ownSz (P:Program) (h:List Blk) (id:Nat):Option Nat:=match h[id]? with
 | some (.cells _ e)=>sizeT P e
 | _=>none
@[irreducible] def yBase:Nat:=1000000
def vop {α:Type} (C:Cx) (vb:FuncId→List V→List Blk→Option FOut) (f:FuncId) (o:Oper) (st:St) (k:V→St→Option α) (kp:V→St→Option α):Option α :=
 match o.op with
 | .move x=>match o.dst with
  | some d=>match st.peek x with
   | .tup vs=>k (.tup vs) (st.takeS x)
   | v=>if (C.tr f).contains d then k v (st.takeS x) else k (map3 demote1 v) (st.useS x)
  | none=>none
 | .assign x=>k (st.peek x) (st.takeS x)
 | .pick c a b=>match st.peek c with
  | .bool t=>condB t (k (st.useV a) (st.useS a)) (k (st.useV b) (st.useS b))
  | _=>none
 | .alloc t=>match zeroT C.P t with
  | some z=>if okV z then k (.ptr st.h.length 0) {st with h:=st.h++[.cells z.cells t]} else none
  | none=>none
 | .box t x=>let st':=st.takeS x
  if okV (st.peek x) then k (.ptr st'.h.length 0) {st' with h:=st'.h++[.cells (st.peek x).cells t]} else none
 | .build t parts=>match zeroT C.P t with
  | some (.agg zs)=>if fieldsOk C.P t∧(parts.toList.all fun p=>!isTmp p.2 (o.dst.getD 0)) then match buildV C.P t st zs parts.toList with
    | some (cs,st')=>k (.agg cs) st'
    | none=>none
   else none
  | _=>none
 | .buildSlice t n parts=>match elemT C.P t with
  | some e=>match isAggT C.P e,sizeT C.P e with
   | some a,some sz =>
    if n*sz≤4096∧0<sz∧(parts.toList.map (·.1))=List.range n∧(zeroT C.P e).isSome then
     let vs:=parts.toList.map fun p=>st.useV p.2
     let st':=st.useAll (parts.toList.map (·.2))
     if vs.all (fun v=>okV v&&v.cells.length==sz&&(match v with | .agg _=>a | _=>!a)) then
      if vs.all flat2 then k (.imm true sz vs) st'
      else k (.own st'.h.length 0 n n) {st' with h:=st'.h++[.cells (vs.flatMap V.cells) e]}
     else none
    else none
   | _,_=>none
  | none=>none
 | .load t a=>match isAggT C.P t,sizeT C.P t with
  | some g,some n=>match st.peek a with
   | .ptr id off=>match st.h[id]? with
    | some (.cells cs e) =>
     if off+n≤cs.length then
      let c:=(cs.drop off).take n
      match o.dst with
      | some d =>
       if (C.tr f).contains d then match ofCells g c with
        | some v=>k v {st with h:=st.h.set id (.cells (setAt cs off (c.map drop1)) e)}
        | none=>none
       else match ofCells g (c.map demote1) with
        | some v=>condB (c.any isLin1) (k v {st with h:=st.h.set id (.cells (setAt cs off (c.map mark1)) e)}) (k v st)
        | none=>none
      | none=>none
     else none
    | _=>none
   | .iptr x off=>if off+n≤x.cells.length then match ofCells g ((x.cells.drop off).take n) with
     | some v=>k v st
     | none=>none
    else none
   | _=>none
  | _,_=>none
 | .store t a x=>match (if o.dst=none then sizeT C.P t else none) with
  | some n=>match st.peek a with
   | .ptr id off=>match st.h[id]? with
    | some (.cells cs e)=>let v:=st.peek x
     if okV v∧v.cells.length=n∧off+n≤cs.length then let st':=st.takeS x
      k .undef {st' with h:=st'.h.set id (.cells (setAt cs off v.cells) e)}
     else none
    | _=>none
   | _=>none
  | none=>none
 | .nilCheck x=>match st.peek x with
  | .ptr id off=>k (.ptr id off) st
  | .iptr e off=>k (.iptr e off) st
  | .fn (.func g) a c=>k (.fn (.func g) a c) st
  | _=>none
 | .binOp op t x y _=>match vnil C.P op t (st.peek x) y with
  | some b=>k (.bool b) st
  | none=>match vbin C.P op t (st.peek x) (st.peek y) with
  | some v=>k v st
  | none=>none
 | .unOp op _ x=>match vun C.P op (st.peek x) with
  | some v=>k v st
  | none=>none
 | .convert src dst x=>match vbytes C.P src dst (st.peek x) with
  | some (m,v)=>condB (decide (m≤2 ^ 47)) (k v st) none
  | none=>match vconv C.P src dst (st.peek x) with
  | some v=>k v st
  | none=>none
 | .makeFunc g first caps =>
  let a:=first.toList.map st.useV;let c:=caps.toList.map st.useV
  if a.all capOk&&c.all capOk then k (.fn g a c) (st.useAll (first.toList++caps.toList)) else none
 | .makeSlice t l c=>match elemT C.P t with
  | some e=>match sizeT C.P e,bytesT C.P e,zeroT C.P e,st.peek l,st.peek c with
   | some sz,some by_,some z,.int _ n,.int _ m =>
    condB (decide (0≤n∧n≤m∧m*by_≤2 ^ 47∧m≤2 ^ 47∧z.cells.length=sz∧0<sz∧okV z=true))
     (if flat2 z∧!((C.thaw f).contains (o.dst.getD 0)) then condB (decide (n=m)) (k (.imm true sz (List.replicate n.toNat z)) st) none
     else k (.own st.h.length 0 n.toNat m.toNat) {st with h:=st.h++[.cells ((List.replicate m.toNat z.cells).flatten) e]}) none
   | _,_,_,_,_=>none
  | none=>none
 | .slice t x lo hi mx=>match st.peek x with
  | .own id off len room=>match optInt _root_.id (lo.map st.peek),optInt _root_.id (hi.map st.peek),optInt _root_.id (mx.map st.peek),(elemT C.P t).bind (sizeT C.P) with
   | some l,some h,some m,some sz=>if mx.isSome&&hi.isNone then none else condB (mx.isSome&&decide (0≤l.getD 0∧l.getD 0=m.getD 0∧h.getD len=m.getD 0∧l.getD 0≤(max len room:Nat)∧0<sz)) (k (.imm true sz []) st)<|condB (decide (0≤l.getD 0∧l.getD 0≤h.getD len∧h.getD len≤m.getD (max len room)∧m.getD (max len room)≤(max len room:Nat))&&(ownSz C.P st.h id==some sz))
     (k (.own id (off+(l.getD 0).toNat*sz) ((h.getD len).toNat-(l.getD 0).toNat) ((m.getD (max len room)).toNat-(l.getD 0).toNat)) st) none
   | _,_,_,_=>none
  | _=>match optInt id (lo.map st.peek),optInt id (hi.map st.peek),optInt id (mx.map st.peek) with
  | some l,some h,some m=>match vslice C.P t (st.peek x) l h m with
   | some (l,h,n,v)=>match m with
    | none=>condB (decide (0≤l∧l≤h∧h≤n)) (k v (st.useS x)) none
    | some m=>condB (decide (0≤l∧l≤h∧h≤n∧m=h)) (k v (st.useS x)) none
   | none=>none
  | _,_,_=>none
 | .fieldAddr s x j=>match fieldT C.P s j with
  | some g=>match sizeT C.P g.type with
   | some (_+1)=>match st.peek x with
    | .ptr id off=>k (.ptr id (off+g.offset)) st
    | .iptr e off=>k (.iptr e (off+g.offset)) st
    | _=>none
   | _=>none
  | none=>none
 | .field s x j=>match fieldT C.P s j with
  | some g=>match isAggT C.P g.type,sizeT C.P g.type with
   | some a,some n=>match st.peek x with
    | .agg cs=>if g.offset+n≤cs.length then match ofCells a (((cs.drop g.offset).take n).map demote1) with
      | some v=>k v (st.useS x)
      | none=>none
     else none
    | _=>none
   | _,_=>none
  | none=>none
 | .indexAddr t x i=>match st.peek i with
  | .int _ n=>match st.peek x with
   | .imm _ m xs=>if (elemT C.P t).bind (sizeT C.P)=some m then bindO (idx xs n) fun e=>k (.iptr e 0) st else none
   | .lin _ _ m xs=>if (elemT C.P t).bind (sizeT C.P)=some m then bindO (idx xs n) fun e=>k (.iptr e 0) (st.useS x) else none
   | .own id off len _=>match (elemT C.P t).bind (sizeT C.P) with
    | some sz=>condB (decide (0≤n∧n<len)) (k (.ptr id (off+n.toNat*sz)) st) none
    | none=>none
   | .iptr e off=>match C.P.underlying t with
    | some (.array m el)=>match sizeT C.P el with
     | some sz=>condB (decide (0≤n∧n<m)) (k (.iptr e (off+n.toNat*sz)) st) none
     | none=>none
    | _=>none
   | .ptr id off=>match C.P.underlying t with
    | some (.array m el)=>match sizeT C.P el with
     | some sz=>condB (decide (0≤n∧n<m)) (k (.ptr id (off+n.toNat*sz)) st) none
     | none=>none
    | _=>none
   | _=>none
  | _=>none
 | .index t x i=>match C.P.underlying t with
  | some .string=>match st.peek x,st.peek i with
   | .str s,.int _ n=>bindO (idx s.data.toList n) fun b=>k (.int .u8 b.toNat) st
   | _,_=>none
  | _=>none
 | .extract x i=>match x with
  | .tmp t=>match getS st.fr t with
   | .tup vs=>match vs[i]? with
    | some v=>k v {st with fr:=st.fr.set t (.tup (vs.set i (map2 drop1 v)))}
    | none=>none
   | _=>none
  | _=>none
 | .call c=>match c.callee with
  | .builtin .len=>match c.args.toList,c.argTypes.toList with
   | [x],[t]=>match C.P.underlying t,st.peek x with
    | some .string,.str s=>k (.int .i64 s.size) st
    | some (.slice _),.str _=>none
    | some (.slice _),v=>match slen v with
     | some n=>k (.int .i64 n) st
     | none=>none
    | _,_=>none
   | _,_=>none
  | .builtin .append=>match c.args.toList,c.argTypes.toList with
   | [s,x],[t,tx]=>match elemT C.P t,elemT C.P tx with
    | some e,some _=>match st.peek s with
     | .own id off len room=>match sizeT C.P e,st.h[id]? with
      | some sz,some (.cells cs e')=>match ownSrc st.h sz (st.peek x) with
       | some (m,ys)=>condB (decide (t=tx∧0<sz∧ys.length=m*sz∧len+m≤room∧off+(len+m)*sz≤cs.length)&&ys.all fun c=>!isLin1 c&&okV c)
         (k (.own id off (len+m) room) {st with h:=st.h.set id (.cells (setAt cs (off+len*sz) ys) e')})
         (vgrow C.P t tx e sz id off len room cs e' m ys st k)
       | none=>none
      | _,_=>none
     | _=>condB (isOwnV (st.peek x)||(C.thaw f).contains (o.dst.getD 0)) (vnew C.P t tx e st (st.peek s) (st.peek x) k)<|match bytesT C.P e,sizeT C.P e,zeroT C.P e,elems (st.peek x) with
     | some by_,some sz,some z,some (m,ys)=>if t=tx∧(ys.isEmpty∨m=sz)∧0<sz∧0<by_∧okV z∧z.cells.length=sz then
      let st1:=st.useS x
      match vappend e sz (st1.peek s) ys with
      | some (n,v)=>condB (decide (n*by_≤2 ^ 47)&&!isLin3 (getS (st1.takeS s).fr (o.dst.getD 0))) (k v (st1.takeS s)) none
      | none=>none
      else none
     | _,_,_,_=>none
    | _,_=>none
   | _,_=>none
  | .builtin .clear=>match c.args.toList,c.argTypes.toList with
   | [x],[t]=>match elemT C.P t,st.peek x with
    | some e,.own id off len _=>match sizeT C.P e,zeroT C.P e,st.h[id]? with
     | some sz,some z,some (.cells cs e')=>condB (decide (0<sz∧z.cells.length=sz∧okV z=true∧flat2 z=true∧o.dst.isNone=true∧off+len*sz≤cs.length))
       (k .undef {st with h:=st.h.set id (.cells (setAt cs off (List.replicate len z.cells).flatten) e')}) none
     | _,_,_=>none
    | _,_=>none
   | _,_=>none
  | .builtin b=>vblt C.P b o st c k
  | .value g=>match st.peek g with
   | .fn (.func g) first caps =>
    let args:=first++(c.args.toList.map st.useV)++caps
    let st':=st.useAll c.args.toList
    if yBase≤g then none else
    if args.all flat2&&!C.heapy g then
     bindO (vbx C.P vb g args) fun
      | .ret v _=>match o.dst with
       | some d=>if (C.thaw f).contains d then match thaw1 C.P st'.h ((elemT C.P o.type).getD 0) v with
         | some (v,h)=>condB (isLin3 (getS st'.fr d)) none (k v {st' with h:=h})
         | none=>none
        else k v st'
       | none=>k .undef st'
      | .pan v _=>kp v st'
    else bindO (vb g args st'.h) fun
      | .ret v h=>condB (dfKeep st'.df h) (k v {st' with h:=h}) none
      | .pan v h=>condB (dfKeep st'.df h) (kp v {st' with h:=h}) none
   | .obj 1 id =>
    let args:=c.args.toList.map st.useV
    let st':=st.useAll c.args.toList
    bindO (vb (yBase+id) args st'.h) fun
      | .ret v h=>condB (dfKeep st'.df h) (k v {st' with h:=h}) none
      | .pan _ _=>none
   | _=>none
  | _=>none
 | .panic x=>match st.peek x with
  | .iface t v=>kp (.iface t v) st
  | _=>none
 | _=>vop2 C.P o st k
/-! ### the same,for the kernel: rows by their recursor,arm by arm -/
noncomputable section
def getO {α:Type} (l:List α) (i:Nat):Option α:=List.rec (motive:=fun _=>Nat→Option α) (fun _=>none) (fun v _ ih i=>Nat.rec (motive:=fun _=>Option α) (some v) (fun j _=>ih j) i) l i
def getF (l:List V) (i:Nat):V:=List.rec (motive:=fun _=>Nat→V) (fun _=>.undef) (fun v _ ih i=>Nat.rec (motive:=fun _=>V) v (fun j _=>ih j) i) l i
def setF {α:Type} (l:List α) (i:Nat) (x:α):List α:=List.rec (motive:=fun _=>Nat→List α) (fun _=>[]) (fun v tl ih i=>Nat.rec (motive:=fun _=>List α) (x::tl) (fun j _=>v::ih j) i) l i
theorem getO_eq {α:Type} {l:List α} {i:Nat}:getO l i=l[i]?:=by
 induction l generalizing i with
 | nil=>rfl
 | cons v l ih =>
  cases i with
  | zero=>rfl
  | succ i=>rw [List.getElem?_cons_succ,←ih];rfl
theorem getF_eq {l:List V} {i:Nat}:getF l i=getS l i:=by
 unfold getS
 induction l generalizing i with
 | nil=>rfl
 | cons v l ih =>
  cases i with
  | zero=>rfl
  | succ i=>rw [List.getD_cons_succ,←ih];rfl
theorem setF_eq {α:Type} {l:List α} {i:Nat} {x:α}:setF l i x=l.set i x:=by
 induction l generalizing i with
 | nil=>rfl
 | cons v l ih =>
  cases i with
  | zero=>rfl
  | succ i=>rw [List.set_cons_succ,←ih];rfl
def St.peekF (st:St):Operand→V
 | .tmp t=>getF st.fr t
 | .const v=>ofVal v
 | .global b=>match theGlob b with
  | some cs=>.iptr (.agg (cs.map ofVal1)) 0
  | none=>.undef
 | .func f=>.fn (.func f) [] []
theorem peekF_eq:St.peekF=St.peek:=by
 funext st x
 cases x with
 | tmp t=>exact getF_eq
 | _=>rfl
def St.useVF (st:St) (x:Operand):V:=map3 demote1 (st.peekF x)
theorem useVF_eq:St.useVF=St.useV:=by
 funext st x
 unfold St.useVF St.useV
 rw [peekF_eq]
def St.useSF (st:St):Operand→St
 | .tmp t=>condB (isLin3 (getF st.fr t)) {st with fr:=setF st.fr t (map3 mark1 (getF st.fr t))} st
 | _=>st
theorem useSF_eq:St.useSF=St.useS:=by
 funext st x
 cases x with
 | tmp t=>unfold St.useSF St.useS;simp only [getF_eq,setF_eq]
 | _=>rfl
def St.takeSF (st:St):Operand→St
 | .tmp t=>condB (isLin3 (getF st.fr t)) {st with fr:=setF st.fr t (map3 drop1 (getF st.fr t))} st
 | _=>st
theorem takeSF_eq:St.takeSF=St.takeS:=by
 funext st x
 cases x with
 | tmp t=>unfold St.takeSF St.takeS;simp only [getF_eq,setF_eq]
 | _=>rfl
def St.useAllF (st:St):List Operand→St
 | []=>st
 | x::xs=>(st.useSF x).useAllF xs
theorem useAllF_eq:St.useAllF=St.useAll:=by
 funext st xs
 induction xs generalizing st with
 | nil=>rfl
 | cons x xs ih=>unfold St.useAllF St.useAll;rw [ih,useSF_eq]
def St.takeAllF (st:St):List Operand→St
 | []=>st
 | x::xs=>(st.takeSF x).takeAllF xs
theorem takeAllF_eq:St.takeAllF=St.takeAll:=by
 funext st xs
 induction xs generalizing st with
 | nil=>rfl
 | cons x xs ih=>unfold St.takeAllF St.takeAll;rw [ih,takeSF_eq]
def buildVF (P:Program) (t:TypeId):St→List V→List (Nat×Operand)→Option (List V×St)
 | st,cs,[]=>some (cs,st)
 | st,cs,(i,x)::r=>match fieldT P t i with
  | some g=>match sizeT P g.type with
   | some n=>if okV (st.peekF x)∧(st.peekF x).cells.length=n∧g.offset+n≤cs.length then buildVF P t (st.takeSF x) (setAt cs g.offset (st.peekF x).cells) r else none
   | none=>none
  | none=>none
theorem buildVF_eq {P:Program} {t:TypeId}:buildVF P t=buildV P t:=by
 funext st cs l
 induction l generalizing st cs with
 | nil=>rfl
 | cons p r ih =>
  obtain ⟨i,x⟩:=p
  unfold buildVF buildV
  simp only [ih,peekF_eq,takeSF_eq]
def ownSrcF (h:List Blk) (sz:Nat):V→Option (Nat×List V)
 | .own id off len _=>match (getO h id) with
  | some (.cells cs _)=>some (len,(cs.drop off).take (len*sz))
  | _=>none
 | .imm _ n xs=>if n=sz then some (xs.length,xs.flatMap V.cells) else none
 | _=>none
theorem ownSrcF_eq {h:List Blk} {sz:Nat}:ownSrcF h sz=ownSrc h sz:=by
 funext v
 unfold ownSrcF ownSrc
 simp only [getO_eq,getF_eq,setF_eq,peekF_eq,useVF_eq,useSF_eq,takeSF_eq,useAllF_eq,takeAllF_eq]
def vgrowF {α:Type} (P:Program) (t tx e:TypeId) (sz id off len room:Nat) (cs:List V) (e':TypeId) (m:Nat) (ys:List V) (st:St) (k:V→St→Option α):Option α :=
 match bytesT P e,zeroT P e with
 | some by_,some z=>condB (decide (t=tx∧e'=e∧off=0∧0<sz∧0<by_∧z.cells.length=sz∧ys.length=m*sz∧len*sz≤cs.length∧0<m∧(len+m)*by_≤2 ^ 47)&&okV z&&(ys.all fun c=>!isLin1 c&&okV c)&&((cs.take (len*sz)).all fun c=>!isLin1 c&&okV c))
   (k (.own st.h.length 0 (len+m) (len+m)) {st with h:=(setF st.h id .gone)++[.cells (cs.take (len*sz)++ys) e]}) none
 | _,_=>none
theorem vgrowF_eq {α:Type} {P:Program} {t tx e:TypeId} {sz id off len room:Nat} {cs:List V} {e':TypeId} {m:Nat} {ys:List V} {st:St} {k:V→St→Option α}:vgrowF P t tx e sz id off len room cs e' m ys st k=vgrow P t tx e sz id off len room cs e' m ys st k:=by
 unfold vgrowF vgrow
 simp only [getO_eq,getF_eq,setF_eq,peekF_eq,useVF_eq,useSF_eq,takeSF_eq,useAllF_eq,takeAllF_eq]
def vnewF {α:Type} (P:Program) (t tx e:TypeId) (st:St) (s x:V) (k:V→St→Option α):Option α :=
 match bytesT P e,sizeT P e,zeroT P e with
 | some by_,some sz,some z=>match (match s with | .nils=>some [] | .imm true n xs=>if n=sz then some xs else none | _=>none),ownSrcF st.h sz x with
  | some xs,some (m,ys)=>condB (decide (t=tx∧0<sz∧0<by_∧z.cells.length=sz∧ys.length=m*sz∧0<m∧(xs.length+m)*by_≤2 ^ 47)&&okV z&&(ys.all fun c=>!isLin1 c&&okV c))
    (k (.own st.h.length 0 (xs.length+m) (xs.length+m)) {st with h:=st.h++[.cells (xs.flatMap V.cells++ys) e]})
    (condB (decide (t=tx∧0<sz∧m=0)) (k s st) none)
  | _,_=>none
 | _,_,_=>none
theorem vnewF_eq {α:Type} {P:Program} {t tx e:TypeId} {st:St} {s x:V} {k:V→St→Option α}:vnewF P t tx e st s x k=vnew P t tx e st s x k:=by
 unfold vnewF vnew
 simp only [getO_eq,getF_eq,setF_eq,peekF_eq,useVF_eq,useSF_eq,takeSF_eq,useAllF_eq,takeAllF_eq,ownSrcF_eq]
def vbltF {α:Type} (P:Program) (b:Builtin) (o:Oper) (st:St) (c:Call) (k:V→St→Option α):Option α:=match b,c.args.toList.map st.peekF,c.argTypes.toList with
 | .min,[.int a x,.int _ y],_=>k (.int a (if y<x then y else x)) st
 | .max,[.int a x,.int _ y],_=>k (.int a (if x<y then y else x)) st
 | .cap,[.nils],[t]=>match elemT P t with
  | some _=>k (.int .i64 0) st
  | none=>none
 | .cap,[.imm true _ xs],[t]=>match elemT P t with
  | some _=>k (.int .i64 xs.length) st
  | none=>none
 | .copy,[.own id off len _,x],[t,_]=>match (elemT P t).bind (sizeT P),(getO st.h id) with
  | some sz,some (.cells cs e')=>match ownSrcF st.h sz x with
   | some (m,ys)=>condB (decide (0<sz∧ys.length=m*sz∧off+(min m len)*sz≤cs.length)&&ys.all fun c=>!isLin1 c&&okV c)
     (k (.int .i64 (min m len)) {st with h:=setF st.h id (.cells (setAt cs off (ys.take (min m len*sz))) e')}) none
   | none=>none
  | _,_=>none
 | _,_,_=>none
theorem vbltF_eq {α:Type} {P:Program} {b:Builtin} {o:Oper} {st:St} {c:Call} {k:V→St→Option α}:vbltF P b o st c k=vblt P b o st c k:=by
 unfold vbltF vblt
 simp only [getO_eq,getF_eq,setF_eq,peekF_eq,useVF_eq,useSF_eq,takeSF_eq,useAllF_eq,takeAllF_eq,ownSrcF_eq]
def ownSzF (P:Program) (h:List Blk) (id:Nat):Option Nat:=match (getO h id) with
 | some (.cells _ e)=>sizeT P e
 | _=>none
theorem ownSzF_eq {P:Program} {h:List Blk} {id:Nat}:ownSzF P h id=ownSz P h id:=by
 unfold ownSzF ownSz
 simp only [getO_eq,getF_eq,setF_eq,peekF_eq,useVF_eq,useSF_eq,takeSF_eq,useAllF_eq,takeAllF_eq]
def vop2_range {α:Type} (P:Program) (o:Oper) (st:St) (k:V→St→Option α) (t:TypeId) (x:Operand):Option α:=match P.underlying t,st.peekF x with
  | some .string,.str s=>k (.ptr st.h.length 0) {st with h:=st.h++[.iter s 0]}
  | _,_=>none
def vop2_next_true {α:Type} (P:Program) (o:Oper) (st:St) (k:V→St→Option α) (x:Operand):Option α:=match st.peekF x with
  | .ptr id 0=>match (getO st.h id) with
   | some (.iter s p)=>condB (decide (p<s.size))
     (k (.tup [.bool true,.int .i64 p,.int .i32 (Utf8.decode s p).1]) {st with h:=setF st.h id (.iter s (p+(Utf8.decode s p).2))})
     (k (.tup [.bool false]) st)
   | _=>none
  | _=>none
def vop2_makeMap_none {α:Type} (P:Program) (o:Oper) (st:St) (k:V→St→Option α) (t:TypeId):Option α:=k (.obj 0 st.h.length) {st with h:=st.h++[.mp []]}
def vop2_makeMap_somex {α:Type} (P:Program) (o:Oper) (st:St) (k:V→St→Option α) (t:TypeId) (x:Operand):Option α:=match P.underlying t,st.peekF x with
  | some (.map _ _),.int _ _=>k (.obj 0 st.h.length) {st with h:=st.h++[.mp []]}
  | _,_=>none
def vop2_mapUpdate {α:Type} (P:Program) (o:Oper) (st:St) (k:V→St→Option α) (t:TypeId) (m:Operand) (kx:Operand) (x:Operand):Option α:=match P.underlying t,st.peekF m,toVal1 (st.peekF kx) with
  | some (.map kt _),.obj 0 id,some kv=>match P.underlying kt,(getO st.h id) with
   | some kd,some (.mp es)=>condB ((Instr.sameNow kd kv kv==some true)&&o.dst.isNone&&!isLin2 (st.peekF x)&&okV (st.peekF x)) (match findV kd kv es 0 with
     | some none=>k .undef {st with h:=setF st.h id (.mp (es++[(st.peekF kx,st.peekF x)]))}
     | some (some (i,_))=>k .undef {st with h:=setF st.h id (.mp (es.set i (st.peekF kx,st.peekF x)))}
     | none=>none) none
   | _,_=>none
  | _,_,_=>none
def vop2_insert {α:Type} (P:Program) (o:Oper) (st:St) (k:V→St→Option α) (t:TypeId) (m:Operand) (kx:Operand) (x:Operand):Option α:=match P.underlying t,st.peekF m,toVal1 (st.peekF kx) with
  | some (.map kt _),.obj 0 id,some kv=>match P.underlying kt,(getO st.h id) with
   | some kd,some (.mp es)=>condB ((Instr.sameNow kd kv kv==some true)&&o.dst.isNone&&!isLin2 (st.peekF x)&&okV (st.peekF x)) (match findV kd kv es 0 with
     | some none=>k .undef {st with h:=setF st.h id (.mp (es++[(st.peekF kx,st.peekF x)]))}
     | some (some (i,_))=>k .undef {st with h:=setF st.h id (.mp (es.set i (st.peekF kx,st.peekF x)))}
     | none=>none) none
   | _,_=>none
  | _,_,_=>none
def vop2_lookup {α:Type} (P:Program) (o:Oper) (st:St) (k:V→St→Option α) (t:TypeId) (m:Operand) (kx:Operand) (ok:Bool):Option α:=match P.underlying t,st.peekF m,toVal1 (st.peekF kx) with
  | some (.map kt et),.obj 0 id,some kv=>match P.underlying kt,(getO st.h id),zeroT P et with
   | some kd,some (.mp es),some z=>condB ((Instr.sameNow kd kv kv==some true)&&okV z) (match findV kd kv es 0 with
     | some none=>if ok then k (.tup [z,.bool false]) st else k z st
     | some (some (_,v))=>if ok then k (.tup [v,.bool true]) st else k v st
     | none=>none) none
   | _,_,_=>none
  | _,_,_=>none
def vop2_makeInterface {α:Type} (P:Program) (o:Oper) (st:St) (k:V→St→Option α) (t:TypeId) (x:Operand):Option α:=match P.underlying t with
  | some (.interface _)=>none
  | some _=>condB (flat0 (st.peekF x)&&okV (st.peekF x)) (k (.iface t (st.peekF x)) st) none
  | none=>none
def vop2_typeAssert {α:Type} (P:Program) (o:Oper) (st:St) (k:V→St→Option α) (x:Operand) (t:TypeId) (ok:Bool):Option α:=match P.underlying t,st.peekF x,zeroT P t with
  | some (.interface _),_,_=>none
  | some _,.nili,some z=>condB (ok&&okV z) (k (.tup [z,.bool false]) st) none
  | some _,.iface t' v,some z=>condB (decide (t=t')) (if ok then k (.tup [v,.bool true]) st else k v st) (condB (ok&&okV z) (k (.tup [z,.bool false]) st) none)
  | _,_,_=>none
def vop2F {α:Type} (P:Program) (o:Oper) (st:St) (k:V→St→Option α):Option α:=match o.op with
 | .range t x=>vop2_range P o st k t x
 | .next x true=>vop2_next_true P o st k x
 | .makeMap t none=>vop2_makeMap_none P o st k t
 | .makeMap t (some x)=>vop2_makeMap_somex P o st k t x
 | .mapUpdate t m kx x=>vop2_mapUpdate P o st k t m kx x
 | .insert t m kx x=>vop2_insert P o st k t m kx x
 | .lookup t m kx ok=>vop2_lookup P o st k t m kx ok
 | .makeInterface t x=>vop2_makeInterface P o st k t x
 | .typeAssert x _ t ok=>vop2_typeAssert P o st k x t ok
 | _=>none
def vop_move {α:Type} (C:Cx) (vb:FuncId→List V→List Blk→Option FOut) (f:FuncId) (o:Oper) (st:St) (k:V→St→Option α) (kp:V→St→Option α) (x:Operand):Option α:=match o.dst with
  | some d=>match st.peekF x with
   | .tup vs=>k (.tup vs) (st.takeSF x)
   | v=>if (C.tr f).contains d then k v (st.takeSF x) else k (map3 demote1 v) (st.useSF x)
  | none=>none
def vop_assign {α:Type} (C:Cx) (vb:FuncId→List V→List Blk→Option FOut) (f:FuncId) (o:Oper) (st:St) (k:V→St→Option α) (kp:V→St→Option α) (x:Operand):Option α:=k (st.peekF x) (st.takeSF x)
def vop_pick {α:Type} (C:Cx) (vb:FuncId→List V→List Blk→Option FOut) (f:FuncId) (o:Oper) (st:St) (k:V→St→Option α) (kp:V→St→Option α) (c:Operand) (a:Operand) (b:Operand):Option α:=match st.peekF c with
  | .bool t=>condB t (k (st.useVF a) (st.useSF a)) (k (st.useVF b) (st.useSF b))
  | _=>none
def vop_alloc {α:Type} (C:Cx) (vb:FuncId→List V→List Blk→Option FOut) (f:FuncId) (o:Oper) (st:St) (k:V→St→Option α) (kp:V→St→Option α) (t:TypeId):Option α:=match zeroT C.P t with
  | some z=>if okV z then k (.ptr st.h.length 0) {st with h:=st.h++[.cells z.cells t]} else none
  | none=>none
def vop_box {α:Type} (C:Cx) (vb:FuncId→List V→List Blk→Option FOut) (f:FuncId) (o:Oper) (st:St) (k:V→St→Option α) (kp:V→St→Option α) (t:TypeId) (x:Operand):Option α:=let st':=st.takeSF x
  if okV (st.peekF x) then k (.ptr st'.h.length 0) {st' with h:=st'.h++[.cells (st.peekF x).cells t]} else none
def vop_build {α:Type} (C:Cx) (vb:FuncId→List V→List Blk→Option FOut) (f:FuncId) (o:Oper) (st:St) (k:V→St→Option α) (kp:V→St→Option α) (t:TypeId) (parts:Array (Nat×Operand)):Option α:=match zeroT C.P t with
  | some (.agg zs)=>if fieldsOk C.P t∧(parts.toList.all fun p=>!isTmp p.2 (o.dst.getD 0)) then match buildVF C.P t st zs parts.toList with
    | some (cs,st')=>k (.agg cs) st'
    | none=>none
   else none
  | _=>none
def vop_buildSlice {α:Type} (C:Cx) (vb:FuncId→List V→List Blk→Option FOut) (f:FuncId) (o:Oper) (st:St) (k:V→St→Option α) (kp:V→St→Option α) (t:TypeId) (n:Nat) (parts:Array (Nat×Operand)):Option α:=match elemT C.P t with
  | some e=>match isAggT C.P e,sizeT C.P e with
   | some a,some sz =>
    if n*sz≤4096∧0<sz∧(parts.toList.map (·.1))=List.range n∧(zeroT C.P e).isSome then
     let vs:=parts.toList.map fun p=>st.useVF p.2
     let st':=st.useAllF (parts.toList.map (·.2))
     if vs.all (fun v=>okV v&&v.cells.length==sz&&(match v with | .agg _=>a | _=>!a)) then
      if vs.all flat2 then k (.imm true sz vs) st'
      else k (.own st'.h.length 0 n n) {st' with h:=st'.h++[.cells (vs.flatMap V.cells) e]}
     else none
    else none
   | _,_=>none
  | none=>none
def vop_load {α:Type} (C:Cx) (vb:FuncId→List V→List Blk→Option FOut) (f:FuncId) (o:Oper) (st:St) (k:V→St→Option α) (kp:V→St→Option α) (t:TypeId) (a:Operand):Option α:=match isAggT C.P t,sizeT C.P t with
  | some g,some n=>match st.peekF a with
   | .ptr id off=>match (getO st.h id) with
    | some (.cells cs e) =>
     if off+n≤cs.length then
      let c:=(cs.drop off).take n
      match o.dst with
      | some d =>
       if (C.tr f).contains d then match ofCells g c with
        | some v=>k v {st with h:=setF st.h id (.cells (setAt cs off (c.map drop1)) e)}
        | none=>none
       else match ofCells g (c.map demote1) with
        | some v=>condB (c.any isLin1) (k v {st with h:=setF st.h id (.cells (setAt cs off (c.map mark1)) e)}) (k v st)
        | none=>none
      | none=>none
     else none
    | _=>none
   | .iptr x off=>if off+n≤x.cells.length then match ofCells g ((x.cells.drop off).take n) with
     | some v=>k v st
     | none=>none
    else none
   | _=>none
  | _,_=>none
def vop_store {α:Type} (C:Cx) (vb:FuncId→List V→List Blk→Option FOut) (f:FuncId) (o:Oper) (st:St) (k:V→St→Option α) (kp:V→St→Option α) (t:TypeId) (a:Operand) (x:Operand):Option α:=match (if o.dst=none then sizeT C.P t else none) with
  | some n=>match st.peekF a with
   | .ptr id off=>match (getO st.h id) with
    | some (.cells cs e)=>let v:=st.peekF x
     if okV v∧v.cells.length=n∧off+n≤cs.length then let st':=st.takeSF x
      k .undef {st' with h:=setF st'.h id (.cells (setAt cs off v.cells) e)}
     else none
    | _=>none
   | _=>none
  | none=>none
def vop_nilCheck {α:Type} (C:Cx) (vb:FuncId→List V→List Blk→Option FOut) (f:FuncId) (o:Oper) (st:St) (k:V→St→Option α) (kp:V→St→Option α) (x:Operand):Option α:=match st.peekF x with
  | .ptr id off=>k (.ptr id off) st
  | .iptr e off=>k (.iptr e off) st
  | .fn (.func g) a c=>k (.fn (.func g) a c) st
  | _=>none
def vop_binOp {α:Type} (C:Cx) (vb:FuncId→List V→List Blk→Option FOut) (f:FuncId) (o:Oper) (st:St) (k:V→St→Option α) (kp:V→St→Option α) (op:BinOp) (t:TypeId) (x:Operand) (y:Operand):Option α:=match vnil C.P op t (st.peekF x) y with
  | some b=>k (.bool b) st
  | none=>match vbin C.P op t (st.peekF x) (st.peekF y) with
  | some v=>k v st
  | none=>none
def vop_unOp {α:Type} (C:Cx) (vb:FuncId→List V→List Blk→Option FOut) (f:FuncId) (o:Oper) (st:St) (k:V→St→Option α) (kp:V→St→Option α) (op:UnOp) (x:Operand):Option α:=match vun C.P op (st.peekF x) with
  | some v=>k v st
  | none=>none
def vop_convert {α:Type} (C:Cx) (vb:FuncId→List V→List Blk→Option FOut) (f:FuncId) (o:Oper) (st:St) (k:V→St→Option α) (kp:V→St→Option α) (src:TypeId) (dst:TypeId) (x:Operand):Option α:=match vbytes C.P src dst (st.peekF x) with
  | some (m,v)=>condB (decide (m≤2 ^ 47)) (k v st) none
  | none=>match vconv C.P src dst (st.peekF x) with
  | some v=>k v st
  | none=>none
def vop_makeFunc {α:Type} (C:Cx) (vb:FuncId→List V→List Blk→Option FOut) (f:FuncId) (o:Oper) (st:St) (k:V→St→Option α) (kp:V→St→Option α) (g:Fn) (first:Array Operand) (caps:Array Operand):Option α :=
  let a:=first.toList.map st.useVF;let c:=caps.toList.map st.useVF
  if a.all capOk&&c.all capOk then k (.fn g a c) (st.useAllF (first.toList++caps.toList)) else none
def vop_makeSlice {α:Type} (C:Cx) (vb:FuncId→List V→List Blk→Option FOut) (f:FuncId) (o:Oper) (st:St) (k:V→St→Option α) (kp:V→St→Option α) (t:TypeId) (l:Operand) (c:Operand):Option α:=match elemT C.P t with
  | some e=>match sizeT C.P e,bytesT C.P e,zeroT C.P e,st.peekF l,st.peekF c with
   | some sz,some by_,some z,.int _ n,.int _ m =>
    condB (decide (0≤n∧n≤m∧m*by_≤2 ^ 47∧m≤2 ^ 47∧z.cells.length=sz∧0<sz∧okV z=true))
     (if flat2 z∧!((C.thaw f).contains (o.dst.getD 0)) then condB (decide (n=m)) (k (.imm true sz (List.replicate n.toNat z)) st) none
     else k (.own st.h.length 0 n.toNat m.toNat) {st with h:=st.h++[.cells ((List.replicate m.toNat z.cells).flatten) e]}) none
   | _,_,_,_,_=>none
  | none=>none
def vop_slice {α:Type} (C:Cx) (vb:FuncId→List V→List Blk→Option FOut) (f:FuncId) (o:Oper) (st:St) (k:V→St→Option α) (kp:V→St→Option α) (t:TypeId) (x:Operand) (lo:Option Operand) (hi:Option Operand) (mx:Option Operand):Option α:=match st.peekF x with
  | .own id off len room=>match optInt _root_.id (lo.map st.peekF),optInt _root_.id (hi.map st.peekF),optInt _root_.id (mx.map st.peekF),(elemT C.P t).bind (sizeT C.P) with
   | some l,some h,some m,some sz=>if mx.isSome&&hi.isNone then none else condB (mx.isSome&&decide (0≤l.getD 0∧l.getD 0=m.getD 0∧h.getD len=m.getD 0∧l.getD 0≤(max len room:Nat)∧0<sz)) (k (.imm true sz []) st)<|condB (decide (0≤l.getD 0∧l.getD 0≤h.getD len∧h.getD len≤m.getD (max len room)∧m.getD (max len room)≤(max len room:Nat))&&(ownSzF C.P st.h id==some sz))
     (k (.own id (off+(l.getD 0).toNat*sz) ((h.getD len).toNat-(l.getD 0).toNat) ((m.getD (max len room)).toNat-(l.getD 0).toNat)) st) none
   | _,_,_,_=>none
  | _=>match optInt id (lo.map st.peekF),optInt id (hi.map st.peekF),optInt id (mx.map st.peekF) with
  | some l,some h,some m=>match vslice C.P t (st.peekF x) l h m with
   | some (l,h,n,v)=>match m with
    | none=>condB (decide (0≤l∧l≤h∧h≤n)) (k v (st.useSF x)) none
    | some m=>condB (decide (0≤l∧l≤h∧h≤n∧m=h)) (k v (st.useSF x)) none
   | none=>none
  | _,_,_=>none
def vop_fieldAddr {α:Type} (C:Cx) (vb:FuncId→List V→List Blk→Option FOut) (f:FuncId) (o:Oper) (st:St) (k:V→St→Option α) (kp:V→St→Option α) (s:TypeId) (x:Operand) (j:Nat):Option α:=match fieldT C.P s j with
  | some g=>match sizeT C.P g.type with
   | some (_+1)=>match st.peekF x with
    | .ptr id off=>k (.ptr id (off+g.offset)) st
    | .iptr e off=>k (.iptr e (off+g.offset)) st
    | _=>none
   | _=>none
  | none=>none
def vop_field {α:Type} (C:Cx) (vb:FuncId→List V→List Blk→Option FOut) (f:FuncId) (o:Oper) (st:St) (k:V→St→Option α) (kp:V→St→Option α) (s:TypeId) (x:Operand) (j:Nat):Option α:=match fieldT C.P s j with
  | some g=>match isAggT C.P g.type,sizeT C.P g.type with
   | some a,some n=>match st.peekF x with
    | .agg cs=>if g.offset+n≤cs.length then match ofCells a (((cs.drop g.offset).take n).map demote1) with
      | some v=>k v (st.useSF x)
      | none=>none
     else none
    | _=>none
   | _,_=>none
  | none=>none
def vop_indexAddr {α:Type} (C:Cx) (vb:FuncId→List V→List Blk→Option FOut) (f:FuncId) (o:Oper) (st:St) (k:V→St→Option α) (kp:V→St→Option α) (t:TypeId) (x:Operand) (i:Operand):Option α:=match st.peekF i with
  | .int _ n=>match st.peekF x with
   | .imm _ m xs=>if (elemT C.P t).bind (sizeT C.P)=some m then bindO (idx xs n) fun e=>k (.iptr e 0) st else none
   | .lin _ _ m xs=>if (elemT C.P t).bind (sizeT C.P)=some m then bindO (idx xs n) fun e=>k (.iptr e 0) (st.useSF x) else none
   | .own id off len _=>match (elemT C.P t).bind (sizeT C.P) with
    | some sz=>condB (decide (0≤n∧n<len)) (k (.ptr id (off+n.toNat*sz)) st) none
    | none=>none
   | .iptr e off=>match C.P.underlying t with
    | some (.array m el)=>match sizeT C.P el with
     | some sz=>condB (decide (0≤n∧n<m)) (k (.iptr e (off+n.toNat*sz)) st) none
     | none=>none
    | _=>none
   | .ptr id off=>match C.P.underlying t with
    | some (.array m el)=>match sizeT C.P el with
     | some sz=>condB (decide (0≤n∧n<m)) (k (.ptr id (off+n.toNat*sz)) st) none
     | none=>none
    | _=>none
   | _=>none
  | _=>none
def vop_index {α:Type} (C:Cx) (vb:FuncId→List V→List Blk→Option FOut) (f:FuncId) (o:Oper) (st:St) (k:V→St→Option α) (kp:V→St→Option α) (t:TypeId) (x:Operand) (i:Operand):Option α:=match C.P.underlying t with
  | some .string=>match st.peekF x,st.peekF i with
   | .str s,.int _ n=>bindO (idx s.data.toList n) fun b=>k (.int .u8 b.toNat) st
   | _,_=>none
  | _=>none
def vop_extract {α:Type} (C:Cx) (vb:FuncId→List V→List Blk→Option FOut) (f:FuncId) (o:Oper) (st:St) (k:V→St→Option α) (kp:V→St→Option α) (x:Operand) (i:Nat):Option α:=match x with
  | .tmp t=>match getF st.fr t with
   | .tup vs=>match vs[i]? with
    | some v=>k v {st with fr:=setF st.fr t (.tup (vs.set i (map2 drop1 v)))}
    | none=>none
   | _=>none
  | _=>none
def vopC_len {α:Type} (C:Cx) (vb:FuncId→List V→List Blk→Option FOut) (f:FuncId) (o:Oper) (st:St) (k:V→St→Option α) (kp:V→St→Option α) (c:Call):Option α:=match c.args.toList,c.argTypes.toList with
   | [x],[t]=>match C.P.underlying t,st.peekF x with
    | some .string,.str s=>k (.int .i64 s.size) st
    | some (.slice _),.str _=>none
    | some (.slice _),v=>match slen v with
     | some n=>k (.int .i64 n) st
     | none=>none
    | _,_=>none
   | _,_=>none
def vopC_append {α:Type} (C:Cx) (vb:FuncId→List V→List Blk→Option FOut) (f:FuncId) (o:Oper) (st:St) (k:V→St→Option α) (kp:V→St→Option α) (c:Call):Option α:=match c.args.toList,c.argTypes.toList with
   | [s,x],[t,tx]=>match elemT C.P t,elemT C.P tx with
    | some e,some _=>match st.peekF s with
     | .own id off len room=>match sizeT C.P e,(getO st.h id) with
      | some sz,some (.cells cs e')=>match ownSrcF st.h sz (st.peekF x) with
       | some (m,ys)=>condB (decide (t=tx∧0<sz∧ys.length=m*sz∧len+m≤room∧off+(len+m)*sz≤cs.length)&&ys.all fun c=>!isLin1 c&&okV c)
         (k (.own id off (len+m) room) {st with h:=setF st.h id (.cells (setAt cs (off+len*sz) ys) e')})
         (vgrowF C.P t tx e sz id off len room cs e' m ys st k)
       | none=>none
      | _,_=>none
     | _=>condB (isOwnV (st.peekF x)||(C.thaw f).contains (o.dst.getD 0)) (vnewF C.P t tx e st (st.peekF s) (st.peekF x) k)<|match bytesT C.P e,sizeT C.P e,zeroT C.P e,elems (st.peekF x) with
     | some by_,some sz,some z,some (m,ys)=>if t=tx∧(ys.isEmpty∨m=sz)∧0<sz∧0<by_∧okV z∧z.cells.length=sz then
      let st1:=st.useSF x
      match vappend e sz (st1.peekF s) ys with
      | some (n,v)=>condB (decide (n*by_≤2 ^ 47)&&!isLin3 (getF (st1.takeSF s).fr (o.dst.getD 0))) (k v (st1.takeSF s)) none
      | none=>none
      else none
     | _,_,_,_=>none
    | _,_=>none
   | _,_=>none
def vopC_clear {α:Type} (C:Cx) (vb:FuncId→List V→List Blk→Option FOut) (f:FuncId) (o:Oper) (st:St) (k:V→St→Option α) (kp:V→St→Option α) (c:Call):Option α:=match c.args.toList,c.argTypes.toList with
   | [x],[t]=>match elemT C.P t,st.peekF x with
    | some e,.own id off len _=>match sizeT C.P e,zeroT C.P e,(getO st.h id) with
     | some sz,some z,some (.cells cs e')=>condB (decide (0<sz∧z.cells.length=sz∧okV z=true∧flat2 z=true∧o.dst.isNone=true∧off+len*sz≤cs.length))
       (k .undef {st with h:=setF st.h id (.cells (setAt cs off (List.replicate len z.cells).flatten) e')}) none
     | _,_,_=>none
    | _,_=>none
   | _,_=>none
def vopC_value {α:Type} (C:Cx) (vb:FuncId→List V→List Blk→Option FOut) (f:FuncId) (o:Oper) (st:St) (k:V→St→Option α) (kp:V→St→Option α) (c:Call) (g:Operand):Option α:=match st.peekF g with
   | .fn (.func g) first caps =>
    let args:=first++(c.args.toList.map st.useVF)++caps
    let st':=st.useAllF c.args.toList
    if yBase≤g then none else
    if args.all flat2&&!C.heapy g then
     bindO (vbx C.P vb g args) fun
      | .ret v _=>match o.dst with
       | some d=>if (C.thaw f).contains d then match thaw1 C.P st'.h ((elemT C.P o.type).getD 0) v with
         | some (v,h)=>condB (isLin3 (getF st'.fr d)) none (k v {st' with h:=h})
         | none=>none
        else k v st'
       | none=>k .undef st'
      | .pan v _=>kp v st'
    else bindO (vb g args st'.h) fun
      | .ret v h=>condB (dfKeep st'.df h) (k v {st' with h:=h}) none
      | .pan v h=>condB (dfKeep st'.df h) (kp v {st' with h:=h}) none
   | .obj 1 id =>
    let args:=c.args.toList.map st.useVF
    let st':=st.useAllF c.args.toList
    bindO (vb (yBase+id) args st'.h) fun
      | .ret v h=>condB (dfKeep st'.df h) (k v {st' with h:=h}) none
      | .pan _ _=>none
   | _=>none
def vop_panic {α:Type} (C:Cx) (vb:FuncId→List V→List Blk→Option FOut) (f:FuncId) (o:Oper) (st:St) (k:V→St→Option α) (kp:V→St→Option α) (x:Operand):Option α:=match st.peekF x with
  | .iface t v=>kp (.iface t v) st
  | _=>none
def vopF {α:Type} (C:Cx) (vb:FuncId→List V→List Blk→Option FOut) (f:FuncId) (o:Oper) (st:St) (k:V→St→Option α) (kp:V→St→Option α):Option α:=match o.op with
 | .move x=>vop_move C vb f o st k kp x
 | .assign x=>vop_assign C vb f o st k kp x
 | .pick c a b=>vop_pick C vb f o st k kp c a b
 | .alloc t=>vop_alloc C vb f o st k kp t
 | .box t x=>vop_box C vb f o st k kp t x
 | .build t parts=>vop_build C vb f o st k kp t parts
 | .buildSlice t n parts=>vop_buildSlice C vb f o st k kp t n parts
 | .load t a=>vop_load C vb f o st k kp t a
 | .store t a x=>vop_store C vb f o st k kp t a x
 | .nilCheck x=>vop_nilCheck C vb f o st k kp x
 | .binOp op t x y _=>vop_binOp C vb f o st k kp op t x y
 | .unOp op _ x=>vop_unOp C vb f o st k kp op x
 | .convert src dst x=>vop_convert C vb f o st k kp src dst x
 | .makeFunc g first caps=>vop_makeFunc C vb f o st k kp g first caps
 | .makeSlice t l c=>vop_makeSlice C vb f o st k kp t l c
 | .slice t x lo hi mx=>vop_slice C vb f o st k kp t x lo hi mx
 | .fieldAddr s x j=>vop_fieldAddr C vb f o st k kp s x j
 | .field s x j=>vop_field C vb f o st k kp s x j
 | .indexAddr t x i=>vop_indexAddr C vb f o st k kp t x i
 | .index t x i=>vop_index C vb f o st k kp t x i
 | .extract x i=>vop_extract C vb f o st k kp x i
 | .call c=>match c.callee with
  | .builtin .len=>vopC_len C vb f o st k kp c
  | .builtin .append=>vopC_append C vb f o st k kp c
  | .builtin .clear=>vopC_clear C vb f o st k kp c
  | .builtin b=>vbltF C.P b o st c k
  | .value g=>vopC_value C vb f o st k kp c g
  | _=>none
 | .panic x=>vop_panic C vb f o st k kp x
 | _=>vop2F C.P o st k
theorem vop2F_eq {α:Type} {P:Program} {o:Oper} {st:St} {k:V→St→Option α}:vop2F P o st k=vop2 P o st k:=by
 obtain ⟨dst,op,type,pos,after,guard⟩:=o
 unfold vop2F vop2_range vop2_next_true vop2_makeMap_none vop2_makeMap_somex vop2_mapUpdate vop2_insert vop2_lookup vop2_makeInterface vop2_typeAssert
 simp only [getO_eq,getF_eq,setF_eq,peekF_eq,useVF_eq,useSF_eq,takeSF_eq,useAllF_eq,takeAllF_eq,buildVF_eq,ownSrcF_eq,vgrowF_eq,vnewF_eq,vbltF_eq,ownSzF_eq]
 cases op<;>rfl
theorem vopF_eq {α:Type} {C:Cx} {vb:FuncId→List V→List Blk→Option FOut} {f:FuncId} {o:Oper} {st:St} {k:V→St→Option α} {kp:V→St→Option α}:vopF C vb f o st k kp=vop C vb f o st k kp:=by
 unfold vopF vop_move vop_assign vop_pick vop_alloc vop_box vop_build vop_buildSlice vop_load vop_store vop_nilCheck vop_binOp vop_unOp vop_convert vop_makeFunc vop_makeSlice vop_slice vop_fieldAddr vop_field vop_indexAddr vop_index vop_extract vopC_len vopC_append vopC_clear vopC_value vop_panic
 simp only [getO_eq,getF_eq,setF_eq,peekF_eq,useVF_eq,useSF_eq,takeSF_eq,useAllF_eq,takeAllF_eq,buildVF_eq,ownSrcF_eq,vgrowF_eq,vnewF_eq,vbltF_eq,ownSzF_eq]
 rw [vop2F_eq]
 obtain ⟨dst,op,type,pos,after,guard⟩:=o
 cases op<;>rfl
def putF (st:St) (d:Option Tmp) (v:V):St:=match d with
 | some d=>{st with fr:=setF st.fr d v}
 | none=>st
theorem putF_eq {st:St} {d:Option Tmp} {v:V}:putF st d v=put st d v:=by
 unfold putF put
 simp only [setF_eq]
end
def wantedV (ops:List Oper) (fr:List V) (j:Nat) (want:Bool):Option Bool :=
 match ((ops[j]?).bind (·.dst)) with
 | none=>some false
 | some d=>match getS fr d with
  | .bool b=>some (b==want)
  | .tup []=>some false
  | _=>none
noncomputable def wantedVF (ops:List Oper) (fr:List V) (j:Nat) (want:Bool):Option Bool :=
 match ((getO ops j).bind (·.dst)) with
 | none=>some false
 | some d=>match getF fr d with
  | .bool b=>some (b==want)
  | .tup []=>some false
  | _=>none
theorem wantedVF_eq {ops:List Oper} {fr:List V} {j:Nat} {want:Bool}:wantedVF ops fr j want=wantedV ops fr j want:=by
 unfold wantedVF wantedV
 simp only [getO_eq,getF_eq]
def vdefer (o:Oper) (st:St) (c:Call):Option St:=match c.callee,c.args.toList,o.dst with
 | .value g,[],none=>match st.peek g with
  | .fn (.func f) [] caps=>some {st with df:=.call f caps::st.df}
  | _=>none
 | _,_,_=>none
def deferOf (o:Oper):Option Call:=match o.op with
 | .defer c=>some c
 | _=>none
noncomputable def vops (C:Cx) (vb:FuncId→List V→List Blk→Option FOut) (f:FuncId) (rd:Bool) (all:List Oper):List Oper→St→(St→Option FOut)→(V→St→Option FOut)→Option FOut
 | [],st,k,_=>k st
 | o::r,st,k,kp =>
  match o.guard with
  | none=>match deferOf o with
   | some c=>if rd then none else match vdefer o st c with
    | some st'=>vops C vb f rd all r st' k kp
    | none=>none
   | none=>vopF C vb f o st (fun v st=>vops C vb f rd all r (putF st o.dst v) k kp) kp
  | some (j,want)=>match wantedVF all st.fr j want with
   | some b=>condB b (vopF C vb f o st (fun v st=>vops C vb f rd all r (putF st o.dst v) k kp) kp) (vops C vb f rd all r (putF st o.dst (.tup [])) k kp)
   | none=>none
noncomputable section
/-! ### regions whose order is drawn -/
inductive Kd where
 | none | rd (id off n:Nat) | wr (id off n:Nat) | al | any
 | cl (h1 h2:List Blk)
 deriving Inhabited
def sameC:V→V→Bool
 | .undef,.undef | .nilp,.nilp | .nils,.nils | .nne,.nne | .nilf,.nilf | .nili,.nili | .nilm,.nilm=>true
 | .bool a,.bool b=>a==b
 | .int k a,.int l b=>k==l&&a==b
 | .str a,.str b=>a.data.toList==b.data.toList
 | .ptr a o,.ptr b p=>a==b&&o==p
 | .own a o l r,.own b p m s=>a==b&&(o==p&&(l==m&&r==s))
 | .obj a i,.obj b j=>a==b&&i==j
 | .imm f n xs,.imm g m ys=>f==g&&(n==m&&sameCs xs ys)
 | .lin p e n xs,.lin q d m ys=>p==q&&(e==d&&(n==m&&sameCs xs ys))
 | .fn (.func f) a c,.fn (.func g) b d=>f==g&&(sameCs a b&&sameCs c d)
 | .agg xs,.agg ys=>sameCs xs ys
 | _,_=>false
where sameCs:List V→List V→Bool
 | [],[]=>true
 | x::xs,y::ys=>sameC x y&&sameCs xs ys
 | _,_=>false
def sameBlk (h1 h2:List Blk) (id:Nat):Bool:=match h1[id]?,h2[id]? with
 | some (.cells cs e),some (.cells ds e')=>e==e'&&sameC (.agg cs) (.agg ds)
 | _,_=>false
def nonlin (o:Oper) (st:St):Bool:=o.op.operands.toList.all fun x=>!isLin3 (st.peek x)
def kindV (C:Cx) (f:FuncId) (o:Oper) (st:St):Kd:=match o.op with
 | .alloc _ | .box ..=>.al
 | .load t a=>match st.peek a with
  | .ptr id off=>match st.h[id]?,sizeT C.P t with
   | some (.cells cs _),some n=>condB ((C.tr f).contains (o.dst.getD 0)||((cs.drop off).take n).any isLin1) (.wr id off n) (.rd id off n)
   | _,_=>.any
  | .iptr ..=>.none
  | _=>.any
 | .store t a _=>match st.peek a,sizeT C.P t with
  | .ptr id off,some n=>.wr id off n
  | _,_=>.any
 | .buildSlice _ _ parts=>condB ((parts.toList.map fun p=>st.useV p.2).all flat2) .none .al
 | .makeSlice t _ _=>if (C.thaw f).contains (o.dst.getD 0) then .al else match (elemT C.P t).bind (zeroT C.P) with
  | some z=>if flat2 z then .none else .al
  | none=>.any
 | .slice _ x _ _ _=>match st.peek x with
  | .own id ..=>match st.h[id]? with
   | some (.cells ..)=>.rd id 0 0
   | _=>.any
  | _=>.none
 | .move _ | .assign _ | .pick .. | .build .. | .nilCheck _ | .binOp .. | .unOp .. | .convert .. | .makeFunc .. | .fieldAddr .. | .field .. | .indexAddr .. | .index .. | .extract ..=>.none
 | .call c=>match c.callee with
  | .builtin .len=>.none
  | .builtin .append=>match c.args.toList with
   | s::r=>match st.peek s with
    | .own ..=>.any
    | _=>if o.dst.isSome&&!(r.any (fun x=>isOwnV (st.peek x))||(C.thaw f).contains (o.dst.getD 0)) then .none else .any
   | _=>.any
  | .value g=>match st.peek g with
   | .fn (.func g) first caps=>condB ((first++(c.args.toList.map st.useV)++caps).all flat2&&!C.heapy g) (match o.dst with | some d=>if (C.thaw f).contains d then .al else .none | none=>.none) .any
   | _=>.any
  | _=>.any
 | _=>.any
def compatK (h0:Nat):Kd→Kd→Bool
 | .any,_ | _,.any=>false
 | .none,_ | _,.none=>true
 | .rd ..,.rd ..=>true
 | .rd a o n,.wr b p m | .wr a o n,.rd b p m | .wr a o n,.wr b p m=>a !=b||(decide (o+n≤p)||decide (p+m≤o))
 | .al,.rd a _ _ | .al,.wr a _ _ | .rd a _ _,.al | .wr a _ _,.al=>decide (a<h0)
 | .al,.al=>false
 | .cl h1 h2,.rd id _ _ | .rd id _ _,.cl h1 h2=>sameBlk h1 h2 id
 | .cl ..,_ | _,.cl ..=>false
def heapCall (C:Cx) (o:Oper) (st:St):Bool:=match o.op with
 | .call c=>match c.callee with
  | .value g=>match st.peek g with
   | .fn (.func g) first caps=>!((first++(c.args.toList.map st.useV)++caps).all flat2&&!C.heapy g)&&nonlin o st
   | _=>false
  | _=>false
 | _=>false
def kindC (C:Cx) (f:FuncId) (o:Oper) (st:St) (h2:List Blk):Kd:=match kindV C f o st with
 | .any=>if heapCall C o st&&decide (st.h.length≤h2.length) then .cl st.h h2 else .any
 | .al=>if h2.length==st.h.length then .none else .al
 | K=>K
def guardV (ops:List Oper) (o:Oper) (st:St):Option Bool:=match o.guard with
 | none=>some true
 | some (j,want)=>wantedV ops st.fr j want
def unAt (un:List Nat) (j i:Nat):Bool:=(un.getD i 0).testBit j
def involved (un:List Nat) (i:Nat):Bool:=un.getD i 0 !=0||un.any (·.testBit i)
def freeTmp (un:List Nat) (ops:List Oper) (i:Nat) (x:Operand):Bool:=match x with
 | .tmp t=>(List.range ops.length).all fun j=>!(unAt un i j||unAt un j i)||(match ops[j]? with
  | some oj=>!(oj.looksAt ops.toArray).contains t
  | none=>true)
 | _=>false
def takesOp:Op→Bool
 | .build .. | .store .. | .move _=>true
 | .call c=>match c.callee with | .builtin .append=>true | _=>false
 | _=>false
def priv1:V→Bool | .lin true ..=>true | _=>false
def priv2:V→Bool | .agg vs=>vs.any priv1 | v=>priv1 v
def priv3:V→Bool | .tup _=>true | v=>priv2 v
def copies (tr:List Nat) (o:Oper) (st:St):Bool:=match o.op,o.dst with
 | .move x,some d=>!tr.contains d&&!priv3 (st.peek x)
 | _,_=>false
def calm (tr:List Nat) (un:List Nat) (ops:List Oper) (i:Nat) (o:Oper) (st:St):Bool:=nonlin o st||copies tr o st||(takesOp o.op&&o.op.operands.toList.all fun x=>!isLin3 (st.peek x)||freeTmp un ops i x)
def notAny:Kd→Bool
 | .any=>false
 | _=>true
def guardVF (ops:List Oper) (o:Oper) (st:St):Option Bool:=match o.guard with
 | none=>some true
 | some (j,want)=>wantedVF ops st.fr j want
theorem guardVF_eq {ops:List Oper} {o:Oper} {st:St}:guardVF ops o st=guardV ops o st:=by
 unfold guardVF guardV
 simp only [getO_eq,getF_eq,setF_eq,peekF_eq,useVF_eq,useSF_eq,takeSF_eq,useAllF_eq,takeAllF_eq,wantedVF_eq,←List.getD_eq_getElem?_getD]
def nonlinF (o:Oper) (st:St):Bool:=o.op.operands.toList.all fun x=>!isLin3 (st.peekF x)
theorem nonlinF_eq {o:Oper} {st:St}:nonlinF o st=nonlin o st:=by
 unfold nonlinF nonlin
 simp only [getO_eq,getF_eq,setF_eq,peekF_eq,useVF_eq,useSF_eq,takeSF_eq,useAllF_eq,takeAllF_eq,wantedVF_eq,←List.getD_eq_getElem?_getD]
def unAtF (un:List Nat) (j i:Nat):Bool:=((getO un i).getD 0).testBit j
theorem unAtF_eq {un:List Nat} {j i:Nat}:unAtF un j i=unAt un j i:=by
 unfold unAtF unAt
 simp only [getO_eq,getF_eq,setF_eq,peekF_eq,useVF_eq,useSF_eq,takeSF_eq,useAllF_eq,takeAllF_eq,wantedVF_eq,←List.getD_eq_getElem?_getD]
def involvedF (un:List Nat) (i:Nat):Bool:=(getO un i).getD 0 !=0||un.any (·.testBit i)
theorem involvedF_eq {un:List Nat} {i:Nat}:involvedF un i=involved un i:=by
 unfold involvedF involved
 simp only [getO_eq,getF_eq,setF_eq,peekF_eq,useVF_eq,useSF_eq,takeSF_eq,useAllF_eq,takeAllF_eq,wantedVF_eq,←List.getD_eq_getElem?_getD]
def kindVF (C:Cx) (f:FuncId) (o:Oper) (st:St):Kd:=match o.op with
 | .alloc _ | .box ..=>.al
 | .load t a=>match st.peekF a with
  | .ptr id off=>match (getO st.h id),sizeT C.P t with
   | some (.cells cs _),some n=>condB ((C.tr f).contains (o.dst.getD 0)||((cs.drop off).take n).any isLin1) (.wr id off n) (.rd id off n)
   | _,_=>.any
  | .iptr ..=>.none
  | _=>.any
 | .store t a _=>match st.peekF a,sizeT C.P t with
  | .ptr id off,some n=>.wr id off n
  | _,_=>.any
 | .buildSlice _ _ parts=>condB ((parts.toList.map fun p=>st.useVF p.2).all flat2) .none .al
 | .makeSlice t _ _=>if (C.thaw f).contains (o.dst.getD 0) then .al else match (elemT C.P t).bind (zeroT C.P) with
  | some z=>if flat2 z then .none else .al
  | none=>.any
 | .slice _ x _ _ _=>match st.peekF x with
  | .own id ..=>match (getO st.h id) with
   | some (.cells ..)=>.rd id 0 0
   | _=>.any
  | _=>.none
 | .move _ | .assign _ | .pick .. | .build .. | .nilCheck _ | .binOp .. | .unOp .. | .convert .. | .makeFunc .. | .fieldAddr .. | .field .. | .indexAddr .. | .index .. | .extract ..=>.none
 | .call c=>match c.callee with
  | .builtin .len=>.none
  | .builtin .append=>match c.args.toList with
   | s::r=>match st.peekF s with
    | .own ..=>.any
    | _=>if o.dst.isSome&&!(r.any (fun x=>isOwnV (st.peekF x))||(C.thaw f).contains (o.dst.getD 0)) then .none else .any
   | _=>.any
  | .value g=>match st.peekF g with
   | .fn (.func g) first caps=>condB ((first++(c.args.toList.map st.useVF)++caps).all flat2&&!C.heapy g) (match o.dst with | some d=>if (C.thaw f).contains d then .al else .none | none=>.none) .any
   | _=>.any
  | _=>.any
 | _=>.any
theorem kindVF_eq {C:Cx} {f:FuncId} {o:Oper} {st:St}:kindVF C f o st=kindV C f o st:=by
 unfold kindVF kindV
 simp only [getO_eq,getF_eq,setF_eq,peekF_eq,useVF_eq,useSF_eq,takeSF_eq,useAllF_eq,takeAllF_eq,wantedVF_eq,←List.getD_eq_getElem?_getD]
def heapCallF (C:Cx) (o:Oper) (st:St):Bool:=match o.op with
 | .call c=>match c.callee with
  | .value g=>match st.peekF g with
   | .fn (.func g) first caps=>!((first++(c.args.toList.map st.useVF)++caps).all flat2&&!C.heapy g)&&nonlinF o st
   | _=>false
  | _=>false
 | _=>false
theorem heapCallF_eq {C:Cx} {o:Oper} {st:St}:heapCallF C o st=heapCall C o st:=by
 unfold heapCallF heapCall
 simp only [getO_eq,getF_eq,setF_eq,peekF_eq,useVF_eq,useSF_eq,takeSF_eq,useAllF_eq,takeAllF_eq,wantedVF_eq,←List.getD_eq_getElem?_getD,nonlinF_eq]
def kindCF (C:Cx) (f:FuncId) (o:Oper) (st:St) (h2:List Blk):Kd:=match kindVF C f o st with
 | .any=>if heapCallF C o st&&decide (st.h.length≤h2.length) then .cl st.h h2 else .any
 | .al=>if h2.length==st.h.length then .none else .al
 | K=>K
theorem kindCF_eq {C:Cx} {f:FuncId} {o:Oper} {st:St} {h2:List Blk}:kindCF C f o st h2=kindC C f o st h2:=by
 unfold kindCF kindC
 simp only [getO_eq,getF_eq,setF_eq,peekF_eq,useVF_eq,useSF_eq,takeSF_eq,useAllF_eq,takeAllF_eq,wantedVF_eq,←List.getD_eq_getElem?_getD,kindVF_eq,heapCallF_eq]
def sameBlkF (h1 h2:List Blk) (id:Nat):Bool:=match (getO h1 id),(getO h2 id) with
 | some (.cells cs e),some (.cells ds e')=>e==e'&&sameC (.agg cs) (.agg ds)
 | _,_=>false
theorem sameBlkF_eq {h1 h2:List Blk} {id:Nat}:sameBlkF h1 h2 id=sameBlk h1 h2 id:=by
 unfold sameBlkF sameBlk
 simp only [getO_eq,getF_eq,setF_eq,peekF_eq,useVF_eq,useSF_eq,takeSF_eq,useAllF_eq,takeAllF_eq,wantedVF_eq,←List.getD_eq_getElem?_getD]
def compatKF (h0:Nat):Kd→Kd→Bool
 | .any,_ | _,.any=>false
 | .none,_ | _,.none=>true
 | .rd ..,.rd ..=>true
 | .rd a o n,.wr b p m | .wr a o n,.rd b p m | .wr a o n,.wr b p m=>a !=b||(decide (o+n≤p)||decide (p+m≤o))
 | .al,.rd a _ _ | .al,.wr a _ _ | .rd a _ _,.al | .wr a _ _,.al=>decide (a<h0)
 | .al,.al=>false
 | .cl h1 h2,.rd id _ _ | .rd id _ _,.cl h1 h2=>sameBlkF h1 h2 id
 | .cl ..,_ | _,.cl ..=>false
theorem compatKF_eq {h0:Nat} {K L:Kd}:compatKF h0 K L=compatK h0 K L:=by
 cases K<;>cases L<;>first | rfl | exact sameBlkF_eq
def copiesF (tr:List Nat) (o:Oper) (st:St):Bool:=match o.op,o.dst with
 | .move x,some d=>!tr.contains d&&!priv3 (st.peekF x)
 | _,_=>false
theorem copiesF_eq {tr:List Nat} {o:Oper} {st:St}:copiesF tr o st=copies tr o st:=by
 unfold copiesF copies
 simp only [getO_eq,getF_eq,setF_eq,peekF_eq,useVF_eq,useSF_eq,takeSF_eq,useAllF_eq,takeAllF_eq,wantedVF_eq,←List.getD_eq_getElem?_getD]
def freeTmpF (un:List Nat) (ops:List Oper) (i:Nat) (x:Operand):Bool:=match x with
 | .tmp t=>(List.range ops.length).all fun j=>!(unAtF un i j||unAtF un j i)||(match getO ops j with
  | some oj=>!(oj.looksAt ops.toArray).contains t
  | none=>true)
 | _=>false
theorem freeTmpF_eq {un:List Nat} {ops:List Oper} {i:Nat} {x:Operand}:freeTmpF un ops i x=freeTmp un ops i x:=by
 unfold freeTmpF freeTmp
 simp only [getO_eq,getF_eq,setF_eq,peekF_eq,useVF_eq,useSF_eq,takeSF_eq,useAllF_eq,takeAllF_eq,wantedVF_eq,←List.getD_eq_getElem?_getD,unAtF_eq]
def calmF (tr:List Nat) (un:List Nat) (ops:List Oper) (i:Nat) (o:Oper) (st:St):Bool:=nonlinF o st||copiesF tr o st||(takesOp o.op&&o.op.operands.toList.all fun x=>!isLin3 (st.peekF x)||freeTmpF un ops i x)
theorem calmF_eq {tr un:List Nat} {ops:List Oper} {i:Nat} {o:Oper} {st:St}:calmF tr un ops i o st=calm tr un ops i o st:=by
 unfold calmF calm
 simp only [getO_eq,getF_eq,setF_eq,peekF_eq,useVF_eq,useSF_eq,takeSF_eq,useAllF_eq,takeAllF_eq,wantedVF_eq,←List.getD_eq_getElem?_getD,nonlinF_eq,copiesF_eq,freeTmpF_eq]
def vdrawA (C:Cx) (vb:Nat→FuncId→List V→List Blk→Option FOut) (f:FuncId) (un:List Nat) (h0:Nat) (ops:List Oper):List Nat→List (Nat×Kd)→St→(List (Nat×Kd)→St→Option FOut)→Option FOut
 | [],acc,st,k=>k acc st
 | i::r,acc,st,k=>match getO ops i with
  | none=>none
  | some o=>condB (!involvedF un i||decide (h0≤st.h.length)) (bindO (guardVF ops o st) fun b =>
   condB b
    (condB (involvedF un i)
     (condB (calmF (C.tr f) un ops i o st)
      (bindO (vopF C (vb i) f o st (fun v s=>some (v,s)) (fun _ _=>none)) fun q =>
       condB (notAny (kindCF C f o st q.2.h)&&acc.all fun p=>!unAtF un p.1 i||compatKF h0 p.2 (kindCF C f o st q.2.h))
        (vdrawA C vb f un h0 ops r ((i,kindCF C f o st q.2.h)::acc) (putF q.2 o.dst q.1) k) none) none)
     (bindO (vopF C (vb i) f o st (fun v s=>some (v,s)) (fun _ _=>none)) fun q=>vdrawA C vb f un h0 ops r acc (putF q.2 o.dst q.1) k))
    (vdrawA C vb f un h0 ops r acc (putF st o.dst (.tup [])) k)) none
def vdraw (C:Cx) (vb:Nat→FuncId→List V→List Blk→Option FOut) (f:FuncId) (un:List Nat) (h0:Nat) (ops:List Oper) (l:List Nat) (acc:List (Nat×Kd)) (st:St) (k:St→Option FOut):Option FOut:=vdrawA C vb f un h0 ops l acc st fun _ st=>k st
def isRd:Kd→Bool
 | .none | .rd ..=>true
 | _=>false
def panOk (un:List Nat) (n p:Nat) (acc:List (Nat×Kd)):Bool:=((List.range n).all fun j=>!unAtF un p j)&&acc.all fun q=>!unAtF un q.1 p||isRd q.2
def isCallV (o:Oper):Bool:=match o.op with
 | .call c=>match c.callee with
  | .value _=>true
  | _=>false
 | .panic _=>true
 | _=>false
def wipe (st:St):St:={st with fr:=st.fr.map fun _=>.undef}
def lastFree (un:List Nat) (ops:Array Oper):Bool:=decide (0<ops.size)&&!involvedF un (ops.size-1)
def afterRange (id1:Nat) (st:St) (h2:List Blk):Option (Ex×St):=match h2[id1]? with
 | some (.loop l)=>match l.state with
  | .busy=>none
  | _=>match dfKeep (.mark (id1-1)::st.df) h2 with
   | true=>match l.pending with
    | none=>some (.normal,{st with h:=h2.set id1 .dead,df:=.mark (id1-1)::st.df})
    | some .ret=>some (.ret,{st with h:=h2.set id1 .dead,df:=.mark (id1-1)::st.df})
    | some (.exit i)=>some (.exit i,{st with h:=h2.set id1 .dead,df:=.mark (id1-1)::st.df})
    | _=>none
   | false=>none
 | _=>none
def vexec (C:Cx) (vb:FuncId→List V→List Blk→Option FOut) (f:FuncId) (rd:Bool):Nat→Code→St→(Ex→St→Option FOut)→Option FOut
 | 0,_,_,_=>none
 | n+1,c,st,K =>
  match c with
  | .skip | .label _=>K .normal st
  | .region _ ops false=>vops C vb f rd ops.toList ops.toList st (K .normal) (fun v st=>K (.pan v) st)
  | .region id ops true=>match C.un f id with
   | some un=>match lastFree un ops with
    | true=>vdraw C (fun _=>vb) f un st.h.length ops.toList (List.range (ops.size-1)) [] st fun st=>vops C vb f rd ops.toList (ops.toList.drop (ops.size-1)) st (K .normal) (fun v st=>K (.pan v) st)
    | false=>vdraw C (fun _=>vb) f un st.h.length ops.toList (List.range ops.size) [] st (K .normal)
   | none=>none
  | .seq a b=>vexec C vb f rd n a st fun e st'=>match e with
   | .normal=>vexec C vb f rd n b st' K
   | e=>K e st'
  | .cond x a b=>match st.peekF x with
   | .bool t=>condB t (vexec C vb f rd n a st K) (vexec C vb f rd n b st K)
   | _=>none
  | .block id b=>vexec C vb f rd n b st fun e st'=>match e with
   | .exit i=>if i=id then K .normal st' else K (.exit i) st'
   | e=>K e st'
  | .loop b=>vexec C vb f rd n b st fun e st'=>match e with
   | .normal=>vexec C vb f rd n (.loop b) st' K
   | e=>K e st'
  | .exit id=>K (.exit id) st
  | .ret=>K .ret st
  | .rangeFunc g ps asg body=>if rd then none else match st.peekF g with
   | .fn (.func gf) [] caps=>if yBase≤gf then none else
    bindO (vb gf ([.obj 1 (st.h.length+1)]++caps) (st.h++[.dfr,.loop {state:=.ready,pending:=none,f:=f,fr:=st.fr.map (map3 demote1),ps:=ps,asg:=asg,body:=body}])) fun
     | .ret _ h2=>match afterRange (st.h.length+1) {st with fr:=st.fr.map (map3 mark1)} h2 with
      | some (e,st')=>K e st'
      | none=>none
     | .pan _ _=>none
   | _=>none
  | _=>none
def escape1 (P:Program) (h:List Blk):V→Option V
 | .own id off n _=>match h[id]? with
  | some (.cells cs e)=>match isAggT P e,sizeT P e with
   | some false,some 1=>condB (decide (off+n≤cs.length)&&((cs.drop off).take n).all flat1) (some (.imm false 1 ((cs.drop off).take n))) none
   | some true,some (m+1)=>condB (decide (off+n*(m+1)≤cs.length)&&((cs.drop off).take (n*(m+1))).all flat1) (some (.imm false (m+1) (chunk (m+1) n (cs.drop off)))) none
   | _,_=>none
  | _=>none
 | .lin p e n xs=>some (.lin p e n xs)
 | v=>condB (flat1 v) (some v) none
def optAll {α β:Type} (f:α→Option β):List α→Option (List β)
 | []=>some []
 | x::xs=>bindO (f x) fun y=>bindO (optAll f xs) fun ys=>some (y::ys)
def escape2 (P:Program) (h:List Blk):V→Option V
 | .agg vs=>bindO (optAll (escape1 P h) vs) fun vs=>some (.agg vs)
 | v=>escape1 P h v
def resultV (C:Cx) (st:St):ResultVar→Option V
 | .tmp t=>some (getS st.fr t)
 | .cell a t=>match getS st.fr a,isAggT C.P t,sizeT C.P t with
  | .ptr id off,some g,some n=>match st.h[id]? with
   | some (.cells cs _)=>if off+n≤cs.length then ofCells g ((cs.drop off).take n) else none
   | _=>none
  | _,_,_=>none
def resultKey (st:St):ResultVar→Nat×Nat
 | .tmp t=>(0,t)
 | .cell a _=>match getS st.fr a with
  | .ptr id _=>(1,id)
  | _=>(2,a)
def distinct:List (Nat×Nat)→Bool
 | []=>true
 | x::xs=>!xs.contains x&&distinct xs
def one (vs:List V):V:=match vs with
 | [v]=>v
 | vs=>.tup vs
inductive Md where
 | ret | pan (v:V)
def Md.val:Md→V
 | .ret=>.nili
 | .pan v=>v
def vleave (vd:FuncId→List V→Md→List Blk→Option (Md×List Blk)):List Df→Md→List Blk→Option (Md×List Blk)
 | [],u,h=>some (u,h)
 | .mark id::r,u,h=>match h[id]? with
  | some .dfr=>match dfKeep r (h.set id .dead) with
   | true=>vleave vd r u (h.set id .dead)
   | false=>none
  | _=>none
 | .call f caps::r,u,h=>match vd f caps u h with
  | some (u',h')=>match dfKeep r h' with
   | true=>vleave vd r u' h'
   | false=>none
  | none=>none
def vfin (C:Cx) (fn:Func) (pure:Bool):Md→St→Option FOut
 | .ret,st=>bindO (optAll (resultV C st) fn.results.toList) fun vs =>
  if pure then (if distinct (fn.results.toList.map (resultKey st)) then bindO (optAll (escape2 C.P st.h) vs) fun vs=>some (.ret (one vs) []) else none)
  else condB (vs.all fun v=>!isLin2 v&&okV v) (some (.ret (one vs) st.h)) none
 | .pan v,st=>if pure then condB (flat2 v) (some (.pan v [])) none else some (.pan v st.h)
def vfinal (C:Cx) (vd:FuncId→List V→Md→List Blk→Option (Md×List Blk)) (fn:Func) (pure:Bool):Ex→St→Option FOut
 | .normal,st | .ret,st=>match vleave vd st.df .ret st.h with
  | some (u,h)=>vfin C fn pure u {st with h:=h,df:=[]}
  | none=>none
 | .pan v,st=>match vleave vd st.df (.pan v) st.h with
  | some (u,h)=>vfin C fn pure u {st with h:=h,df:=[]}
  | none=>none
 | .exit _,_=>none
def pureOf (C:Cx) (f:FuncId) (args:List V):Bool:=args.all flat2&&!C.heapy f
def setPs:List Tmp→List V→List V→List V
 | p::ps,v::vs,fr=>setPs ps vs (fr.set p v)
 | _,_,fr=>fr
def roundEnd (id:Nat) (jump:Option Code) (h:List Blk):Option FOut:=match h[id]? with
 | some (.loop l)=>some (.ret (.bool jump.isNone) (h.set id (.loop {l with state:=if jump.isNone then .ready else .done,pending:=jump})))
 | _=>none
def vround (C:Cx) (vb:FuncId→List V→List Blk→Option FOut) (n:Nat) (id:Nat) (args:List V) (h:List Blk):Option FOut:=match h[id]? with
 | some (.loop l)=>match l.state with
  | .ready=>match decide (args.length=l.ps.size) with
   | true=>vexec C vb l.f true n l.asg ⟨setPs l.ps.toList args l.fr,h,[]⟩ fun e st=>match e with
    | .normal=>match st.h[id]? with
     | some (.loop l2)=>match l2.state with
      | .ready=>vexec C vb l.f true n l.body {st with h:=st.h.set id (.loop {l2 with state:=.busy})} fun e st=>match e with
       | .normal=>roundEnd id none st.h
       | .ret=>roundEnd id (some .ret) st.h
       | .exit i=>roundEnd id (some (.exit i)) st.h
       | .pan _=>none
      | _=>none
     | _=>none
    | _=>none
   | false=>none
  | _=>none
 | _=>none
def isRecover (o0 o1:Oper):Option (Nat×Nat):=match o0.op,o0.dst,o0.guard,o1.op,o1.dst,o1.guard with
 | .call c,some d,none,.assign (.tmp d'),some d2,none=>match c.callee with
  | .builtin .recover=>match d'==d with
   | true=>some (d,d2)
   | false=>none
  | _=>none
 | _,_,_,_,_,_=>none
def vdEnd (e:Ex) (st:St):Option FOut:=match e with
 | .normal | .ret=>match st.df with
  | []=>some (.ret .undef st.h)
  | _=>none
 | _=>none
def vdcall (C:Cx) (vb:FuncId→List V→List Blk→Option FOut) (n:Nat) (f:FuncId) (caps:List V) (u:Md) (h:List Blk):Option (Md×List Blk):=match C.P.funcs[f]? with
 | some fn=>match fn.body,fn.results.toList with
  | some (.seq (.region _ ops false) rest),[]=>match ops.toList with
   | [o0,o1]=>match isRecover o0 o1,fn.name == "runtime.NumGoroutine" with
    | some (d,d2),false=>match decide (d<fn.ntmps) with
     | false=>none
     | true=>match vexec C vb f false n rest ⟨((caps++List.replicate (fn.ntmps-caps.length) V.undef).set d u.val).set d2 u.val,h,[]⟩ vdEnd with
     | some (.ret _ h')=>some (.ret,h')
     | _=>none
    | _,_=>none
   | _=>none
  | _,_=>none
 | none=>none
def vstep (C:Cx) (vb:FuncId→List V→List Blk→Option FOut) (n:Nat) (f:FuncId) (args:List V) (h:List Blk):Option FOut :=
  if yBase≤f then vround C vb (n+1) (f-yBase) args h else
  match C.P.funcs[f]? with
  | some fn=>match fn.body with
   | some c=>if fn.name == "runtime.NumGoroutine" then none else
    vexec C vb f false (n+1) c ⟨args++List.replicate (fn.ntmps-args.length) .undef,h,[]⟩ (vfinal C (vdcall C vb (n+1)) fn (pureOf C f args))
   | none=>none
  | none=>none
def vcall (C:Cx):Nat→FuncId→List V→List Blk→Option FOut
 | 0,_,_,_=>none
 | n+1,f,args,h=>vstep C (vcall C n) n f args h
end
end Go.Fw
namespace Go.Fw
open Go.RowKit
def isCell:V→Bool
 | .agg _ | .tup _=>false
 | _=>true
structure Mem where
 row:Nat→Option (List Value)
 shape:Nat→Option (Nat×TypeId)
instance:CoeFun Mem (fun _=>Nat→Option (List Value)):=⟨Mem.row⟩
def stAt (m:Mem) (b i:Nat):Option Value:=(m b).bind (·[i]?)
inductive RepI (m:Mem):V→Value→Prop
 | bool (b:Bool):RepI m (.bool b) (.bool b)
 | int (k:IntKind) (n:Int):RepI m (.int k n) (.int k n)
 | str (s:ByteArray):RepI m (.str s) (.string s)
 | nilp:RepI m .nilp (.pointer none)
 | nils:RepI m .nils (.slice none 0 0)
 | nne (a:Addr) (cap:Nat) (hm:cap≤maxLen) (hp:a.spot=none∨cap=0):RepI m .nne (.slice (some a) 0 cap)
 | nilf:RepI m .nilf .nilFunc
 | nili:RepI m .nili .nilIface
 | nilm:RepI m .nilm (.map none)
 | imm (full:Bool) (xs:List V) (b off cap esz:Nat) (val:Nat→Nat→Value) (hc:xs.length≤cap) (hf:full=true→cap=xs.length) (hm:cap≤maxLen) (hz:0<esz)
   (hl:∀ (i:Nat) (x:V),xs[i]?=some x→x.cells.length=esz)
   (hs:∀ (i:Nat) (x:V) (j:Nat) (c:V),xs[i]?=some x→x.cells[j]?=some c→isCell c=true∧stAt m b (off+i*esz+j)=some (val i j))
   (hv:∀ (i:Nat) (x:V) (j:Nat) (c:V),xs[i]?=some x→x.cells[j]?=some c→RepI m c (val i j)) (sp:Option Nat:=none) (hp:sp=none∨cap=0:=by exact Or.inl rfl) :
   RepI m (.imm full esz xs) (.slice (some ⟨b,off,sp⟩) xs.length cap)
 | none0 (full:Bool) (esz:Nat) (hz:0<esz):RepI m (.imm full esz []) (.slice none 0 0)
 | iptr (e:V) (o:Nat) (b base:Nat) (val:Nat→Value)
   (hs:∀ (j:Nat) (c:V),e.cells[j]?=some c→isCell c=true∧stAt m b (base+j)=some (val j))
   (hv:∀ (j:Nat) (c:V),e.cells[j]?=some c→RepI m c (val j)) :
   RepI m (.iptr e o) (.pointer (some ⟨b,base+o,none⟩))
 | agg (vs:List V) (cs:Array Value) (hn:vs.length=cs.size) (hs:∀ (j:Nat) (c:V),vs[j]?=some c→isCell c=true)
   (hv:∀ (j:Nat) (c:V) (h:j<cs.size),vs[j]?=some c→RepI m c cs[j]):RepI m (.agg vs) (.agg cs)
 | fn (f:Fn) (first caps:List V) (first' caps':Array Value) (h1:first.length=first'.size) (h2:caps.length=caps'.size)
   (v1:∀ (j:Nat) (c:V) (h:j<first'.size),first[j]?=some c→RepI m c first'[j])
   (v2:∀ (j:Nat) (c:V) (h:j<caps'.size),caps[j]?=some c→RepI m c caps'[j]):RepI m (.fn f first caps) (.func f first' caps')
 | iface (t:TypeId) (v:V) (u:Value) (h:RepI m v u):RepI m (.iface t v) (.iface t u)
def MemLe (m m':Mem):Prop:=(∀ b cs,m b=some cs→∃ cs',m' b=some cs'∧cs <+: cs')∧∀ b x,m.shape b=some x→m'.shape b=some x
theorem MemLe.refl (m:Mem):MemLe m m:=⟨fun _ cs h=>⟨cs,h,List.prefix_refl _⟩,fun _ _ h=>h⟩
theorem MemLe.trans {a b c:Mem} (h:MemLe a b) (k:MemLe b c):MemLe a c:=⟨fun x cs hx=>by
 obtain ⟨cs',h1,h2⟩:=h.1 x cs hx
 obtain ⟨cs'',h3,h4⟩:=k.1 x cs' h1
 exact ⟨cs'',h3,h2.trans h4⟩,fun b x hx=>k.2 b x (h.2 b x hx)⟩
theorem stAt_le {m m':Mem} (h:MemLe m m') {b i:Nat} {v:Value} (hv:stAt m b i=some v):stAt m' b i=some v:=by
 unfold stAt at *
 obtain ⟨cs,hc,hi⟩:=Option.bind_eq_some_iff.1 hv
 obtain ⟨cs',h1,t,rfl⟩:=h.1 b cs hc
 rw [h1]
 simp only [Option.bind_some]
 have hlt:=(List.getElem?_eq_some_iff.1 hi).1
 rw [List.getElem?_append_left hlt]
 exact hi
theorem RepI.mono {m m':Mem} (hm:MemLe m m') {v:V} {u:Value} (h:RepI m v u):RepI m' v u:=by
 induction h with
 | bool b=>exact .bool b
 | int k n=>exact .int k n
 | str s=>exact .str s
 | nilp=>exact .nilp
 | nils=>exact .nils
 | nne a cap h hp=>exact .nne a cap h hp
 | nilf=>exact .nilf
 | nili=>exact .nili
 | nilm=>exact .nilm
 | imm full xs b off cap esz val hc hf hmx hz hl hs hv sp hp ih =>
  exact .imm full xs b off cap esz val hc hf hmx hz hl (fun i x j c h1 h2=>⟨(hs i x j c h1 h2).1,stAt_le hm (hs i x j c h1 h2).2⟩) ih sp hp
 | none0 full esz hz=>exact .none0 full esz hz
 | iptr e o b base val hs hv ih=>exact .iptr e o b base val (fun j c h=>⟨(hs j c h).1,stAt_le hm (hs j c h).2⟩) ih
 | agg vs cs hn hs hv ih=>exact .agg vs cs hn hs ih
 | fn f first caps first' caps' h1 h2 v1 v2 ih1 ih2=>exact .fn f first caps first' caps' h1 h2 ih1 ih2
 | iface t v u h ih=>exact .iface t v u ih
theorem RepI.one {m:Mem} {v:V} {u:Value} (h:RepI m v u) (hc:isCell v=true):u.oneCell'=true:=by
 cases h<;>first | rfl | simp [isCell] at hc
inductive Place where
 | slot (τ i j k:Nat)
 | cell (id j:Nat)
 deriving DecidableEq
structure LinI where
 place:Place
 priv:Bool
 cs:List Value
 ety:TypeId
 esz:Nat
 cap:Nat
structure Gh where
 mem:Mem
 loc:Nat→Option Nat
 lin:Nat→Option LinI
def Elems (m:Mem) (esz:Nat) (xs:List V) (cs:List Value):Prop :=
 cs.length=xs.length*esz∧0<esz∧(∀ (i:Nat) (x:V),xs[i]?=some x→x.cells.length=esz) ∧
 ∀ (i:Nat) (x:V) (j:Nat) (c:V),xs[i]?=some x→x.cells[j]?=some c→isCell c=true∧∃ v,cs[i*esz+j]?=some v∧RepI m c v
theorem Elems.mono {m m':Mem} (hm:MemLe m m') {esz:Nat} {xs:List V} {cs:List Value} (h:Elems m esz xs cs):Elems m' esz xs cs :=
 ⟨h.1,h.2.1,h.2.2.1,fun i x j c h1 h2=>by
  obtain ⟨a,v,b,d⟩:=h.2.2.2 i x j c h1 h2
  exact ⟨a,v,b,d.mono hm⟩⟩
def objVal (k b:Nat):Value:=match k with
 | 0=>.map (some b)
 | _=>.func (.yield b) #[] #[]
def RepP (g:Gh) (v:V) (u:Value):Prop:=match v with
 | .ptr id off=>∃ b,g.loc id=some b∧u=.pointer (some ⟨b,off,none⟩)
 | .obj k id=>∃ b,g.loc id=some b∧u=objVal k b
 | v=>RepI g.mem v u
def Shp (m:Mem) (b off cap:Nat):Prop:=∃ n e,m.shape b=some (n,e)∧∀ sz,sizeT theP e=some sz→off+cap*sz≤n
theorem Shp.mono {m m':Mem} (hm:MemLe m m') {b off cap:Nat} (h:Shp m b off cap):Shp m' b off cap:=by
 obtain ⟨n,e,h1,h2⟩:=h
 exact ⟨n,e,hm.2 _ _ h1,h2⟩
def RepC (g:Gh) (p:Place) (v:V) (u:Value):Prop:=match v with
 | .undef=>u.oneCell'=true
 | .ptr id off=>∃ b,g.loc id=some b∧u=.pointer (some ⟨b,off,none⟩)
 | .obj k id=>∃ b,g.loc id=some b∧u=objVal k b
 | .own id off len room=>(∃ b cap,g.loc id=some b∧u=.slice (some ⟨b,off,none⟩) len cap∧len≤cap∧cap≤maxLen∧room≤cap∧Shp g.mem b off cap)∨(len=0∧room=0∧∃ ad,u=.slice ad 0 0)
 | .lin priv e n xs=>(∃ b i,g.lin b=some i∧i.place=p∧i.priv=priv∧(i.ety=e∧i.esz=n)∧u=.slice (some ⟨b,0,none⟩) xs.length i.cap∧Elems g.mem i.esz xs i.cs)∨(xs=[]∧0<n∧∃ ad,u=.slice ad 0 0)
 | .fn f first caps=>∃ first' caps',u=.func f first' caps'∧first.length=first'.size∧caps.length=caps'.size ∧
   (∀ (j:Nat) (c:V) (h:j<first'.size),first[j]?=some c→RepP g c first'[j])∧(∀ (j:Nat) (c:V) (h:j<caps'.size),caps[j]?=some c→RepP g c caps'[j])
 | .agg _ | .tup _=>False
 | v=>RepI g.mem v u
def RepA (g:Gh) (pl:Nat→Place) (v:V) (u:Value):Prop:=match v with
 | .agg vs=>∃ cs:Array Value,u=.agg cs∧vs.length=cs.size∧∀ (j:Nat) (c:V) (h:j<cs.size),vs[j]?=some c→RepC g (pl (j+1)) c cs[j]
 | .undef=>True
 | v=>RepC g (pl 0) v u
def RepS (g:Gh) (τ i:Nat) (v:V) (u:Value):Prop:=match v with
 | .tup vs=>∃ cs:Array Value,u=.tuple cs∧vs.length=cs.size∧∀ (k:Nat) (c:V) (h:k<cs.size),vs[k]?=some c→RepA g (fun j=>.slot τ i j (k+1)) c cs[k]
 | v=>RepA g (fun j=>.slot τ i j 0) v u
/-! ### the world -/
def BlkOk (g:Gh) (id:Nat) (x:Blk) (o:Obj):Prop:=match x with
 | .cells cs e=>∃ cur,o=.cells cur e (0,0)∧cs.length≤cur.size∧∀ (j:Nat) (c:V) (h:j<cur.size),cs[j]?=some c→RepC g (.cell id j) c cur[j]
 | .dead | .gone=>True
 | .dfr=>o=.deferred (some [])
 | .iter s p=>o=.stringIter s p
 | .mp es=>∃ (ents:Array MapEntry) (clock:Nat),o=.map ents clock∧es.length=ents.size∧∀ (j:Nat) (k v:V) (h:j<ents.size),es[j]?=some (k,v)→toVal1 k=some ents[j].key∧isLin2 v=false∧okV v=true∧∀ pl,RepA g pl v ents[j].val
 | .loop l=>(∀ p∈drawRegs l.asg++drawRegs l.body,RegOf theP l.f p.1 p.2)∧∃ (tmps:Array Value) (D:Nat) (fn:FuncId),o=.loop {state:=l.state,pending:=l.pending,fn:=fn,tmps:=tmps,params:=l.ps,assign:=l.asg,body:=l.body,defers:=D}∧l.fr.length=tmps.size ∧
   ∀ (i:Nat) (v:V) (h:i<tmps.size),l.fr[i]?=some v→isLin3 v=false∧∀ τ d,RepS g τ d v tmps[i]
def InjOk (loc:Nat→Option Nat) (H:List Blk):Prop:=∀ (id id' b:Nat) (x x':Blk),loc id=some b→loc id'=some b→H[id]?=some x→H[id']?=some x'→x.live=true→x'.live=true→id=id'
theorem InjOk.set {loc:Nat→Option Nat} {H:List Blk} (h:InjOk loc H) {id:Nat} {x:Blk} (hx:H[id]?=some x) (hlv:x.live=true) (x':Blk):InjOk loc (H.set id x'):=by
 have was:∀ (i:Nat) (x1:Blk),(H.set id x')[i]?=some x1→x1.live=true→∃ x0,H[i]?=some x0∧x0.live=true:=by
  intro i x1 h1 h2
  by_cases e:id=i
  ·subst e;exact ⟨x,hx,hlv⟩
  ·rw [List.getElem?_set_ne e] at h1;exact ⟨x1,h1,h2⟩
 intro i j c x1 x2 q1 q2 q3 q4 q5 q6
 obtain ⟨y1,r1,r2⟩:=was i x1 q3 q5
 obtain ⟨y2,r3,r4⟩:=was j x2 q4 q6
 exact h i j c y1 y2 q1 q2 r1 r3 r2 r4
theorem InjOk.app {loc:Nat→Option Nat} {H:List Blk} (h:InjOk loc H) (hb:∀ id b,loc id=some b→id<H.length) (l:List Blk):InjOk loc (H++l):=by
 intro i j c x1 x2 q1 q2 q3 q4 q5 q6
 rw [List.getElem?_append_left (hb _ _ q1)] at q3
 rw [List.getElem?_append_left (hb _ _ q2)] at q4
 exact h i j c x1 x2 q1 q2 q3 q4 q5 q6
structure HeapOk (g:Gh) (H:List Blk) (B:Nat) (w:World):Prop where
 bound:∀ id b,g.loc id=some b→id<H.length
 inj:InjOk g.loc H
 fresh:∀ id b,g.loc id=some b→B≤b∧b<w.heap.size∧g.mem b=none∧g.lin b=none
 blkO:∀ id b x,g.loc id=some b→H[id]?=some x→∃ o,w.heap[b]?=some o∧BlkOk g id x o
theorem HeapOk.blk {g:Gh} {H:List Blk} {B:Nat} {w:World} (h:HeapOk g H B w):∀ id b cs e,g.loc id=some b→H[id]?=some (.cells cs e)→∃ cur,w.heap[b]?=some (.cells cur e (0,0))∧cs.length≤cur.size ∧
  ∀ (j:Nat) (c:V) (h:j<cur.size),cs[j]?=some c→RepC g (.cell id j) c cur[j]:=by
 intro id b cs e h1 h2
 obtain ⟨o,h3,cur,rfl,h4⟩:=h.blkO id b _ h1 h2
 exact ⟨cur,h3,h4⟩
def DfOk (g:Gh) (H:List Blk):List Df→List Deferred→Prop
 | [],ds=>ds=[]
 | .mark id::r,ds=>∃ D ds',ds={target:=.collected D,args:=#[]}::ds'∧g.loc id=some D∧H[id]?=some .dfr∧DfOk g H r ds'
 | .call f caps::r,ds=>∃ (cs:Array Value) (ds':List Deferred),ds={target:=.fn (.func f) cs,args:=#[]}::ds'∧caps.length=cs.size∧(∀ (j:Nat) (c:V) (h:j<cs.size),caps[j]?=some c→RepP g c cs[j])∧DfOk g H r ds'
structure MemOk (m:Mem) (w:World):Prop where
 at_:∀ b cs,m b=some cs→∃ cur e fr,w.heap[b]?=some (.cells cur e fr)∧cs <+: cur.toList
 glob:∀ b cs,theGlob b=some cs→∃ cs',m b=some cs'∧cs <+: cs'
 shape:∀ b n e,m.shape b=some (n,e)→∃ cur fr,w.heap[b]?=some (.cells cur e fr)∧cur.size=n
theorem glob_le {m m':Mem} (h:MemLe m m') {cs:List Value} {b:Nat} (hg:∃ cs',m b=some cs'∧cs <+: cs'):∃ cs',m' b=some cs'∧cs <+: cs':=by
 obtain ⟨cs',h1,h2⟩:=hg
 obtain ⟨cs2,h3,h4⟩:=h.1 b cs' h1
 exact ⟨cs2,h3,h2.trans h4⟩
structure LinOk (g:Gh) (B:Nat) (w:World):Prop where
 at_:∀ b i,g.lin b=some i→B≤b∧(∃ cur,w.heap[b]?=some (.cells cur i.ety (0,0))∧i.cs <+: cur.toList∧cur.size=i.cap*i.esz)∧i.cs.length≤i.cap*i.esz∧i.cap≤maxLen∧0<i.esz ∧
  (i.priv=true→g.mem b=none)∧(i.priv=false→g.mem b=some i.cs)
structure R (B τ:Nat) (g:Gh) (st:St) (a:Act) (w:World):Prop where
 size:st.fr.length=a.tmps.size
 slots:∀ (i:Nat) (v:V) (h:i<a.tmps.size),st.fr[i]?=some v→RepS g τ i v a.tmps[i]
 heap:HeapOk g st.h B w
 mem:MemOk g.mem w
 lin:LinOk g B w
 base:B≤w.heap.size
 defers:DfOk g st.h st.df a.defers
structure Later (B τ:Nat) (g g':Gh) (w w':World):Prop where
 below:Below B w w'
 mem:MemLe g.mem g'.mem
 old:∀ b,b<B→g'.mem b=g.mem b
 loc:∀ id b,g.loc id=some b→g'.loc id=some b
 lin:∀ b i,g.lin b=some i→(∃ τ' x j k,i.place=.slot τ' x j k∧τ'≠τ)→g'.lin b=some i
theorem Later.refl (B τ:Nat) (g:Gh) (w:World):Later B τ g g w w:=⟨Below.refl _ _,MemLe.refl _,fun _ _=>rfl,fun _ _ h=>h,fun _ _ h _=>h⟩
theorem Later.trans {B τ:Nat} {g g' g'':Gh} {w w' w'':World} (h:Later B τ g g' w w') (k:Later B τ g' g'' w' w''):Later B τ g g'' w w'' :=
 ⟨h.below.trans k.below,h.mem.trans k.mem,fun b hb=>(k.old b hb).trans (h.old b hb),fun id b hl=>k.loc id b (h.loc id b hl),fun b i hi hp=>k.lin b i (h.lin b i hi hp) hp⟩
theorem RepI.stays {g g':Gh} (hm:MemLe g.mem g'.mem) {v:V} {u:Value} (h:RepI g.mem v u):RepI g'.mem v u:=h.mono hm
theorem RepP.mono {g g':Gh} (hm:MemLe g.mem g'.mem) (hl:∀ id b,g.loc id=some b→g'.loc id=some b) {v:V} {u:Value} (h:RepP g v u):RepP g' v u:=by
 unfold RepP at *
 split at h
 ·obtain ⟨b,h1,h2⟩:=h;exact ⟨b,hl _ _ h1,h2⟩
 ·obtain ⟨b,h1,h2⟩:=h;exact ⟨b,hl _ _ h1,h2⟩
 ·exact h.mono hm
theorem RepC.mono {g g':Gh} {p:Place} (hm:MemLe g.mem g'.mem) (hl:∀ id b,g.loc id=some b→g'.loc id=some b) (hn:∀ b i,g.lin b=some i→i.place=p→g'.lin b=some i) {v:V} {u:Value} (h:RepC g p v u):RepC g' p v u:=by
 cases v<;>simp only [RepC] at h ⊢<;>try exact h.mono hm
 case undef=>exact h
 case ptr id off=>obtain ⟨b,h1,h2⟩:=h;exact ⟨b,hl _ _ h1,h2⟩
 case obj k id=>obtain ⟨b,h1,h2⟩:=h;exact ⟨b,hl _ _ h1,h2⟩
 case own id off len room =>
  rcases h with ⟨b,cap,h1,h2,h3,h4,h5,h6⟩ | h
  ·exact .inl ⟨b,cap,hl _ _ h1,h2,h3,h4,h5,h6.mono hm⟩
  ·exact .inr h
 case lin priv e n xs =>
  rcases h with ⟨b,i,h1,h2,h3,h0,h4,h5⟩ | h
  ·exact .inl ⟨b,i,hn b i h1 h2,h2,h3,h0,h4,h5.mono hm⟩
  ·exact .inr h
 case fn f first caps =>
  obtain ⟨a,c,h1,h2,h3,h4,h5⟩:=h
  exact ⟨a,c,h1,h2,h3,fun j x hj hx=>(h4 j x hj hx).mono hm hl,fun j x hj hx=>(h5 j x hj hx).mono hm hl⟩
theorem RepA.mono {g g':Gh} {pl:Nat→Place} (hm:MemLe g.mem g'.mem) (hl:∀ id b,g.loc id=some b→g'.loc id=some b) (hn:∀ j b i,g.lin b=some i→i.place=pl j→g'.lin b=some i) {v:V} {u:Value} (h:RepA g pl v u):RepA g' pl v u:=by
 unfold RepA at *
 split at h
 ·obtain ⟨cs,h1,h2,h3⟩:=h
  exact ⟨cs,h1,h2,fun j c hj hc=>(h3 j c hj hc).mono hm hl (hn _)⟩
 ·trivial
 ·exact h.mono hm hl (hn _)
theorem RepS.mono {g g':Gh} {τ i:Nat} (hm:MemLe g.mem g'.mem) (hl:∀ id b,g.loc id=some b→g'.loc id=some b) (hn:∀ j k b x,g.lin b=some x→x.place=.slot τ i j k→g'.lin b=some x) {v:V} {u:Value} (h:RepS g τ i v u):RepS g' τ i v u:=by
 unfold RepS at *
 split at h
 ·obtain ⟨cs,h1,h2,h3⟩:=h
  exact ⟨cs,h1,h2,fun k c hk hc=>(h3 k c hk hc).mono hm hl (fun j=>hn j _)⟩
 ·exact h.mono hm hl (fun j=>hn j _)
theorem RepC.mono0 {g g':Gh} {p:Place} (hm:MemLe g.mem g'.mem) (hl:∀ id b,g.loc id=some b→g'.loc id=some b) {v:V} {u:Value} (hv:isLin1 v=false) (h:RepC g p v u):RepC g' p v u:=by
 cases v<;>simp only [RepC] at h ⊢<;>try exact h.mono hm
 case undef=>exact h
 case ptr id off=>obtain ⟨b,h1,h2⟩:=h;exact ⟨b,hl _ _ h1,h2⟩
 case obj k id=>obtain ⟨b,h1,h2⟩:=h;exact ⟨b,hl _ _ h1,h2⟩
 case own id off len room =>
  rcases h with ⟨b,cap,h1,h2,h3,h4,h5,h6⟩ | h
  ·exact .inl ⟨b,cap,hl _ _ h1,h2,h3,h4,h5,h6.mono hm⟩
  ·exact .inr h
 case lin priv e n xs=>cases hv
 case fn f first caps =>
  obtain ⟨a,c,h1,h2,h3,h4,h5⟩:=h
  exact ⟨a,c,h1,h2,h3,fun j x hj hx=>(h4 j x hj hx).mono hm hl,fun j x hj hx=>(h5 j x hj hx).mono hm hl⟩
theorem isLin2_one {v:V} (h:∀ vs,v=.agg vs→False):isLin2 v=isLin1 v:=by cases v<;>first | rfl | exact (h _ rfl).elim
theorem isLin3_one {v:V} (h:∀ vs,v=.tup vs→False):isLin3 v=isLin2 v:=by cases v<;>first | rfl | exact (h _ rfl).elim
theorem RepA.mono0 {g g':Gh} {pl:Nat→Place} (hm:MemLe g.mem g'.mem) (hl:∀ id b,g.loc id=some b→g'.loc id=some b) {v:V} {u:Value} (hv:isLin2 v=false) (h:RepA g pl v u):RepA g' pl v u:=by
 unfold RepA at h ⊢
 split at h
 ·obtain ⟨cs,h1,h2,h3⟩:=h
  simp only [isLin2] at hv
  rw [List.any_eq_false] at hv
  exact ⟨cs,h1,h2,fun j c hj hc=>(h3 j c hj hc).mono0 hm hl (by simpa using hv c (List.mem_of_getElem? hc))⟩
 ·trivial
 ·rename_i h1 h2
  exact h.mono0 hm hl (by rw [←isLin2_one h1];exact hv)
theorem RepS.mono0 {g g':Gh} {τ i:Nat} (hm:MemLe g.mem g'.mem) (hl:∀ id b,g.loc id=some b→g'.loc id=some b) {v:V} {u:Value} (hv:isLin3 v=false) (h:RepS g τ i v u):RepS g' τ i v u:=by
 unfold RepS at h ⊢
 split at h
 ·obtain ⟨cs,h1,h2,h3⟩:=h
  simp only [isLin3] at hv
  rw [List.any_eq_false] at hv
  exact ⟨cs,h1,h2,fun j c hj hc=>(h3 j c hj hc).mono0 hm hl (by simpa using hv c (List.mem_of_getElem? hc))⟩
 ·rename_i h1
  exact h.mono0 hm hl (by rw [←isLin3_one h1];exact hv)
theorem BlkOk.mono {g g':Gh} {id:Nat} (hm:MemLe g.mem g'.mem) (hl:∀ id b,g.loc id=some b→g'.loc id=some b) (hn:∀ j b i,g.lin b=some i→i.place=.cell id j→g'.lin b=some i) {x:Blk} {o:Obj} (h:BlkOk g id x o):BlkOk g' id x o:=by
 cases x with
 | cells cs e=>obtain ⟨cur,h1,h2,h3⟩:=h;exact ⟨cur,h1,h2,fun j c hj hc=>(h3 j c hj hc).mono hm hl (hn j)⟩
 | dead=>trivial
 | gone=>trivial
 | dfr=>exact h
 | iter s p=>exact h
 | mp es =>
  obtain ⟨ents,clock,h1,h2,h3⟩:=h
  refine ⟨ents,clock,h1,h2,fun j k v hj hc=>?_⟩
  obtain ⟨q1,q2,q3,q4⟩:=h3 j k v hj hc
  exact ⟨q1,q2,q3,fun pl=>(q4 pl).mono0 hm hl q2⟩
 | loop l =>
  obtain ⟨h0,tmps,D,fn,h1,h2,h3⟩:=h
  exact ⟨h0,tmps,D,fn,h1,h2,fun i v hi hv=>⟨(h3 i v hi hv).1,fun τ d=>((h3 i v hi hv).2 τ d).mono0 hm hl (h3 i v hi hv).1⟩⟩
theorem DfOk.mono {g g':Gh} {H H':List Blk} (hm:MemLe g.mem g'.mem) (hl:∀ id b,g.loc id=some b→g'.loc id=some b) (hH:∀ id:Nat,H[id]?=some .dfr→H'[id]?=some .dfr):∀ {df:List Df} {ds:List Deferred},DfOk g H df ds→DfOk g' H' df ds
 | [],ds,h=>h
 | .mark id::r,ds,h=>by
  obtain ⟨D,ds',h1,h2,h3,h4⟩:=h
  exact ⟨D,ds',h1,hl _ _ h2,hH _ h3,h4.mono hm hl hH⟩
 | .call f caps::r,ds,h=>by
  obtain ⟨cs,ds',h1,h2,h3,h4⟩:=h
  exact ⟨cs,ds',h1,h2,fun j c hj hc=>(h3 j c hj hc).mono hm hl,h4.mono hm hl hH⟩
theorem DfOk.keep {g g':Gh} {H H':List Blk} (hm:MemLe g.mem g'.mem) (hl:∀ id b,g.loc id=some b→g'.loc id=some b):∀ {df:List Df} {ds:List Deferred},dfKeep df H'=true→DfOk g H df ds→DfOk g' H' df ds
 | [],ds,_,h=>h
 | .mark id::r,ds,hk,h=>by
  obtain ⟨D,ds',h1,h2,h3,h4⟩:=h
  simp only [dfKeep,List.all_cons,Bool.and_eq_true] at hk
  refine ⟨D,ds',h1,hl _ _ h2,?_,h4.keep hm hl (by unfold dfKeep;exact hk.2)⟩
  have:=hk.1
  split at this
  ·rename_i b hb
   cases b<;>first | exact hb | cases this
  ·cases this
 | .call f caps::r,ds,hk,h=>by
  obtain ⟨cs,ds',h1,h2,h3,h4⟩:=h
  simp only [dfKeep,List.all_cons,Bool.and_eq_true] at hk
  exact ⟨cs,ds',h1,h2,fun j c hj hc=>(h3 j c hj hc).mono hm hl,h4.keep hm hl (by unfold dfKeep;exact hk.2)⟩
theorem dfr_append {H:List Blk} (l:List Blk) {id:Nat} (h:H[id]?=some .dfr):(H++l)[id]?=some .dfr:=by
 rw [List.getElem?_append_left (List.getElem?_eq_some_iff.1 h).1];exact h
theorem dfr_set {H:List Blk} {i:Nat} {x:Blk} (y:Blk) (hx:H[i]?=some x) (hn:x.isDfr=false) {id:Nat} (h:H[id]?=some .dfr):(H.set i y)[id]?=some .dfr:=by
 rw [List.getElem?_set_ne]
 ·exact h
 ·rintro rfl;rw [h] at hx;cases hx;cases hn
end Go.Fw
namespace Go.Fw
open Go.RowKit
def Gh.share (g:Gh) (q:Place→Bool):Gh where
 mem:=⟨fun b=>match g.lin b with | some i=>if q i.place then some i.cs else g.mem b | none=>g.mem b,g.mem.shape⟩
 loc:=g.loc
 lin:=fun b=>(g.lin b).map fun i=>if q i.place then {i with priv:=false} else i
def Gh.ren (g:Gh) (f:Place→Place):Gh where
 mem:=g.mem
 loc:=g.loc
 lin:=fun b=>(g.lin b).map fun i=>{i with place:=f i.place}
theorem share_memLe {g:Gh} {q:Place→Bool} {B:Nat} {w:World} (h:LinOk g B w):MemLe g.mem (g.share q).mem:=by
 refine ⟨fun b cs hb=>?_,fun _ _ h=>h⟩
 unfold Gh.share
 dsimp only
 cases hl:g.lin b with
 | none=>exact ⟨cs,hb,List.prefix_refl _⟩
 | some i =>
  dsimp only
  split
  ·obtain ⟨_,_,_,_,_,hp,hs⟩:=h.at_ b i hl
   cases hpr:i.priv with
   | true=>rw [hp hpr] at hb;cases hb
   | false=>rw [hs hpr] at hb;cases hb;exact ⟨_,rfl,List.prefix_refl _⟩
  ·exact ⟨cs,hb,List.prefix_refl _⟩
theorem share_lin {g:Gh} {q:Place→Bool} {B:Nat} {w:World} (h:LinOk g B w):LinOk (g.share q) B w:=by
 constructor
 intro b i hi
 unfold Gh.share at hi ⊢
 dsimp only at hi ⊢
 cases hl:g.lin b with
 | none=>rw [hl] at hi;cases hi
 | some i0 =>
  rw [hl] at hi
  simp only [Option.map_some,Option.some.injEq] at hi
  subst hi
  obtain ⟨h1,h2,h3,h4,h5,h6,h7⟩:=h.at_ b i0 hl
  by_cases hq:q i0.place=true
  ·simp only [hq,if_true]
   exact ⟨h1,h2,h3,h4,h5,fun h=>by simp at h,fun _=>trivial⟩
  ·simp only [hq]
   exact ⟨h1,h2,h3,h4,h5,h6,h7⟩
theorem share_mem {g:Gh} {q:Place→Bool} {B:Nat} {w:World} (h:LinOk g B w) (hm:MemOk g.mem w):MemOk (g.share q).mem w:=by
 constructor
 intro b cs hb
 unfold Gh.share at hb
 dsimp only at hb
 cases hl:g.lin b with
 | none=>rw [hl] at hb;exact hm.at_ b cs hb
 | some i =>
  rw [hl] at hb
  dsimp only at hb
  split at hb
  ·cases hb
   obtain ⟨_,⟨cur,h2,h3,_⟩,_⟩:=h.at_ b i hl
   exact ⟨cur,_,_,h2,h3⟩
  ·exact hm.at_ b cs hb
 ·intro b cs hb
  exact glob_le (share_memLe h) (hm.glob b cs hb)
 ·exact hm.shape
theorem share_heap {g:Gh} {q:Place→Bool} {B:Nat} {H:List Blk} {w:World} (h:LinOk g B w) (hq:∀ id j,q (.cell id j)=false) (hh:HeapOk g H B w):HeapOk (g.share q) H B w:=by
 refine ⟨hh.bound,hh.inj,fun id b hb=>?_,fun id b x hb he=>?_⟩
 ·obtain ⟨h1,h2,h3,h4⟩:=hh.fresh id b hb
  refine ⟨h1,h2,?_,?_⟩
  ·unfold Gh.share;dsimp only;rw [h4];exact h3
  ·unfold Gh.share;dsimp only;rw [h4];rfl
 ·obtain ⟨o,h1,h2⟩:=hh.blkO id b x hb he
  refine ⟨o,h1,h2.mono (share_memLe h) (fun _ _ h=>h) (fun j b i hi hp=>?_)⟩
  unfold Gh.share;dsimp only;rw [hi];simp [hp,hq]
theorem ren_lin {g:Gh} {f:Place→Place} {B:Nat} {w:World} (h:LinOk g B w):LinOk (g.ren f) B w:=by
 constructor
 intro b i hi
 unfold Gh.ren at hi
 dsimp only at hi
 cases hl:g.lin b with
 | none=>rw [hl] at hi;cases hi
 | some i0 =>
  rw [hl] at hi
  simp only [Option.map_some,Option.some.injEq] at hi
  subst hi
  exact h.at_ b i0 hl
theorem ren_heap {g:Gh} {f:Place→Place} {B:Nat} {H:List Blk} {w:World} (hf:∀ id j,f (.cell id j)=.cell id j) (hh:HeapOk g H B w):HeapOk (g.ren f) H B w:=by
 refine ⟨hh.bound,hh.inj,fun id b hb=>?_,fun id b x hb he=>?_⟩
 ·obtain ⟨h1,h2,h3,h4⟩:=hh.fresh id b hb
  refine ⟨h1,h2,h3,?_⟩
  unfold Gh.ren;dsimp only;rw [h4];rfl
 ·obtain ⟨o,h1,h2⟩:=hh.blkO id b x hb he
  refine ⟨o,h1,BlkOk.mono (g:=g) (g':=g.ren f) (MemLe.refl _) (fun _ _ h=>h) (fun j b i hi hp=>?_) h2⟩
  unfold Gh.ren;dsimp only;rw [hi]
  cases i;simp at hp;simp [hp,hf]
theorem lin_share_of {g:Gh} {q:Place→Bool} {b:Nat} {i:LinI} (h:g.lin b=some i) (hq:q i.place=false):(g.share q).lin b=some i:=by
 unfold Gh.share;dsimp only;rw [h];simp [hq]
theorem lin_ren_of {g:Gh} {f:Place→Place} {b:Nat} {i:LinI} (h:g.lin b=some i) (hf:f i.place=i.place):(g.ren f).lin b=some i:=by
 unfold Gh.ren;dsimp only;rw [h];simp [hf]
theorem share_later {g:Gh} {q:Place→Bool} {B τ:Nat} {w:World} (h:LinOk g B w) (hq:∀ τ' x j k,q (.slot τ' x j k)=true→τ'=τ):Later B τ g (g.share q) w w:=by
 refine ⟨Below.refl _ _,share_memLe h,fun b hb=>?_,fun _ _ h=>h,fun b i hi ⟨τ',x,j,k,hp,hne⟩=>lin_share_of hi ?_⟩
 ·unfold Gh.share;dsimp only
  cases hl:g.lin b with
  | none=>rfl
  | some i=>have:=(h.at_ b i hl).1;omega
 ·rw [hp]
  cases hh:q (.slot τ' x j k) with
  | false=>rfl
  | true=>exact absurd (hq _ _ _ _ hh) hne
theorem ren_later {g:Gh} {f:Place→Place} {B τ:Nat} {w:World} (hf:∀ τ' x j k,τ'≠τ→f (.slot τ' x j k)=.slot τ' x j k):Later B τ g (g.ren f) w w :=
 ⟨Below.refl _ _,MemLe.refl _,fun _ _=>rfl,fun _ _ h=>h,fun b i hi ⟨τ',x,j,k,hp,hne⟩=>lin_ren_of hi (by rw [hp];exact hf _ _ _ _ hne)⟩
/-! ### a cell that is copied,marked,taken -/
theorem repI_imm_of {m:Mem} {b cap esz:Nat} {xs:List V} {cs:List Value} (hb:m b=some cs) (he:Elems m esz xs cs) (hc:cs.length≤cap*esz) (hmx:cap≤maxLen):RepI m (.imm false esz xs) (.slice (some ⟨b,0,none⟩) xs.length cap):=by
 obtain ⟨h1,h2,h3,h4⟩:=he
 have hle:xs.length≤cap:=by rw [h1] at hc;exact Nat.le_of_mul_le_mul_right hc h2
 refine .imm false xs b 0 cap esz (fun i j=>(cs[i*esz+j]?).getD default) hle (fun h=>by cases h) hmx h2 h3 (fun i x j c hx hj=>?_) (fun i x j c hx hj=>?_)
 ·obtain ⟨a,v,hv,_⟩:=h4 i x j c hx hj
  refine ⟨a,?_⟩
  unfold stAt
  rw [hb]
  simp [hv]
 ·obtain ⟨a,v,hv,hr⟩:=h4 i x j c hx hj
  rw [hv];exact hr
theorem repI_empty {m:Mem} {full:Bool} {esz:Nat} (hz:0<esz) (ad:Option Addr):RepI m (.imm full esz []) (.slice ad 0 0):=by
 cases ad with
 | none=>exact .none0 full esz hz
 | some a =>
  obtain ⟨b,off,sp⟩:=a
  exact .imm full [] b off 0 esz (fun _ _=>default) (Nat.le_refl 0) (fun _=>rfl) (by simp [maxLen]) hz (fun i x hx=>by cases hx) (fun i x j c hx=>by cases hx) (fun i x j c hx=>by cases hx) sp (.inr rfl)
theorem RepC.shared {g:Gh} {q:Place→Bool} {B:Nat} {w:World} (hL:LinOk g B w) {p:Place} (hq:q p=true) {v:V} {u:Value} (h:RepC g p v u):RepC (g.share q) p (mark1 v) u∧∀ p',RepC (g.share q) p' (demote1 v) u:=by
 have hm:MemLe g.mem (g.share q).mem:=share_memLe hL
 cases v with
 | lin priv e n xs =>
  simp only [RepC,mark1,demote1] at h ⊢
  rcases h with ⟨b,i,h1,h2,h3,⟨rfl,rfl⟩,h4,h5⟩ | h
  rotate_left
  ·refine ⟨.inr h,fun _=>?_⟩
   obtain ⟨rfl,hz,ad,rfl⟩:=h
   exact repI_empty hz ad
  obtain ⟨k1,k2,k3,k4,k5,_,_⟩:=hL.at_ b i h1
  have hl:(g.share q).lin b=some {i with priv:=false}:=by unfold Gh.share;dsimp only;rw [h1];simp [h2,hq]
  have hme:(g.share q).mem b=some i.cs:=by unfold Gh.share;dsimp only;rw [h1];simp [h2,hq]
  refine ⟨.inl ⟨b,_,hl,h2,rfl,⟨rfl,rfl⟩,h4,h5.mono hm⟩,fun p'=>?_⟩
  rw [h4]
  exact repI_imm_of hme (h5.mono hm) k3 k4
 | undef=>exact ⟨h,fun _=>h⟩
 | ptr=>simp only [RepC,mark1,demote1] at h ⊢;exact ⟨h,fun _=>h⟩
 | obj=>simp only [RepC,mark1,demote1] at h ⊢;exact ⟨h,fun _=>h⟩
 | own=>simp only [RepC,mark1,demote1] at h ⊢;exact ⟨h,fun _=>h⟩
 | agg=>exact h.elim
 | tup=>exact h.elim
 | fn f a c =>
  have:=fun p'=>RepC.mono (p:=p') (g':=g.share q) (v:=V.fn f a c) (u:=u) hm (fun _ _ h=>h)
  simp only [RepC,mark1,demote1] at h ⊢
  obtain ⟨a',c',h1,h2,h3,h4,h5⟩:=h
  have hh:∃ first' caps',u=.func f first' caps'∧a.length=first'.size∧c.length=caps'.size ∧
   (∀ (j:Nat) (x:V) (h:j<first'.size),a[j]?=some x→RepP (g.share q) x first'[j])∧(∀ (j:Nat) (x:V) (h:j<caps'.size),c[j]?=some x→RepP (g.share q) x caps'[j]) :=
   ⟨a',c',h1,h2,h3,fun j x hj hx=>(h4 j x hj hx).mono hm (fun _ _ h=>h),fun j x hj hx=>(h5 j x hj hx).mono hm (fun _ _ h=>h)⟩
  exact ⟨hh,fun _=>hh⟩
 | _=>simp only [RepC,mark1,demote1] at h ⊢;exact ⟨h.mono hm,fun _=>h.mono hm⟩
theorem RepC.moved {g:Gh} {f:Place→Place} {p p':Place} (hf:f p=p') {v:V} {u:Value} (h:RepC g p v u):RepC (g.ren f) p' v u∧RepC (g.ren f) p (drop1 v) u:=by
 cases v with
 | lin priv e n xs =>
  simp only [RepC,drop1] at h ⊢
  rcases h with ⟨b,i,h1,h2,h3,h0,h4,h5⟩ | h
  rotate_left
  ·obtain ⟨h1,h2,ad,rfl⟩:=h
   exact ⟨.inr ⟨h1,h2,ad,rfl⟩,rfl⟩
  have hl:(g.ren f).lin b=some {i with place:=p'}:=by unfold Gh.ren;dsimp only;rw [h1];simp [h2,hf]
  exact ⟨.inl ⟨b,_,hl,rfl,h3,h0,h4,h5⟩,by rw [h4];rfl⟩
 | agg=>exact h.elim
 | tup=>exact h.elim
 | _=>exact ⟨h,h⟩
theorem RepC.any {g:Gh} {p p':Place} {v:V} {u:Value} (hv:isLin1 v=false) (h:RepC g p v u):RepC g p' v u:=by
 cases v<;>first | exact h | simp [isLin1] at hv
end Go.Fw
namespace Go.Fw
open Go.RowKit
theorem mark1_of {v:V} (h:isLin1 v=false):mark1 v=v:=by cases v<;>first | rfl | simp [isLin1] at h
theorem demote1_of {v:V} (h:isLin1 v=false):demote1 v=v:=by cases v<;>first | rfl | simp [isLin1] at h
theorem drop1_of {v:V} (h:isLin1 v=false):drop1 v=v:=by cases v<;>first | rfl | simp [isLin1] at h
theorem map_of {f:V→V} {p:V→Bool} (hf:∀ v,p v=false→f v=v):∀ {vs:List V},vs.any p=false→vs.map f=vs
 | [],_=>rfl
 | v::vs,h=>by
  simp only [List.any_cons,Bool.or_eq_false_iff] at h
  rw [List.map_cons,hf v h.1,map_of hf h.2]
theorem map2_of {f:V→V} (hf:∀ v,isLin1 v=false→f v=v) {v:V} (h:isLin2 v=false):map2 f v=v:=by
 cases v<;>simp only [map2,isLin2] at h ⊢<;>first | exact congrArg V.agg (map_of hf h) | exact hf _ h
theorem map3_of {f:V→V} (hf:∀ v,isLin1 v=false→f v=v) {v:V} (h:isLin3 v=false):map3 f v=v:=by
 cases v<;>simp only [map3,isLin3] at h ⊢<;>first | exact congrArg V.tup (map_of (fun _ h=>map2_of hf h) h) | exact map2_of hf h
theorem mark1_undef {v:V}:(∀ vs,v≠.agg vs)→(∀ vs,v≠.tup vs)→v≠.undef→(∀ vs,mark1 v≠.agg vs)∧mark1 v≠.undef:=by
 intro h1 h2 h3
 cases v<;>simp_all [mark1]
theorem repA_cell {g:Gh} {pl:Nat→Place} {v:V} {u:Value} (h:RepC g (pl 0) v u):RepA g pl v u:=by
 unfold RepA
 split
 ·exact h.elim
 ·trivial
 ·exact h
theorem repA_inv {g:Gh} {pl:Nat→Place} {v:V} {u:Value} (h:RepA g pl v u):v=.undef∨RepC g (pl 0) v u∨∃ vs,v=.agg vs:=by
 unfold RepA at h
 split at h
 ·exact .inr (.inr ⟨_,rfl⟩)
 ·exact .inl rfl
 ·exact .inr (.inl h)
theorem RepC.notAgg {g:Gh} {p:Place} {v:V} {u:Value} (h:RepC g p v u):isCell v=true:=by
 cases v<;>first | rfl | exact h.elim
theorem RepC.one {g:Gh} {p:Place} {v:V} {u:Value} (h:RepC g p v u):u.oneCell'=true:=by
 cases v<;>simp only [RepC] at h<;>try exact RepI.one h rfl
 case undef=>exact h
 case ptr=>obtain ⟨b,_,rfl⟩:=h;rfl
 case obj=>obtain ⟨b,_,rfl⟩:=h;unfold objVal;split<;>rfl
 case own=>rcases h with ⟨b,c,_,rfl,_⟩ | ⟨_,_,ad,rfl⟩<;>rfl
 case lin=>rcases h with ⟨b,c,_,_,_,_,rfl,_⟩ | ⟨_,_,ad,rfl⟩<;>rfl
 case fn=>obtain ⟨b,c,rfl,_⟩:=h;rfl
theorem RepA.shared {g:Gh} {q:Place→Bool} {B:Nat} {w:World} (hL:LinOk g B w) {pl:Nat→Place} (hq:∀ j,q (pl j)=true) {v:V} {u:Value} (h:RepA g pl v u) :
  RepA (g.share q) pl (map2 mark1 v) u∧∀ pl',RepA (g.share q) pl' (map2 demote1 v) u:=by
 by_cases hv:∃ vs,v=.agg vs
 ·obtain ⟨vs,rfl⟩:=hv
  obtain ⟨cs,rfl,h2,h3⟩:=h
  refine ⟨⟨cs,rfl,by simpa using h2,fun j c hj hc=>?_⟩,fun pl'=>⟨cs,rfl,by simpa using h2,fun j c hj hc=>?_⟩⟩ <;>
  ·rw [List.getElem?_map] at hc
   obtain ⟨c0,hc0,rfl⟩:=Option.map_eq_some_iff.1 hc
   first | exact ((h3 j c0 hj hc0).shared hL (hq _)).1 | exact ((h3 j c0 hj hc0).shared hL (hq _)).2 _
 ·by_cases hu:v=.undef
  ·subst hu;exact ⟨trivial,fun _=>trivial⟩
  ·have hc:RepC g (pl 0) v u:=by
    rcases repA_inv h with h | h | h
    ·exact absurd h hu
    ·exact h
    ·exact absurd h hv
   have hs:=hc.shared hL (hq 0)
   have e1:map2 mark1 v=mark1 v:=by cases v<;>first | rfl | exact absurd ⟨_,rfl⟩ hv
   have e2:map2 demote1 v=demote1 v:=by cases v<;>first | rfl | exact absurd ⟨_,rfl⟩ hv
   rw [e1,e2]
   exact ⟨repA_cell hs.1,fun pl'=>repA_cell (hs.2 _)⟩
theorem RepA.moved {g:Gh} {f:Place→Place} {pl pl':Nat→Place} (hf:∀ j,f (pl j)=pl' j) {v:V} {u:Value} (h:RepA g pl v u):RepA (g.ren f) pl' v u∧RepA (g.ren f) pl (map2 drop1 v) u:=by
 by_cases hv:∃ vs,v=.agg vs
 ·obtain ⟨vs,rfl⟩:=hv
  obtain ⟨cs,rfl,h2,h3⟩:=h
  refine ⟨⟨cs,rfl,h2,fun j c hj hc=>((h3 j c hj hc).moved (hf _)).1⟩,⟨cs,rfl,by simpa using h2,fun j c hj hc=>?_⟩⟩
  rw [List.getElem?_map] at hc
  obtain ⟨c0,hc0,rfl⟩:=Option.map_eq_some_iff.1 hc
  exact ((h3 j c0 hj hc0).moved (hf _)).2
 ·by_cases hu:v=.undef
  ·subst hu;exact ⟨trivial,trivial⟩
  ·have hc:RepC g (pl 0) v u:=by
    rcases repA_inv h with h | h | h
    ·exact absurd h hu
    ·exact h
    ·exact absurd h hv
   have hs:=hc.moved (hf 0)
   have e1:map2 drop1 v=drop1 v:=by cases v<;>first | rfl | exact absurd ⟨_,rfl⟩ hv
   rw [e1]
   exact ⟨repA_cell hs.1,repA_cell hs.2⟩
theorem map3_notTup {f:V→V} (hf:∀ v,isCell v=true→isCell (f v)=true) {v:V} (h:∀ vs,v≠.tup vs):map3 f v=map2 f v∧∀ vs,map2 f v≠.tup vs:=by
 refine ⟨by cases v<;>first | rfl | exact absurd rfl (h _),fun vs e=>?_⟩
 cases v with
 | agg ws=>simp [map2] at e
 | tup ws=>exact h _ rfl
 | undef=>have:=hf .undef rfl;simp only [map2] at e;rw [e] at this;simp [isCell] at this
 | bool b=>have:=hf (.bool b) rfl;simp only [map2] at e;rw [e] at this;simp [isCell] at this
 | int b c=>have:=hf (.int b c) rfl;simp only [map2] at e;rw [e] at this;simp [isCell] at this
 | str b=>have:=hf (.str b) rfl;simp only [map2] at e;rw [e] at this;simp [isCell] at this
 | nilp=>have:=hf .nilp rfl;simp only [map2] at e;rw [e] at this;simp [isCell] at this
 | ptr b c=>have:=hf (.ptr b c) rfl;simp only [map2] at e;rw [e] at this;simp [isCell] at this
 | iptr b c=>have:=hf (.iptr b c) rfl;simp only [map2] at e;rw [e] at this;simp [isCell] at this
 | nils=>have:=hf .nils rfl;simp only [map2] at e;rw [e] at this;simp [isCell] at this
 | nne=>have:=hf .nne rfl;simp only [map2] at e;rw [e] at this;simp [isCell] at this
 | imm b c d=>have:=hf (.imm b c d) rfl;simp only [map2] at e;rw [e] at this;simp [isCell] at this
 | lin b c d e'=>have:=hf (.lin b c d e') rfl;simp only [map2] at e;rw [e] at this;simp [isCell] at this
 | own b c d r=>have:=hf (.own b c d r) rfl;simp only [map2] at e;rw [e] at this;simp [isCell] at this
 | fn b c d=>have:=hf (.fn b c d) rfl;simp only [map2] at e;rw [e] at this;simp [isCell] at this
 | nilf=>have:=hf .nilf rfl;simp only [map2] at e;rw [e] at this;simp [isCell] at this
 | iface b c=>have:=hf (.iface b c) rfl;simp only [map2] at e;rw [e] at this;simp [isCell] at this
 | nili=>have:=hf .nili rfl;simp only [map2] at e;rw [e] at this;simp [isCell] at this
 | nilm=>have:=hf .nilm rfl;simp only [map2] at e;rw [e] at this;simp [isCell] at this
 | obj b c=>have:=hf (.obj b c) rfl;simp only [map2] at e;rw [e] at this;simp [isCell] at this
theorem repS_notTup {g:Gh} {τ i:Nat} {v:V} {u:Value} (h:∀ vs,v≠.tup vs):RepS g τ i v u=RepA g (fun j=>.slot τ i j 0) v u:=by
 cases v<;>first | rfl | exact absurd rfl (h _)
theorem isCell_mark1 (v:V) (h:isCell v=true):isCell (mark1 v)=true:=by cases v<;>first | exact h | rfl
theorem isCell_demote1 (v:V) (h:isCell v=true):isCell (demote1 v)=true:=by cases v<;>first | exact h | rfl
theorem isCell_drop1 (v:V) (h:isCell v=true):isCell (drop1 v)=true:=by cases v<;>first | exact h | rfl
theorem RepS.shared {g:Gh} {q:Place→Bool} {B:Nat} {w:World} (hL:LinOk g B w) {τ i:Nat} (hq:∀ j k,q (.slot τ i j k)=true) {v:V} {u:Value} (h:RepS g τ i v u) :
  RepS (g.share q) τ i (map3 mark1 v) u∧∀ τ' d,RepS (g.share q) τ' d (map3 demote1 v) u:=by
 by_cases hv:∃ vs,v=.tup vs
 ·obtain ⟨vs,rfl⟩:=hv
  obtain ⟨cs,rfl,h2,h3⟩:=h
  refine ⟨⟨cs,rfl,by simpa using h2,fun k c hk hc=>?_⟩,fun τ' d=>⟨cs,rfl,by simpa using h2,fun k c hk hc=>?_⟩⟩ <;>
  ·rw [List.getElem?_map] at hc
   obtain ⟨c0,hc0,rfl⟩:=Option.map_eq_some_iff.1 hc
   first | exact ((h3 k c0 hk hc0).shared hL (fun j=>hq _ _)).1 | exact ((h3 k c0 hk hc0).shared hL (fun j=>hq _ _)).2 _
 ·have hv':∀ vs,v≠.tup vs:=fun vs e=>hv ⟨vs,e⟩
  obtain ⟨a1,a2⟩:=map3_notTup isCell_mark1 hv'
  obtain ⟨b1,b2⟩:=map3_notTup isCell_demote1 hv'
  rw [repS_notTup hv'] at h
  have hs:=h.shared hL (fun j=>hq j 0)
  rw [a1,b1]
  exact ⟨by rw [repS_notTup a2];exact hs.1,fun τ' d=>by rw [repS_notTup b2];exact hs.2 _⟩
theorem RepS.moved {g:Gh} {f:Place→Place} {τ i d:Nat} (hf:∀ j k,f (.slot τ i j k)=.slot τ d j k) {v:V} {u:Value} (h:RepS g τ i v u):RepS (g.ren f) τ d v u∧RepS (g.ren f) τ i (map3 drop1 v) u:=by
 by_cases hv:∃ vs,v=.tup vs
 ·obtain ⟨vs,rfl⟩:=hv
  obtain ⟨cs,rfl,h2,h3⟩:=h
  refine ⟨⟨cs,rfl,h2,fun k c hk hc=>((h3 k c hk hc).moved (pl':=fun j=>.slot τ d j (k+1)) (fun j=>hf _ _)).1⟩,⟨cs,rfl,by simpa using h2,fun k c hk hc=>?_⟩⟩
  rw [List.getElem?_map] at hc
  obtain ⟨c0,hc0,rfl⟩:=Option.map_eq_some_iff.1 hc
  exact ((h3 k c0 hk hc0).moved (pl':=fun j=>.slot τ d j (k+1)) (fun j=>hf _ _)).2
 ·have hv':∀ vs,v≠.tup vs:=fun vs e=>hv ⟨vs,e⟩
  obtain ⟨a1,a2⟩:=map3_notTup isCell_drop1 hv'
  rw [repS_notTup hv'] at h
  have hs:=h.moved (pl':=fun j=>.slot τ d j 0) (fun j=>hf j 0)
  rw [a1]
  exact ⟨by rw [repS_notTup hv'];exact hs.1,by rw [repS_notTup a2];exact hs.2⟩
def qSlot (τ t:Nat):Place→Bool
 | .slot τ' x _ _=>τ'==τ&&x==t
 | _=>false
def fSlot (τ t d:Nat):Place→Place
 | .slot τ' x j k=>if τ'=τ∧x=t then .slot τ d j k else .slot τ' x j k
 | p=>p
theorem getS_eq {fr:List V} {t:Nat} {v:V} (h:fr[t]?=some v):getS fr t=v:=by
 unfold getS;rw [List.getD_eq_getElem?_getD,h];rfl
theorem getS_out {fr:List V} {t:Nat} (h:fr.length≤t):getS fr t=.undef:=by
 unfold getS;rw [List.getD_eq_getElem?_getD,List.getElem?_eq_none h];rfl
theorem slot_of {B τ:Nat} {g:Gh} {st:St} {a:Act} {w:World} (h:R B τ g st a w) (t:Nat):RepS g τ t (getS st.fr t) (a.tmps.getD t undef):=by
 by_cases ht:t<a.tmps.size
 ·have h1:st.fr[t]?=some (getS st.fr t):=by
   have:t<st.fr.length:=by rw [h.size];exact ht
   rw [List.getElem?_eq_getElem this]
   rw [getS_eq (List.getElem?_eq_getElem this)]
  have:=h.slots t _ ht h1
  simpa [Array.getD,ht] using this
 ·rw [getS_out (by rw [h.size];omega)]
  exact trivial
theorem R.mark {B τ:Nat} {g:Gh} {st:St} {a:Act} {w:World} (h:R B τ g st a w) (t:Nat):R B τ (g.share (qSlot τ t)) {st with fr:=st.fr.set t (map3 mark1 (getS st.fr t))} a w:=by
 refine ⟨by simpa using h.size,fun i v hi hv=>?_,share_heap h.lin (fun _ _=>rfl) h.heap,share_mem h.lin h.mem,share_lin h.lin,h.base,h.defers.mono (share_memLe h.lin) (fun _ _ h=>h) (fun _ h=>h)⟩
 by_cases hit:i=t
 ·subst hit
  rw [List.getElem?_set_self (by rw [h.size];exact hi)] at hv
  cases hv
  have hs:=slot_of h i
  simp only [Array.getD,hi,dif_pos] at hs
  exact (RepS.shared h.lin (fun j k=>by simp [qSlot]) hs).1
 ·rw [List.getElem?_set_ne (fun e=>hit e.symm)] at hv
  exact (h.slots i v hi hv).mono (share_memLe h.lin) (fun _ _ h=>h) (fun j k b x hx hp=>lin_share_of hx (by rw [hp];simp [qSlot,hit]))
theorem R.drop {B τ:Nat} {g:Gh} {st:St} {a:Act} {w:World} (h:R B τ g st a w) (t:Nat) (f:Place→Place) (hf:∀ p,(∀ j k,p≠.slot τ t j k)→f p=p):R B τ (g.ren f) {st with fr:=st.fr.set t (map3 drop1 (getS st.fr t))} a w:=by
 refine ⟨by simpa using h.size,fun i v hi hv=>?_,ren_heap (fun _ _=>hf _ (by simp)) h.heap,h.mem,ren_lin h.lin,h.base,h.defers.mono (g:=g) (g':=g.ren f) (MemLe.refl _) (fun _ _ h=>h) (fun _ h=>h)⟩
 by_cases hit:i=t
 ·subst hit
  rw [List.getElem?_set_self (by rw [h.size];exact hi)] at hv
  cases hv
  have hs:=slot_of h i
  simp only [Array.getD,hi,dif_pos] at hs
  generalize getS st.fr i=v at hs
  by_cases hv:∃ vs,v=.tup vs
  ·obtain ⟨vs,rfl⟩:=hv
   obtain ⟨cs,e1,h2,h3⟩:=hs
   refine ⟨cs,e1,by simpa using h2,fun k c hk hc=>?_⟩
   rw [List.getElem?_map] at hc
   obtain ⟨c0,hc0,rfl⟩:=Option.map_eq_some_iff.1 hc
   exact ((h3 k c0 hk hc0).moved (pl':=fun j=>f (.slot τ i j (k+1))) (fun j=>rfl)).2
  ·have hv':∀ vs,v≠.tup vs:=fun vs e=>hv ⟨vs,e⟩
   obtain ⟨a1,a2⟩:=map3_notTup isCell_drop1 hv'
   rw [repS_notTup hv'] at hs
   rw [a1,repS_notTup a2]
   exact (hs.moved (pl':=fun j=>f (.slot τ i j 0)) (fun j=>rfl)).2
 ·rw [List.getElem?_set_ne (fun e=>hit e.symm)] at hv
  refine RepS.mono (g:=g) (g':=g.ren f) (MemLe.refl _) (fun _ _ h=>h) (fun j k b x hx hp=>lin_ren_of hx ?_) (h.slots i v hi hv)
  rw [hp]
  exact hf _ (by intro j k e;injection e with _ e;exact hit e)
theorem R.setSame {B τ:Nat} {g:Gh} {st:St} {a:Act} {w:World} {t:Nat} {v:V} (h:R B τ g {st with fr:=st.fr.set t v} a w) (hv:v=getS st.fr t):R B τ g st a w:=by
 have e:st.fr.set t v=st.fr:=by
  subst hv
  by_cases ht:t<st.fr.length
  ·rw [getS_eq (List.getElem?_eq_getElem ht)]
   exact List.set_getElem_self ht
  ·exact List.set_eq_of_length_le (by omega)
 rw [e] at h
 exact h
theorem later_share {B τ:Nat} {g:Gh} {st:St} {a:Act} {w:World} (h:R B τ g st a w) (t:Nat):Later B τ g (g.share (qSlot τ t)) w w :=
 share_later h.lin (fun τ' x j k hq=>by simp [qSlot] at hq;exact hq.1)
theorem ofVal1_rep (g:Gh) (p:Place) (v:Value) (h:v.oneCell'=true):RepC g p (ofVal1 v) v:=by
 unfold ofVal1
 split<;>simp only [RepC]
 case _=>exact .bool _
 case _=>exact .int _ _
 case _=>exact .str _
 case _=>exact .nilp
 case _=>exact .nils
 case _=>exact .nili
 case _=>exact .nilf
 case _=>exact .nilm
 case _=>exact h
end Go.Fw
namespace Go.Fw
open Go.RowKit
abbrev FW (ρ:Option Nat):Fence:={Fence.wide with round:=ρ}
section
variable {P:Program} {ρ:Option Nat} {n:Nat} {o:Oper} {a:Act} {w:World} {next:Act→World→Prop} {Q:Exit→Act→World→Prop}
theorem wp_value (hd:∀ c,o.op≠.defer c) {v:Value} {w':World} (h:(execOp a.eval o).run P w=.ok (.value v) w') (k:next (a.put o.dst v) w'):o.wpIn (FW ρ) n P a w next Q:=by
 refine ⟨fun _ _=>trivial,?_⟩
 rw [Oper.semAt_eq _ _ _ hd,h]
 exact k
theorem wp_skip_ (hd:∀ c,o.op≠.defer c) {w':World} (h:(execOp a.eval o).run P w=.ok .skip w') (k:next (a.put o.dst undef) w'):o.wpIn (FW ρ) n P a w next Q:=by
 refine ⟨fun _ _=>trivial,?_⟩
 rw [Oper.semAt_eq _ _ _ hd,h]
 exact k
theorem run_v {s:Sem Value} {v:Value} {w':World} (h:s.run P w=.ok v w'):((s >>= fun x=>Pure.pure (Next.value x)):Sem Next).run P w=.ok (.value v) w':=by
 simp [h]
end
/-! ### a copy,a taking,a look -/
section
variable {B τ:Nat} {g:Gh} {st:St} {a:Act} {w:World}
theorem ofVal_rep (g:Gh) (τ d:Nat) (v:Value):RepS g τ d (ofVal v) v:=by
 unfold ofVal
 split
 ·split
  ·rename_i cs h
   refine ⟨cs,rfl,by simp,fun j c hj hc=>?_⟩
   rw [List.getElem?_map] at hc
   obtain ⟨c0,hc0,rfl⟩:=Option.map_eq_some_iff.1 hc
   have e:c0=cs[j]:=by
    rw [Array.getElem?_toList,Array.getElem?_eq_getElem hj] at hc0
    exact (Option.some.inj hc0).symm
   subst e
   exact ofVal1_rep g _ _ (by rw [List.all_eq_true] at h;exact h _ (by simp))
  ·exact trivial
 ·exact trivial
 ·rename_i h1 h2
  have h0:v.oneCell'=true:=by cases v<;>first | rfl | exact absurd rfl (h1 _) | exact absurd rfl (h2 _)
  have hc:=ofVal1_rep g (.slot τ d 0 0) v h0
  have hn:=hc.notAgg
  rw [repS_notTup (by intro vs e;rw [e] at hn;cases hn)]
  exact repA_cell hc
theorem isLin_ofVal1 (v:Value):isLin1 (ofVal1 v)=false:=by unfold ofVal1;split<;>rfl
theorem isLin_ofVal (v:Value):isLin3 (ofVal v)=false:=by
 unfold ofVal
 split
 ·split
  ·simp only [isLin3,isLin2]
   rw [List.any_eq_false]
   intro x hx
   obtain ⟨y,_,rfl⟩:=List.mem_map.1 hx
   simp [isLin_ofVal1]
  ·rfl
 ·rfl
 ·rename_i v h1 h2
  unfold ofVal1
  split<;>rfl
theorem glob_rep {m:Mem} (hm:MemOk m w) (b:Nat) {cs:List Value} (h:theGlob b=some cs):RepI m (.iptr (.agg (cs.map ofVal1)) 0) (.pointer (some ⟨b,0,none⟩)):=by
 obtain ⟨cs',h1,h2⟩:=hm.glob b cs h
 unfold theGlob at h
 obtain ⟨l,hl,rfl⟩:=Option.map_eq_some_iff.1 h
 have hc:∀ (j:Nat) (c:V),(V.agg ((l.map fun (n:Nat)=>Value.int .u8 (n:Int)).map ofVal1)).cells[j]?=some c→∃ n:Nat,l[j]?=some n∧c=.int .u8 (n:Int)∧cs'[j]?=some (.int .u8 (n:Int)):=by
  intro j c hj
  simp only [V.cells,List.map_map,List.getElem?_map] at hj
  obtain ⟨n,hn,rfl⟩:=Option.map_eq_some_iff.1 hj
  refine ⟨n,hn,rfl,?_⟩
  obtain ⟨t,rfl⟩:=h2
  have hlt:=(List.getElem?_eq_some_iff.1 hn).1
  rw [List.getElem?_append_left (by simpa using hlt),List.getElem?_map,hn]
  rfl
 have:=RepI.iptr (m:=m) (.agg ((l.map fun (n:Nat)=>Value.int .u8 (n:Int)).map ofVal1)) 0 b 0 (fun j=>(cs'[j]?).getD default) (fun j c hj=>by
  obtain ⟨n,_,rfl,h3⟩:=hc j c hj
  refine ⟨rfl,?_⟩
  unfold stAt
  rw [h1]
  simp [h3]) (fun j c hj=>by
  obtain ⟨n,_,rfl,h3⟩:=hc j c hj
  rw [h3]
  exact .int _ _)
 exact this
theorem peek_glob (h:R B τ g st a w) (b:Nat):(∀ τ' d,RepS g τ' d (st.peek (.global b)) (a.eval (.global b)))∧isLin3 (st.peek (.global b))=false:=by
 have e:st.peek (.global b)=match theGlob b with
  | some cs=>.iptr (.agg (cs.map ofVal1)) 0
  | none=>.undef:=rfl
 rw [e]
 cases hg:theGlob b with
 | none=>exact ⟨fun _ _=>trivial,rfl⟩
 | some cs=>exact ⟨fun _ _=>glob_rep h.mem b hg,rfl⟩
theorem peek_rep (h:R B τ g st a w) (x:Operand):∃ d,RepS g τ d (st.peek x) (a.eval x):=by
 cases x with
 | tmp t=>exact ⟨t,slot_of h t⟩
 | const v=>exact ⟨0,ofVal_rep g τ 0 v⟩
 | global b=>exact ⟨0,(peek_glob h b).1 _ _⟩
 | func f=>exact ⟨0,#[],#[],rfl,rfl,rfl,fun j c hj=>absurd hj (by simp),fun j c hj=>absurd hj (by simp)⟩
theorem use_sound (h:R B τ g st a w) (x:Operand):∃ g',Later B τ g g' w w∧R B τ g' (st.useS x) a w∧∀ τ' d,RepS g' τ' d (st.useV x) (a.eval x):=by
 cases x with
 | tmp t =>
  have hs:=RepS.shared (q:=qSlot τ t) h.lin (fun j k=>by simp [qSlot]) (slot_of h t)
  have hm:=h.mark t
  refine ⟨_,later_share h t,?_,hs.2⟩
  unfold St.useS
  dsimp only
  cases hl:isLin3 (getS st.fr t) with
  | true=>rw [condB_true];exact hm
  | false=>rw [condB_false];exact R.setSame hm (map3_of (fun _ h=>mark1_of h) hl)
 | const v =>
  refine ⟨g,Later.refl ..,h,fun τ' d=>?_⟩
  unfold St.useV St.peek
  rw [map3_of (fun _ h=>demote1_of h) (isLin_ofVal v)]
  exact ofVal_rep g τ' d v
 | global b =>
  refine ⟨g,Later.refl ..,h,fun τ' d=>?_⟩
  unfold St.useV
  rw [map3_of (fun _ h=>demote1_of h) (peek_glob h b).2]
  exact (peek_glob h b).1 τ' d
 | func f=>exact ⟨g,Later.refl ..,h,fun _ _=>⟨#[],#[],rfl,rfl,rfl,fun j c hj=>absurd hj (by simp),fun j c hj=>absurd hj (by simp)⟩⟩
theorem take_sound (h:R B τ g st a w) (x:Operand) (d:Nat):∃ g',Later B τ g g' w w∧R B τ g' (st.takeS x) a w∧RepS g' τ d (st.peek x) (a.eval x):=by
 cases x with
 | tmp t =>
  have hf:∀ p,(∀ j k,p≠.slot τ t j k)→fSlot τ t d p=p:=by
   intro p hp
   cases p with
   | cell=>rfl
   | slot τ' x j k =>
    have hn:¬(τ'=τ∧x=t):=by
     rintro ⟨rfl,rfl⟩
     exact hp j k rfl
    simp only [fSlot,if_neg hn]
  have hs:=RepS.moved (f:=fSlot τ t d) (d:=d) (fun j k=>by simp [fSlot]) (slot_of h t)
  have hm:=h.drop t (fSlot τ t d) hf
  refine ⟨_,ren_later (fun τ' x j k hne=>?_),?_,hs.1⟩
  ·exact hf _ (by intro j' k' e;injection e with e _;exact hne e)
  ·unfold St.takeS
   dsimp only
   cases hl:isLin3 (getS st.fr t) with
   | true=>rw [condB_true];exact hm
   | false=>rw [condB_false];exact R.setSame hm (map3_of (fun _ h=>drop1_of h) hl)
 | const v=>exact ⟨g,Later.refl ..,h,ofVal_rep g τ d v⟩
 | global b=>exact ⟨g,Later.refl ..,h,(peek_glob h b).1 _ _⟩
 | func f=>exact ⟨g,Later.refl ..,h,⟨#[],#[],rfl,rfl,rfl,fun j c hj=>absurd hj (by simp),fun j c hj=>absurd hj (by simp)⟩⟩
theorem toVal1_eq {g:Gh} {τ d:Nat} {v:V} {u x:Value} (h:RepS g τ d v u) (hx:toVal1 v=some x):u=x:=by
 unfold toVal1 at hx
 split at hx<;>first | (cases hx;simp only [RepS,RepA,RepC] at h;cases h;rfl) | cases hx
theorem put_sound (h:R B τ g st a w) {d:Option Tmp} {v:V} {u:Value} (hv:RepS g τ (d.getD 0) v u):R B τ g (put st d v) (a.put d u) w:=by
 cases d with
 | none=>exact h
 | some d =>
  refine ⟨by simp [put,Act.put,h.size],fun i x hi hx=>?_,h.heap,h.mem,h.lin,h.base,h.defers⟩
  simp only [put,Act.put] at hx hi ⊢
  have hi':i<a.tmps.size:=by simpa using hi
  by_cases hid:i=d
  ·subst hid
   rw [List.getElem?_set_self (by rw [h.size];exact hi')] at hx
   cases hx
   simpa [Array.getElem_setIfInBounds,hi'] using hv
  ·rw [List.getElem?_set_ne (fun e=>hid e.symm)] at hx
   have:=h.slots i x hi' hx
   have hdi:¬d=i:=fun e=>hid e.symm
   have e:(a.tmps.setIfInBounds d u)[i]'hi=a.tmps[i]:=by rw [Array.getElem_setIfInBounds];exact if_neg hdi
   rw [e];exact this
end
/-! ### the operations -/
section
variable {C:Cx} {vb:FuncId→List V→List Blk→Option FOut} {f:FuncId} {ρ:Option Nat} {n:Nat} {o:Oper} {st:St} {α:Type} {k kp:V→St→Option α} {out:α}
 {B τ:Nat} {g:Gh} {a:Act} {w:World} {next:Act→World→Prop} {Q:Exit→Act→World→Prop}
def Goes {α:Type} (B τ:Nat) (g:Gh) (a:Act) (w:World) (d:Option Tmp) (k:V→St→Option α) (out:α) (next:Act→World→Prop):Prop :=
 ∀ v st' g' u w',Later B τ g g' w w'→R B τ g' st' a w'→RepS g' τ (d.getD 0) v u→k v st'=some out→next (a.put d u) w'
theorem op_move {x:Operand} (ho:o.op=.move x) (h:vop C vb f o st k kp=some out) (hR:R B τ g st a w) (hk:Goes B τ g a w o.dst k out next):o.wpIn (FW ρ) n C.P a w next Q:=by
 have hrun:(execOp a.eval o).run C.P w=.ok (.value (a.eval x)) w:=by simp [execOp,ho]
 unfold vop at h
 rw [ho] at h
 dsimp only at h
 split at h
 ·rename_i d hd
  split at h
  ·rename_i vs hvs
   obtain ⟨g',h1,h2,h3⟩:=take_sound hR x d
   exact wp_value (by simp [ho]) hrun (hk _ _ g' _ w h1 h2 (by rw [hd];rw [hvs] at h3;exact h3) h)
  ·split at h
   ·obtain ⟨g',h1,h2,h3⟩:=take_sound hR x d
    exact wp_value (by simp [ho]) hrun (hk _ _ g' _ w h1 h2 (by rw [hd];exact h3) h)
   ·obtain ⟨g',h1,h2,h3⟩:=use_sound hR x
    exact wp_value (by simp [ho]) hrun (hk _ _ g' _ w h1 h2 (h3 _ _) h)
 ·cases h
theorem op_assign {x:Operand} (ho:o.op=.assign x) (h:vop C vb f o st k kp=some out) (hR:R B τ g st a w) (hk:Goes B τ g a w o.dst k out next):o.wpIn (FW ρ) n C.P a w next Q:=by
 have hrun:(execOp a.eval o).run C.P w=.ok (.value (a.eval x)) w:=by simp [execOp,ho]
 unfold vop at h
 rw [ho] at h
 obtain ⟨g',h1,h2,h3⟩:=take_sound hR x (o.dst.getD 0)
 exact wp_value (by simp [ho]) hrun (hk _ _ g' _ w h1 h2 h3 h)
theorem rep_bool {g:Gh} {τ d:Nat} {b:Bool} {u:Value} (h:RepS g τ d (.bool b) u):u=.bool b:=by
 simp only [RepS,RepA,RepC] at h;cases h;rfl
theorem rep_int {g:Gh} {τ d:Nat} {k:IntKind} {b:Int} {u:Value} (h:RepS g τ d (.int k b) u):u=.int k b:=by
 simp only [RepS,RepA,RepC] at h;cases h;rfl
theorem rep_str {g:Gh} {τ d:Nat} {b:ByteArray} {u:Value} (h:RepS g τ d (.str b) u):u=.string b:=by
 simp only [RepS,RepA,RepC] at h;cases h;rfl
theorem op_pick {c x y:Operand} (ho:o.op=.pick c x y) (h:vop C vb f o st k kp=some out) (hR:R B τ g st a w) (hk:Goes B τ g a w o.dst k out next):o.wpIn (FW ρ) n C.P a w next Q:=by
 unfold vop at h
 rw [ho] at h
 dsimp only at h
 split at h
 ·rename_i t ht
  obtain ⟨dc,hc⟩:=peek_rep hR c
  rw [ht] at hc
  have hc':=rep_bool hc
  rcases condB_cases h with ⟨e,h⟩ | ⟨e,h⟩
  ·obtain ⟨g',h1,h2,h3⟩:=use_sound hR x
   exact wp_value (by simp [ho]) (by simp [execOp,ho,hc',e,asBool]) (hk _ _ g' _ w h1 h2 (h3 _ _) h)
  ·obtain ⟨g',h1,h2,h3⟩:=use_sound hR y
   exact wp_value (by simp [ho]) (by simp [execOp,ho,hc',e,asBool]) (hk _ _ g' _ w h1 h2 (h3 _ _) h)
 ·cases h
theorem rep_ptr {g:Gh} {τ d:Nat} {id off:Nat} {u:Value} (h:RepS g τ d (.ptr id off) u):∃ b,g.loc id=some b∧u=.pointer (some ⟨b,off,none⟩):=h
theorem rep_iptr {g:Gh} {τ d:Nat} {e:V} {off:Nat} {u:Value} (h:RepS g τ d (.iptr e off) u):RepI g.mem (.iptr e off) u:=h
theorem op_nilCheck {x:Operand} (ho:o.op=.nilCheck x) (h:vop C vb f o st k kp=some out) (hR:R B τ g st a w) (hk:Goes B τ g a w o.dst k out next):o.wpIn (FW ρ) n C.P a w next Q:=by
 obtain ⟨dx,hx⟩:=peek_rep hR x
 unfold vop at h
 rw [ho] at h
 dsimp only at h
 split at h
 ·rename_i id off hp
  rw [hp] at hx
  obtain ⟨b,hb,hu⟩:=rep_ptr hx
  exact wp_value (by simp [ho]) (by simp [execOp,ho,hu]) (hk (.ptr id off) st g _ w (Later.refl ..) hR ⟨b,hb,rfl⟩ h)
 ·rename_i e off hp
  rw [hp] at hx
  have hi:=rep_iptr hx
  have hu:∃ ad,a.eval x=.pointer (some ad):=by generalize a.eval x=u at hi;cases hi;exact ⟨_,rfl⟩
  obtain ⟨ad,hu⟩:=hu
  rw [hu] at hi
  exact wp_value (by simp [ho]) (by simp [execOp,ho,hu]) (hk (.iptr e off) st g _ w (Later.refl ..) hR hi h)
 ·rename_i fn' a1 c1 hp
  rw [hp] at hx
  obtain ⟨x1,x2,hu,h1,h2,h3,h4⟩:=hx
  exact wp_value (by simp [ho]) (by simp [execOp,ho,hu]) (hk (.fn (.func fn') a1 c1) st g _ w (Later.refl ..) hR ⟨x1,x2,rfl,h1,h2,h3,h4⟩ h)
 ·cases h
theorem ofVal1_repS {g:Gh} {τ d:Nat} {v:Value} (h:v.oneCell'=true):RepS g τ d (ofVal1 v) v:=by
 have hc:=ofVal1_rep g (.slot τ d 0 0) v h
 have hn:=hc.notAgg
 rw [repS_notTup (by intro vs e;rw [e] at hn;cases hn)]
 exact repA_cell hc
theorem ofVal1_repS' {g:Gh} {τ d:Nat} {v:Value}:RepS g τ d (ofVal1 v) v:=by
 by_cases h:v.oneCell'=true
 ·exact ofVal1_repS h
 ·cases v<;>first | exact absurd rfl h | exact trivial
theorem op_unOp {op:UnOp} {t:TypeId} {x:Operand} (ho:o.op=.unOp op t x) (h:vop C vb f o st k kp=some out) (hR:R B τ g st a w) (hk:Goes B τ g a w o.dst k out next):o.wpIn (FW ρ) n C.P a w next Q:=by
 obtain ⟨dx,hx⟩:=peek_rep hR x
 unfold vop at h
 rw [ho] at h
 dsimp only at h
 split at h
 ·rename_i v hv
  unfold vun at hv
  split at hv
  ·rename_i x' hx'
   have e:=toVal1_eq hx hx'
   obtain ⟨r,hr,rfl⟩:=Option.map_eq_some_iff.1 hv
   exact wp_value (by simp [ho]) (by simp [execOp,ho,e,quiet_run hr w]) (hk _ _ g _ w (Later.refl ..) hR ofVal1_repS' h)
  ·cases hv
 ·cases h
theorem op_convert {s t:TypeId} {x:Operand} (ho:o.op=.convert s t x) (h:vop C vb f o st k kp=some out) (hR:R B τ g st a w) (hk:Goes B τ g a w o.dst k out next) (hb:∀ m v,vbytes C.P s t (st.peek x)=some (m,v)→m≤2 ^ 47→k v st=some out→o.wpIn (FW ρ) n C.P a w next Q):o.wpIn (FW ρ) n C.P a w next Q:=by
 obtain ⟨dx,hx⟩:=peek_rep hR x
 unfold vop at h
 rw [ho] at h
 dsimp only at h
 split at h
 ·rename_i m v hv
  rcases condB_cases h with ⟨hc,h⟩ | ⟨_,h⟩
  ·exact hb m v hv (by simpa using hc) h
  ·cases h
 ·split at h
  ·rename_i v hv
   unfold vconv at hv
   split at hv
   ·rename_i x' hx'
    have e:=toVal1_eq hx hx'
    obtain ⟨r,hr,rfl⟩:=Option.map_eq_some_iff.1 hv
    exact wp_value (by simp [ho]) (by simp [execOp,ho,e,quiet_run hr w]) (hk _ _ g _ w (Later.refl ..) hR ofVal1_repS' h)
   ·cases hv
  ·cases h
end
end Go.Fw
namespace Go.Fw
open Go.RowKit
section
variable {B τ:Nat} {g:Gh} {st:St} {a:Act} {w:World}
theorem heap_alloc_old (w:World) (o:Obj) {b:Nat} {x:Obj} (h:w.heap[b]?=some x):(w.alloc o).heap[b]?=some x:=by
 have hb:=(Array.getElem?_eq_some_iff.1 h).1
 rw [Below.heap_alloc w o b hb];exact h
theorem heap_alloc_at (w:World) (o:Obj):(w.alloc o).heap[w.heap.size]?=some o:=by
 show (w.heap.push o)[w.heap.size]?=_
 simp
theorem memOk_alloc {m:Mem} (h:MemOk m w) (o:Obj):MemOk m (w.alloc o):=⟨fun b cs hb=>by
 obtain ⟨cur,e,fr,h1,h2⟩:=h.at_ b cs hb
 exact ⟨cur,e,fr,heap_alloc_old w o h1,h2⟩,h.glob,fun b n e hb=>by
 obtain ⟨cur,fr,h1,h2⟩:=h.shape b n e hb
 exact ⟨cur,fr,heap_alloc_old w o h1,h2⟩⟩
theorem linOk_alloc (h:LinOk g B w) (o:Obj):LinOk g B (w.alloc o):=⟨fun b i hi=>by
 obtain ⟨h1,⟨cur,h2,h3,h4⟩,h5⟩:=h.at_ b i hi
 exact ⟨h1,⟨cur,heap_alloc_old w o h2,h3,h4⟩,h5⟩⟩
def Gh.newLoc (g:Gh) (id b:Nat):Gh:={g with loc:=fun i=>if i=id then some b else g.loc i}
theorem new_obj (h:R B τ g st a w) (x:Blk) (o:Obj) (hx:BlkOk g st.h.length x o) :
  ∃ g',Later B τ g g' w (w.alloc o)∧R B τ g' {st with h:=st.h++[x]} a (w.alloc o)∧g'.loc st.h.length=some w.heap.size∧g'.mem=g.mem∧g'.lin=g.lin∧(∀ id b,g.loc id=some b→g'.loc id=some b):=by
 have hfree:g.mem w.heap.size=none:=by
  cases hm:g.mem w.heap.size with
  | none=>rfl
  | some cs =>
   obtain ⟨cur,e,fr,h1,_⟩:=h.mem.at_ _ cs hm
   have:=(Array.getElem?_eq_some_iff.1 h1).1;omega
 have hfreel:g.lin w.heap.size=none:=by
  cases hm:g.lin w.heap.size with
  | none=>rfl
  | some i =>
   obtain ⟨_,⟨cur,h1,_⟩,_⟩:=h.lin.at_ _ i hm
   have:=(Array.getElem?_eq_some_iff.1 h1).1;omega
 have hnew:g.loc st.h.length=none:=by
  cases hm:g.loc st.h.length with
  | none=>rfl
  | some b=>have:=h.heap.bound _ b hm;omega
 have hmono:∀ id b,g.loc id=some b→(if id=st.h.length then some w.heap.size else g.loc id)=some b:=by
  intro id b hb
  split
  ·rename_i e;subst e;rw [hnew] at hb;cases hb
  ·exact hb
 refine ⟨g.newLoc st.h.length w.heap.size,?_,?_,by simp [Gh.newLoc],rfl,rfl,hmono⟩
 ·exact ⟨(Below.refl _ _).alloc h.base _,MemLe.refl _,fun _ _=>rfl,hmono,fun _ _ h _=>h⟩
 ·refine ⟨h.size,fun i v hi hv=>RepS.mono (g:=g) (g':=g.newLoc st.h.length w.heap.size) (MemLe.refl _) hmono (fun _ _ _ _ h _=>h) (h.slots i v hi hv),⟨?_,?_,?_,?_⟩,memOk_alloc h.mem _,⟨(linOk_alloc h.lin _).at_⟩,by have:=h.base;simp;omega,h.defers.mono (g:=g) (g':=g.newLoc st.h.length w.heap.size) (MemLe.refl _) hmono (fun _ hd=>dfr_append _ hd)⟩
  ·intro id b hb
   simp only [Gh.newLoc] at hb
   split at hb
   ·simp;omega
   ·have:=h.heap.bound id b hb;simp;omega
  ·intro id id' b x1 x2 hb hb' he he' l1 l2
   simp only [Gh.newLoc] at hb hb'
   split at hb<;>split at hb'
   ·omega
   ·cases hb;have:=(h.heap.fresh _ _ hb').2.1;omega
   ·cases hb';have:=(h.heap.fresh _ _ hb).2.1;omega
   ·have b1:=h.heap.bound _ _ hb
    have b2:=h.heap.bound _ _ hb'
    rw [List.getElem?_append_left b1] at he
    rw [List.getElem?_append_left b2] at he'
    exact h.heap.inj id id' b _ _ hb hb' he he' l1 l2
  ·intro id b hb
   simp only [Gh.newLoc] at hb
   split at hb
   ·cases hb;exact ⟨h.base,by simp,hfree,hfreel⟩
   ·obtain ⟨h1,h2,h3,h4⟩:=h.heap.fresh id b hb
    exact ⟨h1,by simp;omega,h3,h4⟩
  ·intro id b x' hb he
   simp only [Gh.newLoc] at hb he
   split at hb
   ·rename_i hid
    cases hb
    subst hid
    simp at he
    subst he
    exact ⟨o,heap_alloc_at w _,BlkOk.mono (g:=g) (g':=g.newLoc st.h.length w.heap.size) (MemLe.refl _) hmono (fun _ _ _ h _=>h) hx⟩
   ·rename_i hid
    have hlt:=h.heap.bound id b hb
    rw [List.getElem?_append_left hlt] at he
    obtain ⟨o',h1,h2⟩:=h.heap.blkO id b x' hb he
    exact ⟨o',heap_alloc_old w _ h1,BlkOk.mono (g:=g) (g':=g.newLoc st.h.length w.heap.size) (MemLe.refl _) hmono (fun _ _ _ h _=>h) h2⟩
theorem new_block (h:R B τ g st a w) (cs:List V) (cur:Array Value) (t:TypeId) (hl:cs.length≤cur.size) (hc:∀ (j:Nat) (c:V) (hj:j<cur.size),cs[j]?=some c→RepC g (.cell st.h.length j) c cur[j]) :
  ∃ g',Later B τ g g' w (w.alloc (.cells cur t))∧R B τ g' {st with h:=st.h++[.cells cs t]} a (w.alloc (.cells cur t))∧g'.loc st.h.length=some w.heap.size∧g'.mem=g.mem∧g'.lin=g.lin∧(∀ id b,g.loc id=some b→g'.loc id=some b) :=
 new_obj h (.cells cs t) (.cells cur t) ⟨cur,rfl,hl,hc⟩
theorem add_shape (h:R B τ g st a w) {b:Nat} {cur:Array Value} {e:TypeId} {fr:Nat×Nat} (hw:w.heap[b]?=some (.cells cur e fr)) :
  ∃ g',Later B τ g g' w w∧R B τ g' st a w∧g'.mem.shape b=some (cur.size,e)∧g'.loc=g.loc∧g'.lin=g.lin∧g'.mem.row=g.mem.row:=by
 let g':Gh:={g with mem:=⟨g.mem.row,fun x=>if x=b then some (cur.size,e) else g.mem.shape x⟩}
 have hm:MemLe g.mem g'.mem:=by
  refine ⟨fun x cs hx=>⟨cs,hx,List.prefix_refl _⟩,fun x y hx=>?_⟩
  show (if x=b then some (cur.size,e) else g.mem.shape x)=some y
  split
  ·rename_i e1
   subst e1
   obtain ⟨n,t⟩:=y
   obtain ⟨cur2,fr2,h1,h2⟩:=h.mem.shape x n t hx
   rw [hw] at h1
   cases h1
   rw [h2]
  ·exact hx
 refine ⟨g',⟨Below.refl _ _,hm,fun _ _=>rfl,fun _ _ h=>h,fun _ _ h _=>h⟩,⟨h.size,fun i v hi hv=>(h.slots i v hi hv).mono hm (fun _ _ h=>h) (fun _ _ _ _ h _=>h),⟨h.heap.bound,h.heap.inj,h.heap.fresh,fun id c x hc he=>?_⟩,⟨h.mem.at_,fun c cs hc=>glob_le hm (h.mem.glob c cs hc),fun c n t hc=>?_⟩,⟨h.lin.at_⟩,h.base,h.defers.mono (g':=g') hm (fun _ _ h=>h) (fun _ h=>h)⟩,?_,rfl,rfl,rfl⟩
 ·obtain ⟨o,h1,h2⟩:=h.heap.blkO id c x hc he
  exact ⟨o,h1,h2.mono (g':=g') hm (fun _ _ h=>h) (fun _ _ _ h _=>h)⟩
 ·have hc':(if c=b then some (cur.size,e) else g.mem.shape c)=some (n,t):=hc
  by_cases e1:c=b
  ·subst e1
   rw [if_pos rfl] at hc'
   cases hc'
   exact ⟨cur,fr,hw,rfl⟩
  ·rw [if_neg e1] at hc'
   exact h.mem.shape c n t hc'
 ·show (if b=b then some (cur.size,e) else g.mem.shape b)=_
  rw [if_pos rfl]
theorem new_own (h:R B τ g st a w) (cs:List V) (cur:Array Value) (t:TypeId) (hl:cs.length≤cur.size) (hc:∀ (j:Nat) (c:V) (hj:j<cur.size),cs[j]?=some c→RepC g (.cell st.h.length j) c cur[j]) :
  ∃ g',Later B τ g g' w (w.alloc (.cells cur t))∧R B τ g' {st with h:=st.h++[.cells cs t]} a (w.alloc (.cells cur t))∧g'.loc st.h.length=some w.heap.size∧g'.mem.row=g.mem.row∧g'.lin=g.lin∧(∀ id b,g.loc id=some b→g'.loc id=some b) ∧
   ∀ cap,(∀ sz,sizeT theP t=some sz→cap*sz≤cur.size)→Shp g'.mem w.heap.size 0 cap:=by
 obtain ⟨g1,l1,R1,q1,q2,q3,q4⟩:=new_block h cs cur t hl hc
 obtain ⟨g2,l2,R2,p1,p2,p3,p4⟩:=add_shape R1 (heap_alloc_at w _)
 exact ⟨g2,l1.trans l2,R2,by rw [p2];exact q1,by rw [p4,q2],by rw [p3,q3],fun id b hb=>by rw [p2];exact q4 id b hb,fun cap hcap=>⟨_,_,p1,fun sz hsz=>by rw [Nat.zero_add];exact hcap sz hsz⟩⟩
def fCell (τ t id off:Nat):Place→Place
 | .slot τ' x j k=>if τ'=τ∧x=t then .cell id (off+(j-1)) else .slot τ' x j k
 | p=>p
theorem cellsA {g:Gh} {pl:Nat→Place} {v:V} {u:Value} (hv:v≠.undef) (h:RepA g pl v u):v.cells.length=u.cells.size∧∀ (j:Nat) (c:V) (hj:j<u.cells.size),v.cells[j]?=some c→∃ j',j'-1=j∧RepC g (pl j') c u.cells[j]:=by
 by_cases ha:∃ vs,v=.agg vs
 ·obtain ⟨vs,rfl⟩:=ha
  obtain ⟨cs,rfl,h2,h3⟩:=h
  exact ⟨h2,fun j c hj hc=>⟨j+1,rfl,h3 j c hj hc⟩⟩
 ·have hc:RepC g (pl 0) v u:=by
   rcases repA_inv h with h | h | h
   ·exact absurd h hv
   ·exact h
   ·exact absurd h ha
  have hone:=hc.one
  have hu:u.cells=#[u]:=by cases u<;>first | rfl | cases hone
  have hv':v.cells=[v]:=by cases v<;>first | rfl | exact absurd ⟨_,rfl⟩ ha
  rw [hv']
  refine ⟨by rw [hu];rfl,fun j c hj hcc=>?_⟩
  have hj0:j=0:=by
   cases j with
   | zero=>rfl
   | succ j=>simp at hcc
  subst hj0
  simp at hcc
  subst hcc
  exact ⟨0,rfl,by simpa [hu] using hc⟩
theorem plain_cells {v:V} {u:Value} (hs:RepS g τ 0 v u) (hl:isLin3 v=false) (hv:okV v=true):v.cells.length=u.cells.size∧∀ (p:Place) (j:Nat) (c:V) (hj:j<u.cells.size),v.cells[j]?=some c→RepC g p c u.cells[j]:=by
 have hnt:∀ vs,v≠.tup vs:=fun vs e=>by rw [e] at hv;cases hv
 have hnu:v≠.undef:=fun e=>by rw [e] at hv;cases hv
 rw [repS_notTup hnt] at hs
 obtain ⟨c1,c2⟩:=cellsA hnu hs
 refine ⟨c1,fun p j c hj hc=>?_⟩
 obtain ⟨j',e,hr⟩:=c2 j c hj hc
 refine hr.any ?_
 have hin:c∈v.cells:=List.mem_of_getElem? hc
 have:∀ c∈v.cells,isLin1 c=false:=by
  intro c hc
  cases v<;>simp only [V.cells,List.mem_singleton] at hc<;>try (subst hc;first | exact hl | rfl)
  simp only [isLin3,isLin2] at hl
  rw [List.any_eq_false] at hl
  exact Bool.eq_false_iff.2 (hl c hc)
 exact this c hin
theorem take_cells (h:R B τ g st a w) (x:Operand) (id off:Nat) (hv:okV (st.peek x)=true):∃ g',Later B τ g g' w w∧R B τ g' (st.takeS x) a w∧g'.loc=g.loc∧(st.peek x).cells.length=(a.eval x).cells.size ∧
  ∀ (j:Nat) (c:V) (hj:j<(a.eval x).cells.size),(st.peek x).cells[j]?=some c→RepC g' (.cell id (off+j)) c (a.eval x).cells[j]:=by
 cases x with
 | tmp t =>
  have hf:∀ p,(∀ j k,p≠.slot τ t j k)→fCell τ t id off p=p:=by
   intro p hp
   cases p with
   | cell=>rfl
   | slot τ' x j k =>
    have hn:¬(τ'=τ∧x=t):=by
     rintro ⟨rfl,rfl⟩
     exact hp j k rfl
    simp only [fCell,if_neg hn]
  have hs0:=slot_of h t
  have hnt:∀ vs,getS st.fr t≠.tup vs:=fun vs e=>by simp only [St.peek,e] at hv;cases hv
  have hnu:getS st.fr t≠.undef:=fun e=>by simp only [St.peek,e] at hv;cases hv
  rw [repS_notTup hnt] at hs0
  have hs:=(hs0.moved (f:=fCell τ t id off) (pl':=fun j=>.cell id (off+(j-1))) (fun j=>by simp [fCell])).1
  have hm:=h.drop t (fCell τ t id off) hf
  obtain ⟨c1,c2⟩:=cellsA hnu hs
  refine ⟨g.ren (fCell τ t id off),ren_later (fun τ' x j k hne=>?_),?_,rfl,c1,fun j c hj hc=>?_⟩
  ·exact hf _ (by intro j' k' e;injection e with e _;exact hne e)
  ·unfold St.takeS
   dsimp only
   cases hl:isLin3 (getS st.fr t) with
   | true=>rw [condB_true];exact hm
   | false=>rw [condB_false];exact R.setSame hm (map3_of (fun _ h=>drop1_of h) hl)
  ·obtain ⟨j',e,hr⟩:=c2 j c hj hc
   rw [e] at hr;exact hr
 | const v =>
  have hs:=ofVal_rep g τ 0 v
  have hl:=isLin_ofVal v
  have hnt:∀ vs,ofVal v≠.tup vs:=fun vs e=>by simp only [St.peek,e] at hv;cases hv
  have hnu:ofVal v≠.undef:=fun e=>by simp only [St.peek,e] at hv;cases hv
  rw [repS_notTup hnt] at hs
  obtain ⟨c1,c2⟩:=cellsA hnu hs
  refine ⟨g,Later.refl ..,h,rfl,c1,fun j c hj hc=>?_⟩
  obtain ⟨j',e,hr⟩:=c2 j c hj hc
  refine hr.any ?_
  have hin:c∈(ofVal v).cells:=List.mem_of_getElem? hc
  have:∀ c∈(ofVal v).cells,isLin1 c=false:=by
   intro c hc
   cases hv':ofVal v<;>rw [hv'] at hc hl<;>simp only [V.cells,List.mem_singleton] at hc<;>try (subst hc;first | exact hl | rfl)
   simp only [isLin3,isLin2] at hl
   rw [List.any_eq_false] at hl
   exact Bool.eq_false_iff.2 (hl c hc)
  exact this c hin
 | global b =>
  obtain ⟨c1,c2⟩:=plain_cells ((peek_glob h b).1 τ 0) (peek_glob h b).2 hv
  exact ⟨g,Later.refl ..,h,rfl,c1,fun j c hj hc=>c2 _ j c hj hc⟩
 | func f =>
  refine ⟨g,Later.refl ..,h,rfl,rfl,fun j c hj hc=>?_⟩
  have hj0:j=0:=by
   cases j with
   | zero=>rfl
   | succ j=>simp [St.peek,V.cells] at hc
  subst hj0
  simp [St.peek,V.cells] at hc
  subst hc
  exact ⟨#[],#[],rfl,rfl,rfl,fun j c hj=>absurd hj (by simp),fun j c hj=>absurd hj (by simp)⟩
end
theorem run_newRow' {P:Program} (e:TypeId) (cells:Array Value) (w:World):(newRow e cells).run P w=.ok ⟨w.heap.size,0,none⟩ (w.alloc (.cells cells e)):=rfl
theorem run_newVar' {P:Program} (e:TypeId) (v:Value) (w:World):(newVar e v).run P w=.ok ⟨w.heap.size,0,none⟩ (w.alloc (.cells v.cells e)):=rfl
section
variable {C:Cx} {vb:FuncId→List V→List Blk→Option FOut} {f:FuncId} {ρ:Option Nat} {n:Nat} {o:Oper} {st:St} {α:Type} {k kp:V→St→Option α} {out:α}
 {B τ:Nat} {g:Gh} {a:Act} {w:World} {next:Act→World→Prop} {Q:Exit→Act→World→Prop}
theorem op_box {t:TypeId} {x:Operand} (ho:o.op=.box t x) (h:vop C vb f o st k kp=some out) (hR:R B τ g st a w) (hk:Goes B τ g a w o.dst k out next):o.wpIn (FW ρ) n C.P a w next Q:=by
 unfold vop at h
 rw [ho] at h
 dsimp only at h
 split at h
 ·rename_i hok
  obtain ⟨g',h1,h2,_,hl,h3⟩:=take_cells hR x (st.takeS x).h.length 0 hok
  simp only [Nat.zero_add] at h3
  obtain ⟨g'',k1,k2,k3,k4,k5,k6⟩:=new_block h2 (st.peek x).cells (a.eval x).cells t (Nat.le_of_eq hl) h3
  exact wp_value (by simp [ho]) (w':=w.alloc (.cells (a.eval x).cells t)) (v:=.pointer (some ⟨w.heap.size,0,none⟩)) (by simp [execOp,ho,Instr.box,run_newVar'])
   (hk (.ptr (st.takeS x).h.length 0) _ g'' _ _ (h1.trans k1) k2 ⟨_,k3,rfl⟩ h)
 ·cases h
theorem zeroT_eq {P:Program} {t:TypeId} {z:V} (h:zeroT P t=some z):∃ i v,P.info? t=some i∧i.zero=some v∧z=ofVal v:=by
 unfold zeroT at h
 obtain ⟨i,hi,h⟩:=Option.bind_eq_some_iff.1 h
 obtain ⟨v,hv,rfl⟩:=Option.map_eq_some_iff.1 h
 exact ⟨i,v,hi,hv,rfl⟩
theorem run_zero {P:Program} {t:TypeId} {i:TypeInfo} {v:Value} (hi:P.info? t=some i) (hv:i.zero=some v) (w:World):(zeroValue t).run P w=.ok v w:=by
 simp [zeroValue,run_typeInfo w hi,hv]
theorem ofVal_cells {g:Gh} {v:Value} (hok:okV (ofVal v)=true):(ofVal v).cells.length=v.cells.size∧∀ (p:Place) (j:Nat) (c:V) (hj:j<v.cells.size),(ofVal v).cells[j]?=some c→RepC g p c v.cells[j]:=by
 have hs:=ofVal_rep g 0 0 v
 have hl:=isLin_ofVal v
 have hnt:∀ vs,ofVal v≠.tup vs:=fun vs e=>by rw [e] at hok;cases hok
 have hnu:ofVal v≠.undef:=fun e=>by rw [e] at hok;cases hok
 rw [repS_notTup hnt] at hs
 obtain ⟨c1,c2⟩:=cellsA hnu hs
 refine ⟨c1,fun p j c hj hc=>?_⟩
 obtain ⟨j',e,hr⟩:=c2 j c hj hc
 refine hr.any ?_
 have hin:c∈(ofVal v).cells:=List.mem_of_getElem? hc
 have:∀ c∈(ofVal v).cells,isLin1 c=false:=by
  intro c hc
  cases hv':ofVal v<;>rw [hv'] at hc hl<;>simp only [V.cells,List.mem_singleton] at hc<;>try (subst hc;first | exact hl | rfl)
  simp only [isLin3,isLin2] at hl
  rw [List.any_eq_false] at hl
  exact Bool.eq_false_iff.2 (hl c hc)
 exact this c hin
theorem op_alloc {t:TypeId} (ho:o.op=.alloc t) (h:vop C vb f o st k kp=some out) (hR:R B τ g st a w) (hk:Goes B τ g a w o.dst k out next):o.wpIn (FW ρ) n C.P a w next Q:=by
 unfold vop at h
 rw [ho] at h
 dsimp only at h
 split at h
 ·rename_i z hz
  split at h
  ·rename_i hok
   obtain ⟨i,v,hi,hv,rfl⟩:=zeroT_eq hz
   obtain ⟨c1,c2⟩:=ofVal_cells (g:=g) hok
   obtain ⟨g'',k1,k2,k3,k4,k5,k6⟩:=new_block hR (ofVal v).cells v.cells t (Nat.le_of_eq c1) (fun j c hj hc=>c2 _ j c hj hc)
   exact wp_value (by simp [ho]) (w':=w.alloc (.cells v.cells t)) (v:=.pointer (some ⟨w.heap.size,0,none⟩)) (by simp [execOp,ho,Instr.alloc,run_zero hi hv,run_newVar'])
    (hk (.ptr st.h.length 0) _ g'' _ _ k1 k2 ⟨_,k3,rfl⟩ h)
  ·cases h
 ·cases h
end
end Go.Fw
namespace Go.Fw
open Go.RowKit
theorem getElem?_setAt:∀ (vs cs:List V) (off j:Nat),off+vs.length≤cs.length→(setAt cs off vs)[j]?=if off≤j∧j<off+vs.length then vs[j-off]? else cs[j]?
 | [],cs,off,j,_=>by
  simp only [setAt]
  rw [if_neg (by simp only [List.length_nil];omega)]
 | v::vs,cs,off,j,h=>by
  simp only [setAt,List.length_cons] at h ⊢
  rw [getElem?_setAt vs (cs.set off v) (off+1) j (by simp;omega)]
  by_cases h1:off+1≤j∧j<off+1+vs.length
  ·rw [if_pos h1,if_pos (by omega)]
   obtain ⟨m,rfl⟩:∃ m,j=off+1+m:=⟨j-(off+1),by omega⟩
   rw [show off+1+m-(off+1)=m by omega,show off+1+m-off=m+1 by omega]
   simp
  ·rw [if_neg h1]
   by_cases h2:j=off
   ·subst h2
    rw [if_pos (by omega),List.getElem?_set_self (by omega)]
    simp
   ·rw [if_neg (by omega),List.getElem?_set_ne (by omega)]
theorem length_setAt:∀ (vs cs:List V) (off:Nat),(setAt cs off vs).length=cs.length
 | [],_,_=>rfl
 | v::vs,cs,off=>by simp only [setAt];rw [length_setAt vs];simp
theorem takeDrop_get {α:Type} (cs:List α) (off n j:Nat):((cs.drop off).take n)[j]?=if j<n then cs[off+j]? else none:=by
 rw [List.getElem?_take]
 split
 ·rw [List.getElem?_drop]
 ·rfl
section
variable {B τ:Nat} {g:Gh} {st:St} {a:Act} {w:World}
def qCell (id off n:Nat):Place→Bool
 | .cell i j=>i==id&&(decide (off≤j)&&decide (j<off+n))
 | _=>false
theorem heap_share (h:R B τ g st a w) {id off n:Nat} {cs:List V} {e:TypeId} (hc:st.h[id]?=some (.cells cs e)) (hn:off+n≤cs.length) :
  R B τ (g.share (qCell id off n)) {st with h:=st.h.set id (.cells (setAt cs off (((cs.drop off).take n).map mark1)) e)} a w:=by
 have hlen:(((cs.drop off).take n).map mark1).length=n:=by simp;omega
 refine ⟨h.size,fun i v hi hv=>?_,⟨?_,h.heap.inj.set hc rfl _,?_,?_⟩,share_mem h.lin h.mem,share_lin h.lin,h.base,h.defers.mono (share_memLe h.lin) (fun _ _ h=>h) (fun _ hd=>dfr_set _ hc rfl hd)⟩
 ·exact (h.slots i v hi hv).mono (share_memLe h.lin) (fun _ _ h=>h) (fun j k b x hx hp=>lin_share_of hx (by rw [hp];rfl))
 ·intro id' b hb;have:=h.heap.bound id' b hb;simpa using this
 ·intro id' b hb
  obtain ⟨h1,h2,h3,h4⟩:=h.heap.fresh id' b hb
  refine ⟨h1,h2,?_,?_⟩
  ·unfold Gh.share;dsimp only;rw [h4];exact h3
  ·unfold Gh.share;dsimp only;rw [h4];rfl
 ·intro id' b x' hb he
  by_cases hid:id'=id
  ·subst hid
   have hlt:=h.heap.bound id' b hb
   rw [List.getElem?_set_self hlt] at he
   cases he
   obtain ⟨cur,h1,h2,h3⟩:=h.heap.blk id' b cs e hb hc
   refine ⟨_,h1,cur,rfl,by rw [length_setAt];exact h2,fun j c hj hcj=>?_⟩
   rw [getElem?_setAt _ _ _ _ (by rw [hlen];exact hn),hlen] at hcj
   by_cases hr:off≤j∧j<off+n
   ·rw [if_pos hr,List.getElem?_map,takeDrop_get,if_pos (by omega),show off+(j-off)=j by omega] at hcj
    obtain ⟨c0,hc0,rfl⟩:=Option.map_eq_some_iff.1 hcj
    exact ((h3 j c0 hj hc0).shared h.lin (by simp [qCell,hr])).1
   ·rw [if_neg hr] at hcj
    refine (h3 j c hj hcj).mono (share_memLe h.lin) (fun _ _ h=>h) (fun b i hi hp=>lin_share_of hi ?_)
    rw [hp]
    simp only [qCell,beq_self_eq_true,Bool.true_and]
    rcases Nat.lt_or_ge j off with h' | h'
    ·simp;omega
    ·simp;omega
  ·rw [List.getElem?_set_ne (fun e=>hid e.symm)] at he
   obtain ⟨o,h1,h2⟩:=h.heap.blkO id' b x' hb he
   refine ⟨o,h1,h2.mono (share_memLe h.lin) (fun _ _ h=>h) (fun j b i hi hp=>lin_share_of hi ?_)⟩
   rw [hp];simp [qCell,hid]
theorem heap_take (h:R B τ g st a w) {id off n:Nat} {cs:List V} {e:TypeId} (hc:st.h[id]?=some (.cells cs e)) (hn:off+n≤cs.length) (f:Place→Place) (hf:∀ p,(∀ j,off≤j→j<off+n→p≠.cell id j)→f p=p) :
  R B τ (g.ren f) {st with h:=st.h.set id (.cells (setAt cs off (((cs.drop off).take n).map drop1)) e)} a w:=by
 have hlen:(((cs.drop off).take n).map drop1).length=n:=by simp;omega
 refine ⟨h.size,fun i v hi hv=>?_,⟨?_,h.heap.inj.set hc rfl _,?_,?_⟩,h.mem,ren_lin h.lin,h.base,h.defers.mono (g:=g) (g':=g.ren f) (MemLe.refl _) (fun _ _ h=>h) (fun _ hd=>dfr_set _ hc rfl hd)⟩
 ·exact RepS.mono (g:=g) (g':=g.ren f) (MemLe.refl _) (fun _ _ h=>h) (fun j k b x hx hp=>lin_ren_of hx (by rw [hp];exact hf _ (by intro j _ _ e;cases e))) (h.slots i v hi hv)
 ·intro id' b hb;have:=h.heap.bound id' b hb;simpa using this
 ·intro id' b hb
  obtain ⟨h1,h2,h3,h4⟩:=h.heap.fresh id' b hb
  refine ⟨h1,h2,h3,?_⟩
  unfold Gh.ren;dsimp only;rw [h4];rfl
 ·intro id' b x' hb he
  by_cases hid:id'=id
  ·subst hid
   have hlt:=h.heap.bound id' b hb
   rw [List.getElem?_set_self hlt] at he
   cases he
   obtain ⟨cur,h1,h2,h3⟩:=h.heap.blk id' b cs e hb hc
   refine ⟨_,h1,cur,rfl,by rw [length_setAt];exact h2,fun j c hj hcj=>?_⟩
   rw [getElem?_setAt _ _ _ _ (by rw [hlen];exact hn),hlen] at hcj
   by_cases hr:off≤j∧j<off+n
   ·rw [if_pos hr,List.getElem?_map,takeDrop_get,if_pos (by omega),show off+(j-off)=j by omega] at hcj
    obtain ⟨c0,hc0,rfl⟩:=Option.map_eq_some_iff.1 hcj
    exact ((h3 j c0 hj hc0).moved (p':=f (.cell id' j)) rfl).2
   ·rw [if_neg hr] at hcj
    refine RepC.mono (g:=g) (g':=g.ren f) (MemLe.refl _) (fun _ _ h=>h) (fun b i hi hp=>lin_ren_of hi ?_) (h3 j c hj hcj)
    rw [hp]
    exact hf _ (by intro j' h1 h2 e;injection e with _ e;omega)
  ·rw [List.getElem?_set_ne (fun e=>hid e.symm)] at he
   obtain ⟨o,h1,h2⟩:=h.heap.blkO id' b x' hb he
   refine ⟨o,h1,BlkOk.mono (g:=g) (g':=g.ren f) (MemLe.refl _) (fun _ _ h=>h) (fun j b i hi hp=>lin_ren_of hi ?_) h2⟩
   rw [hp]
   exact hf _ (by intro j' h1 h2 e;injection e with e _;exact hid e)
theorem R.setBlkSame {id:Nat} {cs cs':List V} {e:TypeId} (h:R B τ g {st with h:=st.h.set id (.cells cs' e)} a w) (hc:st.h[id]?=some (.cells cs e)) (he:cs'=cs):R B τ g st a w:=by
 subst he
 have hlt:=(List.getElem?_eq_some_iff.1 hc).1
 have e2:st.h.set id (.cells cs' e)=st.h:=by
  apply List.ext_getElem?
  intro j
  by_cases hj:id=j
  ·subst hj;rw [List.getElem?_set_self hlt,hc]
  ·rw [List.getElem?_set_ne hj]
 rw [e2] at h
 exact h
theorem setAt_self {cs:List V} {off n:Nat} (hn:off+n≤cs.length):setAt cs off ((cs.drop off).take n)=cs:=by
 have hlen:((cs.drop off).take n).length=n:=by simp;omega
 apply List.ext_getElem?
 intro j
 rw [getElem?_setAt _ _ _ _ (by rw [hlen];exact hn),hlen]
 split
 ·rename_i h
  rw [takeDrop_get,if_pos (by omega),show off+(j-off)=j by omega]
 ·rfl
end
section
variable {P:Program}
theorem isAggT_some {t:TypeId} {b:Bool} (h:isAggT P t=some b) (w:World):(isAgg t).run P w=.ok b w:=by
 unfold isAggT at h
 split at h
 ·rename_i d hd;cases h;simp [isAgg,run_underlying hd]
 ·rename_i d n hd;cases h;simp [isAgg,run_underlying hd]
 ·rename_i d h1 h2 hd
  cases h
  simp only [isAgg,Sem.run_bind,run_underlying hd,Result.andThen_ok]
  cases d<;>first | rfl | exact absurd rfl (h1 _) | exact absurd rfl (h2 _ _)
 ·cases h
theorem sizeT_some {t:TypeId} {n:Nat} (h:sizeT P t=some n) (w:World):(sizeOf t).run P w=.ok n w:=by
 unfold sizeT at h
 obtain ⟨i,hi,rfl⟩:=Option.map_eq_some_iff.1 h
 rw [run_sizeOf w hi]
 simp [Program.cellsOf,hi]
theorem ofCells_some {g:Bool} {cs:List V} {v:V} (h:ofCells g cs=some v):(g=true∧v=.agg cs)∨(g=false∧cs=[v]):=by
 unfold ofCells at h
 split at h
 ·cases h;exact .inl ⟨rfl,rfl⟩
 ·cases h;exact .inr ⟨rfl,rfl⟩
 ·cases h
theorem addr_add (b off j:Nat):(⟨b,off,none⟩:Addr).add j=⟨b,off+j,none⟩:=by unfold Addr.add;split<;>simp_all
theorem run_loadVar_cells {t:TypeId} {gg:Bool} {n:Nat} {w:World} {b off:Nat} (hg:isAggT P t=some gg) (hn:sizeT P t=some n) (vals:List Value) (hl:vals.length=n) (hc:∀ (j:Nat) (v:Value),vals[j]?=some v→w.cell? ⟨b,off+j,none⟩=some v) (h1:gg=false→n=1) :
  (loadVar t ⟨b,off,none⟩).run P w=.ok (if gg then .agg vals.toArray else vals.headD undef) w:=by
 unfold loadVar
 simp only [Sem.run_bind,isAggT_some hg w,Result.andThen_ok]
 cases gg with
 | true =>
  simp only [if_true,Sem.run_bind,sizeT_some hn w,Result.andThen_ok]
  rw [←hl,run_loadCells_list w ⟨b,off,none⟩ vals (fun j v hv=>by rw [addr_add];exact hc j v hv)]
  rfl
 | false =>
  have:=h1 rfl
  subst this
  match vals,hl with
  | [v],_ =>
   have hv:=hc 0 v rfl
   simp only [Nat.add_zero] at hv
   simp [run_load,hv]
end
section
variable {C:Cx} {vb:FuncId→List V→List Blk→Option FOut} {f:FuncId} {ρ:Option Nat} {n:Nat} {o:Oper} {st:St} {α:Type} {k kp:V→St→Option α} {out:α}
 {B τ:Nat} {g:Gh} {a:Act} {w:World} {next:Act→World→Prop} {Q:Exit→Act→World→Prop}
theorem cell_of_heap {w:World} {b:Nat} {cur:Array Value} {e:TypeId} {fr:Nat×Nat} (h:w.heap[b]?=some (.cells cur e fr)) (j:Nat):w.cell? ⟨b,j,none⟩=cur[j]?:=by
 simp [World.cell?,h]
theorem RepI.repP {g:Gh} {v:V} {u:Value} (h:RepI g.mem v u):RepP g v u:=by
 cases v<;>first | exact h | cases h
theorem RepI.repC {g:Gh} {p:Place} {v:V} {u:Value} (h:RepI g.mem v u) (hc:isCell v=true):RepC g p v u:=by
 cases v<;>first | exact h | (cases h;done) | (simp [isCell] at hc;done) | skip
 cases h with
 | fn _ _ _ first' caps' h1 h2 v1 v2=>exact ⟨first',caps',rfl,h1,h2,fun j c hj hc=>(v1 j c hj hc).repP,fun j c hj hc=>(v2 j c hj hc).repP⟩
theorem rep_ofCells {g:Gh} {τ d:Nat} {gg:Bool} {c:List V} {v:V} {vals:List Value} (h:ofCells gg c=some v) (hl:c.length=vals.length) (hc:∀ (j:Nat) (x:V) (u:Value),c[j]?=some x→vals[j]?=some u→RepC g (.slot τ d (if gg then j+1 else 0) 0) x u) :
  RepS g τ d v (if gg then .agg vals.toArray else vals.headD undef):=by
 rcases ofCells_some h with ⟨rfl,rfl⟩ | ⟨rfl,rfl⟩
 ·refine ⟨vals.toArray,rfl,by simpa using hl,fun j x hj hx=>?_⟩
  have:=hc j x (vals.toArray[j]) hx (by simp at hj;simp [hj])
  simpa using this
 ·match vals,hl with
  | [u],_ =>
   have:=hc 0 v u rfl rfl
   have hn:=this.notAgg
   show RepS g τ d v u
   rw [repS_notTup (by intro vs e;rw [e] at hn;cases hn)]
   exact repA_cell (by simpa using this)
def fLoad (τ d id off n:Nat) (gg:Bool):Place→Place
 | .cell i j=>if i=id∧off≤j∧j<off+n then .slot τ d (if gg then j-off+1 else 0) 0 else .cell i j
 | p=>p
theorem op_load {t:TypeId} {x:Operand} (ho:o.op=.load t x) (h:vop C vb f o st k kp=some out) (hR:R B τ g st a w) (hk:Goes B τ g a w o.dst k out next):o.wpIn (FW ρ) n C.P a w next Q:=by
 obtain ⟨dx,hx⟩:=peek_rep hR x
 unfold vop at h
 rw [ho] at h
 dsimp only at h
 split at h
 ·rename_i gg m hg hm
  split at h
  ·rename_i id off hp
   rw [hp] at hx
   obtain ⟨b,hb,hu⟩:=rep_ptr hx
   split at h
   ·rename_i cs e hcs
    split at h
    ·rename_i hle
     obtain ⟨cur,hcur,hlc,hrep⟩:=hR.heap.blk id b cs e hb hcs
     have hlen:((cs.drop off).take m).length=m:=by simp;omega
     have hvl:((cur.toList.drop off).take m).length=m:=by simp;omega
     have h1:∀ (c:List V) (v:V),c.length=m→ofCells gg c=some v→gg=false→m=1:=by
      intro c v hc hv hgf
      rcases ofCells_some hv with ⟨e1,_⟩ | ⟨_,e1⟩
      ·rw [hgf] at e1;cases e1
      ·rw [←hc,e1];rfl
     have hrun:∀ (c:List V) (v:V),c.length=m→ofCells gg c=some v→(execOp a.eval o).run C.P w=.ok (.value (if gg then .agg ((cur.toList.drop off).take m).toArray else ((cur.toList.drop off).take m).headD undef)) w:=by
      intro c v hc hv
      have hl:=run_loadVar_cells (P:=C.P) (w:=w) (b:=b) (off:=off) hg hm _ hvl (fun j u hj=>by
       rw [cell_of_heap hcur]
       rw [takeDrop_get] at hj
       split at hj
       ·simpa using hj
       ·cases hj) (h1 c v hc hv)
      simp [execOp,ho,hu,Instr.loadAt,Instr.sureAddr,hl]
     have hval:∀ (j:Nat) (u:Value),((cur.toList.drop off).take m)[j]?=some u→∃ hj:off+j<cur.size,u=cur[off+j]∧j<m:=by
      intro j u hj
      rw [takeDrop_get] at hj
      split at hj
      ·rename_i hjm
       have hlt:=(List.getElem?_eq_some_iff.1 hj).1
       simp at hlt
       refine ⟨hlt,?_,hjm⟩
       have:=(List.getElem?_eq_some_iff.1 hj).2
       rw [←this];simp
      ·cases hj
     split at h
     ·rename_i d hd
      split at h
      ·-- it is taken
       split at h
       ·rename_i v hv
        have hf:∀ p,(∀ j,off≤j→j<off+m→p≠.cell id j)→fLoad τ d id off m gg p=p:=by
         intro p hp
         cases p with
         | slot=>rfl
         | cell i j =>
          have hn:¬(i=id∧off≤j∧j<off+m):=by
           rintro ⟨rfl,h1,h2⟩
           exact hp j h1 h2 rfl
          simp only [fLoad,if_neg hn]
        have hR':=heap_take hR hcs hle (fLoad τ d id off m gg) hf
        refine wp_value (by simp [ho]) (hrun _ v hlen hv) (hk v _ _ _ w (ren_later (fun τ' x j k _=>hf _ (by intro j _ _ e;cases e))) hR' ?_ h)
        rw [hd]
        refine rep_ofCells hv (by rw [hlen,hvl]) (fun j x u hj hu'=>?_)
        obtain ⟨hjc,rfl,hjm⟩:=hval j u hu'
        rw [takeDrop_get,if_pos hjm] at hj
        refine ((hrep (off+j) x hjc hj).moved (f:=fLoad τ d id off m gg) (p':=.slot τ d (if gg then j+1 else 0) 0) ?_).1
        simp [fLoad,hjm]
       ·cases h
      ·split at h
       ·rename_i v hv
        have hR':=heap_share hR hcs hle
        have hrepS:RepS (g.share (qCell id off m)) τ (o.dst.getD 0) v (if gg then .agg ((cur.toList.drop off).take m).toArray else ((cur.toList.drop off).take m).headD undef):=by
         refine rep_ofCells hv (by rw [List.length_map,hlen,hvl]) (fun j x u hj hu'=>?_)
         obtain ⟨hjc,rfl,hjm⟩:=hval j u hu'
         rw [List.getElem?_map,takeDrop_get,if_pos hjm] at hj
         obtain ⟨c0,hc0,rfl⟩:=Option.map_eq_some_iff.1 hj
         exact ((hrep (off+j) c0 hjc hc0).shared (q:=qCell id off m) hR.lin (by simp [qCell,hjm])).2 _
        have hlat:Later B τ g (g.share (qCell id off m)) w w:=share_later hR.lin (fun τ' x j k hq=>by simp [qCell] at hq)
        refine wp_value (by simp [ho]) (hrun _ v (by rw [List.length_map,hlen]) hv) ?_
        rcases condB_cases h with ⟨hl,h⟩ | ⟨hl,h⟩
        ·exact hk v _ _ _ w hlat hR' hrepS h
        ·refine hk v _ _ _ w hlat (hR'.setBlkSame hcs ?_) hrepS h
         rw [map_of (fun _ h=>mark1_of h) hl]
         exact setAt_self hle
       ·cases h
     ·cases h
    ·cases h
   ·cases h
  ·rename_i e off hp
   rw [hp] at hx
   have hi:=rep_iptr hx
   split at h
   ·rename_i hle
    split at h
    ·rename_i v hv
     generalize hu:a.eval x=u at hi
     cases hi with
     | iptr _ _ b base val hs hvv =>
      have hlen:((e.cells.drop off).take m).length=m:=by simp;omega
      have h1:gg=false→m=1:=by
       intro hgf
       rcases ofCells_some hv with ⟨e1,_⟩ | ⟨_,e1⟩
       ·rw [hgf] at e1;cases e1
       ·rw [←hlen,e1];rfl
      have hvl:((List.range m).map fun j=>val (off+j)).length=m:=by simp
      have hget:∀ (j:Nat) (u:Value),((List.range m).map fun j=>val (off+j))[j]?=some u→j<m∧u=val (off+j):=by
       intro j u hj
       have hjm:=(List.getElem?_eq_some_iff.1 hj).1
       simp at hjm
       refine ⟨hjm,?_⟩
       have:=(List.getElem?_eq_some_iff.1 hj).2
       rw [←this];simp
      have hl:=run_loadVar_cells (P:=C.P) (w:=w) (b:=b) (off:=base+off) hg hm ((List.range m).map fun j=>val (off+j)) hvl (fun j u hj=>by
       obtain ⟨hjm,rfl⟩:=hget j u hj
       have hlt:off+j<e.cells.length:=by omega
       obtain ⟨_,hst⟩:=hs (off+j) _ (List.getElem?_eq_getElem hlt)
       unfold stAt at hst
       obtain ⟨cs,hcs,hci⟩:=Option.bind_eq_some_iff.1 hst
       obtain ⟨cur,e',fr,hh,tl,htl⟩:=hR.mem.at_ b cs hcs
       rw [cell_of_heap hh,←Array.getElem?_toList,←htl,Nat.add_assoc]
       rw [List.getElem?_append_left (List.getElem?_eq_some_iff.1 hci).1]
       exact hci) h1
      generalize ((List.range m).map fun j=>val (off+j))=vals at hvl hget hl
      refine wp_value (by simp [ho]) (v:=if gg then .agg vals.toArray else vals.headD undef) (w':=w) (by simp [execOp,ho,hu,Instr.loadAt,Instr.sureAddr,hl]) (hk v st g _ w (Later.refl ..) hR ?_ h)
      refine rep_ofCells hv (by rw [hlen,hvl]) (fun j x u hj hu'=>?_)
      obtain ⟨hjm,rfl⟩:=hget j u hu'
      rw [takeDrop_get,if_pos hjm] at hj
      have hci:=(hs (off+j) x hj).1
      have hri:=hvv (off+j) x hj
      exact hri.repC hci
    ·cases h
   ·cases h
  ·cases h
 ·cases h
end
end Go.Fw
namespace Go.Fw
open Go.RowKit
theorem splice_get {α:Type} (l vs:List α) (off j:Nat) (h:off+vs.length≤l.length):(l.take off++vs++l.drop (off+vs.length))[j]?=if off≤j∧j<off+vs.length then vs[j-off]? else l[j]?:=by
 by_cases h1:j<off
 ·rw [if_neg (by omega),List.append_assoc,List.getElem?_append_left (by simp;omega),List.getElem?_take,if_pos h1]
 ·by_cases h2:j<off+vs.length
  ·rw [if_pos (by omega),List.append_assoc,List.getElem?_append_right (by simp;omega),List.getElem?_append_left (by simp;omega)]
   congr 1;simp;omega
  ·rw [if_neg (by omega),List.getElem?_append_right (by simp;omega),List.getElem?_drop]
   congr 1;simp;omega
section
variable {B τ:Nat} {g:Gh} {st:St} {a:Act} {w:World}
theorem write_core {H:List Blk} (hh:HeapOk g H B w) (hm:MemOk g.mem w) (hL:LinOk g B w) {id b:Nat} {x x':Blk} {o':Obj} {w':World} (hb:g.loc id=some b) (hx:H[id]?=some x) (hlv:x.live=true) (hw:w'.heap[b]?=some o') (hoth:∀ c,c≠b→w'.heap[c]?=w.heap[c]?) (hsz:w'.heap.size=w.heap.size) (hrep:BlkOk g id x' o') (hshp:∀ cur e fr,w.heap[b]?=some (.cells cur e fr)→∃ cur' fr',o'=.cells cur' e fr'∧cur'.size=cur.size) :
  HeapOk g (H.set id x') B w'∧MemOk g.mem w'∧LinOk g B w':=by
 obtain ⟨f1,f2,f3,f4⟩:=hh.fresh id b hb
 have hne:∀ x,(g.mem x).isSome=true∨(g.lin x).isSome=true→x≠b:=by
  intro x hx e
  subst e
  rw [f3,f4] at hx
  simp at hx
 have hm':∀ b n e,g.mem.shape b=some (n,e)→∃ cur fr,w'.heap[b]?=some (.cells cur e fr)∧cur.size=n:=by
  intro c n e hc
  obtain ⟨cur,fr,h1,h2⟩:=hm.shape c n e hc
  by_cases hcb:c=b
  ·subst hcb
   obtain ⟨cur',fr',rfl,h3⟩:=hshp cur e fr h1
   exact ⟨cur',fr',hw,by rw [h3];exact h2⟩
  ·exact ⟨cur,fr,by rw [hoth c hcb];exact h1,h2⟩
 refine ⟨⟨?_,hh.inj.set hx hlv x',?_,?_⟩,⟨?_,hm.glob,hm'⟩,⟨?_⟩⟩
 ·intro id' b' hb';have:=hh.bound id' b' hb';simpa using this
 ·intro id' b' hb'
  obtain ⟨h1,h2,h3,h4⟩:=hh.fresh id' b' hb'
  exact ⟨h1,by rw [hsz];exact h2,h3,h4⟩
 ·intro id' b' x0 hb' he
  by_cases hid:id'=id
  ·subst hid
   rw [hb] at hb';cases hb'
   have hlt:=hh.bound id' b hb
   rw [List.getElem?_set_self hlt] at he
   cases he
   exact ⟨o',hw,hrep⟩
  ·rw [List.getElem?_set_ne (fun e=>hid e.symm)] at he
   obtain ⟨o0,h1,h2⟩:=hh.blkO id' b' x0 hb' he
   cases hl0:x0.live with
   | false =>
    have hlt':b'<w'.heap.size:=by rw [hsz];exact (hh.fresh id' b' hb').2.1
    refine ⟨w'.heap[b'],Array.getElem?_eq_getElem hlt',?_⟩
    cases x0<;>first | exact trivial | cases hl0
   | true =>
   exact ⟨o0,by rw [hoth b' (fun e=>hid (hh.inj id' id b _ _ (e ▸ hb') hb he hx hl0 hlv))];exact h1,h2⟩
 ·intro x xs hx
  obtain ⟨cur0,e0,fr,h1,h2⟩:=hm.at_ x xs hx
  exact ⟨cur0,e0,fr,by rw [hoth x (hne x (.inl (by simp [hx])))];exact h1,h2⟩
 ·intro x i hx
  obtain ⟨h1,⟨cur0,h2,h3,h4⟩,h5⟩:=hL.at_ x i hx
  exact ⟨h1,⟨cur0,by rw [hoth x (hne x (.inr (by simp [hx])))];exact h2,h3,h4⟩,h5⟩
theorem write_obj (h:R B τ g st a w) {id b:Nat} {x x':Blk} {o':Obj} {w':World} (hb:g.loc id=some b) (hx:st.h[id]?=some x) (hnd:x.isDfr=false) (hlv:x.live=true) (hw:w'.heap[b]?=some o') (hbel:Below B w w') (hoth:∀ c,c≠b→w'.heap[c]?=w.heap[c]?) (hsz:w'.heap.size=w.heap.size) (hrep:BlkOk g id x' o') (hshp:∀ cur e fr,w.heap[b]?=some (.cells cur e fr)→∃ cur' fr',o'=.cells cur' e fr'∧cur'.size=cur.size) :
  Later B τ g g w w'∧R B τ g {st with h:=st.h.set id x'} a w':=by
 obtain ⟨h1,h2,h3⟩:=write_core h.heap h.mem h.lin hb hx hlv hw hoth hsz hrep hshp
 exact ⟨⟨hbel,MemLe.refl _,fun _ _=>rfl,fun _ _ h=>h,fun _ _ h _=>h⟩,h.size,h.slots,h1,h2,h3,by rw [hsz];exact h.base,h.defers.mono (MemLe.refl _) (fun _ _ h=>h) (fun _ hd=>dfr_set _ hx hnd hd)⟩
theorem write_blk (h:R B τ g st a w) {id b:Nat} {cs cs':List V} {e:TypeId} {cur cur':Array Value} (hb:g.loc id=some b) (hcs:st.h[id]?=some (.cells cs e)) (hcur:w.heap[b]?=some (.cells cur e (0,0)))
  (hl:cs'.length≤cur'.size) (hss:cur'.size=cur.size) (hrep:∀ (j:Nat) (c:V) (hj:j<cur'.size),cs'[j]?=some c→RepC g (.cell id j) c cur'[j]) :
  Later B τ g g w (w.setRow b cur')∧R B τ g {st with h:=st.h.set id (.cells cs' e)} a (w.setRow b cur'):=by
 obtain ⟨f1,f2,f3,f4⟩:=h.heap.fresh id b hb
 exact write_obj h hb hcs rfl rfl (setRow_heap w b cur cur' e (0,0) hcur) (below_setRow (Below.refl _ _) f1 _) (fun c hc=>setRow_other w b c cur' hc) (by simp) ⟨cur',rfl,hl,hrep⟩ (fun c e0 fr h0=>by rw [hcur] at h0;cases h0;exact ⟨cur',_,rfl,hss⟩)
theorem takeS_h (st:St) (x:Operand):(st.takeS x).h=st.h:=by
 cases x<;>first | rfl | skip
 simp only [St.takeS]
 cases isLin3 (getS st.fr _)<;>simp [condB_true,condB_false]
theorem useS_h (st:St) (x:Operand):(st.useS x).h=st.h:=by
 cases x<;>first | rfl | skip
 simp only [St.useS]
 cases isLin3 (getS st.fr _)<;>simp [condB_true,condB_false]
end
section
variable {C:Cx} {vb:FuncId→List V→List Blk→Option FOut} {f:FuncId} {ρ:Option Nat} {n:Nat} {o:Oper} {st:St} {α:Type} {k kp:V→St→Option α} {out:α}
 {B τ:Nat} {g:Gh} {a:Act} {w:World} {next:Act→World→Prop} {Q:Exit→Act→World→Prop}
theorem op_store {t:TypeId} {p x:Operand} (ho:o.op=.store t p x) (h:vop C vb f o st k kp=some out) (hR:R B τ g st a w) (hk:Goes B τ g a w o.dst k out next):o.wpIn (FW ρ) n C.P a w next Q:=by
 obtain ⟨dx,hx⟩:=peek_rep hR p
 unfold vop at h
 rw [ho] at h
 dsimp only at h
 split at h
 ·rename_i m hm
  have hdst:o.dst=none:=by
   by_cases hd:o.dst=none
   ·exact hd
   ·rw [if_neg hd] at hm;cases hm
  rw [if_pos hdst] at hm
  split at h
  ·rename_i id off hp
   rw [hp] at hx
   obtain ⟨b,hb,hu⟩:=rep_ptr hx
   split at h
   ·rename_i cs e hcs
    split at h
    ·rename_i hcond
     obtain ⟨hok,hvl,hle⟩:=hcond
     obtain ⟨g',l1,hR',hloc,hcl,hrep⟩:=take_cells hR x id off hok
     have hb':g'.loc id=some b:=by rw [hloc];exact hb
     have hcs':(st.takeS x).h[id]?=some (.cells cs e):=by rw [takeS_h];exact hcs
     obtain ⟨cur,hcur,hlc,hrep0⟩:=hR'.heap.blk id b cs e hb' hcs'
     have hul:(a.eval x).cells.toList.length=m:=by rw [Array.length_toList,←hcl];exact hvl
     have hone:∀ v∈(a.eval x).cells.toList,v.oneCell'=true:=by
      intro v hv
      obtain ⟨j,hj,rfl⟩:=List.mem_iff_getElem.1 hv
      have hj':j<(a.eval x).cells.size:=by simpa using hj
      have:=hrep j ((st.peek x).cells[j]'(by rw [hcl];exact hj')) hj' (List.getElem?_eq_getElem _)
      simpa using this.one
     have hst:=run_storeCells_at (P:=C.P) b off e (a.eval x).cells.toList 0 cur w hcur (by omega) hone
     simp only [Nat.add_zero] at hst
     generalize hcur':(cur.toList.take off++(a.eval x).cells.toList++cur.toList.drop (off+(a.eval x).cells.toList.length)).toArray=cur' at hst
     have hsz:cur'.size=cur.size:=by rw [←hcur'];simp;omega
     have hat:∀ (j:Nat) (hj:j<cur'.size),(∃ h1:j-off<(a.eval x).cells.size,off≤j∧j<off+m∧cur'[j]=(a.eval x).cells[j-off])∨((j<off∨off+m≤j)∧cur'[j]=cur[j]'(by omega)):=by
      intro j hj
      have hsz':(a.eval x).cells.size=m:=by simpa using hul
      have hg:cur'[j]?=if off≤j∧j<off+m then (a.eval x).cells.toList[j-off]? else cur.toList[j]?:=by
       rw [←hcur',←hul]
       simpa using splice_get cur.toList (a.eval x).cells.toList off j (by rw [hul,Array.length_toList];omega)
      rw [Array.getElem?_eq_getElem hj] at hg
      by_cases h1:off≤j∧j<off+m
      ·rw [if_pos h1,Array.getElem?_toList,Array.getElem?_eq_getElem (by omega)] at hg
       exact .inl ⟨by omega,h1.1,h1.2,Option.some.inj hg⟩
      ·rw [if_neg h1,Array.getElem?_toList,Array.getElem?_eq_getElem (by omega)] at hg
       exact .inr ⟨by omega,Option.some.inj hg⟩
     obtain ⟨l2,hR''⟩:=write_blk hR' (cs':=setAt cs off (st.peek x).cells) (cur':=cur') hb' hcs' hcur (by rw [length_setAt,hsz];exact hlc) hsz (fun j c hj hc=>by
      rw [getElem?_setAt _ _ _ _ (by rw [hvl];exact hle),hvl] at hc
      rcases hat j hj with ⟨h1,h2,h3,h4⟩ | ⟨h1,h2⟩
      ·rw [if_pos ⟨h2,h3⟩] at hc
       rw [h4]
       have:=hrep (j-off) c h1 hc
       rwa [show off+(j-off)=j by omega] at this
      ·rw [if_neg (by omega)] at hc
       rw [h2]
       exact hrep0 j c (by omega) hc)
     refine wp_skip_ (by simp [ho]) (w':=w.setRow b cur') ?_ (hk .undef _ g' _ _ (l1.trans l2) hR'' trivial h)
     simp [execOp,ho,hu,Instr.storeAt,Instr.sureAddr,storeVar,sizeT_some hm w,hst]
     simpa using hul
    ·cases h
   ·cases h
  ·cases h
 ·cases h
theorem fieldT_some {P:Program} {t:TypeId} {j:Nat} {x:Field} (h:fieldT P t j=some x):∃ fs,P.underlying t=some (.struct fs)∧fs[j]?=some x:=by
 unfold fieldT at h
 split at h
 ·exact ⟨_,by assumption,h⟩
 ·cases h
theorem fieldPlace_run {P:Program} (b off:Nat) (x:Field) {m:Nat} (hm:sizeT P x.type=some (m+1)) (w:World):(fieldPlace ⟨b,off,none⟩ x).run P w=.ok ⟨b,off+x.offset,none⟩ w:=by
 simp [fieldPlace,sizeT_some hm w,addr_add]
theorem op_fieldAddr {s:TypeId} {x:Operand} {j:Nat} (ho:o.op=.fieldAddr s x j) (h:vop C vb f o st k kp=some out) (hR:R B τ g st a w) (hk:Goes B τ g a w o.dst k out next):o.wpIn (FW ρ) n C.P a w next Q:=by
 obtain ⟨dx,hx⟩:=peek_rep hR x
 unfold vop at h
 rw [ho] at h
 dsimp only at h
 split at h
 ·rename_i fl hfl
  obtain ⟨fs,hu,hfs⟩:=fieldT_some hfl
  split at h
  ·rename_i m hm
   split at h
   ·rename_i id off hp
    rw [hp] at hx
    obtain ⟨b,hb,hux⟩:=rep_ptr hx
    exact wp_value (by simp [ho]) (v:=.pointer (some ⟨b,off+fl.offset,none⟩)) (w':=w) (by simp [execOp,ho,Instr.fieldAt,run_underlying hu,hfs,hux,Instr.sureAddr,fieldPlace_run b off fl hm w])
     (hk (.ptr id (off+fl.offset)) st g _ w (Later.refl ..) hR ⟨b,hb,rfl⟩ h)
   ·rename_i e off hp
    rw [hp] at hx
    have hi:=rep_iptr hx
    generalize hux:a.eval x=u at hi
    cases hi with
    | iptr _ _ b base val hs hv =>
     exact wp_value (by simp [ho]) (v:=.pointer (some ⟨b,base+off+fl.offset,none⟩)) (w':=w) (by simp [execOp,ho,Instr.fieldAt,run_underlying hu,hfs,hux,Instr.sureAddr,fieldPlace_run b (base+off) fl hm w])
      (hk (.iptr e (off+fl.offset)) st g _ w (Later.refl ..) hR (by rw [Nat.add_assoc];exact RepI.iptr e (off+fl.offset) b base val hs hv) h)
   ·cases h
  ·cases h
 ·cases h
theorem op_extract {x:Operand} {i:Nat} (ho:o.op=.extract x i) (h:vop C vb f o st k kp=some out) (hR:R B τ g st a w) (hk:Goes B τ g a w o.dst k out next):o.wpIn (FW ρ) n C.P a w next Q:=by
 unfold vop at h
 rw [ho] at h
 dsimp only at h
 split at h
 ·rename_i t
  split at h
  ·rename_i vs hvs
   split at h
   ·rename_i v hv
    have hs:=slot_of hR t
    rw [hvs] at hs
    obtain ⟨cs,hcs,hl,hrep⟩:=hs
    have hi:i<cs.size:=by rw [←hl];exact (List.getElem?_eq_some_iff.1 hv).1
    let d:=o.dst.getD 0
    let fm:Place→Place:=fun p=>match p with
     | .slot τ' y j kk=>if τ'=τ∧y=t∧kk=i+1 then .slot τ d j 0 else .slot τ' y j kk
     | p=>p
    have hf:∀ p,(∀ j kk,p≠.slot τ t j kk)→fm p=p:=by
     intro p hp
     cases p with
     | cell=>rfl
     | slot τ' y j kk =>
      have hn:¬(τ'=τ∧y=t∧kk=i+1):=by
       rintro ⟨rfl,rfl,rfl⟩
       exact hp j _ rfl
      show (if _ then _ else _)=_
      rw [if_neg hn]
    have hmv:=(hrep i v hi hv).moved (f:=fm) (pl':=fun j=>.slot τ d j 0) (fun j=>by show (if _ then _ else _)=_;rw [if_pos ⟨rfl,rfl,rfl⟩])
    have htt:t<a.tmps.size:=by
     rcases Nat.lt_or_ge t a.tmps.size with h1 | h1
     ·exact h1
     ·rw [getS_out (by rw [hR.size];exact h1)] at hvs;cases hvs
    have hR':R B τ (g.ren fm) {st with fr:=st.fr.set t (.tup (vs.set i (map2 drop1 v)))} a w:=by
     refine ⟨by simpa using hR.size,fun i' v' hi' hv'=>?_,ren_heap (fun _ _=>rfl) hR.heap,hR.mem,ren_lin hR.lin,hR.base,hR.defers.mono (g:=g) (g':=g.ren fm) (MemLe.refl _) (fun _ _ h=>h) (fun _ h=>h)⟩
     by_cases hit:i'=t
     ·subst hit
      rw [List.getElem?_set_self (by rw [hR.size];exact hi')] at hv'
      cases hv'
      have hcs':a.tmps[i']=.tuple cs:=by simpa [Array.getD,hi'] using hcs
      refine ⟨cs,hcs',by simpa using hl,fun kk c hkk hc=>?_⟩
      by_cases hki:kk=i
      ·subst hki
       rw [List.getElem?_set_self (by rw [hl];exact hi)] at hc
       cases hc
       exact hmv.2
      ·rw [List.getElem?_set_ne (fun e=>hki e.symm)] at hc
       refine RepA.mono (g:=g) (g':=g.ren fm) (MemLe.refl _) (fun _ _ h=>h) (fun j b x hx hp=>lin_ren_of hx ?_) (hrep kk c hkk hc)
       rw [hp]
       show (if _ then _ else _)=_
       rw [if_neg (by rintro ⟨_,_,e⟩;omega)]
     ·rw [List.getElem?_set_ne (fun e=>hit e.symm)] at hv'
      refine RepS.mono (g:=g) (g':=g.ren fm) (MemLe.refl _) (fun _ _ h=>h) (fun j kk b x hx hp=>lin_ren_of hx ?_) (hR.slots i' v' hi' hv')
      rw [hp]
      exact hf (.slot τ i' j kk) (by intro j' k' e;injection e with _ e;exact hit e)
    have hval:(execOp a.eval o).run C.P w=.ok (.value cs[i]) w:=by
     have:a.eval (.tmp t)=.tuple cs:=hcs
     simp [execOp,ho,this,Instr.extract,hi]
    by_cases htup:∃ ws,v=.tup ws
    ·obtain ⟨ws,rfl⟩:=htup
     exact (hrep i _ hi hv).elim
    ·refine wp_value (by simp [ho]) hval (hk v _ (g.ren fm) _ w (ren_later (fun τ' y j kk hne=>hf (.slot τ' y j kk) (by intro j' k' e;injection e with e _;exact hne e))) hR' ?_ h)
     rw [repS_notTup (fun ws e=>htup ⟨ws,e⟩)]
     exact hmv.1
   ·cases h
  ·cases h
 ·cases h
theorem slen_rep {g:Gh} {τ d:Nat} {v:V} {u:Value} {m:Nat} (h:RepS g τ d v u) (hm:slen v=some m):(∃ a c,u=.slice a m c)∨(∃ s,u=.string s∧s.size=m):=by
 unfold slen at hm
 split at hm<;>cases hm<;>simp only [RepS,RepA,RepC] at h
 ·cases h;exact .inl ⟨_,_,rfl⟩
 ·cases h;exact .inl ⟨_,_,rfl⟩
 ·cases h<;>exact .inl ⟨_,_,rfl⟩
 ·rcases h with ⟨b,i,_,_,_,_,rfl,_⟩ | ⟨rfl,_,ad,rfl⟩<;>exact .inl ⟨_,_,rfl⟩
 ·rcases h with ⟨b,c,_,rfl,_⟩ | ⟨rfl,_,ad,rfl⟩<;>exact .inl ⟨_,_,rfl⟩
 ·cases h;exact .inr ⟨_,rfl,rfl⟩
end
end Go.Fw
namespace Go.Fw
open Go.RowKit
def valT (b:Bool) (us:List Value):Value:=if b then .agg us.toArray else us.headD undef
def Cells (g:Gh) (xs:List V) (us:List Value):Prop:=xs.length=us.length∧∀ (j:Nat) (c:V) (u:Value),xs[j]?=some c→us[j]?=some u→∃ p,RepC g p c u
theorem Cells.part {g:Gh} {xs:List V} {us:List Value} (h:Cells g xs us) (off n:Nat):Cells g ((xs.drop off).take n) ((us.drop off).take n):=by
 refine ⟨by simp [h.1],fun j c u hc hu=>?_⟩
 rw [takeDrop_get] at hc hu
 split at hc
 ·rename_i hj
  rw [if_pos hj] at hu
  exact h.2 _ c u hc hu
 ·cases hc
theorem Cells.one {g:Gh} {x:V} {us:List Value} (h:Cells g [x] us):∃ u p,us=[u]∧RepC g p x u:=by
 match us,h.1 with
 | [u],_ =>
  obtain ⟨p,hp⟩:=h.2 0 x u rfl rfl
  exact ⟨u,p,rfl,hp⟩
theorem run_part {P:Program} {t:TypeId} {b:Bool} {n:Nat} (hb:isAggT P t=some b) (hn:sizeT P t=some n) (us:List Value) (off:Nat) (h1:b=false→off<us.length∧0<n) (w:World) :
  (part t us.toArray off).run P w=.ok (valT b ((us.drop off).take n)) w:=by
 unfold part valT
 simp only [Sem.run_bind,isAggT_some hb w,Result.andThen_ok]
 cases b with
 | true =>
  simp only [if_true,Sem.run_bind,sizeT_some hn w,Result.andThen_ok,Sem.run_pure]
  congr 2
  rw [←Array.toList_inj]
  simp [List.extract_eq_take_drop]
 | false =>
  obtain ⟨hlt,hn0⟩:=h1 rfl
  obtain ⟨m,rfl⟩:∃ m,n=m+1:=⟨n-1,by omega⟩
  have:(us.drop off).take (m+1)=us[off]::(us.drop (off+1)).take m:=by
   rw [List.drop_eq_getElem_cons hlt];rfl
  rw [this]
  simp [List.getElem?_eq_getElem hlt]
theorem eqPlain_run {P:Program} {g:Gh}:∀ (d:Nat) (t:TypeId) (xs ys:List V) (r:Bool) (us vs:List Value),eqPlain P d t xs ys=some r→Cells g xs us→Cells g ys vs→∀ (e:Nat),d≤e→∀ (w:World),
  ∃ b,isAggT P t=some b∧(b=false→xs.length=1∧ys.length=1)∧(Op.equalIn e t (valT b us) (valT b vs)).run P w=.ok r w:=by
 intro d
 induction d with
 | zero=>intro t xs ys r us vs h;cases h
 | succ d ih =>
  intro t xs ys r us vs h hx hy e he w
  obtain ⟨e,rfl⟩:∃ m,e=m+1:=⟨e-1,by omega⟩
  simp only [eqPlain] at h
  split at h
  ·rename_i a b ht
   cases h
   obtain ⟨u,p,rfl,hu⟩:=hx.one
   obtain ⟨v,q,rfl,hv⟩:=hy.one
   simp only [RepC] at hu hv
   cases hu;cases hv
   exact ⟨false,by simp [isAggT,ht],fun _=>⟨rfl,rfl⟩,run_equalIn_bool' w e t a b ht⟩
  ·rename_i k0 k a k' b ht
   split at h
   ·rename_i hkk
    subst hkk
    cases h
    obtain ⟨u,p,rfl,hu⟩:=hx.one
    obtain ⟨v,q,rfl,hv⟩:=hy.one
    simp only [RepC] at hu hv
    cases hu;cases hv
    exact ⟨false,by simp [isAggT,ht],fun _=>⟨rfl,rfl⟩,run_equalIn_int w e t _ _ a b ht⟩
   ·cases h
  ·rename_i a b ht
   cases h
   obtain ⟨u,p,rfl,hu⟩:=hx.one
   obtain ⟨v,q,rfl,hv⟩:=hy.one
   simp only [RepC] at hu hv
   cases hu;cases hv
   exact ⟨false,by simp [isAggT,ht],fun _=>⟨rfl,rfl⟩,run_equalIn_string w e t a b ht⟩
  ·rename_i fs ht
   split at h
   ·cases h
   ·rename_i hst
    refine ⟨true,by simp [isAggT,ht],(fun h=>by cases h),?_⟩
    have hf:P.fieldsOf t=fs:=by simp [Program.fieldsOf,ht]
    show (Op.equalIn (e+1) t (.agg us.toArray) (.agg vs.toArray)).run P w=_
    rw [run_equalIn_struct (P:=P) w e t us.toArray vs.toArray (by rw [hf];exact ht) (by simpa using hst),hf]
    clear ht hf hst
    generalize fs.toList=fl at h
    induction fl generalizing r with
    | nil=>simp only [eqFs] at h;cases h;simp [Op.eqFields]
    | cons fd fl ihf =>
     simp only [eqFs] at h
     rw [Op.eqFields]
     by_cases hn:fd.name = "_"
     ·rw [if_pos hn] at h
      rw [if_neg (by simp [hn])]
      exact ihf r h
     ·rw [if_neg hn] at h
      rw [if_pos hn]
      split at h
      ·rename_i n hsz
       split at h
       ·rename_i ra rb hra hrb
        cases h
        obtain ⟨b,hb,h1,hrun⟩:=ih fd.type _ _ ra _ _ hra (hx.part fd.offset n) (hy.part fd.offset n) e (by omega) w
        have hb1:=hb
        have hx1:b=false→fd.offset<us.length∧0<n:=fun hbf=>by
         have h1':=(h1 hbf).1
         rw [List.length_take,List.length_drop] at h1'
         have:=hx.1
         omega
        have hy1:b=false→fd.offset<vs.length∧0<n:=fun hbf=>by
         have h1':=(h1 hbf).2
         rw [List.length_take,List.length_drop] at h1'
         have:=hy.1
         omega
        simp only [Sem.run_bind,run_part hb hsz us fd.offset hx1 w,run_part hb hsz vs fd.offset hy1 w,hrun,Result.andThen_ok]
        cases ra
        ·simp
        ·simpa using ihf rb hrb
       ·cases h
      ·cases h
  ·cases h
section
variable {C:Cx} {vb:FuncId→List V→List Blk→Option FOut} {f:FuncId} {ρ:Option Nat} {n:Nat} {o:Oper} {st:St} {α:Type} {k kp:V→St→Option α} {out:α}
 {B τ:Nat} {g:Gh} {a:Act} {w:World} {next:Act→World→Prop} {Q:Exit→Act→World→Prop}
theorem cellsS {g:Gh} {τ d:Nat} {xs:List V} {u:Value} (h:RepS g τ d (.agg xs) u):∃ us:List Value,u=.agg us.toArray∧Cells g xs us:=by
 obtain ⟨cs,rfl,h1,h2⟩:=h
 refine ⟨cs.toList,rfl,by simpa using h1,fun j c x hc hx=>?_⟩
 rw [Array.getElem?_toList] at hx
 obtain ⟨hj,rfl⟩:=Array.getElem?_eq_some_iff.1 hx
 exact ⟨_,h2 j c hj hc⟩
theorem guard_agg {P:Program} {op:BinOp} {t:TypeId} {x y:Operand} {us vs:Array Value} (hg:P.eqGuardType P.depth t=false) (w:World):(eqGuard op t x y (.agg us) (.agg vs)).run P w=.ok () w:=by
 unfold eqGuard
 cases op<;>simp [hg]
theorem guard_plain {P:Program} {op:BinOp} {t:TypeId} {x y:Operand} {u v:Value} (h1:u.oneCell'=true) (h2:u≠.nilIface∨v≠.nilIface) (w:World):(eqGuard op t x y u v).run P w=.ok () w:=by
 unfold eqGuard
 cases op<;>cases u<;>cases v<;>first | rfl | (simp at h1;done) | (cases h1;done) | (exfalso;rcases h2 with h2 | h2<;>exact h2 rfl)
theorem equal_nil {P:Program} {t e:TypeId} (he:elemT P t=some e) (w:World) (d:Nat) (ad:Addr) (l c:Nat):(Op.equalIn (d+1) t (.slice none 0 0) (.slice (some ad) l c)).run P w=.ok false w∧(Op.equalIn (d+1) t (.slice (some ad) l c) (.slice none 0 0)).run P w=.ok false w:=by
 have:P.underlying t=some (.slice e):=by
  unfold elemT at he
  split at he
  ·cases he;assumption
  ·cases he
 exact ⟨by simp [Op.equalIn,run_underlying this],by simp [Op.equalIn,run_underlying this]⟩
theorem equal_eq (t:TypeId) (x y:Value):Op.equal t x y=Op.equalIn (9999+1) t x y:=rfl
theorem rep_slice {g:Gh} {τ d:Nat} {v:V} {u:Value} (h:RepS g τ d v u) (hv:v=.nne∨(∃ b n x xs,v=.imm b n (x::xs))∨(∃ b e n x xs,v=.lin b e n (x::xs))∨∃ i j l r,v=.own i j (l+1) r):∃ ad l c,u=.slice (some ad) l c:=by
 rcases hv with rfl | ⟨b,n,x,xs,rfl⟩ | ⟨b,e,n,x,xs,rfl⟩ | ⟨i,j,l,r,rfl⟩<;>simp only [RepS,RepA,RepC] at h
 ·cases h;exact ⟨_,_,_,rfl⟩
 ·cases h;exact ⟨_,_,_,rfl⟩
 ·rcases h with ⟨_,_,_,_,_,_,rfl,_⟩ | ⟨h,_⟩
  ·exact ⟨_,_,_,rfl⟩
  ·cases h
 ·rcases h with ⟨_,_,_,rfl,_⟩ | ⟨h,_⟩
  ·exact ⟨_,_,_,rfl⟩
  ·cases h
theorem rep_nils {g:Gh} {τ d:Nat} {u:Value} (h:RepS g τ d .nils u):u=.slice none 0 0:=by
 simp only [RepS,RepA,RepC] at h;cases h;rfl
theorem sliceT {P:Program} {t:TypeId} {e:TypeId} (h:elemT P t=some e):P.underlying t=some (.slice e):=by
 unfold elemT at h
 split at h
 ·cases h;assumption
 ·cases h
theorem vnil_run {op:BinOp} {t:TypeId} {x y:Operand} {b:Bool} {d:Nat} {P:Program} (h:vnil P op t (st.peek x) y=some b) (hx:RepS g τ d (st.peek x) (a.eval x)):((do eqGuard op t x y (a.eval x) (a.eval y);binOp op t (a.eval x) (a.eval y)):Sem Value).run P w=.ok (.bool b) w:=by
 obtain ⟨D,hD⟩:∃ D,Op.maxDepth=D+1:=⟨9999,rfl⟩
 have eq1:∀ u v,Op.equal t u v=Op.equalIn (D+1) t u v:=fun u v=>by unfold Op.equal;rw [hD]
 unfold vnil at h
 split at h
 ·have e:a.eval (.const .nilIface)=.nilIface:=rfl
  rw [e]
  generalize st.peek x=v at hx h
  generalize a.eval x=u at hx
  cases hu:P.underlying t with
  | none=>rw [hu] at h;cases h
  | some desc =>
   rw [hu] at h
   cases desc<;>try (cases h;done)
   cases v<;>try (cases op<;>cases h;done)
   ·have hx:RepI g.mem (.iface _ _) u:=hx
    cases hx
    cases op<;>cases h
    ·have:∀ t' u',(eqGuard .eql t x (.const .nilIface) (.iface t' u') .nilIface:Sem Unit)=pure ():=fun _ _=>rfl
     simp only [this,binOp,eq1,Op.equalIn,Sem.run_bind,run_underlying hu,Result.andThen_ok,Sem.run_pure]
    ·have:∀ t' u',(eqGuard .neq t x (.const .nilIface) (.iface t' u') .nilIface:Sem Unit)=pure ():=fun _ _=>rfl
     simp only [this,binOp,eq1,Op.equalIn,Sem.run_bind,run_underlying hu,Result.andThen_ok,Sem.run_pure]
     rfl
   ·have hx:RepI g.mem .nili u:=hx
    cases hx
    cases op<;>cases h
    ·have:(eqGuard .eql t x (.const .nilIface) .nilIface .nilIface:Sem Unit)=pure ():=by simp [eqGuard]
     simp only [this,binOp,eq1,Op.equalIn,Sem.run_bind,run_underlying hu,Result.andThen_ok,Sem.run_pure]
    ·have:(eqGuard .neq t x (.const .nilIface) .nilIface .nilIface:Sem Unit)=pure ():=by simp [eqGuard]
     simp only [this,binOp,eq1,Op.equalIn,Sem.run_bind,run_underlying hu,Result.andThen_ok,Sem.run_pure]
     rfl
 ·cases h
theorem op_binOp_ {op:BinOp} {t t':TypeId} {x y:Operand} (ho:o.op=.binOp op t x y t') (h:(match vbin C.P op t (st.peek x) (st.peek y) with | some v=>k v st | none=>none)=some out) (hR:R B τ g st a w) (hk:Goes B τ g a w o.dst k out next):o.wpIn (FW ρ) n C.P a w next Q:=by
 obtain ⟨dx,hx⟩:=peek_rep hR x
 obtain ⟨dy,hy⟩:=peek_rep hR y
 split at h
 ·rename_i v hv
  unfold vbin at hv
  have fin:∀ (u:Value),RepS g τ (o.dst.getD 0) v u→((do eqGuard op t x y (a.eval x) (a.eval y);binOp op t (a.eval x) (a.eval y)):Sem Value).run C.P w=.ok u w→o.wpIn (FW ρ) n C.P a w next Q:=by
   intro u hu hr
   refine wp_value (by simp [ho]) (v:=u) (w':=w) ?_ (hk v st g u w (Later.refl ..) hR hu h)
   simp only [execOp,ho]
   exact run_v hr
  have agg:∀ (xs ys:List V) (r:Bool),st.peek x=.agg xs→st.peek y=.agg ys→¬(C.P.eqGuardType C.P.depth t=true∨isAggT C.P t≠some true)→eqPlain C.P 40 t xs ys=some r →
    ∃ us vs:Array Value,a.eval x=.agg us∧a.eval y=.agg vs∧(eqGuard op t x y (.agg us) (.agg vs)).run C.P w=.ok () w∧(Op.equal t (.agg us) (.agg vs)).run C.P w=.ok r w:=by
   intro xs ys r hxs hys hg hr
   rw [hxs] at hx;rw [hys] at hy
   obtain ⟨us,eu,cu⟩:=cellsS hx
   obtain ⟨vs,ev,cv⟩:=cellsS hy
   obtain ⟨b,hb,_,hrun⟩:=eqPlain_run 40 t xs ys r us vs hr cu cv (9999+1) (by omega) w
   have h1:isAggT C.P t=some true:=by
    cases hh:isAggT C.P t with
    | none=>exact absurd (.inr (by simp [hh])) hg
    | some z=>cases z with
     | true=>rfl
     | false=>exact absurd (.inr (by simp [hh])) hg
   rw [h1] at hb
   cases hb
   exact ⟨_,_,eu,ev,guard_agg (by cases hh:C.P.eqGuardType C.P.depth t with | true=>exact absurd (.inl hh) hg | false=>rfl) w,by rw [equal_eq];exact hrun⟩
  split at hv
  ·rename_i xs ys hxs hys
   split at hv
   ·cases hv
   ·rename_i hg
    obtain ⟨r,hr,rfl⟩:=Option.map_eq_some_iff.1 hv
    obtain ⟨us,vs,eu,ev,g1,g2⟩:=agg xs ys r hxs hys hg hr
    refine fin (.bool r) (RepI.bool r) ?_
    rw [eu,ev]
    simp only [Sem.run_bind,g1,Result.andThen_ok,binOp,g2]
    rfl
  ·rename_i xs ys hxs hys
   split at hv
   ·cases hv
   ·rename_i hg
    obtain ⟨r,hr,rfl⟩:=Option.map_eq_some_iff.1 hv
    obtain ⟨us,vs,eu,ev,g1,g2⟩:=agg xs ys r hxs hys hg hr
    refine fin (.bool !r) (RepI.bool (!r)) ?_
    rw [eu,ev]
    simp only [Sem.run_bind,g1,Result.andThen_ok,binOp,g2]
    rfl
  ·split at hv
   ·rename_i b hb
    split at hv
    ·rename_i hes
     obtain ⟨e,he⟩:=Option.isSome_iff_exists.1 hes
     have hcase:b=false∧((a.eval x=.slice none 0 0∧∃ ad l c,a.eval y=.slice (some ad) l c)∨(a.eval y=.slice none 0 0∧∃ ad l c,a.eval x=.slice (some ad) l c)):=by
      unfold nilEq at hb
      split at hb<;>cases hb<;>refine ⟨rfl,?_⟩<;>rename_i e1 e2<;>rw [e1] at hx<;>rw [e2] at hy
      ·exact .inl ⟨rep_nils hx,rep_slice hy (.inl rfl)⟩
      ·exact .inr ⟨rep_nils hy,rep_slice hx (.inl rfl)⟩
      ·exact .inl ⟨rep_nils hx,rep_slice hy (.inr (.inl ⟨_,_,_,_,rfl⟩))⟩
      ·exact .inl ⟨rep_nils hx,rep_slice hy (.inr (.inr (.inl ⟨_,_,_,_,_,rfl⟩)))⟩
      ·exact .inl ⟨rep_nils hx,rep_slice hy (.inr (.inr (.inr ⟨_,_,_,_,rfl⟩)))⟩
      ·exact .inr ⟨rep_nils hy,rep_slice hx (.inr (.inl ⟨_,_,_,_,rfl⟩))⟩
      ·exact .inr ⟨rep_nils hy,rep_slice hx (.inr (.inr (.inl ⟨_,_,_,_,_,rfl⟩)))⟩
      ·exact .inr ⟨rep_nils hy,rep_slice hx (.inr (.inr (.inr ⟨_,_,_,_,rfl⟩)))⟩
     obtain ⟨rfl,hcase⟩:=hcase
     split at hv
     ·rcases hcase with ⟨e1,ad,l,c,e2⟩ | ⟨e1,ad,l,c,e2⟩<;>rw [e1,e2] at fin<;>cases hv<;>refine fin (.bool false) (RepI.bool false) ?_
      ·simp only [Sem.run_bind,guard_plain (P:=C.P) (t:=t) (x:=x) (y:=y) (u:=.slice none 0 0) (v:=.slice (some ad) l c) rfl (.inl (by intro e;cases e)) w,Result.andThen_ok,binOp,equal_eq,(equal_nil he w 9999 ad l c).1];rfl
      ·simp only [Sem.run_bind,guard_plain (P:=C.P) (t:=t) (x:=x) (y:=y) (u:=.slice (some ad) l c) (v:=.slice none 0 0) rfl (.inl (by intro e;cases e)) w,Result.andThen_ok,binOp,equal_eq,(equal_nil he w 9999 ad l c).2];rfl
     ·rcases hcase with ⟨e1,ad,l,c,e2⟩ | ⟨e1,ad,l,c,e2⟩<;>rw [e1,e2] at fin<;>cases hv<;>refine fin (.bool true) (RepI.bool true) ?_
      ·simp only [Sem.run_bind,guard_plain (P:=C.P) (t:=t) (x:=x) (y:=y) (u:=.slice none 0 0) (v:=.slice (some ad) l c) rfl (.inl (by intro e;cases e)) w,Result.andThen_ok,binOp,equal_eq,(equal_nil he w 9999 ad l c).1];rfl
      ·simp only [Sem.run_bind,guard_plain (P:=C.P) (t:=t) (x:=x) (y:=y) (u:=.slice (some ad) l c) (v:=.slice none 0 0) rfl (.inl (by intro e;cases e)) w,Result.andThen_ok,binOp,equal_eq,(equal_nil he w 9999 ad l c).2];rfl
     ·cases hv
    ·cases hv
   ·split at hv
    ·cases hv
    ·cases hv
    ·rename_i u1 u2 n1 n2 h1 h2
     have e1:=toVal1_eq hx h1
     have e2:=toVal1_eq hy h2
     obtain ⟨r,hr,rfl⟩:=Option.map_eq_some_iff.1 hv
     have one:u1.oneCell'=true:=by
      unfold toVal1 at h1
      split at h1<;>cases h1<;>rfl
     refine fin r ofVal1_repS' ?_
     rw [e1,e2]
     simp only [Sem.run_bind,guard_plain (P:=C.P) (t:=t) (x:=x) (y:=y) one (.inl (fun e=>by subst e;exact n1 rfl)) w,Result.andThen_ok,quiet_run hr w]
    ·cases hv
 ·cases h
theorem op_binOp {op:BinOp} {t t':TypeId} {x y:Operand} (ho:o.op=.binOp op t x y t') (h:vop C vb f o st k kp=some out) (hR:R B τ g st a w) (hk:Goes B τ g a w o.dst k out next):o.wpIn (FW ρ) n C.P a w next Q:=by
 obtain ⟨dx,hx⟩:=peek_rep hR x
 unfold vop at h
 rw [ho] at h
 dsimp only at h
 split at h
 ·rename_i b hb
  refine wp_value (by simp [ho]) (v:=.bool b) (w':=w) ?_ (hk (.bool b) st g _ w (Later.refl ..) hR (RepI.bool b) h)
  simp only [execOp,ho]
  exact run_v (vnil_run hb hx)
 ·exact op_binOp_ ho h hR hk
end
end Go.Fw
namespace Go.Fw
open Go.RowKit
section
variable {C:Cx} {vb:FuncId→List V→List Blk→Option FOut} {f:FuncId} {ρ:Option Nat} {n:Nat} {o:Oper} {st:St} {α:Type} {k kp:V→St→Option α} {out:α}
 {B τ:Nat} {g:Gh} {a:Act} {w:World} {next:Act→World→Prop} {Q:Exit→Act→World→Prop}
theorem rep_imm {g:Gh} {τ d:Nat} {b:Bool} {m:Nat} {xs:List V} {u:Value} (h:RepS g τ d (.imm b m xs) u):RepI g.mem (.imm b m xs) u:=h
theorem op_len {c:Call} (ho:o.op=.call c) (hb:c.callee=.builtin .len) (h:vop C vb f o st k kp=some out) (hR:R B τ g st a w) (hk:Goes B τ g a w o.dst k out next):o.wpIn (FW ρ) n C.P a w next Q:=by
 unfold vop at h
 rw [ho] at h
 dsimp only at h
 rw [hb] at h
 dsimp only at h
 split at h
 ·rename_i x t hx' ht
  obtain ⟨dx,hx⟩:=peek_rep hR x
  have ea:c.args=#[x]:=by rw [←Array.toList_inj];exact hx'
  have et:c.argTypes=#[t]:=by rw [←Array.toList_inj];exact ht
  have fin:∀ m:Nat,k (.int .i64 m) st=some out→(Builtin.len_ #[t] o.type #[a.eval x]).run C.P w=.ok (.int .i64 m) w→o.wpIn (FW ρ) n C.P a w next Q:=by
   intro m h hrun
   refine wp_value (by simp [ho]) (v:=.int .i64 m) (w':=w) ?_ (hk (.int .i64 m) st g _ w (Later.refl ..) hR (RepI.int .i64 m) h)
   simp [execOp,ho,resolve,hb,ea,et,invoke,builtin,hrun]
  split at h
  ·rename_i s hu hs
   rw [hs] at hx
   have ex:=rep_str hx
   exact fin _ h (by rw [ex];simp [Builtin.len_,run_underlying hu,goInt])
  ·cases h
  ·rename_i e hu hns
   split at h
   ·rename_i m hm
    rcases slen_rep hx hm with ⟨ad,cp,eu⟩ | ⟨s,eu,hsz⟩
    ·exact fin _ h (by rw [eu];simp [Builtin.len_,run_underlying hu,goInt])
    ·exfalso
     rw [eu] at hx
     generalize st.peek x=v at hx hm hns
     unfold slen at hm
     split at hm<;>first | cases hm | skip
     all_goals (simp only [RepS,RepA,RepC] at hx)
     ·cases hx
     ·cases hx
     ·cases hx
     ·rcases hx with ⟨_,_,_,_,_,_,e,_⟩ | ⟨_,_,_,e⟩<;>cases e
     ·rcases hx with ⟨_,_,_,e,_⟩ | ⟨_,_,_,e⟩<;>cases e
     ·exact hns _ rfl
   ·cases h
  ·cases h
 ·cases h
theorem idx_some {α:Type} {xs:List α} {i:Int} {x:α} (h:idx xs i=some x):0≤i∧i<xs.length∧xs[i.toNat]?=some x:=by
 unfold idx at h
 split at h
 ·rename_i h0
  have:=(List.getElem?_eq_some_iff.1 h).1
  exact ⟨h0,by omega,h⟩
 ·cases h
theorem op_index {t:TypeId} {x i:Operand} (ho:o.op=.index t x i) (h:vop C vb f o st k kp=some out) (hR:R B τ g st a w) (hk:Goes B τ g a w o.dst k out next):o.wpIn (FW ρ) n C.P a w next Q:=by
 obtain ⟨dx,hx⟩:=peek_rep hR x
 obtain ⟨di,hi⟩:=peek_rep hR i
 unfold vop at h
 rw [ho] at h
 dsimp only at h
 split at h
 case h_2=>cases h
 rename_i ht
 split at h
 ·rename_i s kk j hs hj
  rw [hs] at hx;rw [hj] at hi
  have ex:=rep_str hx
  have ei:=rep_int hi
  obtain ⟨b,hb,h⟩:=bindO_eq h
  obtain ⟨h0,h1,h2⟩:=idx_some hb
  have hsz:s.data.toList.length=s.size:=by rw [Array.length_toList];rfl
  have hlt:j.toNat<s.size:=by omega
  have hget:s[j.toNat]?=some b:=by
   rw [Array.getElem?_toList] at h2
   have:s[j.toNat]?=s.data[j.toNat]?:=by
    rw [getElem?_pos s j.toNat hlt,getElem?_pos s.data j.toNat hlt];rfl
   rw [this];exact h2
  refine wp_value (by simp [ho]) (v:=.int .u8 b.toNat) (w':=w) ?_ (hk (.int .u8 b.toNat) st g _ w (Later.refl ..) hR (RepI.int .u8 b.toNat) h)
  simp [execOp,ho,Instr.index,ex,ei,asIntOf,run_underlying ht,h0,hget]
 ·cases h
theorem op_field {t:TypeId} {x:Operand} {j:Nat} (ho:o.op=.field t x j) (h:vop C vb f o st k kp=some out) (hR:R B τ g st a w) (hk:Goes B τ g a w o.dst k out next):o.wpIn (FW ρ) n C.P a w next Q:=by
 unfold vop at h
 rw [ho] at h
 dsimp only at h
 split at h
 ·rename_i fl hfl
  obtain ⟨fs,hu,hfs⟩:=fieldT_some hfl
  split at h
  ·rename_i gg m hg hm
   split at h
   ·rename_i cs hcs
    split at h
    ·rename_i hle
     split at h
     ·rename_i v hv
      obtain ⟨g',l1,hR',hrep⟩:=use_sound hR x
      have hx:=hrep 0 0
      have hux:st.useV x=.agg (cs.map demote1):=by unfold St.useV;rw [hcs];rfl
      rw [hux] at hx
      obtain ⟨us,eu,cu⟩:=cellsS hx
      have hl:us.length=cs.length:=by have:=cu.1;simpa using this.symm
      have hlen:(((cs.drop fl.offset).take m).map demote1).length=m:=by simp;omega
      have h1:gg=false→fl.offset<us.length∧0<m:=by
       intro hgf
       rcases ofCells_some hv with ⟨e1,_⟩ | ⟨_,e1⟩
       ·rw [hgf] at e1;cases e1
       ·have:m=1:=by rw [←hlen,e1];rfl
        omega
      refine wp_value (by simp [ho]) (v:=valT gg ((us.drop fl.offset).take m)) (w':=w) ?_ (hk v _ g' _ w l1 hR' ?_ h)
      ·simp [execOp,ho,Instr.field,run_underlying hu,hfs,eu,asAgg,run_part hg hm us fl.offset h1 w]
      ·refine rep_ofCells hv (by rw [hlen];simp;omega) (fun jj y u hy hu'=>?_)
       rw [List.getElem?_map,takeDrop_get] at hy
       rw [takeDrop_get] at hu'
       split at hu'
       ·rename_i hjm
        rw [if_pos hjm] at hy
        obtain ⟨c0,hc0,rfl⟩:=Option.map_eq_some_iff.1 hy
        obtain ⟨p,hp⟩:=cu.2 (fl.offset+jj) (demote1 c0) u (by rw [List.getElem?_map,hc0];rfl) hu'
        exact hp.any (by cases c0<;>rfl)
       ·cases hu'
     ·cases h
    ·cases h
   ·cases h
  ·cases h
 ·cases h
end
end Go.Fw
