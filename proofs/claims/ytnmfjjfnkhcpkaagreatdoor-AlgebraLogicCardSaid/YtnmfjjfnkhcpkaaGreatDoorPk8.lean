/- Contracts of the kit's shelf, as facts of the evaluator. -/
import Derived.Test.YtnmfjjfnkhcpkaaGreatDoorPk7
import Derived.Shelf.Lay
import Derived.Shelf.Unicode.ValidAny
import Derived.Shelf.Bits.Mul64
set_option linter.all false
namespace Go.Fw
open Go.RowKit
theorem MemOk.below {m:Mem} {w w':World} (h:MemOk m w) (hb:Below w.heap.size w w'):MemOk m w':=by
 have at_:∀ (b:Nat) (o:Obj),w.heap[b]?=some o→w'.heap[b]?=some o:=fun b o hc=>by
  rw [hb.block b (Array.getElem?_eq_some_iff.1 hc).1];exact hc
 refine ⟨fun b cs hc=>?_,h.glob,fun b n e hs=>?_⟩
 ·obtain ⟨cur,e,fr,h1,h2⟩:=h.at_ b cs hc
  exact ⟨cur,e,fr,at_ b _ h1,h2⟩
 ·obtain ⟨cur,fr,h1,h2⟩:=h.shape b n e hs
  exact ⟨cur,fr,at_ b _ h1,h2⟩
theorem Sp.ofCalls {C:Cx} {f:FuncId} {args:List V} {v:V} (hfn:∃ fn c,C.P.funcs[f]?=some fn∧fn.body=some c∧(fn.name == "runtime.NumGoroutine")=false) (hs:f<yBase) (hp:pureOf C f args=true) (hv:flat2 v=true)
  (h:∀ (us:Array Value) (w:World) (m:Mem),MemOk m w→ArgsI m args us→Calls C.P f us w fun e w'=>∃ u,e=.returned u∧RepI m v u∧Below w.heap.size w w'):Sp C f args v:=by
 refine ⟨hfn,hs,hp,fun n us w m hm ha=>?_⟩
 rw [callsIn_wide]
 refine (h us w m hm ha).mono (fun e w' he=>?_)
 obtain ⟨u,rfl,hr,hb⟩:=he
 exact ⟨⟨m,fun _=>none,fun _=>none⟩,⟨u,rfl,flat2_repS hv hr⟩,rfl,hb,MemLe.refl _,fun _ _=>rfl,hm.below hb,⟨fun _ _ h=>(by cases h)⟩⟩
theorem flat2_repA {g:Gh} {pl:Nat→Place} {v:V} {u:Value} (hv:flat2 v=true) (h:RepI g.mem v u):RepA g pl v u:=by
 by_cases ha:∃ vs,v=.agg vs
 ·obtain ⟨vs,rfl⟩:=ha
  simp only [flat2,List.all_eq_true] at hv
  cases h with
  | agg _ cs hn hs hv'=>exact ⟨cs,rfl,hn,fun j c hj hc=>flat1_repC (hv _ (List.mem_of_getElem? hc)) (hv' j c hj hc)⟩
 ·have hf:flat1 v=true:=by cases v<;>first | exact hv | exact absurd ⟨_,rfl⟩ ha
  exact repA_cell (flat1_repC hf h)
theorem Sp.ofCallsT {C:Cx} {f:FuncId} {args vs:List V} (hfn:∃ fn c,C.P.funcs[f]?=some fn∧fn.body=some c∧(fn.name == "runtime.NumGoroutine")=false) (hs:f<yBase) (hp:pureOf C f args=true) (hv:vs.all flat2=true)
  (h:∀ (us:Array Value) (w:World) (m:Mem),MemOk m w→ArgsI m args us→Calls C.P f us w fun e w'=>∃ u:Array Value,e=.returned (.tuple u)∧ArgsI m vs u∧Below w.heap.size w w'):Sp C f args (.tup vs):=by
 refine ⟨hfn,hs,hp,fun n us w m hm ha=>?_⟩
 rw [callsIn_wide]
 refine (h us w m hm ha).mono (fun e w' he=>?_)
 obtain ⟨u,rfl,hr,hb⟩:=he
 rw [List.all_eq_true] at hv
 exact ⟨⟨m,fun _=>none,fun _=>none⟩,⟨_,rfl,⟨u,rfl,hr.1,fun k c hk hc=>flat2_repA (hv c (List.mem_of_getElem? hc)) (hr.2 k c hk hc)⟩⟩,rfl,hb,MemLe.refl _,fun _ _=>rfl,hm.below hb,⟨fun _ _ h=>(by cases h)⟩⟩
theorem glob_cell {m:Mem} {w:World} (hm:MemOk m w) {b:Nat} {cs:List Value} (h:theGlob b=some cs) {i:Nat} {u:Value} (hi:cs[i]?=some u):w.cell? ⟨b,i,none⟩=some u:=by
 obtain ⟨cs',h1,t,rfl⟩:=hm.glob b cs h
 obtain ⟨cur,e,fr,h2,t2,h3⟩:=hm.at_ b _ h1
 unfold World.cell?
 rw [h2]
 dsimp only
 have:cur.toList[i]?=some u:=by
  rw [←h3,List.append_assoc,List.getElem?_append_left (List.getElem?_eq_some_iff.1 hi).1];exact hi
 rw [←Array.getElem?_toList]
 simpa using this
theorem glob_num {b i n:Nat} (h:(globNums b).bind (·[i]?)=some n):(theGlob b).bind (·[i]?)=some (.int .u8 (n:Int)):=by
 obtain ⟨l,h1,h2⟩:=Option.bind_eq_some_iff.1 h
 unfold theGlob
 rw [h1]
 simp [h2]
theorem argsI_str {m:Mem} {s:ByteArray} {us:Array Value} (h:ArgsI m [.str s] us):us=#[.string s]:=by
 obtain ⟨h1,h2⟩:=h
 obtain ⟨l⟩:=us
 match l,h1,h2 with
 | [u],_,h2 =>
  have:=h2 0 (.str s) (by simp) rfl
  cases this
  rfl
end Go.Fw
