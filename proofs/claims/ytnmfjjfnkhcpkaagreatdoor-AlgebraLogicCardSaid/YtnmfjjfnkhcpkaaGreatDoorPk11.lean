/- An array of the evaluator's heap, lent to a call that only reads it. -/
import Derived.Test.YtnmfjjfnkhcpkaaGreatDoorPk10
set_option linter.all false
namespace Go.Fw
open Go.RowKit
def plain1:V→Bool
 | .bool _ | .int _ _ | .str _=>true
 | _=>false
def plain2:V→Bool
 | .agg vs=>vs.all plain1
 | v=>plain1 v
def plain3:V→Bool
 | .tup vs=>vs.all plain2
 | v=>plain2 v
theorem RepC.plain {g g':Gh} {p p':Place} {v:V} {u:Value} (hv:plain1 v=true) (h:RepC g p v u):RepC g' p' v u:=by
 cases v<;>first | (simp [plain1] at hv;done) | skip
 all_goals
  have h:RepI g.mem _ u:=h
  cases h
  constructor
theorem plain1_lin {v:V} (hv:plain1 v=true):isLin1 v=false:=by cases v<;>first | rfl | cases hv
theorem RepA.plain {g g':Gh} {pl pl':Nat→Place} {v:V} {u:Value} (hv:plain2 v=true) (h:RepA g pl v u):RepA g' pl' v u:=by
 by_cases ha:∃ vs,v=.agg vs
 ·obtain ⟨vs,rfl⟩:=ha
  simp only [plain2,List.all_eq_true] at hv
  obtain ⟨cs,h1,h2,h3⟩:=h
  exact ⟨cs,h1,h2,fun j c hj hc=>(h3 j c hj hc).plain (hv _ (List.mem_of_getElem? hc))⟩
 ·have hv':plain1 v=true:=by cases v<;>first | exact hv | exact absurd ⟨_,rfl⟩ ha
  rcases repA_inv h with e | h | h
  ·subst e;trivial
  ·exact repA_cell (h.plain hv')
  ·exact absurd h ha
theorem RepS.plain {g g':Gh} {τ i τ' i':Nat} {v:V} {u:Value} (hv:plain3 v=true) (h:RepS g τ i v u):RepS g' τ' i' v u:=by
 by_cases ha:∃ vs,v=.tup vs
 ·obtain ⟨vs,rfl⟩:=ha
  simp only [plain3,List.all_eq_true] at hv
  obtain ⟨cs,h1,h2,h3⟩:=h
  exact ⟨cs,h1,h2,fun k c hk hc=>(h3 k c hk hc).plain (hv _ (List.mem_of_getElem? hc))⟩
 ·have hn:∀ vs,v≠.tup vs:=fun vs e=>ha ⟨vs,e⟩
  have hv':plain2 v=true:=by cases v<;>first | exact hv | exact absurd rfl (hn _)
  rw [repS_notTup hn] at h ⊢
  exact h.plain hv'
theorem plain3_lin {v:V} (hv:plain3 v=true):isLin3 v=false:=by
 have h2:∀ v,plain2 v=true→isLin2 v=false:=by
  intro v hv
  cases v with
  | agg vs =>
   simp only [plain2,List.all_eq_true] at hv
   simp only [isLin2]
   rw [List.any_eq_false]
   exact fun x hx=>by simp [plain1_lin (hv x hx)]
  | _=>first | rfl | (simp [plain2,plain1] at hv)
 cases v with
 | tup vs =>
  simp only [plain3,List.all_eq_true] at hv
  simp only [isLin3]
  rw [List.any_eq_false]
  exact fun x hx=>by simp [h2 x (hv x hx)]
 | agg vs=>exact h2 (.agg vs) hv
 | _=>first | rfl | (simp [plain3,plain2,plain1] at hv)
theorem frz_memOk {B τ:Nat} {g:Gh} {st:St} {a:Act} {w:World} {id:Nat} (hR:R B τ g st a w) {cs:List V} {e:TypeId} (hcs:st.h[id]?=some (.cells cs e)):MemOk (g.frz w id).mem w:=by
 refine ⟨fun b c hb=>?_,fun b c hb=>glob_le (frz_mem hR) (hR.mem.glob b c hb),hR.mem.shape⟩
 have hb:(if g.loc id=some b then (match w.heap[b]? with | some (.cells cur _ _)=>some cur.toList | _=>g.mem b) else g.mem b)=some c:=hb
 split at hb
 ·rename_i hl
  obtain ⟨cur,hc,_⟩:=hR.heap.blk id b cs e hl hcs
  rw [hc] at hb
  cases hb
  exact ⟨cur,e,_,hc,List.prefix_refl _⟩
 ·exact hR.mem.at_ b c hb
theorem SpH.lend {C:Cx} {f:FuncId} {args args':List V} {v:V} {hp:List Blk} {id sz:Nat} {ag:Bool} {cs:List V} {e:TypeId} (h:Sp C f args' v) (hcs:hp[id]?=some (.cells cs e)) (hsz:0<sz) (hag:ag=false→sz=1) (hall:cs.all flat1=true) (ha:frzL (frz3 id sz ag cs) args=some (true,args')) (hf:pureOf C f args=false) (hv:plain3 v=true):SpH C f args hp v hp:=by
 refine ⟨h.fn,h.small,hf,fun n us w B g h1 h2 h3 h4 h5=>?_⟩
 have hR:R B 0 g ⟨[],hp,[]⟩ ({tmps:=#[],defers:=[]}:Act) w:=⟨rfl,fun i v hi _=>absurd hi (by simp),h1,h2,h3,h4,rfl⟩
 obtain ⟨e1,e2⟩:=frzL_ok ha
 have hflat:args'.all flat2=true:=by have:=h.flat;unfold pureOf at this;rw [Bool.and_eq_true] at this;exact this.1
 rw [List.all_eq_true] at hflat
 have hA:ArgsI (g.frz w id).mem args' us:=by
  refine ⟨by rw [e1];exact h5.1,fun j c hj hc=>?_⟩
  obtain ⟨x,hx,hfx⟩:=e2 j c hc
  exact repS_flat2 (hflat c (List.mem_of_getElem? hc)) (frz3_ok hR hcs hsz hag hall hfx ((h5.2 j x hj hx).2 0 0))
 have hrun:=h.run n us w (g.frz w id).mem (frz_memOk hR hcs) hA
 rw [callsIn_wide] at hrun ⊢
 refine hrun.mono (fun en w' he=>?_)
 obtain ⟨g',⟨u,rfl,hr⟩,_,hb,_,_,_,_⟩:=he
 refine ⟨g,⟨u,rfl,hr.plain hv⟩,plain3_lin hv,hb.mono h4,MemLe.refl _,fun _ _=>rfl,fun _ _ h=>h,fun _ _ h _=>h,⟨h1.bound,h1.inj,fun i b hl=>?_,fun i b x hl hx=>?_⟩,⟨fun b c hb'=>?_,h2.glob,fun b n t hb'=>?_⟩,⟨fun b i hb'=>?_⟩⟩
 ·obtain ⟨q1,q2,q3⟩:=h1.fresh i b hl
  exact ⟨q1,Nat.lt_of_lt_of_le q2 hb.size,q3⟩
 ·obtain ⟨o,q1,q2⟩:=h1.blkO i b x hl hx
  exact ⟨o,by rw [hb.block b (h1.fresh i b hl).2.1];exact q1,q2⟩
 ·obtain ⟨cur,e',fr,q1,q2⟩:=h2.at_ b c hb'
  exact ⟨cur,e',fr,by rw [hb.block b (Array.getElem?_eq_some_iff.1 q1).1];exact q1,q2⟩
 ·obtain ⟨cur,fr,q1,q2⟩:=h2.shape b n t hb'
  exact ⟨cur,fr,by rw [hb.block b (Array.getElem?_eq_some_iff.1 q1).1];exact q1,q2⟩
 ·obtain ⟨q1,⟨cur,q2,q3⟩,q4⟩:=h3.at_ b i hb'
  exact ⟨q1,⟨cur,by rw [hb.block b (Array.getElem?_eq_some_iff.1 q2).1];exact q2,q3⟩,q4⟩
end Go.Fw
