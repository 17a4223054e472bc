/- Regions whose order is drawn: an operation that panics. -/
import Derived.Test.YtnmfjjfnkhcpkaaGreatDoorPk3
set_option linter.all false
namespace Go.Fw
open Go.RowKit
theorem ord_lt {ops:Array Oper} (hb:backOk ops=true) {i j:Nat} (h:Ord ops j i):j<i:=by
 have back:∀ {i:Nat} {o:Oper} {e:Edge},ops[i]?=some o→e∈o.after→Region.binds .any e=true→e.on<i:=by
  intro i o e ho he hbd
  unfold backOk at hb
  rw [List.all_eq_true] at hb
  have:=hb i (List.mem_range.2 (Array.getElem?_eq_some_iff.1 ho).1)
  rw [ho] at this
  dsimp only at this
  rw [List.all_eq_true] at this
  have:=this e (by simpa using he)
  unfold Region.binds at hbd
  cases hgr:e.ground with
  | gcOnly r=>rw [hgr] at hbd;simp at hbd
  | _=>rw [hgr] at this;simpa using this
 induction h with
 | edge ho he hb=>exact back ho he hb
 | step ho he hb h ih=>exact Nat.lt_trans ih (back ho he hb)
section
variable {C:Cx} {f:FuncId} {ops:Array Oper} {un:List Nat} {h0:Nat} {A:Nat→Kd}
theorem pan_same {vbp:FuncId→List V→List Blk→Option FOut} {o:Oper} (hc:isCallV o=true) {st st2:St} (hp:∀ x∈o.op.operands.toList,st2.peek x=st.peek x) (hh:st2.h=st.h) (hd:st2.df=st.df) {v:V} {s:St}
  (hv:vop C vbp f o st (fun _ _=>none) (fun v s=>some (v,s))=some (v,s)):∃ s2,vop C vbp f o st2 (fun _ _=>none) (fun v s=>some (v,s))=some (v,s2)∧s2.h=s.h∧s2.df=s.df:=by
 unfold isCallV at hc
 split at hc
 ·rename_i c ho
  split at hc
  ·rename_i g0 hb
   have e1:c.args.toList.map st2.useV=c.args.toList.map st.useV:=map_useV (fun z hz=>useV_same (hp _ (call_args ho hz)))
   have e2:st2.peek g0=st.peek g0:=hp _ (call_fn ho hb)
   have u1:(st2.useAll c.args.toList).h=(st.useAll c.args.toList).h:=by rw [useAll_h,useAll_h,hh]
   have u2:(st2.useAll c.args.toList).df=(st.useAll c.args.toList).df:=by
    have:∀ (xs:List Operand) (st:St),(st.useAll xs).df=st.df:=by
     intro xs
     induction xs with
     | nil=>intro st;rfl
     | cons x xs ih =>
      intro st
      show ((st.useS x).useAll xs).df=_
      rw [ih]
      cases x with
      | tmp t =>
       show (condB _ _ _:St).df=_
       cases hl:isLin3 (getS st.fr t) with
       | true=>rw [condB_true]
       | false=>rw [condB_false]
      | _=>rfl
    rw [this,this,hd]
   unfold vop at hv ⊢
   rw [ho] at hv ⊢
   dsimp only at hv ⊢
   rw [hb] at hv ⊢
   dsimp only at hv ⊢
   rw [e2]
   split at hv
   ·rename_i gf first caps hg
    rw [e1]
    split at hv
    ·cases hv
    rename_i hy
    rw [if_neg hy]
    split at hv
    ·rename_i hfl
     rw [if_pos hfl]
     obtain ⟨out,h1,h2⟩:=bindO_eq hv
     rw [h1,bindO_some]
     cases out with
     | ret v h =>
      dsimp only at h2
      split at h2
      ·split at h2
       ·split at h2
        ·rename_i v1 h1 _
         rcases condB_cases h2 with ⟨_,h⟩ | ⟨_,h⟩<;>cases h
        ·cases h2
       ·cases h2
      ·cases h2
     | pan v h =>
      dsimp only at h2 ⊢
      cases h2
      exact ⟨_,rfl,u1,u2⟩
    ·rename_i hfl
     rw [if_neg hfl]
     obtain ⟨out,h1,h2⟩:=bindO_eq hv
     rw [u1,h1,bindO_some]
     cases out with
     | ret v h =>
      dsimp only at h2
      rcases condB_cases h2 with ⟨_,h⟩ | ⟨_,h⟩<;>cases h
     | pan v h =>
      dsimp only at h2 ⊢
      rw [u2]
      rcases condB_cases h2 with ⟨hk,h⟩ | ⟨_,h⟩
      ·rw [hk,condB_true]
       cases h
       exact ⟨_,rfl,rfl,rfl⟩
      ·cases h
   ·obtain ⟨out,h1,h2⟩:=bindO_eq hv
    cases out with
    | ret v h =>
     dsimp only at h2
     rcases condB_cases h2 with ⟨_,h⟩ | ⟨_,h⟩<;>cases h
    | pan v h=>cases h2
   ·cases hv
  ·cases hc
 ·rename_i x ho
  have e:=hp x (by rw [ho];simp [Op.operands])
  unfold vop at hv ⊢
  rw [ho] at hv ⊢
  dsimp only at hv ⊢
  rw [e]
  split at hv
  ·rename_i t v1 hx
   cases hv
   exact ⟨_,rfl,hh,hd⟩
  ·cases hv
 ·cases hc
theorem run_quiet {vb:Nat→FuncId→List V→List Blk→Option FOut} {o:Oper}:∀ {l:List Nat} {st st':St},Run C vb f ops un h0 A l st st'→(∀ j∈l,involved un j=true∧isRd (A j)=true∧(∃ p,ops[p]?=some o∧unAt un j p=true)∧∃ oj,ops[j]?=some oj∧oj.apart ops o=true) →
  st'.h=st.h∧st'.df=st.df∧∀ t∈o.looksAt ops,getS st'.fr t=getS st.fr t
 | [],st,st',h,_=>by cases h;exact ⟨rfl,rfl,fun _ _=>rfl⟩
 | j::l,st,st',⟨s,h1,h2⟩,hq=>by
  obtain ⟨q1,q2,⟨p,hp,hu⟩,oj,q3,q4⟩:=hq j (by simp)
  have hn:A j≠.any:=fun e=>by rw [e] at q2;cases q2
  obtain ⟨oj',U,D,ho,_,hc,rfl,_,_⟩:=step_nf q1 hn h1
  rw [q3] at ho
  cases ho
  obtain ⟨r1,r2,r3⟩:=run_quiet h2 (fun j hj=>hq j (by simp [hj]))
  obtain ⟨a1,a2,a3⟩:=Oper.apart_spec q4
  refine ⟨?_,r2,fun t ht=>?_⟩
  ·rw [r1]
   show effH (A j) D st.h=st.h
   cases hA:A j with
   | none=>rfl
   | rd=>rfl
   | _=>rw [hA] at q2;cases q2
  ·rw [r3 t ht]
   show getS (setAll U st.fr) t=getS st.fr t
   rw [getS_setAll (fun p' hp' e=>?_)]
   rcases hc p' hp' with h | ⟨_,h⟩
   ·exact a1 _ h (by rw [e];exact ht)
   ·exact freeTmp_spec hp (.inl hu) h (by rw [e];exact ht)
theorem wipe_R {B τ:Nat} {g:Gh} {st:St} {a:Act} {w:World} (h:R B τ g st a w):R B τ g (wipe st) a w:=by
 refine ⟨by simpa [wipe] using h.size,fun i v hi hv=>?_,h.heap,h.mem,h.lin,h.base,h.defers⟩
 simp only [wipe,List.getElem?_map] at hv
 obtain ⟨_,_,rfl⟩:=Option.map_eq_some_iff.1 hv
 trivial
theorem wipe_congr {B τ:Nat} {g:Gh} {st st2:St} {a:Act} {w:World} (h:R B τ g st a w) (hl:st2.fr.length=st.fr.length) (hh:st2.h=st.h) (hd:st2.df=st.df):R B τ g (wipe st2) a w:=by
 have h':=wipe_R h
 have e:wipe st2=wipe st:=by
  unfold wipe
  rw [hh,hd]
  congr 1
  rw [List.map_const',List.map_const',hl]
 rw [e];exact h'
theorem put_size (a:Act) (d:Option Tmp) (u:Value):(a.put d u).tmps.size=a.tmps.size:=by
 cases d<;>simp [Act.put]
theorem run_sound2 {vb:Nat→FuncId→List V→List Blk→Option FOut} (hvb:∀ i,VbSound C (vb i)) {ρ:Option Nat} {n B τ:Nat} {g:Gh} {w:World} {Q:Exit→Act→World→Prop} {stf:St} {rest:List Nat} {m:Nat}
  (hn:∀ g' a' w',Later B τ g g' w w'→R B τ g' stf a' w'→a'.tmps.size=m→wpOpsIn (FW ρ) n C.P ops Q rest a' w') :
  ∀ (l:List Nat) (st:St) (g1:Gh) (a1:Act) (w1:World),Run C vb f ops un h0 A l st stf→Later B τ g g1 w w1→R B τ g1 st a1 w1→a1.tmps.size=m→wpOpsIn (FW ρ) n C.P ops Q (l++rest) a1 w1
 | [],st,g1,a1,w1,h,hl,hR,hm=>by cases h;exact hn g1 a1 w1 hl hR hm
 | i::l,st,g1,a1,w1,h,hl,hR,hm=>by
  obtain ⟨s,⟨o,ho,_,h⟩,hrun⟩:=h
  rw [List.cons_append]
  unfold wpOpsIn
  rw [ho]
  dsimp only
  rcases h with ⟨hg,_,rfl⟩ | ⟨hg,v,s',hv,_,rfl⟩
  ·unfold guardV at hg
   cases hgd:o.guard with
   | none=>rw [hgd] at hg;cases hg
   | some p =>
    obtain ⟨j,want⟩:=p
    rw [hgd] at hg
    have hws:=wanted_sound hR hgd hg
    rw [if_neg (by rw [hws];simp)]
    exact ⟨fun _ _=>trivial,run_sound2 hvb hn l _ g1 _ w1 hrun hl (skip_sound hR _) (by rw [put_size];exact hm)⟩
  ·have hw:Region.wanted o (yielded ops a1.tmps)=true:=by
    unfold guardV at hg
    cases hgd:o.guard with
    | none=>exact wanted_none hgd
    | some p =>
     obtain ⟨j,want⟩:=p
     rw [hgd] at hg
     exact wanted_sound hR hgd hg
   rw [if_pos hw]
   refine vop_sound (hvb i) hv hR (fun v' st' g' u w' hl' hR' hvv hkk=>?_) (fun v' st' g' u w' d _ _ _ _ hkk=>by cases hkk)
   cases hkk
   exact run_sound2 hvb hn l _ g' _ w' hrun (hl.trans hl') (put_sound hR' hvv) (by rw [put_size];exact hm)
theorem pan_sound {id:Nat} (hk:okUn ops un=true) {vb:Nat→FuncId→List V→List Blk→Option FOut} (hvb:∀ i,VbSound C (vb i)) {st stp s:St} {p:Nat} {o:Oper} {v:V} (hp:ops[p]?=some o)
  (hrun:Run C vb f ops un st.h.length A (List.range p) st stp) (h3:∀ i∈List.range p,involved un i=true→A i≠.any)
  (h5:(List.range p).Pairwise (fun j i=>unAt un j i=true→involved un j=true→involved un i=true→compatK st.h.length (A j) (A i)=true))
  (hq:∀ j,j<p→unAt un j p=true→isRd (A j)=true) (hafter:∀ j,j<ops.size→unAt un p j=false) (hg:guardV ops.toList o stp=some true) (hc:isCallV o=true)
  (hv:vop C (vb p) f o stp (fun _ _=>none) (fun v s=>some (v,s))=some (v,s)) (hfr:s.fr.length=st.fr.length)
  {ρ:Option Nat} {n B τ:Nat} {g:Gh} {a:Act} {w:World} {Q:Exit→Act→World→Prop} (hR:R B τ g st a w)
  (hQ:∀ g' a' w' u d,Later B τ g g' w w'→R B τ g' (wipe s) a' w'→isLin3 v=false→RepS g' τ d v u→Q (.panic [{v:=u,recovered:=false}]) a' w'):(Code.region id ops true).wpIn (FW ρ) n C.P Q a w:=by
 have hps:p<ops.size:=(Array.getElem?_eq_some_iff.1 hp).1
 have hk':=hk
 unfold okUn at hk'
 rw [Bool.and_eq_true] at hk'
 obtain ⟨hk1,htopo⟩:=hk'
 have hback:backOk ops=true:=by unfold topoOk at htopo;rw [Bool.and_eq_true] at htopo;exact htopo.1
 rw [List.all_eq_true] at hk1
 have pair:∀ x y,x<ops.size→y<x→Ord ops y x∨(unAt un y x=true∧∃ oy ox,ops[y]?=some oy∧ops[x]?=some ox∧oy.apart ops ox=true):=by
  intro x y hx hlt
  have:=hk1 x (List.mem_range.2 hx)
  rw [List.all_eq_true] at this
  have:=this y (List.mem_range.2 hlt)
  rw [Bool.or_eq_true,Bool.and_eq_true] at this
  rcases this with h | ⟨hu,hap⟩
  ·left
   rw [List.getD_eq_getElem?_getD] at h
   cases hmm:(masks ops.toList [])[x]? with
   | none=>rw [hmm] at h;simp at h
   | some m =>
    rw [hmm] at h
    exact masks_spec ops.toList [] [] (by simp) rfl (fun i m hi=>by simp at hi) x m hmm y h
  ·right
   refine ⟨hu,?_⟩
   split at hap
   ·rename_i oy ox hoy hox
    exact ⟨oy,ox,hoy,hox,hap⟩
   ·cases hap
 refine wpIn_region_draw (fun t=>?_)
 obtain ⟨md,hn,hm,hpr⟩:=schedule_ok htopo (C.P.follows .mixedOrders) t
 generalize Region.schedule (C.P.follows .mixedOrders) ops t=σ at hn hm hpr
 have hσ:=pre_pairwise hpr hn
 obtain ⟨pre,post,rfl⟩:=List.append_of_mem ((hm p).2 hps)
 obtain ⟨n1,n2,n3⟩:=List.nodup_append.1 hn
 have hpn:p∉pre:=fun h=>n3 p h p (by simp) rfl
 have hpre:∀ j∈pre,j<p:=by
  intro j hj
  have hjs:j<ops.size:=(hm j).1 (by simp [hj])
  have hne:j≠p:=fun e=>hpn (e ▸ hj)
  by_cases hlt:j<p
  ·exact hlt
  exfalso
  rcases pair j p hjs (by omega) with h | ⟨h,_⟩
  ·obtain ⟨p1,p2,rfl⟩:=List.append_of_mem hj
   have:=ord_pre hpr h p1 (p2++p::post) (by simp)
   exact hpn (by simp [this])
  ·rw [hafter j hjs] at h;cases h
 let M:=(List.range p).filter fun j=>decide (j∉pre)
 have hM:∀ j,j∈M↔j<p∧j∉pre:=fun j=>by simp [M]
 have hMu:∀ j∈M,unAt un j p=true∧∃ oj,ops[j]?=some oj∧oj.apart ops o=true:=by
  intro j hj
  obtain ⟨hj1,hj2⟩:=(hM j).1 hj
  rcases pair p j hps hj1 with h | ⟨h,oj,ox,q1,q2,q3⟩
  ·exact absurd (ord_pre hpr h pre post rfl) hj2
  ·rw [hp] at q2;cases q2
   exact ⟨h,oj,q1,q3⟩
 have inv:∀ j,unAt un j p=true→involved un j=true:=by
  intro j hu
  unfold involved
  unfold unAt at hu
  rw [Bool.or_eq_true]
  right
  rw [List.getD_eq_getElem?_getD] at hu
  cases hmm:un[p]? with
  | none=>rw [hmm] at hu;simp at hu
  | some m =>
   rw [hmm] at hu
   exact List.any_eq_true.2 ⟨m,List.mem_of_getElem? hmm,hu⟩
 have hMn:M.Nodup:=List.nodup_range.filter _
 have hMp:M.Pairwise (·<·):=List.pairwise_lt_range.filter _
 have hperm:=run_perm (C:=C) (vb:=vb) (f:=f) (ops:=ops) (un:=un) (h0:=st.h.length) (A:=A) (Ord:=Ord ops) (pre++M) (List.range p) (List.nodup_append.2 ⟨n1,hMn,fun x hx y hy e=>((hM y).1 hy).2 (e ▸ hx)⟩) List.nodup_range (fun i=>by
   rw [List.mem_append,List.mem_range]
   constructor
   ·rintro (h | h)
    ·exact hpre i h
    ·exact ((hM i).1 h).1
   ·intro h
    by_cases hi:i∈pre
    ·exact .inl hi
    ·exact .inr ((hM i).2 ⟨h,hi⟩)) List.pairwise_lt_range (by
   refine List.pairwise_append.2 ⟨(List.pairwise_append.1 hσ).1,hMp.imp (fun hab ho=>?_),fun x hx y hy ho=>?_⟩
   ·have:=ord_lt hback ho
    omega
   ·obtain ⟨p1,p2,rfl⟩:=List.append_of_mem hx
    have:=ord_pre hpr ho p1 (p2++p::post) (by simp)
    exact ((hM y).1 hy).2 (by simp [this])) (free_of (C:=C) (f:=f) hk (by omega) h5) hrun
 obtain ⟨sta,r1,r2⟩:=run_append.1 hperm
 obtain ⟨e1,e2,e3⟩:=run_quiet (o:=o) r2 (fun j hj=>⟨inv j (hMu j hj).1,hq j ((hM j).1 hj).1 (hMu j hj).1,⟨p,hp,(hMu j hj).1⟩,(hMu j hj).2⟩)
 have hpk:∀ x∈o.op.operands.toList,sta.peek x=stp.peek x:=by
  intro x hx
  cases x with
  | tmp t=>exact (e3 t (looks_op hx)).symm
  | _=>rfl
 obtain ⟨s2,hv2,hh2,hd2⟩:=pan_same hc hpk e1.symm e2.symm hv
 have hg2:guardV ops.toList o sta=some true:=by
  have:guardV ops.toList o stp=guardV ops.toList o sta:=by
   unfold guardV
   cases hgd:o.guard with
   | none=>rfl
   | some pq =>
    obtain ⟨j,want⟩:=pq
    dsimp only
    unfold wantedV
    rw [Array.getElem?_toList]
    cases hd:(ops[j]?).bind (·.dst) with
    | none=>rfl
    | some d =>
     dsimp only
     have:getS stp.fr d=getS sta.fr d:=e3 d (by
      unfold Oper.looksAt
      refine List.mem_append_right _ ?_
      rw [hgd]
      dsimp only
      rw [hd]
      simp)
     rw [this]
  rw [←this];exact hg
 refine run_sound2 hvb (g:=g) (w:=w) (rest:=p::post) (m:=a.tmps.size) (fun g' a' w' hl hR' hsz=>?_) _ st g a _ r1 (drew_R hR).1 (drew_R hR).2 rfl
 unfold wpOpsIn
 rw [hp]
 dsimp only
 have hw:Region.wanted o (yielded ops a'.tmps)=true:=by
  unfold guardV at hg2
  cases hgd:o.guard with
  | none=>exact wanted_none hgd
  | some pq =>
   obtain ⟨j,want⟩:=pq
   rw [hgd] at hg2
   exact wanted_sound hR' hgd hg2
 rw [if_pos hw]
 refine vop_sound (hvb p) hv2 hR' (fun v' st' g' u w' hl' hR' hvv hkk=>by cases hkk) (fun v' st' g2 u w2 d l2 R2 hnl hvv hkk=>?_)
 cases hkk
 refine hQ g2 a' w2 u d (hl.trans l2) (wipe_congr R2 ?_ hh2.symm hd2.symm) hnl hvv
 rw [hfr,hR.size,R2.size,hsz]
end
end Go.Fw
namespace Go.Fw
open Go.RowKit
structure Sp (C:Cx) (f:FuncId) (args:List V) (v:V):Prop where
 fn:∃ fn c,C.P.funcs[f]?=some fn∧fn.body=some c∧(fn.name == "runtime.NumGoroutine")=false
 small:f<yBase
 flat:pureOf C f args=true
 run:∀ (n:Nat) (us:Array Value) (w:World) (m:Mem),MemOk m w→ArgsI m args us→CallsIn Fence.wide n C.P f us w (PureOut m w (.ret v []))
structure SpH (C:Cx) (f:FuncId) (args:List V) (h:List Blk) (v:V) (h':List Blk):Prop where
 fn:∃ fn c,C.P.funcs[f]?=some fn∧fn.body=some c∧(fn.name == "runtime.NumGoroutine")=false
 small:f<yBase
 flat:pureOf C f args=false
 run:∀ (n:Nat) (us:Array Value) (w:World) (B:Nat) (g:Gh),HeapOk g h B w→MemOk g.mem w→LinOk g B w→B≤w.heap.size→ArgsS g args us→CallsIn Fence.wide n C.P f us w (HeapOut B g w (.ret v h'))
structure LaterN (N B τ:Nat) (g g':Gh) (w w':World):Prop where
 below:Below B w w'
 mem:MemLe g.mem g'.mem
 old:∀ b,b<B→g'.mem b=g.mem b
 loc:∀ id b,id<N→g.loc id=some b→g'.loc id=some b
 lin:∀ b i,g.lin b=some i→(∃ τ' x j k,i.place=.slot τ' x j k∧τ'≠τ)→g'.lin b=some i
theorem LaterN.of {N B τ:Nat} {g g':Gh} {w w':World} (h:Later B τ g g' w w'):LaterN N B τ g g' w w':=⟨h.below,h.mem,h.old,fun id b _=>h.loc id b,h.lin⟩
theorem LaterN.refl (N B τ:Nat) (g:Gh) (w:World):LaterN N B τ g g w w:=.of (Later.refl ..)
theorem LaterN.trans {N B τ:Nat} {g g' g'':Gh} {w w' w'':World} (h:LaterN N B τ g g' w w') (k:LaterN N B τ g' g'' w' w''):LaterN N B τ g g'' w w'' :=
 ⟨h.below.trans k.below,h.mem.trans k.mem,fun b hb=>(k.old b hb).trans (h.old b hb),fun id b hn hl=>k.loc id b hn (h.loc id b hn hl),fun b i hi hp=>k.lin b i (h.lin b i hi hp) hp⟩
def Runs (C:Cx) (N:Nat) (rd:Bool) (c:Code) (st:St) (e1:Ex) (st1:St):Prop :=
 ∀ (ρ:Option Nat) (n B τ:Nat) (g:Gh) (a:Act) (w:World) (Q:Exit→Act→World→Prop),(rd=false→ρ=none)→R B τ g st a w →
  (∀ g' e' a' w',LaterN N B τ g g' w w'→R B τ g' st1 a' w'→ExIs g' τ e1 e'→Q e' a' w')→c.wpIn (FW ρ) n C.P Q a w
theorem Sp.ofVb {C:Cx} {vb:FuncId→List V→List Blk→Option FOut} (hv:VbSound C vb) {f:FuncId} {args:List V} {v:V} {h':List Blk} (h:vb f args []=some (.ret v h')) (hs:f<yBase) (hf:pureOf C f args=true):Sp C f args v :=
 ⟨hv.fn _ _ _ _ h hs,hs,hf,fun n us w m hm ha=>by
  have:=hv.pure_ f args _ h hs hf n us w m hm ha
  rw [callsIn_wide] at this ⊢
  exact this.mono (fun e w' he=>he)⟩
theorem SpH.ofVb {C:Cx} {vb:FuncId→List V→List Blk→Option FOut} (hv:VbSound C vb) {f:FuncId} {args:List V} {h:List Blk} {v:V} {h':List Blk} (hh:vb f args h=some (.ret v h')) (hs:f<yBase) (hf:pureOf C f args=false):SpH C f args h v h' :=
 ⟨hv.fn _ _ _ _ hh hs,hs,hf,fun n us w B g h1 h2 h3 h4 h5=>hv.heap f args h _ hh hs hf n us w B g h1 h2 h3 h4 h5⟩
theorem Sp.vbx {C:Cx} {f:FuncId} {args:List V} {v:V} (h:Sp C f args v) {vb:FuncId→List V→List Blk→Option FOut} {xs:List V}:vbx C.P vb f xs=vb f xs []:=by
 obtain ⟨fn,c,h1,h2,_⟩:=h.fn
 exact vbx_body h1 h2
noncomputable def vb1 (f:FuncId) (args:List V) (h:List Blk) (out:FOut):FuncId→List V→List Blk→Option FOut :=
 fun f' args' h'=>open Classical in if f'=f∧args'=args∧h'=h then some out else none
theorem vb1_self {f:FuncId} {args:List V} {h:List Blk} {out:FOut}:vb1 f args h out f args h=some out:=by
 unfold vb1;exact if_pos ⟨rfl,rfl,rfl⟩
theorem vb1_inv {f:FuncId} {args:List V} {h:List Blk} {out:FOut} {f':FuncId} {args':List V} {h':List Blk} {out':FOut} (e:vb1 f args h out f' args' h'=some out'):f'=f∧args'=args∧h'=h∧out'=out:=by
 unfold vb1 at e
 split at e
 ·rename_i hh;cases e;exact ⟨hh.1,hh.2.1,hh.2.2,rfl⟩
 ·cases e
theorem not_round {f id:Nat} (h:f<yBase) (e:yBase+id=f):False:=by omega
theorem vb1_sp {C:Cx} {f:FuncId} {args:List V} {v:V} (h:Sp C f args v):VbSound C (vb1 f args [] (.ret v [])):=by
 refine ⟨fun f' args' h' out e _=>?_,fun f' args' out e _ hf n us w m hm ha=>?_,fun f' args' h' out e _ hf=>?_,fun id args' h' out e=>?_⟩
 ·obtain ⟨rfl,_⟩:=vb1_inv e;exact h.fn
 ·obtain ⟨rfl,rfl,_,rfl⟩:=vb1_inv e;exact h.run n us w m hm ha
 ·obtain ⟨rfl,rfl,_,rfl⟩:=vb1_inv e;rw [h.flat] at hf;cases hf
 ·exact (not_round h.small (vb1_inv e).1).elim
theorem vb1_spH {C:Cx} {f:FuncId} {args:List V} {h0:List Blk} {v:V} {h1:List Blk} (h:SpH C f args h0 v h1):VbSound C (vb1 f args h0 (.ret v h1)):=by
 refine ⟨fun f' args' h' out e _=>?_,fun f' args' out e _ hf=>?_,fun f' args' h' out e _ hf n us w B g q1 q2 q3 q4 q5=>?_,fun id args' h' out e=>?_⟩
 ·obtain ⟨rfl,_⟩:=vb1_inv e;exact h.fn
 ·obtain ⟨rfl,rfl,_,rfl⟩:=vb1_inv e;rw [h.flat] at hf;cases hf
 ·obtain ⟨rfl,rfl,rfl,rfl⟩:=vb1_inv e;exact h.run n us w B g q1 q2 q3 q4 q5
 ·exact (not_round h.small (vb1_inv e).1).elim
theorem vb0_sound {C:Cx}:VbSound C (fun _ _ _=>none):=⟨fun _ _ _ _ h=>(by cases h),fun _ _ _ h=>(by cases h),fun _ _ _ _ h=>(by cases h),fun _ _ _ _ h=>(by cases h)⟩
def FactO (C:Cx) (f:FuncId) (args:List V) (h:List Blk) (out:FOut):Prop:=VbSound C (vb1 f args h out)
theorem Sp.fact {C:Cx} {f:FuncId} {args:List V} {v:V} (h:Sp C f args v):FactO C f args [] (.ret v []):=vb1_sp h
theorem SpH.fact {C:Cx} {f:FuncId} {args:List V} {h0:List Blk} {v:V} {h1:List Blk} (h:SpH C f args h0 v h1):FactO C f args h0 (.ret v h1):=vb1_spH h
theorem FactO.sp {C:Cx} {f:FuncId} {args:List V} {v:V} {h1:List Blk} (h:FactO C f args [] (.ret v h1)) (hs:f<yBase) (hp:pureOf C f args=true):Sp C f args v:=Sp.ofVb h (h':=h1) vb1_self hs hp
theorem FactO.spH {C:Cx} {f:FuncId} {args:List V} {h0:List Blk} {v:V} {h1:List Blk} (h:FactO C f args h0 (.ret v h1)) (hs:f<yBase) (hp:pureOf C f args=false):SpH C f args h0 v h1:=SpH.ofVb h vb1_self hs hp
theorem FactO.ofVb {C:Cx} {vb:FuncId→List V→List Blk→Option FOut} (hv:VbSound C vb) {f:FuncId} {args:List V} {h:List Blk} {out:FOut} (e:vb f args h=some out):FactO C f args h out:=by
 refine ⟨fun f' args' h' out' e'=>?_,fun f' args' out' e'=>?_,fun f' args' h' out' e'=>?_,fun id args' h' out' e'=>?_⟩
 ·obtain ⟨rfl,rfl,rfl,rfl⟩:=vb1_inv e';exact hv.fn _ _ _ _ e
 ·obtain ⟨rfl,rfl,rfl,rfl⟩:=vb1_inv e';exact hv.pure_ _ _ _ e
 ·obtain ⟨rfl,rfl,rfl,rfl⟩:=vb1_inv e';exact hv.heap _ _ _ _ e
 ·obtain ⟨rfl,rfl,rfl,rfl⟩:=vb1_inv e';exact hv.round _ _ _ _ e
theorem FactO.vbx {C:Cx} {f:FuncId} {args:List V} {hh:List Blk} {out:FOut} (h:FactO C f args hh out) (hs:f<yBase) {vb:FuncId→List V→List Blk→Option FOut} {xs:List V}:vbx C.P vb f xs=vb f xs []:=by
 obtain ⟨fn,c,h1,h2,_⟩:=h.fn _ _ _ _ vb1_self hs
 exact vbx_body h1 h2
/-! ### runs -/
section
variable {C:Cx} {N:Nat} {rd:Bool}
theorem Runs.skip {st:St}:Runs C N rd .skip st .normal st:=fun ρ n B τ g a w Q hρ hR hQ=>wpIn_skip (hQ g .normal a w (LaterN.refl ..) hR trivial)
theorem Runs.label {st:St} {l:Nat}:Runs C N rd (.label l) st .normal st:=fun ρ n B τ g a w Q hρ hR hQ=>wpIn_label (hQ g .normal a w (LaterN.refl ..) hR trivial)
theorem Runs.exit {st:St} {l:Nat}:Runs C N rd (.exit l) st (.exit l) st:=fun ρ n B τ g a w Q hρ hR hQ=>wpIn_exit (hQ g (.exit l) a w (LaterN.refl ..) hR rfl)
theorem Runs.ret {st:St}:Runs C N rd .ret st .ret st:=fun ρ n B τ g a w Q hρ hR hQ=>wpIn_ret (hQ g .ret a w (LaterN.refl ..) hR trivial)
theorem Runs.seq {x y:Code} {st st1 st2:St} {e:Ex} (h1:Runs C N rd x st .normal st1) (h2:Runs C N rd y st1 e st2):Runs C N rd (.seq x y) st e st2:=fun ρ n B τ g a w Q hρ hR hQ=>by
 refine wpIn_seq (h1 ρ n B τ g a w _ hρ hR (fun g' e' a' w' hl hR' he=>?_))
 cases e'<;>first | exact he.elim | skip
 exact h2 ρ n B τ g' a' w' Q hρ hR' (fun g2 e2 a2 w2 hl2 hR2 he2=>hQ g2 e2 a2 w2 (hl.trans hl2) hR2 he2)
theorem Runs.seq_left {x y:Code} {st st1:St} {e:Ex} (h1:Runs C N rd x st e st1) (hn:e≠.normal):Runs C N rd (.seq x y) st e st1:=fun ρ n B τ g a w Q hρ hR hQ=>by
 refine wpIn_seq (h1 ρ n B τ g a w _ hρ hR (fun g' e' a' w' hl hR' he=>?_))
 cases e<;>cases e'<;>first | exact he.elim | exact absurd rfl hn | exact hQ g' _ a' w' hl hR' he
theorem Runs.cond {x:Operand} {y z:Code} {st st1:St} {e:Ex} {b:Bool} (hx:st.peek x=.bool b) (h:Runs C N rd (match b with | true=>y | false=>z) st e st1):Runs C N rd (.cond x y z) st e st1:=fun ρ n B τ g a w Q hρ hR hQ=>by
 obtain ⟨dx,hr⟩:=peek_rep hR x
 rw [hx] at hr
 have hr:=rep_bool hr
 cases b with
 | true=>exact wpIn_cond_true (by rw [hr]) (h ρ n B τ g a w Q hρ hR hQ)
 | false=>exact wpIn_cond_false (by rw [hr]) (h ρ n B τ g a w Q hρ hR hQ)
def inBlk (id:Nat):Ex→Ex
 | .exit i=>if i=id then .normal else .exit i
 | e=>e
theorem Runs.block {id:Nat} {b:Code} {st st1:St} {e:Ex} (h:Runs C N rd b st e st1):Runs C N rd (.block id b) st (inBlk id e) st1:=fun ρ n B τ g a w Q hρ hR hQ=>by
 refine wpIn_block (h ρ n B τ g a w _ hρ hR (fun g' e' a' w' hl hR' he=>?_))
 cases e<;>cases e'<;>first | exact he.elim | skip
 ·exact hQ g' _ a' w' hl hR' he
 ·rename_i i j
  have he:i=j:=he
  subst he
  unfold Exit.inBlock
  dsimp only
  unfold inBlk at hQ
  dsimp only at hQ
  split
  ·rename_i hi
   rw [if_pos hi] at hQ
   exact hQ g' .normal a' w' hl hR' trivial
  ·rename_i hi
   rw [if_neg hi] at hQ
   exact hQ g' (.exit i) a' w' hl hR' rfl
 ·exact hQ g' _ a' w' hl hR' he
 ·exact hQ g' _ a' w' hl hR' he
inductive LoopTo (C:Cx) (N:Nat) (rd:Bool) (b:Code) (e:Ex) (st2:St):St→Prop
 | done {st:St} (h:Runs C N rd b st e st2) (hn:e≠.normal):LoopTo C N rd b e st2 st
 | step {st st1:St} (h:Runs C N rd b st .normal st1) (k:LoopTo C N rd b e st2 st1):LoopTo C N rd b e st2 st
inductive LoopN (C:Cx) (N:Nat) (rd:Bool) (b:Code) (e:Ex) (st2:St):Nat→St→Prop
 | done {st:St} {n:Nat} (h:Runs C N rd b st e st2) (hn:e≠.normal):LoopN C N rd b e st2 (n+1) st
 | step {st st1:St} {n:Nat} (h:Runs C N rd b st .normal st1) (k:LoopN C N rd b e st2 n st1):LoopN C N rd b e st2 (n+1) st
theorem LoopTo.n {b:Code} {e:Ex} {st2 st:St} (h:LoopTo C N rd b e st2 st):∃ n,LoopN C N rd b e st2 n st:=by
 induction h with
 | done h hn=>exact ⟨1,.done h hn⟩
 | step h k ih=>obtain ⟨n,hn⟩:=ih;exact ⟨n+1,.step h hn⟩
theorem Runs.loop {b:Code} {e:Ex} {st st2:St} (h:LoopTo C N rd b e st2 st):Runs C N rd (.loop b) st e st2:=fun ρ n B τ g a w Q hρ hR hQ=>by
 obtain ⟨j,hj⟩:=h.n
 refine loop_rounds (Rn:=fun j a' w'=>∃ st g1,LaterN N B τ g g1 w w'∧R B τ g1 st a' w'∧LoopN C N rd b e st2 j st) (fun a w h=>?_) (fun j a1 w1 h1=>?_) (j:=j) ⟨st,g,LaterN.refl ..,hR,hj⟩
 ·obtain ⟨_,_,_,_,h⟩:=h;cases h
 ·obtain ⟨st1,g1,l1,R1,h1⟩:=h1
  cases h1 with
  | done h hn =>
   refine h ρ n B τ g1 a1 w1 _ hρ R1 (fun g' e' a' w' hl hR' he=>?_)
   cases e<;>cases e'<;>first | exact he.elim | exact absurd rfl hn | exact hQ g' _ a' w' (l1.trans hl) hR' he
  | step h k =>
   refine h ρ n B τ g1 a1 w1 _ hρ R1 (fun g' e' a' w' hl hR' he=>?_)
   cases e'<;>first | exact he.elim | skip
   exact ⟨_,g',l1.trans hl,hR',k⟩
theorem Runs.ofV (hCP:C.P=theP) {vb:FuncId→List V→List Blk→Option FOut} (hv:VbSound C vb) {f:FuncId} {n:Nat} {c:Code} {st st1:St} {e:Ex} (hDS:∀ id ops,RegOf C.P f id ops→DrawSound C f id ops) (hd:∀ p∈drawRegs c,RegOf C.P f p.1 p.2) (h:∀ K,vexec C vb f rd n c st K=K e st1):Runs C N rd c st e st1:=fun ρ k B τ g a w Q hρ hR hQ=>by
 classical
 let K:Ex→St→Option FOut:=fun e' st'=>if e'=e∧st'=st1 then some (.ret .undef []) else none
 refine vexec_sound hCP (rd:=rd) hρ hDS hv n c st K (.ret .undef []) hd (by rw [h K];exact if_pos ⟨rfl,rfl⟩) g a w Q hR (fun e2 st' g' e' a' w' hl hR' he hk=>?_)
 simp only [K] at hk
 split at hk
 ·rename_i hc
  obtain ⟨rfl,rfl⟩:=hc
  exact hQ g' e' a' w' (.of hl) hR' he
 ·cases hk
theorem Runs.region {id:Nat} {ops:Array Oper} {st st1:St} {e1:Ex} (h:∀ (ρ:Option Nat) (n B τ:Nat) (g:Gh) (a:Act) (w:World) (Q:Exit→Act→World→Prop),(rd=false→ρ=none)→R B τ g st a w→(∀ g' e' a' w',LaterN N B τ g g' w w'→R B τ g' st1 a' w'→ExIs g' τ e1 e'→Q e' a' w')→wpOpsIn (FW ρ) n C.P ops Q (List.range ops.size) a w):Runs C N rd (.region id ops false) st e1 st1:=fun ρ n B τ g a w Q hρ hR hQ =>
 wpIn_region (h ρ n B τ g a w Q hρ hR hQ)
theorem Runs.weak {c:Code} {st st1:St} {e:Ex} (h:Runs C N true c st e st1):Runs C N rd c st e st1:=fun ρ n B τ g a w Q _ hR hQ=>h ρ n B τ g a w Q (fun h=>by cases h) hR hQ
theorem LoopTo.weak {b:Code} {e:Ex} {st2 st:St} (h:LoopTo C N true b e st2 st):LoopTo C N rd b e st2 st:=by
 induction h with
 | done h hn=>exact .done h.weak hn
 | step h _ ih=>exact .step h.weak ih
theorem FactO.ofRuns {vd:FuncId→List V→Md→List Blk→Option (Md×List Blk)} (hvd:VdSound C vd) {f:FuncId} {fn:Func} {c:Code} {args:List V} {e:Ex} {st1:St} {out:FOut} (hf:C.P.funcs[f]?=some fn) (hb:fn.body=some c) (hn:(fn.name == "runtime.NumGoroutine")=false) (hs:f<yBase) (hflat:pureOf C f args=true)
  (h:Runs C 0 false c ⟨args++List.replicate (fn.ntmps-args.length) .undef,[],[]⟩ e st1) (hfin:vfinal C vd fn true e st1=some out):FactO C f args [] out:=by
 refine ⟨fun f' args' h' out' e _=>?_,fun f' args' out' e0 _ hf' k us w m hm ha=>?_,fun f' args' h' out' e _ hf'=>?_,fun id args' h' out' e=>?_⟩
 ·obtain ⟨rfl,_⟩:=vb1_inv e;exact ⟨fn,c,hf,hb,hn⟩
 ·obtain ⟨rfl,rfl,_,rfl⟩:=vb1_inv e0
  have hflat:args'.all flat2=true:=by unfold pureOf at hflat;simp only [Bool.and_eq_true] at hflat;exact hflat.1
  let g:Gh:=⟨m,fun _=>none,fun _=>none⟩
  have hR:R w.heap.size 0 g ⟨args'++List.replicate (fn.ntmps-args'.length) .undef,[],[]⟩ {tmps:=us++Array.replicate (fn.ntmps-us.size) undef,defers:=[]} w:=by
   refine args_R ha.1 (fun j c hj hc=>?_) ⟨fun _ _ h=>(by cases h),fun _ _ _ _ _ h=>(by cases h),fun _ _ h=>(by cases h),fun _ _ _ h=>(by cases h)⟩ hm ⟨fun _ _ h=>(by cases h)⟩ (Nat.le_refl _)
   rw [List.all_eq_true] at hflat
   exact flat2_repS (hflat c (List.mem_of_getElem? hc)) (ha.2 j c hj hc)
  refine CallsIn.ofBody hf hb (h none k _ 0 g _ w _ (fun _=>rfl) hR (fun g' e' a' w' l1 R1 hx=>?_))
  refine vfinal_sound hvd R1 hx hfin (fun g2 w2 u m' h2 l2 R2 hu hfin=>?_)
  have hfin:=final_pure (F:=FW none) (n:=k) R2 hu hfin
  have conv:∀ en w3,EndOf g2 w.heap.size w2 out' en w3→PureOut m w out' en w3:=by
   rintro en w3 ⟨rfl,g3,k1,k2,k3,k4,k5,k6⟩
   have l12:=l1.trans (.of l2)
   exact ⟨g3,k1,k2,l12.below,l12.mem.trans k3,fun b hb=>(k4 b hb).trans (l12.old b hb),k5,k6⟩
  cases m' with
  | run=>exact hfin.elim
  | returning=>obtain ⟨v,q1,q2⟩:=hfin;exact ⟨v,q1,conv _ _ q2⟩
  | panicking ch=>exact conv _ _ hfin
 ·obtain ⟨rfl,rfl,_,rfl⟩:=vb1_inv e;rw [hflat] at hf';cases hf'
 ·exact (not_round hs (vb1_inv e).1).elim
theorem FactO.ofRunsH {vd:FuncId→List V→Md→List Blk→Option (Md×List Blk)} (hvd:VdSound C vd) {f:FuncId} {fn:Func} {c:Code} {args:List V} {h0:List Blk} {e:Ex} {st1:St} {out:FOut} (hf:C.P.funcs[f]?=some fn) (hb:fn.body=some c) (hn:(fn.name == "runtime.NumGoroutine")=false) (hs:f<yBase) (hflat:pureOf C f args=false)
  (h:Runs C h0.length false c ⟨args++List.replicate (fn.ntmps-args.length) .undef,h0,[]⟩ e st1) (hfin:vfinal C vd fn false e st1=some out):FactO C f args h0 out:=by
 refine ⟨fun f' args' h' out' e _=>?_,fun f' args' out' e0 _ hf'=>?_,fun f' args' h' out' e0 _ hf' k us w B g hh hm hl hB ha=>?_,fun id args' h' out' e=>?_⟩
 ·obtain ⟨rfl,_⟩:=vb1_inv e;exact ⟨fn,c,hf,hb,hn⟩
 ·obtain ⟨rfl,rfl,_,rfl⟩:=vb1_inv e0;rw [hflat] at hf';cases hf'
 ·obtain ⟨rfl,rfl,rfl,rfl⟩:=vb1_inv e0
  obtain ⟨τ,hτ⟩:=free_tau hl
  have hR:R B τ g ⟨args'++List.replicate (fn.ntmps-args'.length) .undef,h',[]⟩ {tmps:=us++Array.replicate (fn.ntmps-us.size) undef,defers:=[]} w :=
   args_R ha.1 (fun j c hj hc=>(ha.2 j c hj hc).2 τ j) hh hm hl hB
  refine CallsIn.ofBody hf hb (h none k B τ g _ w _ (fun _=>rfl) hR (fun g' e' a' w' l1 R1 hx=>?_))
  refine vfinal_sound hvd R1 hx hfin (fun g2 w2 u m' h2 l2 R2 hu hfin=>?_)
  have hfin:=final_heap (F:=FW none) (n:=k) R2 hu hfin
  have conv:∀ en w3,(w3=w2∧OutIs g2 out' en∧out'.plain∧out'.heap=h2)→HeapOut B g w out' en w3:=by
   rintro en w3 ⟨rfl,k1,k2,k3⟩
   have l12:=l1.trans (.of l2)
   refine ⟨g2,k1,k2,l12.below,l12.mem,l12.old,fun id b hl=>l12.loc id b (hh.bound id b hl) hl,fun b i hi ⟨τ',x,j,k,hp⟩=>l12.lin b i hi ⟨τ',x,j,k,hp,hτ b i hi τ' x j k hp⟩,?_,R2.mem,R2.lin⟩
   rw [k3];exact R2.heap
  cases m' with
  | run=>exact hfin.elim
  | returning=>obtain ⟨v,q1,q2⟩:=hfin;exact ⟨v,q1,conv _ _ q2⟩
  | panicking ch=>exact conv _ _ hfin
 ·exact (not_round hs (vb1_inv e).1).elim
end
/-! ### weaker states -/
def VLe (v v':V):Prop:=∀ (g:Gh) (τ i:Nat) (u:Value),RepS g τ i v u→RepS g τ i v' u
def FrLe (vs vs':List V):Prop:=vs.length=vs'.length∧∀ (i:Nat) (v v':V),vs[i]?=some v→vs'[i]?=some v'→VLe v v'
theorem VLe.rfl {v:V}:VLe v v:=fun _ _ _ _ h=>h
theorem VLe.undef {v:V}:VLe v .undef:=fun _ _ _ _ _=>trivial
theorem VLe.trans {a b c:V} (h:VLe a b) (k:VLe b c):VLe a c:=fun g τ i u x=>k g τ i u (h g τ i u x)
theorem repS_nil_lin {g:Gh} {τ i:Nat} {pr:Bool} {e:TypeId} {n:Nat} (hn:0<n) (ad:Option Addr):RepS g τ i (.lin pr e n []) (.slice ad 0 0):=.inr ⟨rfl,hn,ad,rfl⟩
theorem VLe.nil_lin {e:TypeId} {n:Nat} (hn:0<n):VLe .nils (.lin true e n []):=fun g τ i u h=>by
 rw [rep_nils h];exact repS_nil_lin hn none
theorem VLe.imm_lin {e:TypeId} {n m:Nat} (hn:0<n):VLe (.imm true m []) (.lin true e n []):=fun g τ i u h=>by
 have h:RepI g.mem (.imm true m []) u:=h
 cases h with
 | none0=>exact repS_nil_lin hn none
 | imm _ _ b off cap _ _ _ hf=>have:=hf _root_.rfl;simp at this;subst this;exact repS_nil_lin hn _
theorem VLe.nil_imm {b:Bool} {n:Nat} (hn:0<n):VLe .nils (.imm b n []):=fun g τ i u h=>by
 rw [rep_nils h];exact RepI.none0 b n hn
theorem VLe.full_imm {n:Nat} {xs:List V} {b:Bool}:VLe (.imm b n xs) (.imm false n xs):=fun g τ i u h=>by
 have h:RepI g.mem (.imm b n xs) u:=h
 show RepI g.mem (.imm false n xs) u
 cases h with
 | none0 _ _ hz=>exact .none0 false n hz
 | imm _ _ b off cap _ val hc hf hm hz hl hs hv sp hp=>exact .imm false xs b off cap n val hc (fun h=>by cases h) hm hz hl hs hv sp hp
def CLe (v v':V):Prop:=∀ (g:Gh) (p:Place) (u:Value),RepC g p v u→RepC g p v' u
def ALe (v v':V):Prop:=∀ (g:Gh) (pl:Nat→Place) (u:Value),RepA g pl v u→RepA g pl v' u
inductive Fm1 where
 | keep | lin (e:TypeId) (n:Nat) | imm (n:Nat)
def Fm1.ap:Fm1→V→V
 | .keep,v=>v
 | .lin e (n+1),.nils=>.lin true e (n+1) []
 | .lin e (n+1),.imm true _ []=>.lin true e (n+1) []
 | .lin _ _,v=>v
 | .imm (n+1),.nils=>.imm false (n+1) []
 | .imm _,.imm _ n xs=>.imm false n xs
 | .imm _,v=>v
theorem Fm1.leC:∀ (f:Fm1) (v:V),CLe v (f.ap v):=by
 intro f v
 have nil:∀ {g:Gh} {u:Value},RepI g.mem .nils u→u=.slice none 0 0:=fun h=>by cases h;rfl
 unfold Fm1.ap
 split
 ·exact fun _ _ _ h=>h
 ·exact fun g p u h=>by rw [nil h];exact .inr ⟨rfl,Nat.succ_pos _,none,rfl⟩
 ·intro g p u h
  have h:RepI g.mem (.imm true _ []) u:=h
  cases h with
  | none0=>exact .inr ⟨rfl,Nat.succ_pos _,none,rfl⟩
  | imm _ _ b off cap _ _ _ hf=>have:=hf rfl;simp at this;subst this;exact .inr ⟨rfl,Nat.succ_pos _,_,rfl⟩
 ·exact fun _ _ _ h=>h
 ·exact fun g p u h=>by rw [nil h];exact RepI.none0 false _ (Nat.succ_pos _)
 ·intro g p u h
  have h:RepI g.mem (.imm _ _ _) u:=h
  show RepI g.mem (.imm false _ _) u
  cases h with
  | none0 _ _ hz=>exact .none0 false _ hz
  | imm _ _ b off cap _ val hc hf hm hz hl hs hv sp hp=>exact .imm false _ b off cap _ val hc (fun h=>by cases h) hm hz hl hs hv sp hp
 ·exact fun _ _ _ h=>h
theorem Fm1.agg_undef (f:Fm1) (v:V):(f.ap v=v)∨(v=.nils∨∃ b n xs,v=.imm b n xs)∧((∃ e n,f.ap v=.lin true e n [])∨∃ n xs,f.ap v=.imm false n xs):=by
 unfold Fm1.ap
 split
 ·exact .inl rfl
 ·exact .inr ⟨.inl rfl,.inl ⟨_,_,rfl⟩⟩
 ·exact .inr ⟨.inr ⟨_,_,_,rfl⟩,.inl ⟨_,_,rfl⟩⟩
 ·exact .inl rfl
 ·exact .inr ⟨.inl rfl,.inr ⟨_,_,rfl⟩⟩
 ·exact .inr ⟨.inr ⟨_,_,_,rfl⟩,.inr ⟨_,_,rfl⟩⟩
 ·exact .inl rfl
theorem Fm1.leA (f:Fm1) (v:V):ALe v (f.ap v):=by
 intro g pl u h
 have hc:=f.leC v g (pl 0) u
 rcases f.agg_undef v with e | ⟨e1,e2⟩
 ·rw [e];exact h
 ·have h':RepC g (pl 0) v u:=by rcases e1 with rfl | ⟨b,n,xs,rfl⟩<;>exact h
  have:=hc h'
  rcases e2 with ⟨e,n,e2⟩ | ⟨n,xs,e2⟩<;>rw [e2] at this ⊢<;>exact this
inductive Fm where
 | of (f:Fm1) | agg (fs:List Fm1)
def apL:List Fm1→List V→List V
 | f::fs,v::vs=>f.ap v::apL fs vs
 | _,vs=>vs
def Fm.ap:Fm→V→V
 | .of f,v=>f.ap v
 | .agg fs,.agg vs=>.agg (apL fs vs)
 | .agg _,v=>v
theorem apL_len:∀ (fs:List Fm1) (vs:List V),(apL fs vs).length=vs.length
 | [],vs=>by unfold apL;rfl
 | f::fs,[]=>rfl
 | f::fs,v::vs=>by simp [apL,apL_len fs vs]
theorem apL_le:∀ (fs:List Fm1) (vs:List V) (i:Nat) (v':V),(apL fs vs)[i]?=some v'→∃ v,vs[i]?=some v∧CLe v v'
 | [],vs,i,v',h=>by
  have h:vs[i]?=some v':=by unfold apL at h;exact h
  exact ⟨v',h,fun _ _ _ h=>h⟩
 | f::fs,[],i,v',h=>by simp [apL] at h
 | f::fs,v::vs,0,v',h=>by
  simp only [apL,List.getElem?_cons_zero,Option.some.injEq] at h
  subst h
  exact ⟨v,rfl,f.leC v⟩
 | f::fs,v::vs,i+1,v',h=>by
  simp only [apL,List.getElem?_cons_succ] at h
  obtain ⟨x,h1,h2⟩:=apL_le fs vs i v' h
  exact ⟨x,by simpa using h1,h2⟩
theorem Fm.leA (f:Fm) (v:V):ALe v (f.ap v):=by
 cases f with
 | of f=>exact f.leA v
 | agg fs =>
  cases v with
  | agg vs =>
   rintro g pl u ⟨cs,rfl,h1,h2⟩
   refine ⟨cs,rfl,by rw [apL_len];exact h1,fun j c hj hc=>?_⟩
   obtain ⟨x,hx,hle⟩:=apL_le fs vs j c hc
   exact hle _ _ _ (h2 j x hj hx)
  | _=>exact fun _ _ _ h=>h
theorem Fm.notTup (f:Fm) {v:V} (h:∀ vs,v≠.tup vs):∀ vs,f.ap v≠.tup vs:=by
 cases f with
 | of f =>
  rcases f.agg_undef v with e | ⟨_,⟨e,n,e2⟩ | ⟨n,xs,e2⟩⟩
  ·intro vs;show f.ap v≠_;rw [e];exact h vs
  ·intro vs;show f.ap v≠_;rw [e2];simp
  ·intro vs;show f.ap v≠_;rw [e2];simp
 | agg fs=>cases v<;>first | exact h | (intro vs e;simp [Fm.ap] at e)
theorem Fm.le (f:Fm) (v:V):VLe v (f.ap v):=by
 by_cases h:∃ vs,v=.tup vs
 ·obtain ⟨vs,rfl⟩:=h
  have:f.ap (.tup vs)=.tup vs:=by
   cases f with
   | of f =>
    show f.ap _=_
    unfold Fm1.ap
    split<;>first | rfl | (rename_i h;cases h)
   | agg fs=>rfl
  rw [this];exact VLe.rfl
 ·have h:∀ vs,v≠.tup vs:=fun vs e=>h ⟨vs,e⟩
  intro g τ i u hr
  rw [repS_notTup h] at hr
  rw [repS_notTup (f.notTup h)]
  exact f.leA v _ _ _ hr
/-! ### results -/
def outFs:List Fm→List V→List V
 | f::fs,v::vs=>f.ap v::outFs fs vs
 | _,vs=>vs
def demF (dm:List Nat):Nat→List V→List V
 | _,[]=>[]
 | k,v::vs=>(match dm.contains k with | true=>map2 demote1 v | false=>v)::demF dm (k+1) vs
def outR (dm:List Nat) (fs:List Fm) (v:V):V:=match v with
 | .tup vs=>.tup (outFs fs (demF dm 0 vs))
 | v=>match fs with
  | f::_=>f.ap (match dm with | []=>v | _=>map2 demote1 v)
  | []=>(match dm with | []=>v | _=>map2 demote1 v)
def relaxFr (keep:List (Nat×Fm)):Nat→List V→List V
 | _,[]=>[]
 | i,v::vs=>(match keep.lookup i with | some f=>f.ap v | none=>.undef)::relaxFr keep (i+1) vs
def relax (keep:List (Nat×Fm)) (st:St):St:={st with fr:=relaxFr keep 0 st.fr}
theorem relaxFr_le (keep:List (Nat×Fm)):∀ (vs:List V) (i:Nat),FrLe vs (relaxFr keep i vs)
 | [],_=>⟨_root_.rfl,fun j v v' h=>by simp at h⟩
 | v::vs,i=>by
  obtain ⟨h1,h2⟩:=relaxFr_le keep vs (i+1)
  refine ⟨by simp [relaxFr,h1],fun j x x' hx hx'=>?_⟩
  cases j with
  | zero =>
   simp only [relaxFr,List.getElem?_cons_zero,Option.some.injEq] at hx hx'
   subst hx;subst hx'
   split
   ·exact Fm.le _ _
   ·exact VLe.undef
  | succ j=>exact h2 j x x' (by simpa using hx) (by simpa [relaxFr] using hx')
theorem R.weak {B τ:Nat} {g:Gh} {st:St} {a:Act} {w:World} (h:R B τ g st a w) {fr:List V} (hl:FrLe st.fr fr):R B τ g {st with fr:=fr} a w:=by
 refine ⟨hl.1 ▸ h.size,fun i v hi hv=>?_,h.heap,h.mem,h.lin,h.base,h.defers⟩
 have hi':i<st.fr.length:=by rw [h.size];exact hi
 exact hl.2 i _ v (List.getElem?_eq_getElem hi') hv g τ i _ (h.slots i _ hi (List.getElem?_eq_getElem hi'))
theorem Runs.pre {C:Cx} {N:Nat} {rd:Bool} {c:Code} {st st1:St} {e:Ex} (keep:List (Nat×Fm)) (h:Runs C N rd c (relax keep st) e st1):Runs C N rd c st e st1 :=
 fun ρ n B τ g a w Q hρ hR hQ=>h ρ n B τ g a w Q hρ (hR.weak (relaxFr_le keep st.fr 0)) hQ
theorem Runs.post {C:Cx} {N:Nat} {rd:Bool} {c:Code} {st st1:St} {e:Ex} (keep:List (Nat×Fm)) (h:Runs C N rd c st e st1):Runs C N rd c st e (relax keep st1) :=
 fun ρ n B τ g a w Q hρ hR hQ=>h ρ n B τ g a w Q hρ hR (fun g' e' a' w' hl hR' he=>hQ g' e' a' w' hl (hR'.weak (relaxFr_le keep st1.fr 0)) he)
theorem PureOut.share {m:Mem} {w:World} {v v':V} {e:Ending} {w':World} (q:Place→Bool) (hv:∀ (g:Gh) (B:Nat) (u:Value),LinOk g B w'→RepS g 0 0 v u→RepS (g.share q) 0 0 v' u) (h:PureOut m w (.ret v []) e w'):PureOut m w (.ret v' []) e w':=by
 obtain ⟨g,⟨u,rfl,hr⟩,h1,h2,h3,h4,h5,h6⟩:=h
 refine ⟨g.share q,⟨u,rfl,hv g _ u h6 hr⟩,h1,h2,h3.trans (share_memLe h6),fun b hb=>?_,share_mem h6 h5,share_lin h6⟩
 rw [←h4 b hb]
 unfold Gh.share;dsimp only
 cases hl:g.lin b with
 | none=>rfl
 | some i=>have:=(h6.at_ b i hl).1;omega
theorem Sp.mono {C:Cx} {f:FuncId} {args:List V} {v v':V} (h:Sp C f args v) (hv:∀ m w e w',PureOut m w (.ret v []) e w'→PureOut m w (.ret v' []) e w'):Sp C f args v' :=
 ⟨h.fn,h.small,h.flat,fun n us w m hm ha=>by
  have:=h.run n us w m hm ha
  rw [callsIn_wide] at this ⊢
  exact this.mono (fun e w' he=>hv m w e w' he)⟩
theorem Sp.le {C:Cx} {f:FuncId} {args:List V} {v v':V} (h:Sp C f args v) (hv:VLe v v'):Sp C f args v' :=
 h.mono (fun m w e w' he=>by
  obtain ⟨g,⟨u,rfl,hr⟩,h1⟩:=he
  exact ⟨g,⟨u,rfl,hv g 0 0 u hr⟩,h1⟩)
theorem outFs_len:∀ (fs:List Fm) (vs:List V),(outFs fs vs).length=vs.length
 | [],vs=>by unfold outFs;rfl
 | f::fs,[]=>rfl
 | f::fs,v::vs=>by simp [outFs,outFs_len fs vs]
theorem outFs_le:∀ (fs:List Fm) (vs:List V) (i:Nat) (v':V),(outFs fs vs)[i]?=some v'→∃ v,vs[i]?=some v∧ALe v v'
 | [],vs,i,v',h=>by
  have h:vs[i]?=some v':=by unfold outFs at h;exact h
  exact ⟨v',h,fun _ _ _ h=>h⟩
 | f::fs,[],i,v',h=>by simp [outFs] at h
 | f::fs,v::vs,0,v',h=>by
  simp only [outFs,List.getElem?_cons_zero,Option.some.injEq] at h
  subst h
  exact ⟨v,rfl,f.leA v⟩
 | f::fs,v::vs,i+1,v',h=>by
  simp only [outFs,List.getElem?_cons_succ] at h
  obtain ⟨x,h1,h2⟩:=outFs_le fs vs i v' h
  exact ⟨x,by simpa using h1,h2⟩
theorem VLe.tupF (fs:List Fm) (vs:List V):VLe (.tup vs) (.tup (outFs fs vs)):=by
 rintro g τ i u ⟨cs,e,h1,h2⟩
 refine ⟨cs,e,by rw [outFs_len];exact h1,fun j c hj hc=>?_⟩
 obtain ⟨x,hx,hle⟩:=outFs_le fs vs j c hc
 exact hle _ _ _ (h2 j x hj hx)
theorem demF_len (dm:List Nat):∀ (vs:List V) (k:Nat),(demF dm k vs).length=vs.length
 | [],_=>rfl
 | v::vs,k=>by simp [demF,demF_len dm vs (k+1)]
theorem demF_at (dm:List Nat):∀ (vs:List V) (k i:Nat) (c:V),(demF dm k vs)[i]?=some c→∃ v,vs[i]?=some v∧c=(match dm.contains (k+i) with | true=>map2 demote1 v | false=>v)
 | [],_,_,_,h=>by simp [demF] at h
 | v::vs,k,0,c,h=>by
  simp only [demF,List.getElem?_cons_zero,Option.some.injEq] at h
  exact ⟨v,rfl,by rw [Nat.add_zero];exact h.symm⟩
 | v::vs,k,i+1,c,h=>by
  simp only [demF,List.getElem?_cons_succ] at h
  obtain ⟨x,h1,h2⟩:=demF_at dm vs (k+1) i c h
  exact ⟨x,by simpa using h1,by rw [show k+(i+1)=k+1+i by omega];exact h2⟩
theorem Sp.demTup {C:Cx} {f:FuncId} {args:List V} {vs:List V} (dm:List Nat) (h:Sp C f args (.tup vs)):Sp C f args (.tup (demF dm 0 vs)):=by
 refine h.mono (fun m w e w'=>PureOut.share (fun p=>match p with | .slot _ _ _ (k+1)=>dm.contains k | _=>false) (fun g B u hL hr=>?_))
 obtain ⟨cs,rfl,h1,h2⟩:=hr
 refine ⟨cs,rfl,by rw [demF_len];exact h1,fun j c hj hc=>?_⟩
 obtain ⟨x,hx,rfl⟩:=demF_at dm vs 0 j c hc
 have hr:=h2 j x hj hx
 rw [Nat.zero_add]
 cases hd:dm.contains j with
 | true=>exact (hr.shared hL (fun i=>hd)).2 _
 | false=>exact hr.mono (share_memLe hL) (fun _ _ h=>h) (fun i b x hx hp=>lin_share_of hx (by rw [hp];exact hd))
theorem Sp.demOne {C:Cx} {f:FuncId} {args:List V} {v:V} (hv:∀ vs,v≠.tup vs) (h:Sp C f args v):Sp C f args (map2 demote1 v):=by
 have hd:∀ vs,map2 demote1 v≠.tup vs:=(map3_notTup (f:=demote1) (fun v h=>by cases v<;>first | rfl | cases h) hv).2
 refine h.mono (fun m w e w'=>PureOut.share (fun p=>match p with | .slot ..=>true | _=>false) (fun g B u hL hr=>?_))
 rw [repS_notTup hv] at hr
 rw [repS_notTup hd]
 exact (hr.shared hL (fun i=>rfl)).2 _
theorem Sp.outR {C:Cx} {f:FuncId} {args:List V} {v:V} (dm:List Nat) (fs:List Fm) (h:Sp C f args v):Sp C f args (Fw.outR dm fs v):=by
 by_cases ht:∃ vs,v=.tup vs
 ·obtain ⟨vs,rfl⟩:=ht
  exact (h.demTup dm).le (VLe.tupF fs _)
 ·have ht:∀ vs,v≠.tup vs:=fun vs e=>ht ⟨vs,e⟩
  cases dm with
  | nil =>
   cases fs with
   | nil =>
    have e:Fw.outR [] [] v=v:=by cases v<;>first | rfl | exact absurd _root_.rfl (ht _)
    rw [e];exact h
   | cons f fs =>
    have e:Fw.outR [] (f::fs) v=f.ap v:=by cases v<;>first | rfl | exact absurd _root_.rfl (ht _)
    rw [e];exact h.le (f.le _)
  | cons x y =>
   cases fs with
   | nil =>
    have e:Fw.outR (x::y) [] v=map2 demote1 v:=by cases v<;>first | rfl | exact absurd _root_.rfl (ht _)
    rw [e];exact h.demOne ht
   | cons f fs =>
    have e:Fw.outR (x::y) (f::fs) v=f.ap (map2 demote1 v):=by cases v<;>first | rfl | exact absurd _root_.rfl (ht _)
    rw [e];exact (h.demOne ht).le (f.le _)
end Go.Fw
namespace Go.Fw
open Go.RowKit
def StTo (N:Nat) (st st':St):Prop:=∀ (B τ:Nat) (g:Gh) (a:Act) (w:World),R B τ g st a w→∃ g',LaterN N B τ g g' w w∧R B τ g' st' a w
theorem StTo.refl {N:Nat} (st:St):StTo N st st:=fun _ _ g _ _ h=>⟨g,LaterN.refl ..,h⟩
theorem StTo.trans {N:Nat} {a b c:St} (h:StTo N a b) (k:StTo N b c):StTo N a c:=fun B τ g x w hr=>by
 obtain ⟨g1,l1,r1⟩:=h B τ g x w hr
 obtain ⟨g2,l2,r2⟩:=k B τ g1 x w r1
 exact ⟨g2,l1.trans l2,r2⟩
/-! ### boxes that nobody holds any more -/
def refB0 (M:Nat):V→Bool
 | .ptr id _=>decide (id<M)
 | .obj _ id=>decide (id<M)
 | _=>true
def refB1 (M:Nat):V→Bool
 | .ptr id _=>decide (id<M)
 | .obj _ id=>decide (id<M)
 | .own id _ _ _=>decide (id<M)
 | .fn _ first caps=>first.all (refB0 M)&&caps.all (refB0 M)
 | _=>true
def refB2 (M:Nat):V→Bool
 | .agg vs=>vs.all (refB1 M)
 | v=>refB1 M v
def refB3 (M:Nat):V→Bool
 | .tup vs=>vs.all (refB2 M)
 | v=>refB2 M v
def Gh.cut (g:Gh) (M:Nat):Gh:={g with loc:=fun id=>if id<M then g.loc id else none}
theorem cut_loc {g:Gh} {M id b:Nat} (hi:id<M) (h:g.loc id=some b):(g.cut M).loc id=some b:=by
 show (if id<M then g.loc id else none)=some b
 rw [if_pos hi];exact h
theorem RepP.cut {g:Gh} {M:Nat} {v:V} {u:Value} (hv:refB0 M v=true) (h:RepP g v u):RepP (g.cut M) v u:=by
 unfold RepP at *
 split at h
 ·obtain ⟨b,h1,h2⟩:=h
  simp only [refB0,decide_eq_true_eq] at hv
  exact ⟨b,cut_loc hv h1,h2⟩
 ·obtain ⟨b,h1,h2⟩:=h
  simp only [refB0,decide_eq_true_eq] at hv
  exact ⟨b,cut_loc hv h1,h2⟩
 ·exact h
theorem RepC.cut {g:Gh} {M:Nat} {p:Place} {v:V} {u:Value} (hv:refB1 M v=true) (h:RepC g p v u):RepC (g.cut M) p v u:=by
 cases v with
 | ptr id off =>
  obtain ⟨b,h1,h2⟩:=h
  simp only [refB1,decide_eq_true_eq] at hv
  exact ⟨b,cut_loc hv h1,h2⟩
 | obj k id =>
  obtain ⟨b,h1,h2⟩:=h
  simp only [refB1,decide_eq_true_eq] at hv
  exact ⟨b,cut_loc hv h1,h2⟩
 | own id off len room =>
  simp only [refB1,decide_eq_true_eq] at hv
  rcases h with ⟨b,cap,h1,h2⟩ | h
  ·exact .inl ⟨b,cap,cut_loc hv h1,h2⟩
  ·exact .inr h
 | fn f first caps =>
  simp only [refB1,Bool.and_eq_true,List.all_eq_true] at hv
  obtain ⟨a,c,h1,h2,h3,h4,h5⟩:=h
  exact ⟨a,c,h1,h2,h3,fun j x hj hx=>(h4 j x hj hx).cut (hv.1 _ (List.mem_of_getElem? hx)),fun j x hj hx=>(h5 j x hj hx).cut (hv.2 _ (List.mem_of_getElem? hx))⟩
 | agg=>exact h.elim
 | tup=>exact h.elim
 | _=>exact h
theorem RepA.cut {g:Gh} {M:Nat} {pl:Nat→Place} {v:V} {u:Value} (hv:refB2 M v=true) (h:RepA g pl v u):RepA (g.cut M) pl v u:=by
 by_cases ha:∃ vs,v=.agg vs
 ·obtain ⟨vs,rfl⟩:=ha
  simp only [refB2,List.all_eq_true] at hv
  obtain ⟨cs,h1,h2,h3⟩:=h
  exact ⟨cs,h1,h2,fun j c hj hc=>(h3 j c hj hc).cut (hv _ (List.mem_of_getElem? hc))⟩
 ·have hv':refB1 M v=true:=by cases v<;>first | exact hv | exact absurd ⟨_,rfl⟩ ha
  rcases repA_inv h with e | h | h
  ·subst e;trivial
  ·exact repA_cell (h.cut hv')
  ·exact absurd h ha
theorem RepS.cut {g:Gh} {M τ i:Nat} {v:V} {u:Value} (hv:refB3 M v=true) (h:RepS g τ i v u):RepS (g.cut M) τ i v u:=by
 by_cases ha:∃ vs,v=.tup vs
 ·obtain ⟨vs,rfl⟩:=ha
  simp only [refB3,List.all_eq_true] at hv
  obtain ⟨cs,h1,h2,h3⟩:=h
  exact ⟨cs,h1,h2,fun k c hk hc=>(h3 k c hk hc).cut (hv _ (List.mem_of_getElem? hc))⟩
 ·have hn:∀ vs,v≠.tup vs:=fun vs e=>ha ⟨vs,e⟩
  have hv':refB2 M v=true:=by cases v<;>first | exact hv | exact absurd rfl (hn _)
  rw [repS_notTup hn] at h ⊢
  exact h.cut hv'
def blkBelow (M:Nat):Blk→Bool
 | .cells cs _=>cs.all (refB1 M)
 | .dead | .gone | .dfr | .iter ..=>true
 | .mp es=>es.all fun p=>refB2 M p.2
 | .loop l=>l.fr.all (refB3 M)
def dfRef (M:Nat) (df:List Df):Bool:=df.all fun d=>match d with
 | .mark id=>decide (id<M)
 | .call _ caps=>caps.all (refB0 M)
theorem DfOk.cut {g:Gh} {M:Nat} {H H':List Blk}:∀ {df:List Df} {ds:List Deferred},dfRef M df=true→dfKeep df H'=true→DfOk g H df ds→DfOk (g.cut M) H' df ds
 | [],ds,_,_,h=>h
 | .mark id::r,ds,hr,hk,h=>by
  obtain ⟨D,ds',h1,h2,h3,h4⟩:=h
  simp only [dfRef,List.all_cons,Bool.and_eq_true,decide_eq_true_eq] at hr
  simp only [dfKeep,List.all_cons,Bool.and_eq_true] at hk
  refine ⟨D,ds',h1,cut_loc hr.1 h2,?_,h4.cut (by unfold dfRef;exact hr.2) (by unfold dfKeep;exact hk.2)⟩
  have:=hk.1
  split at this
  ·rename_i b hb
   cases b<;>first | exact hb | cases this
  ·cases this
 | .call f caps::r,ds,hr,hk,h=>by
  obtain ⟨cs,ds',h1,h2,h3,h4⟩:=h
  simp only [dfRef,List.all_cons,Bool.and_eq_true] at hr
  simp only [dfKeep,List.all_cons,Bool.and_eq_true] at hk
  have hr1:=hr.1
  rw [List.all_eq_true] at hr1
  exact ⟨cs,ds',h1,h2,fun j c hj hc=>(h3 j c hj hc).cut (hr1 c (List.mem_of_getElem? hc)),h4.cut (by unfold dfRef;exact hr.2) (by unfold dfKeep;exact hk.2)⟩
theorem BlkOk.cut {g:Gh} {M id:Nat} {x:Blk} {o:Obj} (hx:blkBelow M x=true) (h:BlkOk g id x o):BlkOk (g.cut M) id x o:=by
 cases x with
 | cells cs e =>
  simp only [blkBelow,List.all_eq_true] at hx
  obtain ⟨cur,h1,h2,h3⟩:=h
  exact ⟨cur,h1,h2,fun j c hj hc=>(h3 j c hj hc).cut (hx _ (List.mem_of_getElem? hc))⟩
 | dead=>trivial
 | gone=>trivial
 | dfr=>exact h
 | iter s p=>exact h
 | mp es =>
  simp only [blkBelow,List.all_eq_true] at hx
  obtain ⟨ents,clock,h1,h2,h3⟩:=h
  refine ⟨ents,clock,h1,h2,fun j k v hj hc=>?_⟩
  obtain ⟨q1,q2,q3,q4⟩:=h3 j k v hj hc
  exact ⟨q1,q2,q3,fun pl=>(q4 pl).cut (hx _ (List.mem_of_getElem? hc))⟩
 | loop l =>
  simp only [blkBelow,List.all_eq_true] at hx
  obtain ⟨h0,tmps,D,fn,h1,h2,h3⟩:=h
  exact ⟨h0,tmps,D,fn,h1,h2,fun i v hi hv=>⟨(h3 i v hi hv).1,fun τ d=>((h3 i v hi hv).2 τ d).cut (hx _ (List.mem_of_getElem? hv))⟩⟩
def cutSt (M:Nat) (st:St):St:=⟨st.fr.map fun v=>match refB3 M v with | true=>v | false=>.undef,st.h.take M,st.df⟩
theorem R.cut {B τ:Nat} {g:Gh} {st:St} {a:Act} {w:World} {M:Nat} (h:R B τ g st a w) (hb:(st.h.take M).all (blkBelow M)=true) (hdk:(dfKeep st.df (st.h.take M)&&dfRef M st.df)=true):R B τ (g.cut M) (cutSt M st) a w:=by
 refine ⟨by simpa [cutSt] using h.size,fun i v hi hv=>?_,⟨fun id b hl=>?_,fun id id' b x x' h1 h2 v1 v2 v3 v4=>?_,fun id b hl=>?_,fun id b x hl he=>?_⟩,⟨h.mem.at_,h.mem.glob,h.mem.shape⟩,⟨h.lin.at_⟩,h.base,h.defers.cut (by rw [Bool.and_eq_true] at hdk;exact hdk.2) (by rw [Bool.and_eq_true] at hdk;exact hdk.1)⟩
 ·simp only [cutSt,List.getElem?_map] at hv
  obtain ⟨v0,hv0,rfl⟩:=Option.map_eq_some_iff.1 hv
  cases hr:refB3 M v0 with
  | true=>exact (h.slots i v0 hi hv0).cut hr
  | false=>trivial
 ·have hl:(if id<M then g.loc id else none)=some b:=hl
  split at hl
  ·rename_i hm
   have:=h.heap.bound id b hl
   simp [cutSt];omega
  ·cases hl
 ·have h1:(if id<M then g.loc id else none)=some b:=h1
  have h2:(if id'<M then g.loc id' else none)=some b:=h2
  split at h1<;>split at h2<;>first | cases h1;done | cases h2;done | skip
  rename_i m1 m2
  have v1:(st.h.take M)[id]?=some x:=v1
  have v2:(st.h.take M)[id']?=some x':=v2
  rw [List.getElem?_take,if_pos m1] at v1
  rw [List.getElem?_take,if_pos m2] at v2
  exact h.heap.inj _ _ _ _ _ h1 h2 v1 v2 v3 v4
 ·have hl:(if id<M then g.loc id else none)=some b:=hl
  split at hl
  ·exact h.heap.fresh id b hl
  ·cases hl
 ·have hl:(if id<M then g.loc id else none)=some b:=hl
  split at hl
  ·rename_i hm
   have he:(st.h.take M)[id]?=some x:=he
   have hmem:=List.mem_of_getElem? he
   rw [List.all_eq_true] at hb
   have hcs:=hb _ hmem
   rw [List.getElem?_take,if_pos hm] at he
   obtain ⟨o,q1,q2⟩:=h.heap.blkO id b x hl he
   exact ⟨o,q1,q2.cut hcs⟩
  ·cases hl
/-! ### boxes that are renamed: only these are kept,in this order -/
def idxN:List Nat→Nat→Nat→Option Nat
 | [],_,_=>none
 | x::xs,id,k=>match x==id with
  | true=>some k
  | false=>idxN xs id (k+1)
def pk1 (ks:List Nat):V→V
 | .ptr id off=>match idxN ks id 0 with
  | some j=>.ptr j off
  | none=>.undef
 | .obj k id=>match idxN ks id 0 with
  | some j=>.obj k j
  | none=>.undef
 | .own id off len room=>match idxN ks id 0 with
  | some j=>.own j off len room
  | none=>.undef
 | .fn f first caps=>match first.all (refB0 0)&&caps.all (refB0 0) with
  | true=>.fn f first caps
  | false=>.undef
 | v=>v
def pk2 (ks:List Nat):V→V
 | .agg vs=>.agg (vs.map (pk1 ks))
 | v=>pk1 ks v
def pk3 (ks:List Nat):V→V
 | .tup vs=>.tup (vs.map (pk2 ks))
 | v=>pk2 ks v
def pkBlk:Blk→Bool
 | .cells cs _=>cs.all fun c=>refB1 0 c&&!isLin1 c
 | .dead | .iter ..=>true
 | _=>false
def pkH (h:List Blk):List Nat→Option (List Blk)
 | []=>some []
 | id::r=>match h[id]? with
  | some x=>match pkH h r with
   | some r'=>some (x::r')
   | none=>none
  | none=>none
def pkSt (ks:List Nat) (h':List Blk) (st:St):St:=⟨st.fr.map (pk3 ks),h',[]⟩
def nodupN:List Nat→Bool
 | []=>true
 | x::xs=>!(xs.contains x)&&nodupN xs
def keepsN:Nat→List Nat→Nat→Bool
 | 0,_,_=>true
 | _+1,[],_=>false
 | n+1,x::xs,k=>x==k&&keepsN n xs (k+1)
theorem idxN_eq:∀ {ks:List Nat} {id k j:Nat},idxN ks id k=some j→k≤j∧ks[j-k]?=some id
 | [],_,_,_,h=>by cases h
 | x::xs,id,k,j,h=>by
  unfold idxN at h
  split at h
  ·rename_i hx
   cases h
   simp only [beq_iff_eq] at hx
   subst hx
   exact ⟨Nat.le_refl _,by simp⟩
  ·obtain ⟨h1,h2⟩:=idxN_eq h
   refine ⟨by omega,?_⟩
   rw [show j-k=(j-(k+1))+1 by omega,List.getElem?_cons_succ]
   exact h2
theorem keepsN_eq:∀ {n k:Nat} {ks:List Nat},keepsN n ks k=true→∀ i,i<n→ks[i]?=some (k+i)
 | n+1,k,x::xs,h,i,hi=>by
  unfold keepsN at h
  rw [Bool.and_eq_true,beq_iff_eq] at h
  obtain ⟨rfl,h⟩:=h
  cases i with
  | zero=>rfl
  | succ i =>
   rw [List.getElem?_cons_succ,keepsN_eq h i (by omega)]
   congr 1;omega
theorem nodupN_eq:∀ {ks:List Nat},nodupN ks=true→∀ {i j x:Nat},ks[i]?=some x→ks[j]?=some x→i=j
 | y::ys,h,i,j,x,hi,hj=>by
  unfold nodupN at h
  rw [Bool.and_eq_true] at h
  have h1:y∉ys:=by simpa using h.1
  cases i with
  | zero =>
   cases j with
   | zero=>rfl
   | succ j =>
    simp only [List.getElem?_cons_zero,Option.some.injEq] at hi
    subst hi
    exact absurd (List.mem_of_getElem? (by simpa using hj)) h1
  | succ i =>
   cases j with
   | zero =>
    simp only [List.getElem?_cons_zero,Option.some.injEq] at hj
    subst hj
    exact absurd (List.mem_of_getElem? (by simpa using hi)) h1
   | succ j =>
    have e:=nodupN_eq h.2 (i:=i) (j:=j) (x:=x) (by simpa using hi) (by simpa using hj)
    rw [e]
theorem pkH_eq {h:List Blk}:∀ {ks:List Nat} {h':List Blk},pkH h ks=some h'→h'.length=ks.length∧∀ (j:Nat) (x:Blk),h'[j]?=some x→∃ id:Nat,ks[j]?=some id∧h[id]?=some x
 | [],h',e=>by cases e;exact ⟨rfl,fun j x hx=>by simp at hx⟩
 | id::r,h',e=>by
  unfold pkH at e
  split at e
  ·rename_i y hy
   split at e
   ·rename_i r' hr
    cases e
    obtain ⟨e1,e2⟩:=pkH_eq hr
    refine ⟨by simp [e1],fun j x hx=>?_⟩
    cases j with
    | zero=>simp at hx;subst hx;exact ⟨id,rfl,hy⟩
    | succ j=>simpa using e2 j x (by simpa using hx)
   ·cases e
  ·cases e
def Gh.pack (g:Gh) (ks:List Nat):Gh:={g with loc:=fun j=>(ks[j]?).bind g.loc}
theorem pack_loc {g:Gh} {ks:List Nat} {id j b:Nat} (hj:idxN ks id 0=some j) (h:g.loc id=some b):(g.pack ks).loc j=some b:=by
 obtain ⟨_,h2⟩:=idxN_eq hj
 show (ks[j]?).bind g.loc=some b
 rw [Nat.sub_zero] at h2
 rw [h2];exact h
theorem RepP.pack {g:Gh} {ks:List Nat} {v:V} {u:Value} (hv:refB0 0 v=true) (h:RepP g v u):RepP (g.pack ks) v u:=by
 unfold RepP at *
 split at h
 ·simp [refB0] at hv
 ·simp [refB0] at hv
 ·exact h
theorem RepC.pack0 {g:Gh} {ks:List Nat} {p:Place} {v:V} {u:Value} (hv:refB1 0 v=true) (h:RepC g p v u):RepC (g.pack ks) p v u:=by
 cases v with
 | ptr id off=>simp [refB1] at hv
 | obj k id=>simp [refB1] at hv
 | own id off len room=>simp [refB1] at hv
 | fn f first caps =>
  simp only [refB1,Bool.and_eq_true,List.all_eq_true] at hv
  obtain ⟨a,c,h1,h2,h3,h4,h5⟩:=h
  exact ⟨a,c,h1,h2,h3,fun j x hj hx=>(h4 j x hj hx).pack (hv.1 _ (List.mem_of_getElem? hx)),fun j x hj hx=>(h5 j x hj hx).pack (hv.2 _ (List.mem_of_getElem? hx))⟩
 | agg=>exact h.elim
 | tup=>exact h.elim
 | _=>exact h
theorem RepC.pack {g:Gh} {ks:List Nat} {p:Place} {v:V} {u:Value} (h:RepC g p v u):RepC (g.pack ks) p (pk1 ks v) u:=by
 cases v with
 | ptr id off =>
  unfold pk1;dsimp only
  split
  ·rename_i j hj
   obtain ⟨b,h1,h2⟩:=h
   exact ⟨b,pack_loc hj h1,h2⟩
  ·exact RepC.one h
 | obj k id =>
  unfold pk1;dsimp only
  split
  ·rename_i j hj
   obtain ⟨b,h1,h2⟩:=h
   exact ⟨b,pack_loc hj h1,h2⟩
  ·exact RepC.one h
 | own id off len room =>
  unfold pk1;dsimp only
  split
  ·rename_i j hj
   rcases h with ⟨b,cap,h1,h2⟩ | h
   ·exact .inl ⟨b,cap,pack_loc hj h1,h2⟩
   ·exact .inr h
  ·exact RepC.one h
 | fn f first caps =>
  unfold pk1;dsimp only
  split
  ·rename_i hc
   exact h.pack0 (by unfold refB1;exact hc)
  ·exact RepC.one h
 | agg=>exact h.elim
 | tup=>exact h.elim
 | _=>exact h
theorem RepA.pack {g:Gh} {ks:List Nat} {pl:Nat→Place} {v:V} {u:Value} (h:RepA g pl v u):RepA (g.pack ks) pl (pk2 ks v) u:=by
 by_cases ha:∃ vs,v=.agg vs
 ·obtain ⟨vs,rfl⟩:=ha
  obtain ⟨cs,h1,h2,h3⟩:=h
  refine ⟨cs,h1,by simpa using h2,fun j c hj hc=>?_⟩
  rw [List.getElem?_map] at hc
  obtain ⟨x,hx,rfl⟩:=Option.map_eq_some_iff.1 hc
  exact (h3 j x hj hx).pack
 ·rcases repA_inv h with e | h | h
  ·subst e;trivial
  ·have e:pk2 ks v=pk1 ks v:=by cases v<;>first | rfl | exact absurd ⟨_,rfl⟩ ha
   rw [e]
   exact repA_cell h.pack
  ·exact absurd h ha
theorem RepS.pack {g:Gh} {ks:List Nat} {τ i:Nat} {v:V} {u:Value} (h:RepS g τ i v u):RepS (g.pack ks) τ i (pk3 ks v) u:=by
 by_cases ha:∃ vs,v=.tup vs
 ·obtain ⟨vs,rfl⟩:=ha
  obtain ⟨cs,h1,h2,h3⟩:=h
  refine ⟨cs,h1,by simpa using h2,fun k c hk hc=>?_⟩
  rw [List.getElem?_map] at hc
  obtain ⟨x,hx,rfl⟩:=Option.map_eq_some_iff.1 hc
  exact (h3 k x hk hx).pack
 ·have hn:∀ vs,v≠.tup vs:=fun vs e=>ha ⟨vs,e⟩
  have e:pk3 ks v=pk2 ks v:=by cases v<;>first | rfl | exact absurd rfl (hn _)
  have e2:∀ vs,pk2 ks v≠.tup vs:=by
   intro vs
   cases v with
   | tup ws=>exact absurd rfl (hn _)
   | agg ws=>simp [pk2]
   | _=>simp only [pk2,pk1]<;>(try split)<;>simp
  rw [e]
  rw [repS_notTup hn] at h
  rw [repS_notTup e2]
  exact h.pack
theorem BlkOk.pack {g:Gh} {ks:List Nat} {id j:Nat} {x:Blk} {o:Obj} (hx:pkBlk x=true) (h:BlkOk g id x o):BlkOk (g.pack ks) j x o:=by
 cases x with
 | cells cs e =>
  simp only [pkBlk,List.all_eq_true,Bool.and_eq_true,Bool.not_eq_true'] at hx
  obtain ⟨cur,h1,h2,h3⟩:=h
  exact ⟨cur,h1,h2,fun j c hj hc=>RepC.any (hx _ (List.mem_of_getElem? hc)).2 ((h3 j c hj hc).pack0 (hx _ (List.mem_of_getElem? hc)).1)⟩
 | dead=>trivial
 | iter s p=>exact h
 | _=>cases hx
theorem R.pack {B τ:Nat} {g:Gh} {st:St} {a:Act} {w:World} {ks:List Nat} {h':List Blk} (h:R B τ g st a w) (hd:st.df=[]) (hH:pkH st.h ks=some h') (hb:h'.all pkBlk=true) (hn:nodupN ks=true):R B τ (g.pack ks) (pkSt ks h' st) a w:=by
 obtain ⟨l1,l2⟩:=pkH_eq hH
 have hdef:=h.defers
 rw [hd] at hdef
 have was:∀ {j b:Nat},(g.pack ks).loc j=some b→∃ id,ks[j]?=some id∧g.loc id=some b:=fun {j b} hl=>Option.bind_eq_some_iff.1 hl
 refine ⟨by simpa [pkSt] using h.size,fun i v hi hv=>?_,⟨fun j b hl=>?_,fun i j b x x' h1 h2 v1 v2 v3 v4=>?_,fun j b hl=>?_,fun j b x hl he=>?_⟩,⟨h.mem.at_,h.mem.glob,h.mem.shape⟩,⟨h.lin.at_⟩,h.base,hdef⟩
 ·simp only [pkSt,List.getElem?_map] at hv
  obtain ⟨v0,hv0,rfl⟩:=Option.map_eq_some_iff.1 hv
  exact (h.slots i v0 hi hv0).pack
 ·obtain ⟨id,q1,q2⟩:=was hl
  show j<h'.length
  rw [l1];exact (List.getElem?_eq_some_iff.1 q1).1
 ·obtain ⟨id1,q1,q2⟩:=was h1
  obtain ⟨id2,q3,q4⟩:=was h2
  obtain ⟨i1,r1,r2⟩:=l2 i x v1
  obtain ⟨i2,r3,r4⟩:=l2 j x' v2
  rw [q1] at r1;cases r1
  rw [q3] at r3;cases r3
  have:=h.heap.inj _ _ _ _ _ q2 q4 r2 r4 v3 v4
  subst this
  exact nodupN_eq hn q1 q3
 ·obtain ⟨id,q1,q2⟩:=was hl
  exact h.heap.fresh id b q2
 ·obtain ⟨id,q1,q2⟩:=was hl
  obtain ⟨i1,r1,r2⟩:=l2 j x he
  rw [q1] at r1;cases r1
  obtain ⟨o,k1,k2⟩:=h.heap.blkO id b x q2 r2
  rw [List.all_eq_true] at hb
  exact ⟨o,k1,k2.pack (hb _ (List.mem_of_getElem? he))⟩
theorem R.trim {B τ:Nat} {g:Gh} {st:St} {a:Act} {w:World} {id:Nat} {cs:List V} {e:TypeId} (h:R B τ g st a w) (hcs:st.h[id]?=some (.cells cs e)) (n:Nat):R B τ g ⟨st.fr,st.h.set id (.cells (cs.take n) e),st.df⟩ a w:=by
 refine ⟨h.size,h.slots,⟨fun i b hl=>?_,h.heap.inj.set hcs rfl _,h.heap.fresh,fun i b x hl he=>?_⟩,h.mem,h.lin,h.base,h.defers.mono (MemLe.refl _) (fun _ _ h=>h) (fun _ hd=>dfr_set _ hcs rfl hd)⟩
 ·have:=h.heap.bound i b hl
  simpa using this
 ·by_cases hi:id=i
  ·subst hi
   rw [List.getElem?_set_self (List.getElem?_eq_some_iff.1 hcs).1] at he
   cases he
   obtain ⟨o,q1,cur,rfl,q2,q3⟩:=h.heap.blkO id b _ hl hcs
   refine ⟨_,q1,cur,rfl,by rw [List.length_take];omega,fun j c hj hc=>?_⟩
   rw [List.getElem?_take] at hc
   split at hc
   ·exact q3 j c hj hc
   ·cases hc
  ·rw [List.getElem?_set_ne hi] at he
   exact h.heap.blkO i b x hl he
theorem VLe.room {id off len room:Nat}:VLe (.own id off len room) (.own id off len len):=fun g τ i u h=>by
 have h:RepC g (.slot τ i 0 0) (.own id off len room) u:=h
 show RepC g (.slot τ i 0 0) (.own id off len len) u
 rcases h with ⟨b,cap,h1,h2,h3,h4,h5,h6⟩ | ⟨h1,h2,h3⟩
 ·exact .inl ⟨b,cap,h1,h2,h3,h4,h3,h6⟩
 ·exact .inr ⟨h1,h1,h3⟩
inductive Tell where
 | thaw (t:Nat) | thawAt (t j:Nat) | relax (keep:List (Nat×Fm)) | put (t:Nat) (f:Fm) | cut (M:Nat) | pack (ks:List Nat) | trim (id n:Nat) | room (t:Nat)
def tell1 (P:Program) (N:Nat) (st:St):Tell→Option St
 | .trim id n=>match st.h[id]? with
  | some (.cells cs e)=>some ⟨st.fr,st.h.set id (.cells (cs.take n) e),st.df⟩
  | _=>none
 | .room t=>match getS st.fr t with
  | .own id off len _=>some {st with fr:=st.fr.set t (.own id off len len)}
  | _=>none
 | .pack ks=>match pkH st.h ks with
  | some h'=>match h'.all pkBlk&&(nodupN ks&&(keepsN N ks 0&&st.df.isEmpty)) with
   | true=>some (pkSt ks h' st)
   | false=>none
  | none=>none
 | .cut M=>match decide (N≤M)&&(st.h.take M).all (blkBelow M)&&(dfKeep st.df (st.h.take M)&&dfRef M st.df) with
  | true=>some (cutSt M st)
  | false=>none
 | .thaw t=>match getS st.fr t with
  | .lin true e n xs=>match sizeT P e==some n with
   | true=>some ⟨st.fr.set t (.own st.h.length 0 xs.length xs.length),st.h++[.cells (xs.flatMap V.cells) e],st.df⟩
   | false=>none
  | _=>none
 | .thawAt t j=>match getS st.fr t with
  | .agg vs=>match vs[j]? with
   | some (.lin true e n xs)=>match sizeT P e==some n with
    | true=>some ⟨st.fr.set t (.agg (vs.set j (.own st.h.length 0 xs.length xs.length))),st.h++[.cells (xs.flatMap V.cells) e],st.df⟩
    | false=>none
   | _=>none
  | _=>none
 | .relax keep=>some (Fw.relax keep st)
 | .put t f=>some {st with fr:=st.fr.set t (f.ap (getS st.fr t))}
def tell (P:Program) (N:Nat):List Tell→St→Option St
 | [],st=>some st
 | x::r,st=>match tell1 P N st x with
  | some st=>tell P N r st
  | none=>none
theorem thaw_cell0 {B τ:Nat} {g:Gh} {st:St} {a:Act} {w:World} (h:R B τ g st a w) {t q:Nat} {xs:List V} {v':V} {b:Nat} {i:LinI} (hb:g.lin b=some i) (hp:i.place=.slot τ t q 0) (hpr:i.priv=true) (hel:Elems g.mem i.esz xs i.cs) (hsh:Shp g.mem b 0 i.cap)
  (hv':∀ g':Gh,MemLe g.mem g'.mem→(∀ id b,g.loc id=some b→g'.loc id=some b)→(∀ b i,g.lin b=some i→i.place≠.slot τ t q 0→g'.lin b=some i)→RepC g' (.slot τ t q 0) (.own st.h.length 0 xs.length xs.length) (.slice (some ⟨b,0,none⟩) xs.length i.cap)→∀ x,a.tmps[t]?=some x→RepS g' τ t v' x) :
  ∃ g',Later B τ g g' w w∧R B τ g' ⟨st.fr.set t v',st.h++[.cells (xs.flatMap V.cells) i.ety],st.df⟩ a w:=by
 have slots:∀ g':Gh,MemLe g.mem g'.mem→(∀ id b,g.loc id=some b→g'.loc id=some b)→(∀ b i,g.lin b=some i→i.place≠.slot τ t q 0→g'.lin b=some i)→RepC g' (.slot τ t q 0) (.own st.h.length 0 xs.length xs.length) (.slice (some ⟨b,0,none⟩) xs.length i.cap) →
   ∀ (i:Nat) (v:V) (hi:i<a.tmps.size),(st.fr.set t v')[i]?=some v→RepS g' τ i v a.tmps[i]:=by
  intro g' h1 h2 h3 h4 i v hi hv
  by_cases e:t=i
  ·subst e
   have hlt:t<st.fr.length:=by rw [h.size];exact hi
   rw [List.getElem?_set_self hlt] at hv
   cases hv
   exact hv' g' h1 h2 h3 h4 _ (Array.getElem?_eq_getElem hi)
  ·rw [List.getElem?_set_ne e] at hv
   exact RepS.mono h1 h2 (fun j k b x hx hp=>h3 b x hx (by rw [hp];intro e';injection e' with _ e';exact e e'.symm)) (h.slots i v hi hv)
 obtain ⟨k1,⟨cur,k2,k3,k4⟩,k5,k6,k7,k8,_⟩:=h.lin.at_ b i hb
 have hmb:=k8 hpr
 have hnl:∀ id,g.loc id≠some b:=by
  intro id hid
  obtain ⟨_,_,_,h4⟩:=h.heap.fresh id b hid
  rw [hb] at h4;cases h4
 have hno:g.loc st.h.length=none:=by
  cases hh:g.loc st.h.length with
  | none=>rfl
  | some x=>have:=h.heap.bound _ _ hh;omega
 have hloc:∀ id x,g.loc id=some x→(g.thaw st.h.length b).loc id=some x:=by
  intro id x hx
  unfold Gh.thaw;dsimp only
  rw [if_neg (by rintro rfl;rw [hno] at hx;cases hx)]
  exact hx
 have hlin:∀ x i',g.lin x=some i'→i'.place≠.slot τ t q 0→(g.thaw st.h.length b).lin x=some i':=by
  intro x i' hx hne
  unfold Gh.thaw;dsimp only
  rw [if_neg (by rintro rfl;rw [hb] at hx;cases hx;exact hne hp)]
  exact hx
 have hwl:xs.length≤i.cap:=by rw [hel.1] at k5;exact Nat.le_of_mul_le_mul_right k5 k7
 refine ⟨g.thaw st.h.length b,⟨Below.refl _ _,MemLe.refl _,fun _ _=>rfl,hloc,fun x i' hx ⟨τ',y,j,k,hq,hne⟩=>hlin x i' hx (by rw [hq];intro e;injection e with e _;exact hne e)⟩,
  ⟨by simpa using h.size,slots _ (MemLe.refl _) hloc hlin (.inl ⟨b,i.cap,?_,rfl,hwl,k6,hwl,hsh⟩),⟨fun id x hx=>?_,fun id id' x y1 y2 h1 h2 v1 v2 v3 v4=>?_,fun id x hx=>?_,fun id x y hx he=>?_⟩,h.mem,⟨fun x i' hx=>?_⟩,h.base,h.defers.mono (g:=g) (g':=g.thaw st.h.length b) (MemLe.refl _) hloc (fun _ hd=>dfr_append _ hd)⟩⟩
 ·unfold Gh.thaw;dsimp only;rw [if_pos rfl]
 ·unfold Gh.thaw at hx;dsimp only at hx
  rw [List.length_append]
  split at hx
  ·rename_i e;subst e;simp
  ·have:=h.heap.bound _ _ hx;simp;omega
 ·unfold Gh.thaw at h1 h2;dsimp only at h1 h2
  split at h1<;>split at h2
  ·rename_i e1 e2;rw [e1,e2]
  ·cases h1;exact absurd h2 (hnl _)
  ·cases h2;exact absurd h1 (hnl _)
  ·rw [List.getElem?_append_left (h.heap.bound _ _ h1)] at v1
   rw [List.getElem?_append_left (h.heap.bound _ _ h2)] at v2
   exact h.heap.inj _ _ _ _ _ h1 h2 v1 v2 v3 v4
 ·unfold Gh.thaw at hx;dsimp only at hx
  split at hx
  ·cases hx
   refine ⟨k1,(Array.getElem?_eq_some_iff.1 k2).1,hmb,?_⟩
   unfold Gh.thaw;dsimp only;rw [if_pos rfl]
  ·obtain ⟨h1,h2,h3,h4⟩:=h.heap.fresh id x hx
   refine ⟨h1,h2,h3,?_⟩
   unfold Gh.thaw;dsimp only
   rw [if_neg (by rintro rfl;exact hnl _ hx)];exact h4
 ·unfold Gh.thaw at hx;dsimp only at hx
  split at hx
  ·rename_i e'
   subst e'
   cases hx
   rw [List.getElem?_append_right (Nat.le_refl _)] at he
   simp at he
   subst he
   have hfl:=flatMap_len hel.2.2.1
   refine ⟨_,k2,cur,rfl,by rw [hfl,k4];exact Nat.mul_le_mul_right _ hwl,fun j c hj hc=>?_⟩
   obtain ⟨x,h1,h2⟩:=flatMap_at hel.2.2.1 k7 hc
   obtain ⟨q1,q,q2,q3⟩:=hel.2.2.2 _ x _ c h1 h2
   have hjj:j / i.esz*i.esz+j % i.esz=j:=by rw [Nat.mul_comm];exact Nat.div_add_mod _ _
   rw [hjj] at q2
   have:=mem_of_prefix k3 q2
   rw [Array.getElem?_eq_getElem hj] at this
   cases this
   exact cell_flat q1 q3
  ·rename_i hne
   have hlt:=h.heap.bound _ _ hx
   rw [List.getElem?_append_left hlt] at he
   obtain ⟨o,h1,h2⟩:=h.heap.blkO id x y hx he
   exact ⟨o,h1,BlkOk.mono (g:=g) (g':=g.thaw st.h.length b) (MemLe.refl _) hloc (fun j y i0 hy hp=>hlin y i0 hy (by rw [hp];intro e;cases e)) h2⟩
 ·unfold Gh.thaw at hx;dsimp only at hx
  split at hx
  ·cases hx
  ·exact h.lin.at_ x i' hx
theorem thaw_cell {B τ:Nat} {g:Gh} {st:St} {a:Act} {w:World} (h:R B τ g st a w) {t q:Nat} {e:TypeId} {sz:Nat} {xs:List V} {u:Value} {v':V} (hsz:sizeT theP e=some sz) (hu:RepC g (.slot τ t q 0) (.lin true e sz xs) u)
  (hv':∀ g':Gh,MemLe g.mem g'.mem→(∀ id b,g.loc id=some b→g'.loc id=some b)→(∀ b i,g.lin b=some i→i.place≠.slot τ t q 0→g'.lin b=some i)→RepC g' (.slot τ t q 0) (.own st.h.length 0 xs.length xs.length) u→∀ x,a.tmps[t]?=some x→RepS g' τ t v' x) :
  ∃ g',Later B τ g g' w w∧R B τ g' ⟨st.fr.set t v',st.h++[.cells (xs.flatMap V.cells) e],st.df⟩ a w:=by
 have slots:∀ g':Gh,MemLe g.mem g'.mem→(∀ id b,g.loc id=some b→g'.loc id=some b)→(∀ b i,g.lin b=some i→i.place≠.slot τ t q 0→g'.lin b=some i)→RepC g' (.slot τ t q 0) (.own st.h.length 0 xs.length xs.length) u →
   ∀ (i:Nat) (v:V) (hi:i<a.tmps.size),(st.fr.set t v')[i]?=some v→RepS g' τ i v a.tmps[i]:=by
  intro g' h1 h2 h3 h4 i v hi hv
  by_cases e:t=i
  ·subst e
   have hlt:t<st.fr.length:=by rw [h.size];exact hi
   rw [List.getElem?_set_self hlt] at hv
   cases hv
   exact hv' g' h1 h2 h3 h4 _ (Array.getElem?_eq_getElem hi)
  ·rw [List.getElem?_set_ne e] at hv
   exact RepS.mono h1 h2 (fun j k b x hx hp=>h3 b x hx (by rw [hp];intro e';injection e' with _ e';exact e e'.symm)) (h.slots i v hi hv)
 simp only [RepC] at hu
 rcases hu with ⟨b,i,hb,hp,hpr,⟨rfl,rfl⟩,rfl,hel⟩ | ⟨rfl,hz0,ad,rfl⟩
 rotate_left
 ·refine ⟨g,Later.refl ..,⟨by simpa using h.size,slots g (MemLe.refl _) (fun _ _ h=>h) (fun _ _ h _=>h) (.inr ⟨rfl,rfl,ad,rfl⟩),⟨fun id x hx=>?_,h.heap.inj.app h.heap.bound _,h.heap.fresh,fun id x y hx he=>?_⟩,h.mem,h.lin,h.base,h.defers.mono (MemLe.refl _) (fun _ _ h=>h) (fun _ hd=>dfr_append _ hd)⟩⟩
  ·have:=h.heap.bound _ _ hx;simp;omega
  ·have hlt:=h.heap.bound _ _ hx
   rw [List.getElem?_append_left hlt] at he
   exact h.heap.blkO id x y hx he
 obtain ⟨k1,⟨cur,k2,k3,k4⟩,k5,k6,k7,k8,_⟩:=h.lin.at_ b i hb
 obtain ⟨g1,l1,R1,s1,s2,s3,s4⟩:=add_shape h k2
 obtain ⟨g2,l2,R2⟩:=thaw_cell0 R1 (by rw [s3];exact hb) hp hpr (hel.mono l1.mem) ⟨_,_,s1,fun sz' hsz'=>by rw [hsz] at hsz';cases hsz';rw [k4,Nat.zero_add];exact Nat.le_refl _⟩ (v':=v') (fun g' m1 m2 m3 m4=>hv' g' (l1.mem.trans m1) (fun id b hl=>m2 id b (by rw [s2];exact hl)) (fun b i hl hne=>m3 b i (by rw [s3];exact hl) hne) m4)
 exact ⟨g2,l1.trans l2,R2⟩
theorem tell_sz {α:Type} {b:Bool} {x y:α} (h:(match b with | true=>some x | false=>none)=some y):b=true∧x=y:=by
 cases b
 ·cases h
 ·cases h;exact ⟨rfl,rfl⟩
theorem tell1_ok {P:Program} (hP:P=theP) {N:Nat} {st st':St} {x:Tell} (h:tell1 P N st x=some st'):StTo N st st':=by
 subst hP
 intro B τ g a w hR
 have strong:∀ {st':St},(∃ g',Later B τ g g' w w∧R B τ g' st' a w)→∃ g',LaterN N B τ g g' w w∧R B τ g' st' a w:=fun ⟨g',l,r⟩=>⟨g',.of l,r⟩
 unfold tell1 at h
 split at h
 ·rename_i id n
  split at h
  ·rename_i cs e hcs
   cases h
   exact ⟨g,LaterN.refl ..,hR.trim hcs n⟩
  ·cases h
 ·rename_i t
  split at h
  ·rename_i id off len room hv
   cases h
   refine ⟨g,LaterN.refl ..,hR.weak ⟨by simp,fun i v v' hv1 hv2=>?_⟩⟩
   by_cases e:t=i
   ·subst e
    have hlt:=(List.getElem?_eq_some_iff.1 hv1).1
    rw [List.getElem?_set_self hlt] at hv2
    cases hv2
    rw [getS_eq hv1] at hv
    subst hv
    exact VLe.room
   ·rw [List.getElem?_set_ne e] at hv2
    rw [hv1] at hv2
    cases hv2
    exact VLe.rfl
  ·cases h
 ·rename_i ks
  split at h
  ·rename_i h' hH
   split at h
   ·rename_i hc
    cases h
    simp only [Bool.and_eq_true] at hc
    exact ⟨g.pack ks,⟨Below.refl _ _,MemLe.refl _,fun _ _=>rfl,fun id b hn hl=>(by
     show (ks[id]?).bind g.loc=some b
     rw [keepsN_eq hc.2.2.1 id hn,Nat.zero_add];exact hl),fun _ _ h _=>h⟩,hR.pack (List.isEmpty_iff.1 hc.2.2.2) hH hc.1 hc.2.1⟩
   ·cases h
  ·cases h
 ·rename_i M
  split at h
  ·rename_i hc
   cases h
   simp only [Bool.and_eq_true,decide_eq_true_eq] at hc
   exact ⟨g.cut M,⟨Below.refl _ _,MemLe.refl _,fun _ _=>rfl,fun id b hn hl=>cut_loc (by omega) hl,fun _ _ h _=>h⟩,hR.cut hc.1.2 (by rw [Bool.and_eq_true];exact hc.2)⟩
  ·cases h
 ·rename_i t
  split at h
  ·rename_i e sz xs hv
   obtain ⟨hsz,rfl⟩:=tell_sz h
   have hsz:sizeT theP e=some sz:=by simpa using hsz
   by_cases ht:t<a.tmps.size
   ·have hs:RepS g τ t (.lin true e sz xs) a.tmps[t]:=hR.slots t _ ht (by
     have hlt:t<st.fr.length:=by rw [hR.size];exact ht
     rw [List.getElem?_eq_getElem hlt,←getS_eq (List.getElem?_eq_getElem hlt),hv])
    exact strong<|thaw_cell hR (q:=0) hsz hs (fun g' h1 h2 h3 h4 x hx=>by
     rw [Array.getElem?_eq_getElem ht] at hx
     cases hx
     exact h4)
   ·exfalso
    have:getS st.fr t=.undef:=by
     unfold getS
     rw [List.getD_eq_getElem?_getD,List.getElem?_eq_none (by rw [hR.size];omega)]
     rfl
    rw [this] at hv;cases hv
  ·cases h
 ·rename_i t j
  split at h
  ·rename_i vs hv
   split at h
   ·rename_i e sz xs hj
    obtain ⟨hsz,rfl⟩:=tell_sz h
    have hsz:sizeT theP e=some sz:=by simpa using hsz
    by_cases ht:t<a.tmps.size
    ·have hs:RepS g τ t (.agg vs) a.tmps[t]:=hR.slots t _ ht (by
      have hlt:t<st.fr.length:=by rw [hR.size];exact ht
      rw [List.getElem?_eq_getElem hlt,←getS_eq (List.getElem?_eq_getElem hlt),hv])
     obtain ⟨cs,hcs,hl,hc⟩:=hs
     have hjl:j<cs.size:=by rw [←hl];exact (List.getElem?_eq_some_iff.1 hj).1
     refine strong<|thaw_cell hR (q:=j+1) hsz (hc j _ hjl hj) (fun g' h1 h2 h3 h4 x hx=>?_)
     rw [Array.getElem?_eq_getElem ht] at hx
     cases hx
     refine ⟨cs,hcs,by simpa using hl,fun i c hi hci=>?_⟩
     by_cases e:j=i
     ·subst e
      rw [List.getElem?_set_self (by omega)] at hci
      cases hci
      exact h4
     ·rw [List.getElem?_set_ne e] at hci
      exact (hc i c hi hci).mono h1 h2 (fun b x hx hp=>h3 b x hx (by rw [hp];intro e';injection e' with _ _ e';omega))
    ·exfalso
     have:getS st.fr t=.undef:=by
      unfold getS
      rw [List.getD_eq_getElem?_getD,List.getElem?_eq_none (by rw [hR.size];omega)]
      rfl
     rw [this] at hv;cases hv
   ·cases h
  ·cases h
 ·cases h
  exact ⟨g,LaterN.refl ..,hR.weak (relaxFr_le _ st.fr 0)⟩
 ·rename_i t f
  cases h
  refine ⟨g,LaterN.refl ..,hR.weak ⟨by simp,fun i v v' hv hv'=>?_⟩⟩
  by_cases e:t=i
  ·subst e
   have hlt:=(List.getElem?_eq_some_iff.1 hv).1
   rw [List.getElem?_set_self hlt] at hv'
   cases hv'
   rw [getS_eq hv]
   exact f.le v
  ·rw [List.getElem?_set_ne e] at hv'
   rw [hv] at hv'
   cases hv'
   exact VLe.rfl
theorem tell_ok {P:Program} (hP:P=theP) {N:Nat}:∀ {l:List Tell} {st st':St},tell P N l st=some st'→StTo N st st'
 | [],st,st',h=>by cases h;exact StTo.refl _
 | x::r,st,st',h=>by
  unfold tell at h
  split at h
  ·rename_i s hs
   exact (tell1_ok hP hs).trans (tell_ok hP h)
  ·cases h
end Go.Fw
namespace Go.Fw
inductive T (α:Type) where
 | ret (a:α)
 | fail
 | ite (s:Nat) (b:Bool) (x y:T α)
 | chk (s:Nat) (b:Bool) (x:T α)
 | opt (s:Nat) (o:Option V) (k:V→T α)
 | mf (s:Nat) (o:Option (Option (Nat×V))) (k:Option (Nat×V)→T α)
 | call (s:Nat) (f:FuncId) (args:List V) (h:List Blk) (k:FOut→T α)
 | loop (s:Nat) (rd:Bool) (b:Code) (st:St) (k:Ex→St→T α)
 | norm (s:Nat) (st:St) (k:St→T α)
 | «open» (s:Nat) (st:St) (k:St→T α)
def xp {α:Type} (a:α):T α:=.ret a
def xf {α:Type}:T α:=.fail
def xb {α β:Type} (m:T α) (f:α→T β):T β:=match m with
 | .ret a=>f a
 | .fail=>.fail
 | .ite s b x y=>.ite s b (xb x f) (xb y f)
 | .chk s b x=>.chk s b (xb x f)
 | .opt s o k=>.opt s o (fun v=>xb (k v) f)
 | .mf s o k=>.mf s o (fun v=>xb (k v) f)
 | .call s g args h k=>.call s g args h (fun r=>xb (k r) f)
 | .loop s rd b st k=>.loop s rd b st (fun e st=>xb (k e st) f)
 | .norm s st k=>.norm s st (fun st=>xb (k st) f)
 | .open s st k=>.open s st (fun st=>xb (k st) f)
def xchk (s:Nat) (b:Bool):T Unit:=.chk s b (.ret ())
def xcond (s:Nat) (b:Bool):T Bool:=.ite s b (.ret true) (.ret false)
def xlift {α:Type} (o:Option α):T α:=match o with
 | some a=>.ret a
 | none=>.fail
def xopt (s:Nat) (o:Option V):T V:=.opt s o .ret
def xmf (s:Nat) (o:Option (Option (Nat×V))):T (Option (Nat×V)):=.mf s o .ret
def firstReg:Code→Nat
 | .region id _ _=>id
 | .seq a _=>firstReg a
 | .block _ a=>firstReg a
 | .loop a=>firstReg a
 | .cond _ a _=>firstReg a
 | .rangeFunc _ _ _ a=>firstReg a
 | _=>9999
def loopHeight:Code→Nat
 | .seq a b=>max (loopHeight a) (loopHeight b)
 | .cond _ a b=>max (loopHeight a) (loopHeight b)
 | .block _ b=>loopHeight b
 | .loop b=>loopHeight b+1
 | _=>0
def lkey (b:Code):Nat:=firstReg b*8+loopHeight b
def subloops:Code→List Code
 | .seq a b=>subloops a++subloops b
 | .cond _ a b=>subloops a++subloops b
 | .block _ b=>subloops b
 | .loop b=>b::subloops b
 | .rangeFunc _ _ a b=>subloops a++subloops b
 | _=>[]
def findLoop (s:Nat):List Code→Option Code
 | []=>none
 | b::r=>match lkey b==s with
  | true=>some b
  | false=>findLoop s r
def loopAt (C:Cx) (f:FuncId) (s:Nat):Option Code:=match C.P.funcs[f]? with
 | some fn=>match fn.body with
  | some c=>findLoop s (subloops c)
  | none=>none
 | none=>none
def noTwin:List Nat→Bool
 | []=>true
 | x::r=>r.all (· !=x)&&noTwin r
def loopsOk (c:Code):Bool:=noTwin ((subloops c).map lkey)
theorem findLoop_of:∀ {l:List Code} {b:Code},noTwin (l.map lkey)=true→b∈l→findLoop (lkey b) l=some b
 | [],b,_,h=>by cases h
 | x::r,b,hn,h=>by
  simp only [List.map_cons,noTwin,Bool.and_eq_true] at hn
  unfold findLoop
  rcases List.mem_cons.1 h with rfl | h
  ·simp
  ·have hne:(lkey x==lkey b)=false:=by
    have:=List.all_eq_true.1 hn.1 (lkey b) (List.mem_map.2 ⟨b,h,rfl⟩)
    simp only [bne_iff_ne,ne_eq] at this
    simp only [beq_eq_false_iff_ne,ne_eq]
    exact fun e=>this e.symm
   rw [hne]
   exact findLoop_of hn.2 h
def subRf:Code→List (Array Tmp×Code×Code)
 | .seq a b=>subRf a++subRf b
 | .cond _ a b=>subRf a++subRf b
 | .block _ b=>subRf b
 | .loop b=>subRf b
 | .rangeFunc _ ps a b=>(ps,a,b)::(subRf a++subRf b)
 | _=>[]
def findRf (s:Nat):List (Array Tmp×Code×Code)→Option (Array Tmp×Code×Code)
 | []=>none
 | x::r=>match firstReg x.2.2==s with
  | true=>some x
  | false=>findRf s r
def rfAt (C:Cx) (f:FuncId) (s:Nat):Option (Array Tmp×Code×Code):=match C.P.funcs[f]? with
 | some fn=>match fn.body with
  | some c=>findRf s (subRf c)
  | none=>none
 | none=>none
def rfGet (C:Cx) (f:FuncId) (s:Nat):Array Tmp×Code×Code:=(rfAt C f s).getD (#[],.skip,.skip)
def rfP (C:Cx) (f:FuncId) (s:Nat):Array Tmp:=(rfGet C f s).1
def rfA (C:Cx) (f:FuncId) (s:Nat):Code:=(rfGet C f s).2.1
def rfB (C:Cx) (f:FuncId) (s:Nat):Code:=(rfGet C f s).2.2
def Hits (C:Cx) (f:FuncId) (N:Nat) {α:Type}:T α→α→Prop
 | .ret a,x=>x=a
 | .fail,_=>False
 | .ite _ b t u,x=>(b=true∧Hits C f N t x)∨(b=false∧Hits C f N u x)
 | .chk _ b t,x=>b=true∧Hits C f N t x
 | .opt _ o k,x=>∃ v,o=some v∧Hits C f N (k v) x
 | .mf _ o k,x=>∃ v,o=some v∧Hits C f N (k v) x
 | .call _ g args h k,x=>∃ r,FactO C g args h r∧Hits C f N (k r) x
 | .loop s rd b st k,x=>∃ e st',(loopAt C f s=some b→Runs C N rd (.loop b) st e st')∧Hits C f N (k e st') x
 | .norm _ st k,x=>Hits C f N (k st) x
 | .open _ st k,x=>∃ st',StTo N st st'∧Hits C f N (k st') x
def Snd {α:Type} (C:Cx) (f:FuncId) (N:Nat) (m:T α) (U:α→Prop):Prop:=∀ a,Hits C f N m a→U a
section
variable {C:Cx} {f:FuncId} {N:Nat}
theorem snd_xp {α:Type} {a:α} {U:α→Prop} (h:U a):Snd C f N (xp a) U:=by
 intro x hx
 have hx:x=a:=hx
 exact hx ▸ h
theorem snd_xf {α:Type} {U:α→Prop}:Snd C f N (xf:T α) U:=fun x hx=>hx.elim
theorem reach_xb {α β:Type} {k:α→T β} {x:β}:∀ {m:T α},Hits C f N (xb m k) x→∃ a,Hits C f N m a∧Hits C f N (k a) x
 | .ret a,h=>⟨a,rfl,h⟩
 | .fail,h=>h.elim
 | .ite s b t u,h=>by
  rcases h with ⟨hb,h⟩ | ⟨hb,h⟩
  ·obtain ⟨a,h1,h2⟩:=reach_xb h;exact ⟨a,.inl ⟨hb,h1⟩,h2⟩
  ·obtain ⟨a,h1,h2⟩:=reach_xb h;exact ⟨a,.inr ⟨hb,h1⟩,h2⟩
 | .chk s b t,h=>by
  obtain ⟨hb,h⟩:=h
  obtain ⟨a,h1,h2⟩:=reach_xb h
  exact ⟨a,⟨hb,h1⟩,h2⟩
 | .opt s o k,h=>by
  obtain ⟨v,hv,h⟩:=h
  obtain ⟨a,h1,h2⟩:=reach_xb h
  exact ⟨a,⟨v,hv,h1⟩,h2⟩
 | .mf s o k,h=>by
  obtain ⟨v,hv,h⟩:=h
  obtain ⟨a,h1,h2⟩:=reach_xb h
  exact ⟨a,⟨v,hv,h1⟩,h2⟩
 | .call s g args hp k,h=>by
  obtain ⟨r,hv,h⟩:=h
  obtain ⟨a,h1,h2⟩:=reach_xb h
  exact ⟨a,⟨r,hv,h1⟩,h2⟩
 | .loop s rd b st k,h=>by
  obtain ⟨e,st',hv,h⟩:=h
  obtain ⟨a,h1,h2⟩:=reach_xb h
  exact ⟨a,⟨e,st',hv,h1⟩,h2⟩
 | .norm s st k,h=>by
  obtain ⟨a,h1,h2⟩:=reach_xb (m:=k st) h
  exact ⟨a,h1,h2⟩
 | .open s st k,h=>by
  obtain ⟨st',hto,h⟩:=h
  obtain ⟨a,h1,h2⟩:=reach_xb (m:=k st') h
  exact ⟨a,⟨st',hto,h1⟩,h2⟩
theorem snd_xb {α β:Type} {m:T α} {k0:α→T β} {U:α→Prop} {W:β→Prop} (h:Snd C f N m U) (k:∀ a,U a→Snd C f N (k0 a) W):Snd C f N (xb m k0) W:=by
 intro x hx
 obtain ⟨a,h1,h2⟩:=reach_xb hx
 exact k a (h a h1) x h2
theorem snd_xlift {α:Type} {o:Option α}:Snd C f N (xlift o) (fun x=>o=some x):=by
 intro x hx
 cases o with
 | some a=>have hx:x=a:=hx;rw [hx]
 | none=>exact hx.elim
theorem snd_xchk {s:Nat} {b:Bool}:Snd C f N (xchk s b) (fun _=>b=true):=fun x hx=>hx.1
theorem snd_xcond {s:Nat} {b:Bool}:Snd C f N (xcond s b) (fun x=>b=x):=by
 intro x hx
 rcases hx with ⟨h1,h2⟩ | ⟨h1,h2⟩
 ·have h2:x=true:=h2;rw [h1,h2]
 ·have h2:x=false:=h2;rw [h1,h2]
theorem snd_xopt {s:Nat} {o:Option V}:Snd C f N (xopt s o) (fun x=>o=some x):=by
 intro x hx
 obtain ⟨v,h1,h2⟩:=hx
 have h2:x=v:=h2
 rw [h1,h2]
theorem snd_xmf {s:Nat} {o:Option (Option (Nat×V))}:Snd C f N (xmf s o) (fun x=>o=some x):=by
 intro x hx
 obtain ⟨v,h1,h2⟩:=hx
 have h2:x=v:=h2
 rw [h1,h2]
theorem snd_xcall {s:Nat} {g:FuncId} {args:List V} {h:List Blk}:Snd C f N (.call s g args h .ret) (fun r=>FactO C g args h r):=by
 intro x hx
 obtain ⟨r,h1,h2⟩:=hx
 have h2:x=r:=h2
 rw [h2];exact h1
end
def xapp (si:Nat) (e:TypeId) (sz:Nat) (s:V) (ys:List V):T (Nat×V) :=
 match s with
 | .nils=>xb (xcond si ys.isEmpty) fun t=>if t then xp (0,.nils) else xp (ys.length,.lin true e sz ys)
 | .imm true n xs=>xb (xcond si ys.isEmpty) fun t=>if t then xp (xs.length,.imm true n xs) else if n=sz then xp (xs.length+ys.length,.lin true e sz (xs++ys)) else xf
 | .lin p e' n xs=>if n=sz∧e'=e then xp (xs.length+ys.length,.lin p e sz (xs++ys)) else xf
 | _=>xf
theorem snd_xapp {C:Cx} {f:FuncId} {N:Nat} {si:Nat} {e:TypeId} {sz:Nat} {s:V} {ys:List V}:Snd C f N (xapp si e sz s ys) (fun r=>vappend e sz s ys=some r):=by
 unfold xapp
 split
 ·refine snd_xb snd_xcond (fun t ht=>?_)
  cases ys with
  | nil=>cases ht;exact snd_xp rfl
  | cons y ys=>cases ht;exact snd_xp rfl
 ·refine snd_xb snd_xcond (fun t ht=>?_)
  cases ys with
  | nil=>cases ht;exact snd_xp rfl
  | cons y ys =>
   cases ht
   rw [if_neg (by simp)]
   split
   ·rename_i h
    exact snd_xp (by unfold vappend;dsimp only;rw [if_pos h])
   ·exact snd_xf
 ·split
  ·rename_i h
   exact snd_xp (by unfold vappend;dsimp only;rw [if_pos h])
  ·exact snd_xf
 ·exact snd_xf
def site (o:Oper):Nat:=match o.dst,o.op with
 | some d,_=>d
 | none,.store _ (.tmp t) _=>3000+t
 | _,_=>999
inductive Rs where
 | val (v:V) (st:St)
 | pan (v:V) (st:St)
def xres (C:Cx) (f:FuncId) (o:Oper) (st':St):FOut→T Rs
 | .ret v _=>match o.dst with
  | some d=>if (C.thaw f).contains d then match thaw1 C.P st'.h ((elemT C.P o.type).getD 0) v with
    | some (v,h)=>if isLin3 (getS st'.fr d) then xf else xp (.val v {st' with h:=h})
    | none=>xf
   else xp (.val v st')
  | none=>xp (.val .undef st')
 | .pan v _=>xp (.pan v st')
def xresH (st':St):FOut→T Rs
 | .ret v h=>if dfKeep st'.df h then xp (.val v {st' with h:=h}) else xf
 | .pan v h=>if dfKeep st'.df h then xp (.pan v {st' with h:=h}) else xf
def xgrow (P:Program) (s:Nat) (t tx e:TypeId) (sz id off len room:Nat) (cs:List V) (e':TypeId) (m:Nat) (ys:List V) (st:St):T Rs :=
 match bytesT P e,zeroT P e with
 | some by_,some z=>xb (xchk s (decide (t=tx∧e'=e∧off=0∧0<sz∧0<by_∧z.cells.length=sz∧ys.length=m*sz∧len*sz≤cs.length∧0<m∧(len+m)*by_≤2 ^ 47)&&okV z&&(ys.all fun c=>!isLin1 c&&okV c)&&((cs.take (len*sz)).all fun c=>!isLin1 c&&okV c))) fun _ =>
   xp (.val (.own st.h.length 0 (len+m) (len+m)) {st with h:=(st.h.set id .gone)++[.cells (cs.take (len*sz)++ys) e]})
 | _,_=>xf
def xnew (P:Program) (si:Nat) (t tx e:TypeId) (st:St) (s x:V):T Rs :=
 match bytesT P e,sizeT P e,zeroT P e with
 | some by_,some sz,some z=>match (match s with | .nils=>some [] | .imm true n xs=>if n=sz then some xs else none | _=>none),ownSrc st.h sz x with
  | some xs,some (m,ys)=>xb (xcond (5000+si) (decide (0<m))) fun b=>match b with
   | true=>xb (xchk (6000+si) (decide (t=tx∧0<sz∧0<by_∧z.cells.length=sz∧ys.length=m*sz∧(xs.length+m)*by_≤2 ^ 47)&&okV z&&(ys.all fun c=>!isLin1 c&&okV c))) fun _ =>
    xp (.val (.own st.h.length 0 (xs.length+m) (xs.length+m)) {st with h:=st.h++[.cells (xs.flatMap V.cells++ys) e]})
   | false=>xb (xchk (6000+si) (decide (t=tx∧0<sz))) fun _=>xp (.val s st)
  | _,_=>xf
 | _,_,_=>xf
def xop (C:Cx) (f:FuncId) (o:Oper) (st:St):T Rs :=
 match o.op with
 | .pick c a b=>match st.peek c with
  | .bool t=>xb (xcond (site o) t) fun t=>match t with
   | true=>xp (.val (st.useV a) (st.useS a))
   | false=>xp (.val (st.useV b) (st.useS b))
  | _=>xf
 | .load t a=>match isAggT C.P t,sizeT C.P t with
  | some g,some n=>match st.peek a with
   | .ptr id off=>match st.h[id]? with
    | some (.cells cs e)=>xb (xchk (site o) (decide (off+n≤cs.length))) fun _ =>
      let c:=(cs.drop off).take n
      match o.dst with
      | some d =>
       if (C.tr f).contains d then xb (xlift (ofCells g c)) fun v=>xp (.val v {st with h:=st.h.set id (.cells (setAt cs off (c.map drop1)) e)})
       else xb (xopt (site o) (ofCells g (c.map demote1))) fun v=>xb (xcond (site o) (c.any isLin1)) fun t=>match t with
        | true=>xp (.val v {st with h:=st.h.set id (.cells (setAt cs off (c.map mark1)) e)})
        | false=>xp (.val v st)
      | none=>xf
    | _=>xf
   | .iptr x off=>if off+n≤x.cells.length then xb (xlift (ofCells g ((x.cells.drop off).take n))) fun v=>xp (.val v st) else xf
   | _=>xf
  | _,_=>xf
 | .store t a x=>match (if o.dst=none then sizeT C.P t else none) with
  | some n=>match st.peek a with
   | .ptr id off=>match st.h[id]? with
    | some (.cells cs e)=>if okV (st.peek x)∧(st.peek x).cells.length=n then xb (xchk (site o) (decide (off+n≤cs.length))) fun _ =>
      let st':=st.takeS x
      xp (.val .undef {st' with h:=st'.h.set id (.cells (setAt cs off (st.peek x).cells) e)})
     else xf
    | _=>xf
   | _=>xf
  | none=>xf
 | .binOp op t x y _=>match vnil C.P op t (st.peek x) y with
  | some b=>xp (.val (.bool b) st)
  | none=>xb (xopt (site o) (vbin C.P op t (st.peek x) (st.peek y))) fun v=>xp (.val v st)
 | .unOp op _ x=>xb (xopt (site o) (vun C.P op (st.peek x))) fun v=>xp (.val v st)
 | .convert src dst x=>match vbytes C.P src dst (st.peek x) with
  | some (m,v)=>xb (xchk (site o) (decide (m≤2 ^ 47))) fun _=>xp (.val v st)
  | none=>xb (xopt (site o) (vconv C.P src dst (st.peek x))) fun v=>xp (.val v st)
 | .makeSlice t l c=>match elemT C.P t with
  | some e=>match sizeT C.P e,bytesT C.P e,zeroT C.P e,st.peek l,st.peek c with
   | some sz,some by_,some z,.int _ n,.int _ m =>
    xb (xchk (site o) (decide (0≤n∧n≤m∧m*by_≤2 ^ 47∧m≤2 ^ 47∧z.cells.length=sz∧0<sz∧okV z=true))) fun _ =>
     if flat2 z∧!((C.thaw f).contains (o.dst.getD 0)) then xb (xchk (7000+site o) (decide (n=m))) fun _=>xp (.val (.imm true sz (List.replicate n.toNat z)) st)
     else xp (.val (.own st.h.length 0 n.toNat m.toNat) {st with h:=st.h++[.cells ((List.replicate m.toNat z.cells).flatten) e]})
   | _,_,_,_,_=>xf
  | none=>xf
 | .slice t x lo hi mx=>match st.peek x with
  | .own bid off len room=>match optInt id (lo.map st.peek),optInt id (hi.map st.peek),optInt id (mx.map st.peek),(elemT C.P t).bind (sizeT C.P) with
   | some l,some h,some m,some sz=>if mx.isSome&&hi.isNone then xf else
    xb (xcond (5000+site o) (mx.isSome&&decide (0≤l.getD 0∧l.getD 0=m.getD 0∧h.getD len=m.getD 0∧l.getD 0≤(max len room:Nat)∧0<sz))) fun b=>match b with
     | true=>xp (.val (.imm true sz []) st)
     | false=>xb (xchk (site o) (decide (0≤l.getD 0∧l.getD 0≤h.getD len∧h.getD len≤m.getD (max len room)∧m.getD (max len room)≤(max len room:Nat))&&(ownSz C.P st.h bid==some sz))) fun _ =>
      xp (.val (.own bid (off+(l.getD 0).toNat*sz) ((h.getD len).toNat-(l.getD 0).toNat) ((m.getD (max len room)).toNat-(l.getD 0).toNat)) st)
   | _,_,_,_=>xf
  | _=>match optInt id (lo.map st.peek),optInt id (hi.map st.peek),optInt id (mx.map st.peek) with
  | some l,some h,some m=>xb (xlift (vslice C.P t (st.peek x) l h m)) fun q=>match m with
    | none=>xb (xchk (site o) (decide (0≤q.1∧q.1≤q.2.1∧q.2.1≤q.2.2.1))) fun _=>xp (.val q.2.2.2 (st.useS x))
    | some m=>xb (xchk (site o) (decide (0≤q.1∧q.1≤q.2.1∧q.2.1≤q.2.2.1∧m=q.2.1))) fun _=>xp (.val q.2.2.2 (st.useS x))
  | _,_,_=>xf
 | .indexAddr t x i=>match st.peek i with
  | .int _ n=>match st.peek x with
   | .imm _ m xs=>if (elemT C.P t).bind (sizeT C.P)=some m then xb (xopt (site o) (idx xs n)) fun e=>xp (.val (.iptr e 0) st) else xf
   | .lin _ _ m xs=>if (elemT C.P t).bind (sizeT C.P)=some m then xb (xopt (site o) (idx xs n)) fun e=>xp (.val (.iptr e 0) (st.useS x)) else xf
   | .own id off len _=>match (elemT C.P t).bind (sizeT C.P) with
    | some sz=>xb (xchk (site o) (decide (0≤n∧n<len))) fun _=>xp (.val (.ptr id (off+n.toNat*sz)) st)
    | none=>xf
   | .iptr e off=>match C.P.underlying t with
    | some (.array m el)=>match sizeT C.P el with
     | some sz=>xb (xchk (site o) (decide (0≤n∧n<m))) fun _=>xp (.val (.iptr e (off+n.toNat*sz)) st)
     | none=>xf
    | _=>xf
   | .ptr id off=>match C.P.underlying t with
    | some (.array m el)=>match sizeT C.P el with
     | some sz=>xb (xchk (site o) (decide (0≤n∧n<m))) fun _=>xp (.val (.ptr id (off+n.toNat*sz)) st)
     | none=>xf
    | _=>xf
   | _=>xf
  | _=>xf
 | .index t x i=>match C.P.underlying t with
  | some .string=>match st.peek x,st.peek i with
   | .str s,.int _ n=>xb (xopt (site o) ((idx s.data.toList n).map fun b=>.int .u8 b.toNat)) fun v=>xp (.val v st)
   | _,_=>xf
  | _=>xf
 | .next x true=>match st.peek x with
  | .ptr id 0=>match st.h[id]? with
   | some (.iter s p)=>xb (xcond (site o) (decide (p<s.size))) fun b=>match b with
    | true=>xp (.val (.tup [.bool true,.int .i64 p,.int .i32 (Utf8.decode s p).1]) {st with h:=st.h.set id (.iter s (p+(Utf8.decode s p).2))})
    | false=>xp (.val (.tup [.bool false]) st)
   | _=>xf
  | _=>xf
 | .mapUpdate t m kx x | .insert t m kx x=>match C.P.underlying t,st.peek m,toVal1 (st.peek kx) with
  | some (.map kt _),.obj 0 id,some kv=>match C.P.underlying kt,st.h[id]? with
   | some kd,some (.mp es)=>xb (xchk (6000+site o) ((Instr.sameNow kd kv kv==some true)&&o.dst.isNone&&!isLin2 (st.peek x)&&okV (st.peek x))) fun _=>xb (xmf (site o) (findV kd kv es 0)) fun
     | none=>xp (.val .undef {st with h:=st.h.set id (.mp (es++[(st.peek kx,st.peek x)]))})
     | some (i,_)=>xp (.val .undef {st with h:=st.h.set id (.mp (es.set i (st.peek kx,st.peek x)))})
   | _,_=>xf
  | _,_,_=>xf
 | .lookup t m kx ok=>match C.P.underlying t,st.peek m,toVal1 (st.peek kx) with
  | some (.map kt et),.obj 0 id,some kv=>match C.P.underlying kt,st.h[id]?,zeroT C.P et with
   | some kd,some (.mp es),some z=>xb (xchk (6000+site o) ((Instr.sameNow kd kv kv==some true)&&okV z)) fun _=>xb (xmf (site o) (findV kd kv es 0)) fun
     | none=>if ok then xp (.val (.tup [z,.bool false]) st) else xp (.val z st)
     | some (_,v)=>if ok then xp (.val (.tup [v,.bool true]) st) else xp (.val v st)
   | _,_,_=>xf
  | _,_,_=>xf
 | .panic x=>match st.peek x with
  | .iface t v=>xp (.pan (.iface t v) st)
  | _=>xf
 | .call c=>match c.callee with
  | .builtin .append=>match c.args.toList,c.argTypes.toList with
   | [s,x],[t,tx]=>match elemT C.P t,elemT C.P tx with
    | some e,some _=>match st.peek s with
     | .own bid off len room=>match sizeT C.P e,st.h[bid]? with
      | some sz,some (.cells cs e')=>match ownSrc st.h sz (st.peek x) with
       | some (m,ys)=>xb (xcond (5000+site o) (decide (len+m≤room))) fun b=>match b with
        | true=>xb (xchk (6000+site o) (decide (t=tx∧0<sz∧ys.length=m*sz∧off+(len+m)*sz≤cs.length)&&ys.all fun c=>!isLin1 c&&okV c)) fun _ =>
         xp (.val (.own bid off (len+m) room) {st with h:=st.h.set bid (.cells (setAt cs (off+len*sz) ys) e')})
        | false=>xgrow C.P (6000+site o) t tx e sz bid off len room cs e' m ys st
       | none=>xf
      | _,_=>xf
     | _=>if isOwnV (st.peek x)||(C.thaw f).contains (o.dst.getD 0) then xnew C.P (site o) t tx e st (st.peek s) (st.peek x) else match bytesT C.P e,sizeT C.P e,zeroT C.P e,elems (st.peek x) with
     | some by_,some sz,some z,some (m,ys)=>xb (xchk (6000+site o) (decide (t=tx)&&(decide (m=sz)||ys.isEmpty)&&decide (0<sz)&&decide (0<by_)&&okV z&&decide (z.cells.length=sz))) fun _ =>
      let st1:=st.useS x
      xb (xapp (site o) e sz (st1.peek s) ys) fun q =>
      xb (xchk (site o) (decide (q.1*by_≤2 ^ 47))) fun _=>if isLin3 (getS (st1.takeS s).fr (o.dst.getD 0)) then xf else xp (.val q.2 (st1.takeS s))
     | _,_,_,_=>xf
    | _,_=>xf
   | _,_=>xf
  | .builtin .clear=>match c.args.toList,c.argTypes.toList with
   | [x],[t]=>match elemT C.P t,st.peek x with
    | some e,.own bid off len _=>match sizeT C.P e,zeroT C.P e,st.h[bid]? with
     | some sz,some z,some (.cells cs e')=>xb (xchk (site o) (decide (0<sz∧z.cells.length=sz∧okV z=true∧flat2 z=true∧o.dst.isNone=true∧off+len*sz≤cs.length))) fun _ =>
       xp (.val .undef {st with h:=st.h.set bid (.cells (setAt cs off (List.replicate len z.cells).flatten) e')})
     | _,_,_=>xf
    | _,_=>xf
   | _,_=>xf
  | .builtin .copy=>match c.args.toList,c.argTypes.toList with
   | [d,x],[t,_]=>match st.peek d,(elemT C.P t).bind (sizeT C.P) with
    | .own id off len _,some sz=>match st.h[id]? with
     | some (.cells cs e')=>match ownSrc st.h sz (st.peek x) with
      | some (m,ys)=>xb (xchk (site o) (decide (0<sz∧ys.length=m*sz∧off+(min m len)*sz≤cs.length)&&ys.all fun c=>!isLin1 c&&okV c)) fun _ =>
        xp (.val (.int .i64 (min m len)) {st with h:=st.h.set id (.cells (setAt cs off (ys.take (min m len*sz))) e')})
      | none=>xf
     | _=>xf
    | _,_=>xf
   | _,_=>xf
  | .value g=>match st.peek g with
   | .fn (.func g) first caps =>
    let args:=first++(c.args.toList.map st.useV)++caps
    let st':=st.useAll c.args.toList
    if yBase≤g then xf else
    if args.all flat2&&!C.heapy g then match vext C.P g args with
     | some v=>xres C f o st' (.ret v [])
     | none=>xb (.call (site o) g args [] .ret) (xres C f o st')
    else xb (.call (site o) g args st'.h .ret) (xresH st')
   | .obj 1 id=>xb (.call (site o) (yBase+id) (c.args.toList.map st.useV) (st.useAll c.args.toList).h .ret) fun
     | .ret v h=>if dfKeep (st.useAll c.args.toList).df h then xp (.val v {(st.useAll c.args.toList) with h:=h}) else xf
     | .pan _ _=>xf
   | _=>xf
  | _=>xb (xlift (vop C (fun _ _ _=>none) f o st (fun v s=>some (v,s)) (fun _ _=>none))) fun q=>xp (.val q.1 q.2)
 | _=>xb (xlift (vop C (fun _ _ _=>none) f o st (fun v s=>some (v,s)) (fun _ _=>none))) fun q=>xp (.val q.1 q.2)
noncomputable section
def xnat (C:Cx) (f:FuncId) (o:Oper) (st:St):T Rs:=xb (xlift (vopF C (fun _ _ _=>none) f o st (fun v s=>some (v,s)) (fun _ _=>none))) fun q=>xp (.val q.1 q.2)
theorem xnat_eq {C:Cx} {f:FuncId} {o:Oper} {st:St}:xnat C f o st=xb (xlift (vop C (fun _ _ _=>none) f o st (fun v s=>some (v,s)) (fun _ _=>none))) fun q=>xp (.val q.1 q.2):=by
 unfold xnat
 rw [vopF_eq]
def xop_pick (C:Cx) (f:FuncId) (o:Oper) (st:St) (c:Operand) (a:Operand) (b:Operand):T Rs:=match st.peekF c with
  | .bool t=>xb (xcond (site o) t) fun t=>match t with
   | true=>xp (.val (st.useVF a) (st.useSF a))
   | false=>xp (.val (st.useVF b) (st.useSF b))
  | _=>xf
def xop_load (C:Cx) (f:FuncId) (o:Oper) (st:St) (t:TypeId) (a:Operand):T Rs:=match isAggT C.P t,sizeT C.P t with
  | some g,some n=>match st.peekF a with
   | .ptr id off=>match (getO st.h id) with
    | some (.cells cs e)=>xb (xchk (site o) (decide (off+n≤cs.length))) fun _ =>
      let c:=(cs.drop off).take n
      match o.dst with
      | some d =>
       if (C.tr f).contains d then xb (xlift (ofCells g c)) fun v=>xp (.val v {st with h:=setF st.h id (.cells (setAt cs off (c.map drop1)) e)})
       else xb (xopt (site o) (ofCells g (c.map demote1))) fun v=>xb (xcond (site o) (c.any isLin1)) fun t=>match t with
        | true=>xp (.val v {st with h:=setF st.h id (.cells (setAt cs off (c.map mark1)) e)})
        | false=>xp (.val v st)
      | none=>xf
    | _=>xf
   | .iptr x off=>if off+n≤x.cells.length then xb (xlift (ofCells g ((x.cells.drop off).take n))) fun v=>xp (.val v st) else xf
   | _=>xf
  | _,_=>xf
def xop_store (C:Cx) (f:FuncId) (o:Oper) (st:St) (t:TypeId) (a:Operand) (x:Operand):T Rs:=match (if o.dst=none then sizeT C.P t else none) with
  | some n=>match st.peekF a with
   | .ptr id off=>match (getO st.h id) with
    | some (.cells cs e)=>if okV (st.peekF x)∧(st.peekF x).cells.length=n then xb (xchk (site o) (decide (off+n≤cs.length))) fun _ =>
      let st':=st.takeSF x
      xp (.val .undef {st' with h:=setF st'.h id (.cells (setAt cs off (st.peekF x).cells) e)})
     else xf
    | _=>xf
   | _=>xf
  | none=>xf
def xop_binOp (C:Cx) (f:FuncId) (o:Oper) (st:St) (op:BinOp) (t:TypeId) (x:Operand) (y:Operand):T Rs:=match vnil C.P op t (st.peekF x) y with
  | some b=>xp (.val (.bool b) st)
  | none=>xb (xopt (site o) (vbin C.P op t (st.peekF x) (st.peekF y))) fun v=>xp (.val v st)
def xop_unOp (C:Cx) (f:FuncId) (o:Oper) (st:St) (op:UnOp) (x:Operand):T Rs:=xb (xopt (site o) (vun C.P op (st.peekF x))) fun v=>xp (.val v st)
def xop_convert (C:Cx) (f:FuncId) (o:Oper) (st:St) (src:TypeId) (dst:TypeId) (x:Operand):T Rs:=match vbytes C.P src dst (st.peekF x) with
  | some (m,v)=>xb (xchk (site o) (decide (m≤2 ^ 47))) fun _=>xp (.val v st)
  | none=>xb (xopt (site o) (vconv C.P src dst (st.peekF x))) fun v=>xp (.val v st)
def xop_makeSlice (C:Cx) (f:FuncId) (o:Oper) (st:St) (t:TypeId) (l:Operand) (c:Operand):T Rs:=match elemT C.P t with
  | some e=>match sizeT C.P e,bytesT C.P e,zeroT C.P e,st.peekF l,st.peekF c with
   | some sz,some by_,some z,.int _ n,.int _ m =>
    xb (xchk (site o) (decide (0≤n∧n≤m∧m*by_≤2 ^ 47∧m≤2 ^ 47∧z.cells.length=sz∧0<sz∧okV z=true))) fun _ =>
     if flat2 z∧!((C.thaw f).contains (o.dst.getD 0)) then xb (xchk (7000+site o) (decide (n=m))) fun _=>xp (.val (.imm true sz (List.replicate n.toNat z)) st)
     else xp (.val (.own st.h.length 0 n.toNat m.toNat) {st with h:=st.h++[.cells ((List.replicate m.toNat z.cells).flatten) e]})
   | _,_,_,_,_=>xf
  | none=>xf
def xop_slice (C:Cx) (f:FuncId) (o:Oper) (st:St) (t:TypeId) (x:Operand) (lo:Option Operand) (hi:Option Operand) (mx:Option Operand):T Rs:=match st.peekF x with
  | .own bid off len room=>match optInt id (lo.map st.peekF),optInt id (hi.map st.peekF),optInt id (mx.map st.peekF),(elemT C.P t).bind (sizeT C.P) with
   | some l,some h,some m,some sz=>if mx.isSome&&hi.isNone then xf else
    xb (xcond (5000+site o) (mx.isSome&&decide (0≤l.getD 0∧l.getD 0=m.getD 0∧h.getD len=m.getD 0∧l.getD 0≤(max len room:Nat)∧0<sz))) fun b=>match b with
     | true=>xp (.val (.imm true sz []) st)
     | false=>xb (xchk (site o) (decide (0≤l.getD 0∧l.getD 0≤h.getD len∧h.getD len≤m.getD (max len room)∧m.getD (max len room)≤(max len room:Nat))&&(ownSzF C.P st.h bid==some sz))) fun _ =>
      xp (.val (.own bid (off+(l.getD 0).toNat*sz) ((h.getD len).toNat-(l.getD 0).toNat) ((m.getD (max len room)).toNat-(l.getD 0).toNat)) st)
   | _,_,_,_=>xf
  | _=>match optInt id (lo.map st.peekF),optInt id (hi.map st.peekF),optInt id (mx.map st.peekF) with
  | some l,some h,some m=>xb (xlift (vslice C.P t (st.peekF x) l h m)) fun q=>match m with
    | none=>xb (xchk (site o) (decide (0≤q.1∧q.1≤q.2.1∧q.2.1≤q.2.2.1))) fun _=>xp (.val q.2.2.2 (st.useSF x))
    | some m=>xb (xchk (site o) (decide (0≤q.1∧q.1≤q.2.1∧q.2.1≤q.2.2.1∧m=q.2.1))) fun _=>xp (.val q.2.2.2 (st.useSF x))
  | _,_,_=>xf
def xop_indexAddr (C:Cx) (f:FuncId) (o:Oper) (st:St) (t:TypeId) (x:Operand) (i:Operand):T Rs:=match st.peekF i with
  | .int _ n=>match st.peekF x with
   | .imm _ m xs=>if (elemT C.P t).bind (sizeT C.P)=some m then xb (xopt (site o) (idx xs n)) fun e=>xp (.val (.iptr e 0) st) else xf
   | .lin _ _ m xs=>if (elemT C.P t).bind (sizeT C.P)=some m then xb (xopt (site o) (idx xs n)) fun e=>xp (.val (.iptr e 0) (st.useSF x)) else xf
   | .own id off len _=>match (elemT C.P t).bind (sizeT C.P) with
    | some sz=>xb (xchk (site o) (decide (0≤n∧n<len))) fun _=>xp (.val (.ptr id (off+n.toNat*sz)) st)
    | none=>xf
   | .iptr e off=>match C.P.underlying t with
    | some (.array m el)=>match sizeT C.P el with
     | some sz=>xb (xchk (site o) (decide (0≤n∧n<m))) fun _=>xp (.val (.iptr e (off+n.toNat*sz)) st)
     | none=>xf
    | _=>xf
   | .ptr id off=>match C.P.underlying t with
    | some (.array m el)=>match sizeT C.P el with
     | some sz=>xb (xchk (site o) (decide (0≤n∧n<m))) fun _=>xp (.val (.ptr id (off+n.toNat*sz)) st)
     | none=>xf
    | _=>xf
   | _=>xf
  | _=>xf
def xop_index (C:Cx) (f:FuncId) (o:Oper) (st:St) (t:TypeId) (x:Operand) (i:Operand):T Rs:=match C.P.underlying t with
  | some .string=>match st.peekF x,st.peekF i with
   | .str s,.int _ n=>xb (xopt (site o) ((idx s.data.toList n).map fun b=>.int .u8 b.toNat)) fun v=>xp (.val v st)
   | _,_=>xf
  | _=>xf
def xop_next_true (C:Cx) (f:FuncId) (o:Oper) (st:St) (x:Operand):T Rs:=match st.peekF x with
  | .ptr id 0=>match (getO st.h id) with
   | some (.iter s p)=>xb (xcond (site o) (decide (p<s.size))) fun b=>match b with
    | true=>xp (.val (.tup [.bool true,.int .i64 p,.int .i32 (Utf8.decode s p).1]) {st with h:=setF st.h id (.iter s (p+(Utf8.decode s p).2))})
    | false=>xp (.val (.tup [.bool false]) st)
   | _=>xf
  | _=>xf
def xop_mapUpdate (C:Cx) (f:FuncId) (o:Oper) (st:St) (t:TypeId) (m:Operand) (kx:Operand) (x:Operand):T Rs:=match C.P.underlying t,st.peekF m,toVal1 (st.peekF kx) with
  | some (.map kt _),.obj 0 id,some kv=>match C.P.underlying kt,(getO st.h id) with
   | some kd,some (.mp es)=>xb (xchk (6000+site o) ((Instr.sameNow kd kv kv==some true)&&o.dst.isNone&&!isLin2 (st.peekF x)&&okV (st.peekF x))) fun _=>xb (xmf (site o) (findV kd kv es 0)) fun
     | none=>xp (.val .undef {st with h:=setF st.h id (.mp (es++[(st.peekF kx,st.peekF x)]))})
     | some (i,_)=>xp (.val .undef {st with h:=setF st.h id (.mp (es.set i (st.peekF kx,st.peekF x)))})
   | _,_=>xf
  | _,_,_=>xf
def xop_insert (C:Cx) (f:FuncId) (o:Oper) (st:St) (t:TypeId) (m:Operand) (kx:Operand) (x:Operand):T Rs:=match C.P.underlying t,st.peekF m,toVal1 (st.peekF kx) with
  | some (.map kt _),.obj 0 id,some kv=>match C.P.underlying kt,(getO st.h id) with
   | some kd,some (.mp es)=>xb (xchk (6000+site o) ((Instr.sameNow kd kv kv==some true)&&o.dst.isNone&&!isLin2 (st.peekF x)&&okV (st.peekF x))) fun _=>xb (xmf (site o) (findV kd kv es 0)) fun
     | none=>xp (.val .undef {st with h:=setF st.h id (.mp (es++[(st.peekF kx,st.peekF x)]))})
     | some (i,_)=>xp (.val .undef {st with h:=setF st.h id (.mp (es.set i (st.peekF kx,st.peekF x)))})
   | _,_=>xf
  | _,_,_=>xf
def xop_lookup (C:Cx) (f:FuncId) (o:Oper) (st:St) (t:TypeId) (m:Operand) (kx:Operand) (ok:Bool):T Rs:=match C.P.underlying t,st.peekF m,toVal1 (st.peekF kx) with
  | some (.map kt et),.obj 0 id,some kv=>match C.P.underlying kt,(getO st.h id),zeroT C.P et with
   | some kd,some (.mp es),some z=>xb (xchk (6000+site o) ((Instr.sameNow kd kv kv==some true)&&okV z)) fun _=>xb (xmf (site o) (findV kd kv es 0)) fun
     | none=>if ok then xp (.val (.tup [z,.bool false]) st) else xp (.val z st)
     | some (_,v)=>if ok then xp (.val (.tup [v,.bool true]) st) else xp (.val v st)
   | _,_,_=>xf
  | _,_,_=>xf
def xop_panic (C:Cx) (f:FuncId) (o:Oper) (st:St) (x:Operand):T Rs:=match st.peekF x with
  | .iface t v=>xp (.pan (.iface t v) st)
  | _=>xf
def xopC_append (C:Cx) (f:FuncId) (o:Oper) (st:St) (c:Call):T Rs:=match c.args.toList,c.argTypes.toList with
   | [s,x],[t,tx]=>match elemT C.P t,elemT C.P tx with
    | some e,some _=>match st.peekF s with
     | .own bid off len room=>match sizeT C.P e,(getO st.h bid) with
      | some sz,some (.cells cs e')=>match ownSrcF st.h sz (st.peekF x) with
       | some (m,ys)=>xb (xcond (5000+site o) (decide (len+m≤room))) fun b=>match b with
        | true=>xb (xchk (6000+site o) (decide (t=tx∧0<sz∧ys.length=m*sz∧off+(len+m)*sz≤cs.length)&&ys.all fun c=>!isLin1 c&&okV c)) fun _ =>
         xp (.val (.own bid off (len+m) room) {st with h:=setF st.h bid (.cells (setAt cs (off+len*sz) ys) e')})
        | false=>xgrow C.P (6000+site o) t tx e sz bid off len room cs e' m ys st
       | none=>xf
      | _,_=>xf
     | _=>if isOwnV (st.peekF x)||(C.thaw f).contains (o.dst.getD 0) then xnew C.P (site o) t tx e st (st.peekF s) (st.peekF x) else match bytesT C.P e,sizeT C.P e,zeroT C.P e,elems (st.peekF x) with
     | some by_,some sz,some z,some (m,ys)=>xb (xchk (6000+site o) (decide (t=tx)&&(decide (m=sz)||ys.isEmpty)&&decide (0<sz)&&decide (0<by_)&&okV z&&decide (z.cells.length=sz))) fun _ =>
      let st1:=st.useSF x
      xb (xapp (site o) e sz (st1.peekF s) ys) fun q =>
      xb (xchk (site o) (decide (q.1*by_≤2 ^ 47))) fun _=>if isLin3 (getF (st1.takeSF s).fr (o.dst.getD 0)) then xf else xp (.val q.2 (st1.takeSF s))
     | _,_,_,_=>xf
    | _,_=>xf
   | _,_=>xf
def xopC_clear (C:Cx) (f:FuncId) (o:Oper) (st:St) (c:Call):T Rs:=match c.args.toList,c.argTypes.toList with
   | [x],[t]=>match elemT C.P t,st.peekF x with
    | some e,.own bid off len _=>match sizeT C.P e,zeroT C.P e,(getO st.h bid) with
     | some sz,some z,some (.cells cs e')=>xb (xchk (site o) (decide (0<sz∧z.cells.length=sz∧okV z=true∧flat2 z=true∧o.dst.isNone=true∧off+len*sz≤cs.length))) fun _ =>
       xp (.val .undef {st with h:=setF st.h bid (.cells (setAt cs off (List.replicate len z.cells).flatten) e')})
     | _,_,_=>xf
    | _,_=>xf
   | _,_=>xf
def xopC_copy (C:Cx) (f:FuncId) (o:Oper) (st:St) (c:Call):T Rs:=match c.args.toList,c.argTypes.toList with
   | [d,x],[t,_]=>match st.peekF d,(elemT C.P t).bind (sizeT C.P) with
    | .own id off len _,some sz=>match (getO st.h id) with
     | some (.cells cs e')=>match ownSrcF st.h sz (st.peekF x) with
      | some (m,ys)=>xb (xchk (site o) (decide (0<sz∧ys.length=m*sz∧off+(min m len)*sz≤cs.length)&&ys.all fun c=>!isLin1 c&&okV c)) fun _ =>
        xp (.val (.int .i64 (min m len)) {st with h:=setF st.h id (.cells (setAt cs off (ys.take (min m len*sz))) e')})
      | none=>xf
     | _=>xf
    | _,_=>xf
   | _,_=>xf
def xopC_value (C:Cx) (f:FuncId) (o:Oper) (st:St) (c:Call) (g:Operand):T Rs:=match st.peekF g with
   | .fn (.func g) first caps =>
    let args:=first++(c.args.toList.map st.useVF)++caps
    let st':=st.useAllF c.args.toList
    if yBase≤g then xf else
    if args.all flat2&&!C.heapy g then match vext C.P g args with
     | some v=>xres C f o st' (.ret v [])
     | none=>xb (.call (site o) g args [] .ret) (xres C f o st')
    else xb (.call (site o) g args st'.h .ret) (xresH st')
   | .obj 1 id=>xb (.call (site o) (yBase+id) (c.args.toList.map st.useVF) (st.useAllF c.args.toList).h .ret) fun
     | .ret v h=>if dfKeep (st.useAllF c.args.toList).df h then xp (.val v {(st.useAllF c.args.toList) with h:=h}) else xf
     | .pan _ _=>xf
   | _=>xf
def xopF (C:Cx) (f:FuncId) (o:Oper) (st:St):T Rs:=match o.op with
 | .pick c a b=>xop_pick C f o st c a b
 | .load t a=>xop_load C f o st t a
 | .store t a x=>xop_store C f o st t a x
 | .binOp op t x y _=>xop_binOp C f o st op t x y
 | .unOp op _ x=>xop_unOp C f o st op x
 | .convert src dst x=>xop_convert C f o st src dst x
 | .makeSlice t l c=>xop_makeSlice C f o st t l c
 | .slice t x lo hi mx=>xop_slice C f o st t x lo hi mx
 | .indexAddr t x i=>xop_indexAddr C f o st t x i
 | .index t x i=>xop_index C f o st t x i
 | .next x true=>xop_next_true C f o st x
 | .mapUpdate t m kx x=>xop_mapUpdate C f o st t m kx x
 | .insert t m kx x=>xop_insert C f o st t m kx x
 | .lookup t m kx ok=>xop_lookup C f o st t m kx ok
 | .panic x=>xop_panic C f o st x
 | .call c=>match c.callee with
  | .builtin .append=>xopC_append C f o st c
  | .builtin .clear=>xopC_clear C f o st c
  | .builtin .copy=>xopC_copy C f o st c
  | .value g=>xopC_value C f o st c g
  | _=>xnat C f o st
 | _=>xnat C f o st
theorem xopF_eq {C:Cx} {f:FuncId} {o:Oper} {st:St}:xopF C f o st=xop C f o st:=by
 unfold xopF xop_pick xop_load xop_store xop_binOp xop_unOp xop_convert xop_makeSlice xop_slice xop_indexAddr xop_index xop_next_true xop_mapUpdate xop_insert xop_lookup xop_panic xopC_append xopC_clear xopC_copy xopC_value
 simp only [getO_eq,getF_eq,setF_eq,peekF_eq,useVF_eq,useSF_eq,takeSF_eq,useAllF_eq,takeAllF_eq,buildVF_eq,ownSrcF_eq,vgrowF_eq,vnewF_eq,vbltF_eq,ownSzF_eq,xnat_eq]
 obtain ⟨dst,op,type,pos,after,guard⟩:=o
 cases op<;>rfl
def xops (C:Cx) (f:FuncId) (rd:Bool) (all:List Oper):List Oper→St→T (Ex×St)
 | [],st=>xp (.normal,st)
 | o::r,st =>
  match o.guard with
  | none=>match deferOf o with
   | some c=>if rd then xf else match vdefer o st c with
    | some st'=>xops C f rd all r st'
    | none=>xf
   | none=>xb (xopF C f o st) fun
    | .val v st'=>.open (8000+site o) (putF st' o.dst v) fun st=>xops C f rd all r st
    | .pan v st'=>xp (.pan v,st')
  | some (j,want)=>xb (xlift (wantedVF all st.fr j want)) fun b=>xb (xcond (1000+site o) b) fun b=>match b with
   | true=>xb (xopF C f o st) fun
    | .val v st'=>.open (8000+site o) (putF st' o.dst v) fun st=>xops C f rd all r st
    | .pan v st'=>xp (.pan v,st')
   | false=>.norm (9000+site o) (putF st o.dst (.tup [])) fun st=>xops C f rd all r st
def xkind (C:Cx) (f:FuncId) (o:Oper) (st:St) (h2:List Blk):T Kd:=match o.op with
 | .load t a=>match st.peekF a with
  | .ptr id off=>match getO st.h id,sizeT C.P t with
   | some (.cells cs _),some n=>xb (xcond (5000+site o) ((C.tr f).contains (o.dst.getD 0)||((cs.drop off).take n).any isLin1)) fun b=>xp (match b with | true=>.wr id off n | false=>.rd id off n)
   | _,_=>xf
  | .iptr ..=>xp .none
  | _=>xf
 | _=>xp (kindCF C f o st h2)
def xdraw (C:Cx) (f:FuncId) (un:List Nat) (h0:Nat) (ops:List Oper):List Nat→List (Nat×Kd)→St→T (Ex×St)
 | [],_,st=>xp (.normal,st)
 | i::r,acc,st=>match getO ops i with
  | none=>xf
  | some o=>if !involvedF un i||decide (h0≤st.h.length) then
   xb (xlift (guardVF ops o st)) fun b=>xb (xcond (1000+site o) b) fun b=>match b with
   | true=>if involvedF un i then
      if calmF (C.tr f) un ops i o st then
       xb (xopF C f o st) fun
        | .val v st'=>xb (xkind C f o st st'.h) fun kd =>
         xb (xchk (5500+site o) (notAny kd&&acc.all fun p=>!unAtF un p.1 i||compatKF h0 p.2 kd)) fun _ =>
         .norm (8000+site o) (putF st' o.dst v) fun st=>xdraw C f un h0 ops r ((i,kd)::acc) st
        | .pan v st'=>if panOk un ops.length i acc&&isCallV o then xp (.pan v,wipe st') else xf
      else xf
     else xb (xopF C f o st) fun
      | .val v st'=>.norm (8000+site o) (putF st' o.dst v) fun st=>xdraw C f un h0 ops r acc st
      | .pan v st'=>if panOk un ops.length i acc&&isCallV o then xp (.pan v,wipe st') else xf
   | false=>.norm (9000+site o) (putF st o.dst (.tup [])) fun st=>xdraw C f un h0 ops r acc st
   else xf
def xend (st:St) (q:Ex×St) (k:St→T (Ex×St)):T (Ex×St):=match q.1 with
 | .normal=>k q.2
 | e=>if Nat.beq q.2.fr.length st.fr.length then xp (e,q.2) else xf
def xexec (C:Cx) (f:FuncId) (rd:Bool):Nat→Code→St→T (Ex×St)
 | 0,_,_=>xf
 | n+1,c,st =>
  match c with
  | .skip | .label _=>xp (.normal,st)
  | .region _ ops false=>xops C f rd ops.toList ops.toList st
  | .region id ops true=>match C.un f id with
   | some un=>match lastFree un ops with
    | true=>xb (xdraw C f un st.h.length ops.toList (List.range (ops.size-1)) [] st) fun q=>xend st q fun st=>xops C f rd ops.toList (ops.toList.drop (ops.size-1)) st
    | false=>xb (xdraw C f un st.h.length ops.toList (List.range ops.size) [] st) fun q=>xend st q fun st=>xp (.normal,st)
   | none=>xf
  | .seq a b=>xb (xexec C f rd n a st) fun q=>match q.1 with
   | .normal=>xexec C f rd n b q.2
   | e=>xp (e,q.2)
  | .cond x a b=>match st.peekF x with
   | .bool t=>xb (xcond (2000+(match x with | .tmp t=>t | _=>0)) t) fun t=>match t with
    | true=>xexec C f rd n a st
    | false=>xexec C f rd n b st
   | _=>xf
  | .block id b=>xb (xexec C f rd n b st) fun q=>xp (inBlk id q.1,q.2)
  | .loop b=>.loop (lkey b) rd b st (fun e st'=>.ret (e,st'))
  | .exit id=>xp (.exit id,st)
  | .ret=>xp (.ret,st)
  | .rangeFunc g ps asg body=>if rd then xf else match st.peekF g with
   | .fn (.func gf) [] caps=>if yBase≤gf then xf else
    xb (.call (20000+firstReg body) gf ([.obj 1 (st.h.length+1)]++caps) (st.h++[.dfr,.loop {state:=.ready,pending:=none,f:=f,fr:=st.fr.map (map3 demote1),ps:=ps,asg:=asg,body:=body}]) .ret) fun
     | .ret _ h2=>match afterRange (st.h.length+1) {st with fr:=st.fr.map (map3 mark1)} h2 with
      | some (e,st')=>.norm (21000+firstReg body) st' fun st'=>xp (e,st')
      | none=>xf
     | .pan _ _=>xf
   | _=>xf
  | _=>xf
end
end Go.Fw
namespace Go.Fw
open Go.RowKit
section
variable {C:Cx} {N:Nat} {rd:Bool} {vb:FuncId→List V→List Blk→Option FOut} {f:FuncId} {o:Oper} {st:St} {α:Type} {k kp:V→St→Option α}
abbrev Nat_ (C:Cx) (vb:FuncId→List V→List Blk→Option FOut) (f:FuncId) (o:Oper) (st:St):Prop :=
 ∀ (α:Type) (k kp:V→St→Option α),vop C vb f o st k kp=(vop C vb f o st (fun v s=>some (v,s)) (fun _ _=>none)).bind fun q=>k q.1 q.2
theorem nat_move {x:Operand} (ho:o.op=.move x):Nat_ C vb f o st:=by
 intro α k kp
 unfold vop
 rw [ho]
 dsimp only
 cases o.dst with
 | none=>rfl
 | some d =>
  dsimp only
  generalize st.peek x=v
  cases v<;>first | rfl | (dsimp only;split<;>rfl)
theorem nat_assign {x:Operand} (ho:o.op=.assign x):Nat_ C vb f o st:=by
 intro α k kp
 unfold vop
 rw [ho]
 rfl
theorem nat_alloc {t:TypeId} (ho:o.op=.alloc t):Nat_ C vb f o st:=by
 intro α k kp
 unfold vop
 rw [ho]
 dsimp only
 split
 ·split<;>rfl
 ·rfl
theorem nat_box {t:TypeId} {x:Operand} (ho:o.op=.box t x):Nat_ C vb f o st:=by
 intro α k kp
 unfold vop
 rw [ho]
 dsimp only
 split<;>rfl
theorem nat_build {t:TypeId} {p:Array (Nat×Operand)} (ho:o.op=.build t p):Nat_ C vb f o st:=by
 intro α k kp
 unfold vop
 rw [ho]
 dsimp only
 split
 ·split
  ·split<;>rfl
  ·rfl
 ·rfl
theorem nat_buildSlice {t:TypeId} {m:Nat} {p:Array (Nat×Operand)} (ho:o.op=.buildSlice t m p):Nat_ C vb f o st:=by
 intro α k kp
 unfold vop
 rw [ho]
 dsimp only
 split
 ·split
  ·split
   ·split
    ·split<;>rfl
    ·rfl
   ·rfl
  ·rfl
 ·rfl
theorem nat_nilCheck {x:Operand} (ho:o.op=.nilCheck x):Nat_ C vb f o st:=by
 intro α k kp
 unfold vop
 rw [ho]
 dsimp only
 split<;>rfl
theorem nat_makeFunc {g:Fn} {x y:Array Operand} (ho:o.op=.makeFunc g x y):Nat_ C vb f o st:=by
 intro α k kp
 unfold vop
 rw [ho]
 dsimp only
 split<;>rfl
theorem nat_fieldAddr {s:TypeId} {x:Operand} {j:Nat} (ho:o.op=.fieldAddr s x j):Nat_ C vb f o st:=by
 intro α k kp
 unfold vop
 rw [ho]
 dsimp only
 split
 ·split
  ·split<;>rfl
  ·rfl
 ·rfl
theorem nat_field {s:TypeId} {x:Operand} {j:Nat} (ho:o.op=.field s x j):Nat_ C vb f o st:=by
 intro α k kp
 unfold vop
 rw [ho]
 dsimp only
 split
 ·split
  ·split
   ·split
    ·split<;>rfl
    ·rfl
   ·rfl
  ·rfl
 ·rfl
theorem nat_extract {x:Operand} {i:Nat} (ho:o.op=.extract x i):Nat_ C vb f o st:=by
 intro α k kp
 unfold vop
 rw [ho]
 dsimp only
 split
 ·split
  ·split<;>rfl
  ·rfl
 ·rfl
theorem nat_len {c:Call} (ho:o.op=.call c) (hb:c.callee=.builtin .len):Nat_ C vb f o st:=by
 intro α k kp
 unfold vop
 rw [ho]
 dsimp only
 rw [hb]
 dsimp only
 split
 ·split
  ·rfl
  ·rfl
  ·split<;>rfl
  ·rfl
 ·rfl
theorem condB_bind {α β:Type} (b:Bool) (x y:Option α) (k:α→Option β):(condB b x y).bind k=condB b (x.bind k) (y.bind k):=by
 cases b
 ·rw [condB_false,condB_false]
 ·rw [condB_true,condB_true]
theorem nat_blt {b:Builtin} {c:Call} (ho:o.op=.call c) (hb:c.callee=.builtin b) (hv:∀ {α:Type} (k kp:V→St→Option α),vop C vb f o st k kp=vblt C.P b o st c k):Nat_ C vb f o st:=by
 intro α k kp
 rw [hv,hv]
 unfold vblt
 split
 ·rfl
 ·rfl
 ·split<;>rfl
 ·split<;>rfl
 ·split
  ·split
   ·rw [condB_bind];rfl
   ·rfl
  ·rfl
 ·rfl
theorem nat_vop2 (hv:∀ {α:Type} (k kp:V→St→Option α),vop C vb f o st k kp=vop2 C.P o st k):Nat_ C vb f o st:=by
 intro α k kp
 rw [hv,hv]
 unfold vop2
 split
 ·split<;>rfl
 ·split
  ·split
   ·rw [condB_bind];rfl
   ·rfl
  ·rfl
 ·rfl
 ·split<;>rfl
 ·split
  ·split
   ·rw [condB_bind]
    congr 1
    split<;>rfl
   ·rfl
  ·rfl
 ·split
  ·split
   ·rw [condB_bind]
    congr 1
    split<;>rfl
   ·rfl
  ·rfl
 ·split
  ·split
   ·rw [condB_bind]
    congr 1
    split
    ·split<;>rfl
    ·split<;>rfl
    ·rfl
   ·rfl
  ·rfl
 ·split
  ·rfl
  ·rw [condB_bind];rfl
  ·rfl
 ·split
  ·rfl
  ·rw [condB_bind];rfl
  ·rw [condB_bind,condB_bind]
   congr 1
   split<;>rfl
  ·rfl
 ·rfl
def Rs.to {α:Type} (r:Rs) (k kp:V→St→Option α):Option α:=match r with
 | .val v s=>k v s
 | .pan v s=>kp v s
abbrev Does (C:Cx) (vb:FuncId→List V→List Blk→Option FOut) (f:FuncId) (o:Oper) (st:St) (r:Rs):Prop:=∀ (α:Type) (k kp:V→St→Option α),vop C vb f o st k kp=r.to k kp
theorem snd_nat (h:Nat_ C (fun _ _ _=>none) f o st):Snd C f N (xb (xlift (vop C (fun _ _ _=>none) f o st (fun v s=>some (v,s)) (fun _ _=>none))) fun q=>xp (.val q.1 q.2)) (fun r:Rs=>∃ vb,VbSound C vb∧Does C vb f o st r):=by
 refine snd_xb snd_xlift (fun q hq=>snd_xp ⟨_,vb0_sound,fun α k kp=>?_⟩)
 rw [h α k kp,hq]
 rfl
theorem does_val {vb:FuncId→List V→List Blk→Option FOut} {v:V} {s:St} (h:∀ (α:Type) (k kp:V→St→Option α),vop C vb f o st k kp=k v s):Does C vb f o st (.val v s):=h
theorem snd_xop:Snd C f N (xop C f o st) (fun r=>∃ vb,VbSound C vb∧Does C vb f o st r):=by
 cases ho:o.op with
 | move x=>unfold xop;rw [ho];exact snd_nat (nat_move ho)
 | assign x=>unfold xop;rw [ho];exact snd_nat (nat_assign ho)
 | alloc t=>unfold xop;rw [ho];exact snd_nat (nat_alloc ho)
 | box t x=>unfold xop;rw [ho];exact snd_nat (nat_box ho)
 | build t p=>unfold xop;rw [ho];exact snd_nat (nat_build ho)
 | buildSlice t m p=>unfold xop;rw [ho];exact snd_nat (nat_buildSlice ho)
 | nilCheck x=>unfold xop;rw [ho];exact snd_nat (nat_nilCheck ho)
 | makeFunc g x y=>unfold xop;rw [ho];exact snd_nat (nat_makeFunc ho)
 | fieldAddr s x j=>unfold xop;rw [ho];exact snd_nat (nat_fieldAddr ho)
 | field s x j=>unfold xop;rw [ho];exact snd_nat (nat_field ho)
 | extract x i=>unfold xop;rw [ho];exact snd_nat (nat_extract ho)
 | pick c x y =>
  unfold xop
  rw [ho]
  dsimp only
  split
  ·rename_i t ht
   refine snd_xb snd_xcond (fun b hb=>?_)
   subst hb
   cases t with
   | true =>
    refine snd_xp ⟨_,vb0_sound,does_val fun α k kp=>?_⟩
    unfold vop
    rw [ho]
    dsimp only
    rw [ht]
    dsimp only
    rw [condB_true]
   | false =>
    refine snd_xp ⟨_,vb0_sound,does_val fun α k kp=>?_⟩
    unfold vop
    rw [ho]
    dsimp only
    rw [ht]
    dsimp only
    rw [condB_false]
  ·exact snd_xf
 | binOp op t x y t' =>
  unfold xop
  rw [ho]
  dsimp only
  split
  ·rename_i b hb
   refine snd_xp ⟨_,vb0_sound,does_val fun α k kp=>?_⟩
   unfold vop
   rw [ho]
   dsimp only
   rw [hb]
  ·rename_i hb
   refine snd_xb snd_xopt (fun v hv=>snd_xp ⟨_,vb0_sound,does_val fun α k kp=>?_⟩)
   unfold vop
   rw [ho]
   dsimp only
   rw [hb]
   dsimp only
   rw [hv]
 | unOp op t x =>
  unfold xop
  rw [ho]
  refine snd_xb snd_xopt (fun v hv=>snd_xp ⟨_,vb0_sound,does_val fun α k kp=>?_⟩)
  unfold vop
  rw [ho]
  dsimp only
  rw [hv]
 | convert s t x =>
  unfold xop
  rw [ho]
  dsimp only
  split
  ·rename_i m b hb
   refine snd_xb snd_xchk (fun _ hc=>snd_xp ⟨_,vb0_sound,does_val fun α k kp=>?_⟩)
   unfold vop
   rw [ho]
   dsimp only
   rw [hb]
   dsimp only
   rw [hc,condB_true]
  ·rename_i hb
   refine snd_xb snd_xopt (fun v hv=>snd_xp ⟨_,vb0_sound,does_val fun α k kp=>?_⟩)
   unfold vop
   rw [ho]
   dsimp only
   rw [hb]
   dsimp only
   rw [hv]
 | load t x =>
  unfold xop
  rw [ho]
  dsimp only
  split
  ·rename_i g n hg hn
   split
   ·rename_i id off hp
    split
    ·rename_i cs e hcs
     refine snd_xb snd_xchk (fun _ hle=>?_)
     have hle:off+n≤cs.length:=by simpa using hle
     split
     ·rename_i d hd
      split
      ·rename_i htr
       refine snd_xb snd_xlift (fun v hv=>snd_xp ⟨_,vb0_sound,does_val fun α k kp=>?_⟩)
       unfold vop
       rw [ho]
       dsimp only
       rw [hg,hn,hp,hd]
       dsimp only
       rw [hcs]
       dsimp only
       rw [if_pos hle,if_pos htr,hv]
      ·rename_i htr
       refine snd_xb snd_xopt (fun v hv=>snd_xb snd_xcond (fun b hb=>?_))
       subst hb
       cases hl:((cs.drop off).take n).any isLin1 with
       | true =>
        refine snd_xp ⟨_,vb0_sound,does_val fun α k kp=>?_⟩
        unfold vop
        rw [ho]
        dsimp only
        rw [hg,hn,hp,hd]
        dsimp only
        rw [hcs]
        dsimp only
        rw [if_pos hle,if_neg htr,hv]
        dsimp only
        rw [hl,condB_true]
       | false =>
        refine snd_xp ⟨_,vb0_sound,does_val fun α k kp=>?_⟩
        unfold vop
        rw [ho]
        dsimp only
        rw [hg,hn,hp,hd]
        dsimp only
        rw [hcs]
        dsimp only
        rw [if_pos hle,if_neg htr,hv]
        dsimp only
        rw [hl,condB_false]
     ·exact snd_xf
    ·exact snd_xf
   ·rename_i e off hp
    split
    ·rename_i hle
     refine snd_xb snd_xlift (fun v hv=>snd_xp ⟨_,vb0_sound,does_val fun α k kp=>?_⟩)
     unfold vop
     rw [ho]
     dsimp only
     rw [hg,hn,hp]
     dsimp only
     rw [if_pos hle,hv]
    ·exact snd_xf
   ·exact snd_xf
  ·exact snd_xf
 | store t p x =>
  unfold xop
  rw [ho]
  dsimp only
  split
  ·rename_i n hn
   split
   ·rename_i id off hp
    split
    ·rename_i cs e hcs
     split
     ·rename_i hok
      refine snd_xb snd_xchk (fun _ hle=>snd_xp ⟨_,vb0_sound,does_val fun α k kp=>?_⟩)
      have hle:off+n≤cs.length:=by simpa using hle
      unfold vop
      rw [ho]
      dsimp only
      rw [hn]
      dsimp only
      rw [hp]
      dsimp only
      rw [hcs]
      dsimp only
      rw [if_pos ⟨hok.1,hok.2,hle⟩]
     ·exact snd_xf
    ·exact snd_xf
   ·exact snd_xf
  ·exact snd_xf
 | makeSlice t l c =>
  unfold xop
  rw [ho]
  dsimp only
  split
  ·rename_i e he
   split
   ·rename_i sz by_ z k1 n k2 m hsz hby hz hpl hpc
    refine snd_xb snd_xchk (fun _ hc=>?_)
    split
    ·rename_i hfl
     refine snd_xb snd_xchk (fun _ hnm=>snd_xp ⟨_,vb0_sound,does_val fun α k kp=>?_⟩)
     unfold vop
     rw [ho]
     dsimp only
     rw [he]
     dsimp only
     rw [hsz,hby,hz,hpl,hpc]
     dsimp only
     rw [hc,condB_true,if_pos hfl,hnm,condB_true]
    ·rename_i hfl
     refine snd_xp ⟨_,vb0_sound,does_val fun α k kp=>?_⟩
     unfold vop
     rw [ho]
     dsimp only
     rw [he]
     dsimp only
     rw [hsz,hby,hz,hpl,hpc]
     dsimp only
     rw [hc,condB_true,if_neg hfl]
   ·exact snd_xf
  ·exact snd_xf
 | slice t x lo hi mx =>
  unfold xop
  rw [ho]
  dsimp only
  split
  ·rename_i bid off len room hp
   split
   ·rename_i l h m sz hl hh hm hsz
    split
    ·exact snd_xf
    ·rename_i hmh
     refine snd_xb snd_xcond (fun b hb=>?_)
     cases b with
     | true =>
      refine snd_xp ⟨_,vb0_sound,does_val fun α k kp=>?_⟩
      unfold vop
      rw [ho]
      dsimp only
      rw [hp]
      dsimp only
      rw [hl,hh,hm,hsz]
      dsimp only
      rw [if_neg hmh,hb,condB_true]
     | false =>
      refine snd_xb snd_xchk (fun _ hc=>snd_xp ⟨_,vb0_sound,does_val fun α k kp=>?_⟩)
      unfold vop
      rw [ho]
      dsimp only
      rw [hp]
      dsimp only
      rw [hl,hh,hm,hsz]
      dsimp only
      rw [if_neg hmh,hb,condB_false,hc,condB_true]
   ·exact snd_xf
  rename_i hno
  split
  ·rename_i l h m hl hh hm
   refine snd_xb snd_xlift (fun q hq=>?_)
   obtain ⟨l',h',n',v⟩:=q
   cases m with
   | none =>
    refine snd_xb snd_xchk (fun _ hc=>snd_xp ⟨_,vb0_sound,does_val fun α k kp=>?_⟩)
    unfold vop
    rw [ho]
    dsimp only
    split
    ·rename_i hp;exact absurd hp (hno _ _ _ _)
    rw [hl,hh,hm]
    dsimp only
    rw [hq]
    dsimp only
    rw [hc,condB_true]
   | some m =>
    refine snd_xb snd_xchk (fun _ hc=>snd_xp ⟨_,vb0_sound,does_val fun α k kp=>?_⟩)
    unfold vop
    rw [ho]
    dsimp only
    split
    ·rename_i hp;exact absurd hp (hno _ _ _ _)
    rw [hl,hh,hm]
    dsimp only
    rw [hq]
    dsimp only
    rw [hc,condB_true]
  ·exact snd_xf
 | indexAddr t x i =>
  unfold xop
  rw [ho]
  dsimp only
  split
  ·rename_i kk n hi
   split
   ·rename_i q m xs hx
    split
    ·rename_i hm
     refine snd_xb snd_xopt (fun e he=>snd_xp ⟨_,vb0_sound,does_val fun α k kp=>?_⟩)
     unfold vop
     rw [ho]
     dsimp only
     rw [hi]
     dsimp only
     rw [hx]
     dsimp only
     rw [if_pos hm,he,bindO_some]
    ·exact snd_xf
   ·rename_i q q2 m xs hx
    split
    ·rename_i hm
     refine snd_xb snd_xopt (fun e he=>snd_xp ⟨_,vb0_sound,does_val fun α k kp=>?_⟩)
     unfold vop
     rw [ho]
     dsimp only
     rw [hi]
     dsimp only
     rw [hx]
     dsimp only
     rw [if_pos hm,he,bindO_some]
    ·exact snd_xf
   ·rename_i id off len hx
    split
    ·rename_i sz hsz
     refine snd_xb snd_xchk (fun _ hc=>snd_xp ⟨_,vb0_sound,does_val fun α k kp=>?_⟩)
     unfold vop
     rw [ho]
     dsimp only
     rw [hi]
     dsimp only
     rw [hx]
     dsimp only
     rw [hsz]
     dsimp only
     rw [hc,condB_true]
    ·exact snd_xf
   ·rename_i e off hx
    split
    ·rename_i m el ht
     split
     ·rename_i sz hsz
      refine snd_xb snd_xchk (fun _ hc=>snd_xp ⟨_,vb0_sound,does_val fun α k kp=>?_⟩)
      unfold vop
      rw [ho]
      dsimp only
      rw [hi]
      dsimp only
      rw [hx]
      dsimp only
      rw [ht]
      dsimp only
      rw [hsz]
      dsimp only
      rw [hc,condB_true]
     ·exact snd_xf
    ·exact snd_xf
   ·rename_i id off hx
    split
    ·rename_i m el ht
     split
     ·rename_i sz hsz
      refine snd_xb snd_xchk (fun _ hc=>snd_xp ⟨_,vb0_sound,does_val fun α k kp=>?_⟩)
      unfold vop
      rw [ho]
      dsimp only
      rw [hi]
      dsimp only
      rw [hx]
      dsimp only
      rw [ht]
      dsimp only
      rw [hsz]
      dsimp only
      rw [hc,condB_true]
     ·exact snd_xf
    ·exact snd_xf
   ·exact snd_xf
  ·exact snd_xf
 | next x b =>
  cases b with
  | false =>
   unfold xop;rw [ho]
   exact snd_nat (nat_vop2 (fun k kp=>by unfold vop;rw [ho]))
  | true =>
  unfold xop
  rw [ho]
  try simp only
  split
  ·rename_i id hp
   split
   ·rename_i s p hs
    refine snd_xb snd_xcond (fun b hb=>?_)
    cases b with
    | true =>
     refine snd_xp ⟨_,vb0_sound,does_val fun α k kp=>?_⟩
     unfold vop
     rw [ho]
     unfold vop2
     rw [ho]
     try simp only
     rw [hp]
     try simp only
     rw [hs]
     try simp only
     rw [hb,condB_true]
    | false =>
     refine snd_xp ⟨_,vb0_sound,does_val fun α k kp=>?_⟩
     unfold vop
     rw [ho]
     unfold vop2
     rw [ho]
     try simp only
     rw [hp]
     try simp only
     rw [hs]
     try simp only
     rw [hb,condB_false]
   ·exact snd_xf
  ·exact snd_xf
 | mapUpdate t m kx x =>
  unfold xop
  rw [ho]
  try simp only
  split
  ·rename_i kt et id kv hu hm hk
   split
   ·rename_i kd es hkd hes
    refine snd_xb snd_xchk (fun _ hc=>snd_xb snd_xmf (fun r hr=>?_))
    have hd:∀ (α:Type) (k kp:V→St→Option α),vop C (fun _ _ _=>none) f o st k kp=(match (generalizing:=false) r with
      | none=>k .undef {st with h:=st.h.set id (.mp (es++[(st.peek kx,st.peek x)]))}
      | some (i,_)=>k .undef {st with h:=st.h.set id (.mp (es.set i (st.peek kx,st.peek x)))}):=by
     intro α k kp
     unfold vop
     rw [ho]
     unfold vop2
     rw [ho]
     try simp only
     rw [hu,hm,hk]
     try simp only
     rw [hkd,hes]
     try simp only
     rw [hc,condB_true,hr]
     cases r<;>rfl
    cases r with
    | none=>exact snd_xp ⟨_,vb0_sound,does_val hd⟩
    | some q=>exact snd_xp ⟨_,vb0_sound,does_val hd⟩
   ·exact snd_xf
  ·exact snd_xf
 | insert t m kx x =>
  unfold xop
  rw [ho]
  try simp only
  split
  ·rename_i kt et id kv hu hm hk
   split
   ·rename_i kd es hkd hes
    refine snd_xb snd_xchk (fun _ hc=>snd_xb snd_xmf (fun r hr=>?_))
    have hd:∀ (α:Type) (k kp:V→St→Option α),vop C (fun _ _ _=>none) f o st k kp=(match (generalizing:=false) r with
      | none=>k .undef {st with h:=st.h.set id (.mp (es++[(st.peek kx,st.peek x)]))}
      | some (i,_)=>k .undef {st with h:=st.h.set id (.mp (es.set i (st.peek kx,st.peek x)))}):=by
     intro α k kp
     unfold vop
     rw [ho]
     unfold vop2
     rw [ho]
     try simp only
     rw [hu,hm,hk]
     try simp only
     rw [hkd,hes]
     try simp only
     rw [hc,condB_true,hr]
     cases r<;>rfl
    cases r with
    | none=>exact snd_xp ⟨_,vb0_sound,does_val hd⟩
    | some q=>exact snd_xp ⟨_,vb0_sound,does_val hd⟩
   ·exact snd_xf
  ·exact snd_xf
 | lookup t m kx ok =>
  unfold xop
  rw [ho]
  try simp only
  split
  ·rename_i kt et id kv hu hm hk
   split
   ·rename_i kd es z hkd hes hz
    refine snd_xb snd_xchk (fun _ hc=>snd_xb snd_xmf (fun r hr=>?_))
    have hd:∀ (α:Type) (k kp:V→St→Option α),vop C (fun _ _ _=>none) f o st k kp=(match (generalizing:=false) r with
      | none=>if ok then k (.tup [z,.bool false]) st else k z st
      | some (_,v)=>if ok then k (.tup [v,.bool true]) st else k v st):=by
     intro α k kp
     unfold vop
     rw [ho]
     unfold vop2
     rw [ho]
     try simp only
     rw [hu,hm,hk]
     try simp only
     rw [hkd,hes,hz]
     try simp only
     rw [hc,condB_true,hr]
     cases r<;>rfl
    cases r with
    | none=>cases ok<;>exact snd_xp ⟨_,vb0_sound,does_val hd⟩
    | some q=>cases ok<;>exact snd_xp ⟨_,vb0_sound,does_val hd⟩
   ·exact snd_xf
  ·exact snd_xf
 | index t x i =>
  unfold xop
  rw [ho]
  dsimp only
  split
  ·rename_i ht
   split
   ·rename_i s kk n hx hi
    refine snd_xb snd_xopt (fun v hv=>snd_xp ⟨_,vb0_sound,does_val fun α k kp=>?_⟩)
    obtain ⟨b,hb,rfl⟩:=Option.map_eq_some_iff.1 hv
    unfold vop
    rw [ho]
    dsimp only
    rw [ht]
    dsimp only
    rw [hx,hi]
    dsimp only
    rw [hb,bindO_some]
   ·exact snd_xf
  ·exact snd_xf
 | panic x =>
  unfold xop
  rw [ho]
  dsimp only
  split
  ·rename_i t v hp
   refine snd_xp ⟨_,vb0_sound,fun α k kp=>?_⟩
   unfold vop
   rw [ho]
   dsimp only
   rw [hp]
   rfl
  ·exact snd_xf
 | call c =>
  cases hb:c.callee with
  | invoke r m =>
   unfold xop;rw [ho];dsimp only;rw [hb]
   refine snd_nat (fun α k kp=>?_)
   unfold vop;rw [ho];dsimp only;rw [hb];rfl
  | value g0 =>
   unfold xop
   rw [ho]
   dsimp only
   rw [hb]
   dsimp only
   split
   ·rename_i gf first caps hg
    split
    ·exact snd_xf
    rename_i hyb
    have hyb':gf<yBase:=Nat.lt_of_not_le hyb
    split
    ·rename_i hfl
     have key:∀ {vb:FuncId→List V→List Blk→Option FOut},VbSound C vb→∀ out,vbx C.P vb gf (first++(c.args.toList.map st.useV)++caps)=some out→Snd C f N (xres C f o (st.useAll c.args.toList) out) (fun r=>∃ vb,VbSound C vb∧Does C vb f o st r):=by
      intro vb hvb out hout
      have hd:∀ (α:Type) (k kp:V→St→Option α),vop C vb f o st k kp=(match (generalizing:=false) out with
        | .ret v _=>match o.dst with
         | some d=>if (C.thaw f).contains d then match thaw1 C.P (st.useAll c.args.toList).h ((elemT C.P o.type).getD 0) v with
           | some (v,h)=>condB (isLin3 (getS (st.useAll c.args.toList).fr d)) none (k v {(st.useAll c.args.toList) with h:=h})
           | none=>none
          else k v (st.useAll c.args.toList)
         | none=>k .undef (st.useAll c.args.toList)
        | .pan v _=>kp v (st.useAll c.args.toList)):=by
       intro α k kp
       unfold vop
       rw [ho]
       dsimp only
       rw [hb]
       dsimp only
       rw [hg]
       dsimp only
       rw [if_neg hyb,if_pos hfl,hout]
       rw [bindO_some]
       cases out<;>rfl
      cases out with
      | pan v h=>exact snd_xp ⟨_,hvb,hd⟩
      | ret v h =>
       unfold xres
       dsimp only at hd ⊢
       split
       ·rename_i d hdst
        rw [hdst] at hd
        dsimp only at hd
        split
        ·rename_i hth
         split
         ·rename_i v2 h2 h3
          split
          ·exact snd_xf
          ·rename_i hfree
           refine snd_xp ⟨_,hvb,does_val fun α k kp=>?_⟩
           rw [hd,if_pos hth,h3]
           dsimp only
           rw [Bool.eq_false_iff.2 hfree,condB_false]
         ·exact snd_xf
        ·rename_i hth
         refine snd_xp ⟨_,hvb,does_val fun α k kp=>?_⟩
         rw [hd,if_neg hth]
       ·rename_i hdst
        rw [hdst] at hd
        exact snd_xp ⟨_,hvb,does_val hd⟩
     split
     ·rename_i v hv
      refine key vb0_sound _ ?_
      unfold vbx
      rw [hv]
     ·exact snd_xb snd_xcall (fun out hr=>key hr out (by rw [hr.vbx hyb',vb1_self]))
    ·rename_i hfl
     refine snd_xb snd_xcall (fun out hr=>?_)
     have hd:∀ (α:Type) (k kp:V→St→Option α),vop C (vb1 gf (first++(c.args.toList.map st.useV)++caps) (st.useAll c.args.toList).h out) f o st k kp=(match (generalizing:=false) out with
       | .ret v h=>condB (dfKeep (st.useAll c.args.toList).df h) (k v {(st.useAll c.args.toList) with h:=h}) none
       | .pan v h=>condB (dfKeep (st.useAll c.args.toList).df h) (kp v {(st.useAll c.args.toList) with h:=h}) none):=by
      intro α k kp
      unfold vop
      rw [ho]
      dsimp only
      rw [hb]
      dsimp only
      rw [hg]
      dsimp only
      rw [if_neg hyb,if_neg hfl,vb1_self,bindO_some]
      cases out<;>rfl
     cases out with
     | ret v h =>
      unfold xresH
      dsimp only at hd ⊢
      split
      ·rename_i hk
       refine snd_xp ⟨_,hr,does_val fun α k kp=>?_⟩
       rw [hd,hk,condB_true]
      ·exact snd_xf
     | pan v h =>
      unfold xresH
      dsimp only at hd ⊢
      split
      ·rename_i hk
       refine snd_xp ⟨_,hr,fun α k kp=>?_⟩
       rw [hd,hk,condB_true]
       rfl
      ·exact snd_xf
   ·rename_i id hg
    refine snd_xb snd_xcall (fun out hr=>?_)
    have hd:∀ (α:Type) (k kp:V→St→Option α),vop C (vb1 (yBase+id) (c.args.toList.map st.useV) (st.useAll c.args.toList).h out) f o st k kp=(match (generalizing:=false) out with
      | .ret v h=>condB (dfKeep (st.useAll c.args.toList).df h) (k v {(st.useAll c.args.toList) with h:=h}) none
      | .pan _ _=>none):=by
     intro α k kp
     unfold vop
     rw [ho]
     dsimp only
     rw [hb]
     dsimp only
     rw [hg]
     try simp only
     rw [vb1_self,bindO_some]
     cases out<;>rfl
    cases out with
    | ret v h =>
     dsimp only at hd ⊢
     split
     ·rename_i hk
      refine snd_xp ⟨_,hr,does_val fun α k kp=>?_⟩
      rw [hd,hk,condB_true]
     ·exact snd_xf
    | pan v h=>exact snd_xf
   ·exact snd_xf
  | builtin b =>
   cases b
   case len=>unfold xop;rw [ho];dsimp only;rw [hb];exact snd_nat (nat_len ho hb)
   case append =>
    unfold xop
    rw [ho]
    dsimp only
    rw [hb]
    dsimp only
    split
    ·rename_i s x t tx hsx htt
     split
     ·rename_i e e2 he he2
      split
      ·rename_i bid off len room hp
       split
       ·rename_i sz cs e' hsz hcs
        split
        ·rename_i m ys hsrc
         have hd:∀ (α:Type) (k kp:V→St→Option α),vop C (fun _ _ _=>none) f o st k kp=condB (decide (t=tx∧0<sz∧ys.length=m*sz∧len+m≤room∧off+(len+m)*sz≤cs.length)&&ys.all fun c=>!isLin1 c&&okV c)
           (k (.own bid off (len+m) room) {st with h:=st.h.set bid (.cells (setAt cs (off+len*sz) ys) e')})
           (vgrow C.P t tx e sz bid off len room cs e' m ys st k):=by
          intro α k kp
          unfold vop
          rw [ho]
          dsimp only
          rw [hb]
          dsimp only
          rw [hsx,htt]
          dsimp only
          rw [he,he2]
          dsimp only
          rw [hp]
          dsimp only
          rw [hsz,hcs]
          dsimp only
          rw [hsrc]
         refine snd_xb snd_xcond (fun b hroom=>?_)
         cases b with
         | true =>
          refine snd_xb snd_xchk (fun _ hc=>snd_xp ⟨_,vb0_sound,does_val fun α k kp=>?_⟩)
          simp only [Bool.and_eq_true,decide_eq_true_eq] at hc hroom
          obtain ⟨⟨q1,q2,q3,q4⟩,q5⟩:=hc
          rw [hd,decide_eq_true ⟨q1,q2,q3,hroom,q4⟩,q5]
          exact condB_true _ _
         | false =>
          have hroom:¬len+m≤room:=of_decide_eq_false hroom
          dsimp only
          unfold xgrow
          split
          ·rename_i by_ z hby hz
           refine snd_xb snd_xchk (fun _ hc=>snd_xp ⟨_,vb0_sound,does_val fun α k kp=>?_⟩)
           rw [hd,decide_eq_false (fun h=>hroom h.2.2.2.1),Bool.false_and,condB_false]
           unfold vgrow
           rw [hby,hz]
           dsimp only
           rw [hc]
           exact condB_true _ _
          ·exact snd_xf
        ·exact snd_xf
       ·exact snd_xf
      rename_i hno
      have hd0:∀ (α:Type) (k kp:V→St→Option α),vop C (fun _ _ _=>none) f o st k kp=(condB (isOwnV (st.peek x)||(C.thaw f).contains (o.dst.getD 0)) (vnew C.P t tx e st (st.peek s) (st.peek x) k)<|match bytesT C.P e,sizeT C.P e,zeroT C.P e,elems (st.peek x) with
        | some by_,some sz,some z,some (m,ys)=>if t=tx∧(ys.isEmpty∨m=sz)∧0<sz∧0<by_∧okV z∧z.cells.length=sz then
         match vappend e sz ((st.useS x).peek s) ys with
         | some (n,v)=>condB (decide (n*by_≤2 ^ 47)&&!isLin3 (getS ((st.useS x).takeS s).fr (o.dst.getD 0))) (k v ((st.useS x).takeS s)) none
         | none=>none
         else none
        | _,_,_,_=>none):=by
       intro α k kp
       unfold vop
       rw [ho]
       dsimp only
       rw [hb]
       dsimp only
       rw [hsx,htt]
       dsimp only
       rw [he,he2]
       dsimp only
       split
       ·rename_i hp;exact absurd hp (hno _ _ _ _)
       rfl
      split
      ·rename_i hnew
       unfold xnew
       split
       ·rename_i by_ sz z hby hsz hz
        split
        ·rename_i xs m ys hxs hsrc
         have hd1:∀ (α:Type) (k kp:V→St→Option α),vop C (fun _ _ _=>none) f o st k kp=condB (decide (t=tx∧0<sz∧0<by_∧z.cells.length=sz∧ys.length=m*sz∧0<m∧(xs.length+m)*by_≤2 ^ 47)&&okV z&&(ys.all fun c=>!isLin1 c&&okV c))
            (k (.own st.h.length 0 (xs.length+m) (xs.length+m)) {st with h:=st.h++[.cells (xs.flatMap V.cells++ys) e]})
            (condB (decide (t=tx∧0<sz∧m=0)) (k (st.peek s) st) none):=by
          intro α k kp
          rw [hd0,hnew,condB_true]
          unfold vnew
          rw [hby,hsz,hz]
          dsimp only
          split at hxs
          ·rename_i hps
           cases hxs
           rw [hps]
           dsimp only
           rw [hsrc]
          ·rename_i n0 ys0 hps
           split at hxs
           ·rename_i hn0
            cases hxs
            rw [hps]
            dsimp only
            rw [if_pos hn0,hsrc]
           ·cases hxs
          ·cases hxs
         refine snd_xb snd_xcond (fun b hm=>?_)
         cases b with
         | true =>
          refine snd_xb snd_xchk (fun _ hc=>snd_xp ⟨_,vb0_sound,does_val fun α k kp=>?_⟩)
          simp only [Bool.and_eq_true,decide_eq_true_eq] at hc hm
          obtain ⟨⟨⟨q1,q2,q3,q4,q5,q6⟩,q7⟩,q8⟩:=hc
          rw [hd1,decide_eq_true ⟨q1,q2,q3,q4,q5,hm,q6⟩,q7,q8]
          exact condB_true _ _
         | false =>
          have hm:¬0<m:=of_decide_eq_false hm
          refine snd_xb snd_xchk (fun _ hc=>snd_xp ⟨_,vb0_sound,does_val fun α k kp=>?_⟩)
          simp only [decide_eq_true_eq] at hc
          rw [hd1,decide_eq_false (fun h=>hm h.2.2.2.2.2.1),Bool.false_and,Bool.false_and,condB_false,decide_eq_true ⟨hc.1,hc.2,by omega⟩,condB_true]
        ·exact snd_xf
       ·exact snd_xf
      rename_i hnew
      split
      ·rename_i by_ sz z m ys hby hsz hz hel
       refine snd_xb snd_xchk (fun _ hc=>snd_xb snd_xapp (fun q hq=>snd_xb snd_xchk (fun _ hle=>?_)))
       split
       ·exact snd_xf
       ·rename_i hfree
        refine snd_xp ⟨_,vb0_sound,does_val fun α k kp=>?_⟩
        simp only [Bool.and_eq_true,decide_eq_true_eq,Bool.or_eq_true] at hc
        obtain ⟨⟨⟨⟨⟨c1,c2⟩,c3⟩,c4⟩,c5⟩,c6⟩:=hc
        rw [hd0,Bool.eq_false_iff.2 hnew,condB_false,hby,hsz,hz,hel]
        dsimp only
        rw [if_pos ⟨c1,c2.symm,c3,c4,c5,c6⟩,hq]
        dsimp only
        rw [hle,Bool.eq_false_iff.2 hfree]
        exact condB_true _ _
      ·exact snd_xf
     ·exact snd_xf
    ·exact snd_xf
   case clear =>
    unfold xop
    rw [ho]
    dsimp only
    rw [hb]
    dsimp only
    split
    ·rename_i x t hsx htt
     split
     ·rename_i e bid off len room he hp
      split
      ·rename_i sz z cs e' hsz hz hcs
       refine snd_xb snd_xchk (fun _ hc=>snd_xp ⟨_,vb0_sound,does_val fun α k kp=>?_⟩)
       unfold vop
       rw [ho]
       dsimp only
       rw [hb]
       dsimp only
       rw [hsx,htt]
       dsimp only
       rw [he,hp]
       dsimp only
       rw [hsz,hz,hcs]
       dsimp only
       rw [hc,condB_true]
      ·exact snd_xf
     ·exact snd_xf
    ·exact snd_xf
   case copy =>
    unfold xop
    rw [ho]
    dsimp only
    rw [hb]
    dsimp only
    split
    ·rename_i d x t t2 hdx htt
     split
     ·rename_i id off len room sz hp hsz
      split
      ·rename_i cs e' hcs
       split
       ·rename_i m ys hsrc
        refine snd_xb snd_xchk (fun _ hc=>snd_xp ⟨_,vb0_sound,does_val fun α k kp=>?_⟩)
        unfold vop
        rw [ho]
        dsimp only
        rw [hb]
        dsimp only
        unfold vblt
        rw [hdx,htt]
        simp only [List.map_cons,List.map_nil]
        rw [hp]
        dsimp only
        rw [hsz,hcs]
        dsimp only
        rw [hsrc]
        dsimp only
        rw [hc,condB_true]
       ·exact snd_xf
      ·exact snd_xf
     ·exact snd_xf
    ·exact snd_xf
   all_goals
    unfold xop;rw [ho];dsimp only;rw [hb]
    exact snd_nat (nat_blt ho hb (fun k kp=>by unfold vop;rw [ho];dsimp only;rw [hb]))
 | _ =>
  unfold xop;rw [ho]
  exact snd_nat (nat_vop2 (fun k kp=>by unfold vop;rw [ho]))
theorem snd_xkind {h2:List Blk}:Snd C f N (xkind C f o st h2) (fun kd=>kindC C f o st h2=kd):=by
 unfold xkind
 simp only [peekF_eq,getO_eq,kindCF_eq]
 split
 ·rename_i t a ho
  have hk:kindV C f o st=match st.peek a with
   | .ptr id off=>(match st.h[id]?,sizeT C.P t with
    | some (.cells cs _),some n=>condB ((C.tr f).contains (o.dst.getD 0)||((cs.drop off).take n).any isLin1) (.wr id off n) (.rd id off n)
    | _,_=>.any)
   | .iptr ..=>.none
   | _=>.any:=by unfold kindV;rw [ho];rfl
  split
  ·rename_i id off hp
   rw [hp] at hk
   dsimp only at hk
   split
   ·rename_i cs e n hcs hn
    rw [hcs,hn] at hk
    dsimp only at hk
    refine snd_xb snd_xcond (fun b hb=>snd_xp ?_)
    rw [hb] at hk
    unfold kindC
    rw [hk]
    cases b
    ·rw [condB_false]
    ·rw [condB_true]
   ·exact snd_xf
  ·rename_i e off hp
   rw [hp] at hk
   unfold kindC
   rw [hk]
   exact snd_xp rfl
  ·exact snd_xf
 ·exact snd_xp rfl
theorem xops_sound {ρ:Option Nat} (hρ:rd=false→ρ=none) {n B τ:Nat} {g:Gh} {w:World} {Q:Exit→Act→World→Prop} {ops:Array Oper} {e1:Ex} {st1:St} (hn:∀ g' e' a' w',LaterN N B τ g g' w w'→R B τ g' st1 a' w'→ExIs g' τ e1 e'→Q e' a' w') :
  ∀ (l:List Nat) (st:St) (g1:Gh) (a1:Act) (w1:World),Hits C f N (xops C f rd ops.toList (l.filterMap (ops[·]?)) st) (e1,st1)→LaterN N B τ g g1 w w1→R B τ g1 st a1 w1→wpOpsIn (FW ρ) n C.P ops Q l a1 w1
 | [],st,g1,a1,w1,h,hl,hR=>by
  have h:(e1,st1)=(Ex.normal,st):=h
  cases h
  exact hn g1 .normal a1 w1 hl hR trivial
 | i::l,st,g1,a1,w1,h,hl,hR=>by
  unfold wpOpsIn
  cases ho:ops[i]? with
  | none =>
   rw [List.filterMap_cons,ho] at h
   exact xops_sound hρ hn l st g1 a1 w1 h hl hR
  | some o =>
   rw [List.filterMap_cons,ho] at h
   dsimp only at h ⊢
   unfold xops at h
   simp only [xopF_eq,putF_eq,guardVF_eq,calmF_eq,kindCF_eq,compatKF_eq,unAtF_eq,involvedF_eq,getO_eq,wantedVF_eq,peekF_eq] at h
   have run:∀ st,Hits C f N (xb (xop C f o st) fun
    | .val v st'=>.open (8000+site o) (put st' o.dst v) fun st=>xops C f rd ops.toList (l.filterMap (ops[·]?)) st
    | .pan v st'=>xp (.pan v,st')) (e1,st1)→R B τ g1 st a1 w1→o.wpIn (FW ρ) n C.P a1 w1 (wpOpsIn (FW ρ) n C.P ops Q l) Q:=by
    intro st h hR
    obtain ⟨q,h1,h2⟩:=reach_xb h
    obtain ⟨vb,hvb,hdo⟩:=snd_xop q h1
    classical
    cases q with
    | val v0 s0 =>
     obtain ⟨st2,hto,h2⟩:=h2
     have hvo:=hdo Unit (fun v s=>if v=v0∧s=s0 then some () else none) (fun _ _=>none)
     have hvo:vop C vb f o st (fun v s=>if v=v0∧s=s0 then some () else none) (fun _ _=>none)=some ():=by rw [hvo];exact if_pos ⟨rfl,rfl⟩
     refine vop_sound hvb hvo hR (fun v st' g' u w' hl' hR' hv hkk=>?_) (fun v st' g' u w' d hl' hR' hnl hv hkk=>by cases hkk)
     try dsimp only at hkk
     split at hkk
     ·rename_i hq
      obtain ⟨rfl,rfl⟩:=hq
      obtain ⟨g2,l2,R2⟩:=hto B τ g' _ w' (put_sound hR' hv)
      exact xops_sound hρ hn l _ g2 _ w' h2 ((hl.trans (.of hl')).trans l2) R2
     ·cases hkk
    | pan v0 s0 =>
     have h2:(e1,st1)=(Ex.pan v0,s0):=h2
     cases h2
     have hvo:=hdo Unit (fun _ _=>none) (fun v s=>if v=v0∧s=st1 then some () else none)
     have hvo:vop C vb f o st (fun _ _=>none) (fun v s=>if v=v0∧s=st1 then some () else none)=some ():=by rw [hvo];exact if_pos ⟨rfl,rfl⟩
     refine vop_sound hvb hvo hR (fun v st' g' u w' hl' hR' hv hkk=>by cases hkk) (fun v st' g' u w' d hl' hR' hnl hv hkk=>?_)
     try dsimp only at hkk
     split at hkk
     ·rename_i hq
      obtain ⟨rfl,rfl⟩:=hq
      exact hn g' _ _ w' (hl.trans (.of hl')) hR' ⟨u,d,rfl,hnl,hv⟩
     ·cases hkk
   split at h
   ·rename_i hg
    rw [if_pos (wanted_none hg)]
    split at h
    ·rename_i c hc
     split at h
     ·exact h.elim
     ·rename_i hr
      split at h
      ·rename_i st' hst
       exact defer_sound (hρ (by simpa using hr)) hc hst hR (fun a' hR'=>xops_sound hρ hn l _ g1 a' w1 h hl hR')
      ·exact h.elim
    ·exact run st h hR
   ·rename_i j want hg
    obtain ⟨b,hb,h⟩:=reach_xb h
    have hb:=snd_xlift b hb
    obtain ⟨b',hb',h⟩:=reach_xb h
    have hb':=snd_xcond b' hb'
    subst hb'
    have hws:=wanted_sound hR hg hb
    cases b with
    | true=>rw [if_pos hws];exact run st h hR
    | false =>
     rw [if_neg (by rw [hws];simp)]
     exact ⟨fun _ _=>trivial,xops_sound hρ hn l _ g1 _ w1 h hl (skip_sound hR _)⟩
theorem vdrawA_congr {vb vb':Nat→FuncId→List V→List Blk→Option FOut} {un:List Nat} {h0:Nat} {ops:List Oper} {ks:List (Nat×Kd)→St→Option FOut}:∀ {l:List Nat} {acc:List (Nat×Kd)} {st:St},(∀ j∈l,vb j=vb' j)→vdrawA C vb f un h0 ops l acc st ks=vdrawA C vb' f un h0 ops l acc st ks
 | [],acc,st,_=>rfl
 | i::r,acc,st,h=>by
  have e:=h i (by simp)
  have ih:∀ acc st,vdrawA C vb f un h0 ops r acc st ks=vdrawA C vb' f un h0 ops r acc st ks:=fun acc st=>vdrawA_congr (fun j hj=>h j (by simp [hj]))
  unfold vdrawA
  simp only [vopF_eq,putF_eq,guardVF_eq,calmF_eq,kindCF_eq,compatKF_eq,unAtF_eq,involvedF_eq,getO_eq]
  simp only [e,ih]
def DrawnTo (C:Cx) (f:FuncId) (un:List Nat) (h0:Nat) (ops:List Oper) (l:List Nat) (acc:List (Nat×Kd)) (st:St) (q:Ex×St):Prop :=
 (q.1=.normal∧∃ (vb:Nat→FuncId→List V→List Blk→Option FOut) (acc1:List (Nat×Kd)),(∀ i,VbSound C (vb i))∧∀ ks,vdrawA C vb f un h0 ops l acc st ks=ks acc1 q.2) ∨
 (∃ (v:V) (vb:Nat→FuncId→List V→List Blk→Option FOut) (l1:List Nat) (p:Nat) (l2:List Nat) (o:Oper) (s:St) (acc1:List (Nat×Kd)) (stp:St),q=(.pan v,wipe s)∧l=l1++p::l2∧(∀ i,VbSound C (vb i))∧(∀ ks,vdrawA C vb f un h0 ops l1 acc st ks=ks acc1 stp) ∧
  ops[p]?=some o∧guardV ops o stp=some true∧panOk un ops.length p acc1=true∧isCallV o=true∧vop C (vb p) f o stp (fun _ _=>none) (fun v s=>some (v,s))=some (v,s))
theorem DrawnTo.step {un:List Nat} {h0:Nat} {ops:List Oper} {i:Nat} {r:List Nat} {acc acc':List (Nat×Kd)} {st st':St} {q:Ex×St} (hir:i∉r) (vbi:FuncId→List V→List Blk→Option FOut) (hvbi:VbSound C vbi)
  (key:∀ (r':List Nat) (vbr:Nat→FuncId→List V→List Blk→Option FOut),i∉r'→∀ ks,vdrawA C (fun j=>if j=i then vbi else vbr j) f un h0 ops (i::r') acc st ks=vdrawA C vbr f un h0 ops r' acc' st' ks) (h:DrawnTo C f un h0 ops r acc' st' q):DrawnTo C f un h0 ops (i::r) acc st q:=by
 have sound:∀ {vbr:Nat→FuncId→List V→List Blk→Option FOut},(∀ i,VbSound C (vbr i))→∀ j,VbSound C (if j=i then vbi else vbr j):=by
  intro vbr h2 j
  split
  ·exact hvbi
  ·exact h2 j
 rcases h with ⟨h1,vb,acc1,h2,h3⟩ | ⟨v,vb,l1,p,l2,o,s,acc1,stp,h1,rfl,h3,h4,h5,h6,h7,h8,h9⟩
 ·exact .inl ⟨h1,_,acc1,sound h2,fun ks=>(key r vb hir ks).trans (h3 ks)⟩
 ·have hi1:i∉l1:=fun h=>hir (by simp [h])
  have hip:p≠i:=fun e=>hir (by simp [e])
  refine .inr ⟨v,fun j=>if j=i then vbi else vb j,i::l1,p,l2,o,s,acc1,stp,h1,rfl,sound h3,fun ks=>(key l1 vb hi1 ks).trans (h4 ks),h5,h6,h7,h8,?_⟩
  dsimp only
  rw [if_neg hip];exact h9
theorem xdraw_reach {un:List Nat} {h0:Nat} {ops:List Oper} {q1:Ex×St}:∀ {l:List Nat} {acc:List (Nat×Kd)} {st:St},l.Nodup→Hits C f N (xdraw C f un h0 ops l acc st) q1→DrawnTo C f un h0 ops l acc st q1
 | [],acc,st,_,h=>by
  have h:q1=(.normal,st):=h
  subst h
  exact .inl ⟨rfl,fun _ _ _ _=>none,acc,fun _=>vb0_sound,fun ks=>rfl⟩
 | i::r,acc,st,hnd,h=>by
  unfold xdraw at h
  simp only [xopF_eq,putF_eq,guardVF_eq,calmF_eq,kindCF_eq,compatKF_eq,unAtF_eq,involvedF_eq,getO_eq,wantedVF_eq,peekF_eq] at h
  obtain ⟨hir,hndr⟩:=List.nodup_cons.1 hnd
  split at h
  ·exact h.elim
  ·rename_i o ho
   split at h
   ·rename_i hlen
    obtain ⟨b,hb,h⟩:=reach_xb h
    have hb:=snd_xlift b hb
    obtain ⟨b',hb',h⟩:=reach_xb h
    have hb':=snd_xcond b' hb'
    subst hb'
    have mix:∀ {vbi:FuncId→List V→List Blk→Option FOut} {vbr:Nat→FuncId→List V→List Blk→Option FOut} {r':List Nat} {acc:List (Nat×Kd)} {st:St} {ks:List (Nat×Kd)→St→Option FOut},i∉r'→vdrawA C (fun j=>if j=i then vbi else vbr j) f un h0 ops r' acc st ks=vdrawA C vbr f un h0 ops r' acc st ks :=
     fun {vbi vbr r' acc st ks} hi=>vdrawA_congr (fun j hj=>if_neg (by rintro rfl;exact hi hj))
    have pan:∀ {vbi:FuncId→List V→List Blk→Option FOut} {v:V} {s:St},VbSound C vbi→Does C vbi f o st (.pan v s)→guardV ops o st=some true→Hits C f N (if (panOk un ops.length i acc&&isCallV o)=true then xp (.pan v,wipe s) else xf:T (Ex×St)) q1→DrawnTo C f un h0 ops (i::r) acc st q1:=by
     intro vbi v s hvbi hdo hgd hh
     split at hh
     ·rename_i hc
      rw [Bool.and_eq_true] at hc
      have hh:q1=(.pan v,wipe s):=hh
      exact .inr ⟨v,fun _=>vbi,[],i,r,o,s,acc,st,hh,rfl,fun _=>hvbi,fun ks=>rfl,ho,hgd,hc.1,hc.2,hdo _ _ _⟩
     ·exact hh.elim
    cases b with
    | true =>
     dsimp only at h
     split at h
     ·rename_i hi
      split at h
      ·rename_i hcalm
       obtain ⟨q,hq,h⟩:=reach_xb h
       obtain ⟨vbi,hvbi,hdo⟩:=snd_xop q hq
       cases q with
       | pan v s=>exact pan hvbi hdo hb h
       | val v s =>
        obtain ⟨kd,hkd,h⟩:=reach_xb h
        have hkd:=snd_xkind kd hkd
        obtain ⟨_,hc,h⟩:=reach_xb h
        have hc:_=true:=hc.1
        refine DrawnTo.step hir vbi hvbi (fun r' vbr hir' ks=>?_) (xdraw_reach hndr (h:Hits C f N (xdraw C f un h0 ops r ((i,kd)::acc) (put s o.dst v)) q1))
        have hd:vop C vbi f o st (fun v s=>some (v,s)) (fun _ _=>none)=some (v,s):=hdo _ _ _
        rw [vdrawA]
        simp only [vopF_eq,putF_eq,guardVF_eq,calmF_eq,kindCF_eq,compatKF_eq,unAtF_eq,involvedF_eq,getO_eq]
        rw [ho]
        dsimp only
        rw [if_pos trivial,hlen,condB_true,hb,bindO_some,condB_true,hi,condB_true,hcalm,condB_true,hd,bindO_some]
        dsimp only
        rw [hkd,hc,condB_true,mix hir']
      ·exact h.elim
     ·rename_i hi
      obtain ⟨q,hq,h⟩:=reach_xb h
      obtain ⟨vbi,hvbi,hdo⟩:=snd_xop q hq
      cases q with
      | pan v s=>exact pan hvbi hdo hb h
      | val v s =>
       refine DrawnTo.step hir vbi hvbi (fun r' vbr hir' ks=>?_) (xdraw_reach hndr (h:Hits C f N (xdraw C f un h0 ops r acc (put s o.dst v)) q1))
       have hd:vop C vbi f o st (fun v s=>some (v,s)) (fun _ _=>none)=some (v,s):=hdo _ _ _
       rw [vdrawA]
       simp only [vopF_eq,putF_eq,guardVF_eq,calmF_eq,kindCF_eq,compatKF_eq,unAtF_eq,involvedF_eq,getO_eq]
       rw [ho]
       dsimp only
       rw [if_pos trivial,hlen,condB_true,hb,bindO_some,condB_true,Bool.eq_false_iff.2 hi,condB_false,hd,bindO_some]
       dsimp only
       rw [mix hir']
    | false =>
     refine DrawnTo.step hir (fun _ _ _=>none) vb0_sound (fun r' vbr hir' ks=>?_) (xdraw_reach hndr h)
     rw [vdrawA]
     simp only [vopF_eq,putF_eq,guardVF_eq,calmF_eq,kindCF_eq,compatKF_eq,unAtF_eq,involvedF_eq,getO_eq]
     rw [ho]
     dsimp only
     rw [hlen,condB_true,hb,bindO_some,condB_false,mix hir']
   ·exact h.elim
theorem drawn_pan {ops:Array Oper} {un:List Nat} {id m:Nat} (hok:okUn ops un=true) (hm:m≤ops.size) {st:St} {v:V} {s1:St} (h:DrawnTo C f un st.h.length ops.toList (List.range m) [] st (.pan v,s1)) (hfr:s1.fr.length=st.fr.length) {rd:Bool}:Runs C N rd (.region id ops true) st (.pan v) s1:=by
 rcases h with ⟨h1,_⟩ | ⟨v',vb,l1,p,l2,o,s,acc1,stp,h1,h2,h3,h4,h5,h6,h7,h8,h9⟩
 ·cases h1
 cases h1
 have hp:l1=List.range p∧p<m:=by
  have hl:=congrArg List.length h2
  have hpl:l1.length=p:=by
   have:=congrArg (fun l=>l[l1.length]?) h2
   simp only [List.getElem?_append_right (Nat.le_refl _),Nat.sub_self,List.getElem?_cons_zero] at this
   have:=(List.getElem?_eq_some_iff.1 this).2
   simpa using this
  have hlt:p<m:=by simp at hl;omega
  refine ⟨?_,hlt⟩
  have:(List.range m).take p=l1:=by rw [h2,←hpl,List.take_left]
  rw [←this,List.take_range,Nat.min_eq_left (by omega)]
 obtain ⟨rfl,hpm⟩:=hp
 have hnd:(List.range p).Nodup:=List.nodup_range
 classical
 obtain ⟨A,stf,acc2,r1,r2,r3,_,r5,_,r7⟩:=vdrawA_run (ks:=fun a s=>if a=acc1∧s=stp then some (.ret .undef []) else none) (out:=.ret .undef []) (List.range p) [] st hnd (by simp) (by rw [h4];exact if_pos ⟨rfl,rfl⟩)
 have hst:acc2=acc1∧stf=stp:=by
  by_cases hh:acc2=acc1∧stf=stp
  ·exact hh
  ·rw [if_neg hh] at r2;cases r2
 obtain ⟨rfl,rfl⟩:=hst
 unfold panOk at h7
 simp only [unAtF_eq,Bool.and_eq_true,List.all_eq_true] at h7
 obtain ⟨a1,a2⟩:=h7
 intro ρ k B τ g a w Q _ hR hQ
 refine pan_sound hok h3 (by rw [←Array.getElem?_toList];exact h5) r1 r3 r5 (fun j hj hu=>?_) (fun j hj=>by
  have:=a1 j (List.mem_range.2 (by simpa using hj))
  simpa using this) h6 h8 h9 (by simpa [wipe] using hfr) hR (fun g' a' w' u d hl hR' hnl hv=>hQ g' _ a' w' (.of hl) hR' ⟨u,d,rfl,hnl,hv⟩)
 have hij:involved un j=true:=by
  unfold involved
  unfold unAt at hu
  rw [Bool.or_eq_true]
  right
  rw [List.getD_eq_getElem?_getD] at hu
  cases hmm:un[p]? with
  | none=>rw [hmm] at hu;simp at hu
  | some m =>
   rw [hmm] at hu
   exact List.any_eq_true.2 ⟨m,List.mem_of_getElem? hmm,hu⟩
 rcases r7 j (List.mem_range.2 hj) hij with hacc | hnone
 ·have:=a2 _ hacc
  rw [hu] at this
  simpa using this
 ·rw [hnone];rfl
theorem xexec_reach (hCP:C.P=theP) (hD:∀ id ops,RegOf C.P f id ops→DrawSound C f id ops) (hOk:∀ id ops un,RegOf C.P f id ops→C.un f id=some un→okUn ops un=true):∀ {n:Nat} {c:Code} {st:St} {q:Ex×St},(∀ p∈drawRegs c,RegOf C.P f p.1 p.2)→(∀ b∈subloops c,loopAt C f (lkey b)=some b)→Hits C f N (xexec C f rd n c st) q→Runs C N rd c st q.1 q.2
 | 0,c,st,q,_,_,h=>h.elim
 | n+1,c,st,q,hd,hlp,h=>by
  cases c with
  | skip=>have h:q=(.normal,st):=h;subst h;exact Runs.skip
  | label l=>have h:q=(.normal,st):=h;subst h;exact Runs.label
  | exit i=>have h:q=(.exit i,st):=h;subst h;exact Runs.exit
  | ret=>have h:q=(.ret,st):=h;subst h;exact Runs.ret
  | region id ops draw =>
   cases draw with
   | false =>
    unfold xexec at h
    refine Runs.region (fun ρ n B τ g a w Q hρ hR hQ=>?_)
    refine xops_sound (f:=f) hρ (g:=g) (w:=w) hQ (List.range ops.size) st g a w ?_ (LaterN.refl ..) hR
    rw [filterMap_range]
    exact h
   | true =>
    unfold xexec at h
    dsimp only at h
    split at h
    ·rename_i un hun
     have hreg:=hd (id,ops) (by simp [drawRegs])
     have fin:∀ {e:Ex} {s:St} {k:St→T (Ex×St)} {m:Nat},m≤ops.size→e≠.normal→DrawnTo C f un st.h.length ops.toList (List.range m) [] st (e,s)→Hits C f N (xend st (e,s) k) q→Runs C N rd (.region id ops true) st q.1 q.2:=by
      intro e s k m hm hne hdr hh
      unfold xend at hh
      dsimp only at hh
      cases e with
      | normal=>exact absurd rfl hne
      | pan v =>
       dsimp only at hh
       split at hh
       ·rename_i hl
        have hh:q=(.pan v,s):=hh
        subst hh
        exact drawn_pan (hOk id ops un hreg hun) hm hdr (Nat.eq_of_beq_eq_true hl)
       ·exact hh.elim
      | exit i=>rcases hdr with ⟨h1,_⟩ | ⟨v,vb,l1,p,l2,o,s,acc1,stp,h1,_⟩<;>cases h1
      | ret=>rcases hdr with ⟨h1,_⟩ | ⟨v,vb,l1,p,l2,o,s,acc1,stp,h1,_⟩<;>cases h1
     split at h
     ·rename_i hlf
      obtain ⟨⟨e,s⟩,h1,h⟩:=reach_xb h
      have hdr:=xdraw_reach List.nodup_range h1
      by_cases hne:e=.normal
      ·subst hne
       have h:Hits C f N (xops C f rd ops.toList (ops.toList.drop (ops.size-1)) s) q:=h
       rcases hdr with ⟨_,vb,acc1,hvb,hks⟩ | ⟨v,vb,l1,p,l2,o,s,acc1,stp,h1,_⟩
       ·intro ρ k B τ g a w Q hρ hR hQ
        classical
        refine (hD id ops hreg).2 un hun hlf vb st hvb (fun st'=>if st'=s then some (.ret .undef []) else none) (.ret .undef []) (by unfold vdraw;rw [hks];exact if_pos rfl) ρ k B τ g a w Q hR (fun st' g' a' w' hl hR' hk=>?_)
        try dsimp only at hk
        split at hk
        ·rename_i e
         subst e
         refine xops_sound (f:=f) hρ (g:=g) (w:=w) hQ [ops.size-1] st' g' a' w' ?_ (.of hl) hR'
         rw [last_filter hlf]
         exact h
        ·cases hk
       ·cases h1
      ·exact fin (by omega) hne hdr h
     ·obtain ⟨⟨e,s⟩,h1,h⟩:=reach_xb h
      have hdr:=xdraw_reach List.nodup_range h1
      by_cases hne:e=.normal
      ·subst hne
       have h:q=(.normal,s):=h
       subst h
       rcases hdr with ⟨_,vb,acc1,hvb,hks⟩ | ⟨v,vb,l1,p,l2,o,s,acc1,stp,h1,_⟩
       ·intro ρ k B τ g a w Q _ hR hQ
        classical
        refine (hD id ops hreg).1 un hun vb st st hvb (fun st'=>if st'=s then some (.ret .undef []) else none) (.ret .undef []) (by unfold vdraw;rw [hks];exact if_pos rfl) ρ k B τ g a w Q hR (fun st' g' a' w' hl hR' hk=>?_)
        try dsimp only at hk
        split at hk
        ·rename_i e
         subst e
         exact hQ g' .normal a' w' (.of hl) hR' trivial
        ·cases hk
       ·cases h1
      ·exact fin (Nat.le_refl _) hne hdr h
    ·exact h.elim
  | seq x y =>
   unfold xexec at h
   obtain ⟨⟨e,s⟩,h1,h⟩:=reach_xb h
   have r1:=xexec_reach hCP hD hOk (fun p hp=>hd p (by simp [drawRegs,hp])) (fun b hb=>hlp b (by simp [subloops,hb])) h1
   cases e with
   | normal=>exact Runs.seq r1 (xexec_reach hCP hD hOk (fun p hp=>hd p (by simp [drawRegs,hp])) (fun b hb=>hlp b (by simp [subloops,hb])) h)
   | exit i=>have h:q=(.exit i,s):=h;subst h;exact Runs.seq_left r1 (fun e=>by cases e)
   | ret=>have h:q=(.ret,s):=h;subst h;exact Runs.seq_left r1 (fun e=>by cases e)
   | pan v=>have h:q=(.pan v,s):=h;subst h;exact Runs.seq_left r1 (fun e=>by cases e)
  | cond x y z =>
   unfold xexec at h
   dsimp only at h
   rw [peekF_eq] at h
   split at h
   ·rename_i t ht
    obtain ⟨b,hb,h⟩:=reach_xb h
    have hb:=snd_xcond b hb
    subst hb
    refine Runs.cond ht ?_
    cases t with
    | true=>exact xexec_reach hCP hD hOk (fun p hp=>hd p (by simp [drawRegs,hp])) (fun b hb=>hlp b (by simp [subloops,hb])) h
    | false=>exact xexec_reach hCP hD hOk (fun p hp=>hd p (by simp [drawRegs,hp])) (fun b hb=>hlp b (by simp [subloops,hb])) h
   ·exact h.elim
  | block id b =>
   unfold xexec at h
   obtain ⟨⟨e,s⟩,h1,h⟩:=reach_xb h
   have h:q=(inBlk id e,s):=h
   subst h
   exact Runs.block (xexec_reach hCP hD hOk (fun p hp=>hd p (by simp [drawRegs,hp])) (fun b hb=>hlp b (by simp [subloops,hb])) h1)
  | loop b =>
   obtain ⟨e,s,h1,h⟩:=h
   have h:q=(e,s):=h
   subst h
   exact h1 (hlp b (by simp [subloops]))
  | rangeFunc gop ps asg body =>
   unfold xexec at h
   dsimp only at h
   rw [peekF_eq] at h
   split at h
   ·exact h.elim
   rename_i hrd
   split at h
   ·rename_i gf caps hg
    split at h
    ·exact h.elim
    rename_i hyb
    obtain ⟨out,h1,h⟩:=reach_xb h
    have hr:=snd_xcall out h1
    cases out with
    | pan v h2=>exact h.elim
    | ret v h2 =>
     dsimp only at h
     split at h
     ·rename_i e st' haf
      have h:q=(e,st'):=h
      subst h
      refine Runs.ofV hCP (n:=1) hr hD hd (fun K=>?_)
      unfold vexec
      dsimp only
      rw [if_neg hrd,peekF_eq,hg]
      dsimp only
      rw [if_neg hyb,vb1_self,bindO_some]
      dsimp only
      rw [haf]
     ·exact h.elim
   ·exact h.elim
  | _=>exact h.elim
end
end Go.Fw
namespace Go.Fw
open Go.RowKit
def frzXs (a:Bool) (sz off len:Nat) (cs:List V):List V:=match a with | true=>chunk sz len (cs.drop off) | false=>(cs.drop off).take len
def frz0 (id:Nat):V→Bool
 | .ptr i _=>!(i==id)
 | .obj _ i=>!(i==id)
 | _=>true
def frz1 (id sz:Nat) (a:Bool) (cs:List V):V→Option (Bool×V)
 | .own i off len room=>match i==id with
  | true=>some (decide (off+len*sz≤cs.length),.imm false sz (frzXs a sz off len cs))
  | false=>some (true,.own i off len room)
 | .ptr i off=>match i==id with
  | true=>none
  | false=>some (true,.ptr i off)
 | .obj k i=>match i==id with
  | true=>none
  | false=>some (true,.obj k i)
 | .fn f first caps=>match first.all (frz0 id)&&caps.all (frz0 id) with
  | true=>some (true,.fn f first caps)
  | false=>none
 | v=>some (true,v)
def frzL (f:V→Option (Bool×V)):List V→Option (Bool×List V)
 | []=>some (true,[])
 | v::vs=>match f v with
  | some (b,v')=>match frzL f vs with
   | some (b2,vs')=>some (b&&b2,v'::vs')
   | none=>none
  | none=>none
def frz2 (id sz:Nat) (a:Bool) (cs:List V):V→Option (Bool×V)
 | .agg vs=>match frzL (frz1 id sz a cs) vs with
  | some (b,vs')=>some (b,.agg vs')
  | none=>none
 | v=>frz1 id sz a cs v
def frz3 (id sz:Nat) (a:Bool) (cs:List V):V→Option (Bool×V)
 | .tup vs=>match frzL (frz2 id sz a cs) vs with
  | some (b,vs')=>some (b,.tup vs')
  | none=>none
 | v=>frz2 id sz a cs v
def frzS (id sz:Nat) (a:Bool) (cs:List V):List V→Bool×List V
 | []=>(true,[])
 | v::vs=>match frz3 id sz a cs v with
  | some (b,v')=>(b&&(frzS id sz a cs vs).1,v'::(frzS id sz a cs vs).2)
  | none=>((frzS id sz a cs vs).1,.undef::(frzS id sz a cs vs).2)
def noRef (id:Nat):V→Bool
 | .own i _ _ _=>!(i==id)
 | .ptr i _=>!(i==id)
 | .obj _ i=>!(i==id)
 | .fn _ first caps=>first.all (frz0 id)&&caps.all (frz0 id)
 | _=>true
def noRef2 (id:Nat):V→Bool
 | .agg vs=>vs.all (noRef id)
 | v=>noRef id v
def noRef3 (id:Nat):V→Bool
 | .tup vs=>vs.all (noRef2 id)
 | v=>noRef2 id v
def frzH (id sz:Nat) (a:Bool) (cs:List V) (cl:List Nat):Nat→List Blk→Option (Bool×List Blk)
 | _,[]=>some (true,[])
 | k,b::r=>match frzH id sz a cs cl (k+1) r with
  | none=>none
  | some (q,r')=>match k==id with
   | true=>some (q,.dead::r')
   | false=>match b with
    | .dead=>some (q,.dead::r')
    | .gone=>none
    | .dfr=>some (q,.dfr::r')
    | .iter s p=>some (q,.iter s p::r')
    | .mp es=>some (es.all (fun p=>noRef2 id p.2)&&q,.mp es::r')
    | .loop l=>some (l.fr.all (noRef3 id)&&q,.loop l::r')
    | .cells c e=>match cl.contains k with
     | true=>some (c.all (noRef id)&&q,.cells c e::r')
     | false=>match frzL (frz1 id sz a cs) c with
      | some (p,c')=>some (p&&q,.cells c' e::r')
      | none=>none
def Gh.frz (g:Gh) (w:World) (id:Nat):Gh where
 mem:=⟨fun x=>if g.loc id=some x then (match w.heap[x]? with | some (.cells cur _ _)=>some cur.toList | _=>g.mem x) else g.mem x,g.mem.shape⟩
 loc:=fun i=>if i=id then none else g.loc i
 lin:=g.lin
section
variable {B τ:Nat} {g:Gh} {st:St} {a:Act} {w:World} {id:Nat}
theorem frz_mem (hR:R B τ g st a w):MemLe g.mem (g.frz w id).mem:=by
 refine ⟨fun x cs h=>?_,fun _ _ h=>h⟩
 show ∃ cs',(if g.loc id=some x then _ else g.mem x)=some cs'∧cs <+: cs'
 split
 ·rename_i hl
  have:=(hR.heap.fresh id x hl).2.2.1
  rw [h] at this;cases this
 ·exact ⟨cs,h,List.prefix_refl _⟩
theorem frz_loc {i b:Nat} (hi:i≠id) (h:g.loc i=some b):(g.frz w id).loc i=some b:=by
 show (if i=id then none else g.loc i)=some b
 rw [if_neg hi];exact h
theorem frz_ref0 (hR:R B τ g st a w) {v:V} {u:Value} (hv:frz0 id v=true) (h:RepP g v u):RepP (g.frz w id) v u:=by
 unfold RepP at *
 split at h
 ·obtain ⟨b,h1,h2⟩:=h
  simp only [frz0,Bool.not_eq_true',beq_eq_false_iff_ne,ne_eq] at hv
  exact ⟨b,frz_loc hv h1,h2⟩
 ·obtain ⟨b,h1,h2⟩:=h
  simp only [frz0,Bool.not_eq_true',beq_eq_false_iff_ne,ne_eq] at hv
  exact ⟨b,frz_loc hv h1,h2⟩
 ·exact h.mono (frz_mem hR)
theorem frz_noRef (hR:R B τ g st a w) {p:Place} {v:V} {u:Value} (hv:noRef id v=true) (h:RepC g p v u):RepC (g.frz w id) p v u:=by
 cases v with
 | ptr i off =>
  obtain ⟨b,h1,h2⟩:=h
  simp only [noRef,Bool.not_eq_true',beq_eq_false_iff_ne,ne_eq] at hv
  exact ⟨b,frz_loc hv h1,h2⟩
 | obj k i =>
  obtain ⟨b,h1,h2⟩:=h
  simp only [noRef,Bool.not_eq_true',beq_eq_false_iff_ne,ne_eq] at hv
  exact ⟨b,frz_loc hv h1,h2⟩
 | own i off len room =>
  simp only [noRef,Bool.not_eq_true',beq_eq_false_iff_ne,ne_eq] at hv
  rcases h with ⟨b,cap,h1,h2⟩ | h
  ·exact .inl ⟨b,cap,frz_loc hv h1,h2⟩
  ·exact .inr h
 | fn f first caps =>
  simp only [noRef,Bool.and_eq_true,List.all_eq_true] at hv
  obtain ⟨x,c,h1,h2,h3,h4,h5⟩:=h
  exact ⟨x,c,h1,h2,h3,fun j y hj hx=>frz_ref0 hR (hv.1 _ (List.mem_of_getElem? hx)) (h4 j y hj hx),fun j y hj hx=>frz_ref0 hR (hv.2 _ (List.mem_of_getElem? hx)) (h5 j y hj hx)⟩
 | agg=>exact h.elim
 | tup=>exact h.elim
 | undef=>exact h
 | lin priv e n xs =>
  rcases h with ⟨b,i,h1,h2,h3,h0,h4,h5⟩ | h
  ·exact .inl ⟨b,i,h1,h2,h3,h0,h4,h5.mono (frz_mem hR)⟩
  ·exact .inr h
 | _=>exact RepI.mono (frz_mem hR) h
theorem frz_own (hR:R B τ g st a w) {cs:List V} {e:TypeId} {sz:Nat} {ag:Bool} (hcs:st.h[id]?=some (.cells cs e)) (hsz:0<sz) (hag:ag=false→sz=1) (hall:cs.all flat1=true) {p:Place} {off len room:Nat} {u:Value} (hle:off+len*sz≤cs.length) (hr:RepC g p (.own id off len room) u):RepI (g.frz w id).mem (.imm false sz (frzXs ag sz off len cs)) u:=by
 simp only [RepC] at hr
 rcases hr with ⟨b,cap,hb,rfl,hcap,hmx,_⟩ | ⟨rfl,_,ad,rfl⟩
 rotate_left
 ·have:frzXs ag sz off 0 cs=[]:=by unfold frzXs;cases ag<;>simp [chunk]
  rw [this];exact repI_empty hsz ad
 obtain ⟨cur,hcur,hlc,hrep⟩:=hR.heap.blk id b cs e hb hcs
 rw [List.all_eq_true] at hall
 have hmem:∀ j,stAt (g.frz w id).mem b j=cur[j]?:=by
  intro j
  unfold stAt Gh.frz
  dsimp only
  rw [if_pos hb,hcur]
  simp
 have hcell:∀ (j:Nat) (c:V),cs[j]?=some c→isCell c=true∧∃ u,cur[j]?=some u∧RepI (g.frz w id).mem c u:=by
  intro j c hc
  have hf:=hall c (List.mem_of_getElem? hc)
  have hj:j<cur.size:=by have:=(List.getElem?_eq_some_iff.1 hc).1;omega
  exact ⟨(flat1_cell hf).1,cur[j],Array.getElem?_eq_getElem hj,(repC_flat1 hf (hrep j c hj hc)).mono (frz_mem hR)⟩
 cases ag with
 | false =>
  obtain rfl:=hag rfl
  show RepI _ (.imm false 1 ((cs.drop off).take len)) _
  have hlen:((cs.drop off).take len).length=len:=by simp;omega
  have key:∀ (i:Nat) (x:V),((cs.drop off).take len)[i]?=some x→isCell x=true∧x.cells=[x]∧∃ u,cur[off+i]?=some u∧RepI (g.frz w id).mem x u:=by
   intro i x hx
   rw [takeDrop_get] at hx
   split at hx
   ·obtain ⟨q1,q2⟩:=hcell _ x hx
    exact ⟨q1,(by cases x<;>first | rfl | cases q1),q2⟩
   ·cases hx
  have:=RepI.imm (m:=(g.frz w id).mem) false ((cs.drop off).take len) b off cap 1 (fun i j=>(cur[off+i*1+j]?).getD default) (by rw [hlen];exact hcap) (fun h=>by cases h) hmx (by omega)
   (fun i x hx=>by rw [(key i x hx).2.1];rfl)
   (fun i x j c hx hc=>by
    obtain ⟨q1,q2,u,q3,q4⟩:=key i x hx
    rw [q2] at hc
    cases j with
    | zero=>cases hc;exact ⟨q1,by rw [hmem];simp [q3]⟩
    | succ j=>simp at hc)
   (fun i x j c hx hc=>by
    obtain ⟨q1,q2,u,q3,q4⟩:=key i x hx
    rw [q2] at hc
    cases j with
    | zero=>cases hc;simpa [q3] using q4
    | succ j=>simp at hc)
  rw [hlen] at this
  exact this
 | true =>
  show RepI _ (.imm false sz (chunk sz len (cs.drop off))) _
  have key:∀ (i:Nat) (x:V) (j:Nat) (c:V),(chunk sz len (cs.drop off))[i]?=some x→x.cells[j]?=some c→isCell c=true∧∃ u,cur[off+i*sz+j]?=some u∧RepI (g.frz w id).mem c u:=by
   intro i x j c hx hc
   obtain ⟨hi,rfl⟩:=chunk_get hx
   simp only [V.cells] at hc
   rw [takeDrop_get] at hc
   split at hc
   ·rw [List.getElem?_drop,←Nat.add_assoc] at hc
    exact hcell _ c hc
   ·cases hc
  have hcl:(chunk sz len (cs.drop off)).length=len:=chunk_len
  have:=RepI.imm (m:=(g.frz w id).mem) false (chunk sz len (cs.drop off)) b off cap sz (fun i j=>(cur[off+i*sz+j]?).getD default) (by rw [hcl];exact hcap) (fun h=>by cases h) hmx hsz
   (fun i x hx=>by
    obtain ⟨hi,rfl⟩:=chunk_get hx
    simp only [V.cells,List.length_take,List.length_drop]
    have:(i+1)*sz≤len*sz:=Nat.mul_le_mul_right _ hi
    rw [Nat.add_mul,Nat.one_mul] at this
    omega)
   (fun i x j c hx hc=>by
    obtain ⟨q1,u,q3,q4⟩:=key i x j c hx hc
    exact ⟨q1,by rw [hmem];simp [q3]⟩)
   (fun i x j c hx hc=>by
    obtain ⟨q1,u,q3,q4⟩:=key i x j c hx hc
    simpa [q3] using q4)
  rw [hcl] at this
  exact this
theorem frz1_ok (hR:R B τ g st a w) {cs:List V} {e:TypeId} {sz:Nat} {ag:Bool} (hcs:st.h[id]?=some (.cells cs e)) (hsz:0<sz) (hag:ag=false→sz=1) (hall:cs.all flat1=true) {p:Place} {v v':V} {u:Value} (hv:frz1 id sz ag cs v=some (true,v')) (h:RepC g p v u):RepC (g.frz w id) p v' u:=by
 cases v with
 | own i off len room =>
  unfold frz1 at hv
  dsimp only at hv
  split at hv
  ·rename_i hi
   simp only [beq_iff_eq] at hi
   subst hi
   simp only [Option.some.injEq,Prod.mk.injEq,decide_eq_true_eq] at hv
   obtain ⟨h1,rfl⟩:=hv
   exact frz_own hR hcs hsz hag hall h1 h
  ·rename_i hi
   cases hv
   exact frz_noRef hR (by simp only [noRef];rw [hi];rfl) h
 | ptr i off =>
  unfold frz1 at hv
  dsimp only at hv
  split at hv
  ·cases hv
  ·rename_i hi
   cases hv
   exact frz_noRef hR (by simp only [noRef];rw [hi];rfl) h
 | obj k i =>
  unfold frz1 at hv
  dsimp only at hv
  split at hv
  ·cases hv
  ·rename_i hi
   cases hv
   exact frz_noRef hR (by simp only [noRef];rw [hi];rfl) h
 | fn f x y =>
  unfold frz1 at hv
  dsimp only at hv
  split at hv
  ·rename_i hi
   cases hv
   exact frz_noRef hR (by unfold noRef;exact hi) h
  ·cases hv
 | agg=>exact h.elim
 | tup=>exact h.elim
 | _=>cases hv;exact frz_noRef hR rfl h
theorem frzL_ok {f:V→Option (Bool×V)}:∀ {vs vs':List V},frzL f vs=some (true,vs')→vs'.length=vs.length∧∀ (j:Nat) (v':V),vs'[j]?=some v'→∃ v,vs[j]?=some v∧f v=some (true,v')
 | [],vs',h=>by cases h;exact ⟨rfl,fun j v' h=>by simp at h⟩
 | v::vs,vs',h=>by
  unfold frzL at h
  split at h
  ·rename_i b v1 h1
   split at h
   ·rename_i b2 vs1 h2
    simp only [Option.some.injEq,Prod.mk.injEq,Bool.and_eq_true] at h
    obtain ⟨⟨rfl,rfl⟩,rfl⟩:=h
    obtain ⟨e1,e2⟩:=frzL_ok h2
    refine ⟨by simp [e1],fun j x hx=>?_⟩
    cases j with
    | zero=>simp at hx;subst hx;exact ⟨v,rfl,h1⟩
    | succ j=>exact e2 j x (by simpa using hx)
   ·cases h
  ·cases h
theorem frz1_cell {cs:List V} {sz:Nat} {ag:Bool} {v v':V} {q:Bool} (hv:frz1 id sz ag cs v=some (q,v')):(v=.undef→v'=.undef)∧((∀ vs,v≠.agg vs)→∀ vs,v'≠.agg vs)∧((∀ vs,v≠.tup vs)→∀ vs,v'≠.tup vs):=by
 cases v<;>unfold frz1 at hv<;>dsimp only at hv<;>(try split at hv)<;>first | (cases hv;simp;done) | cases hv
theorem frz2_ok (hR:R B τ g st a w) {cs:List V} {e:TypeId} {sz:Nat} {ag:Bool} (hcs:st.h[id]?=some (.cells cs e)) (hsz:0<sz) (hag:ag=false→sz=1) (hall:cs.all flat1=true) {pl:Nat→Place} {v v':V} {u:Value} (hv:frz2 id sz ag cs v=some (true,v')) (h:RepA g pl v u):RepA (g.frz w id) pl v' u∧((∀ vs,v≠.tup vs)→∀ vs,v'≠.tup vs):=by
 by_cases ha:∃ vs,v=.agg vs
 ·obtain ⟨vs,rfl⟩:=ha
  unfold frz2 at hv
  dsimp only at hv
  split at hv
  ·rename_i b vs' hvs
   simp only [Option.some.injEq,Prod.mk.injEq] at hv
   obtain ⟨rfl,rfl⟩:=hv
   obtain ⟨e1,e2⟩:=frzL_ok hvs
   obtain ⟨us,rfl,h1,h2⟩:=h
   refine ⟨⟨us,rfl,by rw [e1];exact h1,fun j c hj hc=>?_⟩,fun _ _=>by simp⟩
   obtain ⟨x,hx,hfx⟩:=e2 j c hc
   exact frz1_ok hR hcs hsz hag hall hfx (h2 j x hj hx)
  ·cases hv
 ·have hv':frz1 id sz ag cs v=some (true,v'):=by cases v<;>first | exact hv | exact absurd ⟨_,rfl⟩ ha
  obtain ⟨c1,c2,c3⟩:=frz1_cell hv'
  refine ⟨?_,c3⟩
  rcases repA_inv h with e' | h | h
  ·rw [c1 e'];trivial
  ·exact repA_cell (frz1_ok hR hcs hsz hag hall hv' h)
  ·exact absurd h ha
theorem frz3_ok (hR:R B τ g st a w) {cs:List V} {e:TypeId} {sz:Nat} {ag:Bool} (hcs:st.h[id]?=some (.cells cs e)) (hsz:0<sz) (hag:ag=false→sz=1) (hall:cs.all flat1=true) {σ i:Nat} {v v':V} {u:Value} (hv:frz3 id sz ag cs v=some (true,v')) (h:RepS g σ i v u):RepS (g.frz w id) σ i v' u:=by
 by_cases ha:∃ vs,v=.tup vs
 ·obtain ⟨vs,rfl⟩:=ha
  unfold frz3 at hv
  dsimp only at hv
  split at hv
  ·rename_i b vs' hvs
   simp only [Option.some.injEq,Prod.mk.injEq] at hv
   obtain ⟨rfl,rfl⟩:=hv
   obtain ⟨e1,e2⟩:=frzL_ok hvs
   obtain ⟨us,rfl,h1,h2⟩:=h
   refine ⟨us,rfl,by rw [e1];exact h1,fun j c hj hc=>?_⟩
   obtain ⟨x,hx,hfx⟩:=e2 j c hc
   exact (frz2_ok hR hcs hsz hag hall hfx (h2 j x hj hx)).1
  ·cases hv
 ·have hn:∀ vs,v≠.tup vs:=fun vs e=>ha ⟨vs,e⟩
  have hv':frz2 id sz ag cs v=some (true,v'):=by cases v<;>first | exact hv | exact absurd rfl (hn _)
  rw [repS_notTup hn] at h
  obtain ⟨h1,h2⟩:=frz2_ok hR hcs hsz hag hall hv' h
  rw [repS_notTup (h2 hn)]
  exact h1
theorem frzS_ok {cs:List V} {sz:Nat} {ag:Bool}:∀ {vs:List V},(frzS id sz ag cs vs).1=true→(frzS id sz ag cs vs).2.length=vs.length∧∀ (j:Nat) (v':V),(frzS id sz ag cs vs).2[j]?=some v'→v'=.undef∨∃ v,vs[j]?=some v∧frz3 id sz ag cs v=some (true,v')
 | [],h=>⟨rfl,fun j v' h=>by simp [frzS] at h⟩
 | v::vs,h=>by
  unfold frzS at h ⊢
  split at h
  ·rename_i b v1 h1
   dsimp only at h
   rw [Bool.and_eq_true] at h
   obtain ⟨rfl,h⟩:=h
   obtain ⟨e1,e2⟩:=frzS_ok h
   dsimp only
   refine ⟨by simp [e1],fun j x hx=>?_⟩
   cases j with
   | zero=>simp at hx;subst hx;exact .inr ⟨v,rfl,h1⟩
   | succ j=>simpa using e2 j x (by simpa using hx)
  ·rename_i h1
   obtain ⟨e1,e2⟩:=frzS_ok h
   dsimp only
   refine ⟨by simp [e1],fun j x hx=>?_⟩
   cases j with
   | zero=>simp at hx;subst hx;exact .inl rfl
   | succ j=>simpa using e2 j x (by simpa using hx)
theorem noRef2_ok (hR:R B τ g st a w) {pl:Nat→Place} {v:V} {u:Value} (hv:noRef2 id v=true) (h:RepA g pl v u):RepA (g.frz w id) pl v u:=by
 unfold RepA at h ⊢
 split at h
 ·obtain ⟨cs,h1,h2,h3⟩:=h
  simp only [noRef2,List.all_eq_true] at hv
  exact ⟨cs,h1,h2,fun j c hj hc=>frz_noRef hR (hv c (List.mem_of_getElem? hc)) (h3 j c hj hc)⟩
 ·trivial
 ·rename_i h1 h2
  exact frz_noRef hR (by cases v<;>first | exact hv | exact (h1 _ rfl).elim) h
theorem noRef3_ok (hR:R B τ g st a w) {σ i:Nat} {v:V} {u:Value} (hv:noRef3 id v=true) (h:RepS g σ i v u):RepS (g.frz w id) σ i v u:=by
 unfold RepS at h ⊢
 split at h
 ·obtain ⟨cs,h1,h2,h3⟩:=h
  simp only [noRef3,List.all_eq_true] at hv
  exact ⟨cs,h1,h2,fun j c hj hc=>noRef2_ok hR (hv c (List.mem_of_getElem? hc)) (h3 j c hj hc)⟩
 ·rename_i h1
  exact noRef2_ok hR (by cases v<;>first | exact hv | exact (h1 _ rfl).elim) h
def FrzB (id sz:Nat) (a:Bool) (cs:List V) (b b':Blk):Prop:=match b' with
 | .cells c' e=>∃ c,b=.cells c e∧((c'=c∧c.all (noRef id)=true)∨frzL (frz1 id sz a cs) c=some (true,c'))
 | .dead=>True
 | .gone=>False
 | .mp es=>b=.mp es∧es.all (fun p=>noRef2 id p.2)=true
 | .loop l=>b=.loop l∧l.fr.all (noRef3 id)=true
 | b'=>b=b'
theorem frzH_ok {cs:List V} {sz:Nat} {ag:Bool} {cl:List Nat}:∀ {h h':List Blk} {k:Nat},frzH id sz ag cs cl k h=some (true,h')→h'.length=h.length∧∀ (j:Nat) (b':Blk),h'[j]?=some b'→(k+j=id→b'=.dead)∧(k+j≠id→∀ b,h[j]?=some b→(b'=.dead→b=.dead))∧∃ b,h[j]?=some b∧FrzB id sz ag cs b b'
 | [],h',k,h=>by cases h;exact ⟨rfl,fun j c' h=>by simp at h⟩
 | b::r,h',k,h=>by
  unfold frzH at h
  split at h
  ·cases h
  ·rename_i q r' hr
   have done:∀ (q:Bool) (b':Blk),q=true→frzH id sz ag cs cl (k+1) r=some (q,r')→(k=id→b'=.dead)→(k≠id→b'=.dead→b=.dead)→FrzB id sz ag cs b b' →
     (b'::r').length=(b::r).length∧∀ (j:Nat) (x:Blk),(b'::r')[j]?=some x→(k+j=id→x=.dead)∧(k+j≠id→∀ y,(b::r)[j]?=some y→(x=.dead→y=.dead))∧∃ y,(b::r)[j]?=some y∧FrzB id sz ag cs y x:=by
    intro q b' hq hr h0 h00 hb
    subst hq
    obtain ⟨e1,e2⟩:=frzH_ok hr
    refine ⟨by simp [e1],fun j x hj=>?_⟩
    cases j with
    | zero =>
     simp only [List.getElem?_cons_zero,Option.some.injEq] at hj
     subst hj
     exact ⟨fun e=>h0 (by omega),fun e y hy=>by simp at hy;subst hy;exact h00 (by omega),b,rfl,hb⟩
    | succ j =>
     obtain ⟨x1,x2,x3⟩:=e2 j x (by simpa using hj)
     exact ⟨fun e=>x1 (by omega),fun e y hy=>x2 (by omega) y (by simpa using hy),by simpa using x3⟩
   split at h
   ·rename_i hk
    simp only [beq_iff_eq] at hk
    simp only [Option.some.injEq,Prod.mk.injEq] at h
    obtain ⟨rfl,rfl⟩:=h
    exact done _ _ rfl hr (fun _=>rfl) (fun e=>absurd hk e) trivial
   ·rename_i hk
    have hk':k≠id:=by simpa using hk
    split at h
    ·simp only [Option.some.injEq,Prod.mk.injEq] at h
     obtain ⟨rfl,rfl⟩:=h
     exact done _ _ rfl hr (fun e=>absurd e hk') (fun _ _=>rfl) trivial
    ·cases h
    ·simp only [Option.some.injEq,Prod.mk.injEq] at h
     obtain ⟨rfl,rfl⟩:=h
     exact done _ _ rfl hr (fun e=>absurd e hk') (fun _ e=>by cases e) rfl
    ·simp only [Option.some.injEq,Prod.mk.injEq] at h
     obtain ⟨rfl,rfl⟩:=h
     exact done _ _ rfl hr (fun e=>absurd e hk') (fun _ e=>by cases e) rfl
    ·simp only [Option.some.injEq,Prod.mk.injEq,Bool.and_eq_true] at h
     obtain ⟨⟨h1,rfl⟩,rfl⟩:=h
     exact done _ _ rfl hr (fun e=>absurd e hk') (fun _ e=>by cases e) ⟨rfl,h1⟩
    ·simp only [Option.some.injEq,Prod.mk.injEq,Bool.and_eq_true] at h
     obtain ⟨⟨h1,rfl⟩,rfl⟩:=h
     exact done _ _ rfl hr (fun e=>absurd e hk') (fun _ e=>by cases e) ⟨rfl,h1⟩
    ·rename_i c e0
     split at h
     ·simp only [Option.some.injEq,Prod.mk.injEq,Bool.and_eq_true] at h
      obtain ⟨⟨h1,rfl⟩,rfl⟩:=h
      exact done _ _ rfl hr (fun e=>absurd e hk') (fun _ e=>by cases e) ⟨c,rfl,.inl ⟨rfl,h1⟩⟩
     ·split at h
      ·rename_i p c1 hc
       simp only [Option.some.injEq,Prod.mk.injEq,Bool.and_eq_true] at h
       obtain ⟨⟨rfl,rfl⟩,rfl⟩:=h
       exact done _ _ rfl hr (fun e=>absurd e hk') (fun _ e=>by cases e) ⟨c,rfl,.inr hc⟩
      ·cases h
def dfNoRef (id:Nat) (df:List Df):Bool:=df.all fun d=>match d with
 | .mark i=>!(i==id)
 | .call _ caps=>caps.all (frz0 id)
theorem DfOk.frz (hR:R B τ g st a w) {H H':List Blk}:∀ {df:List Df} {ds:List Deferred},dfNoRef id df=true→dfKeep df H'=true→DfOk g H df ds→DfOk (g.frz w id) H' df ds
 | [],ds,_,_,h=>h
 | .mark i::r,ds,hr,hk,h=>by
  obtain ⟨D,ds',h1,h2,h3,h4⟩:=h
  simp only [dfNoRef,List.all_cons,Bool.and_eq_true,Bool.not_eq_true',beq_eq_false_iff_ne,ne_eq] at hr
  simp only [dfKeep,List.all_cons,Bool.and_eq_true] at hk
  refine ⟨D,ds',h1,frz_loc hr.1 h2,?_,h4.frz hR (by unfold dfNoRef;exact hr.2) (by unfold dfKeep;exact hk.2)⟩
  have:=hk.1
  split at this
  ·rename_i b hb
   cases b<;>first | exact hb | cases this
  ·cases this
 | .call f caps::r,ds,hr,hk,h=>by
  obtain ⟨cs,ds',h1,h2,h3,h4⟩:=h
  simp only [dfNoRef,List.all_cons,Bool.and_eq_true] at hr
  simp only [dfKeep,List.all_cons,Bool.and_eq_true] at hk
  have hr1:=hr.1
  rw [List.all_eq_true] at hr1
  exact ⟨cs,ds',h1,h2,fun j c hj hc=>frz_ref0 hR (hr1 c (List.mem_of_getElem? hc)) (h3 j c hj hc),h4.frz hR (by unfold dfNoRef;exact hr.2) (by unfold dfKeep;exact hk.2)⟩
theorem R.frz (hR:R B τ g st a w) {cs:List V} {e:TypeId} {sz:Nat} {ag:Bool} {cl:List Nat} {h':List Blk} (hcs:st.h[id]?=some (.cells cs e)) (hsz:0<sz) (hag:ag=false→sz=1) (hall:cs.all flat1=true) (hS:(frzS id sz ag cs st.fr).1=true) (hH:frzH id sz ag cs cl 0 st.h=some (true,h')) (hd:(dfNoRef id st.df&&dfKeep st.df h')=true) (hlive:st.h.all Blk.live=true) :
  R B τ (g.frz w id) ⟨(frzS id sz ag cs st.fr).2,h',st.df⟩ a w:=by
 obtain ⟨s1,s2⟩:=frzS_ok hS
 obtain ⟨q1,q2⟩:=frzH_ok hH
 rw [Bool.and_eq_true] at hd
 have hcur:∀ x,g.loc id=some x→∃ cur e',w.heap[x]?=some (.cells cur e' (0,0)):=fun x hx=>by
  obtain ⟨cur,h1,_⟩:=hR.heap.blk id x cs e hx hcs
  exact ⟨cur,e,h1⟩
 have hne:∀ i x,i≠id→g.loc i=some x→g.loc id≠some x:=fun i x hi hx hd=>by
  have hlt:=hR.heap.bound i x hx
  rw [List.all_eq_true] at hlive
  exact hi (hR.heap.inj _ _ _ _ _ hx hd (List.getElem?_eq_getElem hlt) hcs (hlive _ (List.getElem_mem hlt)) rfl)
 refine ⟨by rw [←hR.size];exact s1,fun i v hi hv=>?_,⟨fun i b hl=>?_,fun i i' b y1 y2 h1 h2 v1 v2 v3 v4=>?_,fun i b hl=>?_,fun i b x hl he=>?_⟩,⟨fun b c hb=>?_,fun b c hb=>glob_le (frz_mem hR) (hR.mem.glob b c hb),hR.mem.shape⟩,⟨fun b i hb=>?_⟩,hR.base,hR.defers.frz hR hd.1 hd.2⟩
 ·rcases s2 i v hv with rfl | ⟨v0,hv0,hf⟩
  ·trivial
  ·exact frz3_ok hR hcs hsz hag hall hf (hR.slots i v0 hi hv0)
 ·have hl:(if i=id then none else g.loc i)=some b:=hl
  split at hl
  ·cases hl
  ·rw [q1];exact hR.heap.bound i b hl
 ·have h1:(if i=id then none else g.loc i)=some b:=h1
  have h2:(if i'=id then none else g.loc i')=some b:=h2
  have l1:∃ y,st.h[i]?=some y∧y.live=true:=by
   rw [List.all_eq_true] at hlive
   have:i<st.h.length:=by rw [←q1];exact (List.getElem?_eq_some_iff.1 v1).1
   exact ⟨_,List.getElem?_eq_getElem this,hlive _ (List.getElem_mem this)⟩
  have l2:∃ y,st.h[i']?=some y∧y.live=true:=by
   rw [List.all_eq_true] at hlive
   have:i'<st.h.length:=by rw [←q1];exact (List.getElem?_eq_some_iff.1 v2).1
   exact ⟨_,List.getElem?_eq_getElem this,hlive _ (List.getElem_mem this)⟩
  obtain ⟨z1,a1,a2⟩:=l1
  obtain ⟨z2,b1,b2⟩:=l2
  split at h1<;>split at h2<;>first | exact hR.heap.inj _ _ _ _ _ h1 h2 a1 b1 a2 b2 | cases h1 | cases h2
 ·have hl:(if i=id then none else g.loc i)=some b:=hl
  split at hl
  ·cases hl
  ·rename_i hi
   obtain ⟨f1,f2,f3,f4⟩:=hR.heap.fresh i b hl
   refine ⟨f1,f2,?_,f4⟩
   show (if g.loc id=some b then _ else g.mem b)=none
   rw [if_neg (hne i b hi hl)];exact f3
 ·have hl:(if i=id then none else g.loc i)=some b:=hl
  split at hl
  ·cases hl
  ·obtain ⟨_,_,y,hy,hb⟩:=q2 i x he
   obtain ⟨o,k1,k2⟩:=hR.heap.blkO i b y hl hy
   refine ⟨o,k1,?_⟩
   cases x with
   | dead=>trivial
   | gone=>exact hb.elim
   | cells c' e' =>
    obtain ⟨c0,rfl,hc⟩:=hb
    obtain ⟨cur,k3,k4,k5⟩:=k2
    rcases hc with ⟨rfl,hno⟩ | hfr
    ·rw [List.all_eq_true] at hno
     exact ⟨cur,k3,k4,fun j x hj hx=>frz_noRef hR (hno x (List.mem_of_getElem? hx)) (k5 j x hj hx)⟩
    ·obtain ⟨e1,e2⟩:=frzL_ok hfr
     refine ⟨cur,k3,by rw [e1];exact k4,fun j x hj hx=>?_⟩
     obtain ⟨x0,hx0,hfx⟩:=e2 j x hx
     exact frz1_ok hR hcs hsz hag hall hfx (k5 j x0 hj hx0)
   | dfr=>obtain rfl:y=.dfr:=hb;exact k2
   | iter s p=>obtain rfl:y=.iter s p:=hb;exact k2
   | mp es =>
    obtain ⟨rfl,hno⟩:=hb
    rw [List.all_eq_true] at hno
    obtain ⟨ents,clock,h1,h2,h3⟩:=k2
    refine ⟨ents,clock,h1,h2,fun j k v hj hc=>?_⟩
    obtain ⟨z1,z2,z3,z4⟩:=h3 j k v hj hc
    exact ⟨z1,z2,z3,fun pl=>noRef2_ok hR (hno _ (List.mem_of_getElem? hc)) (z4 pl)⟩
   | loop l =>
    obtain ⟨rfl,hno⟩:=hb
    rw [List.all_eq_true] at hno
    obtain ⟨h0,tmps,D,fn,h1,h2,h3⟩:=k2
    exact ⟨h0,tmps,D,fn,h1,h2,fun i v hi hv=>⟨(h3 i v hi hv).1,fun τ d=>noRef3_ok hR (hno _ (List.mem_of_getElem? hv)) ((h3 i v hi hv).2 τ d)⟩⟩
 ·have hb:(if g.loc id=some b then (match w.heap[b]? with | some (.cells cur _ _)=>some cur.toList | _=>g.mem b) else g.mem b)=some c:=hb
  split at hb
  ·rename_i hl
   obtain ⟨cur,e',hc⟩:=hcur b hl
   rw [hc] at hb
   cases hb
   exact ⟨cur,e',_,hc,List.prefix_refl _⟩
  ·exact hR.mem.at_ b c hb
 ·obtain ⟨k1,k2,k3,k4,k5,k6,k7⟩:=hR.lin.at_ b i hb
  have hnb:g.loc id≠some b:=fun hl=>by
   have:=(hR.heap.fresh id b hl).2.2.2
   have hb:g.lin b=some i:=hb
   rw [hb] at this;cases this
  have hmb:(g.frz w id).mem b=g.mem b:=by
   show (if g.loc id=some b then _ else g.mem b)=g.mem b
   rw [if_neg hnb]
  exact ⟨k1,k2,k3,k4,k5,fun h=>by rw [hmb];exact k6 h,fun h=>by rw [hmb];exact k7 h⟩
end
inductive TellB where
 | t (x:Tell) | frz (id sz:Nat) (a:Bool) (cl:List Nat) | cutB (M:Nat) | packB (ks:List Nat)
def tellB1 (P:Program) (N:Nat) (st:St):TellB→Option (Bool×St)
 | .cutB M=>match decide (N≤M) with
  | true=>some ((st.h.take M).all (blkBelow M)&&(dfKeep st.df (st.h.take M)&&dfRef M st.df),cutSt M st)
  | false=>none
 | .packB ks=>match pkH st.h ks with
  | some h'=>match nodupN ks&&(keepsN N ks 0&&st.df.isEmpty) with
   | true=>some (h'.all pkBlk,pkSt ks h' st)
   | false=>none
  | none=>none
 | .t x=>match tell1 P N st x with
  | some st'=>some (true,st')
  | none=>none
 | .frz id sz a cl=>match st.h[id]? with
  | some (.cells cs _)=>match decide (N≤id)&&decide (0<sz)&&(a||decide (sz=1)) with
   | true=>match frzH id sz a cs cl 0 st.h with
    | some (q,h')=>some (cs.all flat1&&((frzS id sz a cs st.fr).1&&(q&&((dfNoRef id st.df&&dfKeep st.df h')&&st.h.all Blk.live))),⟨(frzS id sz a cs st.fr).2,h',st.df⟩)
    | none=>none
   | false=>none
  | _=>none
def tellB (P:Program) (N:Nat):List TellB→St→Option (Bool×St)
 | [],st=>some (true,st)
 | x::r,st=>match tellB1 P N st x with
  | some (b,st)=>match tellB P N r st with
   | some (b2,st)=>some (b&&b2,st)
   | none=>none
  | none=>none
theorem tellB1_ok {P:Program} (hP:P=theP) {N:Nat} {st st':St} {x:TellB} (h:tellB1 P N st x=some (true,st')):StTo N st st':=by
 unfold tellB1 at h
 split at h
 ·rename_i M
  split at h
  ·rename_i hc
   simp only [Option.some.injEq,Prod.mk.injEq] at h
   obtain ⟨hb,rfl⟩:=h
   simp only [decide_eq_true_eq] at hc
   refine tell1_ok hP (N:=N) (x:=.cut M) ?_
   unfold tell1
   dsimp only
   rw [Bool.and_assoc,hb,decide_eq_true hc]
   rfl
  ·cases h
 ·rename_i ks
  split at h
  ·rename_i h' hH
   split at h
   ·rename_i hc
    simp only [Option.some.injEq,Prod.mk.injEq] at h
    obtain ⟨hb,rfl⟩:=h
    refine tell1_ok hP (N:=N) (x:=.pack ks) ?_
    unfold tell1
    dsimp only
    rw [hH]
    dsimp only
    rw [hb,hc]
    rfl
   ·cases h
  ·cases h
 ·split at h
  ·rename_i hx;cases h;exact tell1_ok hP hx
  ·cases h
 ·rename_i id sz ag cl
  split at h
  ·rename_i cs e hcs
   split at h
   ·rename_i hc
    simp only [Bool.and_eq_true,decide_eq_true_eq,Bool.or_eq_true] at hc
    obtain ⟨⟨h1,h2⟩,h3⟩:=hc
    split at h
    ·rename_i q h' hH
     simp only [Option.some.injEq,Prod.mk.injEq,Bool.and_eq_true] at h
     obtain ⟨⟨k1,k2,rfl,⟨k3,k4⟩,k5⟩,rfl⟩:=h
     have hag:ag=false→sz=1:=by
      rintro rfl
      simpa using h3
     intro B τ g a w hR
     exact ⟨g.frz w id,⟨Below.refl _ _,frz_mem hR,fun b hb=>(by
      show (if g.loc id=some b then _ else g.mem b)=g.mem b
      rw [if_neg (fun hl=>by have:=(hR.heap.fresh id b hl).1;omega)]),fun i b hi hl=>frz_loc (by omega) hl,fun _ _ h _=>h⟩,hR.frz hcs h2 hag k1 k2 hH (by rw [Bool.and_eq_true];exact ⟨k3,k4⟩) k5⟩
    ·cases h
   ·cases h
  ·cases h
theorem tellB_ok {P:Program} (hP:P=theP) {N:Nat}:∀ {l:List TellB} {st st':St},tellB P N l st=some (true,st')→StTo N st st'
 | [],st,st',h=>by cases h;exact StTo.refl _
 | x::r,st,st',h=>by
  unfold tellB at h
  split at h
  ·rename_i b s hs
   split at h
   ·rename_i b2 s2 hs2
    simp only [Option.some.injEq,Prod.mk.injEq,Bool.and_eq_true] at h
    obtain ⟨⟨rfl,rfl⟩,rfl⟩:=h
    exact (tellB1_ok hP hs).trans (tellB_ok hP hs2)
   ·cases h
  ·cases h
end Go.Fw
