/- All operations; a list of them with their guards; the code of a function. -/
import Derived.Test.YtnmfjjfnkhcpkaaGreatDoorPk2
import Derived.RangeFuncRecord
import Derived.RecoverIn
import Derived.Orders
set_option linter.all false
namespace Go.Fw
open Go.RowKit
section
variable {C:Cx} {vb:FuncId→List V→List Blk→Option FOut} {f:FuncId} {ρ:Option Nat} {n:Nat} {o:Oper} {st:St} {α:Type} {k kp:V→St→Option α} {out:α}
 {B τ:Nat} {g:Gh} {a:Act} {w:World} {next:Act→World→Prop} {Q:Exit→Act→World→Prop}
theorem vop_sound (hvb:VbSound C vb) (h:vop C vb f o st k kp=some out) (hR:R B τ g st a w) (hk:Goes B τ g a w o.dst k out next) (hp:Pans B τ g a w kp out Q):o.wpIn (FW ρ) n C.P a w next Q:=by
 cases ho:o.op with
 | move x=>exact op_move ho h hR hk
 | assign x=>exact op_assign ho h hR hk
 | pick c x y=>exact op_pick ho h hR hk
 | alloc t=>exact op_alloc ho h hR hk
 | box t x=>exact op_box ho h hR hk
 | build t p=>exact op_build ho h hR hk
 | buildSlice t m p=>exact op_buildSlice ho h hR hk
 | load t x=>exact op_load ho h hR hk
 | store t p x=>exact op_store ho h hR hk
 | nilCheck x=>exact op_nilCheck ho h hR hk
 | binOp op t x y t'=>exact op_binOp ho h hR hk
 | unOp op t x=>exact op_unOp ho h hR hk
 | convert s t x=>exact op_convert ho h hR hk (fun m v hv hm hkk=>op_bytes ho hv hm hkk hR hk)
 | makeFunc g x y=>exact op_makeFunc ho h hR hk
 | makeSlice t l c=>exact op_makeSlice ho h hR hk
 | slice t x l m c=>exact op_slice ho h hR hk
 | fieldAddr s x j=>exact op_fieldAddr ho h hR hk
 | field s x j=>exact op_field ho h hR hk
 | indexAddr t x i=>exact op_indexAddr ho h hR hk
 | index t x i=>exact op_index ho h hR hk
 | extract x i=>exact op_extract ho h hR hk
 | panic x=>exact op_panic ho h hR hp
 | range t x=>exact op_range ho (by unfold vop at h;rw [ho] at h;exact h) hR hk
 | next x b =>
  have h2:vop2 C.P o st k=some out:=by unfold vop at h;rw [ho] at h;exact h
  cases b with
  | true=>exact op_next ho h2 hR hk
  | false=>exfalso;unfold vop2 at h2;rw [ho] at h2;cases h2
 | makeMap t r=>exact op_makeMap ho (by unfold vop at h;rw [ho] at h;exact h) hR hk
 | mapUpdate t m kx x=>exact op_mapUpdate (.inl ho) (by unfold vop at h;rw [ho] at h;exact h) hR hk
 | insert t m kx x=>exact op_mapUpdate (.inr ho) (by unfold vop at h;rw [ho] at h;exact h) hR hk
 | lookup t m kx ok=>exact op_lookup ho (by unfold vop at h;rw [ho] at h;exact h) hR hk
 | makeInterface t x=>exact op_makeInterface ho (by unfold vop at h;rw [ho] at h;exact h) hR hk
 | typeAssert x s t ok=>exact op_typeAssert ho (by unfold vop at h;rw [ho] at h;exact h) hR hk
 | call c =>
  cases hb:c.callee with
  | value g0=>exact op_call hvb ho hb h hR hk hp
  | invoke r m=>exfalso;unfold vop at h;rw [ho] at h;dsimp only at h;rw [hb] at h;cases h
  | builtin b =>
   have blt:vop C vb f o st k kp=vblt C.P b o st c k→o.wpIn (FW ρ) n C.P a w next Q:=fun e=>op_blt ho hb (by rw [←e];exact h) hR hk
   cases b<;>first | exact op_len ho hb h hR hk | exact op_append ho hb h hR hk | exact op_clear ho hb h hR hk | exact blt (by unfold vop;rw [ho];dsimp only;rw [hb])
 | _=>exfalso;unfold vop at h;rw [ho] at h;unfold vop2 at h;rw [ho] at h;cases h
theorem wanted_none {o:Oper} {y:Nat→Option Bool} (h:o.guard=none):Region.wanted o y=true:=by unfold Region.wanted;rw [h]
theorem wanted_sound {ops:Array Oper} (hR:R B τ g st a w) {j:Nat} {want b:Bool} (hg:o.guard=some (j,want)) (h:wantedV ops.toList st.fr j want=some b):Region.wanted o (yielded ops a.tmps)=b:=by
 unfold Region.wanted
 rw [hg]
 dsimp only
 unfold wantedV at h
 unfold yielded
 rw [Array.getElem?_toList] at h
 split at h
 ·rename_i hd
  rw [hd]
  cases h
  rfl
 ·rename_i d hd
  rw [hd]
  have hs:=slot_of hR d
  simp only [Option.bind_some]
  split at h
  ·rename_i x hx
   rw [hx] at hs
   have:=rep_bool hs
   rw [Array.getD_eq_getD_getElem?] at this
   cases hh:a.tmps[d]? with
   | none=>rw [hh] at this;simp [undef] at this
   | some u =>
    rw [hh] at this
    simp only [Option.getD_some] at this
    subst this
    cases h
    cases x<;>cases want<;>rfl
  ·rename_i hx
   rw [hx] at hs
   obtain ⟨cs,e,h1,_⟩:=hs
   have hz:cs=#[]:=by apply Array.eq_empty_of_size_eq_zero;rw [←h1];rfl
   subst hz
   cases h
   rw [Array.getD_eq_getD_getElem?] at e
   cases hh:a.tmps[d]? with
   | none=>rfl
   | some u =>
    rw [hh] at e
    simp only [Option.getD_some] at e
    subst e
    rfl
  ·cases h
theorem skip_sound (hR:R B τ g st a w) (d:Option Tmp):R B τ g (put st d (.tup [])) (a.put d undef) w :=
 put_sound hR (v:=.tup []) ⟨#[],rfl,rfl,fun k c hk=>absurd hk (by simp)⟩
theorem defer_sound {c:Call} {st':St} (hρ:ρ=none) (hd:deferOf o=some c) (h:vdefer o st c=some st') (hR:R B τ g st a w) (hk:∀ a',R B τ g st' a' w→next a' w):o.wpIn (FW ρ) n C.P a w next Q:=by
 subst hρ
 have ho:o.op=.defer c:=by
  unfold deferOf at hd
  split at hd
  ·rename_i c' hc;cases hd;exact hc
  ·cases hd
 unfold vdefer at h
 split at h
 ·rename_i g0 hb ha hdst
  split at h
  ·rename_i f' caps hg0
   cases h
   obtain ⟨dx,hx⟩:=peek_rep hR g0
   rw [hg0] at hx
   obtain ⟨first',caps',hge,hfl,hcl,_,hcr⟩:=hx
   have hf0:first'=#[]:=by apply Array.eq_empty_of_size_eq_zero;simpa using hfl.symm
   subst hf0
   have hargs:c.args=#[]:=by cases hc:c.args;rw [hc] at ha;simpa using ha
   refine ⟨fun _ _=>trivial,?_⟩
   have hrun:(o.semAt (FW none).round a.eval).run C.P w=.ok (.defer {target:=.fn (.func f') caps',args:=#[]}) w:=by
    show (execOp a.eval o).run C.P w=_
    simp [execOp,ho,resolve,hb,hge,hargs,Deferred.ofValue]
   rw [hrun,Oper.uponIn_defer,hdst]
   refine hk _ ⟨hR.size,hR.slots,hR.heap,hR.mem,hR.lin,hR.base,?_⟩
   exact ⟨caps',a.defers,rfl,hcl,hcr,hR.defers⟩
  ·cases h
 ·cases h
theorem vops_sound {rd:Bool} (hrd:rd=false→ρ=none) (hvb:VbSound C vb) {ops:Array Oper} {ks:St→Option FOut} {kps:V→St→Option FOut} {out:FOut}
  (hn:∀ st' g' a' w',Later B τ g g' w w'→R B τ g' st' a' w'→ks st'=some out→Q .normal a' w')
  (hpn:∀ v st' g' u a' w' d,Later B τ g g' w w'→R B τ g' st' a' w'→isLin3 v=false→RepS g' τ d v u→kps v st'=some out→Q (.panic [{v:=u,recovered:=false}]) a' w') :
  ∀ (l:List Nat) (st:St) (g1:Gh) (a1:Act) (w1:World),vops C vb f rd ops.toList (l.filterMap (ops[·]?)) st ks kps=some out→Later B τ g g1 w w1→R B τ g1 st a1 w1→wpOpsIn (FW ρ) n C.P ops Q l a1 w1
 | [],st,g1,a1,w1,h,hl,hR=>hn st g1 a1 w1 hl hR h
 | i::l,st,g1,a1,w1,h,hl,hR=>by
  unfold wpOpsIn
  cases ho:ops[i]? with
  | none =>
   rw [List.filterMap_cons,ho] at h
   exact vops_sound hrd hvb hn hpn l st g1 a1 w1 h hl hR
  | some o =>
   rw [List.filterMap_cons,ho] at h
   dsimp only at h ⊢
   unfold vops at h
   simp only [vopF_eq,putF_eq,wantedVF_eq] at h
   have run:∀ st,vop C vb f o st (fun v st=>vops C vb f rd ops.toList (l.filterMap (ops[·]?)) (put st o.dst v) ks kps) kps=some out→R B τ g1 st a1 w1→o.wpIn (FW ρ) n C.P a1 w1 (wpOpsIn (FW ρ) n C.P ops Q l) Q:=by
    intro st h hR
    refine vop_sound hvb h hR (fun v st' g' u w' hl' hR' hv hkk=>?_) (fun v st' g' u w' d hl' hR' hnl hv hkk=>?_)
    ·exact vops_sound hrd hvb hn hpn l _ g' _ w' hkk (hl.trans hl') (put_sound hR' hv)
    ·exact hpn v st' g' u a1 w' d (hl.trans hl') hR' hnl hv hkk
   split at h
   ·rename_i hg
    rw [if_pos (wanted_none hg)]
    split at h
    ·rename_i c hc
     split at h
     ·cases h
     ·rename_i hr
      split at h
      ·rename_i st' hst
       exact defer_sound (hrd (by simpa using hr)) hc hst hR (fun a' hR'=>vops_sound hrd hvb hn hpn l _ g1 a' w1 h hl hR')
      ·cases h
    ·exact run st h hR
   ·rename_i j want hg
    split at h
    ·rename_i b hw
     have hws:=wanted_sound hR hg hw
     rcases condB_cases h with ⟨e,h'⟩ | ⟨e,h'⟩
     ·rw [e] at hws
      rw [if_pos hws]
      exact run st h' hR
     ·rw [e] at hws
      rw [if_neg (by rw [hws];simp)]
      exact ⟨fun _ _=>trivial,vops_sound hrd hvb hn hpn l _ g1 _ w1 h' hl (skip_sound hR _)⟩
    ·cases h
def ExIs (g:Gh) (τ:Nat):Ex→Exit→Prop
 | .normal,.normal=>True
 | .exit i,.exit j=>i=j
 | .ret,.ret=>True
 | .pan v,.panic ch=>∃ u d,ch=[{v:=u,recovered:=false}]∧isLin3 v=false∧RepS g τ d v u
 | _,_=>False
theorem least {p:Nat→Prop}:∀ (n j:Nat),j≤n→p j→∃ m,p m∧∀ k,p k→m≤k
 | 0,j,hj,h=>⟨0,(show j=0 by omega) ▸ h,fun k _=>Nat.zero_le k⟩
 | n+1,j,hj,h=>by
  by_cases hk:∃ k,k≤n∧p k
  ·obtain ⟨k,h1,h2⟩:=hk
   exact least n k h1 h2
  ·refine ⟨j,h,fun k hp=>?_⟩
   have:¬k≤n:=fun h=>hk ⟨k,h,hp⟩
   omega
theorem loop_rounds {F:Fence} {P:Program} {c:Code} {Rn:Nat→Act→World→Prop} (h0:∀ a w,¬Rn 0 a w) (hs:∀ j a w,Rn (j+1) a w→c.wpIn F n P (Exit.then (Rn j) Q) a w) {j:Nat} (h:Rn j a w):(Code.loop c).wpIn F n P Q a w:=by
 classical
 have lst:∀ a w,(∃ j,Rn j a w)→∃ m,Rn m a w∧∀ k,Rn k a w→m≤k:=fun a w ⟨j,hj⟩=>least (p:=fun j=>Rn j a w) j j (Nat.le_refl _) hj
 refine wpIn_loop (fun a w=>∃ j,Rn j a w) (fun a w=>if h:∃ j,Rn j a w then Classical.choose (lst a w h) else 0) ⟨j,h⟩ (fun a w hI=>?_)
 have hf:=Classical.choose_spec (lst a w hI)
 obtain ⟨m,hm⟩:∃ m,Classical.choose (lst a w hI)=m+1:=by
  cases hh:Classical.choose (lst a w hI) with
  | zero=>rw [hh] at hf;exact absurd hf.1 (h0 a w)
  | succ m=>exact ⟨m,rfl⟩
 have hf1:=hf.1
 rw [hm] at hf1
 refine wpIn_mono (hs m a w hf1) (fun e a' w' he=>?_)
 cases e<;>try exact he
 have hI':∃ j,Rn j a' w':=⟨m,he⟩
 refine ⟨hI',?_⟩
 rw [dif_pos hI,dif_pos hI',hm]
 exact Nat.lt_succ_of_le ((Classical.choose_spec (lst a' w' hI')).2 m he)
end
end Go.Fw
namespace Go.Fw
open Go.RowKit
def DrawSound (C:Cx) (f:FuncId) (id:Nat) (ops:Array Oper):Prop :=
 (∀ (un:List Nat),C.un f id=some un→∀ (vb:Nat→FuncId→List V→List Blk→Option FOut) (st stf:St),(∀ i,VbSound C (vb i)) →
  ∀ (ks:St→Option FOut) (out:FOut),vdraw C vb f un st.h.length ops.toList (List.range ops.size) [] st ks=some out →
  ∀ (ρ:Option Nat) (n B τ:Nat) (g:Gh) (a:Act) (w:World) (Q:Exit→Act→World→Prop),R B τ g st a w →
  (∀ st' g' a' w',Later B τ g g' w w'→R B τ g' st' a' w'→ks st'=some out→Q .normal a' w')→(Code.region id ops true).wpIn (FW ρ) n C.P Q a w) ∧
 (∀ (un:List Nat),C.un f id=some un→lastFree un ops=true→∀ (vb:Nat→FuncId→List V→List Blk→Option FOut) (st:St),(∀ i,VbSound C (vb i)) →
  ∀ (ks:St→Option FOut) (out:FOut),vdraw C vb f un st.h.length ops.toList (List.range (ops.size-1)) [] st ks=some out →
  ∀ (ρ:Option Nat) (n B τ:Nat) (g:Gh) (a:Act) (w:World) (Q:Exit→Act→World→Prop),R B τ g st a w →
  (∀ st' g' a' w',Later B τ g g' w w'→R B τ g' st' a' w'→ks st'=some out→wpOpsIn (FW ρ) n C.P ops Q [ops.size-1] a' w')→(Code.region id ops true).wpIn (FW ρ) n C.P Q a w)
theorem last_filter {un:List Nat} {ops:Array Oper} (h:lastFree un ops=true):[ops.size-1].filterMap (ops[·]?)=ops.toList.drop (ops.size-1):=by
 unfold lastFree at h
 rw [Bool.and_eq_true,decide_eq_true_eq] at h
 have hlt:ops.size-1<ops.size:=by omega
 have hl:ops.size-1<ops.toList.length:=by simpa using hlt
 rw [List.drop_eq_getElem_cons hl,List.drop_eq_nil_of_le (by rw [Array.length_toList];omega)]
 simp [hlt]
section
variable {C:Cx} {vb:FuncId→List V→List Blk→Option FOut} {f:FuncId} {ρ:Option Nat} {n:Nat} {B τ:Nat}
theorem filterMap_range' {α:Type}:∀ (l:List α) (k:Nat) (pre:List α),pre.length=k→(List.range' k l.length).filterMap (fun i=>(pre++l)[i]?)=l
 | [],_,_,_=>rfl
 | x::l,k,pre,h=>by
  rw [List.length_cons,List.range'_succ,List.filterMap_cons]
  have:(pre++x::l)[k]?=some x:=by rw [List.getElem?_append_right (by omega),h];simp
  rw [this]
  have ih:=filterMap_range' l (k+1) (pre++[x]) (by simp [h])
  rw [List.append_assoc] at ih
  exact congrArg (x::·) ih
theorem filterMap_range (ops:Array Oper):(List.range ops.size).filterMap (ops[·]?)=ops.toList:=by
 have:=filterMap_range' ops.toList 0 [] rfl
 rw [List.range_eq_range']
 simpa using this
theorem R.markAll {g:Gh} {st:St} {a:Act} {w:World} (h:R B τ g st a w):∃ g',Later B τ g g' w w∧R B τ g' {st with fr:=st.fr.map (map3 mark1)} a w∧g'.loc=g.loc ∧
  ∀ (i:Nat) (v:V) (hi:i<a.tmps.size),st.fr[i]?=some v→∀ τ' d,RepS g' τ' d (map3 demote1 v) a.tmps[i]:=by
 let q:Place→Bool:=fun p=>match p with | .slot τ' _ _ _=>τ'==τ | _=>false
 have hs:∀ (i:Nat) (v:V) (hi:i<a.tmps.size),st.fr[i]?=some v→RepS (g.share q) τ i (map3 mark1 v) a.tmps[i]∧∀ τ' d,RepS (g.share q) τ' d (map3 demote1 v) a.tmps[i]:=fun i v hi hv =>
  RepS.shared h.lin (fun j k=>by simp [q]) (h.slots i v hi hv)
 refine ⟨g.share q,share_later h.lin (fun τ' x j k hq=>by simpa [q] using hq),⟨by simpa using h.size,fun i v hi hv=>?_,share_heap h.lin (fun _ _=>rfl) h.heap,share_mem h.lin h.mem,share_lin h.lin,h.base,h.defers.mono (share_memLe h.lin) (fun _ _ h=>h) (fun _ h=>h)⟩,rfl,fun i v hi hv=>(hs i v hi hv).2⟩
 rw [List.getElem?_map] at hv
 obtain ⟨v0,hv0,rfl⟩:=Option.map_eq_some_iff.1 hv
 exact (hs i v0 hi hv0).1
theorem after_sound {id1:Nat} {st st':St} {e:Ex} {h2:List Blk} {g g':Gh} {a:Act} {w w'':World} {lb D:Nat} (h:afterRange id1 st h2=some (e,st')) (hR:R B τ g st a w) (hbel:Below B w w'') (hm:MemLe g.mem g'.mem) (hold:∀ b,b<B→g'.mem b=g.mem b) (hlc:∀ id b,g.loc id=some b→g'.loc id=some b)
  (hli:∀ b i,g.lin b=some i→(∃ τ x j k,i.place=.slot τ x j k)→g'.lin b=some i) (hho:HeapOk g' h2 B w'') (hmo:MemOk g'.mem w'') (hlo:LinOk g' B w'') (hl:g'.loc id1=some lb) (hD:g'.loc (id1-1)=some D) :
  ∃ jump w4,(Instr.endLoop lb).run C.P w''=.ok jump w4∧Later B τ g g' w w4∧R B τ g' st' {a with defers:=[{target:=.collected D,args:=#[]}]++a.defers} w4 ∧
   ((jump=none∧e=.normal)∨(jump=some .ret∧e=.ret)∨∃ i,jump=some (.exit i)∧e=.exit i):=by
 unfold afterRange at h
 split at h
 ·rename_i l hl2
  obtain ⟨o,ho,_,tmps,DD,fn,rfl,_⟩:=hho.blkO id1 lb _ hl hl2
  split at h
  ·cases h
  ·rename_i hbusy
   split at h
   ·rename_i hkeep
    have hend:=run_endLoop (P:=C.P) ho (by
     intro e;exact hbusy e)
    have hlt:lb<w''.heap.size:=(hho.fresh id1 lb hl).2.1
    obtain ⟨c1,c2,c3⟩:=write_core (x':=.dead) (o':=.loop {state:=.exhausted,pending:=l.pending,fn:=fn,tmps:=tmps,params:=l.ps,assign:=l.asg,body:=l.body,defers:=DD}) (w':=w''.putObj lb (.loop {state:=.exhausted,pending:=l.pending,fn:=fn,tmps:=tmps,params:=l.ps,assign:=l.asg,body:=l.body,defers:=DD}))
     hho hmo hlo hl hl2 rfl (World.putObj_heap_same hlt) (fun c hc=>World.putObj_heap_other hc) World.putObj_size trivial (fun cur e fr h0=>by rw [ho] at h0;cases h0)
    have hbel4:Below B w (w''.putObj lb (.loop {state:=.exhausted,pending:=l.pending,fn:=fn,tmps:=tmps,params:=l.ps,assign:=l.asg,body:=l.body,defers:=DD})) :=
     hbel.trans ⟨rfl,rfl,rfl,by simp,fun k hk=>World.putObj_heap_other (by have:=(hho.fresh id1 lb hl).1;omega)⟩
    have hkd:dfKeep (.mark (id1-1)::st.df) (h2.set id1 .dead)=true:=by
     rw [←hkeep]
     unfold dfKeep
     congr 1
     funext d
     cases d with
     | mark id =>
      dsimp only
      by_cases e:id=id1
      ·subst e
       rw [hl2]
       have:id<h2.length:=(List.getElem?_eq_some_iff.1 hl2).1
       rw [List.getElem?_set_self this]
       rfl
      ·rw [List.getElem?_set_ne (fun e'=>e e'.symm)]
     | call=>rfl
    have hRR:R B τ g' {st with h:=h2.set id1 .dead,df:=.mark (id1-1)::st.df} {a with defers:=[{target:=.collected D,args:=#[]}]++a.defers} (w''.putObj lb (.loop {state:=.exhausted,pending:=l.pending,fn:=fn,tmps:=tmps,params:=l.ps,assign:=l.asg,body:=l.body,defers:=DD})):=by
     refine ⟨hR.size,fun i v hi hv=>(hR.slots i v hi hv).mono hm hlc (fun j k b x hx hp=>hli b x hx ⟨_,_,_,_,hp⟩),c1,c2,c3,Nat.le_trans hR.base hbel4.size,?_⟩
     have hkd':=hkd
     simp only [dfKeep,List.all_cons,Bool.and_eq_true] at hkd'
     refine ⟨D,a.defers,rfl,hD,?_,hR.defers.keep hm hlc (by unfold dfKeep;exact hkd'.2)⟩
     have:=hkd'.1
     split at this
     ·rename_i b hb
      cases b<;>first | exact hb | cases this
     ·cases this
    have hL:Later B τ g g' w (w''.putObj lb (.loop {state:=.exhausted,pending:=l.pending,fn:=fn,tmps:=tmps,params:=l.ps,assign:=l.asg,body:=l.body,defers:=DD})) :=
     ⟨hbel4,hm,hold,hlc,fun b i hi ⟨τ',x,j,k,hp,_⟩=>hli b i hi ⟨τ',x,j,k,hp⟩⟩
    split at h
    ·rename_i hp;cases h;exact ⟨_,_,hend,hL,hRR,.inl ⟨hp,rfl⟩⟩
    ·rename_i hp;cases h;exact ⟨_,_,hend,hL,hRR,.inr (.inl ⟨hp,rfl⟩)⟩
    ·rename_i i hp;cases h;exact ⟨_,_,hend,hL,hRR,.inr (.inr ⟨i,hp,rfl⟩)⟩
    ·cases h
   ·cases h
 ·cases h
theorem vexec_sound (hCP:C.P=theP) {rd:Bool} (hrd:rd=false→ρ=none) (hDS:∀ id ops,RegOf C.P f id ops→DrawSound C f id ops) (hvb:VbSound C vb):∀ (fuel:Nat) (c:Code) (st:St) (K:Ex→St→Option FOut) (out:FOut),(∀ p∈drawRegs c,RegOf C.P f p.1 p.2)→vexec C vb f rd fuel c st K=some out →
  ∀ (g:Gh) (a:Act) (w:World) (Q:Exit→Act→World→Prop),R B τ g st a w →
  (∀ e st' g' e' a' w',Later B τ g g' w w'→R B τ g' st' a' w'→ExIs g' τ e e'→K e st'=some out→Q e' a' w')→c.wpIn (FW ρ) n C.P Q a w
 | 0,c,st,K,out,_,h,g,a,w,Q,hR,hQ=>by cases h
 | fuel+1,c,st,K,out,hd,h,g,a,w,Q,hR,hQ=>by
  unfold vexec at h
  cases c with
  | skip=>exact wpIn_skip (hQ .normal st g .normal a w (Later.refl ..) hR trivial h)
  | label l=>exact wpIn_label (hQ .normal st g .normal a w (Later.refl ..) hR trivial h)
  | region id ops draw =>
   cases draw with
   | false =>
    refine wpIn_region (vops_sound (f:=f) hrd hvb (g:=g) (w:=w) (ks:=K .normal) (kps:=fun v st=>K (.pan v) st) (out:=out) (fun st' g' a' w' hl hR' hk=>hQ .normal st' g' .normal a' w' hl hR' trivial hk)
     (fun v st' g' u a' w' d hl hR' hnl hv hk=>hQ (.pan v) st' g' _ a' w' hl hR' ⟨u,d,rfl,hnl,hv⟩ hk) _ st g a w ?_ (Later.refl ..) hR)
    rw [filterMap_range]
    exact h
   | true =>
    dsimp only at h
    split at h
    ·rename_i un hun
     split at h
     ·rename_i hlf
      refine (hDS id ops (hd (id,ops) (by simp [drawRegs]))).2 un hun hlf (fun _=>vb) st (fun _=>hvb) _ out h ρ n B τ g a w Q hR (fun st' g' a' w' hl hR' hk=>?_)
      refine vops_sound (f:=f) hrd hvb (g:=g) (w:=w) (ks:=K .normal) (kps:=fun v st=>K (.pan v) st) (out:=out) (fun st' g' a' w' hl hR' hk=>hQ .normal st' g' .normal a' w' hl hR' trivial hk)
       (fun v st' g' u a' w' d hl hR' hnl hv hk=>hQ (.pan v) st' g' _ a' w' hl hR' ⟨u,d,rfl,hnl,hv⟩ hk) _ st' g' a' w' ?_ hl hR'
      rw [last_filter hlf]
      exact hk
     ·exact (hDS id ops (hd (id,ops) (by simp [drawRegs]))).1 un hun (fun _=>vb) st st (fun _=>hvb) _ out h ρ n B τ g a w Q hR (fun st' g' a' w' hl hR' hk=>hQ .normal st' g' .normal a' w' hl hR' trivial hk)
    ·cases h
  | seq x y =>
   refine wpIn_seq ?_
   refine vexec_sound hCP hrd hDS hvb fuel x st _ out (fun p hp=>hd p (by simp [drawRegs,hp])) h g a w _ hR (fun e st' g' e' a' w' hl hR' he hk=>?_)
   cases e<;>cases e'<;>first | exact he.elim | skip
   ·exact vexec_sound hCP hrd hDS hvb fuel y st' K out (fun p hp=>hd p (by simp [drawRegs,hp])) hk g' a' w' Q hR' (fun e st2 g2 e2 a2 w2 hl2 hR2 he2 hk2=>hQ e st2 g2 e2 a2 w2 (hl.trans hl2) hR2 he2 hk2)
   ·exact hQ _ st' g' _ a' w' hl hR' he hk
   ·exact hQ _ st' g' _ a' w' hl hR' he hk
   ·exact hQ _ st' g' _ a' w' hl hR' he hk
  | cond x y z =>
   dsimp only at h
   rw [peekF_eq] at h
   split at h
   ·rename_i t ht
    obtain ⟨dx,hx⟩:=peek_rep hR x
    rw [ht] at hx
    have hx:=rep_bool hx
    rcases condB_cases h with ⟨e,h'⟩ | ⟨e,h'⟩
    ·exact wpIn_cond_true (by rw [hx,e]) (vexec_sound hCP hrd hDS hvb fuel y st K out (fun p hp=>hd p (by simp [drawRegs,hp])) h' g a w Q hR hQ)
    ·exact wpIn_cond_false (by rw [hx,e]) (vexec_sound hCP hrd hDS hvb fuel z st K out (fun p hp=>hd p (by simp [drawRegs,hp])) h' g a w Q hR hQ)
   ·cases h
  | block id b =>
   refine wpIn_block ?_
   refine vexec_sound hCP hrd hDS hvb fuel b st _ out (fun p hp=>hd p (by simp [drawRegs,hp])) h g a w _ hR (fun e st' g' e' a' w' hl hR' he hk=>?_)
   cases e<;>cases e'<;>first | exact he.elim | skip
   ·exact hQ _ st' g' _ a' w' hl hR' he hk
   ·rename_i i j
    have he:i=j:=he
    subst he
    dsimp only at hk
    unfold Exit.inBlock
    dsimp only
    split at hk
    ·rename_i hi
     rw [if_pos hi]
     exact hQ .normal st' g' .normal a' w' hl hR' trivial hk
    ·rename_i hi
     rw [if_neg hi]
     exact hQ (.exit i) st' g' (.exit i) a' w' hl hR' rfl hk
   ·exact hQ _ st' g' _ a' w' hl hR' he hk
   ·exact hQ _ st' g' _ a' w' hl hR' he hk
  | loop b =>
   refine loop_rounds (Rn:=fun j a' w'=>j≤fuel+1∧∃ st g1,Later B τ g g1 w w'∧R B τ g1 st a' w'∧vexec C vb f rd j (.loop b) st K=some out) (fun a w h=>?_) (fun j a1 w1 h1=>?_) (j:=fuel+1) ⟨Nat.le_refl _,st,g,Later.refl ..,hR,by unfold vexec;exact h⟩
   ·obtain ⟨_,st,g1,_,_,h⟩:=h
    unfold vexec at h
    cases h
   ·obtain ⟨hj,st1,g1,l1,R1,h1⟩:=h1
    unfold vexec at h1
    dsimp only at h1
    refine vexec_sound hCP hrd hDS hvb j b st1 _ out (fun p hp=>hd p (by simp [drawRegs,hp])) h1 g1 a1 w1 _ R1 (fun e st' g' e' a' w' hl hR' he hk=>?_)
    cases e<;>cases e'<;>first | exact he.elim | skip
    ·exact ⟨by omega,st',g',l1.trans hl,hR',hk⟩
    ·exact hQ _ st' g' _ a' w' (l1.trans hl) hR' he hk
    ·exact hQ _ st' g' _ a' w' (l1.trans hl) hR' he hk
    ·exact hQ _ st' g' _ a' w' (l1.trans hl) hR' he hk
  | exit id=>exact wpIn_exit (hQ (.exit id) st g (.exit id) a w (Later.refl ..) hR rfl h)
  | ret=>exact wpIn_ret (hQ .ret st g .ret a w (Later.refl ..) hR trivial h)
  | rangeFunc gop ps asg body =>
   dsimp only at h
   rw [peekF_eq] at h
   split at h
   ·cases h
   rename_i hr0
   obtain rfl:=hrd (by simpa using hr0)
   split at h
   ·rename_i gf caps hg0
    split at h
    ·cases h
    rename_i hyb
    have hyb:gf<yBase:=Nat.lt_of_not_le hyb
    obtain ⟨r,hr,h⟩:=bindO_eq h
    obtain ⟨dx,hx⟩:=peek_rep hR gop
    rw [hg0] at hx
    obtain ⟨first',caps',hge,hfl,hcl,_,hcr⟩:=hx
    have hf0:first'=#[]:=by apply Array.eq_empty_of_size_eq_zero;simpa using hfl.symm
    subst hf0
    obtain ⟨fn0,cd,hfn,hcd,hnn⟩:=hvb.fn gf _ _ r hr hyb
    have hne:¬fn0.name = "runtime.NumGoroutine":=by simpa using hnn
    refine wpIn_rangeFunc (fun fn hFfn=>?_)
    obtain ⟨g1,l1,R1,hloc1,hsnap⟩:=hR.markAll
    obtain ⟨g2,l2,R2,hloc2,_,hn2,hl2⟩:=new_obj R1 .dfr (.deferred (some [])) rfl
    obtain ⟨g3,l3,R3,hloc3,_,hn3,hl3⟩:=new_obj R2 (.loop {state:=.ready,pending:=none,f:=f,fr:=st.fr.map (map3 demote1),ps:=ps,asg:=asg,body:=body})
     (.loop {state:=.ready,pending:=none,fn,tmps:=a.tmps,params:=ps,assign:=asg,body,defers:=w.heap.size}) (by
      refine ⟨fun p hp=>hCP ▸ hd p (by simpa [drawRegs] using hp),a.tmps,w.heap.size,fn,rfl,by simpa using hR.size,fun i v hi hv=>?_⟩
      rw [List.getElem?_map] at hv
      obtain ⟨v0,hv0,rfl⟩:=Option.map_eq_some_iff.1 hv
      exact ⟨demote_lin,fun τ' d=>(hsnap i v0 hi hv0 τ' d).mono0 l2.mem hl2 demote_lin⟩)
    have hls:st.h.length+1=(st.h++[Blk.dfr]).length:=by simp
    have hws:w.heap.size+1=(w.alloc (.deferred (some []))).heap.size:=by simp
    have hloc3':g3.loc (st.h.length+1)=some (w.heap.size+1):=by rw [hls,hws];exact hloc3
    have hloc2':g3.loc st.h.length=some w.heap.size:=hl3 _ _ hloc2
    have hhp:(st.h++[.dfr])++[Blk.loop {state:=.ready,pending:=none,f:=f,fr:=st.fr.map (map3 demote1),ps:=ps,asg:=asg,body:=body}]=st.h++[.dfr,.loop {state:=.ready,pending:=none,f:=f,fr:=st.fr.map (map3 demote1),ps:=ps,asg:=asg,body:=body}]:=by simp
    have R3h:HeapOk g3 (st.h++[.dfr,.loop {state:=.ready,pending:=none,f:=f,fr:=st.fr.map (map3 demote1),ps:=ps,asg:=asg,body:=body}]) B ((w.alloc (.deferred (some []))).alloc (.loop {state:=.ready,pending:=none,fn,tmps:=a.tmps,params:=ps,assign:=asg,body,defers:=w.heap.size})):=by rw [←hhp];exact R3.heap
    refine ⟨w.heap.size+1,[{target:=.collected w.heap.size,args:=#[]}],((w.alloc (.deferred (some []))).alloc (.loop {state:=.ready,pending:=none,fn,tmps:=a.tmps,params:=ps,assign:=asg,body,defers:=w.heap.size})),{target:=.fn (.func gf) caps',args:=#[.func (.yield (w.heap.size+1)) #[] #[]]},((w.alloc (.deferred (some []))).alloc (.loop {state:=.ready,pending:=none,fn,tmps:=a.tmps,params:=ps,assign:=asg,body,defers:=w.heap.size})),gf,
     #[.func (.yield (w.heap.size+1)) #[] #[]]++caps',((w.alloc (.deferred (some []))).alloc (.loop {state:=.ready,pending:=none,fn,tmps:=a.tmps,params:=ps,assign:=asg,body,defers:=w.heap.size})),run_enterLoop_outer _ _ _ _ _,?_,fun f' hf'=>trivial,?_,fun h=>(by simp [FW,Fence.wide] at h),?_⟩
    ·simp [resolve,hge,Deferred.ofValue];rfl
    ·simp [invoke,callFunc,hfn,hcd,hne]
    ·have hpure:pureOf C gf ([.obj 1 (st.h.length+1)]++caps)=false:=by
      unfold pureOf
      simp [flat2,flat1,flat0]
     have hcall:=hvb.heap gf _ _ r hr hyb hpure (n-1) (#[.func (.yield (w.heap.size+1)) #[] #[]]++caps') ((w.alloc (.deferred (some []))).alloc (.loop {state:=.ready,pending:=none,fn,tmps:=a.tmps,params:=ps,assign:=asg,body,defers:=w.heap.size})) B g3 R3h R3.mem R3.lin R3.base (by
      refine ⟨by simp [hcl];omega,fun j c hj hc=>?_⟩
      cases j with
      | zero =>
       simp only [List.cons_append,List.nil_append,List.getElem?_cons_zero,Option.some.injEq] at hc
       subst hc
       exact ⟨rfl,fun τ d=>⟨w.heap.size+1,hloc3',by simp [objVal]⟩⟩
      | succ j =>
       have hc':caps[j]?=some c:=by simpa using hc
       have hj':j<caps'.size:=by simp at hj;omega
       have:=((hcr j c hj' hc').mono l1.mem l1.loc).mono (l2.trans l3).mem (l2.trans l3).loc
       have e:(#[Value.func (.yield (w.heap.size+1)) #[] #[]]++caps')[j+1]=caps'[j]:=by
        rw [Array.getElem_append_right (by simp)]
        simp
       rw [e]
       exact ⟨(repP_repS (τ:=0) (d:=0) this).1,fun τ d=>(repP_repS this).2⟩)
     refine CallsIn.mono hcall (fun e w'' he=>?_)
     obtain ⟨g',hout,hnl,hbel,hm,hold,hlc,hli,hho,hmo,hlo⟩:=he
     cases r with
     | pan v hh=>cases h
     | ret v hh =>
      obtain ⟨u,rfl,_⟩:=hout
      dsimp only at h
      split at h
      ·rename_i e' st' haf
       have l123:=(l1.trans l2).trans l3
       obtain ⟨jump,w4,q1,q2,q3,q4⟩:=after_sound (C:=C) (g:=g1) (a:=a) (w:=w) haf R1 ((l2.trans l3).below.trans hbel) ((l2.trans l3).mem.trans hm) (fun b hb=>(hold b hb).trans ((l2.trans l3).old b hb)) (fun id b hl=>hlc id b ((l2.trans l3).loc id b hl))
        (fun b i hi hp=>hli b i (by rw [hn3,hn2];exact hi) hp) hho hmo hlo (hlc _ _ hloc3') (by rw [Nat.add_sub_cancel];exact hlc _ _ hloc2')
       refine ⟨jump,w4,q1,?_⟩
       rcases q4 with ⟨rfl,rfl⟩ | ⟨rfl,rfl⟩ | ⟨i,rfl,rfl⟩
       ·exact hQ .normal st' g' .normal _ w4 (l1.trans q2) q3 trivial h
       ·exact wpIn_ret (hQ .ret st' g' .ret _ w4 (l1.trans q2) q3 trivial h)
       ·exact wpIn_exit (hQ (.exit i) st' g' (.exit i) _ w4 (l1.trans q2) q3 rfl h)
      ·cases h
   ·cases h
  | _=>cases h
termination_by fuel=>fuel
decreasing_by all_goals omega
end
end Go.Fw
namespace Go.Fw
open Go.RowKit
/-! ### the results,run -/
theorem run_mapM {α:Type} {P:Program} {w:World} {fm:α→Sem Value}:∀ {rs:List α} {us:List Value},rs.length=us.length→(∀ (j:Nat) (r:α) (u:Value),rs[j]?=some r→us[j]?=some u→(fm r).run P w=.ok u w)→(rs.mapM fm).run P w=.ok us w
 | [],[],_,_=>by simp
 | r::rs,u::us,hl,h=>by
  have h0:=h 0 r u rfl rfl
  have ih:=run_mapM (rs:=rs) (us:=us) (by simpa using hl) (fun j r u hr hu=>h (j+1) r u hr hu)
  simp [List.mapM_cons,h0,ih]
 | [],_::_,hl,_=>by simp at hl
 | _::_,[],hl,_=>by simp at hl
def oneU (us:List Value):Value:=match us with
 | [u]=>u
 | us=>.tuple us.toArray
def resRun (tmps:Array Value):ResultVar→Sem Value
 | .tmp t=>pure (tmps.getD t undef)
 | .cell a t=>do loadVar t (←asAddr (tmps.getD a undef))
theorem run_results {P:Program} {fn:Func} {tmps:Array Value} {w:World} {us:List Value} (hl:fn.results.toList.length=us.length) (h:∀ (j:Nat) (r:ResultVar) (u:Value),fn.results.toList[j]?=some r→us[j]?=some u→(resRun tmps r).run P w=.ok u w) :
  (results fn tmps).run P w=.ok (oneU us) w:=by
 have h1:=run_mapM (P:=P) (w:=w) (fm:=resRun tmps) hl h
 have h2:(fn.results.mapM (resRun tmps)).run P w=.ok us.toArray w:=by
  rw [Array.mapM_eq_mapM_toList,Sem.run_map,h1]
  rfl
 have h3:results fn tmps=(fn.results.mapM (resRun tmps) >>= fun vs=>pure (if h:vs.size=1 then vs[0] else .tuple vs)):=by
  unfold results
  congr 1
 rw [h3,Sem.run_bind,h2,Result.andThen_ok,Sem.run_pure]
 congr 1
 match us with
 | []=>rfl
 | [u]=>rfl
 | u::v::us=>simp [oneU]
theorem optAll_eq {α β:Type} {fm:α→Option β}:∀ {xs:List α} {ys:List β},optAll fm xs=some ys→xs.length=ys.length∧∀ (j:Nat) (x:α) (y:β),xs[j]?=some x→ys[j]?=some y→fm x=some y
 | [],ys,h=>by cases h;exact ⟨rfl,fun j x y h=>by simp at h⟩
 | x::xs,ys,h=>by
  unfold optAll at h
  obtain ⟨y,hy,h⟩:=bindO_eq h
  obtain ⟨zs,hz,h⟩:=bindO_eq h
  cases h
  obtain ⟨h1,h2⟩:=optAll_eq hz
  refine ⟨by simp [h1],fun j a b ha hb=>?_⟩
  cases j with
  | zero=>cases ha;cases hb;exact hy
  | succ j=>exact h2 j a b ha hb
/-! ### where a result is held -/
def srcPl (τ:Nat) (fr:List V):ResultVar→Nat→Place
 | .tmp t=>fun j=>.slot τ t j 0
 | .cell a _=>match getS fr a with
  | .ptr id off=>fun j=>.cell id (off+(j-1))
  | _=>fun _=>.slot τ 0 0 0
theorem srcPl_cell {τ:Nat} {fr:List V} {a:Tmp} {t:TypeId} {id off:Nat} (hp:getS fr a=.ptr id off):srcPl τ fr (.cell a t)=fun j=>.cell id (off+(j-1)):=by
 simp only [srcPl,hp]
theorem repA_ofCells {g:Gh} {pl:Nat→Place} {gg:Bool} {c:List V} {v:V} {vals:List Value} (h:ofCells gg c=some v) (hl:c.length=vals.length) (hc:∀ (j:Nat) (x:V) (u:Value),c[j]?=some x→vals[j]?=some u→RepC g (pl (if gg then j+1 else 0)) x u) :
  RepA g pl v (if gg then .agg vals.toArray else vals.headD undef):=by
 rcases ofCells_some h with ⟨rfl,rfl⟩ | ⟨rfl,rfl⟩
 ·refine ⟨vals.toArray,rfl,by simpa using hl,fun j x hj hx=>?_⟩
  have:=hc j x (vals.toArray[j]) hx (by simp at hj;simp [hj])
  simpa using this
 ·match vals,hl with
  | [u],_=>exact repA_cell (by simpa using hc 0 v u rfl rfl)
section
variable {C:Cx} {B τ:Nat} {g:Gh} {st:St} {a:Act} {w:World}
theorem result_sound (hR:R B τ g st a w) {rv:ResultVar} {v:V} (h:resultV C st rv=some v) :
  ∃ u,(resRun a.tmps rv).run C.P w=.ok u w∧((∀ vs,v≠.tup vs)→RepA g (srcPl τ st.fr rv) v u) ∧
   ∀ a' t,rv=.cell a' t→∃ id off gg,getS st.fr a'=.ptr id off∧isAggT C.P t=some gg∧(gg=true↔∃ vs,v=.agg vs):=by
 cases rv with
 | tmp t =>
  cases h
  refine ⟨a.tmps.getD t undef,by simp [resRun],fun hnt=>?_,fun _ _ e=>by cases e⟩
  have:=slot_of hR t
  rw [repS_notTup hnt] at this
  exact this
 | cell x t =>
  unfold resultV at h
  dsimp only at h
  split at h
  ·rename_i id off gg m hp hg hm
   split at h
   ·rename_i cs e hcs
    split at h
    ·rename_i hle
     have hx:=slot_of hR x
     rw [hp] at hx
     obtain ⟨b,hb,hu⟩:=rep_ptr hx
     obtain ⟨cur,hcur,hlc,hrep⟩:=hR.heap.blk id b cs e hb hcs
     have hlen:((cs.drop off).take m).length=m:=by simp;omega
     have hvl:((cur.toList.drop off).take m).length=m:=by simp;omega
     have h1:gg=false→m=1:=by
      intro hgf
      rcases ofCells_some h with ⟨e1,_⟩ | ⟨_,e1⟩
      ·rw [hgf] at e1;cases e1
      ·rw [←hlen,e1];rfl
     have hl:=run_loadVar_cells (P:=C.P) (w:=w) (b:=b) (off:=off) hg hm _ hvl (fun j u hj=>by
      rw [cell_of_heap hcur]
      rw [takeDrop_get] at hj
      split at hj
      ·simpa using hj
      ·cases hj) h1
     refine ⟨_,by simp only [resRun,Sem.run_bind];rw [hu];simp only [asAddr,Sem.run_pure,Result.andThen_ok];exact hl,fun _=>?_,fun a' t' e'=>?_⟩
     ·refine repA_ofCells h (by rw [hlen,hvl]) (fun j y u hj hu'=>?_)
      rw [takeDrop_get] at hj hu'
      split at hj
      ·rename_i hjm
       rw [if_pos hjm] at hu'
       have hlt:=(List.getElem?_eq_some_iff.1 hu').1
       have hlt:off+j<cur.size:=by simpa using hlt
       have e2:u=cur[off+j]:=by
        have:=(List.getElem?_eq_some_iff.1 hu').2
        rw [←this];simp
       rw [e2]
       have:=hrep (off+j) y hlt hj
       rw [srcPl_cell hp]
       cases gg with
       | true=>simpa using this
       | false =>
        have:=h1 rfl
        have hj0:j=0:=by omega
        subst hj0
        simpa using hrep off y (by simpa using hlt) (by simpa using hj)
      ·cases hj
     ·cases e'
      refine ⟨id,off,gg,hp,hg,?_⟩
      rcases ofCells_some h with ⟨e1,e2⟩ | ⟨e1,e2⟩
      ·exact ⟨fun _=>⟨_,e2⟩,fun _=>e1⟩
      ·constructor
       ·intro e3;rw [e1] at e3;cases e3
       ·rintro ⟨vs,rfl⟩
        exfalso
        have hin:V.agg vs∈(cs.drop off).take m:=by rw [e2];simp
        obtain ⟨j,hj⟩:=List.mem_iff_getElem?.1 hin
        rw [takeDrop_get] at hj
        split at hj
        ·have hlt:off+j<cur.size:=by
          have:=(List.getElem?_eq_some_iff.1 hj).1;omega
         exact (hrep _ _ hlt hj).elim
        ·cases hj
    ·cases h
   ·cases h
  ·cases h
/-! ### taken out -/
open Classical in
noncomputable def Gh.esc (g:Gh) (w:World) (ren:Place→Place):Gh where
 mem:=⟨fun b=>match g.mem b with
  | some cs=>some cs
  | none=>if (∃ id,g.loc id=some b) then (match w.heap[b]? with
   | some (.cells cur _ _)=>some cur.toList
   | _=>none) else none,g.mem.shape⟩
 loc:=fun _=>none
 lin:=fun b=>(g.lin b).map fun i=>{i with place:=ren i.place}
theorem esc_le (g:Gh) (w:World) (ren:Place→Place):MemLe g.mem (g.esc w ren).mem:=by
 refine ⟨fun b cs h=>?_,fun _ _ h=>h⟩
 unfold Gh.esc
 dsimp only
 rw [h]
 exact ⟨cs,rfl,List.prefix_refl _⟩
theorem esc_own {g:Gh} {w:World} {ren:Place→Place} {id b:Nat} (hm:g.mem b=none) (hl:g.loc id=some b) {cur:Array Value} {e:TypeId} {fr:Nat×Nat} (hc:w.heap[b]?=some (.cells cur e fr)):(g.esc w ren).mem b=some cur.toList:=by
 unfold Gh.esc
 dsimp only
 rw [hm]
 dsimp only
 rw [if_pos ⟨id,hl⟩,hc]
theorem chunk_get {sz:Nat}:∀ {n:Nat} {cs:List V} {i:Nat} {x:V},(chunk sz n cs)[i]?=some x→i<n∧x=.agg ((cs.drop (i*sz)).take sz)
 | 0,cs,i,x,h=>by simp [chunk] at h
 | n+1,cs,i,x,h=>by
  unfold chunk at h
  cases i with
  | zero=>simp at h;exact ⟨by omega,by rw [←h];simp⟩
  | succ i =>
   rw [List.getElem?_cons_succ] at h
   obtain ⟨h1,h2⟩:=chunk_get h
   refine ⟨by omega,?_⟩
   rw [h2,List.drop_drop,Nat.add_mul,Nat.one_mul,Nat.add_comm]
theorem chunk_len {sz:Nat}:∀ {n:Nat} {cs:List V},(chunk sz n cs).length=n
 | 0,_=>rfl
 | n+1,cs=>by unfold chunk;rw [List.length_cons,chunk_len]
theorem escape1_sound (hh:HeapOk g st.h B w) {ren:Place→Place} {p q:Place} (hpq:ren p=q) {v v':V} {u:Value} (h:escape1 C.P st.h v=some v') (hr:RepC g p v u):RepC (g.esc w ren) q v' u∧isCell v'=true∧v'≠.undef:=by
 have flat:∀ v,(∀ id off n r,v≠.own id off n r)→(∀ p e n xs,v≠.lin p e n xs)→escape1 C.P st.h v=some v'→flat1 v=true∧v'=v:=by
  intro v h1 h2 h
  unfold escape1 at h
  split at h
  ·exact absurd rfl (h1 _ _ _ _)
  ·exact absurd rfl (h2 _ _ _ _)
  ·rcases condB_cases h with ⟨e,h⟩ | ⟨_,h⟩
   ·cases h;exact ⟨e,rfl⟩
   ·cases h
 by_cases ho:∃ id off n r,v=.own id off n r
 ·obtain ⟨id,off,n,room,rfl⟩:=ho
  simp only [RepC] at hr
  rcases hr with ⟨b,cap,hb,rfl,hcap,hmx,_⟩ | ⟨rfl,_,ad,rfl⟩
  rotate_left
  ·unfold escape1 at h
   dsimp only at h
   split at h
   ·split at h
    ·rcases condB_cases h with ⟨_,h⟩ | ⟨_,h⟩
     ·cases h
      rw [List.take_zero]
      exact ⟨repI_empty (by omega) ad,rfl,by simp⟩
     ·cases h
    ·rcases condB_cases h with ⟨_,h⟩ | ⟨_,h⟩
     ·cases h
      exact ⟨repI_empty (by omega) ad,rfl,by simp⟩
     ·cases h
    ·cases h
   ·cases h
  unfold escape1 at h
  dsimp only at h
  split at h
  ·rename_i cs e hcs
   obtain ⟨cur,hcur,hlc,hrep⟩:=hh.blk id b cs e hb hcs
   have hmem:∀ j,stAt (g.esc w ren).mem b j=cur[j]?:=by
    intro j
    unfold stAt
    rw [esc_own (hh.fresh id b hb).2.2.1 hb hcur]
    simp
   have hcell:∀ (j:Nat) (c:V),cs[j]?=some c→flat1 c=true→isCell c=true∧∃ u,cur[j]?=some u∧RepI (g.esc w ren).mem c u:=by
    intro j c hc hf
    have hj:j<cur.size:=by have:=(List.getElem?_eq_some_iff.1 hc).1;omega
    exact ⟨(flat1_cell hf).1,cur[j],Array.getElem?_eq_getElem hj,(repC_flat1 hf (hrep j c hj hc)).mono (esc_le g w ren)⟩
   split at h
   ·rcases condB_cases h with ⟨hcond,h⟩ | ⟨_,h⟩
    ·cases h
     simp only [Bool.and_eq_true,decide_eq_true_eq,List.all_eq_true] at hcond
     obtain ⟨hle,hall⟩:=hcond
     refine ⟨?_,rfl,by simp⟩
     have hlen:((cs.drop off).take n).length=n:=by simp;omega
     have key:∀ (i:Nat) (x:V),((cs.drop off).take n)[i]?=some x→isCell x=true∧x.cells=[x]∧∃ u,cur[off+i]?=some u∧RepI (g.esc w ren).mem x u:=by
      intro i x hx
      have hf:=hall x (List.mem_of_getElem? hx)
      rw [takeDrop_get] at hx
      split at hx
      ·obtain ⟨q1,q2⟩:=hcell _ x hx hf
       exact ⟨q1,(by cases x<;>first | rfl | cases q1),q2⟩
      ·cases hx
     have:=RepI.imm (m:=(g.esc w ren).mem) false ((cs.drop off).take n) b off cap 1 (fun i j=>(cur[off+i*1+j]?).getD default) (by rw [hlen];exact hcap) (fun h=>by cases h) hmx (by omega)
      (fun i x hx=>by rw [(key i x hx).2.1];rfl)
      (fun i x j c hx hc=>by
       obtain ⟨q1,q2,u,q3,q4⟩:=key i x hx
       rw [q2] at hc
       cases j with
       | zero=>cases hc;exact ⟨q1,by rw [hmem];simp [q3]⟩
       | succ j=>simp at hc)
      (fun i x j c hx hc=>by
       obtain ⟨q1,q2,u,q3,q4⟩:=key i x hx
       rw [q2] at hc
       cases j with
       | zero=>cases hc;simpa [q3] using q4
       | succ j=>simp at hc)
     rw [hlen] at this
     exact this
    ·cases h
   ·rename_i m hag hsz
    rcases condB_cases h with ⟨hcond,h⟩ | ⟨_,h⟩
    ·cases h
     simp only [Bool.and_eq_true,decide_eq_true_eq,List.all_eq_true] at hcond
     obtain ⟨hle,hall⟩:=hcond
     refine ⟨?_,rfl,by simp⟩
     have key:∀ (i:Nat) (x:V) (j:Nat) (c:V),(chunk (m+1) n (cs.drop off))[i]?=some x→x.cells[j]?=some c→isCell c=true∧∃ u,cur[off+i*(m+1)+j]?=some u∧RepI (g.esc w ren).mem c u:=by
      intro i x j c hx hc
      obtain ⟨hi,rfl⟩:=chunk_get hx
      simp only [V.cells] at hc
      rw [takeDrop_get] at hc
      split at hc
      ·rename_i hj
       have hlt:i*(m+1)+j<n*(m+1):=by
        have:(i+1)*(m+1)≤n*(m+1):=Nat.mul_le_mul_right _ hi
        rw [Nat.add_mul,Nat.one_mul] at this
        omega
       rw [List.getElem?_drop,←Nat.add_assoc] at hc
       refine hcell _ c hc (hall c ?_)
       refine List.mem_iff_getElem?.2 ⟨i*(m+1)+j,?_⟩
       rw [takeDrop_get,if_pos hlt,←Nat.add_assoc]
       exact hc
      ·cases hc
     have hcl:(chunk (m+1) n (cs.drop off)).length=n:=chunk_len
     have:=RepI.imm (m:=(g.esc w ren).mem) false (chunk (m+1) n (cs.drop off)) b off cap (m+1) (fun i j=>(cur[off+i*(m+1)+j]?).getD default) (by rw [hcl];exact hcap) (fun h=>by cases h) hmx (by omega)
      (fun i x hx=>by
       obtain ⟨hi,rfl⟩:=chunk_get hx
       simp only [V.cells,List.length_take,List.length_drop]
       have:(i+1)*(m+1)≤n*(m+1):=Nat.mul_le_mul_right _ hi
       rw [Nat.add_mul,Nat.one_mul] at this
       omega)
      (fun i x j c hx hc=>by
       obtain ⟨q1,u,q3,q4⟩:=key i x j c hx hc
       exact ⟨q1,by rw [hmem];simp [q3]⟩)
      (fun i x j c hx hc=>by
       obtain ⟨q1,u,q3,q4⟩:=key i x j c hx hc
       simpa [q3] using q4)
     rw [hcl] at this
     exact this
    ·cases h
   ·cases h
  ·cases h
 ·by_cases hl:∃ p e n xs,v=.lin p e n xs
  ·obtain ⟨p',e,n,xs,rfl⟩:=hl
   cases h
   refine ⟨?_,rfl,by simp⟩
   simp only [RepC] at hr ⊢
   rcases hr with ⟨b,i,h1,h2,h3,h0,h4,h5⟩ | hr
   rotate_left
   ·exact .inr hr
   refine .inl ⟨b,{i with place:=ren i.place},?_,by simp [h2,hpq],h3,h0,h4,h5.mono (esc_le g w ren)⟩
   unfold Gh.esc
   dsimp only
   rw [h1]
   rfl
  ·obtain ⟨hf,rfl⟩:=flat v (fun id off n r e=>ho ⟨_,_,_,_,e⟩) (fun p e n xs e'=>hl ⟨_,_,_,_,e'⟩) h
   exact ⟨flat1_repC hf ((repC_flat1 hf hr).mono (esc_le g w ren)),(flat1_cell hf).1,(flat1_cell hf).2.2⟩
theorem escape2_sound (hh:HeapOk g st.h B w) {ren:Place→Place} {pl pl':Nat→Place} {v v':V} {u:Value} (h1:∀ vs,v=.agg vs→∀ j,ren (pl (j+1))=pl' (j+1)) (h0:(∀ vs,v≠.agg vs)→ren (pl 0)=pl' 0) (h:escape2 C.P st.h v=some v') (hr:RepA g pl v u) :
  RepA (g.esc w ren) pl' v' u∧(∀ vs,v'≠.tup vs):=by
 by_cases ha:∃ vs,v=.agg vs
 ·obtain ⟨vs,rfl⟩:=ha
  unfold escape2 at h
  dsimp only at h
  obtain ⟨ws,hws,h⟩:=bindO_eq h
  cases h
  obtain ⟨hl,hall⟩:=optAll_eq hws
  obtain ⟨cs,rfl,h2,h3⟩:=hr
  refine ⟨⟨cs,rfl,by rw [←hl];exact h2,fun j c hj hc=>?_⟩,by simp⟩
  have hj':j<vs.length:=by rw [h2];exact hj
  have hv:=List.getElem?_eq_getElem hj'
  exact (escape1_sound hh (h1 vs rfl j) (hall j _ c hv hc) (h3 j _ hj hv)).1
 ·have e:escape2 C.P st.h v=escape1 C.P st.h v:=by cases v<;>first | rfl | exact absurd ⟨_,rfl⟩ ha
  rw [e] at h
  rcases repA_inv hr with rfl | hc | hx
  ·unfold escape1 at h
   dsimp only at h
   rcases condB_cases h with ⟨e,_⟩ | ⟨_,h⟩
   ·simp [flat1,flat0] at e
   ·cases h
  ·obtain ⟨q1,q2,q3⟩:=escape1_sound hh (h0 (fun vs e=>ha ⟨vs,e⟩)) h hc
   refine ⟨repA_cell q1,fun vs e=>?_⟩
   rw [e] at q2;cases q2
  ·exact absurd hx ha
/-! ### the whole end -/
def renL (P:Program) (τ:Nat) (fr:List V):List ResultVar→Nat→Place→Place
 | [],_,_=>.slot 1 0 0 0
 | .tmp t::rs,k,p=>match p with
  | .slot τ' x j 0=>if τ'=τ∧x=t then .slot 0 0 j k else renL P τ fr rs (k+1) p
  | _=>renL P τ fr rs (k+1) p
 | .cell a t::rs,k,p=>match getS fr a,p with
  | .ptr id off,.cell id' x=>if id'=id then .slot 0 0 (if isAggT P t=some true then x-off+1 else 0) k else renL P τ fr rs (k+1) p
  | _,_=>renL P τ fr rs (k+1) p
theorem distinct_cons {x:Nat×Nat} {xs:List (Nat×Nat)} (h:distinct (x::xs)=true):x∉xs∧distinct xs=true:=by
 unfold distinct at h
 simpa using h
theorem renL_at {P:Program} {τ:Nat} {st:St}:∀ {rs:List ResultVar} {k i:Nat} {rv:ResultVar},distinct (rs.map (resultKey st))=true→rs[i]?=some rv →
  (∀ t,rv=.tmp t→∀ j,renL P τ st.fr rs k (.slot τ t j 0)=.slot 0 0 j (k+i)) ∧
  (∀ a t id off,rv=.cell a t→getS st.fr a=.ptr id off→∀ x,renL P τ st.fr rs k (.cell id x)=.slot 0 0 (if isAggT P t=some true then x-off+1 else 0) (k+i))
 | [],k,i,rv,_,h=>by simp at h
 | r::rs,k,i,rv,hd,h=>by
  rw [List.map_cons] at hd
  obtain ⟨hn,hd⟩:=distinct_cons hd
  cases i with
  | zero =>
   cases h
   refine ⟨fun t e j=>?_,fun a t id off e hp x=>?_⟩
   ·subst e;simp [renL]
   ·subst e;simp [renL,hp]
  | succ i =>
   have hm:rs[i]?=some rv:=by simpa using h
   obtain ⟨h1,h2⟩:=renL_at (k:=k+1) hd hm
   have hkey:resultKey st r≠resultKey st rv:=fun e=>hn (by rw [e];exact List.mem_map.2 ⟨rv,List.mem_of_getElem? hm,rfl⟩)
   refine ⟨fun t e j=>?_,fun a t id off e hp x=>?_⟩
   ·have:=h1 t e j
    rw [show k+1+i=k+(i+1) by omega] at this
    subst e
    cases r with
    | tmp t' =>
     have:t≠t':=fun e=>hkey (by rw [e])
     simp only [renL]
     rw [if_neg (by simp [this])]
     assumption
    | cell a' t' =>
     simp only [renL]
     split
     ·rename_i e;cases e
     ·exact this
   ·have:=h2 a t id off e hp x
    rw [show k+1+i=k+(i+1) by omega] at this
    subst e
    cases r with
    | tmp t'=>simp only [renL];exact this
    | cell a' t' =>
     simp only [renL]
     split
     ·rename_i id' off' id2 x2 hp' e'
      cases e'
      have hne:id≠id':=by
       rintro rfl
       apply hkey
       simp [resultKey,hp,hp']
      rw [if_neg hne]
      exact this
     ·exact this
theorem repA_oneS {g:Gh} {us:List Value} {vs:List V} (hl:vs.length=us.length) (hnt:∀ (i:Nat) (v:V),vs[i]?=some v→∀ ws,v≠.tup ws)
  (h:∀ (i:Nat) (v:V) (u:Value),vs[i]?=some v→us[i]?=some u→RepA g (fun j=>.slot 0 0 j (if vs.length=1 then 0 else i+1)) v u):RepS g 0 0 (one vs) (oneU us):=by
 match vs,us,hl with
 | [],[],_=>exact ⟨#[],rfl,rfl,fun k c hk=>absurd hk (by simp)⟩
 | [v],[u],_ =>
  show RepS g 0 0 v u
  rw [repS_notTup (hnt 0 v rfl)]
  exact h 0 v u rfl rfl
 | v::v2::vs,u::u2::us,hl =>
  refine ⟨(u::u2::us).toArray,rfl,by simpa using hl,fun k c hk hc=>?_⟩
  have:=h k c ((u::u2::us).toArray[k]) hc (by simp at hk;simp [hk])
  simpa using this
def EndOf (g:Gh) (B:Nat) (w:World) (out:FOut) (e:Ending) (w':World):Prop :=
 w'=w∧∃ g',OutIs g' out e∧g'.loc=(fun _=>none)∧MemLe g.mem g'.mem∧(∀ b,b<B→g'.mem b=g.mem b)∧MemOk g'.mem w∧LinOk g' B w
theorem esc_ok (hR:R B τ g st a w) (ren:Place→Place):MemLe g.mem (g.esc w ren).mem∧(∀ b,b<B→(g.esc w ren).mem b=g.mem b)∧MemOk (g.esc w ren).mem w∧LinOk (g.esc w ren) B w:=by
 refine ⟨esc_le g w ren,fun b hb=>?_,⟨fun b cs h=>?_,fun b cs hb=>glob_le (esc_le g w ren) (hR.mem.glob b cs hb),hR.mem.shape⟩,⟨fun b i h=>?_⟩⟩
 ·unfold Gh.esc
  dsimp only
  cases hm:g.mem b with
  | some cs=>rfl
  | none =>
   dsimp only
   rw [if_neg]
   rintro ⟨id,hid⟩
   have:=(hR.heap.fresh id b hid).1
   omega
 ·unfold Gh.esc at h
  dsimp only at h
  cases hm:g.mem b with
  | some cs' =>
   rw [hm] at h
   cases h
   exact hR.mem.at_ b cs hm
  | none =>
   rw [hm] at h
   dsimp only at h
   split at h
   ·split at h
    ·rename_i cur e fr hc
     cases h
     exact ⟨cur,e,fr,hc,List.prefix_refl _⟩
    ·cases h
   ·cases h
 ·unfold Gh.esc at h
  dsimp only at h
  cases hl:g.lin b with
  | none=>rw [hl] at h;cases h
  | some i0 =>
   rw [hl] at h
   simp only [Option.map_some,Option.some.injEq] at h
   subst h
   obtain ⟨h1,h2,h3,h4,h5,h6,h7⟩:=hR.lin.at_ b i0 hl
   refine ⟨h1,h2,h3,h4,h5,fun hp=>?_,fun hp=>?_⟩
   ·unfold Gh.esc
    dsimp only
    rw [h6 hp]
    dsimp only
    rw [if_neg]
    rintro ⟨id,hid⟩
    have:=(hR.heap.fresh id b hid).2.2.2
    rw [hl] at this;cases this
   ·unfold Gh.esc
    dsimp only
    rw [h7 hp]
def ModeIs (g:Gh) (τ:Nat):Md→FrameMode→Prop
 | .ret,.returning=>True
 | .pan v,.panicking ch=>∃ u d,ch=[{v:=u,recovered:=false}]∧isLin3 v=false∧RepS g τ d v u
 | _,_=>False
theorem final_pure {F:Fence} {n:Nat} (hR:R B τ g st a w) {u:Md} {m:FrameMode} (hm:ModeIs g τ u m) {fn:Func} {out:FOut} (h:vfin C fn true u st=some out):LeavesIn F n C.P fn a.tmps (EndOf g B w out) [] m w:=by
 have key:∀ (h:(bindO (optAll (resultV C st) fn.results.toList) fun vs =>
  if true then (if distinct (fn.results.toList.map (resultKey st)) then bindO (optAll (escape2 C.P st.h) vs) fun vs=>some (FOut.ret (one vs) []) else none)
  else condB (vs.all fun v=>!isLin2 v&&okV v) (some (.ret (one vs) st.h)) none)=some out),∃ v,(results fn a.tmps).run C.P w=.ok v w∧EndOf g B w out (.returned v) w:=by
  intro h
  obtain ⟨vs,hvs,h⟩:=bindO_eq h
  rw [if_pos rfl] at h
  split at h
  ·rename_i hdist
   obtain ⟨ws,hws,h⟩:=bindO_eq h
   cases h
   obtain ⟨l1,a1⟩:=optAll_eq hvs
   obtain ⟨l2,a2⟩:=optAll_eq hws
   have hex:∀ (j:Nat) (rv:ResultVar),fn.results.toList[j]?=some rv→∃ u v,vs[j]?=some v∧(resRun a.tmps rv).run C.P w=.ok u w∧((∀ vs,v≠.tup vs)→RepA g (srcPl τ st.fr rv) v u) ∧
     ∀ a' t,rv=.cell a' t→∃ id off gg,getS st.fr a'=.ptr id off∧isAggT C.P t=some gg∧(gg=true↔∃ vs,v=.agg vs):=by
    intro j rv hj
    have hlt:j<vs.length:=by rw [←l1];exact (List.getElem?_eq_some_iff.1 hj).1
    have hv:=List.getElem?_eq_getElem hlt
    obtain ⟨u,h1,h2,h3⟩:=result_sound hR (a1 j rv _ hj hv)
    exact ⟨u,_,hv,h1,h2,h3⟩
   obtain ⟨us,hus⟩:∃ us:List Value,us.length=fn.results.toList.length∧∀ (j:Nat) (rv:ResultVar) (u:Value),fn.results.toList[j]?=some rv→us[j]?=some u→∃ v,vs[j]?=some v∧(resRun a.tmps rv).run C.P w=.ok u w∧((∀ vs,v≠.tup vs)→RepA g (srcPl τ st.fr rv) v u) ∧
     ∀ a' t,rv=.cell a' t→∃ id off gg,getS st.fr a'=.ptr id off∧isAggT C.P t=some gg∧(gg=true↔∃ vs,v=.agg vs):=by
    classical
    refine ⟨(List.range fn.results.toList.length).map fun j=>if h:∃ rv,fn.results.toList[j]?=some rv then Classical.choose (hex j _ (Classical.choose_spec h)) else undef,by simp,fun j rv u hj hu=>?_⟩
    rw [List.getElem?_map,List.getElem?_range (List.getElem?_eq_some_iff.1 hj).1] at hu
    simp only [Option.map_some,Option.some.injEq] at hu
    have hE:∃ rv,fn.results.toList[j]?=some rv:=⟨rv,hj⟩
    rw [dif_pos hE] at hu
    have hsp:=Classical.choose_spec (hex j _ (Classical.choose_spec hE))
    rw [hu] at hsp
    have hrv:Classical.choose hE=rv:=by
     exact (Option.some.inj (hj.symm.trans (Classical.choose_spec hE))).symm
    rw [hrv] at hsp
    exact hsp
   obtain ⟨hul,hus⟩:=hus
   refine ⟨oneU us,run_results hul.symm (fun j rv u hj hu=>by obtain ⟨v,_,h1,_⟩:=hus j rv u hj hu;exact h1),rfl,g.esc w (renL C.P τ st.fr fn.results.toList (if ws.length=1 then 0 else 1)),⟨_,rfl,?_⟩,rfl,esc_ok hR _⟩
   have main:∀ (i:Nat) (v':V),ws[i]?=some v'→∃ rv v,fn.results.toList[i]?=some rv∧vs[i]?=some v∧escape2 C.P st.h v=some v':=by
    intro i v' hv'
    have hi:i<ws.length:=(List.getElem?_eq_some_iff.1 hv').1
    have hi1:i<vs.length:=by omega
    have hi2:i<fn.results.toList.length:=by omega
    exact ⟨_,_,List.getElem?_eq_getElem hi2,List.getElem?_eq_getElem hi1,a2 i _ v' (List.getElem?_eq_getElem hi1) hv'⟩
   have notTup:∀ v v',escape2 C.P st.h v=some v'→∀ ws,v≠.tup ws:=by
    intro v v' h1 xs e
    subst e
    unfold escape2 escape1 at h1
    dsimp only at h1
    rcases condB_cases h1 with ⟨e,_⟩ | ⟨_,h1⟩
    ·simp [flat1,flat0] at e
    ·cases h1
   have full:∀ (i:Nat) (v':V) (u:Value),ws[i]?=some v'→us[i]?=some u→RepA (g.esc w (renL C.P τ st.fr fn.results.toList (if ws.length=1 then 0 else 1))) (fun j=>.slot 0 0 j ((if ws.length=1 then 0 else 1)+i)) v' u∧∀ xs,v'≠.tup xs:=by
    intro i v' u hv' hu
    obtain ⟨rv,v,hrv,hv,hesc⟩:=main i v' hv'
    obtain ⟨v2,hv2,_,hrep,hcell⟩:=hus i rv u hrv hu
    rw [hv] at hv2
    cases hv2
    have hren:=renL_at (P:=C.P) (τ:=τ) (k:=if ws.length=1 then 0 else 1) hdist hrv
    refine escape2_sound (C:=C) hR.heap (fun xs e j=>?_) (fun hna=>?_) hesc (hrep (notTup v v' hesc))
    ·cases rv with
     | tmp t=>exact hren.1 t rfl (j+1)
     | cell a' t =>
      obtain ⟨id,off,gg,hp,hg,hiff⟩:=hcell a' t rfl
      rw [srcPl_cell hp]
      have:=hren.2 a' t id off rfl hp (off+j)
      rw [hg,hiff.2 ⟨xs,e⟩] at this
      simpa using this
    ·cases rv with
     | tmp t=>exact hren.1 t rfl 0
     | cell a' t =>
      obtain ⟨id,off,gg,hp,hg,hiff⟩:=hcell a' t rfl
      rw [srcPl_cell hp]
      have:=hren.2 a' t id off rfl hp off
      have hgf:gg=false:=by
       cases gg with
       | false=>rfl
       | true=>obtain ⟨xs,e⟩:=hiff.1 rfl;exact absurd e (hna xs)
      rw [hg,hgf] at this
      simpa using this
   refine repA_oneS (by omega) (fun i v' hv'=>?_) (fun i v' u hv' hu=>?_)
   ·have hi:i<us.length:=by have:=(List.getElem?_eq_some_iff.1 hv').1;omega
    exact (full i v' _ hv' (List.getElem?_eq_getElem hi)).2
   ·have:=(full i v' u hv' hu).1
    have e1:(if ws.length=1 then 0 else i+1)=(if ws.length=1 then 0 else 1)+i:=by
     split
     ·rename_i h1
      have:=(List.getElem?_eq_some_iff.1 hv').1;omega
     ·omega
    rw [e1]
    exact this
  ·cases h
 cases u<;>cases m<;>first | exact hm.elim | skip
 ·exact key h
 ·rename_i v ch
  obtain ⟨u,d,rfl,hnl,hv⟩:=hm
  unfold vfin at h
  dsimp only at h
  rw [if_pos rfl] at h
  rcases condB_cases h with ⟨hf,h⟩ | ⟨_,h⟩
  ·cases h
   exact ⟨rfl,g.esc w id,⟨u,rfl,hnl,flat2_repS hf ((repS_flat2 hf hv).mono (esc_le g w id))⟩,rfl,esc_ok hR _⟩
  ·cases h
end
end Go.Fw
namespace Go.Fw
open Go.RowKit
theorem one_lin {vs:List V} (h:∀ v∈vs,isLin2 v=false∧okV v=true):isLin3 (one vs)=false:=by
 unfold one
 split
 ·rename_i v
  obtain ⟨h1,h2⟩:=h v (by simp)
  cases v<;>first | exact h1 | cases h2
 ·simp only [isLin3]
  rw [List.any_eq_false]
  intro x hx
  simp [(h x hx).1]
section
variable {C:Cx} {B τ:Nat} {g:Gh} {st:St} {a:Act} {w:World}
theorem final_heap {F:Fence} {n:Nat} (hR:R B τ g st a w) {u:Md} {m:FrameMode} (hm:ModeIs g τ u m) {fn:Func} {out:FOut} (h:vfin C fn false u st=some out) :
  LeavesIn F n C.P fn a.tmps (fun e w'=>w'=w∧OutIs g out e∧out.plain∧out.heap=st.h) [] m w:=by
 have key:∀ (h:(bindO (optAll (resultV C st) fn.results.toList) fun vs =>
  if false then (if distinct (fn.results.toList.map (resultKey st)) then bindO (optAll (escape2 C.P st.h) vs) fun vs=>some (FOut.ret (one vs) []) else none)
  else condB (vs.all fun v=>!isLin2 v&&okV v) (some (.ret (one vs) st.h)) none)=some out),∃ v,(results fn a.tmps).run C.P w=.ok v w∧(w=w∧OutIs g out (.returned v)∧out.plain∧out.heap=st.h):=by
  intro h
  obtain ⟨vs,hvs,h⟩:=bindO_eq h
  rw [if_neg (by simp)] at h
  rcases condB_cases h with ⟨hall,h⟩ | ⟨_,h⟩
  ·cases h
   rw [List.all_eq_true] at hall
   have hall:∀ v∈vs,isLin2 v=false∧okV v=true:=fun v hv=>by have:=hall v hv;simpa using this
   obtain ⟨l1,a1⟩:=optAll_eq hvs
   have hex:∀ (j:Nat) (rv:ResultVar),fn.results.toList[j]?=some rv→∃ u v,vs[j]?=some v∧(resRun a.tmps rv).run C.P w=.ok u w∧((∀ vs,v≠.tup vs)→RepA g (srcPl τ st.fr rv) v u):=by
    intro j rv hj
    have hlt:j<vs.length:=by rw [←l1];exact (List.getElem?_eq_some_iff.1 hj).1
    have hv:=List.getElem?_eq_getElem hlt
    obtain ⟨u,h1,h2,h3⟩:=result_sound hR (a1 j rv _ hj hv)
    exact ⟨u,_,hv,h1,h2⟩
   obtain ⟨us,hul,hus⟩:∃ us:List Value,us.length=fn.results.toList.length∧∀ (j:Nat) (rv:ResultVar) (u:Value),fn.results.toList[j]?=some rv→us[j]?=some u→∃ v,vs[j]?=some v∧(resRun a.tmps rv).run C.P w=.ok u w∧((∀ vs,v≠.tup vs)→RepA g (srcPl τ st.fr rv) v u):=by
    classical
    refine ⟨(List.range fn.results.toList.length).map fun j=>if h:∃ rv,fn.results.toList[j]?=some rv then Classical.choose (hex j _ (Classical.choose_spec h)) else undef,by simp,fun j rv u hj hu=>?_⟩
    rw [List.getElem?_map,List.getElem?_range (List.getElem?_eq_some_iff.1 hj).1] at hu
    simp only [Option.map_some,Option.some.injEq] at hu
    have hE:∃ rv,fn.results.toList[j]?=some rv:=⟨rv,hj⟩
    rw [dif_pos hE] at hu
    have hsp:=Classical.choose_spec (hex j _ (Classical.choose_spec hE))
    rw [hu] at hsp
    have hrv:Classical.choose hE=rv:=by
     exact (Option.some.inj (hj.symm.trans (Classical.choose_spec hE))).symm
    rw [hrv] at hsp
    exact hsp
   refine ⟨oneU us,run_results hul.symm (fun j rv u hj hu=>by obtain ⟨v,_,h1,_⟩:=hus j rv u hj hu;exact h1),rfl,⟨_,rfl,?_⟩,one_lin hall,rfl⟩
   have hnt:∀ v∈vs,∀ ws,v≠.tup ws:=fun v hv ws e=>by have:=(hall v hv).2;rw [e] at this;cases this
   refine repA_oneS (by omega) (fun i v' hv'=>hnt v' (List.mem_of_getElem? hv')) (fun i v' u hv' hu=>?_)
   have hi:i<fn.results.toList.length:=by have:=(List.getElem?_eq_some_iff.1 hv').1;omega
   obtain ⟨v2,hv2,_,hr⟩:=hus i _ u (List.getElem?_eq_getElem hi) hu
   rw [hv'] at hv2
   cases hv2
   exact RepA.any (hall v' (List.mem_of_getElem? hv')).1 (hr (hnt v' (List.mem_of_getElem? hv')))
  ·cases h
 cases u<;>cases m<;>first | exact hm.elim | skip
 ·exact key h
 ·rename_i v ch
  obtain ⟨u,d,rfl,hnl,hv⟩:=hm
  cases h
  exact ⟨rfl,⟨u,rfl,hnl,hv.any hnl⟩,trivial,rfl⟩
theorem ModeIs.mono {g g':Gh} {τ τ':Nat} (hm:MemLe g.mem g'.mem) (hl:∀ id b,g.loc id=some b→g'.loc id=some b) {u:Md} {m:FrameMode} (h:ModeIs g τ u m):ModeIs g' τ' u m:=by
 cases u<;>cases m<;>first | exact h.elim | exact h | skip
 obtain ⟨u,d,e,hnl,hv⟩:=h
 exact ⟨u,d,e,hnl,(hv.mono0 hm hl hnl).any hnl⟩
def DfOut (B τ:Nat) (g:Gh) (w:World) (u':Md) (h':List Blk) (e:Ending) (m:FrameMode) (w':World):Prop :=
 (∃ v,e=.returned v)∧∃ g',Below B w w'∧MemLe g.mem g'.mem∧(∀ b,b<B→g'.mem b=g.mem b)∧(∀ id b,g.loc id=some b→g'.loc id=some b) ∧
  (∀ b i,g.lin b=some i→(∃ τ x j k,i.place=.slot τ x j k)→g'.lin b=some i)∧HeapOk g' h' B w'∧MemOk g'.mem w'∧LinOk g' B w'∧ModeIs g' τ u' (settle m)
def VdSound (C:Cx) (vd:FuncId→List V→Md→List Blk→Option (Md×List Blk)):Prop :=
 ∀ f caps u h u' h',vd f caps u h=some (u',h')→(∃ fn c,C.P.funcs[f]?=some fn∧fn.body=some c∧(fn.name == "runtime.NumGoroutine")=false) ∧
  ∀ (n B τ:Nat) (g:Gh) (w:World) (m:FrameMode) (cs:Array Value),ModeIs g τ u m→HeapOk g h B w→MemOk g.mem w→LinOk g B w→B≤w.heap.size→caps.length=cs.size→(∀ (j:Nat) (c:V) (h:j<cs.size),caps[j]?=some c→RepP g c cs[j]) →
   CallsDIn Fence.wide n C.P f cs m w (DfOut B τ g w u' h')
theorem vd0_sound:VdSound C (fun _ _ _ _=>none):=fun _ _ _ _ _ _ h=>by cases h
theorem ModeIs.run {g:Gh} {τ:Nat} {u:Md} {m:FrameMode} (h:ModeIs g τ u m):m≠.run:=by
 rintro rfl
 cases u<;>exact h.elim
theorem leave_sound {n:Nat} {vd:FuncId→List V→Md→List Blk→Option (Md×List Blk)} (hvd:VdSound C vd) {fn:Func} {T:Ending→World→Prop} {fr:List V} {tmps:Array Value} {u2:Md} {h2:List Blk} (g0:Gh) (w0:World)
  (hfin:∀ g' w' m',Later B τ g0 g' w0 w'→R B τ g' ⟨fr,h2,[]⟩ {tmps:=tmps,defers:=[]} w'→ModeIs g' τ u2 m'→LeavesIn (FW none) n C.P fn tmps T [] m' w') :
  ∀ (df:List Df) (ds:List Deferred) (u:Md) (m:FrameMode) (h:List Blk) (g:Gh) (w:World),vleave vd df u h=some (u2,h2)→Later B τ g0 g w0 w→R B τ g ⟨fr,h,df⟩ {tmps:=tmps,defers:=ds} w→ModeIs g τ u m→LeavesInM (FW none) n C.P fn tmps T ds m w
 | [],ds,u,m,h,g,w,hv,hl,hR,hm=>by
  have:ds=[]:=hR.defers
  subst this
  cases hv
  exact hfin g w m hl hR hm
 | .mark id::r,ds,u,m,h,g,w,hv,hl,hR,hm=>by
  obtain ⟨D,ds',e,hD,hd,hr⟩:=hR.defers
  have e:ds={target:=.collected D,args:=#[]}::ds':=e
  subst e
  unfold vleave at hv
  rw [show h[id]?=some .dfr from hd] at hv
  dsimp only at hv
  split at hv
  ·rename_i hkeep
   obtain ⟨o,ho,hb⟩:=hR.heap.blkO id D .dfr hD hd
   have hb:o=.deferred (some []):=hb
   subst hb
   have hlt:=(hR.heap.fresh id D hD).2.1
   obtain ⟨c1,c2,c3⟩:=write_core (x':=.dead) (o':=.deferred none) (w':=w.putObj D (.deferred none)) hR.heap hR.mem hR.lin hD hd rfl (World.putObj_heap_same hlt) (fun c hc=>World.putObj_heap_other hc) World.putObj_size trivial (fun cur e fr h0=>by rw [ho] at h0;cases h0)
   have hbel:Below B w (w.putObj D (.deferred none)):=⟨rfl,rfl,rfl,by simp,fun k hk=>World.putObj_heap_other (by have:=(hR.heap.fresh id D hD).1;omega)⟩
   refine ⟨hm.run,.inl ⟨D,_,rfl,run_takeDeferred ho,?_⟩⟩
   refine leave_sound hvd g0 w0 hfin r ds' u m (h.set id .dead) g _ hv (hl.trans ⟨hbel,MemLe.refl _,fun _ _=>rfl,fun _ _ h=>h,fun _ _ h _=>h⟩) ⟨hR.size,hR.slots,c1,c2,c3,by simpa using hR.base,?_⟩ hm
   exact DfOk.keep (MemLe.refl _) (fun _ _ h=>h) hkeep hr
  ·cases hv
 | .call f caps::r,ds,u,m,h,g,w,hv,hl,hR,hm=>by
  obtain ⟨cs,ds',e,hcl,hcr,hr⟩:=hR.defers
  have e:ds={target:=.fn (.func f) cs,args:=#[]}::ds':=e
  subst e
  unfold vleave at hv
  split at hv
  ·rename_i u' h' hvd'
   split at hv
   ·rename_i hkeep
    obtain ⟨⟨fn0,c0,h1,h2,h3⟩,hcall⟩:=hvd f caps u h u' h' hvd'
    have hne:¬fn0.name = "runtime.NumGoroutine":=by simpa using h3
    refine ⟨hm.run,.inr ⟨fun h=>(by simp [FW,Fence.wide] at h),.func f,cs,f,#[]++cs,rfl,by simp [invoke,callFunc,h1,h2,hne],fun _ _=>trivial,?_⟩⟩
    rw [Array.empty_append]
    refine CallsDIn.mono (hcall (n-1) B τ g w m cs hm hR.heap hR.mem hR.lin hR.base hcl hcr) (fun e m' w' he=>?_)
    obtain ⟨⟨v,rfl⟩,g',hbel,hme,hold,hlc,hli,hho,hmo,hlo,hmd⟩:=he
    refine leave_sound hvd g0 w0 hfin r ds' u' (settle m') h' g' w' hv (hl.trans ⟨hbel,hme,hold,hlc,fun b i hi ⟨τ',x,j,k,hp,_⟩=>hli b i hi ⟨τ',x,j,k,hp⟩⟩)
     ⟨hR.size,fun i v hi hv=>(hR.slots i v hi hv).mono hme hlc (fun j k b x hx hp=>hli b x hx ⟨_,_,_,_,hp⟩),hho,hmo,hlo,Nat.le_trans hR.base hbel.size,DfOk.keep hme hlc hkeep hr⟩ hmd
   ·cases hv
  ·cases hv
theorem vfinal_sound {n:Nat} {vd:FuncId→List V→Md→List Blk→Option (Md×List Blk)} (hvd:VdSound C vd) (hR:R B τ g st a w) {ex:Ex} {e:Exit} (he:ExIs g τ ex e) {fn:Func} {pure:Bool} {out:FOut} (h:vfinal C vd fn pure ex st=some out) {T:Ending→World→Prop}
  (hT:∀ g' w' u m' h2,Later B τ g g' w w'→R B τ g' ⟨st.fr,h2,[]⟩ {tmps:=a.tmps,defers:=[]} w'→ModeIs g' τ u m'→vfin C fn pure u ⟨st.fr,h2,[]⟩=some out→LeavesIn (FW none) n C.P fn a.tmps T [] m' w') :
  bodyPostM (FW none) n C.P fn T e a w:=by
 have main:∀ u m,ModeIs g τ u m→(match vleave vd st.df u st.h with | some (u,h)=>vfin C fn pure u {st with h:=h,df:=[]} | none=>none)=some out→LeavesInM (FW none) n C.P fn a.tmps T a.defers m w:=by
  intro u m hm h
  split at h
  ·rename_i u2 h2 hv
   exact leave_sound hvd g w (fun g' w' m' hl hR' hm'=>hT g' w' u2 m' h2 hl hR' hm' h) st.df a.defers u m st.h g w hv (Later.refl ..) hR hm
  ·cases h
 cases ex<;>cases e<;>first | exact he.elim | skip
 ·exact main .ret .returning trivial h
 ·cases h
 ·exact main .ret .returning trivial h
 ·rename_i v ch
  exact main (.pan v) (.panicking ch) he h
theorem args_R {args:List V} {us:Array Value} {n:Nat} {h:List Blk} (hl:args.length=us.size) (hs:∀ (j:Nat) (c:V) (hj:j<us.size),args[j]?=some c→RepS g τ j c us[j]) (hh:HeapOk g h B w) (hm:MemOk g.mem w) (hn:LinOk g B w) (hb:B≤w.heap.size) :
  R B τ g ⟨args++List.replicate (n-args.length) .undef,h,[]⟩ {tmps:=us++Array.replicate (n-us.size) undef,defers:=[]} w:=by
 refine ⟨by simp [hl],fun i v hi hv=>?_,hh,hm,hn,hb,rfl⟩
 by_cases hu:i<us.size
 ·rw [List.getElem?_append_left (by rw [hl];exact hu)] at hv
  have:=hs i v hu hv
  simpa [Array.getElem_append,hu] using this
 ·rw [List.getElem?_append_right (by omega)] at hv
  obtain ⟨rfl,_⟩:=repl_get hv
  exact trivial
theorem free_tau (hL:LinOk g B w):∃ τ,∀ b i,g.lin b=some i→∀ τ' x j k,i.place=.slot τ' x j k→τ'≠τ:=by
 have key:∀ N,∃ τ,∀ b,b<N→∀ i,g.lin b=some i→∀ τ' x j k,i.place=.slot τ' x j k→τ'<τ:=by
  intro N
  induction N with
  | zero=>exact ⟨0,fun b hb=>absurd hb (by omega)⟩
  | succ N ih =>
   obtain ⟨τ,hτ⟩:=ih
   cases hl:g.lin N with
   | none=>exact ⟨τ,fun b hb i hi τ' x j k hp=>by
     by_cases e:b=N
     ·subst e;rw [hl] at hi;cases hi
     ·exact hτ b (by omega) i hi τ' x j k hp⟩
   | some i0 =>
    refine ⟨max τ (match i0.place with | .slot t _ _ _=>t+1 | _=>0),fun b hb i hi τ' x j k hp=>?_⟩
    by_cases e:b=N
    ·subst e
     rw [hl] at hi;cases hi
     rw [hp]
     dsimp only
     omega
    ·have:=hτ b (by omega) i hi τ' x j k hp
     omega
 obtain ⟨τ,hτ⟩:=key w.heap.size
 refine ⟨τ,fun b i hi τ' x j k hp=>?_⟩
 obtain ⟨_,⟨cur,h2,_⟩,_⟩:=hL.at_ b i hi
 have:=hτ b (Array.getElem?_eq_some_iff.1 h2).1 i hi τ' x j k hp
 omega
end
theorem CallsIn.ofBody {P:Program} {f:FuncId} {fn:Func} {c:Code} {n:Nat} {us:Array Value} {w:World} {T:Ending→World→Prop} (hf:P.funcs[f]?=some fn) (hb:fn.body=some c)
  (h:c.wpIn (FW none) n P (bodyPostM (FW none) n P fn T) {tmps:=us++Array.replicate (fn.ntmps-us.size) undef,defers:=[]} w):CallsIn Fence.wide n P f us w T :=
 callsIn_of_wp_marks (F:=Fence.wide) hf hb trivial h
theorem liftTo {B:Nat} {g g' g2:Gh} {w w':World} {τ:Nat} (hl:Later B τ g g' w w') (hτ:∀ b i,g.lin b=some i→∀ τ' x j k,i.place=.slot τ' x j k→τ'≠τ):Below B w w'∧MemLe g.mem g'.mem∧(∀ b,b<B→g'.mem b=g.mem b)∧(∀ id b,g.loc id=some b→g'.loc id=some b) ∧
  (∀ b i,g.lin b=some i→(∃ τ x j k,i.place=.slot τ x j k)→g'.lin b=some i) :=
 ⟨hl.below,hl.mem,hl.old,hl.loc,fun b i hi ⟨τ',x,j,k,hp⟩=>hl.lin b i hi ⟨τ',x,j,k,hp,hτ b i hi τ' x j k hp⟩⟩
theorem opsS_recover {n:Nat} {P:Program} {ops:Array Oper} {i:Nat} {r:List Nat} {o:Oper} {a:Act} {cs:List Frame} {w:World} {Q:Exit→Act→List Frame→World→Prop} (ho:ops[i]?=some o) (hg:o.guard=none) (hex:(execOp a.eval o).run P w=.ok .recover w)
  (h:match recoverD cs with | some (v,cs')=>wpOpsSIn Fence.wide n P ops Q r (a.put o.dst v) cs' w | none=>wpOpsSIn Fence.wide n P ops Q r (a.put o.dst .nilIface) cs w):wpOpsSIn Fence.wide n P ops Q (i::r) a cs w:=by
 unfold wpOpsSIn
 simp only [ho]
 refine ⟨fun _ _=>trivial,?_⟩
 rw [if_pos (wanted_none hg),hex]
 exact h
theorem opsS_value {n:Nat} {P:Program} {ops:Array Oper} {i:Nat} {r:List Nat} {o:Oper} {a:Act} {cs:List Frame} {w:World} {Q:Exit→Act→List Frame→World→Prop} {v:Value} (ho:ops[i]?=some o) (hg:o.guard=none) (hex:(execOp a.eval o).run P w=.ok (.value v) w)
  (h:wpOpsSIn Fence.wide n P ops Q r (a.put o.dst v) cs w):wpOpsSIn Fence.wide n P ops Q (i::r) a cs w:=by
 unfold wpOpsSIn
 simp only [ho]
 refine ⟨fun _ _=>trivial,?_⟩
 rw [if_pos (wanted_none hg),hex]
 exact h
theorem vd_sound {C:Cx} (hCP:C.P=theP) {vb:FuncId→List V→List Blk→Option FOut} (hDS:∀ f id ops,RegOf C.P f id ops→DrawSound C f id ops) (hvb:VbSound C vb) (k:Nat):VdSound C (vdcall C vb k):=by
 intro f caps u h u' h' hv
 unfold vdcall at hv
 split at hv
 ·rename_i fn hfn
  split at hv
  ·rename_i id ops rest hbody hres
   split at hv
   ·rename_i o0 o1 hops
    split at hv
    ·rename_i d d2 hrec hname
     split at hv
     ·cases hv
     rename_i hdn
     simp only [decide_eq_true_eq] at hdn
     split at hv
     ·rename_i v0 hh hx
      simp only [Option.some.injEq,Prod.mk.injEq] at hv
      obtain ⟨rfl,rfl⟩:=hv
      refine ⟨⟨fn,_,hfn,hbody,by simpa using hname⟩,fun n B τ g w m cs hm hho hmo hlo hB hcl hcr=>?_⟩
      unfold isRecover at hrec
      split at hrec
      ·rename_i c0 d0 dd0 d20 e1 e2 e3 e4 e5 e6
       split at hrec
       ·rename_i e7
        split at hrec
        ·rename_i e8
         simp only [beq_iff_eq] at e8
         simp only [Option.some.injEq,Prod.mk.injEq] at hrec
         obtain ⟨rfl,rfl⟩:=hrec
         subst e8
         have hopsA:ops=#[o0,o1]:=by cases ops;simp at hops;simp [hops]
         subst hopsA
         refine callsDIn_of_wpSIn (F:=Fence.wide) hfn hbody trivial (fun c₀ fs hc₀=>?_)
         obtain ⟨τ2,hτ2⟩:=free_tau hlo
         obtain ⟨val,fs',hrD,hval,hset⟩:∃ (val:Value) (m':FrameMode),(match recoverD (c₀::fs) with | some (v,cs')=>v=val∧cs'={c₀ with mode:=m'}::fs | none=>val=.nilIface∧m'=m) ∧
           (isLin3 u.val=false∧∀ σ x,RepS g σ x u.val val)∧settle m'=.returning:=by
          cases u<;>cases m<;>first | exact hm.elim | skip
          ·refine ⟨.nilIface,.returning,?_,⟨rfl,fun _ _=>RepI.nili⟩,rfl⟩
           simp [recoverD,hc₀]
          ·obtain ⟨x,dx,rfl,hnl,hx⟩:=hm
           refine ⟨x,.panicking [{v:=x,recovered:=true}],?_,⟨hnl,fun σ y=>hx.any hnl⟩,rfl⟩
           simp [recoverD,hc₀]
         obtain ⟨hnl,hval⟩:=hval
         have hc₀':({c₀ with mode:=m}:Frame)=c₀:=by rw [←hc₀]
         have hR0:R B τ2 g ⟨caps++List.replicate (fn.ntmps-caps.length) .undef,h,[]⟩ {tmps:=cs++Array.replicate (fn.ntmps-cs.size) undef,defers:=[]} w :=
          args_R hcl (fun j c hj hc=>(repP_repS (hcr j c hj hc)).2) hho hmo hlo hB
         have hR1:=put_sound (d:=some dd0) hR0 (hval τ2 dd0)
         have hR2:=put_sound (d:=some d20) hR1 (hval τ2 d20)
         have hbody2:=vexec_sound hCP (B:=B) (τ:=τ2) (ρ:=none) (n:=n) (fun _=>rfl) (hDS f) hvb k rest _ _ _ (fun p hp=>⟨fn,_,hfn,hbody,by simp [drawRegs,hp]⟩) hx g _ w
          (fun e a' w'=>(e=.normal∨e=.ret)∧a'.defers=[]∧DfOut B τ g w .ret hh (.returned (.tuple #[])) fs' w') hR2 (fun e st' g' e' a' w' hl hR' he hk=>by
           have fin:st'.df=[]→hh=st'.h→a'.defers=[]∧DfOut B τ g w .ret hh (.returned (.tuple #[])) fs' w':=by
            intro hdf hhh
            subst hhh
            have hd:=hR'.defers
            rw [hdf] at hd
            obtain ⟨q1,q2,q3,q4,q5⟩:=liftTo (g2:=g) hl hτ2
            refine ⟨hd,⟨_,rfl⟩,g',q1,q2,q3,q4,q5,hR'.heap,hR'.mem,hR'.lin,?_⟩
            rw [hset];trivial
           unfold vdEnd at hk
           cases e<;>cases e'<;>first | exact he.elim | (cases hk;done) | skip
           ·dsimp only at hk
            split at hk
            ·rename_i hdf
             exact ⟨.inl rfl,fin hdf (by cases hk;rfl)⟩
            ·cases hk
           ·dsimp only at hk
            split at hk
            ·rename_i hdf
             exact ⟨.inr rfl,fin hdf (by cases hk;rfl)⟩
            ·cases hk)
         refine wpSIn_seq (wpSIn_region ?_)
         have hres2:fn.results=#[]:=by cases hr:fn.results;rw [hr] at hres;simpa using hres
         have key:∀ (fs2:List Frame),fs2={c₀ with mode:=fs'}::fs→(rest.wpSIn Fence.wide n C.P (bodyPostS C.P fn c₀ fs (DfOut B τ g w .ret hh)) ((({tmps:=cs++Array.replicate (fn.ntmps-cs.size) undef,defers:=[]}:Act).put (some dd0) val).put (some d20) val) fs2 w):=by
          rintro fs2 rfl
          refine wpSIn_of_wpIn (F:=Fence.wide) rfl (wpIn_mono hbody2 (fun e a' w' hq=>?_))
          obtain ⟨he,hdf,hout⟩:=hq
          rcases he with rfl | rfl
          ·exact ⟨hdf,fs',rfl,.tuple #[],by simp [results,hres2],hout⟩
          ·exact ⟨hdf,fs',rfl,.tuple #[],by simp [results,hres2],hout⟩
         have hex:(execOp ({tmps:=cs++Array.replicate (fn.ntmps-cs.size) undef,defers:=[]}:Act).eval o0).run C.P w=.ok .recover w:=by
          simp [execOp,e1,resolve,e7,invoke,builtin]
         show wpOpsSIn Fence.wide n C.P #[o0,o1] _ [0,1] _ (c₀::fs) w
         have second:∀ (fs2:List Frame),fs2={c₀ with mode:=fs'}::fs→wpOpsSIn Fence.wide n C.P #[o0,o1] (Exit.thenS (rest.wpSIn Fence.wide n C.P (bodyPostS C.P fn c₀ fs (DfOut B τ g w .ret hh))) (bodyPostS C.P fn c₀ fs (DfOut B τ g w .ret hh))) [1] (({tmps:=cs++Array.replicate (fn.ntmps-cs.size) undef,defers:=[]}:Act).put (some dd0) val) fs2 w:=by
          intro fs2 hfs
          have hlt:dd0<(cs++Array.replicate (fn.ntmps-cs.size) undef).size:=by rw [Array.size_append,Array.size_replicate];exact Nat.lt_of_lt_of_le hdn (by omega)
          have hev:((({tmps:=cs++Array.replicate (fn.ntmps-cs.size) undef,defers:=[]}:Act).put (some dd0) val).eval (.tmp dd0))=val:=by
           show ((cs++Array.replicate (fn.ntmps-cs.size) undef).setIfInBounds dd0 val).getD dd0 undef=val
           rw [Array.getD_eq_getD_getElem?,Array.getElem?_setIfInBounds_self_of_lt hlt];rfl
          have hex1:(execOp (({tmps:=cs++Array.replicate (fn.ntmps-cs.size) undef,defers:=[]}:Act).put (some dd0) val).eval o1).run C.P w=.ok (.value val) w:=by
           simp [execOp,e4,hev]
          refine opsS_value (o:=o1) rfl e6 hex1 ?_
          rw [e5]
          exact key fs2 hfs
         refine opsS_recover (o:=o0) rfl e3 hex ?_
         rw [e2]
         split
         ·rename_i v1 cs1 hr1
          rw [hr1] at hrD
          obtain ⟨rfl,rfl⟩:=hrD
          exact second _ rfl
         ·rename_i hr1
          rw [hr1] at hrD
          obtain ⟨rfl,rfl⟩:=hrD
          exact second _ (by rw [hc₀'])
        ·cases hrec
       ·cases hrec
      ·cases hrec
     ·cases hv
    ·cases hv
   ·cases hv
  ·cases hv
 ·cases hv
/-! ### rounds -/
theorem setPs_length:∀ (ps:List Tmp) (vs fr:List V),(setPs ps vs fr).length=fr.length
 | [],_,_=>by unfold setPs;rfl
 | p::ps,[],fr=>rfl
 | p::ps,v::vs,fr=>by rw [setPs,setPs_length];simp
theorem setPs_rep {g:Gh} {τ:Nat}:∀ (ps:List Tmp) (vs fr:List V) (us:List Value) (tmps:Array Value),vs.length=us.length→fr.length=tmps.size →
  (∀ (i:Nat) (v:V) (h:i<tmps.size),fr[i]?=some v→RepS g τ i v tmps[i])→(∀ (j:Nat) (c:V) (u:Value),vs[j]?=some c→us[j]?=some u→∀ d,RepS g τ d c u) →
  ∀ (i:Nat) (v:V) (h:i<((ps.zip us).foldl (fun t (p:Tmp×Value)=>t.setIfInBounds p.1 p.2) tmps).size),(setPs ps vs fr)[i]?=some v→RepS g τ i v ((ps.zip us).foldl (fun t (p:Tmp×Value)=>t.setIfInBounds p.1 p.2) tmps)[i]
 | [],vs,fr,us,tmps,_,_,h1,_=>by intro i v h hv;unfold setPs at hv;exact h1 i v h hv
 | p::ps,[],fr,us,tmps,hl,_,h1,_=>by
  have:us=[]:=by cases us with | nil=>rfl | cons=>simp at hl
  subst this
  intro i v h hv;exact h1 i v h hv
 | p::ps,v::vs,fr,[],tmps,hl,_,_,_=>by simp at hl
 | p::ps,v::vs,fr,u::us,tmps,hl,hs,h1,h2=>by
  intro i x h hx
  simp only [setPs] at hx
  simp only [List.zip_cons_cons,List.foldl_cons] at h ⊢
  refine setPs_rep ps vs (fr.set p v) us (tmps.setIfInBounds p u) (by simpa using hl) (by simpa using hs) (fun i x hi hx=>?_) (fun j c w hc hw=>h2 (j+1) c w (by simpa using hc) (by simpa using hw)) i x h hx
  by_cases e:p=i
  ·subst e
   have hpl:p<fr.length:=by rw [hs];simpa using hi
   rw [List.getElem?_set_self hpl] at hx
   cases hx
   have:=h2 0 _ u rfl rfl p
   simpa using this
  ·rw [List.getElem?_set_ne e] at hx
   have hi':i<tmps.size:=by simpa using hi
   have:=h1 i x hi' hx
   have e2:(tmps.setIfInBounds p u)[i]=tmps[i]:=by
    rw [Array.getElem_setIfInBounds (by simpa using hi')]
    rw [if_neg e]
   rw [e2];exact this
theorem round_sound {C:Cx} (hCP:C.P=theP) {vb:FuncId→List V→List Blk→Option FOut} (hDS:∀ f id ops,RegOf C.P f id ops→DrawSound C f id ops) (hvb:VbSound C vb) (k:Nat) {id:Nat} {args:List V} {h:List Blk} {out:FOut} (hv:vround C vb k id args h=some out)
  (ρ:Option Nat) (n:Nat) (us:Array Value) (w:World) (B:Nat) (g:Gh) (l:Nat) (hho:HeapOk g h B w) (hmo:MemOk g.mem w) (hlo:LinOk g B w) (hB:B≤w.heap.size) (ha:ArgsS g args us) (hl:g.loc id=some l) :
  ∃ f tmps asg body,(Instr.yield l us).run C.P w=.ok (.round l f tmps asg body) w∧RoundIn (FW ρ) n C.P l f tmps asg body w (HeapOut B g w out):=by
 unfold vround at hv
 split at hv
 ·rename_i L hL
  obtain ⟨o,ho,hgood,tmps,D,fn,rfl,hsz,hfr⟩:=hho.blkO id l _ hl hL
  split at hv
  ·rename_i hst
   split at hv
   ·rename_i hlen
    simp only [decide_eq_true_eq] at hlen
    have hus:us.size=L.ps.size:=by rw [←ha.1];exact hlen
    refine ⟨_,_,_,_,run_yield ho hus,roundIn_of_wpIn (F:=FW ρ) trivial ?_⟩
    obtain ⟨τ,hτ⟩:=free_tau hlo
    have hfold:(L.ps.zip us).foldl (fun tmps (x:Tmp×Value)=>tmps.setIfInBounds x.1 x.2) tmps=(L.ps.toList.zip us.toList).foldl (fun t (p:Tmp×Value)=>t.setIfInBounds p.1 p.2) tmps:=by
     rw [←Array.foldl_toList,Array.toList_zip]
    have hR:R B τ g ⟨setPs L.ps.toList args L.fr,h,[]⟩ {tmps:=(L.ps.zip us).foldl (fun tmps (x:Tmp×Value)=>tmps.setIfInBounds x.1 x.2) tmps,defers:=[]} w:=by
     rw [hfold]
     have hsize:∀ (l:List (Tmp×Value)) (t:Array Value),(l.foldl (fun t (p:Tmp×Value)=>t.setIfInBounds p.1 p.2) t).size=t.size:=by
      intro l
      induction l with
      | nil=>intro t;rfl
      | cons x l ih=>intro t;rw [List.foldl_cons,ih];simp
     refine ⟨by rw [setPs_length,hsize];exact hsz,?_,hho,hmo,hlo,hB,rfl⟩
     exact setPs_rep _ _ _ _ _ (by simpa using ha.1) hsz (fun i v hi hv=>(hfr i v hi hv).2 τ i) (fun j c u hc hu d=>by
      have hj:j<us.size:=by have:=(List.getElem?_eq_some_iff.1 hu).1;simpa using this
      have e:us[j]=u:=by
       rw [Array.getElem?_toList,Array.getElem?_eq_getElem hj] at hu
       cases hu;rfl
      rw [←e]
      exact (ha.2 j c hj hc).2 τ d)
    refine vexec_sound hCP (ρ:=some l) (rd:=true) (n:=n) (fun h=>by cases h) (hDS L.f) hvb k L.asg _ _ out (fun p hp=>hCP ▸ hgood p (by simp [hp])) hv g _ w _ hR (fun e st' g1 e' a1 w1 hl1 hR1 he hk=>?_)
    cases e<;>cases e'<;>first | exact he.elim | (cases hk;done) | skip
    dsimp only at hk
    show ∃ w₂,_∧_
    split at hk
    ·rename_i L2 hL2
     split at hk
     ·rename_i hst2
      have hloc1:=hl1.loc _ _ hl
      obtain ⟨o2,ho2,hgood2,tmps2,D2,fn2,rfl,hsz2,hfr2⟩:=hR1.heap.blkO id l _ hloc1 hL2
      have hlt:=(hR1.heap.fresh id l hloc1).2.1
      have hBl:=(hR1.heap.fresh id l hloc1).1
      obtain ⟨l2,R2⟩:=write_obj (x':=.loop {L2 with state:=.busy}) (o':=.loop {state:=.busy,pending:=L2.pending,fn:=fn2,tmps:=tmps2,params:=L2.ps,assign:=L2.asg,body:=L2.body,defers:=D2}) (w':=w1.putObj l (.loop {state:=.busy,pending:=L2.pending,fn:=fn2,tmps:=tmps2,params:=L2.ps,assign:=L2.asg,body:=L2.body,defers:=D2})) hR1 hloc1 hL2 rfl rfl
       (World.putObj_heap_same hlt) ⟨rfl,rfl,rfl,by simp,fun k hk=>World.putObj_heap_other (by omega)⟩ (fun c hc=>World.putObj_heap_other hc) World.putObj_size ⟨hgood2,tmps2,D2,fn2,rfl,hsz2,hfr2⟩ (fun cur e fr h0=>by rw [ho2] at h0;cases h0)
      refine ⟨_,run_beginRound ho2 hst2,?_⟩
      refine vexec_sound hCP (ρ:=some l) (rd:=true) (n:=n) (fun h=>by cases h) (hDS L.f) hvb k L.body _ _ out (fun p hp=>hCP ▸ hgood p (by simp [hp])) hk g1 _ _ _ R2 (fun e st3 g3 e' a3 w3 hl3 hR3 he hk3=>?_)
      have fin:∀ (jump:Option Code),roundEnd id jump st3.h=some out→∃ v w',(Instr.endRound l jump).run C.P w3=.ok v w'∧HeapOut B g w out (.returned v) w':=by
       intro jump hend
       unfold roundEnd at hend
       split at hend
       ·rename_i L3 hL3
        cases hend
        have hloc3:=hl3.loc _ _ hloc1
        obtain ⟨o3,ho3,hgood3,tmps3,D3,fn3,rfl,hsz3,hfr3⟩:=hR3.heap.blkO id l _ hloc3 hL3
        have hlt3:=(hR3.heap.fresh id l hloc3).2.1
        refine ⟨_,_,run_endRound jump ho3,?_⟩
        obtain ⟨c1,c2,c3⟩:=write_core (x':=.loop {L3 with state:=if jump.isNone then .ready else .done,pending:=jump})
         (o':=.loop {state:=if jump.isNone then .ready else .done,pending:=jump,fn:=fn3,tmps:=tmps3,params:=L3.ps,assign:=L3.asg,body:=L3.body,defers:=D3})
         (w':=w3.putObj l (.loop {state:=if jump.isNone then .ready else .done,pending:=jump,fn:=fn3,tmps:=tmps3,params:=L3.ps,assign:=L3.asg,body:=L3.body,defers:=D3}))
         hR3.heap hR3.mem hR3.lin hloc3 hL3 rfl (World.putObj_heap_same hlt3) (fun c hc=>World.putObj_heap_other hc) World.putObj_size ⟨hgood3,tmps3,D3,fn3,rfl,hsz3,hfr3⟩ (fun cur e fr h0=>by rw [ho3] at h0;cases h0)
        have lall:=(hl1.trans l2).trans hl3
        obtain ⟨q1,q2,q3,q4,q5⟩:=liftTo (g2:=g) lall hτ
        refine ⟨g3,⟨_,rfl,RepI.bool _⟩,rfl,q1.trans ⟨rfl,rfl,rfl,by simp,fun k hk=>World.putObj_heap_other (by have:=(hR3.heap.fresh id l hloc3).1;omega)⟩,q2,q3,q4,q5,c1,c2,c3⟩
       ·cases hend
      cases e<;>cases e'<;>first | exact he.elim | (cases hk3;done) | skip
      ·exact fin none hk3
      ·obtain rfl:_=_:=he
       exact fin (some (.exit _)) hk3
      ·exact fin (some .ret) hk3
     ·cases hk
    ·cases hk
   ·cases hv
  ·cases hv
 ·cases hv
theorem vstep_sound (C:Cx) (hCP:C.P=theP) (hD:∀ f id ops,RegOf C.P f id ops→DrawSound C f id ops) {vb:FuncId→List V→List Blk→Option FOut} (hvb:VbSound C vb) (n:Nat):VbSound C (vstep C vb n):=by
 have hvd:=vd_sound hCP hD hvb (n+1)
 have open_:∀ f args h out,vstep C vb n f args h=some out→f<yBase→∃ fn c,C.P.funcs[f]?=some fn∧fn.body=some c∧(fn.name == "runtime.NumGoroutine")=false ∧
   vexec C (vb) f false (n+1) c ⟨args++List.replicate (fn.ntmps-args.length) .undef,h,[]⟩ (vfinal C (vdcall C (vb) (n+1)) fn (pureOf C f args))=some out:=by
  intro f args h out hv hyb
  unfold vstep at hv
  rw [if_neg (Nat.not_le_of_lt hyb)] at hv
  split at hv
  ·rename_i fn hfn
   split at hv
   ·rename_i c hc
    split at hv
    ·cases hv
    ·rename_i hnn
     exact ⟨fn,c,hfn,hc,by simpa using hnn,hv⟩
   ·cases hv
  ·cases hv
 refine ⟨fun f args h out hv hyb=>?_,fun f args out hv hyb hpure k us w m hm ha=>?_,fun f args h out hv hyb hpure k us w B g hh hm hl hb ha=>?_,fun id args h out hv ρ k us w B g l hh hm hl hb ha hloc=>?_⟩
 ·obtain ⟨fn,c,h1,h2,h3,_⟩:=open_ f args h out hv hyb
  exact ⟨fn,c,h1,h2,h3⟩
 ·obtain ⟨fn,c,h1,h2,h3,hv⟩:=open_ f args [] out hv hyb
  rw [hpure] at hv
  have hflat:args.all flat2=true:=by unfold pureOf at hpure;simp only [Bool.and_eq_true] at hpure;exact hpure.1
  let g:Gh:=⟨m,fun _=>none,fun _=>none⟩
  have hR:R w.heap.size 0 g ⟨args++List.replicate (fn.ntmps-args.length) .undef,[],[]⟩ {tmps:=us++Array.replicate (fn.ntmps-us.size) undef,defers:=[]} w:=by
   refine args_R ha.1 (fun j c hj hc=>?_) ⟨fun _ _ h=>(by cases h),fun _ _ _ _ _ h=>(by cases h),fun _ _ h=>(by cases h),fun _ _ _ h=>(by cases h)⟩ hm ⟨fun _ _ h=>(by cases h)⟩ (Nat.le_refl _)
   rw [List.all_eq_true] at hflat
   exact flat2_repS (hflat c (List.mem_of_getElem? hc)) (ha.2 j c hj hc)
  refine CallsIn.ofBody h1 h2 (vexec_sound hCP (ρ:=none) (rd:=false) (fun _=>rfl) (hD f) hvb (n+1) c _ _ out (fun p hp=>⟨fn,c,h1,h2,hp⟩) hv g _ w _ hR (fun e st' g' e' a' w' l1 R1 hx hK=>?_))
  refine vfinal_sound hvd R1 hx hK (fun g2 w2 u m' h2 l2 R2 hu hfin=>?_)
  have hfin:=final_pure (F:=FW none) (n:=k) R2 hu hfin
  have conv:∀ en w3,EndOf g2 w.heap.size w2 out en w3→PureOut m w out en w3:=by
   rintro en w3 ⟨rfl,g3,k1,k2,k3,k4,k5,k6⟩
   have l12:=l1.trans l2
   exact ⟨g3,k1,k2,l12.below,l12.mem.trans k3,fun b hb=>(k4 b hb).trans (l12.old b hb),k5,k6⟩
  cases m' with
  | run=>exact hfin.elim
  | returning=>obtain ⟨v,q1,q2⟩:=hfin;exact ⟨v,q1,conv _ _ q2⟩
  | panicking ch=>exact conv _ _ hfin
 ·obtain ⟨fn,c,h1,h2,h3,hv⟩:=open_ f args h out hv hyb
  rw [hpure] at hv
  obtain ⟨τ,hτ⟩:=free_tau hl
  have hR:R B τ g ⟨args++List.replicate (fn.ntmps-args.length) .undef,h,[]⟩ {tmps:=us++Array.replicate (fn.ntmps-us.size) undef,defers:=[]} w :=
   args_R ha.1 (fun j c hj hc=>(ha.2 j c hj hc).2 τ j) hh hm hl hb
  refine CallsIn.ofBody h1 h2 (vexec_sound hCP (ρ:=none) (rd:=false) (fun _=>rfl) (hD f) hvb (n+1) c _ _ out (fun p hp=>⟨fn,c,h1,h2,hp⟩) hv g _ w _ hR (fun e st' g' e' a' w' l1 R1 hx hK=>?_))
  refine vfinal_sound hvd R1 hx hK (fun g2 w2 u m' h2 l2 R2 hu hfin=>?_)
  have hfin:=final_heap (F:=FW none) (n:=k) R2 hu hfin
  have conv:∀ en w3,(w3=w2∧OutIs g2 out en∧out.plain∧out.heap=h2)→HeapOut B g w out en w3:=by
   rintro en w3 ⟨rfl,k1,k2,k3⟩
   obtain ⟨q1,q2,q3,q4,q5⟩:=liftTo (g2:=g) (l1.trans l2) hτ
   refine ⟨g2,k1,k2,q1,q2,q3,q4,q5,?_,R2.mem,R2.lin⟩
   rw [k3];exact R2.heap
  cases m' with
  | run=>exact hfin.elim
  | returning=>obtain ⟨v,q1,q2⟩:=hfin;exact ⟨v,q1,conv _ _ q2⟩
  | panicking ch=>exact conv _ _ hfin
 ·unfold vstep at hv
  rw [if_pos (Nat.le_add_right _ _),Nat.add_sub_cancel_left] at hv
  exact round_sound hCP hD hvb (n+1) hv ρ k us w B g l hh hm hl hb ha hloc
theorem vcall_sound (C:Cx) (hCP:C.P=theP) (hD:∀ f id ops,RegOf C.P f id ops→DrawSound C f id ops):∀ n,VbSound C (vcall C n)
 | 0=>⟨fun _ _ _ _ h=>(by cases h),fun _ _ _ h=>(by cases h),fun _ _ _ _ h=>(by cases h),fun _ _ _ _ h=>(by cases h)⟩
 | n+1=>by
  have ih:=vstep_sound C hCP hD (vcall_sound C hCP hD n) n
  exact ⟨ih.fn,ih.pure_,ih.heap,ih.round⟩
end Go.Fw
namespace Go.Fw
open Go.RowKit
def vopc (C:Cx) (vb:FuncId→List V→List Blk→Option FOut) (f:FuncId) (o:Oper) (st:St):Option (V×St):=vop C vb f o st (fun v s=>some (v,s)) (fun _ _=>none)
def dcells:Blk→List V
 | .cells vs _=>vs
 | _=>[]
def effH (K:Kd) (D:Blk) (h:List Blk):List Blk:=match K with
 | .wr id off _=>match h[id]? with
  | some (.cells cs e)=>h.set id (.cells (setAt cs off (dcells D)) e)
  | _=>h
 | .al=>h++[D]
 | .cl _ h2=>h2
 | _=>h
theorem effH_wr {id off n:Nat} {D:Blk} {h:List Blk} {cs:List V} {e:TypeId} (hh:h[id]?=some (.cells cs e)):effH (.wr id off n) D h=h.set id (.cells (setAt cs off (dcells D)) e):=by
 unfold effH
 dsimp only
 rw [hh]
def Rng (h h2:List Blk) (id off n:Nat):Prop:=∃ cs cs2 e,h[id]?=some (.cells cs e)∧h2[id]?=some (.cells cs2 e)∧cs2.length=cs.length∧(cs2.drop off).take n=(cs.drop off).take n
def HC (K:Kd) (h h2:List Blk):Prop:=match K with
 | .none=>True
 | .rd id off n | .wr id off n=>Rng h h2 id off n
 | .al=>h2.length=h.length
 | .cl _ _=>h2=h
 | .any=>False
def Val (K:Kd) (D:Blk) (h:List Blk):Prop:=match K with
 | .none | .al=>True
 | .rd id off n=>∃ cs e,h[id]?=some (.cells cs e)∧off+n≤cs.length
 | .wr id off n=>∃ cs e,h[id]?=some (.cells cs e)∧off+n≤cs.length∧(dcells D).length=n
 | .cl h1 h2=>h=h1∧h1.length≤h2.length
 | .any=>False
structure SameOn (o:Oper) (st st2:St):Prop where
 peek:∀ x∈o.op.operands.toList,st2.peek x=st.peek x
 dst:∀ d,o.dst=some d→getS st2.fr d=getS st.fr d
 df:st2.df=st.df
theorem SameOn.refl (o:Oper) (st:St):SameOn o st st:=⟨fun _ _=>rfl,fun _ _=>rfl,rfl⟩
theorem use_id {st:St} {x:Operand} (h:isLin3 (st.peek x)=false):st.useS x=st∧st.takeS x=st∧st.useV x=st.peek x:=by
 refine ⟨?_,?_,map3_of (fun _ h=>demote1_of h) h⟩
 ·cases x with
  | tmp t=>unfold St.useS;dsimp only;rw [show isLin3 (getS st.fr t)=false from h,condB_false]
  | _=>rfl
 ·cases x with
  | tmp t=>unfold St.takeS;dsimp only;rw [show isLin3 (getS st.fr t)=false from h,condB_false]
  | _=>rfl
theorem useAll_id {st:St}:∀ {xs:List Operand},(∀ x∈xs,isLin3 (st.peek x)=false)→st.useAll xs=st
 | [],_=>rfl
 | x::xs,h=>by
  unfold St.useAll
  rw [(use_id (h x (by simp))).1]
  exact useAll_id (fun y hy=>h y (by simp [hy]))
theorem map_condB {α β:Type} {f:α→β} {b:Bool} {x y:Option α}:Option.map f (condB b x y)=condB b (Option.map f x) (Option.map f y):=by
 cases b
 ·rw [condB_false,condB_false]
 ·rw [condB_true,condB_true]
theorem map_bindO {α β γ:Type} {f:β→γ} {o:Option α} {k:α→Option β}:Option.map f (bindO o k)=bindO o fun a=>Option.map f (k a):=by
 cases o
 ·rw [bindO_none,bindO_none];rfl
 ·rw [bindO_some,bindO_some]
section
variable {C:Cx} {vb:FuncId→List V→List Blk→Option FOut} {f:FuncId} {o:Oper} {st:St}
def Like (o:Oper) (st st':St):Prop:=SameOn o st st'∧∀ x∈o.op.operands.toList,isLin3 (st.peek x)=false
theorem Like.peek {st':St} (h:Like o st st') {x:Operand} (hx:x∈o.op.operands.toList):st'.peek x=st.peek x∧st'.useS x=st'∧st'.takeS x=st'∧st'.useV x=st.peek x:=by
 have e:=h.1.peek x hx
 have:=use_id (st:=st') (x:=x) (by rw [e];exact h.2 x hx)
 exact ⟨e,this.1,this.2.1,this.2.2.trans e⟩
def vval (C:Cx) (vb:FuncId→List V→List Blk→Option FOut) (f:FuncId) (o:Oper) (st:St):Option V:=vop C vb f o st (fun v _=>some v) (fun _ _=>none)
theorem dep_move {x:Operand} (ho:o.op=.move x) {st':St} (h:Like o st st'):vopc C vb f o st'=(vval C vb f o st).map (·,st'):=by
 have hx:=h.peek (x:=x) (by simp [ho,Op.operands])
 have l:Like o st st:=⟨SameOn.refl o st,h.2⟩
 have hy:=l.peek (x:=x) (by simp [ho,Op.operands])
 have hd:map3 demote1 (st.peek x)=st.peek x:=hy.2.2.2
 unfold vopc vval vop
 rw [ho]
 dsimp only
 rw [hx.1,hx.2.1,hx.2.2.1]
 cases o.dst with
 | none=>rfl
 | some d =>
  dsimp only
  generalize st.peek x=v at hd
  cases v<;>first | rfl | (dsimp only;rw [hd];split<;>rfl)
theorem dep_assign {x:Operand} (ho:o.op=.assign x) {st':St} (h:Like o st st'):vopc C vb f o st'=(vval C vb f o st).map (·,st'):=by
 have hx:=h.peek (x:=x) (by simp [ho,Op.operands])
 have l:Like o st st:=⟨SameOn.refl o st,h.2⟩
 have hy:=l.peek (x:=x) (by simp [ho,Op.operands])
 unfold vopc vval vop
 rw [ho]
 dsimp only
 rw [hx.1,hx.2.2.1]
 rfl
theorem dep_pick {c x y:Operand} (ho:o.op=.pick c x y) {st':St} (h:Like o st st'):vopc C vb f o st'=(vval C vb f o st).map (·,st'):=by
 have hc:=h.peek (x:=c) (by simp [ho,Op.operands])
 have hx:=h.peek (x:=x) (by simp [ho,Op.operands])
 have hy:=h.peek (x:=y) (by simp [ho,Op.operands])
 have l:Like o st st:=⟨SameOn.refl o st,h.2⟩
 have hx':=l.peek (x:=x) (by simp [ho,Op.operands])
 have hy':=l.peek (x:=y) (by simp [ho,Op.operands])
 unfold vopc vval vop
 rw [ho]
 dsimp only
 rw [hc.1,hx.2.1,hx.2.2.2,hy.2.1,hy.2.2.2,hx'.2.2.2,hy'.2.2.2]
 generalize st.peek c=v
 cases v<;>first | rfl | simp only [map_condB,Option.map_some]
theorem dep_nilCheck {x:Operand} (ho:o.op=.nilCheck x) {st':St} (h:Like o st st'):vopc C vb f o st'=(vval C vb f o st).map (·,st'):=by
 have hx:=h.peek (x:=x) (by simp [ho,Op.operands])
 unfold vopc vval vop
 rw [ho]
 dsimp only
 rw [hx.1]
 generalize st.peek x=v
 split<;>rfl
theorem dep_binOp {op:BinOp} {t t':TypeId} {x y:Operand} (ho:o.op=.binOp op t x y t') {st':St} (h:Like o st st'):vopc C vb f o st'=(vval C vb f o st).map (·,st'):=by
 have hx:=h.peek (x:=x) (by simp [ho,Op.operands])
 have hy:=h.peek (x:=y) (by simp [ho,Op.operands])
 unfold vopc vval vop
 rw [ho]
 dsimp only
 rw [hx.1,hy.1]
 cases vnil C.P op t (st.peek x) y with
 | some b=>rfl
 | none=>cases vbin C.P op t (st.peek x) (st.peek y)<;>rfl
theorem dep_unOp {op:UnOp} {t:TypeId} {x:Operand} (ho:o.op=.unOp op t x) {st':St} (h:Like o st st'):vopc C vb f o st'=(vval C vb f o st).map (·,st'):=by
 have hx:=h.peek (x:=x) (by simp [ho,Op.operands])
 unfold vopc vval vop
 rw [ho]
 dsimp only
 rw [hx.1]
 cases vun C.P op (st.peek x)<;>rfl
theorem dep_convert {s t:TypeId} {x:Operand} (ho:o.op=.convert s t x) {st':St} (h:Like o st st'):vopc C vb f o st'=(vval C vb f o st).map (·,st'):=by
 have hx:=h.peek (x:=x) (by simp [ho,Op.operands])
 unfold vopc vval vop
 rw [ho]
 dsimp only
 rw [hx.1]
 cases vbytes C.P s t (st.peek x) with
 | some q=>dsimp only;rw [map_condB];rfl
 | none=>cases vconv C.P s t (st.peek x)<;>rfl
theorem map_useV {st':St} {xs:List Operand} (h:∀ x∈xs,st'.useV x=st.useV x):xs.map st'.useV=xs.map st.useV:=List.map_congr_left h
theorem dep_makeFunc {g:Fn} {x y:Array Operand} (ho:o.op=.makeFunc g x y) {st':St} (h:Like o st st'):vopc C vb f o st'=(vval C vb f o st).map (·,st'):=by
 have l:Like o st st:=⟨SameOn.refl o st,h.2⟩
 have hin:∀ z∈x.toList++y.toList,z∈o.op.operands.toList:=by intro z hz;simp only [ho,Op.operands,Array.toList_append];exact hz
 have e1:∀ z∈x.toList++y.toList,st'.useV z=st.useV z:=fun z hz=>(h.peek (hin z hz)).2.2.2.trans (l.peek (hin z hz)).2.2.2.symm
 have e2:st'.useAll (x.toList++y.toList)=st':=useAll_id (fun z hz=>by rw [(h.peek (hin z hz)).1];exact h.2 z (hin z hz))
 have e3:st.useAll (x.toList++y.toList)=st:=useAll_id (fun z hz=>h.2 z (hin z hz))
 unfold vopc vval vop
 rw [ho]
 dsimp only
 rw [e2,map_useV (st:=st) (fun z hz=>e1 z (by simp [hz])),map_useV (st:=st) (fun z hz=>e1 z (by simp [hz]))]
 split<;>rfl
theorem dep_slice {t:TypeId} {x:Operand} {lo hi mx:Option Operand} (ho:o.op=.slice t x lo hi mx) (hno:∀ i j l r,st.peek x≠.own i j l r) {st':St} (h:Like o st st'):vopc C vb f o st'=(vval C vb f o st).map (·,st'):=by
 have l:Like o st st:=⟨SameOn.refl o st,h.2⟩
 have hx:=h.peek (x:=x) (by simp [ho,Op.operands])
 have hx':=l.peek (x:=x) (by simp [ho,Op.operands])
 have e1:lo.map st'.peek=lo.map st.peek:=by
  cases lo with
  | none=>rfl
  | some y=>exact congrArg some (h.peek (x:=y) (by simp [ho,Op.operands])).1
 have e2:hi.map st'.peek=hi.map st.peek:=by
  cases hi with
  | none=>rfl
  | some y=>exact congrArg some (h.peek (x:=y) (by simp [ho,Op.operands])).1
 have e3:mx.map st'.peek=mx.map st.peek:=by
  cases mx with
  | none=>rfl
  | some y=>exact congrArg some (h.peek (x:=y) (by simp [ho,Op.operands])).1
 unfold vopc vval vop
 rw [ho]
 dsimp only
 rw [e1,e2,e3,hx.1,hx.2.1]
 split
 ·rename_i hp
  exact absurd hp (hno _ _ _ _)
 split
 ·split
  ·split<;>simp only [map_condB,Option.map_some,Option.map_none]
  ·rfl
 ·rfl
theorem dep_fieldAddr {s:TypeId} {x:Operand} {j:Nat} (ho:o.op=.fieldAddr s x j) {st':St} (h:Like o st st'):vopc C vb f o st'=(vval C vb f o st).map (·,st'):=by
 have hx:=h.peek (x:=x) (by simp [ho,Op.operands])
 unfold vopc vval vop
 rw [ho]
 dsimp only
 rw [hx.1]
 split
 ·split
  ·split<;>rfl
  ·rfl
 ·rfl
theorem dep_field {s:TypeId} {x:Operand} {j:Nat} (ho:o.op=.field s x j) {st':St} (h:Like o st st'):vopc C vb f o st'=(vval C vb f o st).map (·,st'):=by
 have l:Like o st st:=⟨SameOn.refl o st,h.2⟩
 have hx:=h.peek (x:=x) (by simp [ho,Op.operands])
 have hx':=l.peek (x:=x) (by simp [ho,Op.operands])
 unfold vopc vval vop
 rw [ho]
 dsimp only
 rw [hx.1,hx.2.1]
 split
 ·split
  ·split
   ·split
    ·split<;>rfl
    ·rfl
   ·rfl
  ·rfl
 ·rfl
theorem dep_indexAddr {t:TypeId} {x i:Operand} (ho:o.op=.indexAddr t x i) {st':St} (h:Like o st st'):vopc C vb f o st'=(vval C vb f o st).map (·,st'):=by
 have l:Like o st st:=⟨SameOn.refl o st,h.2⟩
 have hx:=h.peek (x:=x) (by simp [ho,Op.operands])
 have hx':=l.peek (x:=x) (by simp [ho,Op.operands])
 have hi:=h.peek (x:=i) (by simp [ho,Op.operands])
 unfold vopc vval vop
 rw [ho]
 dsimp only
 rw [hx.1,hx.2.1,hi.1]
 split
 ·(repeat' split)<;>first | rfl | (rw [map_bindO];rfl) | (rw [map_condB];rfl)
 ·rfl
theorem dep_index {t:TypeId} {x i:Operand} (ho:o.op=.index t x i) {st':St} (h:Like o st st'):vopc C vb f o st'=(vval C vb f o st).map (·,st'):=by
 have hx:=h.peek (x:=x) (by simp [ho,Op.operands])
 have hi:=h.peek (x:=i) (by simp [ho,Op.operands])
 unfold vopc vval vop
 rw [ho]
 dsimp only
 rw [hx.1,hi.1]
 split
 ·split
  ·rw [map_bindO];rfl
  ·rfl
 ·rfl
theorem call_args {c:Call} (ho:o.op=.call c) {x:Operand} (hx:x∈c.args.toList):x∈o.op.operands.toList:=by
 simp only [ho,Op.operands,Call.operands]
 cases c.callee<;>simp_all
theorem dep_len {c:Call} (ho:o.op=.call c) (hb:c.callee=.builtin .len) {st':St} (h:Like o st st'):vopc C vb f o st'=(vval C vb f o st).map (·,st'):=by
 unfold vopc vval vop
 rw [ho]
 dsimp only
 rw [hb]
 dsimp only
 split
 ·rename_i x t hx ht
  have hx:=h.peek (x:=x) (call_args ho (by rw [hx];simp))
  rw [hx.1]
  split
  ·rfl
  ·rfl
  ·split<;>rfl
  ·rfl
 ·rfl
theorem append_none {c:Call} (ho:o.op=.call c) (hb:c.callee=.builtin .append) (hk:kindV C f o st≠.any):∃ d,o.dst=some d∧∀ s x,c.args.toList=[s,x]→(∀ i j l r,st.peek s≠.own i j l r)∧(isOwnV (st.peek x)||(C.thaw f).contains d)=false:=by
 unfold kindV at hk
 rw [ho] at hk
 dsimp only at hk
 rw [hb] at hk
 dsimp only at hk
 split at hk
 ·rename_i s r hs
  split at hk
  ·exact absurd rfl hk
  ·rename_i hno
   split at hk
   ·rename_i hd
    rw [Bool.and_eq_true] at hd
    obtain ⟨hd,hr⟩:=hd
    obtain ⟨d,hd⟩:=Option.isSome_iff_exists.1 hd
    refine ⟨d,hd,fun s' x hsx=>?_⟩
    rw [hsx] at hs
    injection hs with h1 h2
    subst h1
    subst h2
    refine ⟨fun i j l r e=>hno i j l r e,?_⟩
    rw [hd] at hr
    simpa using hr
   ·exact absurd rfl hk
 ·exact absurd rfl hk
theorem dep_append {c:Call} (ho:o.op=.call c) (hb:c.callee=.builtin .append) (hk:kindV C f o st=.none) {st':St} (h:Like o st st'):vopc C vb f o st'=(vval C vb f o st).map (·,st'):=by
 have l:Like o st st:=⟨SameOn.refl o st,h.2⟩
 obtain ⟨d,hd,hno⟩:=append_none ho hb (by rw [hk];simp)
 unfold vopc vval vop
 rw [ho]
 dsimp only
 rw [hb]
 dsimp only
 split
 ·rename_i s x t tx hsx htt
  have hx:=h.peek (x:=x) (call_args ho (by rw [hsx];simp))
  have hs:=h.peek (x:=s) (call_args ho (by rw [hsx];simp))
  have hx':=l.peek (x:=x) (call_args ho (by rw [hsx];simp))
  have hs':=l.peek (x:=s) (call_args ho (by rw [hsx];simp))
  obtain ⟨hn1,hn2⟩:=hno s x hsx
  rw [hx.1,hx.2.1,hs.1,hs.2.2.1,hx'.2.1,hs'.2.2.1,hd]
  simp only [Option.getD_some]
  simp only [h.1.dst d hd,hn2,condB_false]
  split
  ·(repeat' split)<;>first | rfl | (rename_i hp;exact absurd hp (hn1 _ _ _ _)) | (rw [map_condB];rfl)
  ·rfl
 ·rfl
theorem buildV_id {P:Program} {t:TypeId} {st':St}:∀ {parts:List (Nat×Operand)} {cs:List V},(∀ p∈parts,st'.peek p.2=st.peek p.2∧st'.takeS p.2=st'∧st.takeS p.2=st) →
  (buildV P t st' cs parts=(buildV P t st cs parts).map fun q=>(q.1,st'))∧∀ q,buildV P t st cs parts=some q→q.2=st
 | [],cs,_=>⟨rfl,fun q h=>by cases h;rfl⟩
 | (i,x)::r,cs,h=>by
  obtain ⟨h1,h2,h3⟩:=h (i,x) (by simp)
  dsimp only at h1 h2 h3
  unfold buildV
  rw [h1,h2,h3]
  cases fieldT P t i with
  | none=>exact ⟨rfl,fun q h=>by cases h⟩
  | some g =>
   dsimp only
   cases sizeT P g.type with
   | none=>exact ⟨rfl,fun q h=>by cases h⟩
   | some n =>
    dsimp only
    split
    ·exact buildV_id (fun p hp=>h p (by simp [hp]))
    ·exact ⟨rfl,fun q h=>by cases h⟩
theorem dep_build {t:TypeId} {parts:Array (Nat×Operand)} (ho:o.op=.build t parts) {st':St} (h:Like o st st'):vopc C vb f o st'=(vval C vb f o st).map (·,st'):=by
 have l:Like o st st:=⟨SameOn.refl o st,h.2⟩
 have hin:∀ p∈parts.toList,p.2∈o.op.operands.toList:=by
  intro p hp
  simp only [ho,Op.operands]
  exact List.mem_map.2 ⟨p,hp,rfl⟩
 unfold vopc vval vop
 rw [ho]
 dsimp only
 split
 ·rename_i zs hz
  split
  ·have hb:=buildV_id (P:=C.P) (t:=t) (st:=st) (st':=st') (parts:=parts.toList) (cs:=zs) (fun p hp=>⟨(h.peek (hin p hp)).1,(h.peek (hin p hp)).2.2.1,(l.peek (hin p hp)).2.2.1⟩)
   rw [hb.1]
   cases buildV C.P t st zs parts.toList<;>rfl
  ·rfl
 ·rfl
theorem dep_bslice {t:TypeId} {m:Nat} {parts:Array (Nat×Operand)} (ho:o.op=.buildSlice t m parts) (hf:(parts.toList.map fun p=>st.useV p.2).all flat2=true) {st':St} (h:Like o st st'):vopc C vb f o st'=(vval C vb f o st).map (·,st'):=by
 have l:Like o st st:=⟨SameOn.refl o st,h.2⟩
 have hin:∀ p∈parts.toList,p.2∈o.op.operands.toList:=by
  intro p hp
  simp only [ho,Op.operands]
  exact List.mem_map.2 ⟨p,hp,rfl⟩
 have e1:(parts.toList.map fun p=>st'.useV p.2)=parts.toList.map fun p=>st.useV p.2:=List.map_congr_left fun p hp=>(h.peek (hin p hp)).2.2.2.trans (l.peek (hin p hp)).2.2.2.symm
 have e2:st'.useAll (parts.toList.map (·.2))=st':=useAll_id (fun z hz=>by
  obtain ⟨p,hp,rfl⟩:=List.mem_map.1 hz
  rw [(h.peek (hin p hp)).1];exact h.2 _ (hin p hp))
 unfold vopc vval vop
 rw [ho]
 dsimp only
 split
 ·split
  ·split
   ·rw [e1,e2]
    (repeat' split)<;>first | rfl | (rename_i hn;exact absurd hf hn) | contradiction
   ·rfl
  ·rfl
 ·rfl
theorem dep_make {t:TypeId} {x y:Operand} (ho:o.op=.makeSlice t x y) (hk:kindV C f o st=.none) {st':St} (h:Like o st st'):vopc C vb f o st'=(vval C vb f o st).map (·,st'):=by
 have hx:=h.peek (x:=x) (by simp [ho,Op.operands])
 have hy:=h.peek (x:=y) (by simp [ho,Op.operands])
 unfold kindV at hk
 rw [ho] at hk
 dsimp only at hk
 split at hk
 ·cases hk
 ·rename_i hth
  unfold vopc vval vop
  rw [ho]
  dsimp only
  rw [hx.1,hy.1]
  split
  ·rename_i e he
   rw [he] at hk
   simp only [Option.bind_some] at hk
   split
   ·rename_i sz by_ z k1 n k2 m hsz hby hz _ _
    rw [hz] at hk
    dsimp only at hk
    split at hk
    ·rename_i hfl
     rw [map_condB]
     congr 1
     rw [if_pos ⟨hfl,by simpa using hth⟩,if_pos ⟨hfl,by simpa using hth⟩,map_condB]
     rfl
    ·cases hk
   ·rfl
  ·rfl
theorem call_fn {c:Call} {g:Operand} (ho:o.op=.call c) (hb:c.callee=.value g):g∈o.op.operands.toList:=by
 simp [ho,Op.operands,Call.operands,hb]
theorem dep_call {c:Call} {g:Operand} (ho:o.op=.call c) (hb:c.callee=.value g) (hk:kindV C f o st=.none) {st':St} (h:Like o st st'):vopc C vb f o st'=(vval C vb f o st).map (·,st'):=by
 have l:Like o st st:=⟨SameOn.refl o st,h.2⟩
 have hg:=h.peek (x:=g) (call_fn ho hb)
 have e1:c.args.toList.map st'.useV=c.args.toList.map st.useV:=map_useV (fun z hz=>(h.peek (call_args ho hz)).2.2.2.trans (l.peek (call_args ho hz)).2.2.2.symm)
 have e2:st'.useAll c.args.toList=st':=useAll_id (fun z hz=>by rw [(h.peek (call_args ho hz)).1];exact h.2 _ (call_args ho hz))
 unfold kindV at hk
 rw [ho] at hk
 dsimp only at hk
 rw [hb] at hk
 dsimp only at hk
 unfold vopc vval vop
 rw [ho]
 dsimp only
 rw [hb]
 dsimp only
 rw [hg.1]
 split
 ·rename_i gf first caps hgp
  rw [hgp] at hk
  dsimp only at hk
  rcases condB_cases hk with ⟨hfl,hk⟩ | ⟨_,hk⟩
  ·by_cases hyb:yBase≤gf
   ·rw [if_pos hyb,if_pos hyb];rfl
   rw [if_neg hyb,if_neg hyb,e1,e2,if_pos hfl,if_pos hfl,map_bindO]
   congr 1
   funext r
   cases r with
   | ret v hh =>
    dsimp only
    cases hd:o.dst with
    | none=>rfl
    | some d =>
     rw [hd] at hk
     dsimp only at hk ⊢
     split at hk
     ·cases hk
     ·rename_i hth
      rw [if_neg hth,if_neg hth]
      rfl
   | pan v hh=>rfl
  ·cases hk
 ·rename_i hg0
  rw [hg0] at hk
  cases hk
 ·rfl
end
end Go.Fw
namespace Go.Fw
open Go.RowKit
def setAll (T:List (Nat×V)) (fr:List V):List V:=T.foldl (fun fr p=>fr.set p.1 p.2) fr
theorem setAll_nil (fr:List V):setAll [] fr=fr:=rfl
theorem setAll_cons (p:Nat×V) (T:List (Nat×V)) (fr:List V):setAll (p::T) fr=setAll T (fr.set p.1 p.2):=rfl
theorem setAll_append (T U:List (Nat×V)) (fr:List V):setAll (T++U) fr=setAll U (setAll T fr):=List.foldl_append
theorem setAll_set {d:Nat} {v:V}:∀ {T:List (Nat×V)} {fr:List V},(∀ p∈T,p.1≠d)→setAll T (fr.set d v)=(setAll T fr).set d v
 | [],_,_=>rfl
 | p::T,fr,h=>by
  rw [setAll_cons,setAll_cons,←setAll_set (fun q hq=>h q (by simp [hq])),List.set_comm _ _ (h p (by simp)).symm]
theorem setAll_comm {U:List (Nat×V)}:∀ {T:List (Nat×V)} {fr:List V},(∀ p∈T,∀ q∈U,p.1≠q.1)→setAll T (setAll U fr)=setAll U (setAll T fr)
 | [],_,_=>rfl
 | p::T,fr,h=>by
  rw [setAll_cons,setAll_cons,←setAll_set (T:=U) (fun q hq e=>h p (by simp) q hq e.symm),setAll_comm (fun a ha b hb=>h a (by simp [ha]) b hb)]
theorem getS_setAll {t:Nat}:∀ {T:List (Nat×V)} {fr:List V},(∀ p∈T,p.1≠t)→getS (setAll T fr) t=getS fr t
 | [],_,_=>rfl
 | p::T,fr,h=>by
  rw [setAll_cons,getS_setAll (fun q hq=>h q (by simp [hq]))]
  unfold getS
  rw [List.getD_eq_getElem?_getD,List.getD_eq_getElem?_getD,List.getElem?_set_ne (h p (by simp))]
def upd (T:List (Nat×V)) (st:St):St:={st with fr:=setAll T st.fr}
theorem upd_nil (st:St):upd [] st=st:=rfl
theorem upd_upd (T U:List (Nat×V)) (st:St):upd U (upd T st)=upd (T++U) st:=by unfold upd;rw [setAll_append]
def takeL (st:St) (x:Operand):List (Nat×V):=match x with
 | .tmp t=>condB (isLin3 (getS st.fr t)) [(t,map3 drop1 (getS st.fr t))] []
 | _=>[]
def useL (st:St) (x:Operand):List (Nat×V):=match x with
 | .tmp t=>condB (isLin3 (getS st.fr t)) [(t,map3 mark1 (getS st.fr t))] []
 | _=>[]
theorem takeS_upd {st st2:St} {x:Operand} (h:st2.peek x=st.peek x):st2.takeS x=upd (takeL st x) st2:=by
 cases x with
 | tmp t =>
  have h:getS st2.fr t=getS st.fr t:=h
  unfold St.takeS takeL
  dsimp only
  rw [h]
  cases isLin3 (getS st.fr t)
  ·rw [condB_false,condB_false];rfl
  ·rw [condB_true,condB_true];rfl
 | _=>rfl
theorem useS_upd {st st2:St} {x:Operand} (h:st2.peek x=st.peek x):st2.useS x=upd (useL st x) st2:=by
 cases x with
 | tmp t =>
  have h:getS st2.fr t=getS st.fr t:=h
  unfold St.useS useL
  dsimp only
  rw [h]
  cases isLin3 (getS st.fr t)
  ·rw [condB_false,condB_false];rfl
  ·rw [condB_true,condB_true];rfl
 | _=>rfl
theorem takeL_mem {st:St} {x:Operand} {p:Nat×V} (h:p∈takeL st x):x=.tmp p.1∧isLin3 (st.peek x)=true:=by
 cases x with
 | tmp t =>
  unfold takeL at h
  dsimp only at h
  cases hl:isLin3 (getS st.fr t) with
  | false=>rw [hl,condB_false] at h;simp at h
  | true =>
   rw [hl,condB_true] at h
   simp only [List.mem_singleton] at h
   subst h
   exact ⟨rfl,hl⟩
 | _=>simp [takeL] at h
theorem useL_mem {st:St} {x:Operand} {p:Nat×V} (h:p∈useL st x):x=.tmp p.1∧isLin3 (st.peek x)=true:=by
 cases x with
 | tmp t =>
  unfold useL at h
  dsimp only at h
  cases hl:isLin3 (getS st.fr t) with
  | false=>rw [hl,condB_false] at h;simp at h
  | true =>
   rw [hl,condB_true] at h
   simp only [List.mem_singleton] at h
   subst h
   exact ⟨rfl,hl⟩
 | _=>simp [useL] at h
theorem lin_lt {fr:List V} {t:Nat} (h:isLin3 (getS fr t)=true):t<fr.length:=by
 apply Classical.byContradiction
 intro hn
 unfold getS at h
 rw [List.getD_eq_getElem?_getD,List.getElem?_eq_none (by omega)] at h
 cases h
theorem same_upd {st st2:St} {x:Operand}:∀ {T:List (Nat×V)} {a b:List V},(∀ p∈T,p.1<a.length∧p.1<b.length)→∀ {t:Nat},getS b t=getS a t→getS (setAll T b) t=getS (setAll T a) t
 | [],_,_,_,_,h=>h
 | p::T,a,b,hT,t,h0=>by
  rw [setAll_cons,setAll_cons]
  refine same_upd (st:=st) (st2:=st2) (x:=x) (fun q hq=>by simpa using hT q (by simp [hq])) ?_
  unfold getS at h0 ⊢
  rw [List.getD_eq_getElem?_getD,List.getD_eq_getElem?_getD] at h0 ⊢
  by_cases hp:p.1=t
  ·subst hp
   rw [List.getElem?_set_self (hT p (by simp)).2,List.getElem?_set_self (hT p (by simp)).1]
  ·rw [List.getElem?_set_ne hp,List.getElem?_set_ne hp]
   exact h0
theorem lin_back {st:St} {x:Operand} {L:List (Nat×V)} (hL:L=[]∨∃ t v,L=[(t,v)]∧isLin3 (getS st.fr t)=true) {t:Nat} (h:isLin3 (getS (upd L st).fr t)=true):isLin3 (getS st.fr t)=true:=by
 rcases hL with rfl | ⟨t0,v,rfl,h0⟩
 ·exact h
 ·by_cases e:t0=t
  ·exact e ▸ h0
  ·have:=getS_setAll (t:=t) (T:=[(t0,v)]) (fr:=st.fr) (by simpa using e)
   unfold upd at h
   rw [this] at h
   exact h
theorem takeL_form (st:St) (x:Operand):takeL st x=[]∨∃ t v,takeL st x=[(t,v)]∧isLin3 (getS st.fr t)=true:=by
 cases x with
 | tmp t =>
  unfold takeL
  dsimp only
  cases hl:isLin3 (getS st.fr t) with
  | false=>rw [condB_false];exact .inl rfl
  | true=>rw [condB_true];exact .inr ⟨_,_,rfl,hl⟩
 | _=>exact .inl rfl
theorem useL_form (st:St) (x:Operand):useL st x=[]∨∃ t v,useL st x=[(t,v)]∧isLin3 (getS st.fr t)=true:=by
 cases x with
 | tmp t =>
  unfold useL
  dsimp only
  cases hl:isLin3 (getS st.fr t) with
  | false=>rw [condB_false];exact .inl rfl
  | true=>rw [condB_true];exact .inr ⟨_,_,rfl,hl⟩
 | _=>exact .inl rfl
theorem takeL_rng {st st2:St} {x:Operand} (hx:st2.peek x=st.peek x):∀ p∈takeL st x,p.1<st.fr.length∧p.1<st2.fr.length:=by
 intro p hp
 obtain ⟨e,h⟩:=takeL_mem hp
 have h2:=h
 rw [←hx] at h2
 rw [e] at h h2
 exact ⟨lin_lt h,lin_lt h2⟩
theorem useL_rng {st st2:St} {x:Operand} (hx:st2.peek x=st.peek x):∀ p∈useL st x,p.1<st.fr.length∧p.1<st2.fr.length:=by
 intro p hp
 obtain ⟨e,h⟩:=useL_mem hp
 have h2:=h
 rw [←hx] at h2
 rw [e] at h h2
 exact ⟨lin_lt h,lin_lt h2⟩
theorem peek_updL {st st2:St} {L:List (Nat×V)} {y:Operand} (hL:∀ p∈L,p.1<st.fr.length∧p.1<st2.fr.length) (hy:st2.peek y=st.peek y):(upd L st2).peek y=(upd L st).peek y:=by
 cases y with
 | tmp t=>exact same_upd (st:=st) (st2:=st2) (x:=.tmp t) hL hy
 | _=>rfl
theorem peek_upd {st st2:St} {x:Operand} {y:Operand} (hx:st2.peek x=st.peek x) (hy:st2.peek y=st.peek y):(upd (takeL st x) st2).peek y=(upd (takeL st x) st).peek y:=peek_updL (takeL_rng hx) hy
section
variable {C:Cx} {vb:FuncId→List V→List Blk→Option FOut} {f:FuncId} {o:Oper} {st:St}
theorem dep_extract {x:Operand} {i:Nat} (ho:o.op=.extract x i) {st':St} (h:Like o st st'):vopc C vb f o st'=(vval C vb f o st).map (·,st'):=by
 have hx:=h.peek (x:=x) (by simp [ho,Op.operands])
 have hn:=h.2 x (by simp [ho,Op.operands])
 unfold vopc vval vop
 rw [ho]
 dsimp only
 cases x with
 | tmp t =>
  have e:getS st'.fr t=getS st.fr t:=hx.1
  have hn:isLin3 (getS st.fr t)=false:=hn
  dsimp only
  rw [e]
  split
  ·rename_i vs hvs
   split
   ·rename_i v hv
    have hd:map2 drop1 v=v:=by
     apply map2_of (fun _ h=>drop1_of h)
     rw [hvs] at hn
     simp only [isLin3] at hn
     rw [List.any_eq_false] at hn
     exact Bool.eq_false_iff.2 (hn v (List.mem_of_getElem? hv))
    have h1:vs.set i v=vs:=by
     obtain ⟨hlt,rfl⟩:=List.getElem?_eq_some_iff.1 hv
     exact List.set_getElem_self hlt
    have h2:st'.fr.set t (V.tup vs)=st'.fr:=by
     by_cases ht:t<st'.fr.length
     ·have:V.tup vs=st'.fr[t]:=by rw [←hvs,←e,getS_eq (List.getElem?_eq_getElem ht)]
      rw [this]
      exact List.set_getElem_self ht
     ·exact List.set_eq_of_length_le (Nat.le_of_not_lt ht)
    rw [hd,h1,h2]
    rfl
   ·rfl
  ·rfl
 | _=>rfl
theorem dep_loadI {t:TypeId} {x:Operand} (ho:o.op=.load t x) (hk:kindV C f o st=.none) {st':St} (h:Like o st st'):vopc C vb f o st'=(vval C vb f o st).map (·,st'):=by
 have hx:=h.peek (x:=x) (by simp [ho,Op.operands])
 unfold kindV at hk
 rw [ho] at hk
 dsimp only at hk
 split at hk
 ·split at hk
  ·rcases condB_cases hk with ⟨_,hk⟩ | ⟨_,hk⟩<;>cases hk
  ·cases hk
 ·rename_i e off hp
  unfold vopc vval vop
  rw [ho]
  dsimp only
  rw [hx.1,hp]
  split
  ·dsimp only
   split
   ·split<;>rfl
   ·rfl
  ·rfl
 ·cases hk
theorem like_of (hl:nonlin o st=true) {st':St} (h:SameOn o st st'):Like o st st':=by
 refine ⟨h,fun x hx=>?_⟩
 unfold nonlin at hl
 rw [List.all_eq_true] at hl
 simpa using hl x hx
theorem nonlin_like {st':St} (h:Like o st st'):nonlin o st'=true:=by
 unfold nonlin
 rw [List.all_eq_true]
 intro x hx
 rw [(h.peek hx).1,h.2 x hx]
 rfl
theorem kindC_none {h2:List Blk} (hk:kindV C f o st=.none):kindC C f o st h2=.none:=by unfold kindC;rw [hk]
theorem kindC_rd {h2:List Blk} {id off n:Nat} (hk:kindV C f o st=.rd id off n):kindC C f o st h2=.rd id off n:=by unfold kindC;rw [hk]
theorem kindC_wr {h2:List Blk} {id off n:Nat} (hk:kindV C f o st=.wr id off n):kindC C f o st h2=.wr id off n:=by unfold kindC;rw [hk]
theorem kindC_al {b:Blk} (hk:kindV C f o st=.al):kindC C f o st (st.h++[b])=.al:=by
 unfold kindC
 rw [hk]
 dsimp only
 rw [if_neg (by simp)]
theorem kindC_any {h2:List Blk} (hk:kindV C f o st=.any) (ho:∀ c,o.op≠.call c):kindC C f o st h2=.any:=by
 unfold kindC
 rw [hk]
 dsimp only
 have:heapCall C o st=false:=by
  unfold heapCall
  split
  ·rename_i c hc;exact absurd hc (ho c)
  ·rfl
 rw [this]
 rfl
theorem useV_same {st2:St} {x:Operand} (h:st2.peek x=st.peek x):st2.useV x=st.useV x:=by unfold St.useV;rw [h]
theorem kind_like {st':St} {h2:List Blk} (h:SameOn o st st') (hc:HC (kindC C f o st h2) st.h st'.h):kindV C f o st'=kindV C f o st:=by
 cases ho:o.op with
 | load t x =>
  have hx:=h.peek x (by simp [ho,Op.operands])
  have hno:∀ c,o.op≠.call c:=fun c e=>by rw [ho] at e;cases e
  cases hk:kindV C f o st with
  | any=>rw [kindC_any hk hno] at hc;exact hc.elim
  | _ =>
   unfold kindC at hc
   rw [hk] at hc
   have hk':=hk
   unfold kindV at hk ⊢
   rw [ho] at hk ⊢
   dsimp only at hk ⊢
   rw [hx]
   split at hk
   ·rename_i id off hp
    (try rw [hp])
    (try dsimp only)
    split at hk
    ·rename_i cs e n hcs hsz
     have rg:Rng st.h st'.h id off n:=by
      rcases condB_cases hk with ⟨_,hk⟩ | ⟨_,hk⟩
      ·cases hk<;>exact hc
      ·cases hk<;>exact hc
     obtain ⟨cs1,cs2,e1,q1,q2,q3,q4⟩:=rg
     rw [hcs] at q1
     cases q1
     rw [q2,hsz]
     dsimp only
     rw [q4]
     exact hk
    ·cases hk
   ·rename_i e off hp
    (try rw [hp])
    exact hk
   ·cases hk
 | slice t x l m c =>
  have hx:=h.peek x (by simp [ho,Op.operands])
  have hno:∀ c,o.op≠.call c:=fun c e=>by rw [ho] at e;cases e
  cases hk:kindV C f o st with
  | any=>rw [kindC_any hk hno] at hc;exact hc.elim
  | _ =>
   unfold kindC at hc
   rw [hk] at hc
   unfold kindV at hk ⊢
   rw [ho] at hk ⊢
   dsimp only at hk ⊢
   rw [hx]
   split at hk
   ·rename_i id off len room hp
    (try rw [hp])
    (try dsimp only)
    split at hk
    ·rename_i cs e hcs
     cases hk<;>(
     obtain ⟨cs1,cs2,e1,q1,q2,q3,q4⟩:=hc
     rw [q2])
    ·cases hk
   ·exact hk
 | store t a x =>
  have hx:=h.peek a (by simp [ho,Op.operands])
  unfold kindV
  rw [ho]
  dsimp only
  rw [hx]
 | buildSlice t m parts =>
  have hin:∀ p∈parts.toList,p.2∈o.op.operands.toList:=by
   intro p hp
   simp only [ho,Op.operands]
   exact List.mem_map.2 ⟨p,hp,rfl⟩
  have e1:(parts.toList.map fun p=>st'.useV p.2)=parts.toList.map fun p=>st.useV p.2:=List.map_congr_left fun p hp=>useV_same (h.peek _ (hin p hp))
  unfold kindV
  rw [ho]
  dsimp only
  rw [e1]
 | call c =>
  unfold kindV
  rw [ho]
  dsimp only
  cases hb:c.callee with
  | value g =>
   have hg:=h.peek g (call_fn ho hb)
   have e1:c.args.toList.map st'.useV=c.args.toList.map st.useV:=map_useV (fun z hz=>useV_same (h.peek _ (call_args ho hz)))
   dsimp only
   rw [hg,e1]
  | builtin b =>
   cases b
   case append =>
    dsimp only
    cases hargs:c.args.toList with
    | nil=>rfl
    | cons s r =>
     dsimp only
     have hr:(r.any fun x=>isOwnV (st'.peek x))=r.any fun x=>isOwnV (st.peek x):=by
      rw [Bool.eq_iff_iff,List.any_eq_true,List.any_eq_true]
      constructor
      ·rintro ⟨x,hx,e⟩;exact ⟨x,hx,by rw [←h.peek x (call_args ho (by rw [hargs];simp [hx]))];exact e⟩
      ·rintro ⟨x,hx,e⟩;exact ⟨x,hx,by rw [h.peek x (call_args ho (by rw [hargs];simp [hx]))];exact e⟩
     rw [h.peek s (call_args ho (by rw [hargs];simp)),hr]
   all_goals rfl
  | invoke r m=>rfl
 | _=>unfold kindV;rw [ho]
theorem nonlin_same {st':St} (h:SameOn o st st'):nonlin o st'=nonlin o st:=by
 unfold nonlin
 rw [Bool.eq_iff_iff,List.all_eq_true,List.all_eq_true]
 exact ⟨fun hh x hx=>by rw [←h.peek x hx];exact hh x hx,fun hh x hx=>by rw [h.peek x hx];exact hh x hx⟩
theorem heapCall_same {st':St} (h:SameOn o st st'):heapCall C o st'=heapCall C o st:=by
 unfold heapCall
 cases ho:o.op with
 | call c =>
  dsimp only
  cases hb:c.callee with
  | value g =>
   dsimp only
   rw [h.peek g (call_fn ho hb),nonlin_same h,show c.args.toList.map st'.useV=c.args.toList.map st.useV from map_useV (fun z hz=>useV_same (h.peek _ (call_args ho hz)))]
  | _=>rfl
 | _=>rfl
theorem kindC_same {st':St} {h2:List Blk} {D:Blk} (h:SameOn o st st') (hc:HC (kindC C f o st h2) st.h st'.h) (hs:h2=effH (kindC C f o st h2) D st.h):kindC C f o st' (effH (kindC C f o st h2) D st'.h)=kindC C f o st h2:=by
 have hk:=kind_like h hc
 unfold kindC at hc hs ⊢
 rw [hk]
 cases hkk:kindV C f o st with
 | any =>
  rw [hkk] at hc hs
  dsimp only at hc hs ⊢
  split at hc
  ·rename_i hcc
   rw [if_pos hcc]
   have hc:st'.h=st.h:=hc
   have e:effH (Kd.cl st.h h2) D st'.h=h2:=rfl
   rw [e,heapCall_same h,hc,if_pos hcc]
  ·exact hc.elim
 | al =>
  rw [hkk] at hc hs
  dsimp only at hc hs ⊢
  by_cases hcc:(h2.length==st.h.length)=true
  ·rw [if_pos hcc]
   rw [if_pos (by simp [effH])]
  ·rw [if_neg hcc]
   rw [if_neg (by simp [effH])]
 | _=>rfl
def NF (C:Cx) (vb:FuncId→List V→List Blk→Option FOut) (f:FuncId) (o:Oper) (st:St) (v:V) (s:St) (K:Kd):Prop :=
 ∃ (D:Blk) (T:List (Nat×V)),s=⟨setAll T st.fr,effH K D st.h,st.df⟩∧Val K D st.h∧(∀ p∈T,Operand.tmp p.1∈o.op.operands.toList∧isLin3 (getS st.fr p.1)=true) ∧
  ∀ st2,SameOn o st st2→HC K st.h st2.h→vopc C vb f o st2=some (v,⟨setAll T st2.fr,effH K D st2.h,st2.df⟩)
theorem nf_none {v:V} {s:St} (hk:kindV C f o st=.none) (hl:nonlin o st=true) (h:vopc C vb f o st=some (v,s)) (dep:∀ st',Like o st st'→vopc C vb f o st'=(vval C vb f o st).map (·,st')) :
  NF C vb f o st v s (kindC C f o st s.h):=by
 rw [kindC_none hk]
 rw [dep st (like_of hl (SameOn.refl o st))] at h
 obtain ⟨v',hv,e⟩:=Option.map_eq_some_iff.1 h
 cases e
 refine ⟨.dead,[],rfl,trivial,by simp,fun st2 hs _=>?_⟩
 rw [dep st2 (like_of hl hs),hv]
 rfl
theorem nf_load {t:TypeId} {x:Operand} (ho:o.op=.load t x) {v:V} {s:St} (hl:nonlin o st=true) (hk:kindC C f o st s.h≠.any) (h:vopc C vb f o st=some (v,s)):NF C vb f o st v s (kindC C f o st s.h):=by
 have hno:∀ c,o.op≠.call c:=fun c e=>by rw [ho] at e;cases e
 have hkd:kindV C f o st=match st.peek x with
  | .ptr id off=>match st.h[id]?,sizeT C.P t with
   | some (.cells cs _),some n=>condB ((C.tr f).contains (o.dst.getD 0)||((cs.drop off).take n).any isLin1) (.wr id off n) (.rd id off n)
   | _,_=>.any
  | .iptr ..=>.none
  | _=>.any:=by unfold kindV;rw [ho];rfl
 cases hp:st.peek x with
 | iptr e off =>
  have hk0:kindV C f o st=.none:=by rw [hkd,hp]
  exact nf_none hk0 hl h (fun _ hlk=>dep_loadI ho hk0 hlk)
 | ptr id off =>
  rw [hp] at hkd
  dsimp only at hkd
  cases hcs:st.h[id]? with
  | none=>rw [hcs] at hkd;exact absurd (kindC_any hkd hno) hk
  | some b =>
   cases b with
   | cells cs e =>
    cases hsz:sizeT C.P t with
    | none=>rw [hcs,hsz] at hkd;exact absurd (kindC_any hkd hno) hk
    | some n =>
     rw [hcs,hsz] at hkd
     dsimp only at hkd
     unfold vopc vop at h
     rw [ho] at h
     dsimp only at h
     rw [hsz,hp] at h
     split at h
     ·rename_i g n' hg hn'
      cases hn'
      dsimp only at h
      rw [hcs] at h
      dsimp only at h
      split at h
      ·rename_i hlen
       split at h
       ·rename_i d hd
        rw [hd,Option.getD_some] at hkd
        have again:∀ (st2:St) (F:V→V) (w:Bool) (v:V),SameOn o st st2→Rng st.h st2.h id off n→(if (C.tr f).contains d=true then (F=drop1∧w=true∧ofCells g ((cs.drop off).take n)=some v) else (F=mark1∧w=((cs.drop off).take n).any isLin1∧ofCells g (((cs.drop off).take n).map demote1)=some v)) →
          vopc C vb f o st2=some (v,⟨st2.fr,condB w (effH (.wr id off n) (.cells (((cs.drop off).take n).map F) e) st2.h) st2.h,st2.df⟩):=by
         intro st2 F w v hs hr hF
         obtain ⟨cs1,cs2,e1,q1,q2,q3,q4⟩:=hr
         rw [hcs] at q1
         cases q1
         unfold vopc vop
         rw [ho]
         dsimp only
         rw [hsz,hg,hs.peek x (by simp [ho,Op.operands]),hp]
         dsimp only
         rw [q2]
         dsimp only
         rw [q3,if_pos hlen,hd,q4]
         dsimp only
         unfold effH dcells
         dsimp only
         rw [q2]
         dsimp only
         by_cases htr:(C.tr f).contains d=true
         ·rw [if_pos htr] at hF ⊢
          obtain ⟨rfl,rfl,hF⟩:=hF
          rw [hF,condB_true]
         ·rw [if_neg htr] at hF ⊢
          obtain ⟨rfl,rfl,hF⟩:=hF
          rw [hF]
          dsimp only
          cases ((cs.drop off).take n).any isLin1
          ·rw [condB_false,condB_false]
          ·rw [condB_true,condB_true]
        have hlen2:∀ F:V→V,(((cs.drop off).take n).map F).length=n:=fun F=>by simp;omega
        split at h
        ·rename_i htr
         rw [htr,Bool.true_or,condB_true] at hkd
         rw [kindC_wr hkd]
         split at h
         ·rename_i v' hv'
          cases h
          refine ⟨.cells (((cs.drop off).take n).map drop1) e,[],?_,⟨cs,e,hcs,hlen,hlen2 _⟩,by simp,fun st2 hs hc=>?_⟩
          ·rw [effH_wr hcs];rfl
          ·have:=again st2 drop1 true v hs hc (by rw [if_pos htr];exact ⟨rfl,rfl,hv'⟩)
           rw [condB_true] at this
           exact this
         ·cases h
        ·rename_i htr
         have htr':(C.tr f).contains d=false:=by simpa using htr
         rw [htr',Bool.false_or] at hkd
         split at h
         ·rename_i v' hv'
          rcases condB_cases h with ⟨hb,h⟩ | ⟨hb,h⟩
          ·rw [hb,condB_true] at hkd
           rw [kindC_wr hkd]
           cases h
           refine ⟨.cells (((cs.drop off).take n).map mark1) e,[],?_,⟨cs,e,hcs,hlen,hlen2 _⟩,by simp,fun st2 hs hc=>?_⟩
           ·rw [effH_wr hcs];rfl
           ·have:=again st2 mark1 true v hs hc (by rw [if_neg htr];exact ⟨rfl,hb.symm,hv'⟩)
            rw [condB_true] at this
            exact this
          ·rw [hb,condB_false] at hkd
           rw [kindC_rd hkd]
           cases h
           refine ⟨.dead,[],rfl,⟨cs,e,hcs,hlen⟩,by simp,fun st2 hs hc=>?_⟩
           have:=again st2 mark1 false v hs hc (by rw [if_neg htr];exact ⟨rfl,hb.symm,hv'⟩)
           rw [condB_false] at this
           exact this
         ·cases h
       ·cases h
      ·cases h
     ·cases h
   | _=>rw [hcs] at hkd;exact absurd (kindC_any hkd hno) hk
 | _=>rw [hp] at hkd;exact absurd (kindC_any hkd hno) hk
theorem nf_slice {t:TypeId} {x:Operand} {lo hi mx:Option Operand} (ho:o.op=.slice t x lo hi mx) {v:V} {s:St} (hl:nonlin o st=true) (hk:kindC C f o st s.h≠.any) (h:vopc C vb f o st=some (v,s)):NF C vb f o st v s (kindC C f o st s.h):=by
 have hno:∀ c,o.op≠.call c:=fun c e=>by rw [ho] at e;cases e
 by_cases hp:∃ i j l r,st.peek x=.own i j l r
 ·obtain ⟨id,off,len,room,hp⟩:=hp
  have hkd:kindV C f o st=match st.h[id]? with
   | some (.cells ..)=>.rd id 0 0
   | _=>.any:=by unfold kindV;rw [ho];dsimp only;rw [hp];rfl
  split at hkd
  ·rename_i cs e hcs
   rw [kindC_rd hkd]
   have comp:∀ st2,SameOn o st st2→Rng st.h st2.h id 0 0→vopc C vb f o st2=(vval C vb f o st).map (·,st2):=by
    intro st2 hs hr
    obtain ⟨cs1,cs2,e1,q1,q2,q3,q4⟩:=hr
    have hsz:ownSz C.P st2.h id=ownSz C.P st.h id:=by unfold ownSz;rw [q1,q2]
    have e1:lo.map st2.peek=lo.map st.peek:=by
     cases lo with
     | none=>rfl
     | some y=>exact congrArg some (hs.peek y (by simp [ho,Op.operands]))
    have e2:hi.map st2.peek=hi.map st.peek:=by
     cases hi with
     | none=>rfl
     | some y=>exact congrArg some (hs.peek y (by simp [ho,Op.operands]))
    have e3:mx.map st2.peek=mx.map st.peek:=by
     cases mx with
     | none=>rfl
     | some y=>exact congrArg some (hs.peek y (by simp [ho,Op.operands]))
    unfold vopc vval vop
    rw [ho]
    dsimp only
    rw [e1,e2,e3,hs.peek x (by simp [ho,Op.operands]),hp]
    dsimp only
    rw [hsz]
    split
    ·split
     ·rfl
     ·simp only [map_condB,Option.map_some,Option.map_none]
    ·rfl
   have hr0:Rng st.h st.h id 0 0:=⟨cs,cs,e,hcs,hcs,rfl,rfl⟩
   rw [comp st (SameOn.refl o st) hr0] at h
   obtain ⟨v',hv,e'⟩:=Option.map_eq_some_iff.1 h
   cases e'
   refine ⟨.dead,[],rfl,⟨cs,e,hcs,by omega⟩,by simp,fun st2 hs hc=>?_⟩
   rw [comp st2 hs hc,hv]
   rfl
  ·exact absurd (kindC_any hkd hno) hk
 ·have hp':∀ i j l r,st.peek x≠.own i j l r:=fun i j l r e=>hp ⟨i,j,l,r,e⟩
  have hk0:kindV C f o st=.none:=by
   unfold kindV;rw [ho];dsimp only
   split
   ·rename_i e;exact absurd e (hp' _ _ _ _)
   ·rfl
  exact nf_none hk0 hl h (fun _ hlk=>dep_slice ho hp' hlk)
end
end Go.Fw
namespace Go.Fw
open Go.RowKit
theorem buildV_takes {P:Program} {t:TypeId}:∀ {parts:List (Nat×Operand)} {cs:List V} {st:St} {q:List V×St},buildV P t st cs parts=some q →
  ∃ T:List (Nat×V),q.2=upd T st∧(∀ p∈T,Operand.tmp p.1∈parts.map (·.2)∧isLin3 (getS st.fr p.1)=true)∧∀ st2:St,(∀ p∈parts,st2.peek p.2=st.peek p.2)→buildV P t st2 cs parts=some (q.1,upd T st2)
 | [],cs,st,q,h=>by
  unfold buildV at h
  cases h
  exact ⟨[],rfl,by simp,fun st2 _=>rfl⟩
 | (i,x)::r,cs,st,q,h=>by
  unfold buildV at h
  split at h
  ·rename_i g hg
   split at h
   ·rename_i n hn
    split at h
    ·rename_i hc
     obtain ⟨T,h1,h2,h3⟩:=buildV_takes h
     have e0:=takeS_upd (st:=st) (st2:=st) (x:=x) rfl
     rw [e0] at h1 h2
     refine ⟨takeL st x++T,by rw [h1,upd_upd],fun p hp=>?_,fun st2 hs=>?_⟩
     ·rcases List.mem_append.1 hp with hp | hp
      ·obtain ⟨e,hl⟩:=takeL_mem hp
       rw [e] at hl
       exact ⟨by simp [e],hl⟩
      ·have:=h2 p hp
       exact ⟨by simp only [List.map_cons,List.mem_cons];exact .inr this.1,lin_back (x:=x) (takeL_form st x) this.2⟩
     ·have hx:=hs (i,x) (by simp)
      dsimp only at hx
      unfold buildV
      rw [hg]
      dsimp only
      rw [hn]
      dsimp only
      rw [hx,if_pos hc,takeS_upd hx,←upd_upd]
      refine h3 _ (fun p hp=>?_)
      rw [e0]
      exact peek_upd hx (hs p (by simp [hp]))
    ·cases h
   ·cases h
  ·cases h
section
variable {C:Cx} {vb:FuncId→List V→List Blk→Option FOut} {f:FuncId} {o:Oper} {st:St}
theorem nf_alloc {t:TypeId} (ho:o.op=.alloc t) {v:V} {s:St} (h:vopc C vb f o st=some (v,s)):NF C vb f o st v s (kindC C f o st s.h):=by
 have hk:kindV C f o st=.al:=by unfold kindV;rw [ho]
 unfold vopc vop at h
 rw [ho] at h
 dsimp only at h
 split at h
 ·rename_i z hz
  split at h
  ·rename_i hz2
   cases h
   rw [show kindC C f o st (St.h {st with h:=st.h++[.cells z.cells t]})=.al from kindC_al hk]
   refine ⟨.cells z.cells t,[],rfl,trivial,by simp,fun st2 hs hc=>?_⟩
   have hc:st2.h.length=st.h.length:=hc
   unfold vopc vop
   rw [ho]
   dsimp only
   rw [hz]
   dsimp only
   rw [if_pos hz2,hc]
   rfl
  ·cases h
 ·cases h
theorem nf_box {t:TypeId} {x:Operand} (ho:o.op=.box t x) {v:V} {s:St} (hl:nonlin o st=true) (h:vopc C vb f o st=some (v,s)):NF C vb f o st v s (kindC C f o st s.h):=by
 have hk:kindV C f o st=.al:=by unfold kindV;rw [ho]
 have hx0:=(like_of hl (SameOn.refl o st)).peek (x:=x) (by simp [ho,Op.operands])
 unfold vopc vop at h
 rw [ho] at h
 dsimp only at h
 rw [hx0.2.2.1] at h
 split at h
 ·rename_i hz2
  cases h
  rw [show kindC C f o st (St.h {st with h:=st.h++[.cells (st.peek x).cells t]})=.al from kindC_al hk]
  refine ⟨.cells (st.peek x).cells t,[],rfl,trivial,by simp,fun st2 hs hc=>?_⟩
  have hx2:=(like_of hl hs).peek (x:=x) (by simp [ho,Op.operands])
  have hc:st2.h.length=st.h.length:=hc
  unfold vopc vop
  rw [ho]
  dsimp only
  rw [hx2.1,if_pos hz2,hx2.2.2.1,hc]
  rfl
 ·cases h
theorem nf_bslice {t:TypeId} {m:Nat} {parts:Array (Nat×Operand)} (ho:o.op=.buildSlice t m parts) {v:V} {s:St} (hl:nonlin o st=true) (h:vopc C vb f o st=some (v,s)):NF C vb f o st v s (kindC C f o st s.h):=by
 have hkk:kindV C f o st=condB ((parts.toList.map fun p=>st.useV p.2).all flat2) .none .al:=by unfold kindV;rw [ho]
 cases hf:(parts.toList.map fun p=>st.useV p.2).all flat2 with
 | true =>
  rw [hf,condB_true] at hkk
  exact nf_none hkk hl h (fun st' hlk=>dep_bslice ho hf hlk)
 | false =>
  rw [hf,condB_false] at hkk
  have hin:∀ p∈parts.toList,p.2∈o.op.operands.toList:=by
   intro p hp
   simp only [ho,Op.operands]
   exact List.mem_map.2 ⟨p,hp,rfl⟩
  have l0:=like_of hl (SameOn.refl o st)
  have e2:∀ st',Like o st st'→st'.useAll (parts.toList.map (·.2))=st':=fun st' h=>useAll_id (fun z hz=>by
   obtain ⟨p,hp,rfl⟩:=List.mem_map.1 hz
   rw [(h.peek (hin p hp)).1];exact h.2 _ (hin p hp))
  unfold vopc vop at h
  rw [ho] at h
  dsimp only at h
  split at h
  ·rename_i e he
   split at h
   ·rename_i a sz ha hsz
    split at h
    ·rename_i hc1
     split at h
     ·rename_i hc2
      rw [e2 st l0] at h
      split at h
      ·rename_i hc3;rw [hf] at hc3;cases hc3
      ·rename_i hc3
       cases h
       rw [show kindC C f o st (St.h {st with h:=st.h++[_]})=.al from kindC_al hkk]
       refine ⟨_,[],rfl,trivial,by simp,fun st2 hs hc=>?_⟩
       have hc:st2.h.length=st.h.length:=hc
       have h:=like_of hl hs
       have e1:(parts.toList.map fun p=>st2.useV p.2)=parts.toList.map fun p=>st.useV p.2:=List.map_congr_left fun p hp=>(h.peek (hin p hp)).2.2.2.trans (l0.peek (hin p hp)).2.2.2.symm
       unfold vopc vop
       rw [ho]
       dsimp only
       rw [he]
       dsimp only
       rw [ha,hsz]
       dsimp only
       rw [if_pos hc1,e1,if_pos hc2,if_neg hc3,e2 st2 h,hc]
       rfl
     ·cases h
    ·cases h
   ·cases h
  ·cases h
theorem nf_make {t:TypeId} {x y:Operand} (ho:o.op=.makeSlice t x y) {v:V} {s:St} (hk:kindC C f o st s.h≠.any) (hl:nonlin o st=true) (h:vopc C vb f o st=some (v,s)):NF C vb f o st v s (kindC C f o st s.h):=by
 have hno:∀ c,o.op≠.call c:=fun c e=>by rw [ho] at e;cases e
 have hk:kindV C f o st≠.any:=fun e=>hk (kindC_any e hno)
 by_cases hn:kindV C f o st=.none
 ·exact nf_none hn hl h (fun st' hlk=>dep_make ho hn hlk)
 ·have hkk:kindV C f o st=.al∧∀ z,(elemT C.P t).bind (zeroT C.P)=some z→¬(flat2 z=true∧(!((C.thaw f).contains (o.dst.getD 0)))=true):=by
   unfold kindV at hn hk ⊢
   rw [ho] at hn hk ⊢
   dsimp only at hn hk ⊢
   split at hn
   ·rename_i hth
    rw [if_pos hth]
    exact ⟨rfl,fun z _ hh=>by rw [hth] at hh;simp at hh⟩
   ·rename_i hth
    rw [if_neg hth] at hk ⊢
    split at hn
    ·rename_i z hz
     rw [hz] at hk ⊢
     dsimp only at hk ⊢
     split at hn
     ·exact absurd rfl hn
     ·rename_i hfl
      rw [if_neg hfl] at hk ⊢
      exact ⟨rfl,fun z' hz' hh=>by cases hz';exact hfl hh.1⟩
    ·rename_i hz
     rw [hz] at hk
     exact absurd rfl hk
  obtain ⟨hkk,hnf⟩:=hkk
  have hx0:=(like_of hl (SameOn.refl o st)).peek (x:=x) (by simp [ho,Op.operands])
  unfold vopc vop at h
  rw [ho] at h
  dsimp only at h
  split at h
  ·rename_i e he
   split at h
   ·rename_i sz by_ z k1 n k2 m hsz hby hz hpx hpy
    rcases condB_cases h with ⟨hcond,h⟩ | ⟨_,h⟩
    ·have hnf:=hnf z (by rw [he];exact hz)
     rw [if_neg hnf] at h
     cases h
     rw [show kindC C f o st (St.h {st with h:=st.h++[_]})=.al from kindC_al hkk]
     refine ⟨_,[],rfl,trivial,by simp,fun st2 hs hc=>?_⟩
     have hc:st2.h.length=st.h.length:=hc
     have hx2:=(like_of hl hs).peek (x:=x) (by simp [ho,Op.operands])
     have hy2:=(like_of hl hs).peek (x:=y) (by simp [ho,Op.operands])
     unfold vopc vop
     rw [ho]
     dsimp only
     rw [he]
     dsimp only
     rw [hsz,hby,hz,hx2.1,hy2.1,hpx,hpy]
     dsimp only
     rw [hcond,condB_true,if_neg hnf,hc]
     rfl
    ·cases h
   ·cases h
  ·cases h
theorem nf_call {c:Call} {g:Operand} (ho:o.op=.call c) (hb:c.callee=.value g) {v:V} {s:St} (hk:kindC C f o st s.h≠.any) (hl:nonlin o st=true) (h:vopc C vb f o st=some (v,s)):NF C vb f o st v s (kindC C f o st s.h):=by
 have l0:=like_of hl (SameOn.refl o st)
 have e2:∀ st',Like o st st'→st'.useAll c.args.toList=st':=fun st' h=>useAll_id (fun z hz=>by rw [(h.peek (call_args ho hz)).1];exact h.2 _ (call_args ho hz))
 have e1:∀ st2,SameOn o st st2→c.args.toList.map st2.useV=c.args.toList.map st.useV:=fun st2 hs=>map_useV (fun z hz=>useV_same (hs.peek _ (call_args ho hz)))
 by_cases hn:kindV C f o st=.none
 ·exact nf_none hn hl h (fun st' hlk=>dep_call ho hb hn hlk)
 have hkd:kindV C f o st=match st.peek g with
   | .fn (.func g) first caps=>condB ((first++(c.args.toList.map st.useV)++caps).all flat2&&!C.heapy g) (match o.dst with | some d=>if (C.thaw f).contains d then .al else .none | none=>.none) .any
   | _=>.any:=by unfold kindV;rw [ho];dsimp only;rw [hb];rfl
 by_cases hg:∃ gf first caps,st.peek g=.fn (.func gf) first caps
 ·obtain ⟨gf,first,caps,hg⟩:=hg
  rw [hg] at hkd
  dsimp only at hkd
  unfold vopc vop at h
  rw [ho] at h
  dsimp only at h
  rw [hb] at h
  dsimp only at h
  rw [hg] at h
  dsimp only at h
  by_cases hyb:yBase≤gf
  ·rw [if_pos hyb] at h;cases h
  rw [if_neg hyb] at h
  cases hfl:((first++c.args.toList.map st.useV++caps).all flat2&&!C.heapy gf) with
  | true =>
   rw [hfl,condB_true] at hkd
   rw [if_pos hfl] at h
   obtain ⟨r,hr,h⟩:=bindO_eq h
   cases hd:o.dst with
   | none=>rw [hd] at hkd;exact absurd hkd hn
   | some d =>
    rw [hd] at hkd
    dsimp only at hkd
    by_cases hth:(C.thaw f).contains d=true
    ·rw [if_pos hth] at hkd
     cases r with
     | pan v hh=>cases h
     | ret v' hh =>
      dsimp only at h
      rw [hd] at h
      dsimp only at h
      rw [if_pos hth,e2 st l0] at h
      split at h
      ·rename_i v2 h2 hth2
       rcases condB_cases h with ⟨_,h⟩ | ⟨hfree,h⟩
       ·cases h
       ·cases h
        have comp:∀ st2 v3 h3,SameOn o st st2→thaw1 C.P st2.h ((elemT C.P o.type).getD 0) v'=some (v3,h3)→vopc C vb f o st2=some (v3,⟨st2.fr,h3,st2.df⟩):=by
         intro st2 v3 h3 hs ht
         have l2:=like_of hl hs
         unfold vopc vop
         rw [ho]
         dsimp only
         rw [hb]
         dsimp only
         rw [hs.peek g (call_fn ho hb),hg]
         dsimp only
         rw [if_neg hyb,e1 st2 hs,if_pos hfl,hr,bindO_some]
         dsimp only
         rw [hd]
         dsimp only
         rw [if_pos hth,e2 st2 l2,ht]
         dsimp only
         rw [hs.dst d hd,hfree,condB_false]
        rcases thaw1_cases hth2 with ⟨n,xs,rfl,hsz,rfl,rfl⟩ | ⟨rfl,rfl,hnl⟩
        ·rw [show kindC C f o st (St.h {st with h:=st.h++[_]})=.al from kindC_al hkd]
         refine ⟨_,[],rfl,trivial,by simp,fun st2 hs hc=>?_⟩
         have hc:st2.h.length=st.h.length:=hc
         refine comp st2 _ _ hs ?_
         unfold thaw1
         dsimp only
         rw [if_pos ⟨rfl,hsz⟩,hc]
         rfl
        ·have e:kindC C f o st (St.h {st with h:=st.h})=.none:=by
          unfold kindC
          rw [hkd]
          dsimp only
          rw [if_pos (by simp)]
         rw [e]
         refine ⟨.dead,[],rfl,trivial,by simp,fun st2 hs hc=>comp st2 _ _ hs ?_⟩
         unfold thaw1 at hth2 ⊢
         split at hth2
         ·exact absurd rfl (hnl _ _ _ _)
         ·rfl
         ·rfl
         ·cases hth2
      ·cases h
    ·rw [if_neg hth] at hkd
     exact absurd hkd hn
  | false =>
   rw [hfl,condB_false] at hkd
   rw [if_neg (by rw [hfl];simp)] at h
   obtain ⟨r,hr,h⟩:=bindO_eq h
   cases r with
   | pan v hh =>
    dsimp only at h
    rcases condB_cases h with ⟨_,h⟩ | ⟨_,h⟩<;>cases h
   | ret v' hh =>
    dsimp only at h
    rw [e2 st l0] at hr h
    rcases condB_cases h with ⟨hdk,h⟩ | ⟨_,h⟩
    ·cases h
     have hk':=hk
     unfold kindC at hk' ⊢
     rw [hkd] at hk' ⊢
     dsimp only at hk' ⊢
     split at hk'
     ·rename_i hcc
      rw [if_pos hcc]
      rw [Bool.and_eq_true] at hcc
      refine ⟨.dead,[],rfl,⟨rfl,by simpa using hcc.2⟩,by simp,fun st2 hs hc=>?_⟩
      have hc:st2.h=st.h:=hc
      have l2:=like_of hl hs
      unfold vopc vop
      rw [ho]
      dsimp only
      rw [hb]
      dsimp only
      rw [hs.peek g (call_fn ho hb),hg]
      dsimp only
      rw [if_neg hyb,e1 st2 hs,if_neg (by rw [hfl];simp),e2 st2 l2,hc,hr,bindO_some]
      dsimp only
      rw [hs.df,hdk,condB_true]
      rfl
     ·exact absurd rfl hk'
    ·cases h
 ·exfalso
  have hg':∀ gf first caps,st.peek g≠.fn (.func gf) first caps:=fun a b c e=>hg ⟨a,b,c,e⟩
  split at hkd
  ·rename_i e;exact absurd e (hg' _ _ _)
  ·refine hk ?_
   unfold kindC
   rw [hkd]
   dsimp only
   have:heapCall C o st=false:=by
    unfold heapCall
    rw [ho]
    dsimp only
    rw [hb]
    dsimp only
    split
    ·rename_i e;exact absurd e (hg' _ _ _)
    ·rfl
   rw [this]
   rfl
end
end Go.Fw
namespace Go.Fw
open Go.RowKit
section
variable {C:Cx} {vb:FuncId→List V→List Blk→Option FOut} {f:FuncId} {o:Oper} {st:St}
theorem nft_build {t:TypeId} {parts:Array (Nat×Operand)} (ho:o.op=.build t parts) {v:V} {s:St} (h:vopc C vb f o st=some (v,s)):NF C vb f o st v s (kindC C f o st s.h):=by
 rw [kindC_none (show kindV C f o st=.none by unfold kindV;rw [ho])]
 unfold vopc vop at h
 rw [ho] at h
 dsimp only at h
 split at h
 ·rename_i zs hz
  split at h
  ·rename_i hc
   split at h
   ·rename_i cs st' hb
    cases h
    obtain ⟨T,h1,h2,h3⟩:=buildV_takes hb
    refine ⟨.dead,T,h1,trivial,fun p hp=>⟨?_,(h2 p hp).2⟩,fun st2 hs _=>?_⟩
    ·simp only [ho,Op.operands]
     have:=(h2 p hp).1
     simpa using this
    ·have:=h3 st2 (fun p hp=>hs.peek p.2 (by simp only [ho,Op.operands];exact List.mem_map.2 ⟨p,hp,rfl⟩))
     unfold vopc vop
     rw [ho]
     dsimp only
     rw [hz]
     dsimp only
     rw [if_pos hc,this]
     rfl
   ·cases h
  ·cases h
 ·cases h
theorem nft_store {t:TypeId} {a x:Operand} (ho:o.op=.store t a x) {v:V} {s:St} (h:vopc C vb f o st=some (v,s)):NF C vb f o st v s (kindC C f o st s.h):=by
 have ha:a∈o.op.operands.toList:=by simp [ho,Op.operands]
 have hx:x∈o.op.operands.toList:=by simp [ho,Op.operands]
 have hkd:kindV C f o st=match st.peek a,sizeT C.P t with
  | .ptr id off,some n=>.wr id off n
  | _,_=>.any:=by unfold kindV;rw [ho];rfl
 unfold vopc vop at h
 rw [ho] at h
 dsimp only at h
 split at h
 ·rename_i n hn
  have hdst:o.dst=none:=by
   split at hn
   ·assumption
   ·cases hn
  rw [if_pos hdst] at hn
  split at h
  ·rename_i id off hp
   split at h
   ·rename_i cs e hcs
    split at h
    ·rename_i hc
     cases h
     rw [hp,hn] at hkd
     dsimp only at hkd
     rw [kindC_wr hkd]
     refine ⟨.cells (st.peek x).cells e,takeL st x,?_,⟨cs,e,hcs,hc.2.2,hc.2.1⟩,fun p hp=>?_,fun st2 hs hcc=>?_⟩
     ·rw [effH_wr hcs,takeS_upd (st:=st) rfl]
      rfl
     ·obtain ⟨e1,hl⟩:=takeL_mem hp
      rw [e1] at hl
      exact ⟨e1 ▸ hx,hl⟩
     ·obtain ⟨cs1,cs2,e1,q1,q2,q3,q4⟩:=hcc
      rw [hcs] at q1
      cases q1
      unfold vopc vop
      rw [ho]
      dsimp only
      rw [if_pos hdst,hn]
      dsimp only
      rw [hs.peek a ha,hp]
      dsimp only
      rw [q2]
      dsimp only
      rw [hs.peek x hx,q3,if_pos hc,takeS_upd (hs.peek x hx),effH_wr q2]
      rfl
    ·cases h
   ·cases h
  ·cases h
 ·cases h
theorem nft_move {x:Operand} (ho:o.op=.move x) {v:V} {s:St} (h:vopc C vb f o st=some (v,s)):NF C vb f o st v s (kindC C f o st s.h):=by
 have hx:x∈o.op.operands.toList:=by simp [ho,Op.operands]
 rw [kindC_none (show kindV C f o st=.none by unfold kindV;rw [ho])]
 have hT:∀ p∈takeL st x,Operand.tmp p.1∈o.op.operands.toList∧isLin3 (getS st.fr p.1)=true:=fun p hp=>by
  obtain ⟨e1,hl⟩:=takeL_mem hp
  rw [e1] at hl
  exact ⟨e1 ▸ hx,hl⟩
 have hU:∀ p∈useL st x,Operand.tmp p.1∈o.op.operands.toList∧isLin3 (getS st.fr p.1)=true:=fun p hp=>by
  obtain ⟨e1,hl⟩:=useL_mem hp
  rw [e1] at hl
  exact ⟨e1 ▸ hx,hl⟩
 have comp:∃ v T,(∀ p∈T,Operand.tmp p.1∈o.op.operands.toList∧isLin3 (getS st.fr p.1)=true)∧∀ st2,SameOn o st st2→vopc C vb f o st2=some (v,upd T st2):=by
  unfold vopc vop at h
  rw [ho] at h
  dsimp only at h
  split at h
  ·rename_i d hd
   split at h
   ·rename_i vs hvs
    refine ⟨.tup vs,takeL st x,hT,fun st2 hs=>?_⟩
    unfold vopc vop
    rw [ho]
    dsimp only
    rw [hd]
    dsimp only
    rw [hs.peek x hx,hvs]
    dsimp only
    rw [takeS_upd (hs.peek x hx)]
   ·rename_i hno
    split at h
    ·rename_i htr
     refine ⟨st.peek x,takeL st x,hT,fun st2 hs=>?_⟩
     unfold vopc vop
     rw [ho]
     dsimp only
     rw [hd]
     dsimp only
     rw [hs.peek x hx]
     split
     ·rename_i vs hvs;exact absurd hvs (hno vs)
     ·rw [if_pos htr,takeS_upd (hs.peek x hx)]
    ·rename_i htr
     refine ⟨map3 demote1 (st.peek x),useL st x,hU,fun st2 hs=>?_⟩
     unfold vopc vop
     rw [ho]
     dsimp only
     rw [hd]
     dsimp only
     rw [hs.peek x hx]
     split
     ·rename_i vs hvs;exact absurd hvs (hno vs)
     ·rw [if_neg htr,useS_upd (hs.peek x hx)]
  ·cases h
 obtain ⟨v',T,hT,hc⟩:=comp
 rw [hc st (SameOn.refl o st)] at h
 cases h
 exact ⟨.dead,T,rfl,trivial,hT,fun st2 hs _=>hc st2 hs⟩
theorem mark1_shared {v:V} (h:priv1 v=false):mark1 v=v:=by
 cases v<;>first | rfl | skip
 rename_i p e n xs
 cases p
 ·rfl
 ·cases h
theorem mark2_shared {v:V} (h:priv2 v=false):map2 mark1 v=v:=by
 cases v with
 | agg vs =>
  have h:vs.any priv1=false:=h
  rw [List.any_eq_false] at h
  have:vs.map mark1=vs:=by
   have:=List.map_congr_left (f:=mark1) (g:=id) (l:=vs) (fun x hx=>mark1_shared (by simpa using h x hx))
   rw [this,List.map_id]
  change V.agg (vs.map mark1)=V.agg vs
  rw [this]
 | lin p e n xs=>exact mark1_shared h
 | _=>rfl
theorem mark3_shared {v:V} (h:priv3 v=false):map3 mark1 v=v:=by
 cases v with
 | tup vs=>cases h
 | agg vs=>exact mark2_shared (v:=.agg vs) h
 | lin p e n xs=>exact mark2_shared (v:=.lin p e n xs) h
 | _=>rfl
theorem nf_copies {tr:List Nat} (hl:copies tr o st=true) (htr:tr=C.tr f) {v:V} {s:St} (h:vopc C vb f o st=some (v,s)):∃ D,s=⟨st.fr,effH (kindC C f o st s.h) D st.h,st.df⟩∧Val (kindC C f o st s.h) D st.h∧∀ st2,SameOn o st st2→HC (kindC C f o st s.h) st.h st2.h→vopc C vb f o st2=some (v,⟨st2.fr,effH (kindC C f o st s.h) D st2.h,st2.df⟩):=by
 subst htr
 unfold copies at hl
 split at hl
 ·rename_i x d ho hd
  rw [Bool.and_eq_true] at hl
  obtain ⟨hd1,hp⟩:=hl
  have hd1:¬(C.tr f).contains d=true:=by simpa using hd1
  have hp:priv3 (st.peek x)=false:=by simpa using hp
  rw [kindC_none (show kindV C f o st=.none by unfold kindV;rw [ho])]
  have hx:x∈o.op.operands.toList:=by simp [ho,Op.operands]
  have comp:∀ st2,SameOn o st st2→vopc C vb f o st2=some (map3 demote1 (st.peek x),st2):=by
   intro st2 hs
   unfold vopc vop
   rw [ho]
   dsimp only
   rw [hd]
   dsimp only
   rw [hs.peek x hx]
   split
   ·rename_i vs hvs
    rw [hvs] at hp
    cases hp
   ·rw [if_neg hd1]
    have:st2.useS x=st2:=by
     cases x with
     | tmp t =>
      have e:getS st2.fr t=getS st.fr t:=hs.peek (.tmp t) hx
      unfold St.useS
      dsimp only
      have hp':priv3 (getS st2.fr t)=false:=by rw [e];exact hp
      cases hlin:isLin3 (getS st2.fr t) with
      | false=>rw [condB_false]
      | true =>
       rw [condB_true,mark3_shared hp']
       have hlt:=lin_lt hlin
       have:st2.fr.set t (getS st2.fr t)=st2.fr:=by
        rw [getS_eq (List.getElem?_eq_getElem hlt)]
        exact List.set_getElem_self hlt
       rw [this]
     | _=>rfl
    rw [this]
  rw [comp st (SameOn.refl o st)] at h
  cases h
  exact ⟨.dead,rfl,trivial,fun st2 hs _=>comp st2 hs⟩
 ·cases hl
theorem nft_append {c:Call} (ho:o.op=.call c) (hb:c.callee=.builtin .append) {v:V} {s:St} (hk:kindC C f o st s.h≠.any) (h:vopc C vb f o st=some (v,s)):NF C vb f o st v s (kindC C f o st s.h):=by
 have hk0:kindV C f o st≠.any:=by
  intro e
  apply hk
  unfold kindC
  rw [e]
  dsimp only
  have:heapCall C o st=false:=by unfold heapCall;rw [ho];dsimp only;rw [hb]
  rw [this]
  rfl
 obtain ⟨d,hd,hno⟩:=append_none ho hb hk0
 have hk1:kindV C f o st=.none:=by
  unfold kindV at hk0 ⊢
  rw [ho] at hk0 ⊢
  dsimp only at hk0 ⊢
  rw [hb] at hk0 ⊢
  dsimp only at hk0 ⊢
  (repeat' split)<;>first | rfl | (exfalso;simp_all;done)
 rw [kindC_none hk1]
 unfold vopc vop at h
 rw [ho] at h
 dsimp only at h
 rw [hb] at h
 dsimp only at h
 split at h
 ·rename_i sl x t tx hsx htt
  obtain ⟨hn1,hn2⟩:=hno sl x hsx
  have hxin:x∈o.op.operands.toList:=call_args ho (by rw [hsx];simp)
  have hsin:sl∈o.op.operands.toList:=call_args ho (by rw [hsx];simp)
  split at h
  ·rename_i e et he het
   split at h
   ·rename_i hp
    exact absurd hp (hn1 _ _ _ _)
   rw [hd,Option.getD_some,hn2,condB_false] at h
   split at h
   ·rename_i by_ sz z m ys hby hsz hz hel
    split at h
    ·rename_i hc
     split at h
     ·rename_i n v' hva
      rcases condB_cases h with ⟨hcc,h⟩ | ⟨_,h⟩
      ·cases h
       have e1:st.useS x=upd (useL st x) st:=useS_upd rfl
       have e2:(upd (useL st x) st).takeS sl=upd (takeL (upd (useL st x) st) sl) (upd (useL st x) st):=takeS_upd rfl
       rw [e1] at hva hcc ⊢
       rw [e2] at hcc ⊢
       rw [upd_upd] at hcc ⊢
       refine ⟨.dead,_,rfl,trivial,fun p hp=>?_,fun st2 hs _=>?_⟩
       ·rcases List.mem_append.1 hp with hp | hp
        ·obtain ⟨e,hl⟩:=useL_mem hp
         rw [e] at hl
         exact ⟨e ▸ hxin,hl⟩
        ·obtain ⟨e,hl⟩:=takeL_mem hp
         rw [e] at hl
         exact ⟨e ▸ hsin,lin_back (x:=x) (useL_form st x) hl⟩
       ·have hx:=hs.peek x hxin
        have hsp:=hs.peek sl hsin
        have hs1:(upd (useL st x) st2).peek sl=(upd (useL st x) st).peek sl:=peek_updL (useL_rng hx) hsp
        have hdst:getS (upd (useL st x++takeL (upd (useL st x) st) sl) st2).fr d=getS (upd (useL st x++takeL (upd (useL st x) st) sl) st).fr d:=by
         rw [←upd_upd,←upd_upd]
         refine same_upd (st:=st) (st2:=st2) (x:=x) (takeL_rng hs1) ?_
         exact same_upd (st:=st) (st2:=st2) (x:=x) (useL_rng hx) (hs.dst d hd)
        unfold vopc vop
        rw [ho]
        dsimp only
        rw [hb]
        dsimp only
        rw [hsx,htt]
        dsimp only
        rw [he,het]
        dsimp only
        rw [hsp]
        split
        ·rename_i hp
         exact absurd hp (hn1 _ _ _ _)
        rw [hx,hd,Option.getD_some,hn2,condB_false,hby,hsz,hz,hel]
        dsimp only
        rw [if_pos hc,useS_upd hx,hs1,hva]
        dsimp only
        rw [takeS_upd hs1,upd_upd,hdst,hcc,condB_true]
        rfl
      ·cases h
     ·cases h
    ·cases h
   ·cases h
  ·cases h
 ·cases h
theorem kindC_any' {h2:List Blk} (hk:kindV C f o st=.any) (hh:heapCall C o st=false):kindC C f o st h2=.any:=by
 unfold kindC
 rw [hk]
 dsimp only
 rw [hh]
 rfl
theorem calm_same {tr un:List Nat} {ops:List Oper} {i:Nat} {st2:St} (hs:SameOn o st st2) (h:calm tr un ops i o st=true):calm tr un ops i o st2=true:=by
 unfold calm at h ⊢
 have e:∀ x∈o.op.operands.toList,isLin3 (st2.peek x)=isLin3 (st.peek x):=fun x hx=>by rw [hs.peek x hx]
 rw [Bool.or_eq_true,Bool.or_eq_true,Bool.and_eq_true,List.all_eq_true] at h ⊢
 rcases h with (h | h) | ⟨h1,h2⟩
 ·exact .inl (.inl (by rw [nonlin_same hs];exact h))
 ·refine .inl (.inr ?_)
  unfold copies at h ⊢
  split at h
  ·rename_i x d ho hd
   rw [hs.peek x (by simp [ho,Op.operands])]
   exact h
  ·cases h
 ·exact .inr ⟨h1,fun x hx=>by rw [e x hx];exact h2 x hx⟩
theorem nf {v:V} {s:St} (hk:kindC C f o st s.h≠.any) (hl:nonlin o st=true) (h:vopc C vb f o st=some (v,s)):NF C vb f o st v s (kindC C f o st s.h):=by
 have nocall:∀ {K:Kd},(∀ c,o.op≠.call c)→kindV C f o st=.any→False:=fun hno e=>hk (kindC_any e hno)
 cases ho:o.op with
 | move x=>exact nft_move ho h
 | assign x=>exact nf_none (by unfold kindV;rw [ho]) hl h (fun _ hlk=>dep_assign ho hlk)
 | pick c x y=>exact nf_none (by unfold kindV;rw [ho]) hl h (fun _ hlk=>dep_pick ho hlk)
 | nilCheck x=>exact nf_none (by unfold kindV;rw [ho]) hl h (fun _ hlk=>dep_nilCheck ho hlk)
 | binOp op t x y t'=>exact nf_none (by unfold kindV;rw [ho]) hl h (fun _ hlk=>dep_binOp ho hlk)
 | unOp op t x=>exact nf_none (by unfold kindV;rw [ho]) hl h (fun _ hlk=>dep_unOp ho hlk)
 | convert s t x=>exact nf_none (by unfold kindV;rw [ho]) hl h (fun _ hlk=>dep_convert ho hlk)
 | makeFunc g x y=>exact nf_none (by unfold kindV;rw [ho]) hl h (fun _ hlk=>dep_makeFunc ho hlk)
 | slice t x l m c=>exact nf_slice ho hl hk h
 | fieldAddr s x j=>exact nf_none (by unfold kindV;rw [ho]) hl h (fun _ hlk=>dep_fieldAddr ho hlk)
 | field s x j=>exact nf_none (by unfold kindV;rw [ho]) hl h (fun _ hlk=>dep_field ho hlk)
 | indexAddr t x i=>exact nf_none (by unfold kindV;rw [ho]) hl h (fun _ hlk=>dep_indexAddr ho hlk)
 | index t x i=>exact nf_none (by unfold kindV;rw [ho]) hl h (fun _ hlk=>dep_index ho hlk)
 | build t p=>exact nft_build ho h
 | extract x i=>exact nf_none (by unfold kindV;rw [ho]) hl h (fun _ hlk=>dep_extract ho hlk)
 | alloc t=>exact nf_alloc ho h
 | box t x=>exact nf_box ho hl h
 | buildSlice t m p=>exact nf_bslice ho hl h
 | makeSlice t x y=>exact nf_make ho hk hl h
 | store t p x=>exact nft_store ho h
 | load t x=>exact nf_load ho hl hk h
 | call c =>
  cases hb:c.callee with
  | value g=>exact nf_call ho hb hk hl h
  | invoke r m =>
   exact (hk (kindC_any' (by unfold kindV;rw [ho];dsimp only;rw [hb]) (by unfold heapCall;rw [ho];dsimp only;rw [hb]))).elim
  | builtin b =>
   cases b with
   | len=>exact nf_none (by unfold kindV;rw [ho];dsimp only;rw [hb]) hl h (fun _ hlk=>dep_len ho hb hlk)
   | append=>exact nft_append ho hb hk h
   | _ =>
    exact (hk (kindC_any' (by unfold kindV;rw [ho];dsimp only;rw [hb]) (by unfold heapCall;rw [ho];dsimp only;rw [hb]))).elim
 | _=>exact (nocall (K:=.any) (fun c e=>by rw [ho] at e;cases e) (by unfold kindV;rw [ho])).elim
theorem nft {un:List Nat} {ops:List Oper} {i:Nat} {v:V} {s:St} {K:Kd} (hK:kindC C f o st s.h=K) (hk:K≠.any) (hl:calm (C.tr f) un ops i o st=true) (h:vopc C vb f o st=some (v,s)) :
  ∃ (D:Blk) (T:List (Nat×V)),s=⟨setAll T st.fr,effH K D st.h,st.df⟩∧Val K D st.h∧(∀ p∈T,Operand.tmp p.1∈o.op.operands.toList∧freeTmp un ops i (.tmp p.1)=true) ∧
   ∀ st2,SameOn o st st2→HC K st.h st2.h→vopc C vb f o st2=some (v,⟨setAll T st2.fr,effH K D st2.h,st2.df⟩)∧kindC C f o st2 (effH K D st2.h)=K:=by
 subst hK
 have fin:∀ D T,s=⟨setAll T st.fr,effH (kindC C f o st s.h) D st.h,st.df⟩→∀ st2,SameOn o st st2→HC (kindC C f o st s.h) st.h st2.h→kindC C f o st2 (effH (kindC C f o st s.h) D st2.h)=kindC C f o st s.h :=
  fun D T e st2 hs hc=>kindC_same hs hc (congrArg St.h e)
 have hl':=hl
 unfold calm at hl'
 rw [Bool.or_eq_true,Bool.or_eq_true,Bool.and_eq_true] at hl'
 rcases hl' with (hn | hcp) | ⟨ht,hf⟩
 ·obtain ⟨D,T,h1,h2,h3,h4⟩:=nf hk hn h
  refine ⟨D,T,h1,h2,fun p hp=>⟨(h3 p hp).1,?_⟩,fun st2 hs hc=>⟨h4 st2 hs hc,fin D T h1 st2 hs hc⟩⟩
  have a1:=(like_of hn (SameOn.refl o st)).2 _ (h3 p hp).1
  have a2:isLin3 (st.peek (.tmp p.1))=true:=(h3 p hp).2
  rw [a2] at a1;cases a1
 ·obtain ⟨D,h1,h2,h4⟩:=nf_copies hcp rfl h
  exact ⟨D,[],h1,h2,by simp,fun st2 hs hc=>⟨h4 st2 hs hc,fin D [] h1 st2 hs hc⟩⟩
 ·have hN:NF C vb f o st v s (kindC C f o st s.h):=by
   cases ho:o.op with
   | build t p=>exact nft_build ho h
   | store t a x=>exact nft_store ho h
   | move x=>exact nft_move ho h
   | call c =>
    rw [ho] at ht
    unfold takesOp at ht
    dsimp only at ht
    split at ht
    ·rename_i hb
     exact nft_append ho hb hk h
    ·cases ht
   | _=>rw [ho] at ht;cases ht
  obtain ⟨D,T,h1,h2,h3,h4⟩:=hN
  refine ⟨D,T,h1,h2,fun p hp=>⟨(h3 p hp).1,?_⟩,fun st2 hs hc=>⟨h4 st2 hs hc,fin D T h1 st2 hs hc⟩⟩
  rw [List.all_eq_true] at hf
  have:=hf _ (h3 p hp).1
  rw [Bool.or_eq_true] at this
  rcases this with h | h
  ·have h5:isLin3 (st.peek (.tmp p.1))=true:=(h3 p hp).2
   rw [h5] at h;cases h
  ·exact h
end
end Go.Fw
namespace Go.Fw
open Go.RowKit
theorem getS_set {fr:List V} {d t:Nat} {v:V} (h:d≠t):getS (fr.set d v) t=getS fr t:=by
 unfold getS
 rw [List.getD_eq_getElem?_getD,List.getD_eq_getElem?_getD,List.getElem?_set_ne h]
theorem sameC_fn {f:Fn} {xs ys:List V} {b:V} (h:sameC (.fn f xs ys) b=true):∃ f0 a c,f=.func f0∧b=.fn (.func f0) a c∧sameC.sameCs xs a=true∧sameC.sameCs ys c=true:=by
 unfold sameC at h
 split at h<;>first | (rename_i e;cases e;done) | (rename_i e _;cases e;done) | skip
 rename_i f0 a c g b d e1
 cases e1
 simp only [Bool.and_eq_true,beq_iff_eq] at h
 obtain ⟨rfl,h1,h2⟩:=h
 exact ⟨_,_,_,rfl,rfl,h1,h2⟩
 cases h
mutual
theorem sameC_eq:∀ (a b:V),sameC a b=true→a=b
 | .imm f n xs,b,h=>by
  cases b<;>simp only [sameC,Bool.false_eq_true] at h
  simp only [Bool.and_eq_true,beq_iff_eq] at h
  obtain ⟨rfl,rfl,h⟩:=h
  rw [sameCs_eq xs _ h]
 | .lin p e n xs,b,h=>by
  cases b<;>simp only [sameC,Bool.false_eq_true] at h
  simp only [Bool.and_eq_true,beq_iff_eq] at h
  obtain ⟨rfl,rfl,rfl,h⟩:=h
  rw [sameCs_eq xs _ h]
 | .agg xs,b,h=>by
  cases b<;>simp only [sameC,Bool.false_eq_true] at h
  rw [sameCs_eq xs _ h]
 | .fn f xs ys,b,h=>by
  obtain ⟨f0,a,c,rfl,rfl,h1,h2⟩:=sameC_fn h
  rw [sameCs_eq xs a h1,sameCs_eq ys c h2]
 | .str a,b,h=>by
  cases b<;>simp only [sameC,Bool.false_eq_true] at h
  rename_i b
  simp only [beq_iff_eq] at h
  congr 1
  exact ByteArray.ext (Array.ext' h)
 | .undef,b,h=>by cases b<;>simp only [sameC,Bool.false_eq_true] at h<;>rfl
 | .bool _,b,h=>by cases b<;>simp_all [sameC]
 | .int _ _,b,h=>by cases b<;>simp_all [sameC]
 | .nilp,b,h=>by cases b<;>simp only [sameC,Bool.false_eq_true] at h<;>rfl
 | .ptr _ _,b,h=>by cases b<;>simp_all [sameC]
 | .iptr _ _,b,h=>by cases b<;>simp only [sameC,Bool.false_eq_true] at h
 | .nils,b,h=>by cases b<;>simp only [sameC,Bool.false_eq_true] at h<;>rfl
 | .nne,b,h=>by cases b<;>simp only [sameC,Bool.false_eq_true] at h<;>rfl
 | .own ..,b,h=>by cases b<;>simp_all [sameC]
 | .tup _,b,h=>by cases b<;>simp only [sameC,Bool.false_eq_true] at h
 | .nilf,b,h=>by cases b<;>simp only [sameC,Bool.false_eq_true] at h<;>rfl
 | .iface ..,b,h=>by cases b<;>simp only [sameC,Bool.false_eq_true] at h
 | .nili,b,h=>by cases b<;>simp only [sameC,Bool.false_eq_true] at h<;>rfl
 | .nilm,b,h=>by cases b<;>simp only [sameC,Bool.false_eq_true] at h<;>rfl
 | .obj ..,b,h=>by cases b<;>simp_all [sameC]
termination_by a=>SizeOf.sizeOf a
theorem sameCs_eq:∀ (a b:List V),sameC.sameCs a b=true→a=b
 | [],b,h=>by
  cases b with
  | nil=>rfl
  | cons=>cases h
 | x::xs,b,h=>by
  cases b with
  | nil=>cases h
  | cons y ys =>
   simp only [sameC.sameCs,Bool.and_eq_true] at h
   rw [sameC_eq x y h.1,sameCs_eq xs ys h.2]
termination_by a=>SizeOf.sizeOf a
end
section
variable {C:Cx} {vb:Nat→FuncId→List V→List Blk→Option FOut} {f:FuncId} {ops:Array Oper} {un:List Nat} {h0:Nat} {A:Nat→Kd}
def Step (C:Cx) (vb:Nat→FuncId→List V→List Blk→Option FOut) (f:FuncId) (ops:Array Oper) (un:List Nat) (h0:Nat) (A:Nat→Kd) (i:Nat) (st st':St):Prop :=
 ∃ o,ops[i]?=some o∧(involved un i=true→h0≤st.h.length) ∧
  ((guardV ops.toList o st=some false∧(involved un i=true→A i=.none)∧st'=put st o.dst (.tup [])) ∨
  (guardV ops.toList o st=some true∧∃ v s,vopc C (vb i) f o st=some (v,s)∧(involved un i=true→calm (C.tr f) un ops.toList i o st=true∧kindC C f o st s.h=A i)∧st'=put s o.dst v))
def Run (C:Cx) (vb:Nat→FuncId→List V→List Blk→Option FOut) (f:FuncId) (ops:Array Oper) (un:List Nat) (h0:Nat) (A:Nat→Kd):List Nat→St→St→Prop
 | [],st,st'=>st=st'
 | i::r,st,st'=>∃ s,Step C vb f ops un h0 A i st s∧Run C vb f ops un h0 A r s st'
structure Looks (ops:Array Oper) (o:Oper) (st st2:St):Prop where
 at_:∀ t,t∈o.looksAt ops→getS st2.fr t=getS st.fr t
 dst:∀ d,o.dst=some d→getS st2.fr d=getS st.fr d
 df:st2.df=st.df
theorem Looks.same {o:Oper} {st st2:St} (h:Looks ops o st st2):SameOn o st st2:=by
 refine ⟨fun x hx=>?_,h.dst,h.df⟩
 cases x with
 | tmp t =>
  refine h.at_ t ?_
  unfold Oper.looksAt
  exact List.mem_append_left _ (List.mem_filterMap.2 ⟨.tmp t,hx,rfl⟩)
 | _=>rfl
theorem Looks.guard {o:Oper} {st st2:St} (h:Looks ops o st st2):guardV ops.toList o st2=guardV ops.toList o st:=by
 unfold guardV
 cases hg:o.guard with
 | none=>rfl
 | some p =>
  obtain ⟨j,want⟩:=p
  dsimp only
  unfold wantedV
  rw [Array.getElem?_toList]
  cases hd:(ops[j]?).bind (·.dst) with
  | none=>rfl
  | some d =>
   dsimp only
   have:getS st2.fr d=getS st.fr d:=h.at_ d (by
    unfold Oper.looksAt
    refine List.mem_append_right _ ?_
    rw [hg]
    dsimp only
    rw [hd]
    simp)
   rw [this]
def dstL (o:Oper) (v:V):List (Nat×V):=match o.dst with | some d=>[(d,v)] | none=>[]
theorem put_dstL (st:St) (o:Oper) (v:V):put st o.dst v=upd (dstL o v) st:=by
 unfold put dstL
 cases o.dst<;>rfl
def Chg (ops:Array Oper) (un:List Nat) (i:Nat) (o:Oper) (U:List (Nat×V)):Prop:=∀ p∈U,o.dst=some p.1∨(p.1∈o.looksAt ops∧freeTmp un ops.toList i (.tmp p.1)=true)
theorem looks_op {o:Oper} {t:Nat} (h:Operand.tmp t∈o.op.operands.toList):t∈o.looksAt ops:=by
 unfold Oper.looksAt
 exact List.mem_append_left _ (List.mem_filterMap.2 ⟨.tmp t,h,rfl⟩)
def stE (U:List (Nat×V)) (K:Kd) (D:Blk) (st:St):St:=⟨setAll U st.fr,effH K D st.h,st.df⟩
theorem stE_dst (T:List (Nat×V)) (K:Kd) (D:Blk) (st:St) (o:Oper) (v:V):put (stE T K D st) o.dst v=stE (T++dstL o v) K D st:=by
 rw [put_dstL]
 unfold upd stE
 rw [setAll_append]
theorem step_nf {i:Nat} {st st':St} (hi:involved un i=true) (hA:A i≠.any) (h:Step C vb f ops un h0 A i st st') :
  ∃ o U D,ops[i]?=some o∧h0≤st.h.length∧Chg ops un i o U∧st'=stE U (A i) D st∧Val (A i) D st.h∧∀ st2,Looks ops o st st2→h0≤st2.h.length→HC (A i) st.h st2.h→Step C vb f ops un h0 A i st2 (stE U (A i) D st2):=by
 obtain ⟨o,ho,hlen,h | h⟩:=h
 ·obtain ⟨hg,hn,rfl⟩:=h
  have hn:=hn hi
  have e:∀ st:St,put st o.dst (.tup [])=stE (dstL o (.tup [])) .none .dead st:=fun st=>by rw [put_dstL];rfl
  refine ⟨o,dstL o (.tup []),.dead,ho,hlen hi,?_,by rw [hn,e],by rw [hn];trivial,fun st2 hl hl0 _=>⟨o,ho,fun _=>hl0,.inl ⟨hl.guard.trans hg,fun _=>hn,by rw [hn,e]⟩⟩⟩
  intro p hp
  unfold dstL at hp
  split at hp
  ·rename_i d hd
   simp only [List.mem_singleton] at hp
   subst hp
   exact .inl hd
  ·simp at hp
 ·obtain ⟨hg,v,s,hv,hk,rfl⟩:=h
  obtain ⟨hnl,hk⟩:=hk hi
  obtain ⟨D,T,rfl,hval,hT,hnf⟩:=nft hk hA hnl hv
  refine ⟨o,T++dstL o v,D,ho,hlen hi,?_,stE_dst T (A i) D st o v,hval,fun st2 hl hl0 hc=>⟨o,ho,fun _=>hl0,.inr ⟨hl.guard.trans hg,v,stE T (A i) D st2,(hnf st2 hl.same hc).1,fun _=>?_,(stE_dst T (A i) D st2 o v).symm⟩⟩⟩
  ·intro p hp
   rcases List.mem_append.1 hp with hp | hp
   ·exact .inr ⟨looks_op (hT p hp).1,(hT p hp).2⟩
   ·unfold dstL at hp
    split at hp
    ·rename_i d hd
     simp only [List.mem_singleton] at hp
     subst hp
     exact .inl hd
    ·simp at hp
  ·exact ⟨calm_same hl.same hnl,(hnf st2 hl.same hc).2⟩
theorem put_h (st:St) (d:Option Tmp) (v:V):(put st d v).h=st.h:=by cases d<;>rfl
theorem effH_len {K:Kd} {D:Blk} {h:List Blk} (hv:Val K D h):h.length≤(effH K D h).length:=by
 cases K with
 | wr id off n =>
  obtain ⟨cs,e,hcs,_⟩:=hv
  rw [effH_wr hcs,List.length_set]
  exact Nat.le_refl _
 | al=>simp [effH]
 | cl h1 h2 =>
  obtain ⟨rfl,hle⟩:=hv
  exact hle
 | _=>exact Nat.le_refl _
theorem setAt_len':∀ {vs cs:List V} {off:Nat},(setAt cs off vs).length=cs.length
 | [],_,_=>rfl
 | v::vs,cs,off=>by unfold setAt;rw [setAt_len',List.length_set]
theorem setAt_get':∀ {vs cs:List V} {off i:Nat},i<off∨off+vs.length≤i→(setAt cs off vs)[i]?=cs[i]?
 | [],_,_,_,_=>rfl
 | v::vs,cs,off,i,h=>by
  unfold setAt
  rw [setAt_get' (by simp only [List.length_cons] at h;omega),List.getElem?_set_ne (by simp only [List.length_cons] at h;omega)]
theorem setAt_range {vs cs:List V} {off p m:Nat} (h:off+vs.length≤p∨p+m≤off):((setAt cs off vs).drop p).take m=(cs.drop p).take m:=by
 refine List.ext_getElem? (fun i=>?_)
 rw [List.getElem?_take,List.getElem?_take]
 split
 ·rw [List.getElem?_drop,List.getElem?_drop,setAt_get' (by omega)]
 ·rfl
theorem setAt_comm:∀ {us vs cs:List V} {off p:Nat},off+us.length≤p∨p+vs.length≤off→setAt (setAt cs off us) p vs=setAt (setAt cs p vs) off us:=by
 have one:∀ (vs cs:List V) (p off:Nat) (u:V),off<p∨p+vs.length≤off→setAt (cs.set off u) p vs=(setAt cs p vs).set off u:=by
  intro vs
  induction vs with
  | nil=>intros;rfl
  | cons v vs ih =>
   intro cs p off u h
   simp only [List.length_cons] at h
   unfold setAt
   rw [List.set_comm _ _ (by omega),ih _ _ _ _ (by omega)]
 intro us
 induction us with
 | nil=>intros;rfl
 | cons u us ih =>
  intro vs cs off p h
  simp only [List.length_cons] at h
  rw [show setAt cs off (u::us)=setAt (cs.set off u) (off+1) us from rfl,show setAt (setAt cs p vs) off (u::us)=setAt ((setAt cs p vs).set off u) (off+1) us from rfl,ih (by omega),one _ _ _ _ _ (by omega)]
theorem Rng.refl {h:List Blk} {id off n:Nat} {cs:List V} {e:TypeId} (hh:h[id]?=some (.cells cs e)):Rng h h id off n:=⟨cs,cs,e,hh,hh,rfl,rfl⟩
theorem Rng.symm {h h2:List Blk} {id off n:Nat} (hr:Rng h h2 id off n):Rng h2 h id off n:=by
 obtain ⟨cs,cs2,e,q1,q2,q3,q4⟩:=hr
 exact ⟨cs2,cs,e,q2,q1,q3.symm,q4.symm⟩
theorem HC.symm {K:Kd} {h h2:List Blk} (hc:HC K h h2):HC K h2 h:=by
 cases K with
 | none=>trivial
 | rd id off n=>exact Rng.symm hc
 | wr id off n=>exact Rng.symm hc
 | al=>exact Eq.symm hc
 | cl a b=>exact Eq.symm hc
 | any=>exact hc.elim
theorem sameBlk_eq {h1 h2:List Blk} {id:Nat} (h:sameBlk h1 h2 id=true):∃ cs e,h1[id]?=some (.cells cs e)∧h2[id]?=some (.cells cs e):=by
 unfold sameBlk at h
 split at h
 ·rename_i cs e ds e' q1 q2
  rw [Bool.and_eq_true] at h
  obtain ⟨h1,h2⟩:=h
  have h1:e=e':=by simpa using h1
  have h2:=sameC_eq _ _ h2
  cases h2
  exact ⟨cs,e,q1,by rw [q2,h1]⟩
 ·cases h
theorem compat_symm {K L:Kd} (h:compatK h0 K L=true):compatK h0 L K=true:=by
 cases K<;>cases L<;>simp only [compatK,Bool.false_eq_true] at h ⊢<;>first
  | exact h
  | (simp only [Bool.or_eq_true,bne_iff_ne,ne_eq,decide_eq_true_eq] at h ⊢;exact h.elim (fun h=>.inl fun e=>h e.symm) (fun h=>h.elim (fun h=>.inr (.inr h)) (fun h=>.inr (.inl h))))
theorem range_cases {id o n id2 p m:Nat} (h:(id !=id2||(decide (o+n≤p)||decide (p+m≤o)))=true):id≠id2∨(id=id2∧(o+n≤p∨p+m≤o)):=by
 simp only [Bool.or_eq_true,bne_iff_ne,ne_eq,decide_eq_true_eq] at h
 by_cases e:id=id2
 ·exact .inr ⟨e,h.resolve_left (fun hn=>hn e)⟩
 ·exact .inl e
theorem rng_past {K:Kd} {D:Blk} {h:List Blk} {id p m:Nat} (hc:compatK h0 K (.wr id p m)=true∨compatK h0 K (.rd id p m)=true) (hl:h0≤h.length) (hv:Val K D h) {cs:List V} {e:TypeId} :
  (h[id]?=some (.cells cs e)→Rng h (effH K D h) id p m)∧((effH K D h)[id]?=some (.cells cs e)→Rng h (effH K D h) id p m):=by
 have wr:∀ {a o n:Nat},K=.wr a o n→(a !=id||(decide (o+n≤p)||decide (p+m≤o)))=true→(h[id]?=some (.cells cs e)→Rng h (effH K D h) id p m)∧((effH K D h)[id]?=some (.cells cs e)→Rng h (effH K D h) id p m):=by
  rintro a o n rfl hcc
  obtain ⟨cs1,e1,hcs1,hle,hD⟩:=hv
  rw [effH_wr hcs1]
  have hlt:=(List.getElem?_eq_some_iff.1 hcs1).1
  rcases range_cases hcc with hne | ⟨rfl,hd⟩
  ·have e0:(h.set a (.cells (setAt cs1 o (dcells D)) e1))[id]?=h[id]?:=List.getElem?_set_ne hne
   rw [e0]
   exact ⟨fun hh=>⟨cs,cs,e,hh,e0.trans hh,rfl,rfl⟩,fun hh=>⟨cs,cs,e,hh,e0.trans hh,rfl,rfl⟩⟩
  ·have r:Rng h (h.set a (.cells (setAt cs1 o (dcells D)) e1)) a p m:=⟨cs1,setAt cs1 o (dcells D),e1,hcs1,List.getElem?_set_self hlt,setAt_len',setAt_range (by rw [hD];exact hd)⟩
   exact ⟨fun _=>r,fun _=>r⟩
 cases K with
 | none=>exact ⟨fun hh=>Rng.refl hh,fun hh=>Rng.refl (h:=h) hh⟩
 | rd a o n=>exact ⟨fun hh=>Rng.refl hh,fun hh=>Rng.refl (h:=h) hh⟩
 | any=>exact hv.elim
 | al =>
  have hlt:id<h0:=by rcases hc with hc | hc<;>simpa [compatK] using hc
  have e0:(effH .al D h)[id]?=h[id]?:=List.getElem?_append_left (by omega)
  rw [e0]
  exact ⟨fun hh=>⟨cs,cs,e,hh,e0.trans hh,rfl,rfl⟩,fun hh=>⟨cs,cs,e,hh,e0.trans hh,rfl,rfl⟩⟩
 | cl h1 h2 =>
  rcases hc with hc | hc
  ·simp [compatK] at hc
  ·simp only [compatK] at hc
   obtain ⟨rfl,_⟩:=hv
   obtain ⟨cs1,e1,q1,q2⟩:=sameBlk_eq hc
   have r:Rng h h2 id p m:=⟨cs1,cs1,e1,q1,q2,rfl,rfl⟩
   exact ⟨fun _=>r,fun _=>r⟩
 | wr a o n=>exact wr rfl (by rcases hc with hc | hc<;>simpa only [compatK] using hc)
theorem hc_past {K L:Kd} {D D':Blk} {h:List Blk} (hc:compatK h0 K L=true) (hl:h0≤h.length) (hv:Val K D h) (hv':Val L D' h):HC L h (effH K D h):=by
 cases L with
 | none=>trivial
 | rd id p m =>
  obtain ⟨cs,e,hcs,_⟩:=hv'
  exact (rng_past (.inr hc) hl hv).1 hcs
 | wr id p m =>
  obtain ⟨cs,e,hcs,_⟩:=hv'
  exact (rng_past (.inl hc) hl hv).1 hcs
 | al =>
  cases K<;>simp only [compatK,Bool.false_eq_true] at hc
  ·rfl
  ·rfl
  ·obtain ⟨cs,e,hcs,_⟩:=hv
   change (effH _ D h).length=h.length
   rw [effH_wr hcs,List.length_set]
 | cl h1 h2 =>
  cases K<;>simp only [compatK,Bool.false_eq_true] at hc
  ·rfl
  ·rfl
 | any=>exact hv'.elim
theorem val_back {K L:Kd} {D D':Blk} {h:List Blk} (hc:compatK h0 K L=true) (hl:h0≤h.length) (hv:Val K D h) (hv':Val L D' (effH K D h)):Val L D' h:=by
 cases L with
 | none=>trivial
 | al=>trivial
 | rd id p m =>
  obtain ⟨cs,e,hcs,hle⟩:=hv'
  obtain ⟨c1,c2,e1,q1,q2,q3,q4⟩:=(rng_past (.inr hc) hl hv).2 hcs
  rw [hcs] at q2
  cases q2
  exact ⟨c1,e,q1,by omega⟩
 | wr id p m =>
  obtain ⟨cs,e,hcs,hle,hD⟩:=hv'
  obtain ⟨c1,c2,e1,q1,q2,q3,q4⟩:=(rng_past (.inl hc) hl hv).2 hcs
  rw [hcs] at q2
  cases q2
  exact ⟨c1,e,q1,by omega,hD⟩
 | cl h1 h2 =>
  cases K<;>simp only [compatK,Bool.false_eq_true] at hc
  ·exact hv'
  ·exact hv'
 | any=>exact hv'.elim
theorem eff_comm {K L:Kd} {D D':Blk} {h:List Blk} (hc:compatK h0 K L=true) (hl:h0≤h.length) (hv:Val K D h) (hv':Val L D' h):effH L D' (effH K D h)=effH K D (effH L D' h):=by
 have al:∀ {id p m:Nat} {D D':Blk},id<h0→Val (.wr id p m) D h→effH (.wr id p m) D (h++[D'])=effH (.wr id p m) D h++[D']:=by
  rintro id p m D D' hlt ⟨cs,e,hcs,hle,hD⟩
  have:(h++[D'])[id]?=some (.cells cs e):=by rw [List.getElem?_append_left (by omega)];exact hcs
  rw [effH_wr hcs,effH_wr this,List.set_append_left _ _ (by omega)]
 cases K<;>cases L<;>simp only [compatK,Bool.false_eq_true] at hc<;>try rfl
 case wr.wr a o n b p m =>
  obtain ⟨cs,e,hcs,hle,hD⟩:=hv
  obtain ⟨cs',e',hcs',hle',hD'⟩:=hv'
  have hlt:=(List.getElem?_eq_some_iff.1 hcs).1
  rcases range_cases hc with hne | ⟨rfl,hd⟩
  ·rw [effH_wr hcs,effH_wr hcs',effH_wr (by rw [List.getElem?_set_ne hne];exact hcs'),effH_wr (by rw [List.getElem?_set_ne (fun e=>hne e.symm)];exact hcs)]
   exact List.set_comm _ _ hne
  ·rw [hcs] at hcs'
   cases hcs'
   rw [effH_wr hcs,effH_wr hcs,effH_wr (List.getElem?_set_self hlt),effH_wr (List.getElem?_set_self hlt),List.set_set,List.set_set,setAt_comm (by rw [hD,hD'];exact hd)]
 case wr.al a o n=>exact (al (by simpa using hc) hv).symm
 case al.wr a o n=>exact al (by simpa using hc) hv'
theorem freeTmp_spec {y x:Nat} {ox:Oper} {t:Nat} (hx:ops[x]?=some ox) (hu:unAt un y x=true∨unAt un x y=true) (h:freeTmp un ops.toList y (.tmp t)=true):t∉ox.looksAt ops:=by
 unfold freeTmp at h
 dsimp only at h
 rw [List.all_eq_true] at h
 have:=h x (List.mem_range.2 (by simpa using (Array.getElem?_eq_some_iff.1 hx).1))
 have e:(unAt un y x||unAt un x y)=true:=by simpa using hu
 rw [e,Array.getElem?_toList,hx] at this
 simpa using this
theorem swap {x y:Nat} {ox oy:Oper} {st s1 s2:St} (hx:ops[x]?=some ox) (hy:ops[y]?=some oy) (hap:oy.apart ops ox=true) (iy:involved un y=true) (ix:involved un x=true)
  (hu:unAt un y x=true) (hc:compatK h0 (A y) (A x)=true) (h1:Step C vb f ops un h0 A y st s1) (h2:Step C vb f ops un h0 A x s1 s2):∃ t,Step C vb f ops un h0 A x st t∧Step C vb f ops un h0 A y t s2:=by
 have hany:∀ K L:Kd,compatK h0 K L=true→K≠.any∧L≠.any:=by
  intro K L h
  constructor
  ·rintro rfl;cases L<;>cases h
  ·rintro rfl;cases K<;>cases h
 have hny:A y≠.any:=(hany _ _ hc).1
 have hnx:A x≠.any:=(hany _ _ hc).2
 obtain ⟨oy',Uy,Dy,hy',hly,cy,rfl,vy,ny⟩:=step_nf iy hny h1
 rw [hy] at hy';cases hy'
 obtain ⟨ox',Ux,Dx,hx',hlx,cx,rfl,vx,nx⟩:=step_nf ix hnx h2
 rw [hx] at hx';cases hx'
 obtain ⟨a1,a2,a3⟩:=Oper.apart_spec hap
 have fy:∀ p∈Uy,p.1∉ox.looksAt ops:=fun p hp=>by
  rcases cy p hp with h | ⟨_,h⟩
  ·exact a1 _ h
  ·exact freeTmp_spec hx (.inl hu) h
 have fx:∀ p∈Ux,p.1∉oy.looksAt ops:=fun p hp=>by
  rcases cx p hp with h | ⟨_,h⟩
  ·exact a3 _ h
  ·exact freeTmp_spec hy (.inr hu) h
 have dy:∀ p∈Uy,∀ d,ox.dst=some d→p.1≠d:=fun p hp d hd e=>by
  rcases cy p hp with h | ⟨h,_⟩
  ·exact a2 _ h (by rw [hd,e])
  ·exact a3 d hd (e ▸ h)
 have dx:∀ p∈Ux,∀ d,oy.dst=some d→p.1≠d:=fun p hp d hd e=>by
  rcases cx p hp with h | ⟨h,_⟩
  ·exact a2 d hd (by rw [h,e])
  ·exact a1 d hd (e ▸ h)
 have dd:∀ p∈Ux,∀ q∈Uy,p.1≠q.1:=fun p hp q hq e=>by
  rcases cx p hp with h | ⟨h,_⟩
  ·exact dy q hq _ h e.symm
  ·exact fy q hq (e ▸ h)
 have vx0:Val (A x) Dx st.h:=val_back hc hly vy vx
 have hx1:=nx st ⟨fun t ht=>by
   change getS st.fr t=getS (setAll Uy st.fr) t
   rw [getS_setAll (fun p hp e=>fy p hp (by rw [e];exact ht))],
  fun d hd=>by
   change getS st.fr d=getS (setAll Uy st.fr) d
   rw [getS_setAll (fun p hp e=>dy p hp d hd e)],rfl⟩ hly (hc_past hc hly vy vx0).symm
 refine ⟨_,hx1,?_⟩
 have hy1:=ny (stE Ux (A x) Dx st) ⟨fun t ht=>by
   change getS (setAll Ux st.fr) t=getS st.fr t
   rw [getS_setAll (fun p hp e=>fx p hp (by rw [e];exact ht))],
  fun d hd=>by
   change getS (setAll Ux st.fr) d=getS st.fr d
   rw [getS_setAll (fun p hp e=>dx p hp d hd e)],rfl⟩ (Nat.le_trans hly (effH_len vx0)) (hc_past (compat_symm hc) hly vx0 vy)
 have e:stE Uy (A y) Dy (stE Ux (A x) Dx st)=stE Ux (A x) Dx (stE Uy (A y) Dy st):=by
  change St.mk (setAll Uy (setAll Ux st.fr)) (effH (A y) Dy (effH (A x) Dx st.h)) st.df=St.mk (setAll Ux (setAll Uy st.fr)) (effH (A x) Dx (effH (A y) Dy st.h)) st.df
  rw [setAll_comm (fun p hp q hq e=>dd q hq p hp e.symm),eff_comm hc hly vy vx0]
 rw [e] at hy1
 exact hy1
theorem run_append {l1 l2:List Nat}:∀ {st st':St},Run C vb f ops un h0 A (l1++l2) st st'↔∃ s,Run C vb f ops un h0 A l1 st s∧Run C vb f ops un h0 A l2 s st':=by
 induction l1 with
 | nil=>intro st st';exact ⟨fun h=>⟨st,rfl,h⟩,fun ⟨s,h1,h2⟩=>by cases h1;exact h2⟩
 | cons i r ih =>
  intro st st'
  constructor
  ·rintro ⟨s,h1,h2⟩
   obtain ⟨s2,h3,h4⟩:=ih.1 h2
   exact ⟨s2,⟨s,h1,h3⟩,h4⟩
  ·rintro ⟨s2,⟨s,h1,h3⟩,h4⟩
   exact ⟨s,h1,ih.2 ⟨s2,h3,h4⟩⟩
def Free (ops:Array Oper) (un:List Nat) (h0:Nat) (A:Nat→Kd) (y x:Nat):Prop:=unAt un y x=true∧involved un y=true∧involved un x=true∧compatK h0 (A y) (A x)=true∧∃ oy ox,ops[y]?=some oy∧ops[x]?=some ox∧oy.apart ops ox=true
theorem move_front {x:Nat}:∀ {l:List Nat} {st st':St},(∀ y∈l,Free ops un h0 A y x)→Run C vb f ops un h0 A (l++[x]) st st'→Run C vb f ops un h0 A (x::l) st st'
 | [],st,st',_,h=>h
 | y::l,st,st',hf,h=>by
  obtain ⟨s0,h1,h2⟩:=h
  obtain ⟨s1,h3,h4⟩:=move_front (fun z hz=>hf z (by simp [hz])) h2
  obtain ⟨hu,iy,ix,hc,oy,ox,hoy,hox,hap⟩:=hf y (by simp)
  obtain ⟨t,h5,h6⟩:=swap hox hoy hap iy ix hu hc h1 h3
  exact ⟨t,h5,s1,h6,h4⟩
theorem run_perm {Ord:Nat→Nat→Prop}:∀ (σ l:List Nat) {st st':St},σ.Nodup→l.Nodup→(∀ i,i∈σ↔i∈l)→l.Pairwise (·<·)→σ.Pairwise (fun a b=>¬Ord b a) →
  (∀ x∈l,∀ y∈l,y<x→Ord y x∨Free ops un h0 A y x)→Run C vb f ops un h0 A l st st'→Run C vb f ops un h0 A σ st st'
 | [],l,st,st',_,_,hm,_,_,_,h=>by
  have:l=[]:=List.eq_nil_iff_forall_not_mem.2 (fun i hi=>by have:=(hm i).2 hi;simp at this)
  subst this
  exact h
 | x::σ,l,st,st',hn,hl,hm,hs,ho,hf,h=>by
  have hxl:x∈l:=(hm x).1 (by simp)
  obtain ⟨l1,l2,rfl⟩:=List.append_of_mem hxl
  obtain ⟨hxσ,hn'⟩:=List.nodup_cons.1 hn
  have hxn:x∉l1∧x∉l2:=by
   have:=List.nodup_append.1 hl
   refine ⟨fun hx=>?_,?_⟩
   ·exact this.2.2 x hx x (by simp) rfl
   ·have:=List.nodup_cons.1 this.2.1;exact this.1
  have hpw:=List.pairwise_append.1 hs
  have hfree:∀ y∈l1,Free ops un h0 A y x:=by
   intro y hy
   have hlt:y<x:=hpw.2.2 y hy x (by simp)
   rcases hf x (by simp) y (by simp [hy]) hlt with h | h
   ·exfalso
    have hyσ:y∈σ:=by
     have:=(hm y).2 (by simp [hy])
     rcases List.mem_cons.1 this with e | e
     ·omega
     ·exact e
    exact (List.pairwise_cons.1 ho).1 y hyσ h
   ·exact h
  have h':Run C vb f ops un h0 A ((l1++[x])++l2) st st':=by simpa using h
  obtain ⟨s,h1,h2⟩:=run_append.1 h'
  obtain ⟨s0,h3,h4⟩:=move_front hfree h1
  refine ⟨s0,h3,run_perm σ (l1++l2) hn' ?_ (fun i=>?_) ?_ (List.pairwise_cons.1 ho).2 (fun a ha b hb=>hf a ?_ b ?_) (run_append.2 ⟨s,h4,h2⟩)⟩
  ·have:=List.nodup_append.1 hl
   refine List.nodup_append.2 ⟨this.1,(List.nodup_cons.1 this.2.1).2,fun a ha b hb=>this.2.2 a ha b (by simp [hb])⟩
  ·have:=hm i
   by_cases hix:i=x
   ·subst hix
    exact ⟨fun h=>absurd h hxσ,fun h=>by rcases List.mem_append.1 h with h | h;exact absurd h hxn.1;exact absurd h hxn.2⟩
   ·simpa [hix] using this
  ·refine List.pairwise_append.2 ⟨hpw.1,(List.pairwise_cons.1 hpw.2.1).2,fun a ha b hb=>hpw.2.2 a ha b (by simp [hb])⟩
  ·rcases List.mem_append.1 ha with h | h<;>simp [h]
  ·rcases List.mem_append.1 hb with h | h<;>simp [h]
theorem vdrawA_run {ks:List (Nat×Kd)→St→Option FOut} {out:FOut}:∀ (l:List Nat) (acc:List (Nat×Kd)) (st:St),l.Nodup→(∀ p∈acc,p.1∉l)→vdrawA C vb f un h0 ops.toList l acc st ks=some out →
  ∃ (A:Nat→Kd) (stf:St) (acc1:List (Nat×Kd)),Run C vb f ops un h0 A l st stf∧ks acc1 stf=some out∧(∀ i∈l,involved un i=true→A i≠.any) ∧
   (∀ p∈acc,∀ i∈l,unAt un p.1 i=true→involved un i=true→p.2≠.any→compatK h0 p.2 (A i)=true)∧l.Pairwise (fun j i=>unAt un j i=true→involved un j=true→involved un i=true→compatK h0 (A j) (A i)=true) ∧
   (∀ p∈acc,p∈acc1)∧∀ j∈l,involved un j=true→(j,A j)∈acc1∨A j=.none
 | [],acc,st,_,_,h=>⟨fun _=>.none,st,acc,rfl,h,by simp,by simp,.nil,fun _ h=>h,by simp⟩
 | i::r,acc,st,hn,ha,h=>by
  obtain ⟨hir,hn'⟩:=List.nodup_cons.1 hn
  unfold vdrawA at h
  simp only [vopF_eq,putF_eq,guardVF_eq,calmF_eq,kindCF_eq,compatKF_eq,unAtF_eq,involvedF_eq,getO_eq] at h
  rw [Array.getElem?_toList] at h
  cases ho:ops[i]? with
  | none=>rw [ho] at h;cases h
  | some o =>
   rw [ho] at h
   dsimp only at h
   rcases condB_cases h with ⟨hlen,h⟩ | ⟨_,h⟩
   ·have hlen:involved un i=true→h0≤st.h.length:=fun e=>by rw [e] at hlen;simpa using hlen
    obtain ⟨b,hg,h⟩:=bindO_eq h
    rcases condB_cases h with ⟨hb,h⟩ | ⟨hb,h⟩
    ·rw [hb] at hg
     rcases condB_cases h with ⟨hi,h⟩ | ⟨hi,h⟩
     ·rcases condB_cases h with ⟨hnl,h⟩ | ⟨_,h⟩
      ·obtain ⟨q,hq,h⟩:=bindO_eq h
       have hcc:=(condB_cases h).resolve_right (fun hh=>by cases hh.2)
       obtain ⟨hc,h⟩:=hcc
       simp only [Bool.and_eq_true,List.all_eq_true] at hc
       obtain ⟨hna,hall⟩:=hc
       obtain ⟨A,stf,acc1,h1,h2,h3,h4,h5,h7,h8⟩:=vdrawA_run r ((i,kindC C f o st q.2.h)::acc) _ hn' (fun p hp=>by
        rcases List.mem_cons.1 hp with rfl | hp
        ·exact hir
        ·exact fun hh=>ha p hp (by simp [hh])) h
       let A':Nat→Kd:=fun j=>if j=i then kindC C f o st q.2.h else A j
       have hA:∀ j∈r,A' j=A j:=fun j hj=>by
        have:j≠i:=fun e=>hir (e ▸ hj)
        simp [A',this]
       have hAi:A' i=kindC C f o st q.2.h:=by simp [A']
       have hrun:∀ (r:List Nat) (s s':St),(∀ j∈r,A' j=A j)→Run C vb f ops un h0 A r s s'→Run C vb f ops un h0 A' r s s':=by
        intro r
        induction r with
        | nil=>intro s s' _ h;exact h
        | cons j r ih =>
         rintro s s' he ⟨s2,⟨o2,k1,k2,k3⟩,k4⟩
         refine ⟨s2,⟨o2,k1,k2,?_⟩,ih s2 s' (fun x hx=>he x (by simp [hx])) k4⟩
         rw [he j (by simp)]
         exact k3
       have hnany:kindC C f o st q.2.h≠.any:=fun e=>by rw [e] at hna;cases hna
       refine ⟨A',stf,acc1,⟨_,⟨o,ho,hlen,.inr ⟨hg,q.1,q.2,hq,fun _=>⟨hnl,hAi.symm⟩,rfl⟩⟩,hrun r _ _ hA h1⟩,h2,fun j hj hij=>?_,fun p hp j hj hu hij hpa=>?_,List.pairwise_cons.2 ⟨fun j hj hu hi' hij=>?_,?_⟩,fun p hp=>h7 p (by simp [hp]),fun j hj hij=>(by
        rcases List.mem_cons.1 hj with rfl | hj
        ·rw [hAi];exact .inl (h7 _ (by simp))
        ·rw [hA j hj];exact h8 j hj hij)⟩
       ·rcases List.mem_cons.1 hj with rfl | hj
        ·rw [hAi];exact hnany
        ·rw [hA j hj];exact h3 j hj hij
       ·rcases List.mem_cons.1 hj with rfl | hj
        ·rw [hAi]
         have:=hall p hp
         rw [hu] at this
         simpa using this
        ·rw [hA j hj]
         exact h4 p (by simp [hp]) j hj hu hij hpa
       ·rw [hAi,hA j hj]
        exact h4 (i,kindC C f o st q.2.h) (by simp) j hj hu hij hnany
       ·refine h5.imp_of_mem ?_
        intro a b ha' hb' hh
        rw [hA a ha',hA b hb']
        exact hh
      ·cases h
     ·obtain ⟨q,hq,h⟩:=bindO_eq h
      obtain ⟨A,stf,acc1,h1,h2,h3,h4,h5,h7,h8⟩:=vdrawA_run r acc _ hn' (fun p hp hh=>ha p hp (by simp [hh])) h
      refine ⟨A,stf,acc1,⟨_,⟨o,ho,hlen,.inr ⟨hg,q.1,q.2,hq,fun e=>(by rw [hi] at e;cases e),rfl⟩⟩,h1⟩,h2,fun j hj hij=>?_,fun p hp j hj hu hij hpa=>?_,List.pairwise_cons.2 ⟨fun j hj hu hi' hij=>?_,h5⟩,h7,fun j hj hij=>(by
       rcases List.mem_cons.1 hj with rfl | hj
       ·rw [hi] at hij;cases hij
       ·exact h8 j hj hij)⟩
      ·rcases List.mem_cons.1 hj with rfl | hj
       ·rw [hi] at hij;cases hij
       ·exact h3 j hj hij
      ·rcases List.mem_cons.1 hj with rfl | hj
       ·rw [hi] at hij;cases hij
       ·exact h4 p hp j hj hu hij hpa
      ·rw [hi] at hi';cases hi'
    ·rw [hb] at hg
     obtain ⟨A,stf,acc1,h1,h2,h3,h4,h5,h7,h8⟩:=vdrawA_run r acc _ hn' (fun p hp hh=>ha p hp (by simp [hh])) h
     let A':Nat→Kd:=fun j=>if j=i then .none else A j
     have hA:∀ j∈r,A' j=A j:=fun j hj=>by
      have:j≠i:=fun e=>hir (e ▸ hj)
      simp [A',this]
     have hAi:A' i=.none:=by simp [A']
     have hrun:∀ (r:List Nat) (s s':St),(∀ j∈r,A' j=A j)→Run C vb f ops un h0 A r s s'→Run C vb f ops un h0 A' r s s':=by
      intro r
      induction r with
      | nil=>intro s s' _ h;exact h
      | cons j r ih =>
       rintro s s' he ⟨s2,⟨o2,k1,k2,k3⟩,k4⟩
       refine ⟨s2,⟨o2,k1,k2,?_⟩,ih s2 s' (fun x hx=>he x (by simp [hx])) k4⟩
       rw [he j (by simp)]
       exact k3
     have hnn:∀ K:Kd,K≠.any→compatK h0 K .none=true∧compatK h0 .none K=true:=by
      intro K hK;cases K<;>first | exact ⟨rfl,rfl⟩ | exact absurd rfl hK
     refine ⟨A',stf,acc1,⟨_,⟨o,ho,hlen,.inl ⟨hg,fun _=>hAi,rfl⟩⟩,hrun r _ _ hA h1⟩,h2,fun j hj hij=>?_,fun p hp j hj hu hij hpa=>?_,List.pairwise_cons.2 ⟨fun j hj hu hi' hij=>?_,?_⟩,h7,fun j hj hij=>(by
      rcases List.mem_cons.1 hj with rfl | hj
      ·exact .inr hAi
      ·rw [hA j hj];exact h8 j hj hij)⟩
     ·rcases List.mem_cons.1 hj with rfl | hj
      ·rw [hAi];simp
      ·rw [hA j hj];exact h3 j hj hij
     ·rcases List.mem_cons.1 hj with rfl | hj
      ·rw [hAi];exact (hnn _ hpa).1
      ·rw [hA j hj]
       exact h4 p hp j hj hu hij hpa
     ·rw [hAi,hA j hj]
      exact (hnn _ (h3 j hj hij)).2
     ·refine h5.imp_of_mem ?_
      intro a b ha' hb' hh
      rw [hA a ha',hA b hb']
      exact hh
   ·cases h
theorem vdraw_run {ks:St→Option FOut} {out:FOut} (l:List Nat) (acc:List (Nat×Kd)) (st:St) (h1:l.Nodup) (h2:∀ p∈acc,p.1∉l) (h:vdraw C vb f un h0 ops.toList l acc st ks=some out) :
  ∃ (A:Nat→Kd) (stf:St),Run C vb f ops un h0 A l st stf∧ks stf=some out∧(∀ i∈l,involved un i=true→A i≠.any) ∧
   (∀ p∈acc,∀ i∈l,unAt un p.1 i=true→involved un i=true→p.2≠.any→compatK h0 p.2 (A i)=true)∧l.Pairwise (fun j i=>unAt un j i=true→involved un j=true→involved un i=true→compatK h0 (A j) (A i)=true):=by
 obtain ⟨A,stf,_,q1,q2,q3,q4,q5,_⟩:=vdrawA_run l acc st h1 h2 h
 exact ⟨A,stf,q1,q2,q3,q4,q5⟩
theorem run_sound (hvb:∀ i,VbSound C (vb i)) {ρ:Option Nat} {n B τ:Nat} {g:Gh} {w:World} {Q:Exit→Act→World→Prop} {stf:St} {rest:List Nat}
  (hn:∀ g' a' w',Later B τ g g' w w'→R B τ g' stf a' w'→wpOpsIn (FW ρ) n C.P ops Q rest a' w') :
  ∀ (l:List Nat) (st:St) (g1:Gh) (a1:Act) (w1:World),Run C vb f ops un h0 A l st stf→Later B τ g g1 w w1→R B τ g1 st a1 w1→wpOpsIn (FW ρ) n C.P ops Q (l++rest) a1 w1
 | [],st,g1,a1,w1,h,hl,hR=>by cases h;exact hn g1 a1 w1 hl hR
 | i::l,st,g1,a1,w1,h,hl,hR=>by
  obtain ⟨s,⟨o,ho,_,h⟩,hrun⟩:=h
  rw [List.cons_append]
  unfold wpOpsIn
  rw [ho]
  dsimp only
  rcases h with ⟨hg,_,rfl⟩ | ⟨hg,v,s',hv,_,rfl⟩
  ·unfold guardV at hg
   cases hgd:o.guard with
   | none=>rw [hgd] at hg;cases hg
   | some p =>
    obtain ⟨j,want⟩:=p
    rw [hgd] at hg
    have hws:=wanted_sound hR hgd hg
    rw [if_neg (by rw [hws];simp)]
    exact ⟨fun _ _=>trivial,run_sound hvb hn l _ g1 _ w1 hrun hl (skip_sound hR _)⟩
  ·have hw:Region.wanted o (yielded ops a1.tmps)=true:=by
    unfold guardV at hg
    cases hgd:o.guard with
    | none=>exact wanted_none hgd
    | some p =>
     obtain ⟨j,want⟩:=p
     rw [hgd] at hg
     exact wanted_sound hR hgd hg
   rw [if_pos hw]
   refine vop_sound (hvb i) hv hR (fun v' st' g' u w' hl' hR' hvv hkk=>?_) (fun v' st' g' u w' d _ _ _ _ hkk=>by cases hkk)
   cases hkk
   exact run_sound hvb hn l _ g' _ w' hrun (hl.trans hl') (put_sound hR' hvv)
end
end Go.Fw
namespace Go.Fw
open Go.RowKit
inductive Ord (ops:Array Oper):Nat→Nat→Prop
 | edge {i:Nat} {o:Oper} {e:Edge} (ho:ops[i]?=some o) (he:e∈o.after) (hb:Region.binds .any e=true):Ord ops e.on i
 | step {i j:Nat} {o:Oper} {e:Edge} (ho:ops[i]?=some o) (he:e∈o.after) (hb:Region.binds .any e=true) (h:Ord ops j e.on):Ord ops j i
def Pre (md:Region.Mode) (ops:Array Oper) (σ:List Nat):Prop:=∀ pre i post,σ=pre++i::post→∀ o,ops[i]?=some o→∀ e∈o.after,Region.binds md e=true→e.on∈pre
theorem binds_any {md:Region.Mode} {e:Edge} (h:Region.binds .any e=true):Region.binds md e=true:=by
 unfold Region.binds at *
 cases hg:e.ground<;>rw [hg] at h<;>first | rfl | (simp at h)
theorem ord_pre {md:Region.Mode} {ops:Array Oper} {σ:List Nat} (hp:Pre md ops σ) {i j:Nat} (h:Ord ops j i):∀ pre post,σ=pre++i::post→j∈pre:=by
 induction h with
 | edge ho he hb=>exact fun pre post e=>hp pre _ post e _ ho _ he (binds_any hb)
 | step ho he hb h ih =>
  intro pre post e
  have hin:=hp pre _ post e _ ho _ he (binds_any hb)
  obtain ⟨p1,p2,rfl⟩:=List.append_of_mem hin
  have:=ih p1 (p2++_::post) (by rw [e,List.append_assoc];rfl)
  exact List.mem_append_left _ this
theorem pairwise_split {α:Type} {T:α→α→Prop}:∀ {σ:List α},(∀ p a m b q,σ=p++a::(m++b::q)→T a b)→σ.Pairwise T
 | [],_=>.nil
 | x::σ,h=>by
  refine List.pairwise_cons.2 ⟨fun y hy=>?_,pairwise_split (fun p a m b q e=>h (x::p) a m b q (by rw [e];rfl))⟩
  obtain ⟨m,q,rfl⟩:=List.append_of_mem hy
  exact h [] x m y q rfl
theorem pre_pairwise {md:Region.Mode} {ops:Array Oper} {σ:List Nat} (hp:Pre md ops σ) (hn:σ.Nodup):σ.Pairwise (fun a b=>¬Ord ops b a):=by
 refine pairwise_split (fun p a m b q e ho=>?_)
 have:=ord_pre hp ho p (m++b::q) e
 rw [e] at hn
 have h2:=(List.nodup_append.1 hn).2.2 b this b (by simp)
 exact h2 rfl
theorem nodup_sub_len {α:Type} [DecidableEq α]:∀ {l m:List α},l.Nodup→(∀ x∈l,x∈m)→l.length≤m.length
 | [],m,_,_=>Nat.zero_le _
 | x::l,m,hn,h=>by
  obtain ⟨h1,h2⟩:=List.nodup_cons.1 hn
  have hx:=h x (by simp)
  have:=nodup_sub_len (m:=m.erase x) h2 (fun y hy=>(List.mem_erase_of_ne (by rintro rfl;exact h1 hy)).2 (h y (by simp [hy])))
  rw [List.length_erase_of_mem hx] at this
  have hpos:0<m.length:=List.length_pos_of_mem hx
  simp only [List.length_cons]
  omega
theorem full_mem {l:List Nat} {n:Nat} (hn:l.Nodup) (hb:∀ x∈l,x<n) (hl:l.length=n):∀ i,i∈l↔i<n:=by
 intro i
 refine ⟨hb i,fun hi=>?_⟩
 by_cases h:i∈l
 ·exact h
 ·exfalso
  have:=nodup_sub_len (l:=i::l) (m:=List.range n) (List.nodup_cons.2 ⟨h,hn⟩) (fun x hx=>by
   rcases List.mem_cons.1 hx with rfl | hx
   ·exact List.mem_range.2 hi
   ·exact List.mem_range.2 (hb x hx))
  simp at this
  omega
structure Inv (md:Region.Mode) (ops:Array Oper) (listed:Array Bool) (acc:List Nat):Prop where
 size:listed.size=ops.size
 mem:∀ i,listed.getD i false=true↔i∈acc
 nodup:acc.Nodup
 lt:∀ x∈acc,x<ops.size
 pre:Pre md ops acc.reverse
theorem Inv.next {md:Region.Mode} {ops:Array Oper} {listed:Array Bool} {acc:List Nat} (h:Inv md ops listed acc) {i:Nat} (hi:i∈Region.ready md ops listed):Inv md ops (listed.setIfInBounds i true) (i::acc):=by
 obtain ⟨h1,o,ho,h2⟩:=mem_ready.1 hi
 have hlt:i<ops.size:=(Array.getElem?_eq_some_iff.1 ho).1
 have hnot:i∉acc:=fun hm=>by
  have:=(h.mem i).2 hm
  have hs:i<listed.size:=by rw [h.size];exact hlt
  simp [hs] at this h1
  rw [this] at h1;cases h1
 refine ⟨by simpa using h.size,fun j=>?_,List.nodup_cons.2 ⟨hnot,h.nodup⟩,fun x hx=>?_,?_⟩
 ·by_cases hj:j=i
  ·subst hj
   have hs:j<listed.size:=by rw [h.size];exact hlt
   simp [hs]
  ·rw [getD_set_ne false (fun e=>hj e.symm),h.mem j]
   simp [hj]
 ·rcases List.mem_cons.1 hx with rfl | hx
  ·exact hlt
  ·exact h.lt x hx
 ·intro pre k post e o' ho' ed hed hb
  rw [List.reverse_cons] at e
  rcases List.append_eq_append_iff.1 e with ⟨a',e1,e2⟩ | ⟨c',e1,e2⟩
  ·cases a' with
   | nil =>
    simp only [List.nil_append,List.cons.injEq] at e2
    obtain ⟨rfl,_⟩:=e2
    rw [e1]
    rw [ho] at ho'
    cases ho'
    simp only [List.append_nil,List.mem_reverse]
    exact (h.mem _).1 (h2 ed hed hb)
   | cons z zs =>
    simp at e2
  ·cases c' with
   | nil =>
    simp only [List.nil_append,List.cons.injEq] at e2
    obtain ⟨rfl,_⟩:=e2
    rw [ho] at ho'
    cases ho'
    simp only [List.append_nil] at e1
    rw [←e1]
    simp only [List.mem_reverse]
    exact (h.mem _).1 (h2 ed hed hb)
   | cons z zs =>
    simp only [List.cons_append,List.cons.injEq] at e2
    obtain ⟨rfl,_⟩:=e2
    exact h.pre pre k zs e1 o' ho' ed hed hb
theorem go_pre {md:Region.Mode} {ops:Array Oper}:∀ (fuel t:Nat) (listed:Array Bool) (acc:List Nat),Inv md ops listed acc→∃ (listed':Array Bool) (acc':List Nat),Region.linearise.go md ops fuel t listed acc=acc'.reverse∧Inv md ops listed' acc' ∧
  (fuel+acc.length=ops.size→acc'.length=ops.size∨Region.ready md ops listed'=[]):=by
 intro fuel
 induction fuel with
 | zero=>intro t listed acc h;exact ⟨listed,acc,rfl,h,fun e=>.inl (by omega)⟩
 | succ fuel ih =>
  intro t listed acc h
  simp only [Region.linearise.go]
  change ∃ (listed':Array Bool) (acc':List Nat),(match (Region.ready md ops listed)[t % (Region.ready md ops listed).length]? with
   | some i=>Region.linearise.go md ops fuel (t / (Region.ready md ops listed).length) (listed.setIfInBounds i true) (i::acc)
   | none=>acc.reverse)=acc'.reverse∧_
  cases hi:(Region.ready md ops listed)[t % (Region.ready md ops listed).length]? with
  | none =>
   refine ⟨listed,acc,rfl,h,fun _=>.inr ?_⟩
   cases hr:Region.ready md ops listed with
   | nil=>rfl
   | cons x xs =>
    rw [hr] at hi
    have hlt:t % (x::xs).length<(x::xs).length:=Nat.mod_lt _ (by simp)
    rw [List.getElem?_eq_getElem hlt] at hi
    cases hi
  | some i =>
   obtain ⟨l',a',h1,h2,h3⟩:=ih (t / (Region.ready md ops listed).length) _ _ (h.next (List.mem_of_getElem? hi))
   exact ⟨l',a',h1,h2,fun e=>h3 (by simp only [List.length_cons];omega)⟩
theorem inv_start (md:Region.Mode) (ops:Array Oper):Inv md ops (Array.replicate ops.size false) []:=by
 refine ⟨by simp,fun i=>?_,List.nodup_nil,by simp,fun pre i post e=>by simp at e⟩
 by_cases hi:i<ops.size<;>simp [hi]
theorem lin_pre (md:Region.Mode) (ops:Array Oper) (t:Nat):(Region.linearise md ops t).Nodup∧(∀ x∈Region.linearise md ops t,x<ops.size)∧Pre md ops (Region.linearise md ops t):=by
 obtain ⟨l',a',h1,h2,_⟩:=go_pre ops.size t _ _ (inv_start md ops)
 unfold Region.linearise
 rw [h1]
 exact ⟨List.pairwise_reverse.2 (h2.nodup.imp (fun h e=>h e.symm)),fun x hx=>h2.lt x (by simpa using hx),h2.pre⟩
def Topo (md:Region.Mode) (ops:Array Oper):Prop:=∃ τ0:List Nat,(∀ i,i∈τ0↔i<ops.size)∧Pre md ops τ0
theorem first_not {acc:List Nat}:∀ {l:List Nat},(∃ i∈l,i∉acc)→∃ p i q,l=p++i::q∧i∉acc∧∀ x∈p,x∈acc
 | [],h=>by obtain ⟨i,hi,_⟩:=h;simp at hi
 | x::l,h=>by
  by_cases hx:x∈acc
  ·obtain ⟨i,hi,hn⟩:=h
   have hil:i∈l:=by
    rcases List.mem_cons.1 hi with rfl | hi
    ·exact absurd hx hn
    ·exact hi
   obtain ⟨p,j,q,rfl,h1,h2⟩:=first_not ⟨i,hil,hn⟩
   exact ⟨x::p,j,q,rfl,h1,fun y hy=>by
    rcases List.mem_cons.1 hy with rfl | hy
    ·exact hx
    ·exact h2 y hy⟩
  ·exact ⟨[],x,l,rfl,hx,by simp⟩
theorem lin_full {md:Region.Mode} {ops:Array Oper} (hT:Topo md ops) (t:Nat):(Region.linearise md ops t).length=ops.size:=by
 obtain ⟨l',a',h1,h2,h3⟩:=go_pre ops.size t _ _ (inv_start md ops)
 unfold Region.linearise
 rw [h1,List.length_reverse]
 rcases h3 (by simp) with h | h
 ·exact h
 ·obtain ⟨τ0,hm,hp⟩:=hT
  by_cases hall:∀ i∈τ0,i∈a'
  ·have h4:=nodup_sub_len (l:=List.range ops.size) (m:=a') List.nodup_range (fun x hx=>hall x ((hm x).2 (List.mem_range.1 hx)))
   have h5:=nodup_sub_len (l:=a') (m:=List.range ops.size) h2.nodup (fun x hx=>List.mem_range.2 (h2.lt x hx))
   simp at h4 h5
   omega
  ·exfalso
   have hex:∃ i∈τ0,i∉a':=by
    apply Classical.byContradiction
    intro hne
    exact hall (fun i hi=>Classical.byContradiction fun hn=>hne ⟨i,hi,hn⟩)
   obtain ⟨p,i,q,rfl,hn,hpa⟩:=first_not hex
   have hlt:=(hm i).1 (by simp)
   have:i∈Region.ready md ops l':=by
    refine mem_ready.2 ⟨?_,ops[i],Array.getElem?_eq_getElem hlt,fun e he hb=>(h2.mem _).2 (hpa _ (hp p i q rfl _ (Array.getElem?_eq_getElem hlt) e he hb))⟩
    have hs:i<l'.size:=by rw [h2.size];exact hlt
    have hf:¬l'.getD i false=true:=fun hh=>hn ((h2.mem i).1 hh)
    simp [hs] at hf ⊢
    exact hf
   rw [h] at this
   simp at this
theorem topo_back {md:Region.Mode} {ops:Array Oper} (h:∀ i o,ops[i]?=some o→∀ e∈o.after,Region.binds md e=true→e.on<i):Topo md ops:=by
 refine ⟨List.range ops.size,fun i=>List.mem_range,fun pre i post e o ho ed hed hb=>?_⟩
 have hlt:=h i o ho ed hed hb
 have hi:i<ops.size:=(Array.getElem?_eq_some_iff.1 ho).1
 have hin:ed.on∈List.range ops.size:=List.mem_range.2 (by omega)
 have hpw:(List.range ops.size).Pairwise (·<·):=List.pairwise_lt_range
 rw [e] at hin hpw
 rcases List.mem_append.1 hin with h | h
 ·exact h
 ·exfalso
  rcases List.mem_cons.1 h with h | h
  ·omega
  ·have:=(List.pairwise_cons.1 (List.pairwise_append.1 hpw).2.1).1 _ h
   omega
def backOk (ops:Array Oper):Bool:=(List.range ops.size).all fun i=>match ops[i]? with
 | some o=>o.after.toList.all fun e=>(match e.ground with | .gcOnly _=>true | _=>decide (e.on<i))
 | none=>false
def topoOk (ops:Array Oper):Bool:=backOk ops&&(!Region.departs ops||(Region.linearise .gc ops 0).length==ops.size)
theorem schedule_ok {ops:Array Oper} (h:topoOk ops=true) (mixed:Bool) (t:Nat):∃ md,(Region.schedule mixed ops t).Nodup∧(∀ i,i∈Region.schedule mixed ops t↔i<ops.size)∧Pre md ops (Region.schedule mixed ops t):=by
 unfold topoOk at h
 simp only [Bool.and_eq_true,Bool.or_eq_true,Bool.not_eq_true',beq_iff_eq] at h
 obtain ⟨hb,hg⟩:=h
 have back:∀ md,md≠.gc→Topo md ops:=by
  intro md hmd
  refine topo_back (fun i o ho e he hbd=>?_)
  unfold backOk at hb
  rw [List.all_eq_true] at hb
  have:=hb i (List.mem_range.2 (Array.getElem?_eq_some_iff.1 ho).1)
  rw [ho] at this
  dsimp only at this
  rw [List.all_eq_true] at this
  have:=this e (by simpa using he)
  unfold Region.binds at hbd
  cases hgr:e.ground with
  | gcOnly r =>
   rw [hgr] at hbd
   cases md<;>first | exact absurd rfl hmd | (simp at hbd;done)
  | _=>rw [hgr] at this;simpa using this
 have fin:∀ md t,Topo md ops→∃ md',(Region.linearise md ops t).Nodup∧(∀ i,i∈Region.linearise md ops t↔i<ops.size)∧Pre md' ops (Region.linearise md ops t):=by
  intro md t hT
  obtain ⟨h1,h2,h3⟩:=lin_pre md ops t
  exact ⟨md,h1,full_mem h1 h2 (lin_full hT t),h3⟩
 unfold Region.schedule
 split
 ·exact fin .any t (back _ (by simp))
 ·rename_i hm
  have hdep:Region.departs ops=true:=by
   cases hd:Region.departs ops with
   | true=>rfl
   | false=>rw [hd] at hm;simp at hm
  have hgc:Topo .gc ops:=by
   rcases hg with h | h
   ·rw [hdep] at h;cases h
   ·obtain ⟨h1,h2,h3⟩:=lin_pre .gc ops 0
    exact ⟨_,full_mem h1 h2 h,h3⟩
  split
  ·exact fin .text _ (back _ (by simp))
  ·exact fin .gc _ hgc
/-! ### the check -/
def maskOf (acc:List Nat) (o:Oper):Nat:=o.after.toList.foldl (fun s e=>if Region.binds .any e then s ||| 2 ^ e.on ||| acc.getD e.on 0 else s) 0
def masks:List Oper→List Nat→List Nat
 | [],acc=>acc
 | o::r,acc=>masks r (acc++[maskOf acc o])
theorem maskOf_spec {acc:List Nat} {T:Nat→Prop}:∀ (es:List Edge) (s:Nat),(∀ j,s.testBit j=true→T j)→(∀ e∈es,Region.binds .any e=true→T e.on∧∀ j,(acc.getD e.on 0).testBit j=true→T j) →
  ∀ j,(es.foldl (fun s e=>if Region.binds .any e then s ||| 2 ^ e.on ||| acc.getD e.on 0 else s) s).testBit j=true→T j
 | [],s,h,_,j,hj=>h j hj
 | e::es,s,h,he,j,hj=>by
  rw [List.foldl_cons] at hj
  refine maskOf_spec es _ (fun k hk=>?_) (fun e' he'=>he e' (by simp [he'])) j hj
  split at hk
  ·rename_i hb
   rw [Nat.testBit_or,Nat.testBit_or,Bool.or_eq_true,Bool.or_eq_true] at hk
   rcases hk with (hk | hk) | hk
   ·exact h k hk
   ·rw [Nat.testBit_two_pow] at hk
    have:e.on=k:=by simpa using hk
    exact this ▸ (he e (by simp) hb).1
   ·exact (he e (by simp) hb).2 k hk
  ·exact h k hk
theorem masks_spec {ops:Array Oper}:∀ (rest done:List Oper) (acc:List Nat),ops.toList=done++rest→acc.length=done.length→(∀ i m,acc[i]?=some m→∀ j,m.testBit j=true→Ord ops j i) →
  ∀ i m,(masks rest acc)[i]?=some m→∀ j,m.testBit j=true→Ord ops j i
 | [],done,acc,_,_,h=>h
 | o::rest,done,acc,he,hl,h=>by
  unfold masks
  refine masks_spec rest (done++[o]) _ (by rw [he];simp) (by simp [hl]) (fun i m hm j hj=>?_)
  by_cases hi:i<acc.length
  ·rw [List.getElem?_append_left hi] at hm
   exact h i m hm j hj
  ·rw [List.getElem?_append_right (by omega)] at hm
   have hi0:i-acc.length=0:=by
    have:=(List.getElem?_eq_some_iff.1 hm).1
    simp at this;omega
   rw [hi0] at hm
   simp only [List.getElem?_cons_zero,Option.some.injEq] at hm
   subst hm
   have hie:i=done.length:=by omega
   have ho:ops[i]?=some o:=by
    rw [←Array.getElem?_toList,he,hie]
    simp
   refine maskOf_spec (T:=fun j=>Ord ops j i) _ 0 (fun j hj=>by simp at hj) (fun e hed hb=>⟨.edge ho (by simpa using hed) hb,fun k hk=>?_⟩) j hj
   refine .step ho (by simpa using hed) hb ?_
   rw [List.getD_eq_getElem?_getD] at hk
   cases hm:acc[e.on]? with
   | none=>rw [hm] at hk;simp at hk
   | some m=>rw [hm] at hk;exact h _ m hm k hk
def okUn (ops:Array Oper) (un:List Nat):Bool :=
 ((List.range ops.size).all fun i=>(List.range i).all fun j=>((masks ops.toList []).getD i 0).testBit j||(unAt un j i&&(match ops[j]?,ops[i]? with | some x,some y=>x.apart ops y | _,_=>false)))&&topoOk ops
theorem free_of {C:Cx} {f:FuncId} {ops:Array Oper} {un:List Nat} {h0:Nat} {A:Nat→Kd} (hk:okUn ops un=true) {m:Nat} (hm:m≤ops.size) (h5:(List.range m).Pairwise (fun j i=>unAt un j i=true→involved un j=true→involved un i=true→compatK h0 (A j) (A i)=true)) :
  ∀ x∈List.range m,∀ y∈List.range m,y<x→Ord ops y x∨Free ops un h0 A y x:=by
 intro x hx y hy hlt
 unfold okUn at hk
 rw [Bool.and_eq_true] at hk
 obtain ⟨hk,_⟩:=hk
 rw [List.all_eq_true] at hk
 have hxs:=List.mem_range.1 hx
 have:=hk x (List.mem_range.2 (by omega))
 rw [List.all_eq_true] at this
 have:=this y (List.mem_range.2 hlt)
 rw [Bool.or_eq_true,Bool.and_eq_true] at this
 rcases this with h | ⟨hu,hap⟩
 ·left
  rw [List.getD_eq_getElem?_getD] at h
  cases hmm:(masks ops.toList [])[x]? with
  | none=>rw [hmm] at h;simp at h
  | some m =>
   rw [hmm] at h
   exact masks_spec ops.toList [] [] (by simp) rfl (fun i m hi=>by simp at hi) x m hmm y h
 ·right
  have hix:involved un x=true:=by
   unfold involved
   unfold unAt at hu
   rw [Bool.or_eq_true]
   left
   simp only [bne_iff_ne,ne_eq]
   intro e
   rw [e] at hu;simp at hu
  have hiy:involved un y=true:=by
   unfold involved
   unfold unAt at hu
   rw [Bool.or_eq_true]
   right
   rw [List.getD_eq_getElem?_getD] at hu
   cases hmm:un[x]? with
   | none=>rw [hmm] at hu;simp at hu
   | some m =>
    rw [hmm] at hu
    exact List.any_eq_true.2 ⟨m,List.mem_of_getElem? hmm,hu⟩
  refine ⟨hu,hiy,hix,?_,?_⟩
  ·have:=List.pairwise_iff_getElem.1 h5 y x (by simp;omega) (by simpa using hxs) hlt
   simp only [List.getElem_range] at this
   exact this hu hiy hix
  ·split at hap
   ·rename_i oy ox hoy hox
    exact ⟨oy,ox,hoy,hox,hap⟩
   ·cases hap
theorem last_ord {ops:Array Oper} {un:List Nat} (hk:okUn ops un=true) {x:Nat} (hx:x<ops.size) (hi:involved un x=false):∀ y,y<x→Ord ops y x:=by
 intro y hlt
 unfold okUn at hk
 rw [Bool.and_eq_true] at hk
 obtain ⟨hk,_⟩:=hk
 rw [List.all_eq_true] at hk
 have:=hk x (List.mem_range.2 hx)
 rw [List.all_eq_true] at this
 have:=this y (List.mem_range.2 hlt)
 rw [Bool.or_eq_true,Bool.and_eq_true] at this
 rcases this with h | ⟨hu,_⟩
 ·rw [List.getD_eq_getElem?_getD] at h
  cases hmm:(masks ops.toList [])[x]? with
  | none=>rw [hmm] at h;simp at h
  | some m =>
   rw [hmm] at h
   exact masks_spec ops.toList [] [] (by simp) rfl (fun i m hi=>by simp at hi) x m hmm y h
 ·exfalso
  unfold involved at hi
  rw [Bool.or_eq_false_iff] at hi
  have h0:un.getD x 0=0:=by simpa using hi.1
  unfold unAt at hu
  rw [h0] at hu
  simp at hu
theorem draw_sound {C:Cx} {f:FuncId} {id:Nat} {ops:Array Oper} (hok:∀ un,C.un f id=some un→okUn ops un=true):DrawSound C f id ops:=by
 constructor
 ·intro un hun vb st _ hvb ks out h ρ n B τ g a w Q hR hQ
  have hk:=hok un hun
  have htopo:topoOk ops=true:=by unfold okUn at hk;rw [Bool.and_eq_true] at hk;exact hk.2
  obtain ⟨A,stf,h1,h2,h3,_,h5⟩:=vdraw_run (List.range ops.size) [] st List.nodup_range (by simp) h
  refine wpIn_region_draw (fun t=>?_)
  obtain ⟨md,hn,hm,hp⟩:=schedule_ok htopo (C.P.follows .mixedOrders) t
  have hperm:=run_perm (C:=C) (vb:=vb) (f:=f) (ops:=ops) (un:=un) (h0:=st.h.length) (A:=A) (Ord:=Ord ops) _ (List.range ops.size) hn List.nodup_range (fun i=>(hm i).trans List.mem_range.symm) List.pairwise_lt_range (pre_pairwise hp hn) (free_of (C:=C) (f:=f) hk (Nat.le_refl _) h5) h1
  have:=run_sound hvb (g:=g) (w:=w) (ρ:=ρ) (n:=n) (B:=B) (τ:=τ) (Q:=Q) (rest:=[]) (fun g' a' w' hl hR'=>hQ stf g' a' w' hl hR' h2) _ st g a _ hperm (drew_R hR).1 (drew_R hR).2
  rw [List.append_nil] at this
  exact this
 ·intro un hun hlf vb st hvb ks out h ρ n B τ g a w Q hR hQ
  have hk:=hok un hun
  have htopo:topoOk ops=true:=by unfold okUn at hk;rw [Bool.and_eq_true] at hk;exact hk.2
  unfold lastFree at hlf
  rw [Bool.and_eq_true,decide_eq_true_eq,Bool.not_eq_true',involvedF_eq] at hlf
  obtain ⟨hpos,hni⟩:=hlf
  have hord:=last_ord hk (x:=ops.size-1) (by omega) hni
  obtain ⟨A,stf,h1,h2,h3,_,h5⟩:=vdraw_run (List.range (ops.size-1)) [] st List.nodup_range (by simp) h
  refine wpIn_region_draw (fun t=>?_)
  obtain ⟨md,hn,hm,hp⟩:=schedule_ok htopo (C.P.follows .mixedOrders) t
  generalize Region.schedule (C.P.follows .mixedOrders) ops t=σ at hn hm hp
  obtain ⟨p,q,rfl⟩:=List.append_of_mem ((hm (ops.size-1)).2 (by omega))
  have hq:q=[]:=by
   cases q with
   | nil=>rfl
   | cons y q =>
    exfalso
    have hy:y<ops.size:=(hm y).1 (by simp)
    have hne:y≠ops.size-1:=by
     rintro rfl
     have:=(List.nodup_append.1 hn).2.1
     simp at this
    have:=ord_pre hp (hord y (by omega)) p (y::q) rfl
    exact (List.nodup_append.1 hn).2.2 y this y (by simp) rfl
  subst hq
  have hnp:p.Nodup:=(List.nodup_append.1 hn).1
  have hlast:ops.size-1∉p:=fun hh=>(List.nodup_append.1 hn).2.2 _ hh (ops.size-1) (by simp) rfl
  have hperm:=run_perm (C:=C) (vb:=vb) (f:=f) (ops:=ops) (un:=un) (h0:=st.h.length) (A:=A) (Ord:=Ord ops) p (List.range (ops.size-1)) hnp List.nodup_range (fun i=>by
   constructor
   ·intro hi
    have:=(hm i).1 (by simp [hi])
    have:i≠ops.size-1:=by rintro rfl;exact hlast hi
    exact List.mem_range.2 (by omega)
   ·intro hi
    have hi:=List.mem_range.1 hi
    have:=(hm i).2 (by omega)
    rcases List.mem_append.1 this with h | h
    ·exact h
    ·simp at h;omega) List.pairwise_lt_range (List.pairwise_append.1 (pre_pairwise hp hn)).1 (free_of (C:=C) (f:=f) hk (by omega) h5) h1
  exact run_sound hvb (g:=g) (w:=w) (fun g' a' w' hl hR'=>hQ stf g' a' w' hl hR' h2) _ st g a _ hperm (drew_R hR).1 (drew_R hR).2
def drawsOk (C:Cx) (f:FuncId):Bool:=match C.P.funcs[f]? with
 | some fn=>match fn.body with
  | some c=>(drawRegs c).all fun p=>match C.un f p.1 with
   | some un=>okUn p.2 un
   | none=>true
  | none=>true
 | none=>true
theorem drawSound_of (C:Cx) (hD:∀ f,(∃ id,C.un f id≠none)→drawsOk C f=true):∀ f id ops,RegOf C.P f id ops→DrawSound C f id ops:=by
 rintro f id ops ⟨fn,c,hf,hc,hp⟩
 refine draw_sound (fun un hun=>?_)
 have:=hD f ⟨id,by rw [hun];simp⟩
 unfold drawsOk at this
 rw [hf] at this
 dsimp only at this
 rw [hc] at this
 dsimp only at this
 rw [List.all_eq_true] at this
 have:=this (id,ops) hp
 rw [hun] at this
 exact this
theorem vcall_ok (C:Cx) (hCP:C.P=theP) (hD:∀ f,(∃ id,C.un f id≠none)→drawsOk C f=true) (n:Nat):VbSound C (vcall C n):=vcall_sound C hCP (drawSound_of C hD) n
end Go.Fw
