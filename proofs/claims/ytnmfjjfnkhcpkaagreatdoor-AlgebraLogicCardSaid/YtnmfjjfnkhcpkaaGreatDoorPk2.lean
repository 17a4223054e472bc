/- The operations (7): closures, elements, parts of slices. -/
import Derived.Test.YtnmfjjfnkhcpkaaGreatDoorPk1
import Derived.Laws.OwnMore
import Derived.ArgAppend
import Derived.KernelRfl
import Derived.RangeFuncRecord
import Derived.Lib.ConvBytes
set_option linter.all false
namespace Go.Fw
open Go.RowKit
section
variable {B τ:Nat} {g:Gh} {st:St} {a:Act} {w:World}
theorem useAll_sound:∀ (xs:List Operand) {g:Gh} {st:St},R B τ g st a w→∃ g',Later B τ g g' w w∧R B τ g' (st.useAll xs) a w∧g'.loc=g.loc
 | [],g,st,h=>⟨g,Later.refl ..,h,rfl⟩
 | x::xs,g,st,h=>by
  obtain ⟨g1,l1,h1,e1⟩:=use_loc h x
  obtain ⟨g2,l2,h2,e2⟩:=useAll_sound xs h1
  exact ⟨g2,l1.trans l2,h2,e2.trans e1⟩
where
 use_loc {g:Gh} {st:St} (h:R B τ g st a w) (x:Operand):∃ g',Later B τ g g' w w∧R B τ g' (st.useS x) a w∧g'.loc=g.loc:=by
  cases x with
  | tmp t =>
   have hm:=h.mark t
   refine ⟨_,later_share h t,?_,rfl⟩
   unfold St.useS
   dsimp only
   cases hl:isLin3 (getS st.fr t) with
   | true=>rw [condB_true];exact hm
   | false=>rw [condB_false];exact R.setSame hm (map3_of (fun _ h=>mark1_of h) hl)
  | const v=>exact ⟨g,Later.refl ..,h,rfl⟩
  | global b=>exact ⟨g,Later.refl ..,h,rfl⟩
  | func f=>exact ⟨g,Later.refl ..,h,rfl⟩
theorem peek_useS (st:St) (x y:Operand):map3 demote1 ((st.useS y).peek x)=map3 demote1 (st.peek x):=by
 have hdm:∀ v,demote1 (mark1 v)=demote1 v:=by intro v;cases v<;>rfl
 have hdm2:∀ v,map2 demote1 (map2 mark1 v)=map2 demote1 v:=by
  intro v
  by_cases ha:∃ vs,v=.agg vs
  ·obtain ⟨vs,rfl⟩:=ha
   simp only [map2,List.map_map]
   congr 1
   exact List.map_congr_left (fun v _=>hdm v)
  ·cases v<;>first | exact absurd ⟨_,rfl⟩ ha | rfl
 have hdm3:∀ v,map3 demote1 (map3 mark1 v)=map3 demote1 v:=by
  intro v
  by_cases ha:∃ vs,v=.tup vs
  ·obtain ⟨vs,rfl⟩:=ha
   simp only [map3,List.map_map]
   congr 1
   exact List.map_congr_left (fun v _=>hdm2 v)
  ·obtain ⟨a1,a2⟩:=map3_notTup isCell_mark1 (fun vs e=>ha ⟨vs,e⟩)
   obtain ⟨b1,_⟩:=map3_notTup isCell_demote1 (fun vs e=>ha ⟨vs,e⟩)
   obtain ⟨c1,_⟩:=map3_notTup isCell_demote1 a2
   rw [a1,b1,c1]
   exact hdm2 _
 cases y with
 | tmp t =>
  simp only [St.useS]
  cases hl:isLin3 (getS st.fr t) with
  | false=>rw [condB_false]
  | true =>
   rw [condB_true]
   cases x with
   | tmp s =>
    simp only [St.peek]
    by_cases hst:t=s
    ·subst hst
     by_cases hlt:t<st.fr.length
     ·rw [getS_eq (List.getElem?_set_self hlt)]
      exact hdm3 _
     ·have e:st.fr.set t (map3 mark1 (getS st.fr t))=st.fr:=List.set_eq_of_length_le (Nat.le_of_not_lt hlt)
      rw [e]
    ·simp only [getS,List.getD_eq_getElem?_getD,List.getElem?_set_ne hst]
   | const v=>rfl
   | global b=>rfl
   | func f=>rfl
 | const v=>rfl
 | global b=>rfl
 | func f=>rfl
theorem useV_useS (st:St) (x y:Operand):(st.useS y).useV x=st.useV x:=peek_useS st x y
theorem isLin1_demote (v:V):isLin1 (demote1 v)=false:=by cases v<;>rfl
theorem isLin2_demote (v:V):isLin2 (map2 demote1 v)=false:=by
 cases v<;>first | rfl | skip
 simp only [map2,isLin2,List.any_map]
 rw [List.any_eq_false]
 intro x _
 simp [isLin1_demote]
theorem isLin3_demote (v:V):isLin3 (map3 demote1 v)=false:=by
 by_cases ha:∃ vs,v=.tup vs
 ·obtain ⟨vs,rfl⟩:=ha
  simp only [map3,isLin3,List.any_map]
  rw [List.any_eq_false]
  intro x _
  simp [isLin2_demote]
 ·obtain ⟨b1,b2⟩:=map3_notTup isCell_demote1 (fun vs e=>ha ⟨vs,e⟩)
  rw [b1]
  have:=isLin2_demote v
  cases hm:map2 demote1 v<;>rw [hm] at this b2<;>first | exact this | exact absurd rfl (b2 _)
theorem RepA.any {g:Gh} {pl pl':Nat→Place} {v:V} {u:Value} (hv:isLin2 v=false) (h:RepA g pl v u):RepA g pl' v u:=by
 by_cases ha:∃ vs,v=.agg vs
 ·obtain ⟨vs,rfl⟩:=ha
  obtain ⟨cs,e,h1,h2⟩:=h
  refine ⟨cs,e,h1,fun j c hj hc=>(h2 j c hj hc).any ?_⟩
  simp only [isLin2] at hv
  rw [List.any_eq_false] at hv
  exact Bool.eq_false_iff.2 (hv c (List.mem_of_getElem? hc))
 ·rcases repA_inv h with e | h | h
  ·subst e;trivial
  ·exact repA_cell (h.any (by cases v<;>first | exact hv | exact absurd ⟨_,rfl⟩ ha))
  ·exact absurd h ha
theorem RepS.any {g:Gh} {τ d τ' d':Nat} {v:V} {u:Value} (hv:isLin3 v=false) (h:RepS g τ d v u):RepS g τ' d' v u:=by
 by_cases ha:∃ vs,v=.tup vs
 ·obtain ⟨vs,rfl⟩:=ha
  obtain ⟨cs,e,h1,h2⟩:=h
  refine ⟨cs,e,h1,fun j c hj hc=>(h2 j c hj hc).any ?_⟩
  simp only [isLin3] at hv
  rw [List.any_eq_false] at hv
  exact Bool.eq_false_iff.2 (hv c (List.mem_of_getElem? hc))
 ·have hv':∀ vs,v≠.tup vs:=fun vs e=>ha ⟨vs,e⟩
  rw [repS_notTup hv'] at h ⊢
  exact h.any (by cases v<;>first | exact hv | exact absurd rfl (hv' _))
theorem uses_sound:∀ (xs:List Operand) {g:Gh} {st:St},R B τ g st a w→∃ g',Later B τ g g' w w∧R B τ g' (st.useAll xs) a w∧∀ (j:Nat) (x:Operand),xs[j]?=some x→∀ τ' d,RepS g' τ' d (st.useV x) (a.eval x)
 | [],g,st,h=>⟨g,Later.refl ..,h,fun j x hx=>by cases hx⟩
 | x::xs,g,st,h=>by
  obtain ⟨g1,l1,h1,e1⟩:=use_sound h x
  obtain ⟨g2,l2,h2,e2⟩:=uses_sound xs h1
  refine ⟨g2,l1.trans l2,h2,fun j y hy τ' d=>?_⟩
  cases j with
  | zero =>
   cases hy
   have h1:=(e1 (τ+1) d).mono l2.mem l2.loc (fun j k b x hx hp=>l2.lin b x hx ⟨τ+1,_,_,_,hp,by omega⟩)
   exact h1.any (isLin3_demote _)
  | succ j =>
   have:=e2 j y hy τ' d
   rwa [useV_useS] at this
end
end Go.Fw
namespace Go.Fw
open Go.RowKit
section
variable {C:Cx} {vb:FuncId→List V→List Blk→Option FOut} {f:FuncId} {ρ:Option Nat} {n:Nat} {o:Oper} {st:St} {α:Type} {k kp:V→St→Option α} {out:α}
 {B τ:Nat} {g:Gh} {a:Act} {w:World} {next:Act→World→Prop} {Q:Exit→Act→World→Prop}
theorem RepC.repP {g:Gh} {p:Place} {v:V} {u:Value} (h:RepC g p v u) (hv:capOk v=true):RepP g v u:=by
 cases v<;>simp only [capOk] at hv<;>first | exact h | cases hv | skip
 simp only [Bool.and_eq_true,List.isEmpty_iff] at hv
 obtain ⟨rfl,rfl⟩:=hv
 obtain ⟨x,y,rfl,h1,h2,_,_⟩:=h
 exact RepI.fn _ _ _ _ _ h1 h2 (fun j c hj hc=>by cases hc) (fun j c hj hc=>by cases hc)
theorem repS_cell {g:Gh} {τ d:Nat} {v:V} {u:Value} (h:RepS g τ d v u) (hc:isCell v=true) (hu:v≠.undef):RepC g (.slot τ d 0 0) v u:=by
 rw [repS_notTup (by intro vs e;subst e;cases hc)] at h
 rcases repA_inv h with e | h | ⟨vs,e⟩
 ·exact absurd e hu
 ·exact h
 ·subst e;cases hc
theorem op_makeFunc {fn':Fn} {first caps:Array Operand} (ho:o.op=.makeFunc fn' first caps) (h:vop C vb f o st k kp=some out) (hR:R B τ g st a w) (hk:Goes B τ g a w o.dst k out next):o.wpIn (FW ρ) n C.P a w next Q:=by
 unfold vop at h
 rw [ho] at h
 dsimp only at h
 split at h
 ·rename_i hok
  obtain ⟨g',l1,hR',hrep⟩:=uses_sound (first.toList++caps.toList) hR
  have cap:∀ (x:Operand),capOk (st.useV x)=true→(∃ j:Nat,(first.toList++caps.toList)[j]?=some x)→RepP g' (st.useV x) (a.eval x):=by
   intro x hx ⟨j,hj⟩
   have:=hrep j x hj 0 0
   refine (repS_cell this ?_ ?_).repP hx
   ·cases hv:st.useV x<;>rw [hv] at hx<;>first | rfl | cases hx
   ·intro e;rw [e] at hx;cases hx
  simp only [Bool.and_eq_true,List.all_eq_true] at hok
  refine wp_value (by simp [ho]) (v:=.func fn' (first.map a.eval) (caps.map a.eval)) (w':=w) (by simp [execOp,ho,Instr.makeFunc]) (hk _ _ g' _ w l1 hR' ?_ h)
  refine ⟨first.map a.eval,caps.map a.eval,rfl,by simp,by simp,fun j c hj hc=>?_,fun j c hj hc=>?_⟩
  ·rw [List.getElem?_map] at hc
   obtain ⟨x,hx,rfl⟩:=Option.map_eq_some_iff.1 hc
   have hj':j<first.size:=by simpa using hj
   have e:first[j]=x:=by
    rw [Array.getElem?_toList,Array.getElem?_eq_getElem hj'] at hx
    exact Option.some.inj hx
   rw [Array.getElem_map,e]
   exact cap x (hok.1 _ (List.mem_map.2 ⟨x,List.mem_of_getElem? hx,rfl⟩)) ⟨j,by rw [List.getElem?_append_left (by simpa using hj')];exact hx⟩
  ·rw [List.getElem?_map] at hc
   obtain ⟨x,hx,rfl⟩:=Option.map_eq_some_iff.1 hc
   have hj':j<caps.size:=by simpa using hj
   have e:caps[j]=x:=by
    rw [Array.getElem?_toList,Array.getElem?_eq_getElem hj'] at hx
    exact Option.some.inj hx
   rw [Array.getElem_map,e]
   exact cap x (hok.2 _ (List.mem_map.2 ⟨x,List.mem_of_getElem? hx,rfl⟩)) ⟨first.toList.length+j,by rw [List.getElem?_append_right (by omega)];simpa using hx⟩
 ·cases h
theorem bindT {P:Program} {t:TypeId} {m:Nat} (h:(elemT P t).bind (sizeT P)=some m):∃ e,P.underlying t=some (.slice e)∧sizeT P e=some m:=by
 obtain ⟨e,he,hm⟩:=Option.bind_eq_some_iff.1 h
 exact ⟨e,sliceT he,hm⟩
theorem repI_elem {m:Mem} {full:Bool} {esz:Nat} {xs:List V} {u:Value} (h:RepI m (.imm full esz xs) u) {i:Nat} {e:V} (he:xs[i]?=some e) :
  ∃ b off cap,u=.slice (some ⟨b,off,none⟩) xs.length cap∧RepI m (.iptr e 0) (.pointer (some ⟨b,off+i*esz,none⟩)):=by
 cases h with
 | none0=>simp at he
 | imm _ _ b off cap _ val hc hf hm hz hl hs hv sp hp =>
  have hlt:=(List.getElem?_eq_some_iff.1 he).1
  have hsp:sp=none:=by
   rcases hp with h | h
   ·exact h
   ·omega
  subst hsp
  refine ⟨b,off,cap,rfl,?_⟩
  have:=RepI.iptr e 0 b (off+i*esz) (fun j=>val i j) (fun j c hj=>hs i e j c he hj) (fun j c hj=>hv i e j c he hj)
  simpa using this
theorem run_indexAt {P:Program} {t e:TypeId} {m:Nat} (ht:P.underlying t=some (.slice e)) (hm:sizeT P e=some m) (b off len cap:Nat) (kk:IntKind) (i:Int) (h0:0≤i) (h1:i<len) (w:World) :
  (Instr.indexAt t (.slice (some ⟨b,off,none⟩) len cap) (.int kk i)).run P w=.ok (.pointer (some ⟨b,off+i.toNat*m,none⟩)) w:=by
 simp [Instr.indexAt,asIntOf,run_underlying ht,h0,h1,sizeT_some hm w,addr_add]
theorem run_indexArr {P:Program} {t e:TypeId} {n m:Nat} (ht:P.underlying t=some (.array n e)) (hm:sizeT P e=some m) (b off:Nat) (kk:IntKind) (i:Int) (h0:0≤i) (h1:i<n) (w:World) :
  (Instr.indexAt t (.pointer (some ⟨b,off,none⟩)) (.int kk i)).run P w=.ok (.pointer (some ⟨b,off+i.toNat*m,none⟩)) w:=by
 simp [Instr.indexAt,Instr.sureAddr,asIntOf,run_underlying ht,h0,h1,sizeT_some hm w,addr_add]
theorem op_indexAddr {t:TypeId} {x i:Operand} (ho:o.op=.indexAddr t x i) (h:vop C vb f o st k kp=some out) (hR:R B τ g st a w) (hk:Goes B τ g a w o.dst k out next):o.wpIn (FW ρ) n C.P a w next Q:=by
 obtain ⟨dx,hx⟩:=peek_rep hR x
 obtain ⟨di,hi⟩:=peek_rep hR i
 unfold vop at h
 rw [ho] at h
 dsimp only at h
 split at h
 ·rename_i kk j hj
  rw [hj] at hi
  have ei:=rep_int hi
  split at h
  ·rename_i full m xs hp
   rw [hp] at hx
   split at h
   ·rename_i hb
    obtain ⟨e,ht,hm⟩:=bindT hb
    obtain ⟨v,hv,h⟩:=bindO_eq h
    obtain ⟨h0,h1,h2⟩:=idx_some hv
    obtain ⟨b,off,cap,eu,hrep⟩:=repI_elem hx h2
    exact wp_value (by simp [ho]) (by simp [execOp,ho,eu,ei,run_indexAt ht hm b off xs.length cap kk j h0 h1 w]) (hk (.iptr v 0) st g _ w (Later.refl ..) hR hrep h)
   ·cases h
  ·rename_i pr et m xs hp
   split at h
   ·rename_i hb
    obtain ⟨e,ht,hm⟩:=bindT hb
    obtain ⟨v,hv,h⟩:=bindO_eq h
    obtain ⟨h0,h1,h2⟩:=idx_some hv
    obtain ⟨g',l1,hR',hrep'⟩:=use_sound hR x
    have hx':=hrep' 0 0
    have hux:st.useV x=.imm false m xs:=by unfold St.useV;rw [hp];rfl
    rw [hux] at hx'
    obtain ⟨b,off,cap,eu,hrep⟩:=repI_elem hx' h2
    exact wp_value (by simp [ho]) (by simp [execOp,ho,eu,ei,run_indexAt ht hm b off xs.length cap kk j h0 h1 w]) (hk (.iptr v 0) _ g' _ w l1 hR' hrep h)
   ·cases h
  ·rename_i id off len room hp
   rw [hp] at hx
   split at h
   ·rename_i m hb
    obtain ⟨e,ht,hm⟩:=bindT hb
    rcases condB_cases h with ⟨hc,h⟩ | ⟨_,h⟩
    ·simp only [decide_eq_true_eq] at hc
     rcases hx with ⟨b,cap,hl,eu,_⟩ | ⟨h0,_⟩
     rotate_left
     ·exfalso;omega
     exact wp_value (by simp [ho]) (by simp [execOp,ho,eu,ei,run_indexAt ht hm b off len cap kk j hc.1 hc.2 w]) (hk (.ptr id (off+j.toNat*m)) st g _ w (Later.refl ..) hR ⟨b,hl,rfl⟩ h)
    ·cases h
   ·cases h
  ·rename_i ev off hp
   rw [hp] at hx
   split at h
   ·rename_i n' el ht
    split at h
    ·rename_i m hm
     rcases condB_cases h with ⟨hc,h⟩ | ⟨_,h⟩
     ·simp only [decide_eq_true_eq] at hc
      have hx:=rep_iptr hx
      have hex:∃ b base,a.eval x=.pointer (some ⟨b,base+off,none⟩)∧∀ k',RepI g.mem (.iptr ev (off+k')) (.pointer (some ⟨b,base+off+k',none⟩)):=by
       generalize a.eval x=u at hx
       cases hx with
       | iptr _ _ b base val hs hv=>exact ⟨b,base,rfl,fun k'=>by rw [Nat.add_assoc];exact .iptr ev (off+k') b base val hs hv⟩
      obtain ⟨b,base,eu,hrep⟩:=hex
      exact wp_value (by simp [ho]) (by simp [execOp,ho,eu,ei,run_indexArr ht hm b (base+off) kk j hc.1 hc.2 w]) (hk (.iptr ev (off+j.toNat*m)) st g _ w (Later.refl ..) hR (hrep _) h)
     ·cases h
    ·cases h
   ·cases h
  ·rename_i id off hp
   rw [hp] at hx
   split at h
   ·rename_i n' el ht
    split at h
    ·rename_i m hm
     rcases condB_cases h with ⟨hc,h⟩ | ⟨_,h⟩
     ·simp only [decide_eq_true_eq] at hc
      obtain ⟨b,hl,eu⟩:=rep_ptr hx
      exact wp_value (by simp [ho]) (by simp [execOp,ho,eu,ei,run_indexArr ht hm b off kk j hc.1 hc.2 w]) (hk (.ptr id (off+j.toNat*m)) st g _ w (Later.refl ..) hR ⟨b,hl,rfl⟩ h)
     ·cases h
    ·cases h
   ·cases h
  ·cases h
 ·cases h
/-! ### a part of a slice -/
theorem run_slice_gen {P:Program} {t e:TypeId} {m:Nat} (ht:P.underlying t=some (.slice e)) (hm:sizeT P e=some m) (ad:Option Addr) (len cap l h mx:Nat) (hl:l≤h) (hh:h≤mx) (hmx:mx≤cap)
  (lo hi mo:Option Value) (h1:(lo=none∧l=0)∨∃ kk,lo=some (.int kk l)) (h2:(hi=none∧h=len∧mo=none)∨∃ kk,hi=some (.int kk h)) (h3:(mo=none∧mx=cap)∨∃ kk,mo=some (.int kk mx)) (w:World) :
  (Instr.sliceAt t (.slice ad len cap) lo hi mo).run P w=.ok (sliced ad l h mx m) w:=by
 have hel:P.elem t=e:=by simp [Program.elem,ht]
 have ht':P.underlying t=some (.slice (P.elem t)):=by rw [hel];exact ht
 rw [run_sliceAt_slice w t _ _ _ _ ht',run_slice_any w t ad len cap ht']
 rw [hel]
 simp only [Instr.sliceBounds]
 rcases h1 with ⟨rfl,rfl⟩ | ⟨k1,rfl⟩<;>rcases h2 with ⟨rfl,rfl,rfl⟩ | ⟨k2,rfl⟩<;>rcases h3 with ⟨h3a,rfl⟩ | ⟨k3,h3a⟩<;>(try subst h3a)<;>(try cases h3a) <;>
  simp [run_sliceBound,sizeT_some hm,hl,hh,hmx,Int.ofNat_le]
theorem rep_part {m:Mem} {full full':Bool} {esz:Nat} {xs:List V} {u:Value} (hr:RepI m (.imm full esz xs) u) {l h mx len cap:Nat} {ad:Option Addr} (eu:u=.slice ad len cap) (hl:l≤h) (hh:h≤xs.length) (hmx:h≤mx) (hmc:mx≤cap) (hf:full'=true→mx=h) :
  RepI m (.imm full' esz ((xs.take h).drop l)) (sliced ad l h mx esz)∧len=xs.length:=by
 cases hr with
 | none0 _ _ hz =>
  cases eu
  have e1:h=0:=by simpa using hh
  subst e1
  obtain rfl:l=0:=by omega
  obtain rfl:mx=0:=by omega
  exact ⟨repI_empty hz none,rfl⟩
 | imm _ _ b off cap0 _ val hc hf0 hm hz hlx hs hv sp hp =>
  cases eu
  have hlen:((xs.take h).drop l).length=h-l:=by simp;omega
  refine ⟨?_,rfl⟩
  unfold sliced
  have hget:∀ (i:Nat) (x:V),((xs.take h).drop l)[i]?=some x→xs[l+i]?=some x:=by
   intro i x hi
   rw [List.getElem?_drop,List.getElem?_take] at hi
   split at hi
   ·exact hi
   ·cases hi
  by_cases hml:mx=l
  ·rw [if_pos hml]
   have e0:(xs.take h).drop l=[]:=by apply List.eq_nil_of_length_eq_zero;omega
   rw [e0,show h-l=0 by omega,show mx-l=0 by omega]
   exact RepI.imm full' [] b off 0 esz (fun _ _=>default) (Nat.le_refl 0) (fun _=>rfl) (by simp [maxLen]) hz (fun i x hx=>by cases hx) (fun i x j c hx=>by cases hx) (fun i x j c hx=>by cases hx) sp (.inr rfl)
  ·have hsp:sp=none:=by
    rcases hp with h | h
    ·exact h
    ·omega
   subst hsp
   rw [if_neg hml]
   simp only [Option.map_some,addr_add]
   have:=RepI.imm (m:=m) full' ((xs.take h).drop l) b (off+l*esz) (mx-l) esz (fun i j=>val (l+i) j) (by rw [hlen];omega) (fun hft=>by rw [hlen,hf hft]) (by omega) hz
    (fun i x hx=>hlx _ x (hget i x hx))
    (fun i x j c hx hj=>by
     obtain ⟨h1,h2⟩:=hs _ x j c (hget i x hx) hj
     refine ⟨h1,?_⟩
     rw [←h2];congr 1;rw [Nat.add_mul];omega)
    (fun i x j c hx hj=>hv _ x j c (hget i x hx) hj)
   rwa [hlen] at this
end
end Go.Fw
namespace Go.Fw
open Go.RowKit
section
variable {C:Cx} {vb:FuncId→List V→List Blk→Option FOut} {f:FuncId} {ρ:Option Nat} {n:Nat} {o:Oper} {st:St} {α:Type} {k kp:V→St→Option α} {out:α}
 {B τ:Nat} {g:Gh} {a:Act} {w:World} {next:Act→World→Prop} {Q:Exit→Act→World→Prop}
theorem optInt_sound (h:R B τ g st a w) {y:Option Operand} {r:Option Int} (hr:optInt id (y.map st.peek)=some r):(y=none∧r=none)∨∃ x i kk,y=some x∧r=some i∧a.eval x=.int kk i:=by
 cases y with
 | none=>simp only [optInt,Option.map_none] at hr;cases hr;exact .inl ⟨rfl,rfl⟩
 | some x =>
  simp only [optInt,Option.map_some,id] at hr
  obtain ⟨i,hi,rfl⟩:=Option.map_eq_some_iff.1 hr
  obtain ⟨d,hd⟩:=peek_rep h x
  generalize st.peek x=v at hi hd
  cases v<;>simp only [intOf?] at hi<;>cases hi
  exact .inr ⟨x,_,_,rfl,rfl,rep_int hd⟩
theorem run_slice_str {P:Program} {t:TypeId} (ht:P.underlying t=some .string) (s:ByteArray) (l h:Nat) (hl:l≤h) (hh:h≤s.size)
  (lo hi:Option Value) (h1:(lo=none∧l=0)∨∃ kk,lo=some (.int kk l)) (h2:(hi=none∧h=s.size)∨∃ kk,hi=some (.int kk h)) (w:World) :
  (Instr.sliceAt t (.string s) lo hi none).run P w=.ok (.string (s.extract l h)) w:=by
 rw [run_sliceAt_string w t _ _ _ _ ht]
 simp only [Instr.slice,Sem.run_bind,run_underlying ht,Result.andThen_ok]
 simp only [Instr.sliceBounds]
 rcases h1 with ⟨rfl,rfl⟩ | ⟨k1,rfl⟩<;>rcases h2 with ⟨rfl,rfl⟩ | ⟨k2,rfl⟩ <;>
  simp [run_sliceBound,hl,hh,Int.ofNat_le]
theorem op_slice_own {t:TypeId} {x:Operand} {lo hi mx:Option Operand} {bid off len room:Nat} (ho:o.op=.slice t x lo hi mx) (hp:st.peek x=.own bid off len room)
  (h:(match optInt id (lo.map st.peek),optInt id (hi.map st.peek),optInt id (mx.map st.peek),(elemT C.P t).bind (sizeT C.P) with
   | some l,some h,some m,some sz=>if mx.isSome&&hi.isNone then none else condB (mx.isSome&&decide (0≤l.getD 0∧l.getD 0=m.getD 0∧h.getD len=m.getD 0∧l.getD 0≤(max len room:Nat)∧0<sz)) (k (.imm true sz []) st)<|condB (decide (0≤l.getD 0∧l.getD 0≤h.getD len∧h.getD len≤m.getD (max len room)∧m.getD (max len room)≤(max len room:Nat))&&(ownSz C.P st.h bid==some sz))
     (k (.own bid (off+(l.getD 0).toNat*sz) ((h.getD len).toNat-(l.getD 0).toNat) ((m.getD (max len room)).toNat-(l.getD 0).toNat)) st) none
   | _,_,_,_=>none)=some out) (hR:R B τ g st a w) (hk:Goes B τ g a w o.dst k out next):o.wpIn (FW ρ) n C.P a w next Q:=by
 split at h
 ·rename_i l0 h0 m0 sz hl0 hh0 hm0 hsz
  have sl:=optInt_sound hR hl0
  have sh:=optInt_sound hR hh0
  have sm:=optInt_sound hR hm0
  split at h
  ·cases h
  ·rename_i hmh
   rcases condB_cases h with ⟨hc,h⟩ | ⟨_,h⟩
   ·simp only [Bool.and_eq_true,decide_eq_true_eq] at hc
    obtain ⟨hms,c0,c1,c2,c3,hz⟩:=hc
    obtain ⟨e,ht,hm⟩:=bindT hsz
    obtain ⟨L,eL⟩:=Int.eq_ofNat_of_zero_le c0
    have e1:(lo.map a.eval=none∧L=0)∨∃ kk,lo.map a.eval=some (.int kk L):=by
     rcases sl with ⟨rfl,rfl⟩ | ⟨y,i,kk,rfl,rfl,ey⟩
     ·left;simp at eL ⊢;omega
     ·right;simp at eL;subst eL;exact ⟨kk,by simp [ey]⟩
    have e2:(hi.map a.eval=none∧L=len∧mx.map a.eval=none)∨∃ kk,hi.map a.eval=some (.int kk L):=by
     rcases sh with ⟨rfl,rfl⟩ | ⟨y,i,kk,rfl,rfl,ey⟩
     ·simp [hms] at hmh
     ·right;simp at c2;exact ⟨kk,by simp [ey];omega⟩
    have e3:(mx.map a.eval=none∧L=max len room)∨∃ kk,mx.map a.eval=some (.int kk L):=by
     rcases sm with ⟨rfl,rfl⟩ | ⟨y,i,kk,rfl,rfl,ey⟩
     ·simp at hms
     ·right;simp at c1;exact ⟨kk,by simp [ey];omega⟩
    have e3':∀ cap,(mx.map a.eval=none∧L=cap)∨∃ kk,mx.map a.eval=some (.int kk L):=by
     intro cap
     rcases e3 with ⟨h,_⟩ | h
     ·rw [Option.map_eq_none_iff] at h;rw [h] at hms;cases hms
     ·exact .inr h
    obtain ⟨dx,hx⟩:=peek_rep hR x
    rw [hp] at hx
    have fin:∀ (ad:Option Addr) (cap:Nat),a.eval x=.slice ad len cap→L≤cap→o.wpIn (FW ρ) n C.P a w next Q:=by
     intro ad cap eu q1
     refine wp_value (by simp [ho]) (v:=sliced ad L L L sz) (w':=w) ?_ (hk _ st g _ w (Later.refl ..) hR ?_ h)
     ·have hrun:=run_slice_gen (P:=C.P) ht hm ad len cap L L L (Nat.le_refl _) (Nat.le_refl _) q1 _ _ _ e1 e2 (e3' cap) w
      rw [←eu] at hrun
      simp [execOp,ho,hrun]
     ·unfold sliced
      rw [if_pos rfl,Nat.sub_self]
      exact repI_empty hz _
    rcases hx with ⟨b,cap,hl,eu,hlc,hcm,hrm,hsh⟩ | ⟨rfl,rfl,ad,eu⟩
    ·exact fin _ cap eu (by omega)
    ·exact fin _ 0 eu (by simp at c3;omega)
   rcases condB_cases h with ⟨hc,h⟩ | ⟨_,h⟩
   ·simp only [Bool.and_eq_true,decide_eq_true_eq,beq_iff_eq] at hc
    obtain ⟨⟨c0,c1,c2,c3⟩,csz⟩:=hc
    obtain ⟨e,ht,hm⟩:=bindT hsz
    obtain ⟨L,eL⟩:=Int.eq_ofNat_of_zero_le c0
    obtain ⟨H,eH⟩:=Int.eq_ofNat_of_zero_le (Int.le_trans c0 c1)
    obtain ⟨M,eM⟩:=Int.eq_ofNat_of_zero_le (Int.le_trans (Int.le_trans c0 c1) c2)
    rw [eL,eH,eM] at h
    rw [eL,eH] at c1
    rw [eH,eM] at c2
    rw [eM] at c3
    simp only [Int.toNat_natCast] at h
    have hLH:L≤H:=by omega
    have hHM:H≤M:=by omega
    have hMc:M≤max len room:=by omega
    have e1:(lo.map a.eval=none∧L=0)∨∃ kk,lo.map a.eval=some (.int kk L):=by
     rcases sl with ⟨rfl,rfl⟩ | ⟨y,i,kk,rfl,rfl,ey⟩
     ·left;simp at eL ⊢;omega
     ·right;simp at eL;subst eL;exact ⟨kk,by simp [ey]⟩
    have e2:(hi.map a.eval=none∧H=len∧mx.map a.eval=none)∨∃ kk,hi.map a.eval=some (.int kk H):=by
     rcases sh with ⟨rfl,rfl⟩ | ⟨y,i,kk,rfl,rfl,ey⟩
     ·left
      simp at eH
      refine ⟨rfl,by omega,?_⟩
      cases mx with
      | none=>rfl
      | some z=>simp at hmh
     ·right;simp at eH;subst eH;exact ⟨kk,by simp [ey]⟩
    obtain ⟨dx,hx⟩:=peek_rep hR x
    rw [hp] at hx
    have fin:∀ (ad:Option Addr) (cap Mr:Nat),a.eval x=.slice ad len cap→H≤Mr→Mr≤cap→((mx.map a.eval=none∧Mr=cap)∨∃ kk,mx.map a.eval=some (.int kk Mr))→RepS g τ (o.dst.getD 0) (.own bid (off+L*sz) (H-L) (M-L)) (sliced ad L H Mr sz)→o.wpIn (FW ρ) n C.P a w next Q:=by
     intro ad cap Mr eu q1 q2 q3 hr
     refine wp_value (by simp [ho]) (v:=sliced ad L H Mr sz) (w':=w) ?_ (hk _ st g _ w (Later.refl ..) hR hr h)
     have hrun:=run_slice_gen (P:=C.P) ht hm ad len cap L H Mr hLH q1 q2 _ _ _ e1 e2 q3 w
     rw [←eu] at hrun
     simp [execOp,ho,hrun]
    rcases hx with ⟨b,cap,hl,eu,hlc,hcm,hrm,hsh⟩ | ⟨rfl,rfl,ad,eu⟩
    ·have hcap:max len room≤cap:=by omega
     obtain ⟨Mr,r1,r2,r3,r4⟩:∃ Mr,H≤Mr∧Mr≤cap∧((mx.map a.eval=none∧Mr=cap)∨∃ kk,mx.map a.eval=some (.int kk Mr))∧M≤Mr:=by
      rcases sm with ⟨rfl,rfl⟩ | ⟨y,i,kk,rfl,rfl,ey⟩
      ·exact ⟨cap,by omega,Nat.le_refl _,.inl ⟨rfl,rfl⟩,by omega⟩
      ·simp at eM;subst eM;exact ⟨M,hHM,by omega,.inr ⟨kk,by simp [ey]⟩,Nat.le_refl _⟩
     refine fin _ cap Mr eu r1 r2 r3 ?_
     unfold sliced
     by_cases hml:Mr=L
     ·rw [if_pos hml]
      exact .inr ⟨by omega,by omega,_,by rw [show H-L=0 by omega,show Mr-L=0 by omega]⟩
     ·rw [if_neg hml]
      simp only [Option.map_some,addr_add]
      refine .inl ⟨b,Mr-L,hl,rfl,by omega,by omega,by omega,?_⟩
      obtain ⟨nn,e1,hs1,hs2⟩:=hsh
      unfold ownSz at csz
      split at csz
      ·rename_i cs0 e0 hcs0
       obtain ⟨cur,hcur,_⟩:=hR.heap.blk bid b cs0 e0 hl hcs0
       obtain ⟨cur2,fr2,hc2,_⟩:=hR.mem.shape b nn e1 hs1
       rw [hcur] at hc2
       cases hc2
       refine ⟨nn,_,hs1,fun sz' hsz'=>?_⟩
       have:=hs2 sz' hsz'
       rw [C.isP,hsz'] at csz
       cases csz
       have h1:L*sz+(Mr-L)*sz=Mr*sz:=by rw [←Nat.add_mul];congr 1;omega
       have h2:Mr*sz≤cap*sz:=Nat.mul_le_mul_right _ r2
       omega
      ·cases csz
    ·have hM0:M=0:=by simpa using hMc
     obtain rfl:H=0:=by omega
     obtain rfl:L=0:=by omega
     subst hM0
     obtain ⟨Mr,r1,r3⟩:∃ Mr:Nat,Mr=0∧((mx.map a.eval=none∧Mr=0)∨∃ kk,mx.map a.eval=some (.int kk Mr)):=by
      rcases sm with ⟨rfl,rfl⟩ | ⟨y,i,kk,rfl,rfl,ey⟩
      ·exact ⟨0,rfl,.inl ⟨rfl,rfl⟩⟩
      ·simp at eM;subst eM;exact ⟨0,rfl,.inr ⟨kk,by simp [ey]⟩⟩
     subst r1
     refine fin ad 0 0 eu (Nat.le_refl _) (Nat.le_refl _) r3 ?_
     exact .inr ⟨rfl,rfl,ad,by simp [sliced]⟩
   ·cases h
 ·cases h
theorem op_slice {t:TypeId} {x:Operand} {lo hi mx:Option Operand} (ho:o.op=.slice t x lo hi mx) (h:vop C vb f o st k kp=some out) (hR:R B τ g st a w) (hk:Goes B τ g a w o.dst k out next):o.wpIn (FW ρ) n C.P a w next Q:=by
 unfold vop at h
 rw [ho] at h
 dsimp only at h
 split at h
 ·rename_i bid off len room hp
  exact op_slice_own ho hp h hR hk
 rename_i hnown
 split at h
 ·rename_i l0 h0 m0 hl0 hh0 hm0
  have sl:=optInt_sound hR hl0
  have sh:=optInt_sound hR hh0
  have sm:=optInt_sound hR hm0
  split at h
  ·rename_i r l hh nn v hv
   have hcond:∃ (_:0≤l∧l≤hh∧hh≤nn) (_:∀ m,m0=some m→m=hh),k v (st.useS x)=some out:=by
    split at h
    ·rcases condB_cases h with ⟨hc,h⟩ | ⟨_,h⟩
     ·simp only [decide_eq_true_eq] at hc
      exact ⟨hc,(fun m hm=>by cases hm),h⟩
     ·cases h
    ·rcases condB_cases h with ⟨hc,h⟩ | ⟨_,h⟩
     ·simp only [decide_eq_true_eq] at hc
      exact ⟨⟨hc.1,hc.2.1,hc.2.2.1⟩,(fun m hm=>by cases hm;exact hc.2.2.2),h⟩
     ·cases h
   obtain ⟨⟨c0,c1,c2⟩,cm,h'⟩:=hcond
   obtain ⟨L,rfl⟩:=Int.eq_ofNat_of_zero_le c0
   obtain ⟨H,rfl⟩:=Int.eq_ofNat_of_zero_le (by omega:0≤hh)
   have hLH:L≤H:=by omega
   have hHn:H≤nn:=by omega
   obtain ⟨g',l1,hR',hrep⟩:=use_sound hR x
   have hx:=hrep 0 0
   have hrun:∀ u,(Instr.sliceAt t (a.eval x) (lo.map a.eval) (hi.map a.eval) (mx.map a.eval)).run C.P w=.ok u w→RepS g' τ (o.dst.getD 0) v u→o.wpIn (FW ρ) n C.P a w next Q:=by
    intro u hr hu
    exact wp_value (by simp [ho]) (v:=u) (w':=w) (by simp [execOp,ho,hr]) (hk v _ g' u w l1 hR' hu h')
   have e1:l0.getD 0=(L:Int)→(lo.map a.eval=none∧L=0)∨∃ kk,lo.map a.eval=some (.int kk L):=by
    intro e
    rcases sl with ⟨rfl,rfl⟩ | ⟨y,i,kk,rfl,rfl,ey⟩
    ·left;simp at e ⊢;omega
    ·right;simp at e;subst e;exact ⟨kk,by simp [ey]⟩
   unfold vslice at hv
   split at hv
   ·cases hv
   ·rename_i hmh
    have hmh':mx≠none→hi≠none:=by
     intro h1 h2
     subst h2
     rcases sh with ⟨_,rfl⟩ | ⟨y,i,kk,e,_⟩
     ·rcases sm with ⟨e,_⟩ | ⟨y,i,kk,rfl,rfl,_⟩
      ·exact h1 e
      ·simp at hmh
     ·cases e
    have e2:∀ len:Nat,h0.getD len=(H:Int)→(hi.map a.eval=none∧H=len∧mx.map a.eval=none)∨∃ kk,hi.map a.eval=some (.int kk H):=by
     intro len e
     rcases sh with ⟨rfl,rfl⟩ | ⟨y,i,kk,rfl,rfl,ey⟩
     ·left
      simp at e
      refine ⟨rfl,by omega,?_⟩
      cases mx with
      | none=>rfl
      | some z=>exact absurd rfl (hmh' (by simp))
     ·right;simp at e;subst e;exact ⟨kk,by simp [ey]⟩
    have e3:∀ cap:Nat,H≤cap→∃ M:Nat,H≤M∧M≤cap∧((mx.map a.eval=none∧M=cap)∨∃ kk,mx.map a.eval=some (.int kk M))∧(m0.isSome=true→M=H)∧(m0=none→M=cap):=by
     intro cap hc
     rcases sm with ⟨rfl,rfl⟩ | ⟨y,i,kk,rfl,rfl,ey⟩
     ·exact ⟨cap,hc,Nat.le_refl _,.inl ⟨rfl,rfl⟩,(fun h=>by cases h),fun _=>rfl⟩
     ·have:=cm i rfl
      subst this
      exact ⟨H,Nat.le_refl _,hc,.inr ⟨kk,by simp [ey]⟩,(fun _=>rfl),(fun h=>by cases h)⟩
    split at hv
    ·-- nil
     rename_i e ht hp
     split at hv
     ·rename_i hsz
      simp only [Option.some.injEq,Prod.mk.injEq] at hv
      obtain ⟨v1,v2,rfl,rfl⟩:=hv
      obtain ⟨m,hm⟩:=Option.isSome_iff_exists.1 hsz
      have hH:H=0:=by omega
      subst hH
      have hL:L=0:=by omega
      subst hL
      have hux:a.eval x=.slice none 0 0:=by
       obtain ⟨d,hd⟩:=peek_rep hR x
       rw [hp] at hd
       exact rep_nils hd
      obtain ⟨M,m1,m2,m3,_,_⟩:=e3 0 (Nat.le_refl _)
      have hM:M=0:=by omega
      subst hM
      refine hrun (.slice none 0 0) ?_ (RepI.nils)
      rw [hux,run_slice_gen (P:=C.P) ht hm none 0 0 0 0 0 (Nat.le_refl _) (Nat.le_refl _) (Nat.le_refl _) (lo.map a.eval) (hi.map a.eval) (mx.map a.eval) (e1 v1) (e2 0 (by cases h0<;>simp_all)) m3 w]
      rfl
     ·cases hv
    ·rename_i e full m xs ht hp
     split at hv
     ·rename_i hm
      simp only [Option.some.injEq,Prod.mk.injEq] at hv
      obtain ⟨v1,v2,rfl,ev⟩:=hv
      rw [show st.useV x=.imm full m xs by unfold St.useV;rw [hp];rfl] at hx
      have hi':=rep_imm hx
      obtain ⟨ad,cap,eu,hcl,hfl⟩:∃ ad cap,a.eval x=.slice ad xs.length cap∧xs.length≤cap∧(full=true→cap=xs.length):=by
       generalize a.eval x=u at hi'
       cases hi' with
       | imm _ _ b off cap _ val hc hf=>exact ⟨_,cap,rfl,hc,hf⟩
       | none0=>exact ⟨none,0,rfl,Nat.le_refl _,fun _=>rfl⟩
      obtain ⟨M,m1,m2,m3,m4,m5⟩:=e3 cap (by omega)
      have hres:=rep_part (full':=m0.isSome||(full&&h0.isNone)) hi' eu hLH hHn m1 m2 (by
       intro hff
       simp only [Bool.or_eq_true,Bool.and_eq_true] at hff
       rcases hff with hff | ⟨hff,hn⟩
       ·exact m4 hff
       ·cases m0 with
        | some z=>exact m4 rfl
        | none =>
         have hnn:h0=none:=by cases h0<;>simp_all
         subst hnn
         simp at v2
         rw [m5 rfl,hfl hff];omega)
      refine hrun (sliced ad L H M m) ?_ ?_
      ·rw [eu]
       exact run_slice_gen (P:=C.P) ht hm _ xs.length cap L H M hLH m1 m2 _ _ _ (e1 v1) (e2 xs.length v2) m3 w
      ·rw [←ev,v1,v2,Int.toNat_natCast,Int.toNat_natCast]
       exact hres.1
     ·cases hv
    ·rename_i e pr et m xs ht hp
     split at hv
     ·rename_i hm
      simp only [Option.some.injEq,Prod.mk.injEq] at hv
      obtain ⟨v1,v2,rfl,ev⟩:=hv
      rw [show st.useV x=.imm false m xs by unfold St.useV;rw [hp];rfl] at hx
      have hi':=rep_imm hx
      obtain ⟨ad,cap,eu,hcl,hfl⟩:∃ ad cap,a.eval x=.slice ad xs.length cap∧xs.length≤cap∧(false=true→cap=xs.length):=by
       generalize a.eval x=u at hi'
       cases hi' with
       | imm _ _ b off cap _ val hc hf=>exact ⟨_,cap,rfl,hc,hf⟩
       | none0=>exact ⟨none,0,rfl,Nat.le_refl _,fun _=>rfl⟩
      obtain ⟨M,m1,m2,m3,m4,m5⟩:=e3 cap (by omega)
      have hres:=rep_part (full':=m0.isSome) hi' eu hLH hHn m1 m2 (by
       intro hff;exact m4 hff)
      refine hrun (sliced ad L H M m) ?_ ?_
      ·rw [eu]
       exact run_slice_gen (P:=C.P) ht hm _ xs.length cap L H M hLH m1 m2 _ _ _ (e1 v1) (e2 xs.length v2) m3 w
      ·rw [←ev,v1,v2,Int.toNat_natCast,Int.toNat_natCast]
       exact hres.1
     ·cases hv
    ·rename_i s ht hp
     split at hv
     ·rename_i hmn
      simp only [Option.some.injEq,Prod.mk.injEq] at hv
      obtain ⟨v1,v2,rfl,ev⟩:=hv
      have hux:a.eval x=.string s:=by
       obtain ⟨d,hd⟩:=peek_rep hR x
       rw [hp] at hd
       exact rep_str hd
      have hmx:mx=none:=by
       rcases sm with ⟨e,_⟩ | ⟨y,i,kk,_,e,_⟩
       ·exact e
       ·subst e;cases hmn
      subst hmx
      refine hrun (.string (s.extract L H)) ?_ ?_
      ·rw [hux]
       refine run_slice_str (P:=C.P) ht s L H hLH hHn (lo.map a.eval) (hi.map a.eval) (e1 v1) ?_ w
       rcases e2 s.size v2 with ⟨h1,h2,_⟩ | h1
       ·exact .inl ⟨h1,h2⟩
       ·exact .inr h1
      ·rw [←ev,v1,v2,Int.toNat_natCast,Int.toNat_natCast]
       exact RepI.str _
     ·cases hv
    ·cases hv
  ·cases h
 ·cases h
end
end Go.Fw
namespace Go.Fw
open Go.RowKit
/-! ### the model's 'fill' -/
theorem foldl_set (off:Nat):∀ (l:List Value) (i:Nat) (cells:Array Value),off+i+l.length≤cells.size →
  let r:=(l.zipIdx i).foldl (fun cs (c,j)=>cs.setIfInBounds (off+j) c) cells
  r.size=cells.size∧∀ p,r[p]?=if off+i≤p∧p<off+i+l.length then l[p-(off+i)]? else cells[p]?
 | [],i,cells,_=>⟨rfl,fun p=>by simp only [List.zipIdx_nil,List.foldl_nil,List.length_nil];rw [if_neg (by omega)]⟩
 | c::l,i,cells,h=>by
  simp only [List.length_cons] at h
  have ih:=foldl_set off l (i+1) (cells.setIfInBounds (off+i) c) (by simp;omega)
  simp only [List.zipIdx_cons,List.foldl_cons,List.length_cons] at ih ⊢
  refine ⟨by rw [ih.1];simp,fun p=>?_⟩
  rw [ih.2 p]
  by_cases h1:off+(i+1)≤p∧p<off+(i+1)+l.length
  ·rw [if_pos h1,if_pos (by omega)]
   obtain ⟨m,rfl⟩:∃ m,p=off+(i+1)+m:=⟨p-(off+(i+1)),by omega⟩
   rw [show off+(i+1)+m-(off+(i+1))=m by omega,show off+(i+1)+m-(off+i)=m+1 by omega]
   simp
  ·rw [if_neg h1]
   by_cases h2:p=off+i
   ·subst h2
    rw [if_pos (by omega),Array.getElem?_setIfInBounds_self_of_lt (by omega)]
    simp
   ·rw [if_neg (by omega),Array.getElem?_setIfInBounds_ne (by omega)]
theorem fill_one (cells:Array Value) (off:Nat) (v:Value) (h:off+v.cells.size≤cells.size) :
  let r:=v.cells.zipIdx.foldl (fun cs (c,j)=>cs.setIfInBounds (off+j) c) cells
  r.size=cells.size∧∀ p,r[p]?=if off≤p∧p<off+v.cells.size then v.cells[p-off]? else cells[p]?:=by
 have:=foldl_set off v.cells.toList 0 cells (by simpa using h)
 rw [←Array.foldl_toList]
 simp only [Array.toList_zipIdx] 
 simp only [Nat.add_zero,Array.length_toList,Array.getElem?_toList] at this
 exact this
section
variable {B τ:Nat} {a:Act} {w:World}
def fPart (τ t d off:Nat):Place→Place
 | .slot τ' x j k=>if τ'=τ∧x=t then .slot τ d (off+(j-1)+1) 0 else .slot τ' x j k
 | p=>p
theorem take_part {g:Gh} {st:St} (h:R B τ g st a w) (x:Operand) (d off:Nat) (hv:okV (st.peek x)=true):∃ g',(∀ b i,g.lin b=some i→(∀ t j k,x=.tmp t→i.place≠.slot τ t j k)→g'.lin b=some i)∧g'.mem=g.mem∧g'.loc=g.loc∧Later B τ g g' w w∧R B τ g' (st.takeS x) a w∧(st.peek x).cells.length=(a.eval x).cells.size ∧
  ∀ (j:Nat) (c:V) (hj:j<(a.eval x).cells.size),(st.peek x).cells[j]?=some c→RepC g' (.slot τ d (off+j+1) 0) c (a.eval x).cells[j]:=by
 have plain:∀ (v:V) (u:Value),RepS g τ 0 v u→isLin3 v=false→okV v=true→v.cells.length=u.cells.size∧∀ (p:Place) (j:Nat) (c:V) (hj:j<u.cells.size),v.cells[j]?=some c→RepC g p c u.cells[j]:=by
  intro v u hs hl hok
  have hnt:∀ vs,v≠.tup vs:=fun vs e=>by rw [e] at hok;cases hok
  have hnu:v≠.undef:=fun e=>by rw [e] at hok;cases hok
  rw [repS_notTup hnt] at hs
  obtain ⟨c1,c2⟩:=cellsA hnu hs
  refine ⟨c1,fun p j c hj hc=>?_⟩
  obtain ⟨j',e,hr⟩:=c2 j c hj hc
  refine hr.any ?_
  have hin:=List.mem_of_getElem? hc
  cases v<;>simp only [V.cells,List.mem_singleton] at hin<;>try (subst hin;first | exact hl | rfl)
  simp only [isLin3,isLin2] at hl
  rw [List.any_eq_false] at hl
  exact Bool.eq_false_iff.2 (hl c hin)
 cases x with
 | tmp t =>
  have hf:∀ p,(∀ j k,p≠.slot τ t j k)→fPart τ t d off p=p:=by
   intro p hp
   cases p with
   | cell=>rfl
   | slot τ' x j k =>
    have hn:¬(τ'=τ∧x=t):=by
     rintro ⟨rfl,rfl⟩
     exact hp j k rfl
    simp only [fPart,if_neg hn]
  have hs0:=slot_of h t
  have hnt:∀ vs,getS st.fr t≠.tup vs:=fun vs e=>by simp only [St.peek,e] at hv;cases hv
  have hnu:getS st.fr t≠.undef:=fun e=>by simp only [St.peek,e] at hv;cases hv
  rw [repS_notTup hnt] at hs0
  have hs:=(hs0.moved (f:=fPart τ t d off) (pl':=fun j=>.slot τ d (off+(j-1)+1) 0) (fun j=>by simp [fPart])).1
  have hm:=h.drop t (fPart τ t d off) hf
  obtain ⟨c1,c2⟩:=cellsA hnu hs
  refine ⟨g.ren (fPart τ t d off),fun b i hi hp=>lin_ren_of hi (hf _ (fun j k=>hp t j k rfl)),rfl,rfl,ren_later (fun τ' x j k hne=>?_),?_,c1,fun j c hj hc=>?_⟩
  ·exact hf _ (by intro j' k' e;injection e with e _;exact hne e)
  ·unfold St.takeS
   dsimp only
   cases hl:isLin3 (getS st.fr t) with
   | true=>rw [condB_true];exact hm
   | false=>rw [condB_false];exact R.setSame hm (map3_of (fun _ h=>drop1_of h) hl)
  ·obtain ⟨j',e,hr⟩:=c2 j c hj hc
   rw [e] at hr;exact hr
 | const v =>
  obtain ⟨c1,c2⟩:=plain _ _ (ofVal_rep g τ 0 v) (isLin_ofVal v) hv
  exact ⟨g,fun _ _ h _=>h,rfl,rfl,Later.refl ..,h,c1,fun j c hj hc=>c2 _ j c hj hc⟩
 | global b =>
  obtain ⟨c1,c2⟩:=plain _ _ ((peek_glob h b).1 τ 0) (peek_glob h b).2 hv
  exact ⟨g,fun _ _ h _=>h,rfl,rfl,Later.refl ..,h,c1,fun j c hj hc=>c2 _ j c hj hc⟩
 | func f =>
  obtain ⟨c1,c2⟩:=plain (.fn (.func f) [] []) (.func (.func f) #[] #[]) ⟨#[],#[],rfl,rfl,rfl,fun j c hj=>absurd hj (by simp),fun j c hj=>absurd hj (by simp)⟩ rfl rfl
  exact ⟨g,fun _ _ h _=>h,rfl,rfl,Later.refl ..,h,c1,fun j c hj hc=>c2 _ j c hj hc⟩
theorem buildV_sound {P:Program} {t:TypeId} {fs:Array Field} (hu:P.underlying t=some (.struct fs)) {place:Nat→Option (Nat×Nat)} (hpl:∀ i fl n,fs[i]?=some fl→sizeT P fl.type=some n→place i=some (fl.offset,n)) (d:Nat) :
  ∀ (parts:List (Nat×Operand)) (g:Gh) (st:St) (cs:List V) (cur:Array Value) (cs':List V) (st':St),(∀ p∈parts,p.2≠.tmp d)→buildV P t st cs parts=some (cs',st')→R B τ g st a w→cs.length=cur.size →
   (∀ (j:Nat) (c:V) (hj:j<cur.size),cs[j]?=some c→RepC g (.slot τ d (j+1) 0) c cur[j]) →
   ∃ g' cur',Instr.fill place cur (parts.map fun p=>(p.1,a.eval p.2))=some cur'∧Later B τ g g' w w∧R B τ g' st' a w∧cs'.length=cur'.size∧∀ (j:Nat) (c:V) (hj:j<cur'.size),cs'[j]?=some c→RepC g' (.slot τ d (j+1) 0) c cur'[j]
 | [],g,st,cs,cur,cs',st',_,hb,hR,hl,hrep=>by
  simp only [buildV] at hb
  cases hb
  exact ⟨g,cur,rfl,Later.refl ..,hR,hl,hrep⟩
 | (i,x)::r,g,st,cs,cur,cs',st',hne,hb,hR,hl,hrep=>by
  simp only [buildV] at hb
  split at hb
  ·rename_i fl hfl
   obtain ⟨fs',hu',hfs⟩:=fieldT_some hfl
   rw [hu] at hu';cases hu'
   split at hb
   ·rename_i n hn
    split at hb
    ·rename_i hc
     obtain ⟨hok,hvl,hle⟩:=hc
     obtain ⟨g1,k1,k2,k3,l1,hR1,hcl,hrep1⟩:=take_part hR x d fl.offset hok
     have hsz:(a.eval x).cells.size=n:=by rw [←hcl];exact hvl
     obtain ⟨f1,f2⟩:=fill_one cur fl.offset (a.eval x) (by rw [hsz,←hl];exact hle)
     dsimp only at f1 f2
     generalize hcur1:(a.eval x).cells.zipIdx.foldl (fun cs (c,j)=>cs.setIfInBounds (fl.offset+j) c) cur=cur1 at f1 f2
     obtain ⟨g2,cur',e1,l2,hR2,e2,e3⟩:=buildV_sound hu hpl d r g1 (st.takeS x) (setAt cs fl.offset (st.peek x).cells) cur1 cs' st' (fun p hp=>hne p (List.mem_cons_of_mem _ hp)) hb hR1 (by rw [length_setAt,f1,hl]) (fun j c hj hcj=>by
      rw [getElem?_setAt _ _ _ _ (by rw [hvl];exact hle),hvl] at hcj
      have hg:=f2 j
      rw [Array.getElem?_eq_getElem hj,hsz] at hg
      by_cases hr:fl.offset≤j∧j<fl.offset+n
      ·rw [if_pos hr] at hcj hg
       have hlt:j-fl.offset<(a.eval x).cells.size:=by omega
       rw [Array.getElem?_eq_getElem hlt] at hg
       have:=hrep1 (j-fl.offset) c hlt hcj
       rw [show fl.offset+(j-fl.offset)=j by omega] at this
       rw [Option.some.inj hg];exact this
      ·rw [if_neg hr] at hcj hg
       have hlt:j<cur.size:=by omega
       rw [Array.getElem?_eq_getElem hlt] at hg
       rw [Option.some.inj hg]
       refine (hrep j c hlt hcj).mono (by rw [k2];exact MemLe.refl _) (fun _ _ h=>by rw [k3];exact h) (fun b i' hi hp=>k1 b i' hi (fun t' j' k' e=>?_))
       rw [hp]
       intro e'
       injection e' with _ e'
       subst e'
       exact hne (i,x) (List.mem_cons_self ..) (by rw [e]))
     refine ⟨g2,cur',?_,l1.trans l2,hR2,e2,e3⟩
     simp only [List.map_cons,Instr.fill,hpl i fl n hfs hn]
     rw [if_neg (by simp only [hsz,ne_eq,not_true_eq_false,decide_false,Bool.false_or,decide_eq_true_eq];omega),hcur1]
     exact e1
    ·cases hb
   ·cases hb
  ·cases hb
end
theorem fieldsOk_places {P:Program} {t:TypeId} (h:fieldsOk P t=true):∃ fs places,P.underlying t=some (.struct fs)∧fs.toList.mapM (fun f=>(P.info? f.type).map fun i=>(f.offset,i.size))=some places∧∀ (i:Nat) (fl:Field) (n:Nat),fs[i]?=some fl→sizeT P fl.type=some n→places[i]?=some (fl.offset,n):=by
 unfold fieldsOk at h
 split at h
 ·rename_i fs hu
  have key:∀ l:List Field,l.all (fun f=>(sizeT P f.type).isSome)=true→∃ places,l.mapM (fun f=>(P.info? f.type).map fun i=>(f.offset,i.size))=some places∧∀ (i:Nat) (fl:Field) (n:Nat),l[i]?=some fl→sizeT P fl.type=some n→places[i]?=some (fl.offset,n):=by
   intro l
   induction l with
   | nil=>intro _;exact ⟨[],rfl,fun i fl n h=>by cases h⟩
   | cons x l ih =>
    intro hl
    simp only [List.all_cons,Bool.and_eq_true] at hl
    obtain ⟨m,hm⟩:=Option.isSome_iff_exists.1 hl.1
    unfold sizeT at hm
    obtain ⟨it,hit,rfl⟩:=Option.map_eq_some_iff.1 hm
    obtain ⟨places,hp,hq⟩:=ih hl.2
    refine ⟨(x.offset,it.size)::places,by simp [List.mapM_cons,hit,hp],fun i fl n hi hn=>?_⟩
    cases i with
    | zero =>
     simp at hi
     subst hi
     simp [sizeT,hit] at hn
     simp [hn]
    | succ i=>simpa using hq i fl n (by simpa using hi) hn
  obtain ⟨places,hp,hq⟩:=key fs.toList h
  exact ⟨fs,places,hu,hp,fun i fl n hi hn=>hq i fl n (by rw [Array.getElem?_toList];exact hi) hn⟩
 ·cases h
section
variable {C:Cx} {vb:FuncId→List V→List Blk→Option FOut} {f:FuncId} {ρ:Option Nat} {n:Nat} {o:Oper} {st:St} {α:Type} {k kp:V→St→Option α} {out:α}
 {B τ:Nat} {g:Gh} {a:Act} {w:World} {next:Act→World→Prop} {Q:Exit→Act→World→Prop}
theorem op_build {t:TypeId} {parts:Array (Nat×Operand)} (ho:o.op=.build t parts) (h:vop C vb f o st k kp=some out) (hR:R B τ g st a w) (hk:Goes B τ g a w o.dst k out next):o.wpIn (FW ρ) n C.P a w next Q:=by
 unfold vop at h
 rw [ho] at h
 dsimp only at h
 split at h
 ·rename_i zs hz
  split at h
  ·rename_i hok
   obtain ⟨hfo,hnd⟩:=hok
   split at h
   ·rename_i cs st' hb
    obtain ⟨fs,places,hu,hpl,hq⟩:=fieldsOk_places hfo
    obtain ⟨it,zv,hit,hzv,e⟩:=zeroT_eq hz
    have hokz:okV (ofVal zv)=true:=by rw [←e];rfl
    obtain ⟨c1,c2⟩:=ofVal_cells (g:=g) hokz
    rw [←e] at c1 c2
    obtain ⟨g',cur',hfill,l1,hR',e1,e2⟩:=buildV_sound (a:=a) (w:=w) (B:=B) (τ:=τ) hu (place:=(places.toArray[·]?)) (fun i fl n hi hn=>by
     simpa using hq i fl n hi hn) (o.dst.getD 0) parts.toList g st zs zv.cells cs st' (fun p hp e=>by
      rw [List.all_eq_true] at hnd
      have:=hnd p hp
      rw [e] at this
      simp [isTmp] at this) hb hR c1 (fun j c hj hc=>c2 _ j c hj hc)
    refine wp_value (by simp [ho]) (v:=.agg cur') (w':=w) ?_ (hk (.agg cs) st' g' _ w l1 hR' ⟨cur',rfl,e1,e2⟩ h)
    simp only [execOp,ho]
    refine run_v (run_build w t _ cur' ?_)
    simp only [Program.built,hit,hu,hzv,hpl]
    simpa using hfill
   ·cases h
  ·cases h
 ·cases h
/-! ### make -/
theorem flat_get:∀ (M:Nat) (zs:List V) (sz:Nat),zs.length=sz→0<sz→∀ (j:Nat) (x:V),((List.replicate M zs).flatten)[j]?=some x→zs[j % sz]?=some x
 | 0,zs,sz,_,_,j,x,h=>by simp at h
 | M+1,zs,sz,hz,h0,j,x,h=>by
  rw [List.replicate_succ,List.flatten_cons] at h
  by_cases hj:j<sz
  ·rw [List.getElem?_append_left (by omega)] at h
   rwa [Nat.mod_eq_of_lt hj]
  ·rw [List.getElem?_append_right (by omega),hz] at h
   have:=flat_get M zs sz hz h0 (j-sz) x h
   rwa [Nat.mod_eq_sub_mod (by omega)]
end
end Go.Fw
namespace Go.Fw
open Go.RowKit
theorem flat1_repI {g:Gh} {p:Place} {v:V} {u:Value} (h:RepC g p v u) (hf:flat1 v=true):RepI g.mem v u:=by
 cases v<;>simp only [flat1,flat0] at hf<;>first | exact h | cases hf | skip
 simp only [Bool.and_eq_true,List.all_eq_true] at hf
 obtain ⟨x,y,rfl,h1,h2,h3,h4⟩:=h
 have key:∀ c w',flat0 c=true→RepP g c w'→RepI g.mem c w':=by
  intro c w' hc hr
  cases c<;>first | exact hr | (simp [flat0] at hc;done)
 exact RepI.fn _ _ _ _ _ h1 h2 (fun j c hj hc=>key c _ (hf.1 c (List.mem_of_getElem? hc)) (h3 j c hj hc)) (fun j c hj hc=>key c _ (hf.2 c (List.mem_of_getElem? hc)) (h4 j c hj hc))
theorem flat_cells {g:Gh} {τ d:Nat} {v:V} {u:Value} (h:RepS g τ d v u) (hok:okV v=true) (hf:flat2 v=true):v.cells.length=u.cells.size∧∀ (j:Nat) (c:V) (hj:j<u.cells.size),v.cells[j]?=some c→isCell c=true∧RepI g.mem c u.cells[j]:=by
 have hnt:∀ vs,v≠.tup vs:=fun vs e=>by rw [e] at hok;cases hok
 have hnu:v≠.undef:=fun e=>by rw [e] at hok;cases hok
 rw [repS_notTup hnt] at h
 obtain ⟨c1,c2⟩:=cellsA hnu h
 refine ⟨c1,fun j c hj hc=>?_⟩
 obtain ⟨j',e,hr⟩:=c2 j c hj hc
 refine ⟨hr.notAgg,flat1_repI hr ?_⟩
 have hin:=List.mem_of_getElem? hc
 cases v<;>simp only [V.cells,List.mem_singleton] at hin<;>try (subst hin;exact hf)
 simp only [flat2,List.all_eq_true] at hf
 exact hf c hin
section
variable {B τ:Nat} {g:Gh} {st:St} {a:Act} {w:World}
theorem free_mem (h:R B τ g st a w):g.mem w.heap.size=none:=by
 cases hm:g.mem w.heap.size with
 | none=>rfl
 | some cs =>
  obtain ⟨cur,e,fr,h1,_⟩:=h.mem.at_ _ cs hm
  have:=(Array.getElem?_eq_some_iff.1 h1).1;omega
theorem free_lin (h:R B τ g st a w):g.lin w.heap.size=none:=by
 cases hm:g.lin w.heap.size with
 | none=>rfl
 | some i =>
  obtain ⟨_,⟨cur,h1,_⟩,_⟩:=h.lin.at_ _ i hm
  have:=(Array.getElem?_eq_some_iff.1 h1).1;omega
def Gh.addMem (g:Gh) (b:Nat) (cs:List Value):Gh:={g with mem:=⟨fun x=>if x=b then some cs else g.mem x,g.mem.shape⟩}
theorem new_mem (h:R B τ g st a w) (cur:Array Value) (t:TypeId):Later B τ g (g.addMem w.heap.size cur.toList) w (w.alloc (.cells cur t))∧R B τ (g.addMem w.heap.size cur.toList) st a (w.alloc (.cells cur t)):=by
 have hfm:=free_mem h
 have hfl:=free_lin h
 have hle:MemLe g.mem (g.addMem w.heap.size cur.toList).mem:=by
  refine ⟨fun b cs hb=>?_,fun _ _ h=>h⟩
  unfold Gh.addMem
  dsimp only
  split
  ·rename_i e;subst e;rw [hfm] at hb;cases hb
  ·exact ⟨cs,hb,List.prefix_refl _⟩
 have hne:∀ b,(g.lin b).isSome=true∨(∃ id,g.loc id=some b)→b≠w.heap.size:=by
  rintro b (hb | ⟨id,hb⟩) e
  ·subst e;rw [hfl] at hb;cases hb
  ·have:=(h.heap.fresh id b hb).2.1;omega
 refine ⟨⟨(Below.refl _ _).alloc h.base _,hle,fun b hb=>?_,fun _ _ h=>h,fun _ _ h _=>h⟩,⟨h.size,fun i v hi hv=>RepS.mono (g:=g) (g':=g.addMem w.heap.size cur.toList) hle (fun _ _ h=>h) (fun _ _ _ _ h _=>h) (h.slots i v hi hv),⟨h.heap.bound,h.heap.inj,?_,?_⟩,⟨?_,fun b cs hb=>glob_le hle (h.mem.glob b cs hb),(memOk_alloc h.mem _).shape⟩,⟨?_⟩,by have:=h.base;simp;omega,h.defers.mono (g:=g) (g':=g.addMem w.heap.size cur.toList) hle (fun _ _ h=>h) (fun _ h=>h)⟩⟩
 ·unfold Gh.addMem;dsimp only
  rw [if_neg (by have:=h.base;omega)]
 ·intro id b hb
  obtain ⟨h1,h2,h3,h4⟩:=h.heap.fresh id b hb
  refine ⟨h1,by simp;omega,?_,h4⟩
  unfold Gh.addMem;dsimp only
  rw [if_neg (hne b (.inr ⟨id,hb⟩))];exact h3
 ·intro id b x hb he
  obtain ⟨o,h1,h2⟩:=h.heap.blkO id b x hb he
  exact ⟨o,heap_alloc_old w _ h1,BlkOk.mono (g:=g) (g':=g.addMem w.heap.size cur.toList) hle (fun _ _ h=>h) (fun _ _ _ h _=>h) h2⟩
 ·intro b cs hb
  unfold Gh.addMem at hb
  dsimp only at hb
  split at hb
  ·rename_i e;subst e;cases hb;exact ⟨cur,t,(0,0),heap_alloc_at w _,List.prefix_refl _⟩
  ·exact (memOk_alloc h.mem _).at_ b cs hb
 ·intro b i hi
  have hb:=hne b (.inl (by rw [show g.lin b=some i from hi];rfl))
  have:=(linOk_alloc h.lin (.cells cur t)).at_ b i hi
  unfold Gh.addMem
  dsimp only
  rw [if_neg hb]
  exact this
end
/-! ### the model's 'fill' over parts in a row -/
theorem fill_seq (sz:Nat):∀ (vs:List Value) (i0:Nat) (cells:Array Value),(∀ v∈vs,v.cells.size=sz)→(i0+vs.length)*sz≤cells.size →
  ∃ r,Instr.fill (fun i=>some (i*sz,sz)) cells (vs.zipIdx i0 |>.map fun p=>(p.2,p.1))=some r∧r.size=cells.size∧(∀ p,p<i0*sz→r[p]?=cells[p]?)∧∀ (k:Nat) (v:Value) (j:Nat),vs[k]?=some v→j<sz→r[(i0+k)*sz+j]?=v.cells[j]?
 | [],i0,cells,_,_=>⟨cells,rfl,rfl,fun _ _=>rfl,fun k v j h=>by cases h⟩
 | v::vs,i0,cells,hv,hl=>by
  have hvs:=hv v (List.mem_cons_self ..)
  simp only [List.length_cons] at hl
  have h1:i0*sz+sz≤cells.size:=by
   have:(i0+1)*sz≤(i0+(vs.length+1))*sz:=Nat.mul_le_mul_right _ (by omega)
   rw [Nat.add_mul,Nat.one_mul] at this
   omega
  obtain ⟨f1,f2⟩:=fill_one cells (i0*sz) v (by rw [hvs];exact h1)
  dsimp only at f1 f2
  generalize hc1:v.cells.zipIdx.foldl (fun cs (c,j)=>cs.setIfInBounds (i0*sz+j) c) cells=cells1 at f1 f2
  obtain ⟨r,e1,e2,e3,e4⟩:=fill_seq sz vs (i0+1) cells1 (fun x hx=>hv x (List.mem_cons_of_mem _ hx)) (by rw [f1,show i0+1+vs.length=i0+(vs.length+1) by omega];exact hl)
  refine ⟨r,?_,by rw [e2,f1],fun p hp=>?_,fun k x j hk hj=>?_⟩
  ·simp only [List.zipIdx_cons,List.map_cons,Instr.fill]
   rw [if_neg (by simp only [hvs,ne_eq,not_true_eq_false,decide_false,Bool.false_or,decide_eq_true_eq];omega),hc1]
   exact e1
  ·rw [e3 p (by rw [Nat.add_mul];omega),f2 p,if_neg (by omega)]
  ·cases k with
   | zero =>
    cases hk
    rw [Nat.add_zero,e3 _ (by rw [Nat.add_mul,Nat.one_mul];omega),f2,if_pos (by rw [hvs];omega)]
    congr 1;omega
   | succ k =>
    have:=e4 k x j (by simpa using hk) hj
    rwa [show i0+1+k=i0+(k+1) by omega] at this
section
variable {C:Cx} {vb:FuncId→List V→List Blk→Option FOut} {f:FuncId} {ρ:Option Nat} {n:Nat} {o:Oper} {st:St} {α:Type} {k kp:V→St→Option α} {out:α}
 {B τ:Nat} {g:Gh} {a:Act} {w:World} {next:Act→World→Prop} {Q:Exit→Act→World→Prop}
theorem useAll_h:∀ (xs:List Operand) (st:St),(st.useAll xs).h=st.h
 | [],_=>rfl
 | x::xs,st=>by
  show ((st.useS x).useAll xs).h=_
  rw [useAll_h xs,useS_h]
theorem flatMap_get (sz:Nat) (h0:0<sz):∀ (vs:List V),(∀ v∈vs,v.cells.length=sz)→(vs.flatMap V.cells).length=vs.length*sz∧∀ (p:Nat) (c:V),(vs.flatMap V.cells)[p]?=some c→∃ v,vs[p / sz]?=some v∧v.cells[p % sz]?=some c
 | [],_=>⟨by simp,fun p c h=>by simp at h⟩
 | v::vs,hv=>by
  have h1:=hv v (List.mem_cons_self ..)
  obtain ⟨i1,i2⟩:=flatMap_get sz h0 vs (fun x hx=>hv x (List.mem_cons_of_mem _ hx))
  refine ⟨by simp only [List.flatMap_cons,List.length_append,h1,i1,List.length_cons,Nat.add_mul,Nat.one_mul];omega,fun p c hc=>?_⟩
  rw [List.flatMap_cons] at hc
  by_cases hp:p<sz
  ·rw [List.getElem?_append_left (by omega)] at hc
   exact ⟨v,by rw [Nat.div_eq_of_lt hp];rfl,by rw [Nat.mod_eq_of_lt hp];exact hc⟩
  ·rw [List.getElem?_append_right (by omega),h1] at hc
   obtain ⟨x,hx,hxc⟩:=i2 _ c hc
   have e1:p / sz=(p-sz) / sz+1:=by
    rw [Nat.div_eq_sub_div h0 (by omega)]
   exact ⟨x,by rw [e1];simpa using hx,by rw [Nat.mod_eq_sub_mod (by omega)];exact hxc⟩
theorem op_buildSlice {t:TypeId} {m:Nat} {parts:Array (Nat×Operand)} (ho:o.op=.buildSlice t m parts) (h:vop C vb f o st k kp=some out) (hR:R B τ g st a w) (hk:Goes B τ g a w o.dst k out next):o.wpIn (FW ρ) n C.P a w next Q:=by
 unfold vop at h
 rw [ho] at h
 dsimp only at h
 split at h
 ·rename_i e he
  have ht:=sliceT he
  split at h
  ·rename_i ag sz hag hsz
   split at h
   ·rename_i hcond
    obtain ⟨hsmall,h0,hidx,hzs⟩:=hcond
    split at h
    ·rename_i hvs
     rw [List.all_eq_true] at hvs
     obtain ⟨z,hz⟩:=Option.isSome_iff_exists.1 hzs
     obtain ⟨it,zv,hit,hzv,_⟩:=zeroT_eq hz
     obtain ⟨g1,l1,hR1,hrep⟩:=uses_sound (parts.toList.map (·.2)) hR
     have hval:∀ (i:Nat) (x:Operand),(parts.toList.map (·.2))[i]?=some x→okV (st.useV x)=true∧(st.useV x).cells.length=sz:=by
      intro i x hx
      have hin:st.useV x∈parts.toList.map (fun p=>st.useV p.2):=by
       obtain ⟨p,hp,rfl⟩:=List.mem_map.1 (List.mem_of_getElem? hx)
       exact List.mem_map.2 ⟨p,hp,rfl⟩
      have:=hvs _ hin
      simp only [Bool.and_eq_true,beq_iff_eq] at this
      exact ⟨this.1.1,this.1.2⟩
     have hlen:parts.toList.length=m:=by have:=congrArg List.length hidx;simpa using this
     let us:=parts.toList.map fun p=>a.eval p.2
     have hus:us.length=m:=by simp [us,hlen]
     have husz:∀ u∈us,u.cells.size=sz:=by
      intro u hu
      obtain ⟨i,hi,rfl⟩:=List.mem_iff_getElem.1 hu
      have hi':i<parts.toList.length:=by simpa [us] using hi
      have hx:(parts.toList.map (·.2))[i]?=some parts.toList[i].2:=by rw [List.getElem?_map,List.getElem?_eq_getElem hi'];rfl
      obtain ⟨k1,k2⟩:=hval i _ hx
      have hr:=hrep i _ hx 0 0
      have hnt:∀ vs,st.useV parts.toList[i].2≠.tup vs:=fun vs e=>by rw [e] at k1;cases k1
      have hnu:st.useV parts.toList[i].2≠.undef:=fun e=>by rw [e] at k1;cases k1
      rw [repS_notTup hnt] at hr
      have:=(cellsA hnu hr).1
      simp only [us,List.getElem_map]
      rw [←this];exact k2
     let zc:Array Value:=if m*sz=0 then #[] else zv.cells
     obtain ⟨cur,e1,e2,_,e4⟩:=fill_seq sz us 0 ((Array.range (m*sz)).map (zc[· % zc.size]!)) husz (by simp [hus])
     have hparts:us.zipIdx.map (fun p=>(p.2,p.1))=parts.toList.map fun p=>(p.1,a.eval p.2):=by
      apply List.ext_getElem?
      intro i
      simp only [List.getElem?_map,List.getElem?_zipIdx,us]
      cases hp:parts.toList[i]? with
      | none=>rfl
      | some p =>
       have:(parts.toList.map (·.1))[i]?=some p.1:=by rw [List.getElem?_map,hp];rfl
       rw [hidx] at this
       have hi:i<m:=by have:=(List.getElem?_eq_some_iff.1 hp).1;omega
       rw [List.getElem?_range hi] at this
       simp at this
       simp [this]
     have hcsz:cur.size=m*sz:=by rw [e2];simp
     have hrun:(execOp a.eval o).run C.P w=.ok (.value (.slice (some ⟨w.heap.size,0,none⟩) m m)) (w.alloc (.cells cur e)):=by
      simp only [execOp,ho]
      refine run_v ?_
      have hfill:Instr.fill (fun i=>some (i*sz,sz)) ((Array.range (m*sz)).map (zc[· % zc.size]!)) (parts.map (fun p=>(p.1,a.eval p.2))).toList=some cur:=by
       rw [Array.toList_map,←hparts];exact e1
      have hsm:¬m*sz>2 ^ 24:=by omega
      by_cases hz0:m*sz=0
      ·have hzc:zc=#[]:=by simp [zc,hz0]
       rw [hzc] at hfill
       simp only [Instr.buildSlice,Sem.run_bind,run_underlying ht,Result.andThen_ok,sizeT_some hsz w,Sem.run_ite,gt_iff_lt,Nat.not_lt_zero,if_false,hz0,if_true,Sem.run_pure]
       rw [hz0] at hfill
       simp only [hfill,Sem.run_bind,run_newRow',Result.andThen_ok,Sem.run_pure]
      ·have hzc:zc=zv.cells:=by simp [zc,hz0]
       rw [hzc] at hfill
       simp only [Instr.buildSlice,Sem.run_bind,run_underlying ht,Result.andThen_ok,sizeT_some hsz w,Sem.run_ite,if_neg hsm,if_neg hz0,run_zero hit hzv,Sem.run_pure]
       simp only [hfill,Sem.run_bind,run_newRow',Result.andThen_ok,Sem.run_pure]
     have hel:∀ (i:Nat) (v:V),(parts.toList.map fun p=>st.useV p.2)[i]?=some v→∃ x,(parts.toList.map (·.2))[i]?=some x∧v=st.useV x∧us[i]?=some (a.eval x):=by
      intro i v hv
      rw [List.getElem?_map] at hv
      obtain ⟨p,hp,rfl⟩:=Option.map_eq_some_iff.1 hv
      exact ⟨p.2,by rw [List.getElem?_map,hp];rfl,rfl,by simp only [us];rw [List.getElem?_map,hp];rfl⟩
     split at h
     ·rename_i hfl
      rw [List.all_eq_true] at hfl
      obtain ⟨l2,hR2⟩:=new_mem hR1 cur e
      refine wp_value (by simp [ho]) hrun (hk _ _ _ _ _ (l1.trans l2) hR2 ?_ h)
      have hvl:(parts.toList.map fun p=>st.useV p.2).length=m:=by simp [hlen]
      have hcell:∀ (i:Nat) (v:V) (j:Nat) (c:V),(parts.toList.map fun p=>st.useV p.2)[i]?=some v→v.cells[j]?=some c→isCell c=true∧∃ u,cur.toList[i*sz+j]?=some u∧RepI g1.mem c u:=by
       intro i v j c hv hc
       obtain ⟨x,hx,rfl,hux⟩:=hel i v hv
       obtain ⟨k1,k2⟩:=hval i x hx
       have hf2:=hfl _ (List.mem_of_getElem? hv)
       obtain ⟨q1,q2⟩:=flat_cells (hrep i x hx 0 0) k1 hf2
       have hj:j<(a.eval x).cells.size:=by rw [←q1];exact (List.getElem?_eq_some_iff.1 hc).1
       obtain ⟨r1,r2⟩:=q2 j c hj hc
       have:=e4 i _ j hux (by have:=husz _ (List.mem_of_getElem? hux);omega)
       rw [Nat.zero_add,Array.getElem?_eq_getElem hj] at this
       exact ⟨r1,_,by rw [Array.getElem?_toList];exact this,r2⟩
      have hmem:∀ p,stAt (g1.addMem w.heap.size cur.toList).mem w.heap.size p=cur.toList[p]?:=by intro p;simp [stAt,Gh.addMem]
      have himm:=RepI.imm (m:=(g1.addMem w.heap.size cur.toList).mem) true (parts.toList.map fun p=>st.useV p.2) w.heap.size 0 m sz (fun i j=>(cur.toList[i*sz+j]?).getD default) (by rw [hvl];exact Nat.le_refl _) (fun _=>by rw [hvl]) (by
        simp only [maxLen]
        have:m≤m*sz:=Nat.le_mul_of_pos_right _ h0
        omega) h0
       (fun i v hv=>by
        obtain ⟨x,hx,rfl,_⟩:=hel i v hv
        exact (hval i x hx).2)
       (fun i v j c hv hc=>by
        obtain ⟨r1,u,r2,_⟩:=hcell i v j c hv hc
        refine ⟨r1,?_⟩
        rw [Nat.zero_add,hmem,r2];rfl)
       (fun i v j c hv hc=>by
        obtain ⟨_,u,r2,r3⟩:=hcell i v j c hv hc
        rw [r2]
        exact r3.mono l2.mem)
      rw [hvl] at himm
      exact himm
     ·-- it is laid into the heap
      have hh:(st.useAll (parts.toList.map (·.2))).h=st.h:=useAll_h _ _
      obtain ⟨fm1,fm2⟩:=flatMap_get sz h0 (parts.toList.map fun p=>st.useV p.2) (fun v hv=>by
       obtain ⟨i,hi,rfl⟩:=List.mem_iff_getElem.1 hv
       obtain ⟨x,hx,e,_⟩:=hel i _ (List.getElem?_eq_getElem hi)
       rw [e];exact (hval i x hx).2)
      obtain ⟨g2,q1,q2,q3,_,_,_,q7⟩:=new_own hR1 ((parts.toList.map fun p=>st.useV p.2).flatMap V.cells) cur e (by rw [fm1,hcsz];simp [hlen]) (fun j c hj hc=>by
       obtain ⟨v,hv,hvc⟩:=fm2 j c hc
       obtain ⟨x,hx,rfl,hux⟩:=hel _ v hv
       obtain ⟨k1,k2⟩:=hval _ x hx
       have hr:=hrep _ x hx 0 0
       have hnt:∀ vs,st.useV x≠.tup vs:=fun vs e=>by rw [e] at k1;cases k1
       have hnu:st.useV x≠.undef:=fun e=>by rw [e] at k1;cases k1
       rw [repS_notTup hnt] at hr
       obtain ⟨c1,c2⟩:=cellsA hnu hr
       have hjm:j % sz<(a.eval x).cells.size:=by rw [←c1,k2];exact Nat.mod_lt _ h0
       obtain ⟨j',_,hrc⟩:=c2 (j % sz) c hjm hvc
       have:=e4 (j / sz) _ (j % sz) hux (Nat.mod_lt _ h0)
       rw [Nat.zero_add,Nat.mul_comm,Nat.div_add_mod,Array.getElem?_eq_getElem hjm,Array.getElem?_eq_getElem hj] at this
       rw [Option.some.inj this]
       refine hrc.any ?_
       have hin:=List.mem_of_getElem? hvc
       have hl3:=isLin3_demote (st.peek x)
       generalize hg:map3 demote1 (st.peek x)=vv at hl3
       have hg':st.useV x=vv:=hg
       rw [hg'] at hin k1
       cases vv<;>simp only [V.cells,List.mem_singleton] at hin<;>try (subst hin;first | exact hl3 | rfl | (cases k1;done))
       simp only [isLin3,isLin2] at hl3
       rw [List.any_eq_false] at hl3
       exact Bool.eq_false_iff.2 (hl3 c hin))
      refine wp_value (by simp [ho]) hrun (hk _ _ g2 _ _ (l1.trans q1) q2 ?_ h)
      exact .inl ⟨_,m,q3,rfl,Nat.le_refl _,by
       have:m≤m*sz:=Nat.le_mul_of_pos_right _ h0
       simp only [maxLen];omega,Nat.le_refl _,q7 m (fun sz' hsz'=>by
        rw [C.isP] at *
        have:sz'=sz:=by simp_all
        subst this;omega)⟩
    ·cases h
   ·cases h
  ·cases h
 ·cases h
end
end Go.Fw
namespace Go.Fw
open Go.RowKit
theorem isPre_take {α:Type} {cs l:List α} (h:cs <+: l):l.take cs.length=cs:=by
 obtain ⟨t,rfl⟩:=h
 simp
theorem Elems.append {m:Mem} {esz:Nat} {xs ys:List V} {cs ds:List Value} (h:Elems m esz xs cs) (k:Elems m esz ys ds):Elems m esz (xs++ys) (cs++ds):=by
 obtain ⟨h1,h2,h3,h4⟩:=h
 obtain ⟨k1,_,k3,k4⟩:=k
 refine ⟨by rw [List.length_append,List.length_append,h1,k1,Nat.add_mul],h2,fun i x hx=>?_,fun i x j c hx hc=>?_⟩
 ·by_cases hi:i<xs.length
  ·rw [List.getElem?_append_left hi] at hx;exact h3 i x hx
  ·rw [List.getElem?_append_right (by omega)] at hx;exact k3 _ x hx
 ·by_cases hi:i<xs.length
  ·rw [List.getElem?_append_left hi] at hx
   obtain ⟨a,v,hv,hr⟩:=h4 i x j c hx hc
   exact ⟨a,v,by rw [List.getElem?_append_left (List.getElem?_eq_some_iff.1 hv).1];exact hv,hr⟩
  ·rw [List.getElem?_append_right (by omega)] at hx
   obtain ⟨a,v,hv,hr⟩:=k4 _ x j c hx hc
   refine ⟨a,v,?_,hr⟩
   have hle:xs.length*esz≤i*esz:=Nat.mul_le_mul_right _ (by omega)
   rw [List.getElem?_append_right (by omega),h1]
   rw [←hv]
   congr 1
   rw [Nat.sub_mul];omega
theorem imm_news {m:Mem} {full:Bool} {esz:Nat} {ys:List V} {u:Value} {w:World} (h:RepI m (.imm full esz ys) u) (hm:MemOk m w) (hne:ys≠[]) :
  ∃ ad c news,u=.slice (some ad) ys.length c∧news.length=ys.length*esz∧(∀ (j:Nat) (v:Value),news[j]?=some v→w.cell? (ad.add j)=some v)∧(∀ v∈news,v.oneCell'=true)∧Elems m esz ys news:=by
 cases h with
 | none0=>exact absurd rfl hne
 | imm _ _ b off cap _ val hc hf hmx hz hl hs hv sp hsp =>
  have hcell:∀ j,j<ys.length*esz→∃ (x:V) (c:V),ys[j / esz]?=some x∧x.cells[j % esz]?=some c:=by
   intro j hj
   have h1:j / esz<ys.length:=Nat.div_lt_of_lt_mul (by rw [Nat.mul_comm];exact hj)
   have hx:=List.getElem?_eq_getElem h1
   have hl':=hl _ _ hx
   have h2:j % esz<ys[j / esz].cells.length:=by rw [hl'];exact Nat.mod_lt _ hz
   exact ⟨_,_,hx,List.getElem?_eq_getElem h2⟩
  let news:=(List.range (ys.length*esz)).map fun j=>val (j / esz) (j % esz)
  have hlen:news.length=ys.length*esz:=by simp [news]
  have hget:∀ j v,news[j]?=some v→j<ys.length*esz∧v=val (j / esz) (j % esz):=by
   intro j v hj
   have hlt:=(List.getElem?_eq_some_iff.1 hj).1
   rw [hlen] at hlt
   refine ⟨hlt,?_⟩
   have:=(List.getElem?_eq_some_iff.1 hj).2
   rw [←this];simp [news]
  refine ⟨⟨b,off,sp⟩,cap,news,rfl,hlen,fun j v hj=>?_,fun v hvm=>?_,hlen,hz,hl,fun i x j c hx hxc=>?_⟩
  ·obtain ⟨hlt,rfl⟩:=hget j v hj
   obtain ⟨x,c,hx,hxc⟩:=hcell j hlt
   have hyl:0<ys.length:=Nat.lt_of_le_of_lt (Nat.zero_le _) (List.getElem?_eq_some_iff.1 hx).1
   have hsp:sp=none:=by
    rcases hsp with h | h
    ·exact h
    ·omega
   subst hsp
   have hst:=(hs _ x _ c hx hxc).2
   unfold stAt at hst
   obtain ⟨cs,hcs,hci⟩:=Option.bind_eq_some_iff.1 hst
   obtain ⟨cur,e',fr,hh,tl,htl⟩:=hm.at_ b cs hcs
   rw [addr_add,cell_of_heap hh,←Array.getElem?_toList,←htl]
   have:off+j=off+j / esz*esz+j % esz:=by rw [Nat.add_assoc,Nat.mul_comm,Nat.div_add_mod]
   rw [this,List.getElem?_append_left (List.getElem?_eq_some_iff.1 hci).1]
   exact hci
  ·obtain ⟨j,hj,rfl⟩:=List.mem_iff_getElem.1 hvm
   obtain ⟨hlt,e⟩:=hget j _ (List.getElem?_eq_getElem hj)
   obtain ⟨x,c,hx,hxc⟩:=hcell j hlt
   rw [e]
   exact (hv _ x _ c hx hxc).one (hs _ x _ c hx hxc).1
  ·refine ⟨(hs i x j c hx hxc).1,val i j,?_,hv i x j c hx hxc⟩
   have hi:=(List.getElem?_eq_some_iff.1 hx).1
   have hj:=(List.getElem?_eq_some_iff.1 hxc).1
   rw [hl i x hx] at hj
   have hlt:i*esz+j<ys.length*esz:=by
    have:(i+1)*esz≤ys.length*esz:=Nat.mul_le_mul_right _ hi
    rw [Nat.add_mul,Nat.one_mul] at this
    omega
   have hg:news[i*esz+j]?=some (val ((i*esz+j) / esz) ((i*esz+j) % esz)):=by
    simp [news,hlt]
   rw [hg]
   have e1:(i*esz+j) / esz=i:=by
    rw [Nat.add_comm,Nat.add_mul_div_right _ _ hz,Nat.div_eq_of_lt hj,Nat.zero_add]
   have e2:(i*esz+j) % esz=j:=by rw [Nat.mul_comm,Nat.mul_add_mod];exact Nat.mod_eq_of_lt hj
   rw [e1,e2]
section
variable {B τ:Nat} {g:Gh} {st:St} {a:Act} {w:World}
def Gh.grown (g:Gh) (b:Nat) (i:LinI):Gh where
 mem:=⟨fun x=>if x=b∧i.priv=false then some i.cs else g.mem x,g.mem.shape⟩
 loc:=g.loc
 lin:=fun x=>if x=b then some i else g.lin x
theorem grow_sound (h:R B τ g st a w) {w':World} {b d:Nat} {i:LinI} {row:Option Nat} (hg:w.grownBy w' row) (hrow:∀ k,row=some k→k=b∧B≤k) (hBb:B≤b) (hplace:i.place=.slot τ d 0 0)
  (hold:(∃ i0,g.lin b=some i0∧i0.place=.slot τ d 0 0∧i0.priv=i.priv∧i0.cs <+: i.cs)∨(g.lin b=none∧g.mem b=none∧w.heap.size≤b))
  (hcur:∃ cur,w'.heap[b]?=some (.cells cur i.ety (0,0))∧i.cs <+: cur.toList∧cur.size=i.cap*i.esz) (hle:i.cs.length≤i.cap*i.esz) (hmx:i.cap≤maxLen) (hz:0<i.esz) (hfree:∀ v,st.fr[d]?=some v→isLin3 v=false) (hshp:∀ n e,g.mem.shape b=some (n,e)→∃ cur fr,w'.heap[b]?=some (.cells cur e fr)∧cur.size=n) :
  Later B τ g (g.grown b i) w w'∧R B τ (g.grown b i) st a w':=by
 have hnl:∀ id,g.loc id≠some b:=by
  intro id hid
  obtain ⟨h1,h2,h3,h4⟩:=h.heap.fresh id b hid
  rcases hold with ⟨i0,e,_⟩ | ⟨_,_,e⟩
  ·rw [h4] at e;cases e
  ·omega
 have hmem:MemLe g.mem (g.grown b i).mem:=by
  refine ⟨fun x cs hx=>?_,fun _ _ h=>h⟩
  unfold Gh.grown
  dsimp only
  split
  ·rename_i e
   obtain ⟨rfl,hp⟩:=e
   rcases hold with ⟨i0,e,e2,e3,e4⟩ | ⟨_,e,_⟩
   ·obtain ⟨_,_,_,_,_,_,hs⟩:=h.lin.at_ _ i0 e
    rw [hs (by rw [e3];exact hp)] at hx
    cases hx
    exact ⟨_,rfl,e4⟩
   ·rw [e] at hx;cases hx
  ·exact ⟨cs,hx,List.prefix_refl _⟩
 have hblk:∀ k x,w.heap[k]?=some x→k≠b→w'.heap[k]?=some x:=by
  intro k x hk hne
  rw [hg.block k (Array.getElem?_eq_some_iff.1 hk).1 (fun e=>hne (hrow k e.symm).1)]
  exact hk
 have hlinm:∀ x i0,g.lin x=some i0→i0.place≠.slot τ d 0 0→(g.grown b i).lin x=some i0:=by
  intro x i0 hx hne
  unfold Gh.grown
  dsimp only
  split
  ·rename_i e;subst e
   rcases hold with ⟨i1,e,e2,_⟩ | ⟨e,_⟩
   ·rw [e] at hx;cases hx;exact absurd e2 hne
   ·rw [e] at hx;cases hx
  ·exact hx
 refine ⟨⟨(Below.refl B w).grown hg h.base (fun k hk=>(hrow k hk).2),hmem,fun x hx=>?_,fun _ _ h=>h,fun x i0 hx ⟨τ',y,j,k,hp,hne⟩=>hlinm x i0 hx (by rw [hp];intro e;injection e with e _;exact hne e)⟩,⟨h.size,fun s v hs hv=>?_,⟨h.heap.bound,h.heap.inj,?_,?_⟩,⟨?_,fun b cs hb=>glob_le hmem (h.mem.glob b cs hb),fun x n e hx=>by
  by_cases hxb:x=b
  ·subst hxb;exact hshp n e hx
  ·obtain ⟨cur,fr,h1,h2⟩:=h.mem.shape x n e hx
   exact ⟨cur,fr,hblk x _ h1 hxb,h2⟩⟩,⟨?_⟩,Nat.le_trans h.base hg.size,h.defers.mono (g:=g) (g':=g.grown b i) hmem (fun _ _ h=>h) (fun _ h=>h)⟩⟩
 ·unfold Gh.grown;dsimp only;rw [if_neg (by omega)]
 ·by_cases hsd:s=d
  ·subst hsd
   have hnl:=hfree v hv
   have h1:=h.slots s v hs hv
   have h2:RepS g (τ+1) s v a.tmps[s]:=h1.any hnl
   have h3:=RepS.mono (g':=g.grown b i) hmem (fun _ _ h=>h) (fun j k x i0 hx hp=>hlinm x i0 hx (by rw [hp];intro e;injection e with e _;omega)) h2
   exact h3.any hnl
  ·exact RepS.mono (g':=g.grown b i) hmem (fun _ _ h=>h) (fun j k x i0 hx hp=>hlinm x i0 hx (by rw [hp];intro e;injection e with _ e _;exact hsd e)) (h.slots s v hs hv)
 ·intro id x hx
  obtain ⟨h1,h2,h3,h4⟩:=h.heap.fresh id x hx
  have hne:x≠b:=fun e=>hnl id (e ▸ hx)
  refine ⟨h1,Nat.lt_of_lt_of_le h2 hg.size,?_,?_⟩
  ·unfold Gh.grown;dsimp only;rw [if_neg (by simp [hne])];exact h3
  ·unfold Gh.grown;dsimp only;rw [if_neg hne];exact h4
 ·intro id x y hx he
  obtain ⟨o,h1,h2⟩:=h.heap.blkO id x y hx he
  have hne:x≠b:=fun e=>hnl id (e ▸ hx)
  exact ⟨o,hblk x _ h1 hne,BlkOk.mono (g:=g) (g':=g.grown b i) hmem (fun _ _ h=>h) (fun j y i0 hy hp=>hlinm y i0 hy (by rw [hp];intro e;cases e)) h2⟩
 ·intro x cs hx
  unfold Gh.grown at hx
  dsimp only at hx
  split at hx
  ·rename_i e
   obtain ⟨rfl,_⟩:=e
   cases hx
   obtain ⟨cur,h1,h2,_⟩:=hcur
   exact ⟨cur,_,_,h1,h2⟩
  ·rename_i hne
   by_cases hxb:x=b
   ·subst hxb
    rcases hold with ⟨i0,e,e2,e3,e4⟩ | ⟨_,e,_⟩
    ·obtain ⟨_,_,_,_,_,hp,_⟩:=h.lin.at_ _ i0 e
     have:i0.priv=true:=by
      rw [e3]
      cases hpr:i.priv with
      | true=>rfl
      | false=>exact absurd ⟨rfl,hpr⟩ hne
     rw [hp this] at hx;cases hx
    ·rw [e] at hx;cases hx
   ·obtain ⟨cur,e,fr,h1,h2⟩:=h.mem.at_ x cs hx
    exact ⟨cur,e,fr,hblk x _ h1 hxb,h2⟩
 ·intro x i0 hx
  unfold Gh.grown at hx
  dsimp only at hx
  split at hx
  ·rename_i e
   subst e
   cases hx
   refine ⟨hBb,hcur,hle,hmx,hz,fun hp=>?_,fun hp=>?_⟩
   ·unfold Gh.grown;dsimp only
    rw [if_neg (by simp [hp])]
    rcases hold with ⟨i1,e,e2,e3,e4⟩ | ⟨_,e,_⟩
    ·obtain ⟨_,_,_,_,_,hq,_⟩:=h.lin.at_ _ i1 e
     exact hq (by rw [e3];exact hp)
    ·exact e
   ·unfold Gh.grown;dsimp only
    rw [if_pos ⟨rfl,hp⟩]
  ·rename_i hne
   obtain ⟨h1,⟨cur,h2,h3,h4⟩,h5,h6,h7,h8,h9⟩:=h.lin.at_ x i0 hx
   refine ⟨h1,⟨cur,hblk x _ h2 hne,h3,h4⟩,h5,h6,h7,fun hp=>?_,fun hp=>?_⟩
   ·unfold Gh.grown;dsimp only;rw [if_neg (by simp [hne])];exact h8 hp
   ·unfold Gh.grown;dsimp only;rw [if_neg (by simp [hne])];exact h9 hp
end
end Go.Fw
namespace Go.Fw
open Go.RowKit
theorem run_append_zero {P:Program} (w:World) (t ty e:TypeId) (i:TypeInfo) (ht:P.underlying t=some (.slice e)) (hi:P.info? e=some i) (b c:Option Addr) (n m k:Nat) (hn:n≤m) (hz:b=none→n=0∧m=0) :
  (Builtin.append_ #[t,t] ty #[.slice b n m,.slice c 0 k]).run P w=.ok (.slice b n m) w:=by
 cases b with
 | none =>
  obtain ⟨rfl,rfl⟩:=hz rfl
  cases c<;>simp [Builtin.append_,run_underlying ht,sizeOf,typeInfo,hi,Builtin.lenOf,Builtin.firstCells,loadCells,loadCellsFrom]
 | some b=>cases c<;>simp [Builtin.append_,run_underlying ht,sizeOf,typeInfo,hi,Builtin.lenOf,hn,Builtin.firstCells,loadCells,loadCellsFrom,storeCells]
theorem run_append_at {P:Program} (w:World) (t ty e:TypeId) (i:TypeInfo) (ht:P.underlying t=some (.slice e)) (hi:P.info? e=some i) (b off n cap:Nat) (cur:Array Value) (t0:TypeId) (hcur:w.heap[b]?=some (.cells cur t0 (0,0)))
  (a:Addr) (m c:Nat) (news:List Value) (hl:news.length=m*i.size) (hnews:∀ j u,news[j]?=some u→w.cell? (a.add j)=some u) (h1:∀ u∈news,u.oneCell'=true) (hroom:n+m≤cap) (hfit:off+n*i.size+news.length≤cur.size) :
  (Builtin.append_ #[t,t] ty #[.slice (some ⟨b,off,none⟩) n cap,.slice (some a) m c]).run P w=.ok (.slice (some ⟨b,off,none⟩) (n+m) cap)
   (w.setRow b (cur.toList.take (off+n*i.size)++news++cur.toList.drop (off+n*i.size+news.length)).toArray):=by
 have hfc:=run_firstCells_some (P:=P) w i.size m a m c news hl hnews
 have hst:=run_storeCells_at (P:=P) b (off+n*i.size) t0 news 0 cur w hcur (by omega) h1
 simp only [Nat.add_zero] at hst
 simp [Builtin.append_,run_underlying ht,sizeOf,typeInfo,hi,Builtin.lenOf,hroom,hfc,Addr.add_lit,hst]
theorem run_clear_at {P:Program} (w:World) (t e ty:TypeId) (z:Value) (ht:P.underlying t=some (.slice e)) (hv:∀ w,(zeroValue e).run P w=.ok z w) (b off n c:Nat) (cur:Array Value) (t0:TypeId) (hcur:w.heap[b]?=some (.cells cur t0 (0,0)))
  (hn:0<n) (h1:∀ v∈(Builtin.zeroCells z.cells n).toList,v.oneCell'=true) (hfit:off+(Builtin.zeroCells z.cells n).toList.length≤cur.size) :
  (Builtin.clear_ #[t] ty #[.slice (some ⟨b,off,none⟩) n c]).run P w=.ok (.tuple #[]) (w.setRow b (cur.toList.take off++(Builtin.zeroCells z.cells n).toList++cur.toList.drop (off+(Builtin.zeroCells z.cells n).toList.length)).toArray):=by
 have hst:=run_storeCells_at (P:=P) b off t0 (Builtin.zeroCells z.cells n).toList 0 cur w hcur (by omega) h1
 simp only [Nat.add_zero] at hst
 obtain ⟨m,rfl⟩:∃ m,n=m+1:=⟨n-1,by omega⟩
 simp only [Builtin.clear_]
 simp [run_underlying ht,hv,hst]
theorem run_clear_zero {P:Program} (w:World) (t e ty:TypeId) (ht:P.underlying t=some (.slice e)) (b:Option Addr) (c:Nat):(Builtin.clear_ #[t] ty #[.slice b 0 c]).run P w=.ok (.tuple #[]) w:=by
 cases b<;>simp [Builtin.clear_,run_underlying ht]
theorem flatMap_at {sz:Nat}:∀ {xs:List V} {j:Nat} {c:V},(∀ (i:Nat) (x:V),xs[i]?=some x→x.cells.length=sz)→0<sz→(xs.flatMap V.cells)[j]?=some c→∃ x,xs[j / sz]?=some x∧x.cells[j % sz]?=some c
 | [],j,c,_,_,h=>by simp at h
 | x::xs,j,c,hl,h0,h=>by
  rw [List.flatMap_cons] at h
  have hx:=hl 0 x rfl
  by_cases hj:j<sz
  ·rw [List.getElem?_append_left (by omega)] at h
   rw [Nat.div_eq_of_lt hj,Nat.mod_eq_of_lt hj]
   exact ⟨x,rfl,h⟩
  ·rw [List.getElem?_append_right (by omega),hx] at h
   obtain ⟨y,h1,h2⟩:=flatMap_at (fun i y hy=>hl (i+1) y (by simpa using hy)) h0 h
   refine ⟨y,?_,?_⟩
   ·rw [Nat.div_eq_sub_div h0 (by omega)]
    simpa using h1
   ·rwa [Nat.mod_eq_sub_mod (by omega)]
theorem flatMap_len {sz:Nat}:∀ {xs:List V},(∀ (i:Nat) (x:V),xs[i]?=some x→x.cells.length=sz)→(xs.flatMap V.cells).length=xs.length*sz
 | [],_=>by simp
 | x::xs,hl=>by
  rw [List.flatMap_cons,List.length_append,flatMap_len (sz:=sz) (fun i y hy=>hl (i+1) y (by simpa using hy)),hl 0 x rfl,List.length_cons,Nat.add_mul]
  omega
theorem cell_flat {g:Gh} {p:Place} {v:V} {u:Value} (hc:isCell v=true) (h:RepI g.mem v u):RepC g p v u:=by
 cases v<;>try exact h
 case undef=>cases h
 case ptr=>cases h
 case obj=>cases h
 case own=>cases h
 case lin=>cases h
 case agg=>cases hc
 case tup=>cases hc
 case fn f first caps =>
  cases h with
  | fn _ _ _ first' caps' h1 h2 v1 v2 =>
   have key:∀ v u,RepI g.mem v u→RepP g v u:=fun v u h=>by
    cases v<;>first | exact h | cases h
   exact ⟨first',caps',rfl,h1,h2,fun j c hj hc=>key _ _ (v1 j c hj hc),fun j c hj hc=>key _ _ (v2 j c hj hc)⟩
section
variable {C:Cx} {vb:FuncId→List V→List Blk→Option FOut} {f:FuncId} {ρ:Option Nat} {n:Nat} {o:Oper} {st:St} {α:Type} {k kp:V→St→Option α} {out:α}
 {B τ:Nat} {g:Gh} {a:Act} {w:World} {next:Act→World→Prop} {Q:Exit→Act→World→Prop}
theorem splice_sound (hR:R B τ g st a w) {id b o:Nat} {cs ys:List V} {e:TypeId} {cur:Array Value} {news:List Value} (hb:g.loc id=some b) (hcs:st.h[id]?=some (.cells cs e)) (hcur:w.heap[b]?=some (.cells cur e (0,0)))
  (hl:ys.length=news.length) (hfit:o+ys.length≤cs.length) (hrep:∀ (j:Nat) (c:V) (v:Value),ys[j]?=some c→news[j]?=some v→RepC g (.cell id (o+j)) c v) :
  Later B τ g g w (w.setRow b (cur.toList.take o++news++cur.toList.drop (o+news.length)).toArray) ∧
   R B τ g {st with h:=st.h.set id (.cells (setAt cs o ys) e)} a (w.setRow b (cur.toList.take o++news++cur.toList.drop (o+news.length)).toArray):=by
 obtain ⟨cur0,hcur0,hlc,hrep0⟩:=hR.heap.blk id b cs e hb hcs
 rw [hcur] at hcur0
 cases hcur0
 have hcl:cur.toList.length=cur.size:=Array.length_toList
 have hfit':o+news.length≤cur.toList.length:=by omega
 generalize hc':(cur.toList.take o++news++cur.toList.drop (o+news.length)).toArray=cur'
 have hsz:cur'.size=cur.size:=by
  rw [←hc',List.size_toArray,List.length_append,List.length_append,List.length_take,List.length_drop]
  omega
 refine write_blk hR hb hcs hcur (by rw [length_setAt,hsz];exact hlc) hsz (fun j c hj hc=>?_)
 rw [getElem?_setAt _ _ _ _ hfit] at hc
 have hg:cur'[j]?=if o≤j∧j<o+news.length then news[j-o]? else cur.toList[j]?:=by
  rw [←hc']
  simpa using splice_get cur.toList news o j hfit'
 rw [Array.getElem?_eq_getElem hj] at hg
 by_cases h1:o≤j∧j<o+news.length
 ·rw [if_pos h1] at hg
  rw [if_pos (by omega)] at hc
  have:=hrep (j-o) c _ hc hg.symm
  rwa [show o+(j-o)=j by omega] at this
 ·rw [if_neg h1,Array.getElem?_toList,Array.getElem?_eq_getElem (by omega)] at hg
  rw [if_neg (by omega)] at hc
  rw [Option.some.inj hg]
  exact hrep0 j c (by omega) hc
theorem ownSrc_sound (hR:R B τ g st a w) {x:Operand} {sz m:Nat} {ys:List V} (hs:ownSrc st.h sz (st.peek x)=some (m,ys)) (hlen:ys.length=m*sz) (h0:0<sz) (hnl:ys.all (fun c=>!isLin1 c&&okV c)=true) (hm:m≠0) :
  ∃ (ad:Addr) (c:Nat) (news:List Value),a.eval x=.slice (some ad) m c∧news.length=m*sz∧(∀ (j:Nat) (v:Value),news[j]?=some v→w.cell? (ad.add j)=some v)∧(∀ v∈news,v.oneCell'=true)∧∀ (p:Place) (j:Nat) (c:V) (v:Value),ys[j]?=some c→news[j]?=some v→RepC g p c v:=by
 obtain ⟨dx,hx⟩:=peek_rep hR x
 unfold ownSrc at hs
 split at hs
 ·rename_i id off len room hp
  rw [hp] at hx
  split at hs
  ·rename_i cs e hcs
   cases hs
   rcases hx with ⟨b,cap,hl,eu,hlc,hcm,hrm⟩ | ⟨e0,_⟩
   ·obtain ⟨cur,hcur,hlcur,hrep⟩:=hR.heap.blk id b cs e hl hcs
    have hle:off+m*sz≤cs.length:=by
     have:((cs.drop off).take (m*sz)).length=min (m*sz) (cs.length-off):=by simp
     rw [this] at hlen
     have:0<m*sz:=Nat.mul_pos (by omega) h0
     omega
    have hnl':((cur.toList.drop off).take (m*sz)).length=m*sz:=by simp;omega
    have key:∀ (p:Place) (j:Nat) (c:V) (v:Value),((cs.drop off).take (m*sz))[j]?=some c→((cur.toList.drop off).take (m*sz))[j]?=some v→RepC g p c v:=by
     intro p j c v hc hv
     have hmem:=List.mem_of_getElem? hc
     rw [List.all_eq_true] at hnl
     have:=hnl c hmem
     simp only [Bool.and_eq_true,Bool.not_eq_true'] at this
     rw [takeDrop_get] at hc hv
     split at hc
     ·rename_i hj
      rw [if_pos hj,Array.getElem?_toList] at hv
      obtain ⟨hlt,rfl⟩:=Array.getElem?_eq_some_iff.1 hv
      exact RepC.any this.1 (hrep _ c hlt hc)
     ·cases hc
    refine ⟨⟨b,off,none⟩,cap,(cur.toList.drop off).take (m*sz),eu,hnl',fun j v hv=>?_,fun v hv=>?_,key⟩
    ·rw [takeDrop_get] at hv
     split at hv
     ·rw [addr_add,cell_of_heap hcur,←Array.getElem?_toList];exact hv
     ·cases hv
    ·obtain ⟨j,hj,rfl⟩:=List.mem_iff_getElem.1 hv
     have hj2:j<((cs.drop off).take (m*sz)).length:=by rw [hlen];rw [hnl'] at hj;exact hj
     exact (key (.cell 0 0) j _ _ (List.getElem?_eq_getElem hj2) (List.getElem?_eq_getElem hj)).one
   ·exact absurd e0 hm
  ·cases hs
 ·rename_i fl q xs hp
  split at hs
  ·rename_i hq
   subst hq
   cases hs
   rw [hp] at hx
   have hxs:xs≠[]:=fun e=>hm (by rw [e];rfl)
   have hx:RepI g.mem (.imm fl q xs) (a.eval x):=hx
   obtain ⟨ad,c,news,eu,hnl',hcell,hone,hel⟩:=imm_news hx hR.mem hxs
   refine ⟨ad,c,news,eu,hnl',hcell,hone,fun p j c v hc hv=>?_⟩
   obtain ⟨x1,h1,h2⟩:=flatMap_at hel.2.2.1 h0 hc
   obtain ⟨q1,v',q2,q3⟩:=hel.2.2.2 _ x1 _ c h1 h2
   have hjj:j / q*q+j % q=j:=by rw [Nat.mul_comm];exact Nat.div_add_mod _ _
   rw [hjj,hv] at q2
   cases q2
   exact cell_flat q1 q3
  ·cases hs
 ·cases hs
theorem op_clear {c:Call} (ho:o.op=.call c) (hb:c.callee=.builtin .clear) (h:vop C vb f o st k kp=some out) (hR:R B τ g st a w) (hk:Goes B τ g a w o.dst k out next):o.wpIn (FW ρ) n C.P a w next Q:=by
 unfold vop at h
 rw [ho] at h
 dsimp only at h
 rw [hb] at h
 dsimp only at h
 split at h
 ·rename_i x t hx' htt
  have ea:c.args=#[x]:=by rw [←Array.toList_inj];exact hx'
  have et:c.argTypes=#[t]:=by rw [←Array.toList_inj];exact htt
  split at h
  ·rename_i e id off len room he hp
   have ht:=sliceT he
   split at h
   ·rename_i sz z cs e' hsz hz hcs
    rcases condB_cases h with ⟨hc,h⟩ | ⟨_,h⟩
    ·simp only [decide_eq_true_eq] at hc
     obtain ⟨h0,hzl,hokz,hfz,hdst,hfit⟩:=hc
     obtain ⟨it,zv,hit,hzv,ez⟩:=zeroT_eq hz
     subst ez
     obtain ⟨c1,c2⟩:=ofVal_cells (g:=g) hokz
     have hzsz:zv.cells.size=sz:=by rw [←c1];exact hzl
     obtain ⟨dx,hx⟩:=peek_rep hR x
     rw [hp] at hx
     have hzr:∀ w,(zeroValue e).run C.P w=.ok zv w:=by intro w;simp [zeroValue,typeInfo,hit,hzv]
     have fin:∀ (w':World),(Builtin.clear_ #[t] o.type #[a.eval x]).run C.P w=.ok (.tuple #[]) w'→Later B τ g g w w'→R B τ g {st with h:=st.h.set id (.cells (setAt cs off (List.replicate len (ofVal zv).cells).flatten) e')} a w'→o.wpIn (FW ρ) n C.P a w next Q:=by
      intro w' hrun l3 R3
      refine wp_value (by simp [ho]) (v:=.tuple #[]) (w':=w') ?_ (hk .undef _ g _ w' l3 R3 trivial h)
      simp [execOp,ho,resolve,hb,ea,et,invoke,builtin,hrun]
     have zero:len=0→(∃ ad c,a.eval x=.slice ad 0 c)→o.wpIn (FW ρ) n C.P a w next Q:=by
      rintro rfl ⟨ad,cc,eu⟩
      refine fin w (by rw [eu];exact run_clear_zero w t e o.type ht ad cc) (Later.refl ..) ?_
      have hset:st.h.set id (.cells (setAt cs off (List.replicate 0 (ofVal zv).cells).flatten) e')=st.h:=by
       obtain ⟨hlt,hg⟩:=List.getElem?_eq_some_iff.1 hcs
       show st.h.set id (.cells cs e')=st.h
       rw [←hg];exact List.set_getElem_self hlt
      rw [hset];exact hR
     rcases hx with ⟨b,cap,hl,eu,hlc,hcm,hrm⟩ | ⟨e0,_,ad,eu⟩
     ·by_cases hlen:len=0
      ·exact zero hlen ⟨_,cap,by rw [eu,hlen]⟩
      ·obtain ⟨cur,hcur,hlcur,_⟩:=hR.heap.blk id b cs e' hl hcs
       have hfl:((List.replicate len (ofVal zv).cells).flatten).length=len*sz:=by simp [hzl]
       have hzc:(Builtin.zeroCells zv.cells len).toList.length=len*sz:=by simp [size_zeroCells,hzsz]
       have hat:∀ (j:Nat) (v:Value),(Builtin.zeroCells zv.cells len).toList[j]?=some v→∃ hj:j % sz<zv.cells.size,v=zv.cells[j % sz]:=by
        intro j v hv
        have hj:=(List.getElem?_eq_some_iff.1 hv).1
        have hjm:j % sz<zv.cells.size:=by rw [hzsz];exact Nat.mod_lt _ h0
        refine ⟨hjm,?_⟩
        have:=(List.getElem?_eq_some_iff.1 hv).2
        rw [←this]
        simp only [Builtin.zeroCells,Array.getElem_toList,Array.getElem_map,Array.getElem_range]
        rw [getElem!_pos zv.cells (j % zv.cells.size) (by rw [hzsz];exact Nat.mod_lt _ h0)]
        congr 1;rw [hzsz]
       obtain ⟨l3,R3⟩:=splice_sound hR (o:=off) (ys:=(List.replicate len (ofVal zv).cells).flatten) (news:=(Builtin.zeroCells zv.cells len).toList) hl hcs hcur (by rw [hfl,hzc]) (by rw [hfl];exact hfit) (fun j c v hc hv=>by
        obtain ⟨hj,rfl⟩:=hat j v hv
        exact c2 _ (j % sz) c hj (flat_get len (ofVal zv).cells sz hzl h0 j c hc))
       refine fin _ ?_ l3 R3
       rw [eu]
       exact run_clear_at (P:=C.P) w t e o.type zv ht hzr b off len cap cur e' hcur (by omega) (fun v hv=>by
        obtain ⟨j,hj,rfl⟩:=List.mem_iff_getElem.1 hv
        obtain ⟨hj',e1⟩:=hat j _ (List.getElem?_eq_getElem hj)
        rw [e1]
        exact (c2 (.cell 0 0) (j % sz) _ hj' (List.getElem?_eq_getElem (by rw [c1];exact hj'))).one) (by rw [hzc];omega)
     ·exact zero e0 ⟨ad,0,by rw [eu]⟩
    ·cases h
   ·cases h
  ·cases h
 ·cases h
end
end Go.Fw
namespace Go.Fw
open Go.RowKit
section
variable {C:Cx} {vb:FuncId→List V→List Blk→Option FOut} {f:FuncId} {ρ:Option Nat} {n:Nat} {o:Oper} {st:St} {α:Type} {k kp:V→St→Option α} {out:α}
 {B τ:Nat} {g:Gh} {a:Act} {w:World} {next:Act→World→Prop} {Q:Exit→Act→World→Prop}
theorem drew_R (h:R B τ g st a w):Later B τ g g w w.drew∧R B τ g st a w.drew :=
 ⟨⟨(Below.refl B w).drew,MemLe.refl _,fun _ _=>rfl,fun _ _ h=>h,fun _ _ h _=>h⟩,⟨h.size,h.slots,⟨h.heap.bound,h.heap.inj,h.heap.fresh,h.heap.blkO⟩,⟨h.mem.at_,h.mem.glob,h.mem.shape⟩,⟨h.lin.at_⟩,h.base,h.defers⟩⟩
theorem gone_R (hR:R B τ g st a w) {id b:Nat} {cs:List V} {e:TypeId} (hb:g.loc id=some b) (hcs:st.h[id]?=some (.cells cs e)) {cur cur':Array Value} (hcur:w.heap[b]?=some (.cells cur e (0,0))) (hss:cur'.size=cur.size) :
  Later B τ g g w (w.setRow b cur')∧R B τ g {st with h:=st.h.set id .gone} a (w.setRow b cur'):=by
 obtain ⟨f1,f2,f3,f4⟩:=hR.heap.fresh id b hb
 exact write_obj hR hb hcs rfl rfl (setRow_heap w b cur cur' e (0,0) hcur) (below_setRow (Below.refl _ _) f1 _) (fun c hc=>setRow_other w b c cur' hc) (by simp) trivial (fun c e0 fr h0=>by rw [hcur] at h0;cases h0;exact ⟨cur',_,rfl,hss⟩)
theorem setRow_self {w:World} {b:Nat} {cur:Array Value} {e:TypeId} {fr:Nat×Nat} (h:w.heap[b]?=some (.cells cur e fr)):∀ c:Nat,(w.setRow b cur).heap[c]?=w.heap[c]?:=by
 intro c
 by_cases hc:c=b
 ·subst hc;rw [setRow_heap w c cur cur e fr h,h]
 ·exact setRow_other w b c cur hc
theorem gone_R0 (hR:R B τ g st a w) {id b:Nat} {cs:List V} {e:TypeId} (hb:g.loc id=some b) (hcs:st.h[id]?=some (.cells cs e)):R B τ g {st with h:=st.h.set id .gone} a w:=by
 obtain ⟨cur,hcur,_⟩:=hR.heap.blk id b cs e hb hcs
 obtain ⟨_,h2,h3⟩:=write_core (x':=.gone) (o':=.cells cur e (0,0)) (w':=w) hR.heap hR.mem hR.lin hb hcs rfl hcur (fun _ _=>rfl) rfl trivial (fun c e0 fr h0=>by rw [hcur] at h0;cases h0;exact ⟨cur,_,rfl,rfl⟩)
 exact ⟨hR.size,hR.slots,by assumption,h2,h3,hR.base,hR.defers.mono (MemLe.refl _) (fun _ _ h=>h) (fun _ hd=>dfr_set _ hcs rfl hd)⟩
theorem rename_R (hR:R B τ g st a w) {id b:Nat} {x:Blk} {o':Obj} (hb:g.loc id=some b) (hgone:st.h[id]?=some .gone) (hother:∀ (j:Nat) (y:Blk),g.loc j=some b→st.h[j]?=some y→y.live=false) (ho:w.heap[b]?=some o') (hx:BlkOk g st.h.length x o') :
  ∃ g',Later B τ g g' w w∧R B τ g' {st with h:=st.h++[x]} a w∧g'.loc st.h.length=some b∧g'.mem=g.mem:=by
 have hnew:g.loc st.h.length=none:=by
  cases hm:g.loc st.h.length with
  | none=>rfl
  | some b=>have:=hR.heap.bound _ b hm;omega
 have hmono:∀ id b',g.loc id=some b'→(if id=st.h.length then some b else g.loc id)=some b':=by
  intro id b' hb'
  split
  ·rename_i e;subst e;rw [hnew] at hb';cases hb'
  ·exact hb'
 refine ⟨g.newLoc st.h.length b,⟨Below.refl _ _,MemLe.refl _,fun _ _=>rfl,hmono,fun _ _ h _=>h⟩,⟨hR.size,fun i v hi hv=>RepS.mono (g:=g) (g':=g.newLoc st.h.length b) (MemLe.refl _) hmono (fun _ _ _ _ h _=>h) (hR.slots i v hi hv),⟨?_,?_,?_,?_⟩,hR.mem,⟨hR.lin.at_⟩,hR.base,hR.defers.mono (g:=g) (g':=g.newLoc st.h.length b) (MemLe.refl _) hmono (fun _ hd=>dfr_append _ hd)⟩,by simp [Gh.newLoc],rfl⟩
 ·intro i c hc
  simp only [Gh.newLoc] at hc
  split at hc
  ·simp;omega
  ·have:=hR.heap.bound i c hc;simp;omega
 ·intro i j c x1 x2 h1 h2 e1 e2 l1 l2
  simp only [Gh.newLoc] at h1 h2
  split at h1<;>split at h2
  ·omega
  ·cases h1
   have b2:=hR.heap.bound _ _ h2
   rw [List.getElem?_append_left b2] at e2
   rw [hother j x2 h2 e2] at l2;cases l2
  ·cases h2
   have b1:=hR.heap.bound _ _ h1
   rw [List.getElem?_append_left b1] at e1
   rw [hother i x1 h1 e1] at l1;cases l1
  ·have b1:=hR.heap.bound _ _ h1
   have b2:=hR.heap.bound _ _ h2
   rw [List.getElem?_append_left b1] at e1
   rw [List.getElem?_append_left b2] at e2
   exact hR.heap.inj _ _ _ _ _ h1 h2 e1 e2 l1 l2
 ·intro i c hc
  simp only [Gh.newLoc] at hc
  split at hc
  ·cases hc;exact hR.heap.fresh id b hb
  ·exact hR.heap.fresh i c hc
 ·intro i c y hc he
  simp only [Gh.newLoc] at hc he
  split at hc
  ·rename_i e
   cases hc
   subst e
   rw [List.getElem?_append_right (Nat.le_refl _)] at he
   simp at he
   subst he
   exact ⟨o',ho,BlkOk.mono (g:=g) (g':=g.newLoc st.h.length b) (MemLe.refl _) hmono (fun _ _ _ h _=>h) hx⟩
  ·have hlt:=hR.heap.bound i c hc
   rw [List.getElem?_append_left hlt] at he
   obtain ⟨o1,h1,h2⟩:=hR.heap.blkO i c y hc he
   exact ⟨o1,h1,BlkOk.mono (g:=g) (g':=g.newLoc st.h.length b) (MemLe.refl _) hmono (fun _ _ _ h _=>h) h2⟩
theorem own_info {P:Program} {e:TypeId} {sz by_:Nat} {z:V} (hsz:sizeT P e=some sz) (hby:bytesT P e=some by_) (hz:zeroT P e=some z):∃ it zv,P.info? e=some it∧it.zero=some zv∧z=ofVal zv∧it.size=sz∧it.bytes=by_:=by
 obtain ⟨it,zv,hit,hzv,ez⟩:=zeroT_eq hz
 refine ⟨it,zv,hit,hzv,ez,?_,?_⟩
 ·unfold sizeT at hsz;rw [hit] at hsz;simpa using hsz
 ·unfold bytesT at hby;rw [hit] at hby;simpa using hby
theorem op_append_grow {c:Call} {s x:Operand} {t tx e:TypeId} {id off len room sz m:Nat} {cs ys:List V} {e':TypeId} (ho:o.op=.call c) (hb:c.callee=.builtin .append) (ea:c.args=#[s,x]) (et:c.argTypes=#[t,tx]) (ht:C.P.underlying t=some (.slice e)) (hp:st.peek s=.own id off len room)
  (hsz:sizeT C.P e=some sz) (hcs:st.h[id]?=some (.cells cs e')) (hsrc:ownSrc st.h sz (st.peek x)=some (m,ys))
  (h:vgrow C.P t tx e sz id off len room cs e' m ys st k=some out) (hR:R B τ g st a w) (hk:Goes B τ g a w o.dst k out next):o.wpIn (FW ρ) n C.P a w next Q:=by
 unfold vgrow at h
 split at h
 ·rename_i by_ z hby hz
  rcases condB_cases h with ⟨hc,hgo⟩ | ⟨_,h⟩
  rotate_left
  ·cases h
  simp only [Bool.and_eq_true,decide_eq_true_eq] at hc
  obtain ⟨⟨⟨⟨rfl,rfl,rfl,h0,hb0,hzl,hlen,hfit,hm0,h47⟩,hokz⟩,hnl⟩,hnlc⟩:=hc
  obtain ⟨it,zv,hit,hzv,rfl,rfl,rfl⟩:=own_info hsz hby hz
  obtain ⟨c1,_⟩:=ofVal_cells (g:=g) hokz
  have hzsz:zv.cells.size=it.size:=by rw [←c1];exact hzl
  have hmax:len+m≤maxLen∧((len+m:Nat):Int)≤9223372036854775807:=by
   have:len+m≤(len+m)*it.bytes:=Nat.le_mul_of_pos_right _ hb0
   simp only [maxLen]
   omega
  obtain ⟨ds,hs⟩:=peek_rep hR s
  rw [hp] at hs
  obtain ⟨ad,cx,news,hxe,hnl',hcell,hone,hrep⟩:=ownSrc_sound hR hsrc hlen h0 hnl (by omega)
  have fin:∀ (r:Value) (w':World) (g':Gh),(Builtin.append_ #[t,t] o.type #[a.eval s,a.eval x]).run C.P w=.ok r w'→Later B τ g g' w w'→R B τ g' {st with h:=(st.h.set id .gone)++[.cells (cs.take (len*it.size)++ys) e']} a w'→RepS g' τ (o.dst.getD 0) (.own st.h.length 0 (len+m) (len+m)) r→o.wpIn (FW ρ) n C.P a w next Q:=by
   intro r w' g' hrun l3 R3 hr
   refine wp_value (by simp [ho]) (v:=r) (w':=w') ?_ (hk _ _ g' _ w' l3 R3 hr hgo)
   simp [execOp,ho,resolve,hb,ea,et,invoke,builtin,hrun]
  have hnl0:∀ c,c∈cs.take (len*it.size)→isLin1 c=false:=by
   intro c hc
   rw [List.all_eq_true] at hnlc
   have:=hnlc c hc
   simp only [Bool.and_eq_true,Bool.not_eq_true'] at this
   exact this.1
  have hsl:(st.h.set id .gone).length=st.h.length:=by simp
  have hmul:(len+m)*it.size=len*it.size+m*it.size:=Nat.add_mul ..
  have grown:∀ (b0:Option Addr) (cap:Nat) (olds:List Value),a.eval s=.slice b0 len cap→cap<len+m→olds.length=len*it.size→(∀ ad0,b0=some ad0→∀ (j:Nat) (v:Value),olds[j]?=some v→w.cell? (ad0.add j)=some v)→(b0=none→len=0∧cap=0) →
    (∀ (p:Place) (j:Nat) (c:V) (v:Value),(cs.take (len*it.size))[j]?=some c→olds[j]?=some v→RepC g p c v)→((cs.take (len*it.size)).length=olds.length)→(∀ b,g.loc id=some b∨st.h[id]?=some (.cells cs e')→True)→R B τ g {st with h:=st.h.set id .gone} a w→o.wpIn (FW ρ) n C.P a w next Q:=by
   intro b0 cap olds eu hcap hol hcell0 hb00 hrep0 hcl _ RG
   have hge:=grownCap_ge w (len+m) cap e'
   let all:=olds++news
   let cur:=all.toArray++Builtin.zeroCells zv.cells (grownCap w (len+m) cap e'-(len+m))
   have hrun:(Builtin.append_ #[t,t] o.type #[a.eval s,a.eval x]).run C.P w=.ok (.slice (some ⟨w.heap.size,0,none⟩) (len+m) (grownCap w (len+m) cap e')) (w.drew.alloc (.cells cur e')):=by
    rw [eu,hxe]
    cases b0 with
    | none =>
     obtain ⟨rfl,rfl⟩:=hb00 rfl
     have ho0:olds=[]:=by apply List.eq_nil_of_length_eq_zero;rw [hol];simp
     have:=run_append_nil (P:=C.P) w t o.type e' it zv ht hit hzv ad m cx news hnl' hcell hm0 (by have:=hmax.2;omega) (by rw [Nat.zero_add] at h47;omega)
     simp only [cur,all,ho0,List.nil_append,Nat.zero_add]
     exact this
    | some b1 =>
     have:=run_append_grow (P:=C.P) w t o.type e' it zv ht hit hzv b1 len cap olds hol (hcell0 b1 rfl) ad m cx news hnl' hcell hcap hmax.2 (growslice_fits (by omega) (by omega))
     simp only [List.append_toArray] at this
     exact this
   obtain ⟨l1,R1⟩:=drew_R RG
   have hcsz:cur.size=grownCap w (len+m) cap e'*it.size:=by
    simp only [cur,all,Array.size_append,List.size_toArray,List.length_append,size_zeroCells,hzsz,hol,hnl']
    rw [←Nat.add_mul,←Nat.add_mul];congr 1;omega
   obtain ⟨g2,l2,R2,q1,q2,q3,q4,q5⟩:=new_own R1 (cs.take (len*it.size)++ys) cur e' (by
     rw [hcsz,List.length_append,hcl,hol,hlen,←Nat.add_mul];exact Nat.mul_le_mul_right _ hge) (fun j c hj hc=>by
    by_cases hjl:j<olds.length
    ·rw [List.getElem?_append_left (by rw [hcl];exact hjl)] at hc
     have e1:cur[j]=olds[j]:=by
      simp only [cur,all]
      rw [Array.getElem_append_left (by simp;omega)]
      simp [List.getElem_append_left hjl]
     rw [e1]
     exact hrep0 _ j c _ hc (List.getElem?_eq_getElem hjl)
    ·rw [List.getElem?_append_right (by rw [hcl];omega),hcl] at hc
     have hjn:j-olds.length<news.length:=by rw [hnl',←hlen];exact (List.getElem?_eq_some_iff.1 hc).1
     have e1:cur[j]=news[j-olds.length]:=by
      simp only [cur,all]
      rw [Array.getElem_append_left (by simp;omega)]
      simp [List.getElem_append_right (Nat.le_of_not_lt hjl)]
     rw [e1]
     exact hrep _ _ c _ hc (List.getElem?_eq_getElem hjn))
   refine fin _ _ g2 hrun (l1.trans l2) (by exact R2) (.inl ⟨_,_,by rw [←hsl];exact q1,rfl,hge,grownCap_le_maxLen w _ _ _ hmax.1,hge,?_⟩)
   exact q5 _ (fun sz' hsz'=>by
    have:sz'=it.size:=by rw [C.isP,hsz'] at hsz;exact Option.some.inj hsz
    rw [this,hcsz];exact Nat.le_refl _)
  rcases hs with ⟨b,cap,hl,eu,hlc,hcm,hrm,hsh⟩ | ⟨rfl,rfl,ad0,eu⟩
  ·obtain ⟨cur,hcur,hlcur,hrepc⟩:=hR.heap.blk id b cs e' hl hcs
   obtain ⟨nn,e1,hs1,hs2⟩:=hsh
   obtain ⟨cur2,fr2,hc2,hc3⟩:=hR.mem.shape b nn e1 hs1
   rw [hcur] at hc2
   cases hc2
   have hcapsz:cap*it.size≤cur.size:=by
    have:=hs2 it.size (by rw [←C.isP];exact hsz)
    omega
   by_cases hroom:len+m≤cap
   ·-- in place
    have hfits:0+len*it.size+news.length≤cur.size:=by
     have:=Nat.mul_le_mul_right it.size hroom
     rw [hnl'];omega
    have hrun:=run_append_at (P:=C.P) w t o.type e' it ht hit b 0 len cap cur e' hcur ad m cx news hnl' hcell hone hroom hfits
    rw [Nat.zero_add] at hrun hfits
    generalize hcur':(cur.toList.take (len*it.size)++news++cur.toList.drop (len*it.size+news.length)).toArray=cur' at hrun
    have hsz':cur'.size=cur.size:=by
     rw [←hcur'];simp only [List.size_toArray,List.length_append,List.length_take,List.length_drop,Array.length_toList];omega
    obtain ⟨l1,R1⟩:=gone_R hR hl hcs hcur hsz'
    have hget:∀ j (hj:j<cur'.size),some cur'[j]=if len*it.size≤j∧j<len*it.size+news.length then news[j-len*it.size]? else cur.toList[j]?:=by
     intro j hj
     rw [←Array.getElem?_eq_getElem hj,←hcur']
     simpa using splice_get cur.toList news (len*it.size) j (by rw [Array.length_toList];exact hfits)
    have hblk:BlkOk g st.h.length (.cells (cs.take (len*it.size)++ys) e') (.cells cur' e' (0,0)):=by
     refine ⟨cur',rfl,?_,fun j c hj hc=>?_⟩
     ·rw [List.length_append,List.length_take,hlen,←hnl',hsz'];omega
     ·have hg:=hget j hj
      have htl:(cs.take (len*it.size)).length=len*it.size:=by rw [List.length_take];omega
      by_cases h1:j<len*it.size
      ·rw [List.getElem?_append_left (by rw [htl];exact h1)] at hc
       rw [if_neg (by omega),Array.getElem?_toList,Array.getElem?_eq_getElem (by omega)] at hg
       rw [Option.some.inj hg]
       have hnlc':=hnl0 c (List.mem_of_getElem? hc)
       rw [List.getElem?_take,if_pos h1] at hc
       exact (hrepc j c (by omega) hc).any hnlc'
      ·rw [List.getElem?_append_right (by rw [htl];omega),htl] at hc
       have hjy:=(List.getElem?_eq_some_iff.1 hc).1
       rw [if_pos ⟨by omega,by rw [hnl',←hlen];omega⟩] at hg
       exact hrep _ _ c _ hc hg.symm
    obtain ⟨g2,l2,R2,q1,q2⟩:=rename_R R1 hl (by
      have:=hR.heap.bound id b hl
      show (st.h.set id .gone)[id]?=_
      rw [List.getElem?_set_self this]) (fun j y hj hy=>by
      by_cases e:id=j
      ·subst e
       have hlt:=hR.heap.bound id b hl
       have hy:(st.h.set id .gone)[id]?=some y:=hy
       rw [List.getElem?_set_self hlt] at hy
       cases hy;rfl
      ·have hy:(st.h.set id .gone)[j]?=some y:=hy
       rw [List.getElem?_set_ne e] at hy
       cases hlv:y.live with
       | false=>rfl
       | true=>exact absurd (hR.heap.inj id j b _ _ hl hj hcs hy rfl hlv) e) (setRow_heap w b cur cur' e' (0,0) hcur) (by rw [show ({st with h:=st.h.set id Blk.gone}:St).h.length=st.h.length from by simp];exact hblk)
    have hlen':({st with h:=st.h.set id Blk.gone}:St).h.length=st.h.length:=by simp
    refine fin _ _ g2 (by rw [eu,hxe];exact hrun) (l1.trans l2) R2 (.inl ⟨b,cap,by rw [←hlen'];exact q1,rfl,hroom,hcm,hroom,?_⟩)
    exact Shp.mono (m:=g.mem) (by rw [q2];exact MemLe.refl _) ⟨_,_,hs1,hs2⟩
   ·refine grown (some ⟨b,0,none⟩) cap (cur.toList.take (len*it.size)) eu (by omega) (by rw [List.length_take,Array.length_toList];omega) (fun ad0 h j v hj=>?_) (fun h=>by cases h) (fun p j c v hc hv=>?_) (by rw [List.length_take_of_le hfit,List.length_take_of_le (show len*it.size≤cur.toList.length from by rw [show cur.toList.length=cur.size from Array.length_toList];exact Nat.le_trans hfit hlcur)]) (fun _ _=>trivial) (gone_R0 hR hl hcs)
    ·cases h
     rw [List.getElem?_take] at hj
     split at hj
     ·rw [addr_add,cell_of_heap hcur,Nat.zero_add,←Array.getElem?_toList];exact hj
     ·cases hj
    ·have hnlc':=hnl0 c (List.mem_of_getElem? hc)
     rw [List.getElem?_take] at hc hv
     split at hc
     ·rename_i hlt
      rw [if_pos hlt,Array.getElem?_toList] at hv
      obtain ⟨hj,rfl⟩:=Array.getElem?_eq_some_iff.1 hv
      exact (hrepc j c hj hc).any hnlc'
     ·cases hc
  ·-- nothing was there
   have hR0:R B τ g {st with h:=st.h.set id .gone} a w:=by
    refine ⟨hR.size,hR.slots,⟨fun i b hb=>by have:=hR.heap.bound i b hb;simpa using this,hR.heap.inj.set hcs rfl _,hR.heap.fresh,fun i b y hb hy=>?_⟩,hR.mem,hR.lin,hR.base,hR.defers.mono (MemLe.refl _) (fun _ _ h=>h) (fun _ hd=>dfr_set _ hcs rfl hd)⟩
    by_cases e:id=i
    ·subst e
     have hlt:=hR.heap.bound id b hb
     have hy:(st.h.set id .gone)[id]?=some y:=hy
     rw [List.getElem?_set_self hlt] at hy
     cases hy
     have h2:=(hR.heap.fresh id b hb).2.1
     exact ⟨w.heap[b],Array.getElem?_eq_getElem h2,trivial⟩
    ·have hy:(st.h.set id .gone)[i]?=some y:=hy
     rw [List.getElem?_set_ne e] at hy
     exact hR.heap.blkO i b y hb hy
   exact grown ad0 0 [] eu (by omega) (by simp) (fun _ _ j v hj=>by simp at hj) (fun _=>⟨rfl,rfl⟩) (fun p j c v hc=>by simp at hc) (by simp) (fun _ _=>trivial) hR0
 ·cases h
theorem op_append_new {c:Call} {s x:Operand} {t tx e:TypeId} (ho:o.op=.call c) (hb:c.callee=.builtin .append) (ea:c.args=#[s,x]) (et:c.argTypes=#[t,tx]) (ht:C.P.underlying t=some (.slice e))
  (h:vnew C.P t tx e st (st.peek s) (st.peek x) k=some out) (hR:R B τ g st a w) (hk:Goes B τ g a w o.dst k out next):o.wpIn (FW ρ) n C.P a w next Q:=by
 unfold vnew at h
 split at h
 ·rename_i by_ sz z hby hsz hz
  split at h
  ·rename_i xs m ys hxs hsrc
   obtain ⟨ds,hs⟩:=peek_rep hR s
   obtain ⟨it,zv,hit,hzv,rfl,rfl,rfl⟩:=own_info hsz hby hz
   have base:(xs=[]∧∃ ad0,a.eval s=.slice ad0 0 0)∨(xs≠[]∧∃ ad c olds,a.eval s=.slice (some ad) xs.length xs.length∧olds.length=xs.length*it.size∧(∀ (j:Nat) (v:Value),olds[j]?=some v→w.cell? (ad.add j)=some v)∧Elems g.mem it.size xs olds∧c=0):=by
    split at hxs
    ·rename_i hps
     cases hxs
     rw [hps] at hs
     have hs:RepI g.mem .nils (a.eval s):=hs
     generalize a.eval s=u at hs ⊢
     cases hs
     exact .inl ⟨rfl,none,rfl⟩
    ·rename_i q ws hps
     split at hxs
     ·rename_i hq
      subst hq
      cases hxs
      rw [hps] at hs
      have hs:RepI g.mem (.imm true it.size xs) (a.eval s):=hs
      by_cases hx0:xs=[]
      ·subst hx0
       left
       refine ⟨rfl,?_⟩
       generalize a.eval s=u at hs ⊢
       cases hs with
       | none0=>exact ⟨_,rfl⟩
       | imm _ _ b off cap esz val q1 q2=>have:=q2 rfl;simp at this;subst this;exact ⟨_,rfl⟩
      ·right
       obtain ⟨ad',cp',ol,hse,hol,hcell',_,helm'⟩:=imm_news hs hR.mem hx0
       have hcp:cp'=xs.length:=by
        rw [hse] at hs
        cases hs with
        | imm _ _ b off cap esz val q1 q2 q3 q4 q5 q6 q7=>exact q2 rfl
       subst hcp
       exact ⟨hx0,ad',0,ol,hse,hol,hcell',helm',rfl⟩
     ·cases hxs
    ·cases hxs
   rcases condB_cases h with ⟨hc,hgo⟩ | ⟨_,h⟩
   ·simp only [Bool.and_eq_true,decide_eq_true_eq] at hc
    obtain ⟨⟨⟨rfl,h0,hb0,hzl,hlen,hm0,h47⟩,hokz⟩,hnl⟩:=hc
    obtain ⟨c1,_⟩:=ofVal_cells (g:=g) hokz
    have hzsz:zv.cells.size=it.size:=by rw [←c1];exact hzl
    have hmax:xs.length+m≤maxLen∧((xs.length+m:Nat):Int)≤9223372036854775807:=by
     have:xs.length+m≤(xs.length+m)*it.bytes:=Nat.le_mul_of_pos_right _ hb0
     simp only [maxLen]
     omega
    obtain ⟨ad,cx,news,hxe,hnl',hcell,hone,hrep⟩:=ownSrc_sound hR hsrc hlen h0 hnl (by omega)
    have fin:∀ (cap:Nat) (olds:List Value),olds.length=xs.length*it.size→xs.length+m≤cap→cap≤maxLen→(∀ (j:Nat) (c:V) (v:Value),(xs.flatMap V.cells)[j]?=some c→olds[j]?=some v→∀ p,RepC g p c v)→(xs.flatMap V.cells).length=olds.length →
      (Builtin.append_ #[t,t] o.type #[a.eval s,a.eval x]).run C.P w=.ok (.slice (some ⟨w.heap.size,0,none⟩) (xs.length+m) cap) (w.drew.alloc (.cells ((olds++news).toArray++Builtin.zeroCells zv.cells (cap-(xs.length+m))) e))→o.wpIn (FW ρ) n C.P a w next Q:=by
     intro cap olds hol hge hcm hrep0 hcl hrun
     obtain ⟨l1,R1⟩:=drew_R hR
     generalize hcur:(olds++news).toArray++Builtin.zeroCells zv.cells (cap-(xs.length+m))=cur at hrun
     have hcsz:cur.size=cap*it.size:=by
      rw [←hcur]
      simp only [Array.size_append,List.size_toArray,List.length_append,size_zeroCells,hzsz,hol,hnl']
      rw [←Nat.add_mul,←Nat.add_mul];congr 1;omega
     obtain ⟨g2,l2,R2,q1,q2,q3,q4,q5⟩:=new_own R1 (xs.flatMap V.cells++ys) cur e (by
       rw [hcsz,List.length_append,hcl,hol,hlen,←Nat.add_mul];exact Nat.mul_le_mul_right _ hge) (fun j c hj hc=>by
      by_cases hjl:j<olds.length
      ·rw [List.getElem?_append_left (by rw [hcl];exact hjl)] at hc
       have e1:cur[j]=olds[j]:=by
        subst hcur
        rw [Array.getElem_append_left (by simp;omega)]
        simp [List.getElem_append_left hjl]
       rw [e1]
       exact hrep0 j c _ hc (List.getElem?_eq_getElem hjl) _
      ·rw [List.getElem?_append_right (by rw [hcl];omega),hcl] at hc
       have hjn:j-olds.length<news.length:=by rw [hnl',←hlen];exact (List.getElem?_eq_some_iff.1 hc).1
       have e1:cur[j]=news[j-olds.length]:=by
        subst hcur
        rw [Array.getElem_append_left (by simp;omega)]
        simp [List.getElem_append_right (Nat.le_of_not_lt hjl)]
       rw [e1]
       exact hrep _ _ c _ hc (List.getElem?_eq_getElem hjn))
     refine wp_value (by simp [ho]) (v:=.slice (some ⟨w.heap.size,0,none⟩) (xs.length+m) cap) (w':=w.drew.alloc (.cells cur e)) ?_ (hk (.own st.h.length 0 (xs.length+m) (xs.length+m)) _ g2 _ _ (l1.trans l2) R2 (.inl ⟨_,cap,q1,rfl,hge,hcm,hge,?_⟩) hgo)
     ·simp [execOp,ho,resolve,hb,ea,et,invoke,builtin,hrun]
     ·exact q5 _ (fun sz' hsz'=>by
       have:sz'=it.size:=by rw [C.isP,hsz'] at hsz;exact Option.some.inj hsz
       rw [this,hcsz];exact Nat.le_refl _)
    rcases base with ⟨rfl,ad0,hs'⟩ | ⟨hx0,ad',_,olds,hs',hol,hcell',helm,_⟩
    ·simp only [List.length_nil,Nat.zero_add] at h47 hmax fin
     refine fin (grownCap w m 0 e) [] (by simp) (grownCap_ge w m 0 e) (grownCap_le_maxLen w _ _ e hmax.1) (fun j c v hc=>by simp at hc) (by simp) ?_
     rw [hs',hxe,List.nil_append]
     cases ad0 with
     | none=>exact run_append_nil (P:=C.P) w t o.type e it zv ht hit hzv ad m cx news hnl' hcell hm0 hmax.2 (by omega)
     | some b0 =>
      have:=run_append_grow (P:=C.P) w t o.type e it zv ht hit hzv b0 0 0 [] (by simp) (fun j v h=>by simp at h) ad m cx news hnl' hcell (by omega) (by have:=hmax.2;omega) (growslice_fits (by omega) (by rw [Nat.zero_add];omega))
      simpa using this
    ·refine fin (grownCap w (xs.length+m) xs.length e) olds hol (grownCap_ge w _ _ e) (grownCap_le_maxLen w _ _ e hmax.1) (fun j c v hc hv p=>?_) (by rw [flatMap_len helm.2.2.1,hol]) ?_
     ·obtain ⟨y,h1,h2⟩:=flatMap_at helm.2.2.1 h0 hc
      obtain ⟨q1,v',q2,q3⟩:=helm.2.2.2 _ y _ c h1 h2
      have hjj:j / it.size*it.size+j % it.size=j:=by rw [Nat.mul_comm];exact Nat.div_add_mod _ _
      rw [hjj,hv] at q2
      cases q2
      exact cell_flat q1 q3
     ·have:=run_append_grow (P:=C.P) w t o.type e it zv ht hit hzv ad' xs.length xs.length olds hol hcell' ad m cx news hnl' hcell (by omega) hmax.2 (growslice_fits (by omega) (by omega))
      simp only [List.append_toArray] at this
      rw [hs',hxe]
      exact this
   ·-- nothing is appended
    rcases condB_cases h with ⟨hc,hgo⟩ | ⟨_,h⟩
    ·simp only [decide_eq_true_eq] at hc
     obtain ⟨rfl,h0,rfl⟩:=hc
     have hx0:∃ c' k,a.eval x=.slice c' 0 k:=by
      obtain ⟨dx,hx⟩:=peek_rep hR x
      unfold ownSrc at hsrc
      split at hsrc
      ·rename_i id2 off2 len2 room2 hpx
       split at hsrc
       ·injection hsrc with hsrc
        injection hsrc with h1 h2
        subst h1
        rw [hpx] at hx
        rcases hx with ⟨b,cap,_,eu,_⟩ | ⟨_,_,ad,eu⟩
        ·exact ⟨_,_,eu⟩
        ·exact ⟨_,_,eu⟩
       ·cases hsrc
      ·rename_i fl q ws hpx
       split at hsrc
       ·injection hsrc with hsrc
        injection hsrc with h1 h2
        have:ws=[]:=List.eq_nil_of_length_eq_zero h1
        subst this
        rw [hpx] at hx
        have hx:RepI g.mem (.imm fl q []) (a.eval x):=hx
        generalize a.eval x=u at hx ⊢
        cases hx<;>exact ⟨_,_,rfl⟩
       ·cases hsrc
      ·cases hsrc
     obtain ⟨c',k',hx0⟩:=hx0
     have hnl3:isLin3 (st.peek s)=false:=by
      split at hxs
      ·rename_i hps;rw [hps];rfl
      ·rename_i q ws hps;rw [hps];rfl
      ·cases hxs
     have hs2:RepS g τ (o.dst.getD 0) (st.peek s) (a.eval s):=hs.any hnl3
     have go:∀ (ad0:Option Addr) (l:Nat),a.eval s=.slice ad0 l l→(ad0=none→l=0)→o.wpIn (FW ρ) n C.P a w next Q:=by
      intro ad0 l eu hz0
      refine wp_value (by simp [ho]) (v:=a.eval s) (w':=w) ?_ (hk _ _ g _ w (Later.refl ..) hR hs2 hgo)
      have hrun:=run_append_zero (P:=C.P) w t o.type e it ht hit ad0 c' l l k' (Nat.le_refl _) (fun h=>⟨hz0 h,hz0 h⟩)
      rw [←eu,←hx0] at hrun
      simp [execOp,ho,resolve,hb,ea,et,invoke,builtin,hrun]
     rcases base with ⟨rfl,ad0,hs'⟩ | ⟨hx0,ad',_,olds,hs',_⟩
     ·exact go ad0 0 hs' (fun _=>rfl)
     ·exact go _ _ hs' (fun h=>by cases h)
    ·cases h
  ·cases h
 ·cases h
theorem op_append_own {c:Call} {s x:Operand} {t tx e:TypeId} {id off len room:Nat} (ho:o.op=.call c) (hb:c.callee=.builtin .append) (ea:c.args=#[s,x]) (et:c.argTypes=#[t,tx]) (ht:C.P.underlying t=some (.slice e)) (hp:st.peek s=.own id off len room)
  (h:(match sizeT C.P e,st.h[id]? with
   | some sz,some (.cells cs e')=>match ownSrc st.h sz (st.peek x) with
    | some (m,ys)=>condB (decide (t=tx∧0<sz∧ys.length=m*sz∧len+m≤room∧off+(len+m)*sz≤cs.length)&&ys.all fun c=>!isLin1 c&&okV c)
      (k (.own id off (len+m) room) {st with h:=st.h.set id (.cells (setAt cs (off+len*sz) ys) e')}) (vgrow C.P t tx e sz id off len room cs e' m ys st k)
    | none=>none
   | _,_=>none)=some out) (hR:R B τ g st a w) (hk:Goes B τ g a w o.dst k out next):o.wpIn (FW ρ) n C.P a w next Q:=by
 split at h
 ·rename_i sz cs e' hsz hcs
  split at h
  ·rename_i m ys hsrc
   rcases condB_cases h with ⟨hc,hgo⟩ | ⟨_,h⟩
   ·simp only [Bool.and_eq_true,decide_eq_true_eq] at hc
    obtain ⟨⟨rfl,h0,hlen,hroom,hfit⟩,hnl⟩:=hc
    obtain ⟨it,hit,hits⟩:∃ it,C.P.info? e=some it∧it.size=sz:=by
     unfold sizeT at hsz
     cases hi:C.P.info? e with
     | none=>rw [hi] at hsz;cases hsz
     | some it=>rw [hi] at hsz;exact ⟨it,rfl,by simpa using hsz⟩
    subst hits
    obtain ⟨ds,hs⟩:=peek_rep hR s
    rw [hp] at hs
    have fin:∀ (r:Value) (w':World),(Builtin.append_ #[t,t] o.type #[a.eval s,a.eval x]).run C.P w=.ok r w'→Later B τ g g w w'→R B τ g {st with h:=st.h.set id (.cells (setAt cs (off+len*it.size) ys) e')} a w'→RepS g τ (o.dst.getD 0) (.own id off (len+m) room) r→o.wpIn (FW ρ) n C.P a w next Q:=by
     intro r w' hrun l3 R3 hr
     refine wp_value (by simp [ho]) (v:=r) (w':=w') ?_ (hk _ _ g _ w' l3 R3 hr hgo)
     simp [execOp,ho,resolve,hb,ea,et,invoke,builtin,hrun]
    by_cases hm:m=0
    ·subst hm
     have hys:ys=[]:=by apply List.eq_nil_of_length_eq_zero;rw [hlen];simp
     subst hys
     have hset:st.h.set id (.cells (setAt cs (off+len*it.size) []) e')=st.h:=by
      obtain ⟨hlt,hg⟩:=List.getElem?_eq_some_iff.1 hcs
      show st.h.set id (.cells cs e')=st.h
      rw [←hg];exact List.set_getElem_self hlt
     have hx0:∃ c' k,a.eval x=.slice c' 0 k:=by
      obtain ⟨dx,hx⟩:=peek_rep hR x
      unfold ownSrc at hsrc
      split at hsrc
      ·rename_i id2 off2 len2 room2 hpx
       split at hsrc
       ·injection hsrc with hsrc
        injection hsrc with h1 h2
        subst h1
        rw [hpx] at hx
        rcases hx with ⟨b,cap,_,eu,_⟩ | ⟨_,_,ad,eu⟩
        ·exact ⟨_,_,eu⟩
        ·exact ⟨_,_,eu⟩
       ·cases hsrc
      ·rename_i fl q xs hpx
       split at hsrc
       ·injection hsrc with hsrc
        injection hsrc with h1 h2
        have:xs=[]:=List.eq_nil_of_length_eq_zero h1
        subst this
        rw [hpx] at hx
        have hx:RepI g.mem (.imm fl q []) (a.eval x):=hx
        generalize a.eval x=u at hx ⊢
        cases hx<;>exact ⟨_,_,rfl⟩
       ·cases hsrc
      ·cases hsrc
     obtain ⟨c',k',hx0⟩:=hx0
     rcases hs with ⟨b,cap,hl,eu,hlc,hcm,hrm,hsh⟩ | ⟨rfl,rfl,ad,eu⟩
     ·refine fin (a.eval s) w ?_ (Later.refl ..) (by rw [hset];exact hR) (by rw [eu];exact .inl ⟨b,cap,hl,rfl,hlc,hcm,hrm,hsh⟩)
      rw [eu,hx0]
      exact run_append_zero w t _ e it ht hit _ c' len cap k' hlc (fun h=>by cases h)
     ·refine fin (a.eval s) w ?_ (Later.refl ..) (by rw [hset];exact hR) (by rw [eu];exact .inr ⟨rfl,rfl,ad,rfl⟩)
      rw [eu,hx0]
      exact run_append_zero w t _ e it ht hit ad c' 0 0 k' (Nat.le_refl _) (fun _=>⟨rfl,rfl⟩)
    ·rcases hs with ⟨b,cap,hl,eu,hlc,hcm,hrm,hsh⟩ | ⟨rfl,rfl,ad,eu⟩
     ·obtain ⟨ad,cx,news,hxe,hnl',hcell,hone,hrep⟩:=ownSrc_sound hR hsrc hlen h0 hnl hm
      obtain ⟨cur,hcur,hlcur,_⟩:=hR.heap.blk id b cs e' hl hcs
      have hadd:(len+m)*it.size=len*it.size+m*it.size:=Nat.add_mul ..
      obtain ⟨l3,R3⟩:=splice_sound hR (o:=off+len*it.size) (ys:=ys) (news:=news) hl hcs hcur (by rw [hlen,hnl']) (by rw [hlen];omega) (fun j c v hc hv=>hrep _ j c v hc hv)
      refine fin _ _ ?_ l3 R3 (.inl ⟨b,cap,hl,rfl,by omega,hcm,hrm,hsh⟩)
      rw [eu,hxe]
      exact run_append_at (P:=C.P) w t o.type e it ht hit b off len cap cur e' hcur ad m cx news hnl' hcell hone (by omega) (by rw [hnl'];omega)
     ·omega
   ·exact op_append_grow ho hb ea et ht hp hsz hcs hsrc h hR hk
  ·cases h
 ·cases h
end
end Go.Fw
namespace Go.Fw
open Go.RowKit
section
variable {C:Cx} {vb:FuncId→List V→List Blk→Option FOut} {f:FuncId} {ρ:Option Nat} {n:Nat} {o:Oper} {st:St} {α:Type} {k kp:V→St→Option α} {out:α}
 {B τ:Nat} {g:Gh} {a:Act} {w:World} {next:Act→World→Prop} {Q:Exit→Act→World→Prop}
theorem grow_new (p:Bool) (h:R B τ g st a w) {d:Nat} {e:TypeId} {sz cap:Nat} {zs:List V} {all:List Value} (rest:Array Value) (hel:Elems g.mem sz zs all) (hc:zs.length≤cap) (hm:cap≤maxLen)
  (hr:all.length+rest.size=cap*sz) (hfree:∀ v,st.fr[d]?=some v→isLin3 v=false) :
  ∃ g',Later B τ g g' w (w.drew.alloc (.cells (all.toArray++rest) e))∧R B τ g' st a (w.drew.alloc (.cells (all.toArray++rest) e)) ∧
   RepS g' τ d (.lin p e sz zs) (.slice (some ⟨w.heap.size,0,none⟩) zs.length cap):=by
 have hfm:=free_mem h
 have hfl:=free_lin h
 let i:LinI:=⟨.slot τ d 0 0,p,all,e,sz,cap⟩
 have hle:all.length≤cap*sz:=by rw [hel.1];exact Nat.mul_le_mul_right _ hc
 obtain ⟨l1,r1⟩:=grow_sound (b:=w.heap.size) (d:=d) (i:=i) (row:=none) (w':=w.drew.alloc (.cells (all.toArray++rest) e)) h
  ⟨rfl,rfl,rfl,by simp,fun k hk _=>Go.heap_alloc_old w.drew _ k hk⟩ (fun k hk=>by cases hk) h.base rfl (.inr ⟨hfl,hfm,Nat.le_refl _⟩)
  ⟨_,heap_alloc_new w.drew _,by simp [i],by simp [i,hr]⟩ hle hm hel.2.1 hfree (fun n e hs=>by
   obtain ⟨cur,fr,h1,_⟩:=h.mem.shape _ n e hs
   have:=(Array.getElem?_eq_some_iff.1 h1).1;omega)
 refine ⟨_,l1,r1,?_⟩
 exact .inl ⟨w.heap.size,i,by simp [Gh.grown],rfl,rfl,⟨rfl,rfl⟩,rfl,hel.mono l1.mem⟩
theorem grow_room (h:R B τ g st a w) {d b:Nat} {e:TypeId} {sz:Nat} {zs:List V} {news:List Value} {p:Bool} {i:LinI} {cur:Array Value} (hb:g.lin b=some i) (hp:i.place=.slot τ d 0 0) (hpr:i.priv=p) (he:i.ety=e) (hz:i.esz=sz)
  (hcur:w.heap[b]?=some (.cells cur e (0,0))) (hel:Elems g.mem sz zs (i.cs++news)) (hroom:zs.length≤i.cap) (hfree:∀ v,st.fr[d]?=some v→isLin3 v=false) :
  ∃ g',Later B τ g g' w (w.setRow b (cur.toList.take i.cs.length++news++cur.toList.drop (i.cs.length+news.length)).toArray) ∧
   R B τ g' st a (w.setRow b (cur.toList.take i.cs.length++news++cur.toList.drop (i.cs.length+news.length)).toArray) ∧
   RepS g' τ d (.lin p e sz zs) (.slice (some ⟨b,0,none⟩) zs.length i.cap):=by
 subst hpr;subst he;subst hz
 obtain ⟨k1,⟨cur',k2,k3,k4⟩,k5,k6,k7,_,_⟩:=h.lin.at_ b i hb
 rw [hcur] at k2
 cases k2
 have hcs:=isPre_take k3
 have hle:(i.cs++news).length≤i.cap*i.esz:=by rw [hel.1];exact Nat.mul_le_mul_right _ hroom
 have hlen:i.cs.length+news.length≤cur.size:=by rw [k4];simpa using hle
 rw [hcs]
 let i':LinI:={i with cs:=i.cs++news}
 obtain ⟨l1,r1⟩:=grow_sound (b:=b) (d:=d) (i:=i') (row:=some b) (w':=w.setRow b (i.cs++news++cur.toList.drop (i.cs.length+news.length)).toArray) h
  ⟨rfl,rfl,rfl,by simp,fun k _ hk=>setRow_other w b k _ (fun e=>hk (by simp [e]))⟩ (fun k hk=>by cases hk;exact ⟨rfl,k1⟩) k1 hp (.inl ⟨i,hb,hp,rfl,List.prefix_append _ _⟩)
  ⟨_,setRow_heap w b cur _ _ _ hcur,by simp [i'],by
   simp only [List.size_toArray,List.length_append,List.length_drop,Array.length_toList,i'];omega⟩ hle k6 k7 hfree (fun n e hs=>by
   obtain ⟨cur0,fr,h1,h2⟩:=h.mem.shape b n e hs
   rw [hcur] at h1
   cases h1
   refine ⟨_,(0,0),setRow_heap w b cur _ _ _ hcur,?_⟩
   simp only [List.size_toArray,List.length_append,List.length_drop,Array.length_toList];omega)
 exact ⟨_,l1,r1,.inl ⟨b,i',by simp [Gh.grown],hp,rfl,⟨rfl,rfl⟩,rfl,hel.mono l1.mem⟩⟩
theorem mem_of_prefix {α:Type} {l:List α} {c:Array α} {j:Nat} {u:α} (h:l <+: c.toList) (hj:l[j]?=some u):c[j]?=some u:=by
 obtain ⟨t,ht⟩:=h
 rw [←Array.getElem?_toList,←ht,List.getElem?_append_left (List.getElem?_eq_some_iff.1 hj).1]
 exact hj
theorem op_append {c:Call} (ho:o.op=.call c) (hb:c.callee=.builtin .append) (h:vop C vb f o st k kp=some out) (hR:R B τ g st a w) (hk:Goes B τ g a w o.dst k out next):o.wpIn (FW ρ) n C.P a w next Q:=by
 unfold vop at h
 rw [ho] at h
 dsimp only at h
 rw [hb] at h
 dsimp only at h
 split at h
 ·rename_i s x t tx hsx htt
  have ea:c.args=#[s,x]:=by rw [←Array.toList_inj];exact hsx
  have et:c.argTypes=#[t,tx]:=by rw [←Array.toList_inj];exact htt
  split at h
  ·rename_i e e2 he he2
   have ht:=sliceT he
   split at h
   ·rename_i id off len room hps
    exact op_append_own ho hb ea et ht hps h hR hk
   rename_i hnown
   rcases condB_cases h with ⟨_,h⟩ | ⟨_,h⟩
   ·exact op_append_new ho hb ea et ht h hR hk
   split at h
   ·rename_i by_ sz z m ys hby hsz hz hel
    split at h
    ·rename_i hcond
     obtain ⟨rfl,hsame,h0,hb0,hokz,hzl⟩:=hcond
     obtain ⟨it,zv,hit,hzv,ez⟩:=zeroT_eq hz
     subst ez
     obtain ⟨c1,_⟩:=ofVal_cells (g:=g) hokz
     have hszi:it.size=sz:=by unfold sizeT at hsz;rw [hit] at hsz;simpa using hsz
     have hbyi:it.bytes=by_:=by unfold bytesT at hby;rw [hit] at hby;simpa using hby
     have hzsz:zv.cells.size=sz:=by rw [←c1];exact hzl
     subst hszi;subst hbyi
     split at h
     ·rename_i nn v hva
      rcases condB_cases h with ⟨hc2,h⟩ | ⟨_,h⟩
      ·simp only [Bool.and_eq_true,decide_eq_true_eq,Bool.not_eq_true'] at hc2
       obtain ⟨hbytes,hdst⟩:=hc2
       obtain ⟨g1,l1,R1,hx1⟩:=use_sound hR x
       obtain ⟨g2,l2,R2,hs2⟩:=take_sound R1 s (o.dst.getD 0)
       have hfree:∀ v,((st.useS x).takeS s).fr[o.dst.getD 0]?=some v→isLin3 v=false:=fun v hv=>by rw [getS_eq hv] at hdst;exact hdst
       have hx2:(ys=[]∧a.eval x=.slice none 0 0)∨∃ fl,RepI g2.mem (.imm fl it.size ys) (a.eval x):=by
        have hx:=hx1 τ 0
        unfold St.useV at hx
        unfold elems at hel
        split at hel
        ·rename_i hp;cases hel
         rw [hp] at hx
         refine .inl ⟨rfl,?_⟩
         simp only [map3,map2,demote1,RepS,RepA,RepC] at hx
         generalize a.eval x=u at hx ⊢;cases hx;rfl
        ·rename_i hp;cases hel
         rw [hp] at hx
         refine .inr ⟨false,?_⟩
         simp only [map3,map2,demote1,RepS,RepA,RepC] at hx
         generalize a.eval x=u at hx ⊢
         cases hx with
         | nne ad cap q3 hsp=>exact .imm false [] ad.block ad.off cap it.size (fun _ _=>default) (Nat.zero_le _) (fun h=>by cases h) q3 h0 (fun i x h=>by simp at h) (fun i x j c h=>by simp at h) (fun i x j c h=>by simp at h) ad.spot hsp
        ·rename_i fl q ws hp;cases hel
         rw [hp] at hx
         simp only [map3,map2,demote1,RepS,RepA,RepC] at hx
         have hx:=hx.mono l2.mem
         rcases hsame with hsame | hsame
         ·have hys:ys=[]:=by simpa using hsame
          subst hys
          generalize a.eval x=u at hx ⊢
          cases hx with
          | none0=>exact .inr ⟨fl,.none0 fl it.size h0⟩
          | imm _ _ b off cap esz val q1 q2 q3 q4 q5 q6 q7 sp hsp=>exact .inr ⟨fl,.imm fl [] b off cap it.size (fun _ _=>default) q1 q2 q3 h0 (fun i x h=>by simp at h) (fun i x j c h=>by simp at h) (fun i x j c h=>by simp at h) sp hsp⟩
         ·exact .inr ⟨fl,hsame ▸ hx⟩
        ·rename_i q1 q2 q ws hp;cases hel
         rw [hp] at hx
         simp only [map3,map2,demote1,RepS,RepA,RepC] at hx
         have hx:=hx.mono l2.mem
         rcases hsame with hsame | hsame
         ·have hys:ys=[]:=by simpa using hsame
          subst hys
          generalize a.eval x=u at hx ⊢
          cases hx with
          | none0=>exact .inr ⟨false,.none0 false it.size h0⟩
          | imm _ _ b off cap esz val q1 q2 q3 q4 q5 q6 q7 sp hsp=>exact .inr ⟨false,.imm false [] b off cap it.size (fun _ _=>default) q1 q2 q3 h0 (fun i x h=>by simp at h) (fun i x j c h=>by simp at h) (fun i x j c h=>by simp at h) sp hsp⟩
         ·exact .inr ⟨false,hsame ▸ hx⟩
        ·cases hel
       have fin:∀ (r:Value) (w':World) (g3:Gh),(Builtin.append_ #[t,t] o.type #[a.eval s,a.eval x]).run C.P w=.ok r w'→Later B τ g2 g3 w w'→R B τ g3 ((st.useS x).takeS s) a w'→RepS g3 τ (o.dst.getD 0) v r→o.wpIn (FW ρ) n C.P a w next Q:=by
        intro r w' g3 hrun l3 R3 hr
        refine wp_value (by simp [ho]) (v:=r) (w':=w') ?_ (hk v _ g3 _ w' ((l1.trans l2).trans l3) R3 hr h)
        simp [execOp,ho,resolve,hb,ea,et,invoke,builtin,hrun]
       have fin0:∀ (b:Option Addr) (l m:Nat),ys=[]→a.eval s=.slice b l m→l≤m→(b=none→l=0∧m=0)→RepS g2 τ (o.dst.getD 0) v (a.eval s)→o.wpIn (FW ρ) n C.P a w next Q:=by
        intro b l m hys hs hlm hbz hr
        have hx0:∃ c' k,a.eval x=.slice c' 0 k:=by
         rcases hx2 with ⟨_,e⟩ | ⟨fl,e⟩
         ·exact ⟨none,0,e⟩
         ·rw [hys] at e
          generalize a.eval x=u at e ⊢
          cases e<;>exact ⟨_,_,rfl⟩
        obtain ⟨c',k',hx0⟩:=hx0
        refine fin (a.eval s) w g2 ?_ (Later.refl ..) R2 hr
        rw [hs,hx0]
        exact run_append_zero w t _ e it ht hit b c' l m k' hlm hbz
       have news:ys≠[]→∃ ad c news,a.eval x=.slice (some ad) ys.length c∧news.length=ys.length*it.size∧(∀ (j:Nat) (v:Value),news[j]?=some v→w.cell? (ad.add j)=some v)∧(∀ v∈news,v.oneCell'=true)∧Elems g2.mem it.size ys news:=by
        intro hys
        rcases hx2 with ⟨e,_⟩ | ⟨fl,e⟩
        ·exact absurd e hys
        ·exact imm_news e R2.mem hys
       have hmaxl:∀ q:Nat,q*it.bytes≤2 ^ 47→q≤maxLen∧(q:Int)≤9223372036854775807:=by
        intro q hq
        have:q≤q*it.bytes:=Nat.le_mul_of_pos_right _ hb0
        simp only [maxLen]
        omega
       have empty:∀ (p:Bool) (ad0:Option Addr),ys≠[]→a.eval s=.slice ad0 0 0→v=.lin p e it.size ys→ys.length*it.bytes≤2 ^ 47→o.wpIn (FW ρ) n C.P a w next Q:=by
        intro p ad0 hys hs' hve hb47
        obtain ⟨ad,cp,nw,hxe,hnl,hcell,hone,helm⟩:=news hys
        have hpos:0<ys.length:=List.length_pos_iff.2 hys
        have hge:=grownCap_ge w ys.length 0 e
        obtain ⟨g3,l3,R3,hr3⟩:=grow_new p R2 (d:=o.dst.getD 0) (e:=e) (sz:=it.size) (cap:=grownCap w ys.length 0 e) (zs:=ys) (all:=nw) (Builtin.zeroCells zv.cells (grownCap w ys.length 0 e-ys.length)) helm hge (grownCap_le_maxLen w _ _ e (hmaxl _ hb47).1) (by
         rw [size_zeroCells,hzsz,hnl,←Nat.add_mul];congr 1;omega) hfree
        have hrun:(Builtin.append_ #[t,t] o.type #[.slice ad0 0 0,.slice (some ad) ys.length cp]).run C.P w=.ok (.slice (some ⟨w.heap.size,0,none⟩) ys.length (grownCap w ys.length 0 e)) (w.drew.alloc (.cells (nw.toArray++Builtin.zeroCells zv.cells (grownCap w ys.length 0 e-ys.length)) e)):=by
         cases ad0 with
         | none=>exact run_append_nil (P:=C.P) w t o.type e it zv ht hit hzv ad ys.length cp nw hnl hcell hpos (hmaxl _ hb47).2 (by omega)
         | some b0 =>
          have:=run_append_grow (P:=C.P) w t o.type e it zv ht hit hzv b0 0 0 [] (by simp) (fun j v h=>by simp at h) ad ys.length cp nw hnl hcell (by omega) (by have:=(hmaxl _ hb47).2;omega) (growslice_fits (by omega) (by rw [Nat.zero_add];omega))
          simpa using this
        rw [hve] at fin
        exact fin _ _ g3 (by rw [hs',hxe];exact hrun) l3 R3 hr3
       unfold vappend at hva
       split at hva
       ·-- nil,and nothing
        rename_i hs0
        cases hva
        rw [hs0] at hs2
        have hs':a.eval s=.slice none 0 0:=by simp only [RepS,RepA,RepC] at hs2;generalize a.eval s=u at hs2 ⊢;cases hs2;rfl
        exact fin0 none 0 0 rfl hs' (Nat.le_refl _) (fun _=>⟨rfl,rfl⟩) hs2
       ·rename_i ys _ _ hs0 hne
        cases hva
        rw [hs0] at hs2
        have hs':a.eval s=.slice none 0 0:=by simp only [RepS,RepA,RepC] at hs2;generalize a.eval s=u at hs2 ⊢;cases hs2;rfl
        have hys:ys≠[]:=fun e=>hne e
        obtain ⟨ad,cp,nw,hxe,hnl,hcell,hone,helm⟩:=news hys
        have hpos:0<ys.length:=List.length_pos_iff.2 hys
        have hrun:=run_append_nil (P:=C.P) w t o.type e it zv ht hit hzv ad ys.length cp nw hnl hcell hpos (hmaxl _ hbytes).2 (by omega)
        have hge:=grownCap_ge w ys.length 0 e
        obtain ⟨g3,l3,R3,hr3⟩:=grow_new true R2 (d:=o.dst.getD 0) (e:=e) (sz:=it.size) (cap:=grownCap w ys.length 0 e) (zs:=ys) (all:=nw) (Builtin.zeroCells zv.cells (grownCap w ys.length 0 e-ys.length)) helm hge (grownCap_le_maxLen w _ _ e (hmaxl _ hbytes).1) (by
         rw [size_zeroCells,hzsz,hnl,←Nat.add_mul];congr 1;omega) hfree
        exact fin _ _ g3 (by rw [hs',hxe];exact hrun) l3 R3 hr3
       ·rename_i q ws hs0
        cases hva
        rw [hs0] at hs2
        have hs2':=hs2
        simp only [RepS,RepA,RepC] at hs2'
        generalize hsv:a.eval s=sv at hs2 hs2'
        cases hs2' with
        | none0=>exact fin0 none 0 0 rfl hsv (Nat.le_refl _) (fun _=>⟨rfl,rfl⟩) (by rw [hsv];exact hs2)
        | imm _ _ b off cap esz val q1 q2 q3 q4 q5 q6 q7=>exact fin0 _ _ _ rfl hsv q1 (fun h=>by cases h) (by rw [hsv];exact hs2)
       ·rename_i ys _ _ q ws hs0 hne
        split at hva
        ·rename_i hq
         subst hq
         cases hva
         have hys:ys≠[]:=fun e=>hne e
         rw [hs0] at hs2
         simp only [RepS,RepA,RepC] at hs2
         obtain ⟨ad,cp,nw,hxe,hnl,hcell,hone,helm⟩:=news hys
         have hpos:0<ys.length:=List.length_pos_iff.2 hys
         by_cases hws:ws=[]
         ·subst hws
          have:∃ ad0,a.eval s=.slice ad0 0 0:=by
           generalize a.eval s=u at hs2 ⊢
           cases hs2 with
           | none0=>exact ⟨_,rfl⟩
           | imm _ _ b off cap esz val q1 q2=>have:=q2 rfl;simp at this;subst this;exact ⟨_,rfl⟩
          obtain ⟨ad0,hs'⟩:=this
          exact empty true ad0 hys hs' (by rw [List.nil_append]) (by simpa using hbytes)
         obtain ⟨ad',cp',ol,hse,hol,hcell',_,helm'⟩:=imm_news hs2 R2.mem hws
         have hcp:cp'=ws.length:=by
          rw [hse] at hs2
          cases hs2 with
          | imm _ _ b off cap esz val q1 q2 q3 q4 q5 q6 q7=>exact q2 rfl
         subst hcp
         have hrun:=run_append_grow (P:=C.P) w t o.type e it zv ht hit hzv ad' ws.length ws.length ol hol hcell' ad ys.length cp nw hnl hcell (by omega) (hmaxl _ hbytes).2 (growslice_fits (by omega) (by omega))
         have hge:=grownCap_ge w (ws.length+ys.length) ws.length e
         obtain ⟨g3,l3,R3,hr3⟩:=grow_new true R2 (d:=o.dst.getD 0) (e:=e) (sz:=it.size) (cap:=grownCap w (ws.length+ys.length) ws.length e) (zs:=ws++ys) (all:=ol++nw)
          (Builtin.zeroCells zv.cells (grownCap w (ws.length+ys.length) ws.length e-(ws.length+ys.length))) (helm'.append helm) (by rw [List.length_append];exact hge) (grownCap_le_maxLen w _ _ e (hmaxl _ hbytes).1) (by
          rw [size_zeroCells,hzsz,List.length_append,hnl,hol,←Nat.add_mul,←Nat.add_mul];congr 1;omega) hfree
         rw [List.length_append] at hr3
         simp only [List.append_toArray] at hrun
         exact fin _ _ g3 (by rw [hse,hxe];exact hrun) l3 R3 hr3
        ·cases hva
       ·rename_i ys _ _ p e' q ws hs0
        split at hva
        ·rename_i hq
         obtain ⟨rfl,rfl⟩:=hq
         cases hva
         rw [hs0] at hs2
         have hs2':=hs2
         simp only [RepS,RepA,RepC] at hs2'
         rcases hs2' with ⟨b,i,hlb,hpl,hpr,⟨hety,hesz⟩,hse,helm'⟩ | ⟨rfl,hz0,ad0,hse⟩
         rotate_left
         ·by_cases hys:ys=[]
          ·subst hys
           exact fin0 _ _ _ rfl hse (Nat.le_refl _) (fun h=>⟨rfl,rfl⟩) (by rw [List.append_nil];exact hs2)
          ·exact empty p ad0 hys hse (by rw [List.nil_append]) (by simpa using hbytes)
         obtain ⟨k1,⟨cur,k2,k3,k4⟩,k5,k6,k7,_,_⟩:=R2.lin.at_ b i hlb
         have hwl:ws.length≤i.cap:=by rw [helm'.1] at k5;exact Nat.le_of_mul_le_mul_right k5 k7
         by_cases hys:ys=[]
         ·subst hys
          exact fin0 _ _ _ rfl hse hwl (fun h=>by cases h) (by rw [List.append_nil];exact hs2)
         ·obtain ⟨ad,cp,nw,hxe,hnl,hcell,hone,helm⟩:=news hys
          have hpos:0<ys.length:=List.length_pos_iff.2 hys
          rw [hety] at k2
          have hol:i.cs.length=ws.length*it.size:=by rw [helm'.1,hesz]
          rw [hesz] at helm' k4 k5
          have happ:=helm'.append helm
          by_cases hroom:ws.length+ys.length≤i.cap
          ·have hfit:ws.length*it.size+nw.length≤cur.size:=by rw [hnl,k4,←Nat.add_mul];exact Nat.mul_le_mul_right _ hroom
           have hrun:=run_append_room (P:=C.P) w t o.type _ it ht hit b ws.length i.cap cur k2 ad ys.length cp nw hnl hcell hone hroom hfit
           obtain ⟨g3,l3,R3,hr3⟩:=grow_room R2 hlb hpl hpr hety hesz k2 happ (by rw [List.length_append];exact hroom) hfree
           rw [List.length_append] at hr3
           rw [hol] at l3 R3
           exact fin _ _ g3 (by rw [hse,hxe];exact hrun) l3 R3 hr3
          ·have hcell':∀ j u,i.cs[j]?=some u→w.cell? ((⟨b,0,none⟩:Addr).add j)=some u:=by
            intro j u hj
            rw [addr_add,cell_of_heap k2,Nat.zero_add]
            exact mem_of_prefix k3 hj
           have hrun:=run_append_grow (P:=C.P) w t o.type _ it zv ht hit hzv ⟨b,0,none⟩ ws.length i.cap i.cs hol hcell' ad ys.length cp nw hnl hcell (by omega) (hmaxl _ hbytes).2 (growslice_fits (by omega) (by omega))
           have hge:=grownCap_ge w (ws.length+ys.length) i.cap e'
           obtain ⟨g3,l3,R3,hr3⟩:=grow_new p R2 (d:=o.dst.getD 0) (e:=e') (sz:=it.size) (cap:=grownCap w (ws.length+ys.length) i.cap e') (zs:=ws++ys) (all:=i.cs++nw)
            (Builtin.zeroCells zv.cells (grownCap w (ws.length+ys.length) i.cap e'-(ws.length+ys.length))) happ (by rw [List.length_append];exact hge) (grownCap_le_maxLen w _ _ _ (hmaxl _ hbytes).1) (by
            rw [size_zeroCells,hzsz,List.length_append,hnl,hol,←Nat.add_mul,←Nat.add_mul];congr 1;omega) hfree
           rw [List.length_append] at hr3
           simp only [List.append_toArray] at hrun
           exact fin _ _ g3 (by rw [hse,hxe];exact hrun) l3 R3 hr3
        ·cases hva
       ·cases hva
      ·cases h
     ·cases h
    ·cases h
   ·cases h
  ·cases h
 ·cases h
end
end Go.Fw
namespace Go.Fw
open Go.RowKit
theorem repl_get {α:Type} {n i:Nat} {z x:α} (h:(List.replicate n z)[i]?=some x):x=z∧i<n:=by
 have hi:=(List.getElem?_eq_some_iff.1 h).1
 have h2:=(List.getElem?_eq_some_iff.1 h).2
 simp at h2 hi
 exact ⟨h2.symm,hi⟩
section
variable {C:Cx} {vb:FuncId→List V→List Blk→Option FOut} {f:FuncId} {ρ:Option Nat} {n:Nat} {o:Oper} {st:St} {α:Type} {k kp:V→St→Option α} {out:α}
 {B τ:Nat} {g:Gh} {a:Act} {w:World} {next:Act→World→Prop} {Q:Exit→Act→World→Prop}
theorem op_makeSlice {t:TypeId} {l c:Operand} (ho:o.op=.makeSlice t l c) (h:vop C vb f o st k kp=some out) (hR:R B τ g st a w) (hk:Goes B τ g a w o.dst k out next):o.wpIn (FW ρ) n C.P a w next Q:=by
 unfold vop at h
 rw [ho] at h
 dsimp only at h
 split at h
 ·rename_i e he
  have ht:=sliceT he
  split at h
  ·rename_i sz by_ z k1 nl k2 nc hsz hby hz hl hc
   rcases condB_cases h with ⟨hcond,h⟩ | ⟨_,h⟩
   ·simp only [decide_eq_true_eq] at hcond
    obtain ⟨h0,h1,h2,h3,h4,h5,h6⟩:=hcond
    obtain ⟨dl,hdl⟩:=peek_rep hR l
    obtain ⟨dc,hdc⟩:=peek_rep hR c
    rw [hl] at hdl;rw [hc] at hdc
    have el:=rep_int hdl
    have ec:=rep_int hdc
    obtain ⟨it,zv,hit,hzv,ez⟩:=zeroT_eq hz
    subst ez
    obtain ⟨c1,c2⟩:=ofVal_cells (g:=g) h6
    have hszi:it.size=sz:=by unfold sizeT at hsz;rw [hit] at hsz;simpa using hsz
    have hbyi:it.bytes=by_:=by unfold bytesT at hby;rw [hit] at hby;simpa using hby
    have hrun:=run_make (P:=C.P) w t e it zv ht hit hzv k1 k2 nl nc h0 h1 (by rw [hbyi];rw [Int.mul_comm];omega) (by omega)
    obtain ⟨N,rfl⟩:=Int.eq_ofNat_of_zero_le h0
    obtain ⟨M,rfl⟩:=Int.eq_ofNat_of_zero_le (by omega:0≤nc)
    simp only [Int.toNat_natCast] at hrun h
    rw [hszi] at hrun
    have hzsz:zv.cells.size=sz:=by rw [←c1];exact h4
    split at h
    ·rename_i hcnd
     obtain ⟨hfl2,_⟩:=hcnd
     rcases condB_cases h with ⟨hNM,h2'⟩ | ⟨_,h2'⟩
     ·simp only [decide_eq_true_eq] at hNM
      have hNM:N=M:=by omega
      subst hNM
      let cur:=madeCells zv.cells (N*sz)
      obtain ⟨l2,hR2⟩:=new_mem hR cur e
      refine wp_value (by simp [ho]) (v:=.slice (some ⟨w.heap.size,0,none⟩) N N) (w':=w.alloc (.cells cur e)) (by simp only [execOp,ho,el,ec];exact run_v hrun) (hk _ _ _ _ _ l2 hR2 ?_ h2')
      have hmem:∀ p,stAt (g.addMem w.heap.size cur.toList).mem w.heap.size p=cur.toList[p]?:=by intro p;simp [stAt,Gh.addMem]
      have hz5:okV (ofVal zv)=true:=h6
      obtain ⟨q1,q2⟩:=flat_cells (ofVal_rep g 0 0 zv) hz5 hfl2
      have hcur:∀ (i j:Nat) (hi:i<N) (hj:j<zv.cells.size),cur.toList[i*sz+j]?=some zv.cells[j]:=by
       intro i j hi hj
       have hlt:i*sz+j<N*sz:=by
        have:(i+1)*sz≤N*sz:=Nat.mul_le_mul_right _ hi
        rw [Nat.add_mul,Nat.one_mul] at this
        omega
       have hmod:(i*sz+j) % zv.cells.size=j:=by
        rw [hzsz,Nat.mul_comm,Nat.mul_add_mod]
        exact Nat.mod_eq_of_lt (by omega)
       rw [Array.getElem?_toList]
       simp only [cur,madeCells]
       rw [Array.getElem?_map,Array.getElem?_range]
       rw [if_pos hlt]
       simp only [Option.map_some,hmod]
       rw [getElem!_pos zv.cells j hj]
      have himm:=RepI.imm (m:=(g.addMem w.heap.size cur.toList).mem) true (List.replicate N (ofVal zv)) w.heap.size 0 N sz (fun i j=>(cur.toList[i*sz+j]?).getD default) (by simp) (fun _=>by simp) (by simp only [maxLen];omega) h5
       (fun i v hv=>by obtain ⟨rfl,_⟩:=repl_get hv;exact h4)
       (fun i v j c hv hc=>by
        obtain ⟨rfl,hi⟩:=repl_get hv
        have hj:j<zv.cells.size:=by rw [←q1];exact (List.getElem?_eq_some_iff.1 hc).1
        refine ⟨(q2 j c hj hc).1,?_⟩
        rw [Nat.zero_add,hmem,hcur i j hi hj];rfl)
       (fun i v j c hv hc=>by
        obtain ⟨rfl,hi⟩:=repl_get hv
        have hj:j<zv.cells.size:=by rw [←q1];exact (List.getElem?_eq_some_iff.1 hc).1
        rw [hcur i j hi hj]
        exact (q2 j c hj hc).2.mono l2.mem)
      rw [List.length_replicate] at himm
      exact himm
     ·cases h2'
    ·have hfl:((List.replicate M (ofVal zv).cells).flatten).length=M*sz:=by simp [h4]
     have hget:∀ (j:Nat) (x:V),((List.replicate M (ofVal zv).cells).flatten)[j]?=some x→(ofVal zv).cells[j % sz]?=some x:=by
      intro j x hx
      have hj:=(List.getElem?_eq_some_iff.1 hx).1
      rw [hfl] at hj
      exact flat_get M (ofVal zv).cells sz h4 h5 j x hx
     obtain ⟨g'',q1,q2,q3,q4,q5,q6,q7⟩:=new_own hR ((List.replicate M (ofVal zv).cells).flatten) (madeCells zv.cells (M*sz)) e (by rw [hfl,size_madeCells];exact Nat.le_refl _) (fun j x hj hx=>by
      have hx':=hget j x hx
      have hjm:j % sz<zv.cells.size:=by rw [hzsz];exact Nat.mod_lt _ h5
      have hv:=c2 (.cell st.h.length j) (j % sz) x hjm hx'
      have:(madeCells zv.cells (M*sz))[j]=zv.cells[j % sz]:=by
       simp only [madeCells,Array.getElem_map,Array.getElem_range]
       rw [getElem!_pos zv.cells (j % zv.cells.size) (by rw [hzsz];exact Nat.mod_lt _ h5)]
       congr 1;rw [hzsz]
      rw [this];exact hv)
     refine wp_value (by simp [ho]) (v:=.slice (some ⟨w.heap.size,0,none⟩) N M) (w':=w.alloc (.cells (madeCells zv.cells (M*sz)) e)) ?_ (hk (.own st.h.length 0 N M) _ g'' _ _ q1 q2 (.inl ⟨_,M,q3,rfl,by omega,by simp only [maxLen];omega,Nat.le_refl _,q7 M (fun sz' hsz'=>by
      have:sz'=sz:=by rw [C.isP,hsz'] at hsz;exact Option.some.inj hsz
      rw [this,size_madeCells];exact Nat.le_refl _)⟩) h)
     simp only [execOp,ho,el,ec]
     exact run_v hrun
   ·cases h
  ·cases h
 ·cases h
end
end Go.Fw
namespace Go.Fw
open Go.RowKit
def ArgsI (m:Mem) (vs:List V) (us:Array Value):Prop:=vs.length=us.size∧∀ (j:Nat) (c:V) (h:j<us.size),vs[j]?=some c→RepI m c us[j]
def ArgsS (g:Gh) (vs:List V) (us:Array Value):Prop:=vs.length=us.size∧∀ (j:Nat) (c:V) (h:j<us.size),vs[j]?=some c→isLin3 c=false∧∀ τ d,RepS g τ d c us[j]
def OutIs (g:Gh) (out:FOut) (e:Ending):Prop:=match out with
 | .ret v _=>∃ u,e=.returned u∧RepS g 0 0 v u
 | .pan v _=>∃ u,e=.panicked [{v:=u,recovered:=false}]∧isLin3 v=false∧RepS g 0 0 v u
def FOut.heap:FOut→List Blk
 | .ret _ h=>h
 | .pan _ h=>h
def FOut.plain:FOut→Prop
 | .ret v _=>isLin3 v=false
 | .pan _ _=>True
def PureOut (m:Mem) (w:World) (out:FOut) (e:Ending) (w':World):Prop :=
 ∃ g',OutIs g' out e∧g'.loc=(fun _=>none)∧Below w.heap.size w w'∧MemLe m g'.mem∧(∀ b,b<w.heap.size→g'.mem b=m b)∧MemOk g'.mem w'∧LinOk g' w.heap.size w'
def HeapOut (B:Nat) (g:Gh) (w:World) (out:FOut) (e:Ending) (w':World):Prop :=
 ∃ g',OutIs g' out e∧out.plain∧Below B w w'∧MemLe g.mem g'.mem∧(∀ b,b<B→g'.mem b=g.mem b)∧(∀ id b,g.loc id=some b→g'.loc id=some b) ∧
  (∀ b i,g.lin b=some i→(∃ τ x j k,i.place=.slot τ x j k)→g'.lin b=some i)∧HeapOk g' out.heap B w'∧MemOk g'.mem w'∧LinOk g' B w'
structure VbSound (C:Cx) (vb:FuncId→List V→List Blk→Option FOut):Prop where
 fn:∀ f args h out,vb f args h=some out→f<yBase→∃ fn c,C.P.funcs[f]?=some fn∧fn.body=some c∧(fn.name == "runtime.NumGoroutine")=false
 pure_:∀ f args out,vb f args []=some out→f<yBase→pureOf C f args=true→∀ (n:Nat) (us:Array Value) (w:World) (m:Mem),MemOk m w→ArgsI m args us→CallsIn Fence.wide n C.P f us w (PureOut m w out)
 heap:∀ f args h out,vb f args h=some out→f<yBase→pureOf C f args=false→∀ (n:Nat) (us:Array Value) (w:World) (B:Nat) (g:Gh),HeapOk g h B w→MemOk g.mem w→LinOk g B w→B≤w.heap.size→ArgsS g args us→CallsIn Fence.wide n C.P f us w (HeapOut B g w out)
 round:∀ id args h out,vb (yBase+id) args h=some out→∀ (ρ:Option Nat) (n:Nat) (us:Array Value) (w:World) (B:Nat) (g:Gh) (l:Nat),HeapOk g h B w→MemOk g.mem w→LinOk g B w→B≤w.heap.size→ArgsS g args us→g.loc id=some l →
  ∃ f tmps asg body,(Instr.yield l us).run C.P w=.ok (.round l f tmps asg body) w∧RoundIn (FW ρ) n C.P l f tmps asg body w (HeapOut B g w out)
/-! ### flat values -/
theorem flat0_repI {g:Gh} {v:V} {u:Value} (hv:flat0 v=true) (h:RepP g v u):RepI g.mem v u:=by
 cases v<;>first | exact h | simp [flat0] at hv
theorem flat0_repP {g:Gh} {v:V} {u:Value} (hv:flat0 v=true) (h:RepI g.mem v u):RepP g v u:=by
 cases v<;>first | exact h | simp [flat0] at hv
theorem flat0_cell {v:V} (hv:flat0 v=true):isCell v=true∧isLin1 v=false∧v≠.undef:=by
 cases v<;>first | (simp [flat0] at hv;done) | exact ⟨rfl,rfl,by simp⟩
theorem flat1_repC {g:Gh} {p:Place} {v:V} {u:Value} (hv:flat1 v=true) (h:RepI g.mem v u):RepC g p v u:=by
 cases v<;>simp only [flat1,flat0,Bool.false_eq_true] at hv<;>try exact h
 case fn f first caps =>
  cases h with
  | fn _ _ _ first' caps' h1 h2 v1 v2 =>
   simp only [Bool.and_eq_true,List.all_eq_true] at hv
   exact ⟨first',caps',rfl,h1,h2,fun j c hj hc=>flat0_repP (hv.1 _ (List.mem_of_getElem? hc)) (v1 j c hj hc),fun j c hj hc=>flat0_repP (hv.2 _ (List.mem_of_getElem? hc)) (v2 j c hj hc)⟩
theorem flat1_cell {v:V} (hv:flat1 v=true):isCell v=true∧isLin1 v=false∧v≠.undef:=by
 cases v<;>first | (simp [flat1,flat0] at hv;done) | exact ⟨rfl,rfl,by simp⟩
theorem repC_flat1 {g:Gh} {p:Place} {v:V} {u:Value} (hv:flat1 v=true) (h:RepC g p v u):RepI g.mem v u:=by
 cases v<;>simp only [flat1,flat0,Bool.false_eq_true] at hv<;>try exact h
 case fn f first caps =>
  obtain ⟨first',caps',rfl,h1,h2,h3,h4⟩:=h
  simp only [Bool.and_eq_true,List.all_eq_true] at hv
  exact .fn f first caps first' caps' h1 h2 (fun j c hj hc=>flat0_repI (hv.1 _ (List.mem_of_getElem? hc)) (h3 j c hj hc)) (fun j c hj hc=>flat0_repI (hv.2 _ (List.mem_of_getElem? hc)) (h4 j c hj hc))
theorem flat2_notTup {v:V} (hv:flat2 v=true):(∀ vs,v≠.tup vs)∧v≠.undef:=by
 constructor
 ·intro vs e;rw [e] at hv;simp [flat2,flat1,flat0] at hv
 ·intro e;rw [e] at hv;simp [flat2,flat1,flat0] at hv
theorem flat2_lin {v:V} (hv:flat2 v=true):isLin3 v=false:=by
 cases v<;>first | rfl | simp [flat2,flat1,flat0] at hv
 case agg vs =>
  simp only [isLin3,isLin2]
  rw [List.any_eq_false]
  intro x hx
  simp [(flat1_cell (hv x hx)).2.1]
theorem flat2_repS {g:Gh} {τ d:Nat} {v:V} {u:Value} (hv:flat2 v=true) (h:RepI g.mem v u):RepS g τ d v u:=by
 rw [repS_notTup (flat2_notTup hv).1]
 by_cases ha:∃ vs,v=.agg vs
 ·obtain ⟨vs,rfl⟩:=ha
  simp only [flat2,List.all_eq_true] at hv
  cases h with
  | agg _ cs hn hs hv'=>exact ⟨cs,rfl,hn,fun j c hj hc=>flat1_repC (hv _ (List.mem_of_getElem? hc)) (hv' j c hj hc)⟩
 ·have hf:flat1 v=true:=by cases v<;>first | exact hv | exact absurd ⟨_,rfl⟩ ha
  exact repA_cell (flat1_repC hf h)
theorem repS_flat2 {g:Gh} {τ d:Nat} {v:V} {u:Value} (hv:flat2 v=true) (h:RepS g τ d v u):RepI g.mem v u:=by
 rw [repS_notTup (flat2_notTup hv).1] at h
 by_cases ha:∃ vs,v=.agg vs
 ·obtain ⟨vs,rfl⟩:=ha
  simp only [flat2,List.all_eq_true] at hv
  obtain ⟨cs,rfl,h1,h2⟩:=h
  exact .agg vs cs h1 (fun j c hc=>(flat1_cell (hv _ (List.mem_of_getElem? hc))).1) (fun j c hj hc=>repC_flat1 (hv _ (List.mem_of_getElem? hc)) (h2 j c hj hc))
 ·have hf:flat1 v=true:=by cases v<;>first | exact hv | exact absurd ⟨_,rfl⟩ ha
  rcases repA_inv h with e | h | h
  ·exact absurd e (flat2_notTup hv).2
  ·exact repC_flat1 hf h
  ·exact absurd h ha
theorem demote_lin {v:V}:isLin3 (map3 demote1 v)=false:=by
 have h1:∀ v,isLin1 (demote1 v)=false:=fun v=>by cases v<;>rfl
 have h2:∀ v,isLin2 (map2 demote1 v)=false:=by
  intro v
  cases v<;>try rfl
  simp only [map2,isLin2]
  rw [List.any_eq_false]
  intro x hx
  obtain ⟨y,_,rfl⟩:=List.mem_map.1 hx
  simp [h1]
 cases v<;>try rfl
 case agg vs=>exact h2 (.agg vs)
 simp only [map3,isLin3]
 rw [List.any_eq_false]
 intro x hx
 obtain ⟨y,_,rfl⟩:=List.mem_map.1 hx
 simp [h2]
/-! ### what the caller knows behind a call -/
section
variable {B τ:Nat} {g:Gh} {st:St} {a:Act} {w:World}
def renTo (τ d:Nat):Place→Place
 | .slot _ _ j k=>.slot τ d j k
 | p=>p
def Gh.merge (g g':Gh) (N τ d:Nat):Gh where
 mem:=g'.mem
 loc:=g.loc
 lin:=fun b=>if b<N then g.lin b else (g'.lin b).map fun i=>{i with place:=renTo τ d i.place}
theorem RepP.loc {g g':Gh} (hl:g.loc=fun _=>none) (hm:g'.mem=g.mem) {v:V} {u:Value} (h:RepP g v u):RepP g' v u:=by
 unfold RepP at *
 split at h
 ·obtain ⟨b,h1,_⟩:=h;rw [hl] at h1;cases h1
 ·obtain ⟨b,h1,_⟩:=h;rw [hl] at h1;cases h1
 ·rw [hm];exact h
theorem RepC.merge {g g':Gh} {p p':Place} (hl:g.loc=fun _=>none) (hm:g'.mem=g.mem) (hn:∀ b i,g.lin b=some i→i.place=p→g'.lin b=some {i with place:=p'}) {v:V} {u:Value} (h:RepC g p v u):RepC g' p' v u:=by
 cases v<;>simp only [RepC] at h ⊢<;>try (rw [hm];exact h)
 case undef=>exact h
 case ptr id off=>obtain ⟨b,h1,_⟩:=h;rw [hl] at h1;cases h1
 case obj k id=>obtain ⟨b,h1,_⟩:=h;rw [hl] at h1;cases h1
 case own id off len room =>
  rcases h with ⟨b,cap,h1,_⟩ | h
  ·rw [hl] at h1;cases h1
  ·exact .inr h
 case lin priv e n xs =>
  rcases h with ⟨b,i,h1,h2,h3,h0,h4,h5⟩ | h
  ·exact .inl ⟨b,_,hn b i h1 h2,rfl,h3,h0,h4,by rw [hm];exact h5⟩
  ·exact .inr h
 case fn f first caps =>
  obtain ⟨a,c,h1,h2,h3,h4,h5⟩:=h
  exact ⟨a,c,h1,h2,h3,fun j x hj hx=>(h4 j x hj hx).loc hl hm,fun j x hj hx=>(h5 j x hj hx).loc hl hm⟩
theorem RepA.merge {g g':Gh} {pl pl':Nat→Place} (hl:g.loc=fun _=>none) (hm:g'.mem=g.mem) (hn:∀ j b i,g.lin b=some i→i.place=pl j→g'.lin b=some {i with place:=pl' j}) {v:V} {u:Value} (h:RepA g pl v u):RepA g' pl' v u:=by
 unfold RepA at *
 split at h
 ·obtain ⟨cs,h1,h2,h3⟩:=h
  exact ⟨cs,h1,h2,fun j c hj hc=>(h3 j c hj hc).merge hl hm (hn _)⟩
 ·trivial
 ·exact h.merge hl hm (hn _)
theorem RepS.merge {g g':Gh} {τ i τ' i':Nat} (hl:g.loc=fun _=>none) (hm:g'.mem=g.mem) (hn:∀ j k b x,g.lin b=some x→x.place=.slot τ i j k→g'.lin b=some {x with place:=.slot τ' i' j k}) {v:V} {u:Value} (h:RepS g τ i v u):RepS g' τ' i' v u:=by
 unfold RepS at *
 split at h
 ·obtain ⟨cs,h1,h2,h3⟩:=h
  exact ⟨cs,h1,h2,fun k c hk hc=>(h3 k c hk hc).merge (pl':=fun j=>.slot τ' i' j (k+1)) hl hm (fun j=>hn j _)⟩
 ·exact h.merge (pl':=fun j=>.slot τ' i' j 0) hl hm (fun j=>hn j _)
theorem merge_sound (h:R B τ g st a w) {g':Gh} {w':World} (d:Nat) (hb:Below w.heap.size w w') (hm:MemLe g.mem g'.mem) (ho:∀ b,b<w.heap.size→g'.mem b=g.mem b) (hmo:MemOk g'.mem w') (hlo:LinOk g' w.heap.size w') :
  Later B τ g (g.merge g' w.heap.size τ d) w w'∧R B τ (g.merge g' w.heap.size τ d) st a w':=by
 have hlt:∀ b i,g.lin b=some i→b<w.heap.size:=by
  intro b i hi
  obtain ⟨_,⟨cur,h2,_⟩,_⟩:=h.lin.at_ b i hi
  exact (Array.getElem?_eq_some_iff.1 h2).1
 have hl:∀ b i,g.lin b=some i→(g.merge g' w.heap.size τ d).lin b=some i:=by
  intro b i hi
  unfold Gh.merge;dsimp only;rw [if_pos (hlt b i hi)];exact hi
 refine ⟨⟨hb.mono h.base,hm,fun b hB=>ho b (Nat.lt_of_lt_of_le hB h.base),fun _ _ h=>h,fun b i hi _=>hl b i hi⟩,⟨h.size,fun i v hi hv=>?_,⟨h.heap.bound,h.heap.inj,?_,?_⟩,hmo,⟨?_⟩,Nat.le_trans h.base hb.size,h.defers.mono (g:=g) (g':=g.merge g' w.heap.size τ d) hm (fun _ _ h=>h) (fun _ h=>h)⟩⟩
 ·exact RepS.mono (g:=g) (g':=g.merge g' w.heap.size τ d) hm (fun _ _ h=>h) (fun j k b x hx _=>hl b x hx) (h.slots i v hi hv)
 ·intro id b hid
  obtain ⟨h1,h2,h3,h4⟩:=h.heap.fresh id b hid
  refine ⟨h1,Nat.lt_of_lt_of_le h2 hb.size,by show g'.mem b=none;rw [ho b h2];exact h3,?_⟩
  unfold Gh.merge;dsimp only;rw [if_pos h2];exact h4
 ·intro id b x hid he
  obtain ⟨o,h1,h2⟩:=h.heap.blkO id b x hid he
  refine ⟨o,by rw [hb.block b (h.heap.fresh id b hid).2.1];exact h1,BlkOk.mono (g:=g) (g':=g.merge g' w.heap.size τ d) hm (fun _ _ h=>h) (fun j b i hi _=>hl b i hi) h2⟩
 ·intro b i hi
  unfold Gh.merge at hi
  dsimp only at hi
  split at hi
  ·rename_i hb'
   obtain ⟨h1,⟨cur,h2,h3⟩,h4,h5,h6,h7,h8⟩:=h.lin.at_ b i hi
   refine ⟨h1,⟨cur,by rw [hb.block b hb'];exact h2,h3⟩,h4,h5,h6,fun hp=>?_,fun hp=>?_⟩
   ·show g'.mem b=none;rw [ho b hb'];exact h7 hp
   ·show g'.mem b=some i.cs;rw [ho b hb'];exact h8 hp
  ·cases hl':g'.lin b with
   | none=>rw [hl'] at hi;cases hi
   | some i0 =>
    rw [hl'] at hi
    simp only [Option.map_some,Option.some.injEq] at hi
    subst hi
    obtain ⟨h1,h2,h3,h4,h5,h6,h7⟩:=hlo.at_ b i0 hl'
    exact ⟨Nat.le_trans h.base h1,h2,h3,h4,h5,h6,h7⟩
theorem merge_val {g':Gh} {w':World} {N d:Nat} (hl:g'.loc=fun _=>none) (hlo:LinOk g' N w') {v:V} {u:Value} (h:RepS g' 0 0 v u):RepS (g.merge g' N τ d) τ d v u:=by
 refine RepS.merge (g':=g.merge g' N τ d) hl rfl (fun j k b x hx hp=>?_) h
 have hge:=(hlo.at_ b x hx).1
 unfold Gh.merge;dsimp only
 rw [if_neg (by omega),hx]
 simp [hp,renTo]
/-! ### laid into the heap -/
def Gh.thaw (g:Gh) (id b:Nat):Gh where
 mem:=g.mem
 loc:=fun x=>if x=id then some b else g.loc x
 lin:=fun x=>if x=b then none else g.lin x
theorem thaw_core (h:R B τ g st a w) {d:Nat} {xs:List V} {b:Nat} {i:LinI} (hb:g.lin b=some i) (hp:i.place=.slot τ d 0 0) (hpr:i.priv=true) (hel:Elems g.mem i.esz xs i.cs) (hsh:Shp g.mem b 0 i.cap) (hfree:∀ v,st.fr[d]?=some v→isLin3 v=false) :
  ∃ g',Later B τ g g' w w∧R B τ g' {st with h:=st.h++[.cells (xs.flatMap V.cells) i.ety]} a w∧RepS g' τ d (.own st.h.length 0 xs.length xs.length) (.slice (some ⟨b,0,none⟩) xs.length i.cap):=by
 obtain ⟨k1,⟨cur,k2,k3,k4⟩,k5,k6,k7,k8,_⟩:=h.lin.at_ b i hb
 have hmb:=k8 hpr
 have hnl:∀ id,g.loc id≠some b:=by
  intro id hid
  obtain ⟨_,_,_,h4⟩:=h.heap.fresh id b hid
  rw [hb] at h4;cases h4
 have hno:g.loc st.h.length=none:=by
  cases hh:g.loc st.h.length with
  | none=>rfl
  | some x=>have:=h.heap.bound _ _ hh;omega
 have hloc:∀ id x,g.loc id=some x→(g.thaw st.h.length b).loc id=some x:=by
  intro id x hx
  unfold Gh.thaw;dsimp only
  rw [if_neg (by rintro rfl;rw [hno] at hx;cases hx)]
  exact hx
 have hlin:∀ x i',g.lin x=some i'→i'.place≠.slot τ d 0 0→(g.thaw st.h.length b).lin x=some i':=by
  intro x i' hx hne
  unfold Gh.thaw;dsimp only
  rw [if_neg (by rintro rfl;rw [hb] at hx;cases hx;exact hne hp)]
  exact hx
 have hwl:xs.length≤i.cap:=by rw [hel.1] at k5;exact Nat.le_of_mul_le_mul_right k5 k7
 refine ⟨g.thaw st.h.length b,⟨Below.refl _ _,MemLe.refl _,fun _ _=>rfl,hloc,fun x i' hx ⟨τ',y,j,k,hq,hne⟩=>hlin x i' hx (by rw [hq];intro e;injection e with e _;exact hne e)⟩,
  ⟨h.size,fun s v hs hv=>?_,⟨fun id x hx=>?_,fun id id' x y1 y2 h1 h2 v1 v2 v3 v4=>?_,fun id x hx=>?_,fun id x y hx he=>?_⟩,h.mem,⟨fun x i' hx=>?_⟩,h.base,h.defers.mono (g:=g) (g':=g.thaw st.h.length b) (MemLe.refl _) hloc (fun _ hd=>dfr_append _ hd)⟩,?_⟩
 ·by_cases hsd:s=d
  ·subst hsd
   have h2:RepS g (τ+1) s v a.tmps[s]:=(h.slots s v hs hv).any (hfree v hv)
   have h3:=RepS.mono (g:=g) (g':=g.thaw st.h.length b) (MemLe.refl _) hloc (fun j k x i0 hx hp=>hlin x i0 hx (by rw [hp];intro e;injection e with e _;omega)) h2
   exact h3.any (hfree v hv)
  ·exact RepS.mono (g:=g) (g':=g.thaw st.h.length b) (MemLe.refl _) hloc (fun j k x i0 hx hp=>hlin x i0 hx (by rw [hp];intro e;injection e with _ e _;exact hsd e)) (h.slots s v hs hv)
 ·unfold Gh.thaw at hx;dsimp only at hx
  rw [List.length_append]
  split at hx
  ·rename_i e;subst e;simp
  ·have:=h.heap.bound _ _ hx;simp;omega
 ·unfold Gh.thaw at h1 h2;dsimp only at h1 h2
  split at h1<;>split at h2
  ·rename_i e1 e2;rw [e1,e2]
  ·cases h1;exact absurd h2 (hnl _)
  ·cases h2;exact absurd h1 (hnl _)
  ·rw [List.getElem?_append_left (h.heap.bound _ _ h1)] at v1
   rw [List.getElem?_append_left (h.heap.bound _ _ h2)] at v2
   exact h.heap.inj _ _ _ _ _ h1 h2 v1 v2 v3 v4
 ·unfold Gh.thaw at hx;dsimp only at hx
  split at hx
  ·cases hx
   refine ⟨k1,(Array.getElem?_eq_some_iff.1 k2).1,hmb,?_⟩
   unfold Gh.thaw;dsimp only;rw [if_pos rfl]
  ·obtain ⟨h1,h2,h3,h4⟩:=h.heap.fresh id x hx
   refine ⟨h1,h2,h3,?_⟩
   unfold Gh.thaw;dsimp only
   rw [if_neg (by rintro rfl;exact hnl _ hx)];exact h4
 ·unfold Gh.thaw at hx;dsimp only at hx
  split at hx
  ·rename_i e'
   subst e'
   cases hx
   rw [List.getElem?_append_right (Nat.le_refl _)] at he
   simp at he
   subst he
   have hfl:=flatMap_len hel.2.2.1
   refine ⟨_,k2,cur,rfl,by rw [hfl,k4];exact Nat.mul_le_mul_right _ hwl,fun j c hj hc=>?_⟩
   obtain ⟨x,h1,h2⟩:=flatMap_at hel.2.2.1 k7 hc
   obtain ⟨q1,q,q2,q3⟩:=hel.2.2.2 _ x _ c h1 h2
   have hjj:j / i.esz*i.esz+j % i.esz=j:=by rw [Nat.mul_comm];exact Nat.div_add_mod _ _
   rw [hjj] at q2
   have:=mem_of_prefix k3 q2
   rw [Array.getElem?_eq_getElem hj] at this
   cases this
   exact cell_flat q1 q3
  ·rename_i hne
   have hlt:=h.heap.bound _ _ hx
   rw [List.getElem?_append_left hlt] at he
   obtain ⟨o,h1,h2⟩:=h.heap.blkO id x y hx he
   exact ⟨o,h1,BlkOk.mono (g:=g) (g':=g.thaw st.h.length b) (MemLe.refl _) hloc (fun j y i0 hy hp=>hlin y i0 hy (by rw [hp];intro e;cases e)) h2⟩
 ·unfold Gh.thaw at hx;dsimp only at hx
  split at hx
  ·cases hx
  ·exact h.lin.at_ x i' hx
 ·refine .inl ⟨b,i.cap,?_,rfl,hwl,k6,hwl,hsh⟩
  unfold Gh.thaw;dsimp only;rw [if_pos rfl]
theorem thaw_sound (h:R B τ g st a w) {d:Nat} {e:TypeId} {sz:Nat} {xs:List V} {u:Value} (hsz:sizeT theP e=some sz) (hu:RepS g τ d (.lin true e sz xs) u) (hfree:∀ v,st.fr[d]?=some v→isLin3 v=false) :
  ∃ g',Later B τ g g' w w∧R B τ g' {st with h:=st.h++[.cells (xs.flatMap V.cells) e]} a w∧RepS g' τ d (.own st.h.length 0 xs.length xs.length) u:=by
 simp only [RepS,RepA,RepC] at hu
 rcases hu with ⟨b,i,hb,hp,hpr,⟨rfl,rfl⟩,rfl,hel⟩ | ⟨rfl,hz0,ad,rfl⟩
 ·obtain ⟨k1,⟨cur,k2,k3,k4⟩,k5,k6,k7,k8,_⟩:=h.lin.at_ b i hb
  obtain ⟨g1,l1,R1,s1,s2,s3,s4⟩:=add_shape h k2
  obtain ⟨g2,l2,R2,hr⟩:=thaw_core R1 (by rw [s3];exact hb) hp hpr (hel.mono l1.mem) ⟨_,_,s1,fun sz' hsz'=>by rw [hsz] at hsz';cases hsz';rw [k4,Nat.zero_add];exact Nat.le_refl _⟩ hfree
  exact ⟨g2,l1.trans l2,R2,hr⟩
 ·refine ⟨g,Later.refl ..,⟨h.size,h.slots,⟨fun id x hx=>?_,h.heap.inj.app h.heap.bound _,h.heap.fresh,fun id x y hx he=>?_⟩,h.mem,h.lin,h.base,h.defers.mono (MemLe.refl _) (fun _ _ h=>h) (fun _ hd=>dfr_append _ hd)⟩,.inr ⟨rfl,rfl,ad,rfl⟩⟩
  ·have:=h.heap.bound _ _ hx;simp;omega
  ·have hlt:=h.heap.bound _ _ hx
   rw [List.getElem?_append_left hlt] at he
   exact h.heap.blkO id x y hx he
end
end Go.Fw
namespace Go.Fw
open Go.RowKit
def Al (T:V→Value→Prop) (vs:List V) (us:List Value):Prop:=vs.length=us.length∧∀ (j:Nat) (c:V) (u:Value),vs[j]?=some c→us[j]?=some u→T c u
theorem Al.append {T:V→Value→Prop} {vs vs':List V} {us us':List Value} (h:Al T vs us) (k:Al T vs' us'):Al T (vs++vs') (us++us'):=by
 refine ⟨by rw [List.length_append,List.length_append,h.1,k.1],fun j c u hc hu=>?_⟩
 by_cases hj:j<vs.length
 ·rw [List.getElem?_append_left hj] at hc
  rw [List.getElem?_append_left (by rw [←h.1];exact hj)] at hu
  exact h.2 j c u hc hu
 ·rw [List.getElem?_append_right (by omega)] at hc
  rw [List.getElem?_append_right (by rw [←h.1];omega),←h.1] at hu
  exact k.2 _ c u hc hu
theorem Al.argsI {m:Mem} {vs:List V} {us:List Value} (h:Al (RepI m) vs us):ArgsI m vs us.toArray :=
 ⟨by simpa using h.1,fun j c hj hc=>h.2 j c _ hc (by simpa using List.getElem?_eq_getElem (by simpa using hj))⟩
theorem Al.argsS {g:Gh} {vs:List V} {us:List Value} (h:Al (fun c u=>isLin3 c=false∧∀ τ d,RepS g τ d c u) vs us):ArgsS g vs us.toArray :=
 ⟨by simpa using h.1,fun j c hj hc=>h.2 j c _ hc (by simpa using List.getElem?_eq_getElem (by simpa using hj))⟩
theorem Al.mono {T T':V→Value→Prop} {vs:List V} {us:List Value} (h:Al T vs us) (k:∀ c u,c∈vs→T c u→T' c u):Al T' vs us :=
 ⟨h.1,fun j c u hc hu=>k c u (List.mem_of_getElem? hc) (h.2 j c u hc hu)⟩
theorem repP_repS {g:Gh} {τ d:Nat} {v:V} {u:Value} (h:RepP g v u):isLin3 v=false∧RepS g τ d v u:=by
 cases v<;>try exact ⟨rfl,h⟩
 case undef=>exact ⟨rfl,trivial⟩
 case own=>cases h
 case lin=>cases h
 case agg vs =>
  cases h with
  | agg _ cs hn hs hv =>
   refine ⟨?_,cs,rfl,hn,fun j c hj hc=>cell_flat (hs j c hc) (hv j c hj hc)⟩
   simp only [isLin3,isLin2]
   rw [List.any_eq_false]
   intro x hx
   obtain ⟨j,hj,rfl⟩:=List.mem_iff_getElem.1 hx
   have:=hv j _ (by rw [←hn];exact hj) (List.getElem?_eq_getElem hj)
   intro hl
   generalize vs[j]=y at this hl
   cases y<;>simp [isLin1] at hl
   cases this
 case tup=>cases h
 case fn f a c=>exact ⟨rfl,cell_flat (p:=.slot τ d 0 0) rfl h⟩
section
variable {C:Cx} {vb:FuncId→List V→List Blk→Option FOut} {f:FuncId} {ρ:Option Nat} {n:Nat} {o:Oper} {st:St} {α:Type} {k kp:V→St→Option α} {out:α}
 {B τ:Nat} {g:Gh} {a:Act} {w:World} {next:Act→World→Prop} {Q:Exit→Act→World→Prop}
def Pans {α:Type} (B τ:Nat) (g:Gh) (a:Act) (w:World) (kp:V→St→Option α) (out:α) (Q:Exit→Act→World→Prop):Prop :=
 ∀ v st' g' u w' d,Later B τ g g' w w'→R B τ g' st' a w'→isLin3 v=false→RepS g' τ d v u→kp v st'=some out→Q (.panic [{v:=u,recovered:=false}]) a w'
theorem getS_free {fr:List V} {d:Nat} (h:isLin3 (getS fr d)=false):∀ v,fr[d]?=some v→isLin3 v=false:=fun v hv=>by rw [getS_eq hv] at h;exact h
theorem wp_enter {fn:Func} {c:Code} {gf:FuncId} {us:Array Value} {w':World} (hd:∀ c,o.op≠.defer c) (h:(execOp a.eval o).run C.P w=.ok (.enter gf us) w') {T:Ending→World→Prop} (hc:∀ n,CallsIn Fence.wide n C.P gf us w' T)
  (hT:∀ e w'',T e w''→match e with | .returned v=>next (a.put o.dst v) w'' | .panicked ch=>Q (.panic ch) a w'' | .outgrown=>False):o.wpIn (FW ρ) n C.P a w next Q:=by
 refine ⟨fun _ _=>trivial,?_⟩
 rw [Oper.semAt_eq _ _ _ hd,h,Oper.uponIn_enter]
 refine ⟨fun h=>(by simp [FW,Fence.wide] at h),?_⟩
 refine CallsIn.mono (R:=T) (hc (n-1)) (fun e w'' he=>?_)
 have:=hT e w'' he
 cases e with
 | returned v=>exact this
 | panicked ch=>exact this
 | outgrown=>exact this.elim
theorem run_call {P:Program} {ρ':Operand→Value} {c:Call} {g0:Operand} {gf:FuncId} {first caps:Array Value} {fn:Func} {cd:Code} {t:TypeId} (hb:c.callee=.value g0) (hg:ρ' g0=.func (.func gf) first caps) (hf:P.funcs[gf]?=some fn) (hcd:fn.body=some cd) (hnn:(fn.name == "runtime.NumGoroutine")=false) (w:World) :
  ((resolve ρ' c t >>= fun d=>invoke d.target d.args):Sem Next).run P w=.ok (.enter gf (first++c.args.map ρ'++caps)) w:=by
 have hne:¬fn.name = "runtime.NumGoroutine":=by simpa using hnn
 simp [resolve,hb,hg,Deferred.ofValue,invoke,callFunc,hf,hcd,hne]
theorem run_callX {P:Program} {ρ':Operand→Value} {c:Call} {g0:Operand} {gf:FuncId} {first caps:Array Value} {t:TypeId} (hb:c.callee=.value g0) (hg:ρ' g0=.func (.func gf) first caps) (w:World) :
  ((resolve ρ' c t >>= fun d=>invoke d.target d.args):Sem Next).run P w=(callFunc gf (first++c.args.map ρ'++caps)).run P w:=by
 simp [resolve,hb,hg,Deferred.ofValue,invoke]
theorem vext_sound {P:Program} {gf:FuncId} {args:List V} {v:V} (h:vext P gf args=some v) {m:Mem} {us:Array Value} (ha:ArgsI m args us) (w:World) :
  ∃ u,(callFunc gf us).run P w=.ok (.value u) w∧RepI m v u∧flat2 v=true:=by
 have two:∀ (s:ByteArray) (c:Int),args=[.str s,.int .u8 c]→us=#[.string s,.int .u8 c]:=by
  intro s c e
  subst e
  obtain ⟨h1,h2⟩:=ha
  have hs:us.size=2:=by rw [←h1];rfl
  have a0:=h2 0 _ (by omega) rfl
  have a1:=h2 1 _ (by omega) rfl
  cases us with
  | mk l =>
   match l,hs with
   | [x,y],_ =>
    simp at a0 a1
    cases a0;cases a1;rfl
 unfold vext at h
 split at h
 ·rename_i fn hfn
  split at h
  ·rename_i hbody horig
   have horig:fn.origin = "":=by simpa using horig
   split at h
   ·rename_i hname
    have hname:fn.name = "internal/bytealg.IndexByteString":=by simpa using hname
    split at h
    ·rename_i s c
     cases h
     have e:=two s c rfl
     subst e
     refine ⟨_,?_,.int _ _,rfl⟩
     have h1:Extern.findNext fn=none:=by unfold Extern.findNext;rw [hname,horig];kernel_rfl
     have h2:Extern.find fn=some Extern.BytealgIndexByte.indexByte:=by unfold Extern.find;rw [hname,horig];kernel_rfl
     have h3:¬fn.name = "runtime.NumGoroutine":=by rw [hname];decide
     simp [callFunc,hfn,hbody,h1,h2,h3,Sem.run_bind,Lib.run_indexByteString,Result.andThen,mark,Sem.run]
    ·cases h
   ·split at h
    ·rename_i hname
     have hname:fn.name = "internal/bytealg.CountString":=by simpa using hname
     split at h
     ·rename_i s c
      cases h
      have e:=two s c rfl
      subst e
      refine ⟨_,?_,.int _ _,rfl⟩
      have h1:Extern.findNext fn=none:=by unfold Extern.findNext;rw [hname,horig];kernel_rfl
      have h2:Extern.find fn=some Extern.BytealgCount.count:=by unfold Extern.find;rw [hname,horig];kernel_rfl
      have h3:¬fn.name = "runtime.NumGoroutine":=by rw [hname];decide
      simp [callFunc,hfn,hbody,h1,h2,h3,Sem.run_bind,Lib.run_countString,Result.andThen,mark,Sem.run]
     ·cases h
    ·cases h
  ·cases h
 ·cases h
theorem run_callY {P:Program} {ρ':Operand→Value} {c:Call} {g0:Operand} {l:Nat} {t:TypeId} (hb:c.callee=.value g0) (hg:ρ' g0=.func (.yield l) #[] #[]) (w:World) :
  ((resolve ρ' c t >>= fun d=>invoke d.target d.args):Sem Next).run P w=(Instr.yield l (c.args.map ρ')).run P w:=by
 simp [resolve,hb,hg,Deferred.ofValue,invoke]
theorem wp_round {l:Nat} {fr:FuncId} {tmps:Array Value} {asg body:Code} {w':World} (hd:∀ c,o.op≠.defer c) (h:(execOp a.eval o).run C.P w=.ok (.round l fr tmps asg body) w') {T:Ending→World→Prop} (hc:∀ n,RoundIn (FW ρ) n C.P l fr tmps asg body w' T)
  (hT:∀ e w'',T e w''→match e with | .returned v=>next (a.put o.dst v) w'' | .panicked ch=>Q (.panic ch) a w'' | .outgrown=>False):o.wpIn (FW ρ) n C.P a w next Q:=by
 refine ⟨fun _ _=>trivial,?_⟩
 rw [Oper.semAt_eq _ _ _ hd,h,Oper.uponIn_round]
 refine ⟨fun h=>(by simp [FW,Fence.wide] at h),?_⟩
 refine RoundIn.mono (R:=T) (hc (n-1)) (fun e w'' he=>?_)
 have:=hT e w'' he
 cases e with
 | returned v=>exact this
 | panicked ch=>exact this
 | outgrown=>exact this.elim
theorem op_call {c:Call} {g0:Operand} (hvb:VbSound C vb) (ho:o.op=.call c) (hb:c.callee=.value g0) (h:vop C vb f o st k kp=some out) (hR:R B τ g st a w) (hk:Goes B τ g a w o.dst k out next) (hp:Pans B τ g a w kp out Q):o.wpIn (FW ρ) n C.P a w next Q:=by
 unfold vop at h
 rw [ho] at h
 dsimp only at h
 rw [hb] at h
 dsimp only at h
 split at h
 ·rename_i gf first caps hg0
  obtain ⟨dx,hx⟩:=peek_rep hR g0
  rw [hg0] at hx
  obtain ⟨first',caps',hge,hfl,hcl,hfr,hcr⟩:=hx
  obtain ⟨g1,l1,R1,hrep⟩:=uses_sound c.args.toList hR
  have hall:Al (fun c u=>isLin3 c=false∧∀ τ d,RepS g1 τ d c u) (first++c.args.toList.map st.useV++caps) (first'.toList++c.args.toList.map a.eval++caps'.toList):=by
   refine Al.append (Al.append ⟨by simpa using hfl,fun j v u hv hu=>?_⟩ ⟨by simp,fun j v u hv hu=>?_⟩) ⟨by simpa using hcl,fun j v u hv hu=>?_⟩
   ·rw [Array.getElem?_toList] at hu
    obtain ⟨hj,rfl⟩:=Array.getElem?_eq_some_iff.1 hu
    have:=(hfr j v hj hv).mono l1.mem l1.loc
    exact ⟨(repP_repS (τ:=0) (d:=0) this).1,fun τ d=>(repP_repS this).2⟩
   ·rw [List.getElem?_map] at hv hu
    obtain ⟨x,hx,rfl⟩:=Option.map_eq_some_iff.1 hv
    rw [hx] at hu
    cases hu
    exact ⟨demote_lin,hrep j x hx⟩
   ·rw [Array.getElem?_toList] at hu
    obtain ⟨hj,rfl⟩:=Array.getElem?_eq_some_iff.1 hu
    have:=(hcr j v hj hv).mono l1.mem l1.loc
    exact ⟨(repP_repS (τ:=0) (d:=0) this).1,fun τ d=>(repP_repS this).2⟩
  have hus:(first'.toList++c.args.toList.map a.eval++caps'.toList).toArray=first'++c.args.map a.eval++caps':=by
   rw [←Array.toList_inj];simp
  split at h
  ·cases h
  rename_i hyb
  have hyb:gf<yBase:=Nat.lt_of_not_le hyb
  have hrun:∀ r,(∃ args h,vb gf args h=some r)→(execOp a.eval o).run C.P w=.ok (.enter gf (first'++c.args.map a.eval++caps')) w:=by
   intro r ⟨args,h,hv⟩
   obtain ⟨fn,cd,h1,h2,h3⟩:=hvb.fn gf args h r hv hyb
   have:=run_call (t:=o.type) hb hge h1 h2 h3 w
   simp only [execOp,ho]
   exact this
  split at h
  ·-- nothing of the caller's heap
   rename_i hflat
   obtain ⟨r,hr,h⟩:=bindO_eq h
   cases hext:vext C.P gf (first++c.args.toList.map st.useV++caps) with
   | some v =>
    unfold vbx at hr
    rw [hext] at hr
    cases hr
    dsimp only at h
    obtain ⟨u,hu1,hu2,hfl2⟩:=vext_sound hext (m:=g1.mem) (us:=first'++c.args.map a.eval++caps') (by
     rw [←hus]
     refine Al.argsI (hall.mono (fun x u hx hxu=>?_))
     rw [Bool.and_eq_true] at hflat
     have hflat:=hflat.1
     rw [List.all_eq_true] at hflat
     exact repS_flat2 (hflat x hx) (hxu.2 0 0)) w
    have hrun:(execOp a.eval o).run C.P w=.ok (.value u) w:=by
     simp only [execOp,ho]
     rw [run_callX (t:=o.type) hb hge w]
     exact hu1
    split at h
    ·rename_i d hd
     split at h
     ·split at h
      ·rename_i v2 h2 hth
       rcases thaw1_cases hth with ⟨n1,xs,rfl,_⟩ | ⟨rfl,rfl,_⟩
       ·simp [flat2,flat1,flat0] at hfl2
       ·rcases condB_cases h with ⟨_,h⟩ | ⟨_,h⟩
        ·cases h
        ·exact wp_value (by simp [ho]) hrun (hk _ _ g1 u w l1 R1 (by rw [hd];exact flat2_repS hfl2 hu2) h)
      ·cases h
     ·exact wp_value (by simp [ho]) hrun (hk v _ g1 u w l1 R1 (by rw [hd];exact flat2_repS hfl2 hu2) h)
    ·rename_i hd
     exact wp_value (by simp [ho]) hrun (hk .undef _ g1 u w l1 R1 trivial h)
   | none =>
   have hr:vb gf (first++c.args.toList.map st.useV++caps) []=some r:=by unfold vbx at hr;rw [hext] at hr;exact hr
   have hcall:=fun n=>hvb.pure_ gf _ r hr hyb hflat n (first'++c.args.map a.eval++caps') w g1.mem R1.mem (by
    rw [←hus]
    refine Al.argsI (hall.mono (fun x u hx hxu=>?_))
    rw [Bool.and_eq_true] at hflat
    have hflat:=hflat.1
    rw [List.all_eq_true] at hflat
    exact repS_flat2 (hflat x hx) (hxu.2 0 0))
   refine wp_enter (fn:=default) (c:=default) (by simp [ho]) (hrun r ⟨_,_,hr⟩) hcall (fun e w'' he=>?_)
   obtain ⟨g',hout,hloc,hbel,hm,hold,hmo,hlo⟩:=he
   cases r with
   | ret v hh =>
    obtain ⟨u,rfl,hrv⟩:=hout
    dsimp only at h ⊢
    split at h
    ·rename_i d hd
     rw [hd]
     obtain ⟨l2,R2⟩:=merge_sound R1 d hbel hm hold hmo hlo
     have hv2:=merge_val (g:=g1) (τ:=τ) (d:=d) hloc hlo hrv
     split at h
     ·split at h
      ·rename_i v' h' hth
       rcases condB_cases h with ⟨_,h⟩ | ⟨hfree,h⟩
       ·cases h
       ·rcases thaw1_cases hth with ⟨n1,xs,rfl,hs1,rfl,rfl⟩ | ⟨rfl,rfl,_⟩
        ·obtain ⟨g3,l3,R3,hr3⟩:=thaw_sound R2 (by rw [←C.isP];exact hs1) hv2 (getS_free hfree)
         have:=hk _ _ g3 u w'' ((l1.trans l2).trans l3) R3 (by rw [hd];exact hr3) h
         rw [hd] at this;exact this
        ·have:=hk _ _ _ u w'' (l1.trans l2) R2 (by rw [hd];exact hv2) h
         rw [hd] at this;exact this
      ·cases h
     ·have:=hk v _ _ u w'' (l1.trans l2) R2 (by rw [hd];exact hv2) h
      rw [hd] at this;exact this
    ·rename_i hd
     rw [hd]
     obtain ⟨l2,R2⟩:=merge_sound R1 0 hbel hm hold hmo hlo
     have:=hk .undef _ _ u w'' (l1.trans l2) R2 trivial h
     rw [hd] at this;exact this
   | pan v hh =>
    obtain ⟨u,rfl,hnl,hrv⟩:=hout
    obtain ⟨l2,R2⟩:=merge_sound R1 0 hbel hm hold hmo hlo
    exact hp v _ _ u w'' 0 (l1.trans l2) R2 hnl (merge_val hloc hlo hrv) h
  ·rename_i hflat
   obtain ⟨r,hr,h⟩:=bindO_eq h
   have hcall:=fun n=>hvb.heap gf _ _ r hr hyb (by unfold pureOf;exact eq_false_of_ne_true hflat) n (first'++c.args.map a.eval++caps') w B g1 R1.heap R1.mem R1.lin R1.base (by
    rw [←hus]
    exact Al.argsS hall)
   refine wp_enter (fn:=default) (c:=default) (by simp [ho]) (hrun r ⟨_,_,hr⟩) hcall (fun e w'' he=>?_)
   obtain ⟨g',hout,hnl,hbel,hm,hold,hlc,hli,hho,hmo,hlo⟩:=he
   have l2:Later B τ g1 g' w w'':=⟨hbel,hm,hold,hlc,fun b i hi ⟨τ',x,j,k,hq,_⟩=>hli b i hi ⟨τ',x,j,k,hq⟩⟩
   have R2:dfKeep (st.useAll c.args.toList).df r.heap=true→R B τ g' {(st.useAll c.args.toList) with h:=r.heap} a w'':=fun hkeep =>
    ⟨R1.size,fun i v hi hv=>(R1.slots i v hi hv).mono hm hlc (fun j k b x hx hp=>hli b x hx ⟨_,_,_,_,hp⟩),hho,hmo,hlo,Nat.le_trans R1.base hbel.size,R1.defers.keep hm hlc hkeep⟩
   cases r with
   | ret v hh =>
    obtain ⟨u,rfl,hrv⟩:=hout
    rcases condB_cases h with ⟨hkeep,h⟩ | ⟨_,h⟩
    ·exact hk v _ g' u w'' (l1.trans l2) (R2 hkeep) (hrv.any hnl) h
    ·cases h
   | pan v hh =>
    obtain ⟨u,rfl,hnl',hrv⟩:=hout
    rcases condB_cases h with ⟨hkeep,h⟩ | ⟨_,h⟩
    ·exact hp v _ g' u w'' 0 (l1.trans l2) (R2 hkeep) hnl' (hrv.any hnl') h
    ·cases h
 ·-- a round
  rename_i id hg0
  obtain ⟨dx,hx⟩:=peek_rep hR g0
  rw [hg0] at hx
  obtain ⟨l,hl,hge⟩:=hx
  have hge:a.eval g0=.func (.yield l) #[] #[]:=hge
  obtain ⟨g1,l1,R1,hrep⟩:=uses_sound c.args.toList hR
  have hall:Al (fun c u=>isLin3 c=false∧∀ τ d,RepS g1 τ d c u) (c.args.toList.map st.useV) (c.args.toList.map a.eval):=by
   refine ⟨by simp,fun j v u hv hu=>?_⟩
   rw [List.getElem?_map] at hv hu
   obtain ⟨x,hx,rfl⟩:=Option.map_eq_some_iff.1 hv
   rw [hx] at hu
   cases hu
   exact ⟨demote_lin,hrep j x hx⟩
  have hus:(c.args.toList.map a.eval).toArray=c.args.map a.eval:=by
   rw [←Array.toList_inj];simp
  obtain ⟨r,hr,h⟩:=bindO_eq h
  have hcall:=fun n=>hvb.round id _ _ r hr ρ n (c.args.map a.eval) w B g1 l R1.heap R1.mem R1.lin R1.base (by
   rw [←hus]
   exact Al.argsS hall) (l1.loc _ _ hl)
  obtain ⟨fr,tmps,asg,body,hy,_⟩:=hcall 0
  have hc:∀ n,RoundIn (FW ρ) n C.P l fr tmps asg body w (HeapOut B g1 w r):=fun n=>by
   obtain ⟨fr',tmps',asg',body',hy',hr'⟩:=hcall n
   rw [hy] at hy'
   cases hy'
   exact hr'
  refine wp_round (by simp [ho]) (by simp only [execOp,ho];rw [run_callY hb hge w];exact hy) hc (fun e w'' he=>?_)
  obtain ⟨g',hout,hnl,hbel,hm,hold,hlc,hli,hho,hmo,hlo⟩:=he
  have l2:Later B τ g1 g' w w'':=⟨hbel,hm,hold,hlc,fun b i hi ⟨τ',x,j,k,hq,_⟩=>hli b i hi ⟨τ',x,j,k,hq⟩⟩
  have R2:dfKeep (st.useAll c.args.toList).df r.heap=true→R B τ g' {(st.useAll c.args.toList) with h:=r.heap} a w'':=fun hkeep =>
   ⟨R1.size,fun i v hi hv=>(R1.slots i v hi hv).mono hm hlc (fun j k b x hx hp=>hli b x hx ⟨_,_,_,_,hp⟩),hho,hmo,hlo,Nat.le_trans R1.base hbel.size,R1.defers.keep hm hlc hkeep⟩
  cases r with
  | ret v hh =>
   obtain ⟨u,rfl,hrv⟩:=hout
   rcases condB_cases h with ⟨hkeep,h⟩ | ⟨_,h⟩
   ·exact hk v _ g' u w'' (l1.trans l2) (R2 hkeep) (hrv.any hnl) h
   ·cases h
  | pan v hh=>cases h
 ·cases h
end
end Go.Fw
namespace Go.Fw
open Go.RowKit
section
variable {C:Cx} {vb:FuncId→List V→List Blk→Option FOut} {f:FuncId} {ρ:Option Nat} {n:Nat} {o:Oper} {st:St} {α:Type} {k kp:V→St→Option α} {out:α}
 {B τ:Nat} {g:Gh} {a:Act} {w:World} {next:Act→World→Prop} {Q:Exit→Act→World→Prop}
theorem wp_pan {P:Program} (hd:∀ c,o.op≠.defer c) {v:Value} {w':World} (h:(execOp a.eval o).run P w=.halt (.panic v) w') (k:Q (.panic [{v:=v,recovered:=false}]) a w'):o.wpIn (FW ρ) n P a w next Q:=by
 refine ⟨fun _ _=>trivial,?_⟩
 rw [Oper.semAt_eq _ _ _ hd,h]
 exact k
theorem op_panic {x:Operand} (ho:o.op=.panic x) (h:vop C vb f o st k kp=some out) (hR:R B τ g st a w) (hp:Pans B τ g a w kp out Q):o.wpIn (FW ρ) n C.P a w next Q:=by
 unfold vop at h
 rw [ho] at h
 dsimp only at h
 split at h
 ·rename_i t v hpx
  obtain ⟨d,hx⟩:=peek_rep hR x
  rw [hpx] at hx
  have hx':RepI g.mem (.iface t v) (a.eval x):=hx
  have:∃ u,a.eval x=.iface t u:=by
   generalize a.eval x=y at hx'
   cases hx' with
   | iface _ _ u=>exact ⟨u,rfl⟩
  obtain ⟨u,hu⟩:=this
  refine wp_pan (by simp [ho]) (v:=a.eval x) (w':=w) ?_ (hp _ st g (a.eval x) w d (Later.refl ..) hR rfl (by exact hx) h)
  simp [execOp,ho,Instr.panic,hu,goPanic,Sem.run]
 ·cases h
theorem op_range {t:TypeId} {x:Operand} (ho:o.op=.range t x) (h:vop2 C.P o st k=some out) (hR:R B τ g st a w) (hk:Goes B τ g a w o.dst k out next):o.wpIn (FW ρ) n C.P a w next Q:=by
 unfold vop2 at h
 rw [ho] at h
 dsimp only at h
 split at h
 ·rename_i s ht hs
  obtain ⟨d,hx⟩:=peek_rep hR x
  rw [hs] at hx
  have hu:a.eval x=.string s:=by
   have hx:RepI g.mem (.str s) (a.eval x):=hx
   generalize a.eval x=u at hx ⊢
   cases hx;rfl
  obtain ⟨g',l1,R1,q1,q2,q3,q4⟩:=new_obj hR (.iter s 0) (.stringIter s 0) rfl
  refine wp_value (by simp [ho]) (v:=.pointer (some ⟨w.heap.size,0,none⟩)) (w':=w.alloc (.stringIter s 0)) ?_ (hk (.ptr st.h.length 0) _ g' _ _ l1 R1 ⟨_,q1,rfl⟩ h)
  simp [execOp,ho,Instr.range,run_underlying ht,hu]
 ·cases h
theorem run_getIter {P:Program} {w:World} {r:Nat} {s:ByteArray} {p:Nat} (h:w.heap[r]?=some (.stringIter s p)):(getObj r).run P w=.ok (.stringIter s p) w:=by
 simp [getObj,Sem.run,h]
theorem run_setIter {P:Program} {w:World} {r:Nat} {s:ByteArray} {p:Nat} {o:Obj} (h:w.heap[r]?=some (.stringIter s p)):(setObj r o).run P w=.ok () (w.putObj r o):=by
 simp [setObj,Sem.run,h,World.putObj]
theorem run_getMap {P:Program} {w:World} {r:Nat} {es:Array MapEntry} {c:Nat} (h:w.heap[r]?=some (.map es c)):(getObj r).run P w=.ok (.map es c) w:=by
 simp [getObj,Sem.run,h]
theorem run_setMap {P:Program} {w:World} {r:Nat} {es:Array MapEntry} {c:Nat} {o:Obj} (h:w.heap[r]?=some (.map es c)):(setObj r o).run P w=.ok () (w.putObj r o):=by
 simp [setObj,Sem.run,h,World.putObj]
theorem below_put {b:Nat} {o:Obj} (h:B≤b):Below B w (w.putObj b o) :=
 ⟨rfl,rfl,rfl,by simp,fun k hk=>World.putObj_heap_other (by omega)⟩
theorem op_next {x:Operand} (ho:o.op=.next x true) (h:vop2 C.P o st k=some out) (hR:R B τ g st a w) (hk:Goes B τ g a w o.dst k out next):o.wpIn (FW ρ) n C.P a w next Q:=by
 unfold vop2 at h
 rw [ho] at h
 dsimp only at h
 split at h
 ·rename_i id hp
  split at h
  ·rename_i s p hs
   obtain ⟨d,hx⟩:=peek_rep hR x
   rw [hp] at hx
   obtain ⟨b,hb,hu⟩:=rep_ptr hx
   obtain ⟨ob,ho1,ho2⟩:=hR.heap.blkO id b _ hb hs
   have ho2:ob=.stringIter s p:=ho2
   subst ho2
   have hlt:=(hR.heap.fresh id b hb).2.1
   rcases condB_cases h with ⟨hc,h⟩ | ⟨hc,h⟩
   ·have hc:p<s.size:=by simpa using hc
    obtain ⟨l1,R1⟩:=write_obj (x':=.iter s (p+(Utf8.decode s p).2)) (o':=.stringIter s (p+(Utf8.decode s p).2)) (w':=w.putObj b (.stringIter s (p+(Utf8.decode s p).2))) hR hb hs rfl rfl (World.putObj_heap_same hlt)
     (below_put (hR.heap.fresh id b hb).1) (fun c hc=>World.putObj_heap_other hc) World.putObj_size rfl (fun cur e fr h0=>by rw [ho1] at h0;cases h0)
    refine wp_value (by simp [ho]) (v:=.tuple #[.bool true,.int .i64 p,.int .i32 (Utf8.decode s p).1]) (w':=w.putObj b (.stringIter s (p+(Utf8.decode s p).2))) ?_ (hk (.tup [.bool true,.int .i64 p,.int .i32 (Utf8.decode s p).1]) _ g _ _ l1 R1 ⟨_,rfl,rfl,fun j c hj hcj=>?_⟩ h)
    ·simp [execOp,ho,Instr.next,hu,run_getIter ho1,run_setIter ho1,hc,goInt]
    ·match j,hj with
     | 0,_=>cases hcj;exact RepI.bool _
     | 1,_=>cases hcj;exact RepI.int _ _
     | 2,_=>cases hcj;exact RepI.int _ _
   ·have hc:¬p<s.size:=by simpa using hc
    refine wp_value (by simp [ho]) (v:=.tuple #[.bool false]) (w':=w) ?_ (hk (.tup [.bool false]) _ g _ _ (Later.refl ..) hR ⟨_,rfl,rfl,fun j c hj hcj=>?_⟩ h)
    ·simp [execOp,ho,Instr.next,hu,run_getIter ho1,hc]
    ·match j,hj with
     | 0,_=>cases hcj;exact RepI.bool _
  ·cases h
 ·cases h
theorem op_makeMap {t:TypeId} {r:Option Operand} (ho:o.op=.makeMap t r) (h:vop2 C.P o st k=some out) (hR:R B τ g st a w) (hk:Goes B τ g a w o.dst k out next):o.wpIn (FW ρ) n C.P a w next Q:=by
 obtain ⟨g',l1,R1,q1,q2,q3,q4⟩:=new_obj hR (.mp []) (.map #[] 0) ⟨#[],0,rfl,rfl,fun j k v hj=>absurd hj (by simp)⟩
 unfold vop2 at h
 cases r with
 | none =>
  rw [ho] at h
  dsimp only at h
  refine wp_value (by simp [ho]) (v:=.map (some w.heap.size)) (w':=w.alloc (.map #[] 0)) ?_ (hk (.obj 0 st.h.length) _ g' _ _ l1 R1 ⟨_,q1,rfl⟩ h)
  simp [execOp,ho,Instr.makeMap]
 | some x =>
  rw [ho] at h
  dsimp only at h
  split at h
  ·rename_i kt et kk i ht hp
   obtain ⟨d,hx⟩:=peek_rep hR x
   rw [hp] at hx
   have hu:=rep_int hx
   refine wp_value (by simp [ho]) (v:=.map (some w.heap.size)) (w':=w.alloc (.map #[] 0)) ?_ (hk (.obj 0 st.h.length) _ g' _ _ l1 R1 ⟨_,q1,rfl⟩ h)
   simp [execOp,ho,Instr.makeMap,run_underlying ht,hu,asInt,asIntOf]
  ·cases h
/-! ### maps -/
theorem toVal1_rep {m:Mem} {v:V} {u:Value} (h:RepI m v u) {x:Value} (hx:toVal1 v=some x):u=x:=by
 cases h<;>simp only [toVal1,Option.some.injEq,reduceCtorEq] at hx<;>first | exact hx | cases hx
theorem peek_val (hR:R B τ g st a w) {x:Operand} {u:Value} (h:toVal1 (st.peek x)=some u):a.eval x=u:=by
 obtain ⟨d,hx⟩:=peek_rep hR x
 generalize st.peek x=v at h hx
 have hc:RepI g.mem v (a.eval x):=by
  cases v<;>first | (simp only [toVal1,reduceCtorEq] at h;done) | exact hx
 exact toVal1_rep hc h
theorem ba_eq {a b:ByteArray} (h:(a==b)=true):a=b:=by
 cases a with | mk x =>
 cases b with | mk y =>
 have:(x==y)=true:=h
 rw [beq_iff_eq] at this
 rw [this]
theorem ba_refl (a:ByteArray):(a==a)=true:=by
 cases a with | mk x =>
 show (x==x)=true
 simp
theorem flat0_flat2 {v:V} (h:flat0 v=true):flat2 v=true:=by
 cases v<;>simp only [flat0,Bool.false_eq_true] at h<;>first | rfl | skip
 simp only [Bool.and_eq_true,List.isEmpty_iff] at h
 obtain ⟨rfl,rfl⟩:=h
 rfl
theorem run_mkIface {P:Program} {w:World} {t:TypeId} {x:Value} {td:TypeDesc} (ht:P.underlying t=some td) (hni:∀ q,td=.interface q→False):(Instr.makeInterface t x).run P w=.ok (.iface t x) w:=by
 unfold Instr.makeInterface
 simp only [Sem.run_bind,run_underlying ht,Result.andThen_ok]
 cases td<;>first | rfl | exact (hni _ rfl).elim
theorem sameNow_kind {kd:TypeDesc} {u v:Value} (h:Instr.sameNow kd u v=some true):u=v∧((∃ k n,kd=.int k∧∃ k',u=.int k' n)∨(∃ s,kd=.string∧u=.string s)∨(∃ b,kd=.bool∧u=.bool b)):=by
 unfold Instr.sameNow at h
 split at h
 ·split at h
  ·rename_i hk
   simp only [Option.some.injEq,beq_iff_eq] at h
   subst hk;subst h
   exact ⟨rfl,.inl ⟨_,_,rfl,_,rfl⟩⟩
  ·cases h
 ·simp only [Option.some.injEq] at h
  have h:=ba_eq h
  subst h
  exact ⟨rfl,.inr (.inl ⟨_,rfl,rfl⟩)⟩
 ·simp only [Option.some.injEq,beq_iff_eq] at h
  subst h
  exact ⟨rfl,.inr (.inr ⟨_,rfl,rfl⟩)⟩
 ·cases h
theorem sameBits_of {kd:TypeDesc} {u v:Value} (h:Instr.sameNow kd u v=some true):Instr.sameBits 10000 v u=true:=by
 obtain ⟨rfl,⟨k,n,_,k',rfl⟩ | ⟨s,_,rfl⟩ | ⟨b,_,rfl⟩⟩:=sameNow_kind h
 ·simp [Instr.sameBits]
 ·simp [Instr.sameBits,ba_refl]
 ·simp [Instr.sameBits]
theorem run_checkKey {P:Program} {kt:TypeId} {kd:TypeDesc} {u:Value} (ht:P.underlying kt=some kd) (h:Instr.sameNow kd u u=some true) (b:Bool):(Instr.checkKey b 10000 kt u).run P w=.ok () w:=by
 obtain ⟨_,⟨k,n,rfl,k',rfl⟩ | ⟨s,rfl,rfl⟩ | ⟨b,rfl,rfl⟩⟩:=sameNow_kind h
 all_goals
  unfold Instr.checkKey
  simp [run_underlying ht]
theorem findV_now {kd:TypeDesc} {kv:Value} {ents:List MapEntry} {es:List (V×V)} (hl:es.length=ents.length) (hk:∀ (j:Nat) (kx v:V) (h:j<ents.length),es[j]?=some (kx,v)→toVal1 kx=some ents[j].key) {i:Nat} {r:Option (Nat×V)} (h:findV kd kv es i=some r) :
  ∃ r',Instr.findNow kd kv ents i=some r'∧(match r,r' with
   | none,none=>True
   | some (j,v),some (j',u)=>j=j'∧i≤j∧∃ (hj:j-i<ents.length),es[j-i]?=some (((es[j-i]?).map (·.1)).getD .undef,v)∧ents[j-i].val=u∧Instr.sameNow kd kv ents[j-i].key=some true
   | _,_=>False):=by
 induction es generalizing ents i with
 | nil =>
  have:ents=[]:=List.eq_nil_of_length_eq_zero hl.symm
  subst this
  cases h
  exact ⟨none,rfl,trivial⟩
 | cons e es ih =>
  cases ents with
  | nil=>cases hl
  | cons x ents =>
   unfold findV at h
   have h0:=hk 0 e.1 e.2 (by simp) rfl
   rw [h0] at h
   simp only [List.getElem_cons_zero,Option.bind_some] at h
   unfold Instr.findNow
   split at h
   ·rename_i hs
    cases h
    rw [hs]
    exact ⟨_,rfl,rfl,Nat.le_refl _,by simp,by simp,by simp,by simpa using hs⟩
   ·rename_i hs
    rw [hs]
    obtain ⟨r',h1,h2⟩:=ih (ents:=ents) (i:=i+1) (by simpa using hl) (fun j kx v hj he=>by
     have:=hk (j+1) kx v (by simpa using hj) (by simpa using he)
     simpa using this) h
    refine ⟨r',h1,?_⟩
    cases r with
    | none=>cases r'<;>exact h2
    | some q =>
     cases r' with
     | none=>exact h2
     | some q' =>
      obtain ⟨j,v⟩:=q
      obtain ⟨j',u⟩:=q'
      obtain ⟨rfl,h3,h4,h5,h6,h7⟩:=h2
      have ej:j-i=j-(i+1)+1:=by omega
      refine ⟨rfl,by omega,by simp;omega,?_,?_,?_⟩
      ·rw [ej];simpa using h5
      ·simp only [ej];simpa using h6
      ·simp only [ej];simpa using h7
   ·cases h
theorem map_block (hR:R B τ g st a w) {m:Operand} {id:Nat} {es:List (V×V)} (hm:st.peek m=.obj 0 id) (hes:st.h[id]?=some (.mp es)) :
  ∃ (b:Nat) (ents:Array MapEntry) (clock:Nat),g.loc id=some b∧a.eval m=.map (some b)∧w.heap[b]?=some (.map ents clock)∧es.length=ents.size∧∀ (j:Nat) (k v:V) (h:j<ents.size),es[j]?=some (k,v)→toVal1 k=some ents[j].key∧isLin2 v=false∧okV v=true∧∀ pl,RepA g pl v ents[j].val:=by
 obtain ⟨d,hx⟩:=peek_rep hR m
 rw [hm] at hx
 obtain ⟨b,hb,hu⟩:=hx
 obtain ⟨o,h1,ents,clock,rfl,h2,h3⟩:=hR.heap.blkO id b _ hb hes
 exact ⟨b,ents,clock,hb,hu,h1,h2,h3⟩
theorem op_lookup {t:TypeId} {m kx:Operand} {ok:Bool} (ho:o.op=.lookup t m kx ok) (h:vop2 C.P o st k=some out) (hR:R B τ g st a w) (hk:Goes B τ g a w o.dst k out next):o.wpIn (FW ρ) n C.P a w next Q:=by
 unfold vop2 at h
 rw [ho] at h
 dsimp only at h
 split at h
 ·rename_i kt et id kv hu hm hkv
  split at h
  ·rename_i kd es z hkd hes hz
   rcases condB_cases h with ⟨hc,h⟩ | ⟨_,h⟩
   ·simp only [Bool.and_eq_true,beq_iff_eq] at hc
    obtain ⟨hsame,hokz⟩:=hc
    obtain ⟨b,ents,clock,hb,hme,hhp,hl,hent⟩:=map_block hR hm hes
    have hke:=peek_val hR hkv
    obtain ⟨it,zv,hit,hzv,rfl⟩:=zeroT_eq hz
    have hzr:(zeroValue et).run C.P w=.ok zv w:=by simp [zeroValue,typeInfo,hit,hzv]
    have hzrep:∀ pl,RepA g pl (ofVal zv) zv:=by
     intro pl
     have:=ofVal_rep g 0 0 zv
     have hnt:∀ vs,ofVal zv≠.tup vs:=fun vs e=>by rw [e] at hokz;cases hokz
     rw [repS_notTup hnt] at this
     exact this.any (by have:=isLin_ofVal zv;rw [isLin3_one hnt] at this;exact this)
    have fin:∀ (v:V) (u:Value) (bb:Bool),isLin2 v=false→okV v=true→(∀ pl,RepA g pl v u)→(Instr.lookup t (.map (some b)) kv ok).run C.P w=.ok (if ok then .tuple #[u,.bool bb] else u) w→(if ok then k (.tup [v,.bool bb]) st else k v st)=some out→o.wpIn (FW ρ) n C.P a w next Q:=by
     intro v u bb hv hok hrep hrun h
     have hnt:∀ vs,v≠.tup vs:=fun vs e=>by rw [e] at hok;cases hok
     cases ok with
     | true =>
      refine wp_value (by simp [ho]) (v:=.tuple #[u,.bool bb]) (w':=w) (by simp only [execOp,ho,hme,hke];exact run_v hrun) (hk (.tup [v,.bool bb]) _ g _ _ (Later.refl ..) hR ⟨_,rfl,rfl,fun j c hj hcj=>?_⟩ h)
      match j,hj with
      | 0,_=>cases hcj;exact hrep _
      | 1,_=>cases hcj;exact RepI.bool _
     | false =>
      refine wp_value (by simp [ho]) (v:=u) (w':=w) (by simp only [execOp,ho,hme,hke];exact run_v hrun) (hk v _ g _ _ (Later.refl ..) hR ?_ h)
      rw [repS_notTup hnt]
      exact hrep _
    split at h
    ·rename_i hf
     obtain ⟨r',h1,h2⟩:=findV_now (ents:=ents.toList) (by simpa using hl) (fun j kx v hj he=>by
      have:=(hent j kx v (by simpa using hj) he).1
      simpa using this) hf
     cases r' with
     | some q=>exact h2.elim
     | none =>
      refine fin (ofVal zv) zv false (by have:=isLin_ofVal zv;rw [isLin3_one (fun vs e=>by rw [e] at hokz;cases hokz)] at this;exact this) hokz hzrep ?_ h
      simp [Instr.lookup,run_underlying hu,run_getMap hhp,run_checkKey hkd hsame,Instr.findKey,run_underlying hkd,h1,hzr]
    ·rename_i j v hf
     obtain ⟨r',h1,h2⟩:=findV_now (ents:=ents.toList) (by simpa using hl) (fun j kx v hj he=>by
      have:=(hent j kx v (by simpa using hj) he).1
      simpa using this) hf
     cases r' with
     | none=>exact h2.elim
     | some q =>
      obtain ⟨j',u⟩:=q
      obtain ⟨rfl,_,hj,hej,hval,_⟩:=h2
      simp only [Nat.sub_zero] at hj hej hval
      have hj':j<ents.size:=by simpa using hj
      obtain ⟨_,e2,e3,e4⟩:=hent j _ v hj' hej
      have hvu:ents[j].val=u:=by simpa using hval
      refine fin v u true e2 e3 (by rw [←hvu];exact e4) ?_ h
      simp [Instr.lookup,run_underlying hu,run_getMap hhp,run_checkKey hkd hsame,Instr.findKey,run_underlying hkd,h1]
    ·cases h
   ·cases h
  ·cases h
 ·cases h
theorem op_mapUpdate {t:TypeId} {m kx x:Operand} (ho:o.op=.mapUpdate t m kx x∨o.op=.insert t m kx x) (h:vop2 C.P o st k=some out) (hR:R B τ g st a w) (hk:Goes B τ g a w o.dst k out next):o.wpIn (FW ρ) n C.P a w next Q:=by
 have h:(match C.P.underlying t,st.peek m,toVal1 (st.peek kx) with
  | some (.map kt _),.obj 0 id,some kv=>match C.P.underlying kt,st.h[id]? with
   | some kd,some (.mp es)=>condB ((Instr.sameNow kd kv kv==some true)&&o.dst.isNone&&!isLin2 (st.peek x)&&okV (st.peek x)) (match findV kd kv es 0 with
     | some none=>k .undef {st with h:=st.h.set id (.mp (es++[(st.peek kx,st.peek x)]))}
     | some (some (i,_))=>k .undef {st with h:=st.h.set id (.mp (es.set i (st.peek kx,st.peek x)))}
     | none=>none) none
   | _,_=>none
  | _,_,_=>none)=some out:=by
  unfold vop2 at h
  rcases ho with ho | ho<;>(rw [ho] at h;exact h)
 have hrun0:execOp a.eval o=(do Instr.mapUpdate t (a.eval m) (a.eval kx) (a.eval x);Pure.pure Next.skip):=by
  rcases ho with ho | ho<;>simp [execOp,ho]
 have hdef:∀ c,o.op≠.defer c:=by rcases ho with ho | ho<;>simp [ho]
 split at h
 ·rename_i kt et id kv hu hm hkv
  split at h
  ·rename_i kd es hkd hes
   rcases condB_cases h with ⟨hc,h⟩ | ⟨_,h⟩
   ·simp only [Bool.and_eq_true,beq_iff_eq,Bool.not_eq_true',Option.isNone_iff_eq_none] at hc
    obtain ⟨⟨⟨hsame,hdst⟩,hl2⟩,hokx⟩:=hc
    obtain ⟨b,ents,clock,hb,hme,hhp,hl,hent⟩:=map_block hR hm hes
    have hke:=peek_val hR hkv
    obtain ⟨dx,hx⟩:=peek_rep hR x
    have hnt:∀ vs,st.peek x≠.tup vs:=fun vs e=>by rw [e] at hokx;cases hokx
    rw [repS_notTup hnt] at hx
    have hxr:∀ pl,RepA g pl (st.peek x) (a.eval x):=fun pl=>hx.any hl2
    have hlt:=(hR.heap.fresh id b hb).2.1
    have fin:∀ (es':List (V×V)) (ents':Array MapEntry) (clock':Nat),(Instr.mapUpdate t (.map (some b)) kv (a.eval x)).run C.P w=.ok () (w.putObj b (.map ents' clock'))→es'.length=ents'.size →
      (∀ (j:Nat) (k v:V) (h:j<ents'.size),es'[j]?=some (k,v)→toVal1 k=some ents'[j].key∧isLin2 v=false∧okV v=true∧∀ pl,RepA g pl v ents'[j].val)→k .undef {st with h:=st.h.set id (.mp es')}=some out→o.wpIn (FW ρ) n C.P a w next Q:=by
     intro es' ents' clock' hrun hl' hent' h
     obtain ⟨l1,R1⟩:=write_obj (x':=.mp es') (o':=.map ents' clock') (w':=w.putObj b (.map ents' clock')) hR hb hes rfl rfl (World.putObj_heap_same hlt)
      (below_put (hR.heap.fresh id b hb).1) (fun c hc=>World.putObj_heap_other hc) World.putObj_size ⟨ents',clock',rfl,hl',hent'⟩ (fun cur e fr h0=>by rw [hhp] at h0;cases h0)
     refine wp_skip_ hdef (w':=w.putObj b (.map ents' clock')) (by rw [hrun0,hme,hke];simp [hrun]) ?_
     have:=hk .undef _ g undef _ l1 R1 trivial h
     exact this
    split at h
    ·rename_i hf
     obtain ⟨r',h1,h2⟩:=findV_now (ents:=ents.toList) (by simpa using hl) (fun j kx v hj he=>by
      have:=(hent j kx v (by simpa using hj) he).1
      simpa using this) hf
     cases r' with
     | some q=>exact h2.elim
     | none =>
      refine fin (es++[(st.peek kx,st.peek x)]) (ents.push {key:=kv,val:=a.eval x,born:=clock}) (clock+1) ?_ (by simp [hl]) (fun j k v hj he=>?_) h
      ·simp [Instr.mapUpdate,run_underlying hu,run_getMap hhp,run_checkKey hkd hsame,Instr.findKey,run_underlying hkd,h1,run_setMap hhp]
      ·by_cases hjl:j<ents.size
       ·rw [List.getElem?_append_left (by omega)] at he
        rw [Array.getElem_push_lt hjl]
        exact hent j k v hjl he
       ·have hje:j=ents.size:=by simp at hj;omega
        subst hje
        rw [List.getElem?_append_right (by omega),hl,Nat.sub_self] at he
        cases he
        simp only [Array.getElem_push_eq]
        exact ⟨hkv,hl2,hokx,hxr⟩
    ·rename_i j v hf
     obtain ⟨r',h1,h2⟩:=findV_now (ents:=ents.toList) (by simpa using hl) (fun j kx v hj he=>by
      have:=(hent j kx v (by simpa using hj) he).1
      simpa using this) hf
     cases r' with
     | none=>exact h2.elim
     | some q =>
      obtain ⟨j',u⟩:=q
      obtain ⟨rfl,_,hj,hej,hval,hsm⟩:=h2
      simp only [Nat.sub_zero] at hj hej hval hsm
      have hj':j<ents.size:=by simpa using hj
      have hsm':Instr.sameNow kd kv ents[j].key=some true:=by simpa using hsm
      have hkeep:(Instr.keyThatStays ents[j].key kv).run C.P w=.ok kv w:=by simp [Instr.keyThatStays,sameBits_of hsm']
      refine fin (es.set j (st.peek kx,st.peek x)) (ents.modify j fun e=>{e with key:=kv,val:=a.eval x}) clock ?_ (by simp [hl]) (fun i k v hi he=>?_) h
      ·simp [Instr.mapUpdate,run_underlying hu,run_getMap hhp,run_checkKey hkd hsame,Instr.findKey,run_underlying hkd,h1,run_setMap hhp,hj',hkeep]
      ·have hi':i<ents.size:=by simpa using hi
       by_cases e:j=i
       ·subst e
        rw [List.getElem?_set_self (by omega)] at he
        cases he
        simp only [Array.getElem_modify,if_true]
        exact ⟨hkv,hl2,hokx,hxr⟩
       ·rw [List.getElem?_set_ne e] at he
        simp only [Array.getElem_modify,if_neg e]
        exact hent i k v hi' he
    ·cases h
   ·cases h
  ·cases h
 ·cases h
/-! ### interfaces -/
theorem op_makeInterface {t:TypeId} {x:Operand} (ho:o.op=.makeInterface t x) (h:vop2 C.P o st k=some out) (hR:R B τ g st a w) (hk:Goes B τ g a w o.dst k out next):o.wpIn (FW ρ) n C.P a w next Q:=by
 unfold vop2 at h
 rw [ho] at h
 dsimp only at h
 split at h
 ·cases h
 ·rename_i td hni ht
  rcases condB_cases h with ⟨hc,h⟩ | ⟨_,h⟩
  ·simp only [Bool.and_eq_true] at hc
   obtain ⟨d,hx⟩:=peek_rep hR x
   have hxi:RepI g.mem (st.peek x) (a.eval x):=repS_flat2 (flat0_flat2 hc.1) hx
   refine wp_value (by simp [ho]) (v:=.iface t (a.eval x)) (w':=w) ?_ (hk (.iface t (st.peek x)) _ g _ _ (Later.refl ..) hR (RepI.iface t _ _ hxi) h)
   simp [execOp,ho,run_mkIface ht (fun q e=>hni q e)]
  ·cases h
 ·cases h
theorem repP_repS' {τ d:Nat} {v:V} {u:Value} (h:RepI g.mem v u):isLin3 v=false∧RepS g τ d v u:=by
 have:RepP g v u:=by
  cases v<;>first | exact h | cases h
 exact repP_repS this
theorem cell_or_agg {v:V} {u:Value} (h:RepI g.mem v u):isLin2 v=false∧(∀ vs,v≠.tup vs)∧∀ pl,RepA g pl v u:=by
 obtain ⟨h1,h2⟩:isLin3 v=false∧∀ τ d,RepS g τ d v u:=by
  have:=fun τ d=>repP_repS' (τ:=τ) (d:=d) h
  exact ⟨(this 0 0).1,fun τ d=>(this τ d).2⟩
 have hnt:∀ vs,v≠.tup vs:=fun vs e=>by subst e;cases h
 have hl:isLin2 v=false:=by rw [isLin3_one hnt] at h1;exact h1
 refine ⟨hl,hnt,fun pl=>?_⟩
 have:=h2 0 0
 rw [repS_notTup hnt] at this
 exact this.any hl
theorem zero_rep (g:Gh) {P:Program} {t:TypeId} {z:V} (hz:zeroT P t=some z) (hok:okV z=true) (w:World):∃ zv,(zeroValue t).run P w=.ok zv w∧isLin2 z=false∧∀ pl,RepA g pl z zv:=by
 obtain ⟨it,zv,hit,hzv,rfl⟩:=zeroT_eq hz
 have hnt:∀ vs,ofVal zv≠.tup vs:=fun vs e=>by rw [e] at hok;cases hok
 have hl:isLin2 (ofVal zv)=false:=by have:=isLin_ofVal zv;rw [isLin3_one hnt] at this;exact this
 refine ⟨zv,by simp [zeroValue,typeInfo,hit,hzv],hl,fun pl=>?_⟩
 have:=ofVal_rep g 0 0 zv
 rw [repS_notTup hnt] at this
 exact this.any hl
theorem op_typeAssert {x:Operand} {s t:TypeId} {ok:Bool} (ho:o.op=.typeAssert x s t ok) (h:vop2 C.P o st k=some out) (hR:R B τ g st a w) (hk:Goes B τ g a w o.dst k out next):o.wpIn (FW ρ) n C.P a w next Q:=by
 unfold vop2 at h
 rw [ho] at h
 dsimp only at h
 obtain ⟨dx,hx⟩:=peek_rep hR x
 have holds:∀ (v:V) (u:Value) (bb:Bool),isLin2 v=false→(∀ vs,v≠.tup vs)→(∀ pl,RepA g pl v u)→(Instr.typeAssert (a.eval x) s t ok).run C.P w=.ok (if ok then .tuple #[u,.bool bb] else u) w→(if ok then k (.tup [v,.bool bb]) st else k v st)=some out→o.wpIn (FW ρ) n C.P a w next Q:=by
  intro v u bb hv hnt hrep hrun h
  cases ok with
  | true =>
   refine wp_value (by simp [ho]) (v:=.tuple #[u,.bool bb]) (w':=w) (by simp only [execOp,ho];exact run_v hrun) (hk (.tup [v,.bool bb]) _ g _ _ (Later.refl ..) hR ⟨_,rfl,rfl,fun j c hj hcj=>?_⟩ h)
   match j,hj with
   | 0,_=>cases hcj;exact hrep _
   | 1,_=>cases hcj;exact RepI.bool _
  | false =>
   refine wp_value (by simp [ho]) (v:=u) (w':=w) (by simp only [execOp,ho];exact run_v hrun) (hk v _ g _ _ (Later.refl ..) hR ?_ h)
   rw [repS_notTup hnt]
   exact hrep _
 split at h
 ·cases h
 ·rename_i td z hni ht hp hz
  rcases condB_cases h with ⟨hc,hx1⟩ | ⟨_,hx1⟩
  ·simp only [Bool.and_eq_true] at hc
   obtain ⟨rfl,hokz⟩:=hc
   obtain ⟨zv,h1,h2,h3⟩:=zero_rep g hz hokz w
   have hu:a.eval x=.nilIface:=by
    rw [hp] at hx
    have hx:RepI g.mem .nili (a.eval x):=hx
    generalize a.eval x=u at hx ⊢
    cases hx;rfl
   refine holds z zv false h2 (fun vs e=>by rw [e] at hokz;cases hokz) h3 ?_ hx1
   unfold Instr.typeAssert
   simp only [Sem.run_bind,run_underlying ht,Result.andThen_ok,hu]
   cases td<;>first | exact (hni _ rfl).elim | simp [h1]
  ·cases hx1
 ·rename_i td t' v z hni ht hp hz
  rw [hp] at hx
  have hx:RepI g.mem (.iface t' v) (a.eval x):=hx
  have:∃ u,a.eval x=.iface t' u∧RepI g.mem v u:=by
   generalize a.eval x=y at hx ⊢
   cases hx with
   | iface _ _ u hv=>exact ⟨u,rfl,hv⟩
  obtain ⟨u,hu,hvu⟩:=this
  rcases condB_cases h with ⟨hc,hx1⟩ | ⟨hc,hx1⟩
  ·have hc:t=t':=by simpa using hc
   subst hc
   have hvv:=cell_or_agg hvu
   refine holds v u true hvv.1 hvv.2.1 hvv.2.2 ?_ hx1
   unfold Instr.typeAssert
   simp only [Sem.run_bind,run_underlying ht,Result.andThen_ok,hu]
   cases td<;>first | exact (hni _ rfl).elim | simp
  ·have hc:¬t=t':=by simpa using hc
   rcases condB_cases hx1 with ⟨hc2,hx2⟩ | ⟨_,hx2⟩
   ·simp only [Bool.and_eq_true] at hc2
    obtain ⟨rfl,hokz⟩:=hc2
    obtain ⟨zv,h1,h2,h3⟩:=zero_rep g hz hokz w
    refine holds z zv false h2 (fun vs e=>by rw [e] at hokz;cases hokz) h3 ?_ hx2
    unfold Instr.typeAssert
    simp only [Sem.run_bind,run_underlying ht,Result.andThen_ok,hu]
    have hc':¬t'=t:=fun e=>hc e.symm
    cases td<;>first | exact (hni _ rfl).elim | simp [h1,hc']
   ·cases hx2
 ·cases h
/-! ### builtins -/
theorem peeks2 {xs:Array Operand} {v1 v2:V} (h:xs.toList.map st.peek=[v1,v2]):∃ x1 x2,xs=#[x1,x2]∧st.peek x1=v1∧st.peek x2=v2:=by
 cases xs with | mk l =>
 match l,h with
 | [x1,x2],h=>simp at h;exact ⟨x1,x2,rfl,h.1,h.2⟩
theorem peeks1 {xs:Array Operand} {v1:V} (h:xs.toList.map st.peek=[v1]):∃ x1,xs=#[x1]∧st.peek x1=v1:=by
 cases xs with | mk l =>
 match l,h with
 | [x1],h=>simp at h;exact ⟨x1,rfl,h⟩
theorem op_blt {c:Call} {b:Builtin} (ho:o.op=.call c) (hb:c.callee=.builtin b) (h:vblt C.P b o st c k=some out) (hR:R B τ g st a w) (hk:Goes B τ g a w o.dst k out next):o.wpIn (FW ρ) n C.P a w next Q:=by
 unfold vblt at h
 split at h
 ·rename_i k1 x k2 y hl
  obtain ⟨x1,x2,ea,h1,h2⟩:=peeks2 hl
  obtain ⟨_,e1⟩:=peek_rep hR x1
  obtain ⟨_,e2⟩:=peek_rep hR x2
  rw [h1] at e1;rw [h2] at e2
  have e1:=rep_int e1;have e2:=rep_int e2
  refine wp_value (by simp [ho]) (v:=.int k1 (if y<x then y else x)) (w':=w) ?_ (hk (.int k1 (if y<x then y else x)) _ g _ _ (Later.refl ..) hR (RepI.int _ _) h)
  simp [execOp,ho,resolve,hb,ea,invoke,builtin,e1,e2,Builtin.min_,Builtin.min2]
 ·rename_i k1 x k2 y hl
  obtain ⟨x1,x2,ea,h1,h2⟩:=peeks2 hl
  obtain ⟨_,e1⟩:=peek_rep hR x1
  obtain ⟨_,e2⟩:=peek_rep hR x2
  rw [h1] at e1;rw [h2] at e2
  have e1:=rep_int e1;have e2:=rep_int e2
  refine wp_value (by simp [ho]) (v:=.int k1 (if x<y then y else x)) (w':=w) ?_ (hk (.int k1 (if x<y then y else x)) _ g _ _ (Later.refl ..) hR (RepI.int _ _) h)
  simp [execOp,ho,resolve,hb,ea,invoke,builtin,e1,e2,Builtin.max_,Builtin.max2]
 ·rename_i t hl ht
  have et:c.argTypes=#[t]:=by rw [←Array.toList_inj];exact ht
  split at h
  ·rename_i e he
   have ht:=sliceT he
   obtain ⟨x1,ea,h1⟩:=peeks1 hl
   obtain ⟨_,e1⟩:=peek_rep hR x1
   rw [h1] at e1
   have hu:a.eval x1=.slice none 0 0:=rep_nils e1
   refine wp_value (by simp [ho]) (v:=.int .i64 0) (w':=w) ?_ (hk (.int .i64 0) _ g _ _ (Later.refl ..) hR (RepI.int _ _) h)
   simp [execOp,ho,resolve,hb,ea,et,invoke,builtin,hu,Builtin.cap_,run_underlying ht,goInt]
  ·cases h
 ·rename_i q xs t hl ht
  have et:c.argTypes=#[t]:=by rw [←Array.toList_inj];exact ht
  split at h
  ·rename_i e he
   have ht:=sliceT he
   obtain ⟨x1,ea,h1⟩:=peeks1 hl
   obtain ⟨_,e1⟩:=peek_rep hR x1
   rw [h1] at e1
   have hu:∃ ad,a.eval x1=.slice ad xs.length xs.length:=by
    have e1:RepI g.mem (.imm true q xs) (a.eval x1):=e1
    generalize a.eval x1=u at e1 ⊢
    cases e1 with
    | none0=>exact ⟨_,rfl⟩
    | imm _ _ b off cap esz val q1 q2=>have:=q2 rfl;subst this;exact ⟨_,rfl⟩
   obtain ⟨ad,hu⟩:=hu
   refine wp_value (by simp [ho]) (v:=.int .i64 xs.length) (w':=w) ?_ (hk (.int .i64 xs.length) _ g _ _ (Later.refl ..) hR (RepI.int _ _) h)
   simp [execOp,ho,resolve,hb,ea,et,invoke,builtin,hu,Builtin.cap_,run_underlying ht,goInt]
  ·cases h
 ·rename_i id off len room v2 t t2 hl ht
  have et:c.argTypes=#[t,t2]:=by rw [←Array.toList_inj];exact ht
  obtain ⟨d,x,ea,h1,rfl⟩:=peeks2 hl
  split at h
  ·rename_i sz cs e' hsz hcs
   obtain ⟨e,ht,hm⟩:=bindT hsz
   split at h
   ·rename_i m ys hsrc
    rcases condB_cases h with ⟨hc,h⟩ | ⟨_,h⟩
    ·simp only [Bool.and_eq_true,decide_eq_true_eq] at hc
     obtain ⟨⟨h0,hlen,hfit⟩,hnl⟩:=hc
     have hmi:min (m:Int) (len:Int)=((min m len:Nat):Int):=by omega
     rw [hmi] at h
     obtain ⟨_,hd⟩:=peek_rep hR d
     rw [h1] at hd
     have zero:min m len=0→(∃ ad q,a.eval d=.slice ad len q)→(∃ ad q,a.eval x=.slice ad m q)→o.wpIn (FW ρ) n C.P a w next Q:=by
      rintro hz ⟨ad,q,eu⟩ ⟨ad2,q2,eu2⟩
      have hset:({st with h:=st.h.set id (.cells (setAt cs off (ys.take (min m len*sz))) e')}:St)=st:=by
       rw [hz,Nat.zero_mul,List.take_zero]
       obtain ⟨hlt,hg⟩:=List.getElem?_eq_some_iff.1 hcs
       have:st.h.set id (.cells (setAt cs off []) e')=st.h:=by
        show st.h.set id (.cells cs e')=st.h
        rw [←hg];exact List.set_getElem_self hlt
       rw [this]
      refine wp_value (by simp [ho]) (v:=.int .i64 ((min m len:Nat):Int)) (w':=w) ?_ (hk (.int .i64 ((min m len:Nat):Int)) {st with h:=st.h.set id (.cells (setAt cs off (ys.take (min m len*sz))) e')} g _ _ (Later.refl ..) (by rw [hset];exact hR) (show RepI _ (.int .i64 ((min m len:Nat):Int)) _ from RepI.int _ _) h)
      have hmin:Nat.min m len=0:=hz
      cases ad<;>cases ad2<;>simp [execOp,ho,resolve,hb,ea,et,invoke,builtin,eu,eu2,Builtin.copy_,run_underlying ht,sizeT_some hm w,Builtin.lenOf,hmin,Builtin.firstCells,loadCells,loadCellsFrom,storeCells,goInt,hz]
     have hsx:∃ ad q,a.eval x=.slice ad m q:=by
      obtain ⟨dx,hx⟩:=peek_rep hR x
      unfold ownSrc at hsrc
      split at hsrc
      ·rename_i id2 off2 len2 room2 hpx
       split at hsrc
       ·injection hsrc with hsrc
        injection hsrc with h1 h2
        subst h1
        rw [hpx] at hx
        rcases hx with ⟨b,cap,_,eu,_⟩ | ⟨h3,_,ad,eu⟩
        ·exact ⟨_,_,eu⟩
        ·exact ⟨ad,0,by rw [h3];exact eu⟩
       ·cases hsrc
      ·rename_i fl q ws hpx
       split at hsrc
       ·injection hsrc with hsrc
        injection hsrc with h1 h2
        subst h1
        rw [hpx] at hx
        have hx:RepI g.mem (.imm fl q ws) (a.eval x):=hx
        generalize a.eval x=u at hx ⊢
        cases hx<;>exact ⟨_,_,rfl⟩
       ·cases hsrc
      ·cases hsrc
     rcases hd with ⟨b,cap,hl',eu,hlc,hcm,hrm,hsh⟩ | ⟨rfl,rfl,ad,eu⟩
     ·by_cases hz:min m len=0
      ·exact zero hz ⟨_,_,eu⟩ hsx
      ·have hm0:m≠0:=fun e=>hz (by rw [e];simp)
       obtain ⟨ad,cx,news,hxe,hnl',hcell,hone,hrep⟩:=ownSrc_sound hR hsrc hlen h0 hnl hm0
       obtain ⟨cur,hcur,hlcur,_⟩:=hR.heap.blk id b cs e' hl' hcs
       have hle:min m len*sz≤m*sz:=Nat.mul_le_mul_right _ (Nat.min_le_left _ _)
       have htl:(news.take (min m len*sz)).length=min m len*sz:=by rw [List.length_take,hnl'];omega
       have htly:(ys.take (min m len*sz)).length=min m len*sz:=by rw [List.length_take,hlen];omega
       obtain ⟨l3,R3⟩:=splice_sound hR (o:=off) (ys:=ys.take (min m len*sz)) (news:=news.take (min m len*sz)) hl' hcs hcur (by rw [htl,htly]) (by rw [htly];exact hfit) (fun j c v hc hv=>by
        rw [List.getElem?_take] at hc hv
        split at hc
        ·rename_i hj
         rw [if_pos hj] at hv
         exact hrep _ j c v hc hv
        ·cases hc)
       refine wp_value (by simp [ho]) (v:=.int .i64 ((min m len:Nat):Int)) (w':=_) ?_ (hk (.int .i64 ((min m len:Nat):Int)) _ g _ _ l3 R3 (RepI.int _ _) h)
       have hfc:=run_firstCells_some (P:=C.P) w sz (min m len) ad m cx (news.take (min m len*sz)) htl (fun j v hj=>by
        rw [List.getElem?_take] at hj
        split at hj
        ·exact hcell j v hj
        ·cases hj)
       have hst:=run_storeCells_at (P:=C.P) b off e' (news.take (min m len*sz)) 0 cur w hcur (by rw [htl];omega) (fun v hv=>hone v (List.mem_of_mem_take hv))
       simp only [Nat.add_zero] at hst
       have hmn:Nat.min m len=min m len:=rfl
       simp [execOp,ho,resolve,hb,ea,et,invoke,builtin,eu,hxe,Builtin.copy_,run_underlying ht,sizeT_some hm w,Builtin.lenOf,hmn,hfc,hst,goInt]
     ·exact zero (by simp) ⟨ad,0,eu⟩ hsx
    ·cases h
   ·cases h
  ·cases h
 ·cases h
/-! ### a text as bytes -/
theorem new_memW (h:R B τ g st a w) {w':World} {cur:Array Value} {e:TypeId} {fr:Nat×Nat} (hbel:Below B w w') (hold:∀ k,k<w.heap.size→w'.heap[k]?=w.heap[k]?) (hnew:w'.heap[w.heap.size]?=some (.cells cur e fr)) :
  Later B τ g (g.addMem w.heap.size cur.toList) w w'∧R B τ (g.addMem w.heap.size cur.toList) st a w':=by
 have hfm:=free_mem h
 have hfl:=free_lin h
 have hget:∀ {b:Nat} {o:Obj},w.heap[b]?=some o→w'.heap[b]?=some o:=fun {b o} hb=>by rw [hold b (Array.getElem?_eq_some_iff.1 hb).1];exact hb
 have hle:MemLe g.mem (g.addMem w.heap.size cur.toList).mem:=by
  refine ⟨fun b cs hb=>?_,fun _ _ h=>h⟩
  unfold Gh.addMem
  dsimp only
  split
  ·rename_i e;subst e;rw [hfm] at hb;cases hb
  ·exact ⟨cs,hb,List.prefix_refl _⟩
 have hne:∀ b,(g.lin b).isSome=true∨(∃ id,g.loc id=some b)→b≠w.heap.size:=by
  rintro b (hb | ⟨id,hb⟩) e
  ·subst e;rw [hfl] at hb;cases hb
  ·have:=(h.heap.fresh id b hb).2.1;omega
 refine ⟨⟨hbel,hle,fun b hb=>?_,fun _ _ h=>h,fun _ _ h _=>h⟩,⟨h.size,fun i v hi hv=>RepS.mono (g:=g) (g':=g.addMem w.heap.size cur.toList) hle (fun _ _ h=>h) (fun _ _ _ _ h _=>h) (h.slots i v hi hv),⟨h.heap.bound,h.heap.inj,?_,?_⟩,⟨?_,fun b cs hb=>glob_le hle (h.mem.glob b cs hb),fun b n e hb=>?_⟩,⟨?_⟩,Nat.le_trans h.base hbel.size,h.defers.mono (g:=g) (g':=g.addMem w.heap.size cur.toList) hle (fun _ _ h=>h) (fun _ h=>h)⟩⟩
 ·unfold Gh.addMem;dsimp only
  rw [if_neg (by have:=h.base;omega)]
 ·intro id b hb
  obtain ⟨h1,h2,h3,h4⟩:=h.heap.fresh id b hb
  refine ⟨h1,Nat.lt_of_lt_of_le h2 hbel.size,?_,h4⟩
  unfold Gh.addMem;dsimp only
  rw [if_neg (hne b (.inr ⟨id,hb⟩))];exact h3
 ·intro id b x hb he
  obtain ⟨o,h1,h2⟩:=h.heap.blkO id b x hb he
  exact ⟨o,hget h1,BlkOk.mono (g:=g) (g':=g.addMem w.heap.size cur.toList) hle (fun _ _ h=>h) (fun _ _ _ h _=>h) h2⟩
 ·intro b cs hb
  unfold Gh.addMem at hb
  dsimp only at hb
  split at hb
  ·rename_i e;subst e;cases hb;exact ⟨cur,_,_,hnew,List.prefix_refl _⟩
  ·obtain ⟨c,e,f,h1,h2⟩:=h.mem.at_ b cs hb
   exact ⟨c,e,f,hget h1,h2⟩
 ·obtain ⟨c,f,h1,h2⟩:=h.mem.shape b n e hb
  exact ⟨c,f,hget h1,h2⟩
 ·intro b i hi
  have hb:=hne b (.inl (by rw [show g.lin b=some i from hi];rfl))
  obtain ⟨h1,⟨c,h2,h3⟩,h4⟩:=h.lin.at_ b i hi
  unfold Gh.addMem
  dsimp only
  rw [if_neg hb]
  exact ⟨h1,⟨c,hget h2,h3⟩,h4⟩
theorem op_bytes {s t:TypeId} {x:Operand} (ho:o.op=.convert s t x) {m:Nat} {v:V} (hv:vbytes C.P s t (st.peek x)=some (m,v)) (hm:m≤2 ^ 47) (h:k v st=some out) (hR:R B τ g st a w) (hk:Goes B τ g a w o.dst k out next):o.wpIn (FW ρ) n C.P a w next Q:=by
 unfold vbytes at hv
 split at hv
 ·rename_i sb hp
  split at hv
  ·rename_i e hs ht
   split at hv
   ·rename_i he
    cases hv
    obtain ⟨dx,hx⟩:=peek_rep hR x
    rw [hp] at hx
    have hu:a.eval x=.string sb:=by
     have hx:RepI g.mem (.str sb) (a.eval x):=hx
     generalize a.eval x=u at hx ⊢
     cases hx;rfl
    have hbel:Below B w (Lib.bytesWorld w e sb):=by
     refine ⟨?_,?_,?_,by rw [Lib.bytesWorld_size];omega,fun k hk=>Lib.bytesWorld_at_old w e sb k (by have:=hR.base;omega)⟩<;>simp [Lib.bytesWorld,World.freeze,World.alloc,World.drew,-World.alloc_eq,-World.drew_eq]
    obtain ⟨l1,R1⟩:=new_memW hR hbel (fun k hk=>Lib.bytesWorld_at_old w e sb k hk) (Lib.bytesWorld_at_new w e sb)
    have hge:=grownCap_ge w sb.size 0 e
    have hcm:=grownCap_le_maxLen w sb.size 0 e (by simp only [maxLen];omega)
    refine wp_value (by simp [ho]) (v:=.slice (some ⟨w.heap.size,0,none⟩) sb.size (grownCap w sb.size 0 e)) (w':=Lib.bytesWorld w e sb) ?_ (hk (.imm false 1 (sb.data.toList.map fun b=>.int .u8 b.toNat)) _ _ _ _ l1 R1 ?_ h)
    ·have:=Lib.run_convert_string_bytes (P:=C.P) w s t e sb hs ht he
     simp only [execOp,ho,hu]
     exact run_v this
    ·have hlen:(sb.data.toList.map fun b=>V.int .u8 b.toNat).length=sb.size:=by simp
     have:=RepI.imm (m:=(g.addMem w.heap.size (Lib.bytesCells w e sb).toList).mem) false (sb.data.toList.map fun b=>V.int .u8 b.toNat) w.heap.size 0 (grownCap w sb.size 0 e) 1 (fun i _=>.int .u8 (sb.data.toList.getD i 0).toNat) (by rw [hlen];exact hge) (fun h=>by cases h) hcm (by omega)
      (fun i x hx=>by
       rw [List.getElem?_map] at hx
       obtain ⟨y,_,rfl⟩:=Option.map_eq_some_iff.1 hx
       rfl)
      (fun i x j c hx hj=>by
       rw [List.getElem?_map] at hx
       obtain ⟨y,hy,rfl⟩:=Option.map_eq_some_iff.1 hx
       have hi:i<sb.size:=by have:=(List.getElem?_eq_some_iff.1 hy).1;simpa using this
       have hj0:j=0:=by
        have:=(List.getElem?_eq_some_iff.1 hj).1
        simp [V.cells] at this;omega
       subst hj0
       cases hj
       refine ⟨rfl,?_⟩
       have e1:(g.addMem w.heap.size (Lib.bytesCells w e sb).toList).mem w.heap.size=some (Lib.bytesCells w e sb).toList:=by
        show (if w.heap.size=w.heap.size then _ else _)=_
        rw [if_pos rfl]
       unfold stAt
       rw [e1]
       have hc:=Lib.bytesWorld_cell w e sb i hi
       simp only [World.cell?,Lib.bytesWorld_at_new] at hc
       simpa using hc)
      (fun i x j c hx hj=>by
       rw [List.getElem?_map] at hx
       obtain ⟨y,hy,rfl⟩:=Option.map_eq_some_iff.1 hx
       have hj0:j=0:=by
        have:=(List.getElem?_eq_some_iff.1 hj).1
        simp [V.cells] at this;omega
       subst hj0
       cases hj
       rw [List.getD_eq_getElem?_getD,hy]
       exact RepI.int _ _)
     rw [hlen] at this
     exact this
   ·cases hv
  ·cases hv
 ·cases hv
end
end Go.Fw
