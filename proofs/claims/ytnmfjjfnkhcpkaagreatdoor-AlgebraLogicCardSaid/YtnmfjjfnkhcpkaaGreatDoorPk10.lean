/- Algebra: values of expressions, on the document's side (2). -/
import Derived.Test.YtnmfjjfnkhcpkaaGreatDoorPk9
set_option linter.all false
set_option maxHeartbeats 20000000
namespace Go.Fw
open Go.Proofs
def Gv (v:Vl):Prop:=Fv v∧Bare v
theorem eT_nil:eT.toList=[]:=toList_nil rfl
theorem i64_z:I64 0:=by unfold I64;omega
theorem gv_null:Gv vNull:=by
 have e:=eT_nil
 refine ⟨⟨⟨?_,?_,?_⟩,i64_z,?_⟩,?_⟩
 ·show (0:Nat)≤_;omega
 ·show (0:Int)≤0;omega
 ·show (0:Int)≤255;omega
 ·show (0:Nat)≤_;omega
 ·unfold Bare;simp [e]
theorem gv_bool (b:Bool):Gv (vBool b):=by
 have e:=eT_nil
 refine ⟨⟨⟨?_,?_,?_⟩,i64_z,?_⟩,?_⟩
 ·show (0:Nat)≤_;omega
 ·show (0:Int)≤1;omega
 ·show (1:Int)≤255;omega
 ·show (0:Nat)≤_;omega
 ·unfold Bare;simp [e]
theorem gv_int (n:Int) (h:I64 n):Gv (vInt n):=by
 have e:=eT_nil
 refine ⟨⟨⟨?_,?_,?_⟩,h,?_⟩,?_⟩
 ·show (0:Nat)≤_;omega
 ·show (0:Int)≤2;omega
 ·show (2:Int)≤255;omega
 ·show (0:Nat)≤_;omega
 ·unfold Bare;simp [e]
theorem gv_text (s:ByteArray) (h:s.size≤256):Gv (vText s):=by
 refine ⟨⟨⟨?_,?_,?_⟩,i64_z,?_⟩,?_⟩
 ·show s.size≤_;omega
 ·show (0:Int)≤3;omega
 ·show (3:Int)≤255;omega
 ·show s.size≤_;omega
 ·unfold Bare;simp
theorem gv_nV (x:Int):Gv (nV x):=by
 unfold nV
 split
 ·exact gv_null
 ·exact gv_int _ (by unfold I64;omega)
theorem gv_step0 (s:Stp) (hn:I64 s.n) (h:TkOk s) (h5:s.k≤5):Gv (step0 s):=by
 unfold step0
 split
 ·exact gv_null
 split
 ·exact gv_bool _
 split
 ·exact gv_int _ hn
 ·exact gv_text _ (h.2.2.2.2 (by have:=h.1;omega)).1
theorem gv_op1 (k:Int) (x:Vl) (hx:Fv x):Gv (op1 k x):=by
 unfold op1
 split
 ·exact gv_nV _
 split
 ·exact gv_bool _
 ·refine gv_int _ ?_
  have:=runesS_len x.s
  have:=hx.2.2
  unfold I64;omega
theorem gv_op2 (k:Int) (x y:Vl):Gv (op2 k x y):=by
 unfold op2
 split
 ·exact gv_nV _
 split
 ·exact gv_nV _
 split
 ·exact gv_nV _
 ·exact gv_bool _
theorem gv_step1 (s:Stp) (x:Vl) (hx:Fv x):Gv (step1 s x):=by
 unfold step1
 split
 ·exact gv_bool _
 split
 ·exact gv_null
 ·exact gv_op1 _ _ hx
theorem gv_step2 (s:Stp) (x y:Vl):Gv (step2 s x y):=by
 unfold step2
 split
 ·unfold logV
  split
  ·exact gv_bool _
  split
  ·exact gv_null
  ·exact gv_bool _
 split
 ·exact gv_null
 ·exact gv_op2 _ _ _
def rowV (row:List Vl) (n:Int):Vl:=(row[n.toNat]?).getD vNull
def valL (s:Stp):List Vl→Vl
 | []=>step0 s
 | [x]=>step1 s x
 | [x,y]=>step2 s x y
 | _=>vNull
def valGo (row:List Vl):List Stp→List Vl→List Vl
 | [],st=>st
 | s::r,st=>if s.k=6 then valGo row r (st++[rowV row s.n]) else valGo row r (st.take (st.length-(tkN s).toNat)++[valL s (st.drop (st.length-(tkN s).toNat))])
theorem valGo_at (row:List Vl) (l:List Stp) (i:Nat) (s:Stp) (h:l[i]?=some s) (st:List Vl):valGo row (l.drop i) st=if s.k=6 then valGo row (l.drop (i+1)) (st++[rowV row s.n]) else valGo row (l.drop (i+1)) (st.take (st.length-(tkN s).toNat)++[valL s (st.drop (st.length-(tkN s).toNat))]):=by
 obtain ⟨h1,rfl⟩:=List.getElem?_eq_some_iff.1 h
 rw [List.drop_eq_getElem_cons h1]
 rfl
theorem split1v (st:List Vl) (h:1≤st.length):∃ pre x,st=pre++[x]:=by
 have hne:st≠[]:=by intro e;rw [e] at h;simp at h
 exact ⟨st.dropLast,st.getLast hne,(List.dropLast_concat_getLast hne).symm⟩
theorem split2v (st:List Vl) (h:2≤st.length):∃ pre x y,st=pre++[x,y]:=by
 obtain ⟨p1,y,rfl⟩:=split1v st (by omega)
 obtain ⟨pre,x,rfl⟩:=split1v p1 (by simp at h;omega)
 exact ⟨pre,x,y,by simp⟩
theorem drop_prev (pre a:List Vl) (n:Nat) (h:a.length=n):(pre++a).drop ((pre++a).length-n)=a∧(pre++a).take ((pre++a).length-n)=pre:=by
 have e:(pre++a).length-n=pre.length:=by simp;omega
 rw [e]
 exact ⟨by simp,by simp⟩
structure RoundsV (l:List Stp) (row:List Vl) (J:List Vl→Nat→List Vl→Prop):Prop where
 end_:∀ st i,i=l.length→J st i st
 col:∀ st fin i s v (m:Nat),st.length≤i→l[i]?=some s→s.k=6→s.n=(m:Int)→row[m]?=some v→J (st++[v]) (i+1) fin→J st i fin
 k0:∀ st fin i s,st.length≤i→l[i]?=some s→TkOk s→s.k≤5→J (st++[step0 s]) (i+1) fin→J st i fin
 k1:∀ pre fin i s x,pre.length+1≤i→l[i]?=some s→TkOk s→7≤s.k→s.k≤10→Gv x→J (pre++[step1 s x]) (i+1) fin→J (pre++[x]) i fin
 k2:∀ pre fin i s x y,pre.length+2≤i→l[i]?=some s→TkOk s→11≤s.k→s.k≤21→Gv x→Gv y→J (pre++[step2 s x y]) (i+1) fin→J (pre++[x,y]) i fin
theorem roundsV (l:List Stp) (row:List Vl) (J:List Vl→Nat→List Vl→Prop) (H:RoundsV l row J) (hn:∀ s∈l,I64 s.n) (hx:∀ s∈l,ColOk row.length s) (hr:∀ v∈row,Gv v) (m:Int):∀ k i (st:List Vl),i+k=l.length→st.length≤i→(∀ v∈st,Gv v)→rightGo (l.drop i) (st.length:Int)=some m →
  ((valGo row (l.drop i) st).length:Int)=m∧(∀ v∈valGo row (l.drop i) st,Gv v)∧J st i (valGo row (l.drop i) st)
 | 0,i,st,hi,hst,hg,hm=>by
  rw [List.drop_eq_nil_of_le (by omega)] at hm ⊢
  cases hm
  exact ⟨rfl,hg,H.end_ st i (by omega)⟩
 | k+1,i,st,hi,hst,hg,hm=>by
  obtain ⟨s,hs⟩:∃ s,l[i]?=some s:=⟨l[i]'(by omega),List.getElem?_eq_getElem (by omega)⟩
  have ns:=hn s (List.mem_of_getElem? hs)
  have cs:=hx s (List.mem_of_getElem? hs)
  rw [rightGo_at l i s hs] at hm
  have hc:¬(tOk s=false∨(st.length:Int)<tN s):=fun hc=>by rw [if_pos hc] at hm;cases hm
  rw [if_neg hc] at hm
  rw [valGo_at row l i s hs st]
  have snoc:∀ (p:List Vl) (x:Vl),(∀ v∈p,Gv v)→Gv x→∀ v∈p++[x],Gv v:=fun p x h1 h2 v hv=>by
   rcases List.mem_append.1 hv with h | h
   ·exact h1 v h
   ·rw [List.mem_singleton.1 h];exact h2
  by_cases h6:s.k=6
  ·rw [if_pos h6]
   obtain ⟨_,c1,c2⟩:=cs h6
   obtain ⟨q,hq⟩:∃ q:Nat,s.n=(q:Int):=⟨s.n.toNat,by omega⟩
   obtain ⟨v,hv⟩:∃ v,row[q]?=some v:=⟨row[q]'(by omega),List.getElem?_eq_getElem (by omega)⟩
   have e1:tN s=0:=by unfold tN;rw [if_pos h6]
   have e2:rowV row s.n=v:=by unfold rowV;rw [hq,Int.toNat_natCast,hv];rfl
   rw [e2]
   obtain ⟨i1,i2,i3⟩:=roundsV l row J H hn hx hr m k (i+1) (st++[v]) (by omega) (by simp;omega) (snoc st v hg (hr v (List.mem_of_getElem? hv))) (by rw [e1] at hm;rw [←hm];congr 1;simp)
   exact ⟨i1,i2,H.col st _ i s v q hst hs h6 hq hv i3⟩
  ·rw [if_neg h6]
   have e1:tN s=tkN s:=by unfold tN;rw [if_neg h6]
   have e2:tOk s=tkOk s:=by unfold tOk;rw [if_neg h6]
   rw [e1,e2] at hc
   rw [e1] at hm
   have ho:TkOk s:=by
    cases h:tkOk s with
    | false=>exact absurd (.inl h) hc
    | true=>unfold tkOk at h;simpa using h
   have hnn:tkN s≤(st.length:Int):=by omega
   have hk1:1≤s.k:=ho.1
   have hk2:s.k<22:=ho.2.1
   by_cases h7:s.k<7
   ·have t0:tkN s=0:=by unfold tkN;rw [if_neg (by simpa using ho),if_pos h7]
    rw [t0] at hm ⊢
    obtain ⟨d1,d2⟩:=drop_prev st [] 0 rfl
    rw [List.append_nil] at d1 d2
    rw [show (0:Int).toNat=0 from rfl,d1,d2]
    obtain ⟨i1,i2,i3⟩:=roundsV l row J H hn hx hr m k (i+1) (st++[step0 s]) (by omega) (by simp;omega) (snoc st _ hg (gv_step0 s ns ho (by omega))) (by rw [←hm];congr 1;simp)
    exact ⟨i1,i2,H.k0 st _ i s hst hs ho (by omega) i3⟩
   by_cases h8:s.k≤10
   ·have t1:tkN s=1:=by unfold tkN;rw [if_neg (by simpa using ho),if_neg h7,if_pos h8]
    rw [t1] at hm hnn ⊢
    obtain ⟨pre,x,rfl⟩:=split1v st (by omega)
    obtain ⟨d1,d2⟩:=drop_prev pre [x] 1 rfl
    rw [show (1:Int).toNat=1 from rfl,d1,d2]
    have hst':pre.length+1≤i:=by simpa using hst
    have gx:=hg x (by simp)
    obtain ⟨i1,i2,i3⟩:=roundsV l row J H hn hx hr m k (i+1) (pre++[step1 s x]) (by omega) (by simp;omega) (snoc pre _ (fun v hv=>hg v (by simp [hv])) (gv_step1 s x gx.1)) (by rw [←hm];congr 1;simp)
    exact ⟨i1,i2,H.k1 pre _ i s x hst' hs ho (by omega) h8 gx i3⟩
   ·have t2:tkN s=2:=by unfold tkN;rw [if_neg (by simpa using ho),if_neg h7,if_neg h8]
    rw [t2] at hm hnn ⊢
    obtain ⟨pre,x,y,rfl⟩:=split2v st (by omega)
    obtain ⟨d1,d2⟩:=drop_prev pre [x,y] 2 rfl
    rw [show (2:Int).toNat=2 from rfl,d1,d2]
    have hst':pre.length+2≤i:=by simpa using hst
    have gx:=hg x (by simp)
    have gy:=hg y (by simp)
    obtain ⟨i1,i2,i3⟩:=roundsV l row J H hn hx hr m k (i+1) (pre++[step2 s x y]) (by omega) (by simp;omega) (snoc pre _ (fun v hv=>hg v (by simp [hv])) (gv_step2 s x y)) (by rw [←hm];congr 1;simp;omega)
    exact ⟨i1,i2,H.k2 pre _ i s x y hst' hs ho (by omega) (by omega) gx gy i3⟩
def valR (l:List Stp) (row:List Vl):Vl:=(valGo row l []).headD vNull
end Go.Fw
set_option maxHeartbeats 20000000
namespace Go.Fw
open Go.Proofs
def eqP (v x:Vl):Prop:=v.k=x.k∧v.b=x.b∧v.n=x.n∧v.s.toList=x.s.toList
instance (v x:Vl):Decidable (eqP v x):=by unfold eqP;infer_instance
abbrev H16 (v:Vl):List Blk:=[.cells [.int .u8 v.k,.bool v.b,.int .i64 v.n,.str v.s] 28]
abbrev K16:List (Nat×Fm):=keeps [0,3,7,8]
abbrev S16 (v:Vl) (l:List Vl) (i:Nat):St:=mkSt 19 [(0,eVs l),(3,.ptr 0 0),(7,.int .i64 (l.length:Int)),(8,.int .i64 (i:Int))] (H16 v)
theorem idv_none (v:Vl) (l:List Vl) (hl:l.length≤2):∀ k i,i+k=l.length→(∀ j x,i≤j→l[j]?=some x→¬eqP v x)→LoopK C1 187 16 K16 (S16 v l i) (.exit 0) (mkSt 19 [] (H16 v))
 | 0,i,h,hn=>by
  refine loop_tree draws (rd:=true) (kn:=K16) (ke:=(keeps [])) (
   .rw 8009 [] [(9,Vb (decide ((↑i:Int)<(↑(List.length l):Int))),Vb false)]<|.ret ((Ex.exit 0,mkSt 19 [] [Blk.cells [Vu (Vl.k v),Vb (Vl.b v),Vi (Vl.n v),V.str (Vl.s v)] 28]))) (by kernel_rfl) ?_
  exact ⟨⟨tv,cb (by simp<;>omega),tv⟩,rfl,rfl⟩
 | k+1,i,h,hn=>by
  have ih:=idv_none v l hl k (i+1) (by omega) (fun j v hj hv=>hn j v (by omega) hv)
  obtain ⟨x,hx⟩:∃ x,l[i]?=some x:=⟨l[i]'(by omega),List.getElem?_eq_getElem (by omega)⟩
  have hk:=hn i x (Nat.le_refl _) hx
  unfold eqP at hk
  refine loop_tree draws (rd:=true) (kn:=K16) (ke:=(keeps [])) (
   .rw 8009 [] [(9,Vb (decide ((↑i:Int)<(↑(List.length l):Int))),Vb true)]<|.opt 14 (idx (List.map eV l) (↑i:Int)) (eV x)<|.rw 8016 [] [(16,Vb (Vl.k v==Vl.k x&&(Vl.b v==Vl.b x&&(Vl.n v==Vl.n x&&(ByteArray.toList (Vl.s v)==ByteArray.toList (Vl.s x)&&true)))),Vb false)]<|.rw 8018 [] [(18,Vi (IntKind.wrap IntKind.i64 ((↑i:Int)+(1:Int))),Vi (↑(i+1):Int))]<|.ret (.normal,S16 v l (i+1))) (by kernel_rfl) ?_
  exact ⟨⟨tv,cb (by grind),tv⟩,(idx_map _ hx),⟨tv,cb (by grind),tv⟩,⟨tv,by simp (disch:=omega) only [cast_succ,wrap_i64],tv⟩,(ih)⟩
theorem idv_some (v:Vl) (l:List Vl) (hl:l.length≤2) (m:Nat):∀ k i,i+k=m→m<l.length→(∀ j x,i≤j→j<m→l[j]?=some x→¬eqP v x)→(∀ x,l[m]?=some x→eqP v x)→LoopK C1 187 16 K16 (S16 v l i) .ret (mkSt 19 [(4,.int .i64 (m:Int))] (H16 v))
 | 0,i,h,hm,hn,he=>by
  obtain ⟨x,hx⟩:∃ x,l[i]?=some x:=⟨l[i]'(by omega),List.getElem?_eq_getElem (by omega)⟩
  have e:i=m:=by omega
  subst e
  have hk:=he x hx
  unfold eqP at hk
  refine loop_tree draws (rd:=true) (kn:=K16) (ke:=(keeps [4])) (
   .rw 8009 [] [(9,Vb (decide ((↑i:Int)<(↑(List.length l):Int))),Vb true)]<|.opt 14 (idx (List.map eV l) (↑i:Int)) (eV x)<|.rw 8016 [] [(16,Vb (Vl.k v==Vl.k x&&(Vl.b v==Vl.b x&&(Vl.n v==Vl.n x&&(ByteArray.toList (Vl.s v)==ByteArray.toList (Vl.s x)&&true)))),Vb true)]<|.ret ((Ex.ret,mkSt 19 [(4,Vi (↑i:Int))] [Blk.cells [Vu (Vl.k v),Vb (Vl.b v),Vi (Vl.n v),V.str (Vl.s v)] 28]))) (by kernel_rfl) ?_
  exact ⟨⟨tv,cb (by grind),tv⟩,(idx_map _ hx),⟨tv,cb (by grind),tv⟩,rfl,rfl⟩
 | k+1,i,h,hm,hn,he=>by
  have ih:=idv_some v l hl m k (i+1) (by omega) hm (fun j v hj hv=>hn j v (by omega) hv) he
  obtain ⟨x,hx⟩:∃ x,l[i]?=some x:=⟨l[i]'(by omega),List.getElem?_eq_getElem (by omega)⟩
  have hk:=hn i x (Nat.le_refl _) (by omega) hx
  unfold eqP at hk
  refine loop_tree draws (rd:=true) (kn:=K16) (ke:=(keeps [4])) (
   .rw 8009 [] [(9,Vb (decide ((↑i:Int)<(↑(List.length l):Int))),Vb true)]<|.opt 14 (idx (List.map eV l) (↑i:Int)) (eV x)<|.rw 8016 [] [(16,Vb (Vl.k v==Vl.k x&&(Vl.b v==Vl.b x&&(Vl.n v==Vl.n x&&(ByteArray.toList (Vl.s v)==ByteArray.toList (Vl.s x)&&true)))),Vb false)]<|.rw 8018 [] [(18,Vi (IntKind.wrap IntKind.i64 ((↑i:Int)+(1:Int))),Vi (↑(i+1):Int))]<|.ret (.normal,S16 v l (i+1))) (by kernel_rfl) ?_
  exact ⟨⟨tv,cb (by grind),tv⟩,(idx_map _ hx),⟨tv,cb (by grind),tv⟩,⟨tv,by simp (disch:=omega) only [cast_succ,wrap_i64],tv⟩,(ih)⟩
theorem index_none (v:Vl) (l:List Vl) (hl:l.length≤2) (hn:∀ x∈l,¬eqP v x):Sp C1 187 [eVs l,eV v] (.int .i64 (-1)):=by
 have h:=idv_none v l hl l.length 0 (by omega) (fun j x _ hx=>hn x (List.mem_of_getElem? hx))
 refine sp_tree draws (dm:=[]) (fs:=[]) (
  .rw 8007 [] [(7,Vi (↑(List.length (List.map eV l)):Int),Vi (↑(List.length l):Int))]<|.loop 16 false (K16) (S16 v l 0) (Ex.exit 0) (mkSt 19 [] (H16 v))<|.ret (Fr (Vi (-1:Int)) [])) (by kernel_rfl) ?_
 exact ⟨⟨tv,by simp (disch:=omega) only [List.length_map],tv⟩,(LoopR.weak (h)),rfl⟩
theorem index_some (v:Vl) (l:List Vl) (hl:l.length≤2) (m:Nat) (hm:m<l.length) (hn:∀ j x,j<m→l[j]?=some x→¬eqP v x) (he:∀ x,l[m]?=some x→eqP v x):Sp C1 187 [eVs l,eV v] (.int .i64 (m:Int)):=by
 have h:=idv_some v l hl m m 0 (by omega) hm (fun j x _ hj hx=>hn j x hj hx) he
 refine sp_tree draws (dm:=[]) (fs:=[]) (
  .rw 8007 [] [(7,Vi (↑(List.length (List.map eV l)):Int),Vi (↑(List.length l):Int))]<|.loop 16 false (K16) (S16 v l 0) (Ex.ret) (mkSt 19 [(4,Vi (↑m:Int))] (H16 v))<|.ret (Fr (Vi (↑m:Int)) [])) (by kernel_rfl) ?_
 exact ⟨⟨tv,by simp (disch:=omega) only [List.length_map],tv⟩,(LoopR.weak (h)),rfl⟩
theorem contains1_sp (v x:Vl):Sp C1 127 [eVs [x],eV v] (.bool (decide (eqP v x))):=by
 by_cases h:eqP v x
 ·have hi:=index_some v [x] (by simp) 0 (by simp) (fun j y hj hy=>absurd hj (by omega)) (fun y hy=>by cases hy;exact h)
  rw [decide_eq_true h]
  refine sp_tree draws (dm:=[]) (fs:=[]) (
   .call 7 (187) ([eVs [x],eV v]) ([]) (Fr (Vi (↑0:Int)) [])<|.ret (Fr (Vb true) [])) (by kernel_rfl) ?_
  exact ⟨(Sp.fact (hi)),rfl⟩
 ·have hi:=index_none v [x] (by simp) (fun y hy=>by rw [List.mem_singleton.1 hy];exact h)
  rw [decide_eq_false h]
  refine sp_tree draws (dm:=[]) (fs:=[]) (
   .call 7 (187) ([eVs [x],eV v]) ([]) (Fr (Vi (-1:Int)) [])<|.ret (Fr (Vb false) [])) (by kernel_rfl) ?_
  exact ⟨(Sp.fact (hi)),rfl⟩
theorem contains2_sp (v x y:Vl):Sp C1 127 [eVs [x,y],eV v] (.bool (decide (eqP v x∨eqP v y))):=by
 by_cases h:eqP v x
 ·have hi:=index_some v [x,y] (by simp) 0 (by simp) (fun j y hj hy=>absurd hj (by omega)) (fun y hy=>by cases hy;exact h)
  rw [decide_eq_true (.inl h)]
  refine sp_tree draws (dm:=[]) (fs:=[]) (
   .call 7 (187) ([eVs [x,y],eV v]) ([]) (Fr (Vi (↑0:Int)) [])<|.ret (Fr (Vb true) [])) (by kernel_rfl) ?_
  exact ⟨(Sp.fact (hi)),rfl⟩
 by_cases h2:eqP v y
 ·have hi:=index_some v [x,y] (by simp) 1 (by simp) (fun j z hj hz=>by
   obtain rfl:j=0:=by omega
   cases hz;exact h) (fun z hz=>by cases hz;exact h2)
  rw [decide_eq_true (.inr h2)]
  refine sp_tree draws (dm:=[]) (fs:=[]) (
   .call 7 (187) ([eVs [x,y],eV v]) ([]) (Fr (Vi (↑1:Int)) [])<|.ret (Fr (Vb true) [])) (by kernel_rfl) ?_
  exact ⟨(Sp.fact (hi)),rfl⟩
 ·have hi:=index_none v [x,y] (by simp) (fun z hz=>by
   rcases List.mem_cons.1 hz with rfl | hz
   ·exact h
   ·rw [List.mem_singleton.1 hz];exact h2)
  rw [decide_eq_false (fun hh=>hh.elim h h2)]
  refine sp_tree draws (dm:=[]) (fs:=[]) (
   .call 7 (187) ([eVs [x,y],eV v]) ([]) (Fr (Vi (-1:Int)) [])<|.ret (Fr (Vb false) [])) (by kernel_rfl) ?_
  exact ⟨(Sp.fact (hi)),rfl⟩
theorem eqP_null (a:Vl) (h:Bare a):eqP vNull a↔a.k=0:=by
 unfold eqP
 obtain ⟨h1,h2,h3,h4,h5⟩:=h
 constructor
 ·exact fun h=>h.1.symm
 ·intro e
  refine ⟨e.symm,?_,?_,?_⟩
  ·rcases h3 with h | h
   ·omega
   ·exact h.symm
  ·rcases h4 with h | h
   ·omega
   ·exact h.symm
  ·rcases h5 with h | h
   ·omega
   ·rw [h]
    exact eT_nil
theorem eqP_bool (a:Vl) (c:Bool):eqP (vBool c) a↔isB a c:=by
 unfold eqP isB
 constructor
 ·exact fun ⟨h1,h2,h3,h4⟩=>⟨h1.symm,h2.symm,h3.symm,by rw [←h4];exact eT_nil⟩
 ·exact fun ⟨h1,h2,h3,h4⟩=>⟨h1.symm,h2.symm,h3.symm,by rw [h4];exact eT_nil⟩
theorem logic_sp (c:Bool) (a b:Vl) (ha:Bare a) (hb:Bare b):Sp C1 126 [.bool c,eVs [a,b]] (eV (logV c a b)):=by
 have e1:=contains2_sp (vBool c) a b
 have e2:=contains2_sp vNull a b
 have t1:=truth_sp c
 have t2:=truth_sp (!c)
 simp only [eqP_bool] at e1
 simp only [eqP_null a ha,eqP_null b hb] at e2
 unfold logV
 by_cases h1:isB a c∨isB b c
 ·rw [decide_eq_true h1] at e1
  rw [if_pos h1]
  refine sp_tree draws (dm:=[]) (fs:=[]) (
   .call 8 (87) ([Vb c]) ([]) (Fr (eV (vBool c)) [])<|.call 9 (127) ([eVs [a,b],eV (vBool c)]) ([]) (Fr (Vb true) [])<|.call 11 (87) ([Vb c]) ([]) (Fr (eV (vBool c)) [])<|.ret (Fr (V.agg [Vu (1:Int),Vb c,Vi (0:Int),V.str (ByteArray.mk (Array.mk []))]) [])) (by kernel_rfl) ?_
  exact ⟨(Sp.fact (t1)),(Sp.fact (e1)),(Sp.fact (t1)),rfl⟩
 rw [decide_eq_false h1] at e1
 rw [if_neg h1]
 by_cases h2:a.k=0∨b.k=0
 ·rw [decide_eq_true h2] at e2
  rw [if_pos h2]
  refine sp_tree draws (dm:=[]) (fs:=[]) (
   .call 8 (87) ([Vb c]) ([]) (Fr (eV (vBool c)) [])<|.call 9 (127) ([eVs [a,b],eV (vBool c)]) ([]) (Fr (Vb false) [])<|.call 15 (127) ([eVs [a,b],eV vNull]) ([]) (Fr (Vb true) [])<|.ret (Fr (V.agg [Vu (0:Int),Vb false,Vi (0:Int),V.str (ByteArray.mk #[])]) [])) (by kernel_rfl) ?_
  exact ⟨(Sp.fact (t1)),(Sp.fact (e1)),(Sp.fact (e2)),rfl⟩
 ·rw [decide_eq_false h2] at e2
  rw [if_neg h2]
  refine sp_tree draws (dm:=[]) (fs:=[]) (
   .call 8 (87) ([Vb c]) ([]) (Fr (eV (vBool c)) [])<|.call 9 (127) ([eVs [a,b],eV (vBool c)]) ([]) (Fr (Vb false) [])<|.call 15 (127) ([eVs [a,b],eV vNull]) ([]) (Fr (Vb false) [])<|.call 19 (87) ([Vb !c]) ([]) (Fr (eV (vBool !c)) [])<|.ret (Fr (V.agg [Vu (1:Int),Vb !c,Vi (0:Int),V.str (ByteArray.mk (Array.mk []))]) [])) (by kernel_rfl) ?_
  exact ⟨(Sp.fact (t1)),(Sp.fact (e1)),(Sp.fact (e2)),(Sp.fact (t2)),rfl⟩
theorem operator1_sp (k:Int) (x:Vl) (hx:Fv x) (hk:k=7∨k=8∨k=10):Sp C1 128 [.int .u8 k,eVs [x]] (eV (op1 k x)):=by
 obtain ⟨f1,f2,f3⟩:=hx
 have e1:=sub_sp 0 x.n i64_0 f2
 have e2:=vrunes_sp x.s f3
 rcases hk with rfl | rfl | rfl
 ·refine sp_tree draws (dm:=[]) (fs:=[]) (
   .call 12 (188) ([Vi (0:Int),Vi (Vl.n x)]) ([]) (Fr (V.tup [Vi (ovN ((0:Int)-Vl.n x)),Vi (ovE ((0:Int)-Vl.n x))]) [])<|.call 15 (125) ([Vi (ovN ((0:Int)-Vl.n x)),Vi (ovE ((0:Int)-Vl.n x))]) ([]) (Fr (eV (nV ((0:Int)-Vl.n x))) [])<|.ret (Fr (V.agg [Vu (Vl.k (nV ((0:Int)-Vl.n x))),Vb (Vl.b (nV ((0:Int)-Vl.n x))),Vi (Vl.n (nV ((0:Int)-Vl.n x))),V.str (Vl.s (nV ((0:Int)-Vl.n x)))]) [])) (by kernel_rfl) ?_
  exact ⟨(Sp.fact (e1)),(Sp.fact (num_sp _)),rfl⟩
 ·refine sp_tree draws (dm:=[]) (fs:=[]) (
   .call 23 (87) ([Vb !Vl.b x]) ([]) (Fr (eV (vBool !Vl.b x)) [])<|.ret (Fr (V.agg [Vu (1:Int),Vb !Vl.b x,Vi (0:Int),V.str (ByteArray.mk (Array.mk []))]) [])) (by kernel_rfl) ?_
  exact ⟨(Sp.fact (truth_sp _)),rfl⟩
 ·refine sp_tree draws (dm:=[]) (fs:=[]) (
   .call 30 (136) ([V.str (Vl.s x)]) ([]) (Fr (Vi (↑(List.length (runesS (Vl.s x))):Int)) [])<|.call 31 (125) ([Vi (↑(List.length (runesS (Vl.s x))):Int),Vi (0:Int)]) ([]) (Fr (eV (vInt (↑(List.length (runesS (Vl.s x))):Int))) [])<|.ret (Fr (V.agg [Vu (2:Int),Vb false,Vi (↑(List.length (runesS (Vl.s x))):Int),V.str (ByteArray.mk (Array.mk []))]) [])) (by kernel_rfl) ?_
  exact ⟨(Sp.fact (e2)),(Sp.fact (numI_sp _)),rfl⟩
theorem operator2_sp (k:Int) (x y:Vl) (hx:Fv x) (hy:Fv y) (hk:11≤k) (hk2:k≤19):Sp C1 128 [.int .u8 k,eVs [x,y]] (eV (op2 k x y)):=by
 obtain ⟨f1,f2,f3⟩:=hx
 obtain ⟨g1,g2,g3⟩:=hy
 have e1:=add_sp x.n y.n f2 g2
 have e2:=sub_sp x.n y.n f2 g2
 have e3:=mul_sp x.n y.n f2 g2
 have e4:=compare_sp x y f1 g1
 by_cases h1:k=11
 ·subst h1
  refine sp_tree draws (dm:=[]) (fs:=[]) (
   .call 42 (189) ([Vi (Vl.n x),Vi (Vl.n y)]) ([]) (Fr (V.tup [Vi (ovN (Vl.n x+Vl.n y)),Vi (ovE (Vl.n x+Vl.n y))]) [])<|.call 45 (125) ([Vi (ovN (Vl.n x+Vl.n y)),Vi (ovE (Vl.n x+Vl.n y))]) ([]) (Fr (eV (nV (Vl.n x+Vl.n y))) [])<|.ret (Fr (V.agg [Vu (Vl.k (nV (Vl.n x+Vl.n y))),Vb (Vl.b (nV (Vl.n x+Vl.n y))),Vi (Vl.n (nV (Vl.n x+Vl.n y))),V.str (Vl.s (nV (Vl.n x+Vl.n y)))]) [])) (by kernel_rfl) ?_
  exact ⟨(Sp.fact (e1)),(Sp.fact (num_sp _)),rfl⟩
 by_cases h2:k=12
 ·subst h2
  refine sp_tree draws (dm:=[]) (fs:=[]) (
   .call 56 (188) ([Vi (Vl.n x),Vi (Vl.n y)]) ([]) (Fr (V.tup [Vi (ovN (Vl.n x-Vl.n y)),Vi (ovE (Vl.n x-Vl.n y))]) [])<|.call 59 (125) ([Vi (ovN (Vl.n x-Vl.n y)),Vi (ovE (Vl.n x-Vl.n y))]) ([]) (Fr (eV (nV (Vl.n x-Vl.n y))) [])<|.ret (Fr (V.agg [Vu (Vl.k (nV (Vl.n x-Vl.n y))),Vb (Vl.b (nV (Vl.n x-Vl.n y))),Vi (Vl.n (nV (Vl.n x-Vl.n y))),V.str (Vl.s (nV (Vl.n x-Vl.n y)))]) [])) (by kernel_rfl) ?_
  exact ⟨(Sp.fact (e2)),(Sp.fact (num_sp _)),rfl⟩
 by_cases h3:k=13
 ·subst h3
  refine sp_tree draws (dm:=[]) (fs:=[]) (
   .call 70 (190) ([Vi (Vl.n x),Vi (Vl.n y)]) ([]) (Fr (V.tup [Vi (ovN (Vl.n x*Vl.n y)),Vi (ovE (Vl.n x*Vl.n y))]) [])<|.call 73 (125) ([Vi (ovN (Vl.n x*Vl.n y)),Vi (ovE (Vl.n x*Vl.n y))]) ([]) (Fr (eV (nV (Vl.n x*Vl.n y))) [])<|.ret (Fr (V.agg [Vu (Vl.k (nV (Vl.n x*Vl.n y))),Vb (Vl.b (nV (Vl.n x*Vl.n y))),Vi (Vl.n (nV (Vl.n x*Vl.n y))),V.str (Vl.s (nV (Vl.n x*Vl.n y)))]) [])) (by kernel_rfl) ?_
  exact ⟨(Sp.fact (e3)),(Sp.fact (num_sp _)),rfl⟩
 have hr:=cmpV_range x y
 generalize hc:cmpV x y=c at hr e4
 have e5:op2 k x y=vBool (cmpK k c):=by unfold op2;rw [if_neg h1,if_neg h2,if_neg h3,hc]
 rw [e5]
 have e6:=compared_sp k c (by omega) hk2 hr
 have e7:=truth_sp (cmpK k c)
 have e8:Sp C1 191 [.int .u8 k,.int .i64 c] (.bool (cmpK k c)):=e6
 clear e6
 refine sp_tree draws (dm:=[]) (fs:=[]) (
  .rw 8007 [] [(7,Vb (k==(7:Int)),Vb false)]<|.rw 8017 [] [(17,Vb (k==(8:Int)),Vb false)]<|.rw 8025 [] [(25,Vb (k==(10:Int)),Vb false)]<|.rw 8033 [] [(33,Vb (k==(11:Int)),Vb false)]<|.rw 8047 [] [(47,Vb (k==(12:Int)),Vb false)]<|.rw 8061 [] [(61,Vb (k==(13:Int)),Vb false)]<|.call 81 (23) ([eV x,eV y]) ([]) (Fr (Vi c) [])<|.call 82 (191) ([Vu k,Vi c]) ([]) (Fr (Vb (cmpK k c)) [])<|.call 83 (87) ([Vb (cmpK k c)]) ([]) (Fr (eV (vBool (cmpK k c))) [])<|.ret (Fr (V.agg [Vu (1:Int),Vb (cmpK k c),Vi (0:Int),V.str (ByteArray.mk (Array.mk []))]) [])) (by kernel_rfl) ?_
 exact ⟨⟨tv,cb (by simp<;>omega),tv⟩,⟨tv,cb (by simp<;>omega),tv⟩,⟨tv,cb (by simp<;>omega),tv⟩,⟨tv,cb (by simp<;>omega),tv⟩,⟨tv,cb (by simp<;>omega),tv⟩,⟨tv,cb (by simp<;>omega),tv⟩,(Sp.fact (e4)),(Sp.fact (e8)),(Sp.fact (e7)),rfl⟩
theorem step0_sp (s:Stp) (row l:List Vl) (h1:1≤s.k) (h2:s.k≤5):Sp C1 64 [eS s,eRow row,eVs l] (eV (step0 s)):=by
 have h3:s.k=1∨s.k=2∨s.k=3∨s.k=4∨s.k=5:=by omega
 obtain ⟨k,t,n⟩:=s
 dsimp only at h3
 rcases h3 with rfl | rfl | rfl | rfl | rfl
 ·refine sp_tree draws (dm:=[]) (fs:=[]) (
   .ret (Fr (V.agg [Vu (0:Int),Vb false,Vi (0:Int),V.str (ByteArray.mk #[])]) [])) (by kernel_rfl) ?_
  exact rfl
 ·refine sp_tree draws (dm:=[]) (fs:=[]) (
   .call 18 (87) ([Vb true]) ([]) (Fr (eV (vBool true)) [])<|.ret (Fr (V.agg [Vu (1:Int),Vb true,Vi (0:Int),V.str (ByteArray.mk #[])]) [])) (by kernel_rfl) ?_
  exact ⟨(Sp.fact (truth_sp _)),rfl⟩
 ·refine sp_tree draws (dm:=[]) (fs:=[]) (
   .call 18 (87) ([Vb false]) ([]) (Fr (eV (vBool false)) [])<|.ret (Fr (V.agg [Vu (1:Int),Vb false,Vi (0:Int),V.str (ByteArray.mk #[])]) [])) (by kernel_rfl) ?_
  exact ⟨(Sp.fact (truth_sp _)),rfl⟩
 ·refine sp_tree draws (dm:=[]) (fs:=[]) (
   .call 23 (125) ([Vi n,Vi (0:Int)]) ([]) (Fr (eV (vInt n)) [])<|.ret (Fr (V.agg [Vu (2:Int),Vb false,Vi n,V.str (ByteArray.mk (Array.mk []))]) [])) (by kernel_rfl) ?_
  exact ⟨(Sp.fact (numI_sp _)),rfl⟩
 ·refine sp_tree draws (dm:=[]) (fs:=[]) (
   .ret (Fr (V.agg [Vu (3:Int),Vb false,Vi (0:Int),V.str t]) [])) (by kernel_rfl) ?_
  exact rfl
theorem stepC_sp (s:Stp) (row l:List Vl) (h1:s.k=6) (i:Nat) (v:Vl) (hi:s.n=(i:Int)) (hv:row[i]?=some v):Sp C1 64 [eS s,eRow row,eVs l] (eV v):=by
 obtain ⟨k,t,n⟩:=s
 dsimp only at h1 hi
 subst h1 hi
 refine sp_tree draws (dm:=[]) (fs:=[]) (
  .opt 34 (idx (List.map eV row) (↑i:Int)) (eV v)<|.ret (Fr (V.agg [Vu (Vl.k v),Vb (Vl.b v),Vi (Vl.n v),V.str (Vl.s v)]) [])) (by kernel_rfl) ?_
 exact ⟨(idx_map _ hv),rfl⟩
theorem eqb_null (x:Vl):(x.k==0&&(x.b==false&&(x.n==0&&(x.s.toList==[]&&true))))=decide (eqP x vNull):=by
 unfold eqP
 rw [Bool.eq_iff_iff]
 simp [eT_nil]
theorem step1_sp (s:Stp) (row:List Vl) (x:Vl) (hx:Gv x) (hk:7≤s.k) (hk2:s.k≤10):Sp C1 64 [eS s,eRow row,eVs [x]] (eV (step1 s x)):=by
 have hnull:=eqP_null x hx.2
 by_cases h9:s.k=9
 ·have e:step1 s x=vBool (decide (eqP x vNull)):=by
   unfold step1
   rw [if_pos h9]
   have:eqP x vNull↔eqP vNull x:=by unfold eqP;grind
   rw [decide_eq_decide.2 (this.trans hnull)]
  rw [e]
  refine sp_tree draws (dm:=[]) (fs:=[]) (
   .rw 8010 [] [(10,Vb (Stp.k s==(1:Int)),Vb false)]<|.rw 8013 [] [(13,Vb (Stp.k s==(2:Int)),Vb false)]<|.rw 8014 [] [(14,Vb (Stp.k s==(3:Int)),Vb false)]<|.rw 8020 [] [(20,Vb (Stp.k s==(4:Int)),Vb false)]<|.rw 8025 [] [(25,Vb (Stp.k s==(5:Int)),Vb false)]<|.rw 8030 [] [(30,Vb (Stp.k s==(6:Int)),Vb false)]<|.rw 8037 [] [(37,Vb (Stp.k s==(9:Int)),Vb true)]<|.call 43 (87) ([Vb (Vl.k x==(0:Int)&&(Vl.b x==false&&(Vl.n x==(0:Int)&&(ByteArray.toList (Vl.s x)==[]&&true))))]) ([]) (Fr (eV (vBool (Vl.k x==(0:Int)&&(Vl.b x==false&&(Vl.n x==(0:Int)&&(ByteArray.toList (Vl.s x)==[]&&true)))))) [])<|.ret (Fr (V.agg [Vu (1:Int),Vb (Vl.k x==(0:Int)&&(Vl.b x==false&&(Vl.n x==(0:Int)&&(ByteArray.toList (Vl.s x)==[]&&true)))),Vi (0:Int),V.str (ByteArray.mk (Array.mk []))]) [])) (by kernel_rfl) ?_
  exact ⟨⟨tv,cb (by simp<;>omega),tv⟩,⟨tv,cb (by simp<;>omega),tv⟩,⟨tv,cb (by simp<;>omega),tv⟩,⟨tv,cb (by simp<;>omega),tv⟩,⟨tv,cb (by simp<;>omega),tv⟩,⟨tv,cb (by simp<;>omega),tv⟩,⟨tv,cb (by simp<;>omega),tv⟩,(Sp.fact (truth_sp _)),by show _=_;(rw [eqb_null])⟩
 have e1:=operator1_sp s.k x hx.1 (by omega)
 have e2:=contains1_sp vNull x
 simp only [hnull] at e2
 unfold step1
 rw [if_neg h9]
 by_cases hn:x.k=0
 ·rw [if_pos hn]
  rw [decide_eq_true hn] at e2
  refine sp_tree draws (dm:=[]) (fs:=[]) (
   .rw 8010 [] [(10,Vb (Stp.k s==(1:Int)),Vb false)]<|.rw 8013 [] [(13,Vb (Stp.k s==(2:Int)),Vb false)]<|.rw 8014 [] [(14,Vb (Stp.k s==(3:Int)),Vb false)]<|.rw 8020 [] [(20,Vb (Stp.k s==(4:Int)),Vb false)]<|.rw 8025 [] [(25,Vb (Stp.k s==(5:Int)),Vb false)]<|.rw 8030 [] [(30,Vb (Stp.k s==(6:Int)),Vb false)]<|.rw 8037 [] [(37,Vb (Stp.k s==(9:Int)),Vb false)]<|.rw 8045 [] [(45,Vb (Stp.k s==(20:Int)),Vb false)]<|.rw 8046 [] [(46,Vb (Stp.k s==(21:Int)),Vb false)]<|.call 54 (127) ([eVs [x],eV vNull]) ([]) (Fr (Vb true) [])<|.ret (Fr (V.agg [Vu (0:Int),Vb false,Vi (0:Int),V.str (ByteArray.mk #[])]) [])) (by kernel_rfl) ?_
  exact ⟨⟨tv,cb (by simp<;>omega),tv⟩,⟨tv,cb (by simp<;>omega),tv⟩,⟨tv,cb (by simp<;>omega),tv⟩,⟨tv,cb (by simp<;>omega),tv⟩,⟨tv,cb (by simp<;>omega),tv⟩,⟨tv,cb (by simp<;>omega),tv⟩,⟨tv,cb (by simp<;>omega),tv⟩,⟨tv,cb (by simp<;>omega),tv⟩,⟨tv,cb (by simp<;>omega),tv⟩,(Sp.fact (e2)),rfl⟩
 ·rw [if_neg hn]
  rw [decide_eq_false hn] at e2
  refine sp_tree draws (dm:=[]) (fs:=[]) (
   .rw 8010 [] [(10,Vb (Stp.k s==(1:Int)),Vb false)]<|.rw 8013 [] [(13,Vb (Stp.k s==(2:Int)),Vb false)]<|.rw 8014 [] [(14,Vb (Stp.k s==(3:Int)),Vb false)]<|.rw 8020 [] [(20,Vb (Stp.k s==(4:Int)),Vb false)]<|.rw 8025 [] [(25,Vb (Stp.k s==(5:Int)),Vb false)]<|.rw 8030 [] [(30,Vb (Stp.k s==(6:Int)),Vb false)]<|.rw 8037 [] [(37,Vb (Stp.k s==(9:Int)),Vb false)]<|.rw 8045 [] [(45,Vb (Stp.k s==(20:Int)),Vb false)]<|.rw 8046 [] [(46,Vb (Stp.k s==(21:Int)),Vb false)]<|.call 54 (127) ([eVs [x],eV vNull]) ([]) (Fr (Vb false) [])<|.call 59 (128) ([Vu (Stp.k s),eVs [x]]) ([]) (Fr (eV (op1 (Stp.k s) x)) [])<|.ret (Fr (V.agg [Vu (Vl.k (op1 (Stp.k s) x)),Vb (Vl.b (op1 (Stp.k s) x)),Vi (Vl.n (op1 (Stp.k s) x)),V.str (Vl.s (op1 (Stp.k s) x))]) [])) (by kernel_rfl) ?_
  exact ⟨⟨tv,cb (by simp<;>omega),tv⟩,⟨tv,cb (by simp<;>omega),tv⟩,⟨tv,cb (by simp<;>omega),tv⟩,⟨tv,cb (by simp<;>omega),tv⟩,⟨tv,cb (by simp<;>omega),tv⟩,⟨tv,cb (by simp<;>omega),tv⟩,⟨tv,cb (by simp<;>omega),tv⟩,⟨tv,cb (by simp<;>omega),tv⟩,⟨tv,cb (by simp<;>omega),tv⟩,(Sp.fact (e2)),(Sp.fact (e1)),rfl⟩
theorem step2_sp (s:Stp) (row:List Vl) (x y:Vl) (hx:Gv x) (hy:Gv y) (hk:11≤s.k) (hk2:s.k≤21):Sp C1 64 [eS s,eRow row,eVs [x,y]] (eV (step2 s x y)):=by
 have l1:=logic_sp false x y hx.2 hy.2
 have l2:=logic_sp true x y hx.2 hy.2
 by_cases h20:s.k=20
 ·have e:step2 s x y=logV false x y:=by unfold step2;rw [if_pos (.inl h20),h20];rfl
  rw [e]
  clear l2
  refine sp_tree draws (dm:=[]) (fs:=[]) (
   .rw 8010 [] [(10,Vb (Stp.k s==(1:Int)),Vb false)]<|.rw 8013 [] [(13,Vb (Stp.k s==(2:Int)),Vb false)]<|.rw 8014 [] [(14,Vb (Stp.k s==(3:Int)),Vb false)]<|.rw 8020 [] [(20,Vb (Stp.k s==(4:Int)),Vb false)]<|.rw 8025 [] [(25,Vb (Stp.k s==(5:Int)),Vb false)]<|.rw 8030 [] [(30,Vb (Stp.k s==(6:Int)),Vb false)]<|.rw 8037 [] [(37,Vb (Stp.k s==(9:Int)),Vb false)]<|.rw 8045 [] [(45,Vb (Stp.k s==(20:Int)),Vb true)]<|.rw 8049 [] [(49,Vb (Stp.k s==(21:Int)),Vb false)]<|.call 51 (126) ([Vb false,eVs [x,y]]) ([]) (Fr (eV (logV false x y)) [])<|.ret (Fr (V.agg [Vu (Vl.k (logV false x y)),Vb (Vl.b (logV false x y)),Vi (Vl.n (logV false x y)),V.str (Vl.s (logV false x y))]) [])) (by kernel_rfl) ?_
  exact ⟨⟨tv,cb (by simp<;>omega),tv⟩,⟨tv,cb (by simp<;>omega),tv⟩,⟨tv,cb (by simp<;>omega),tv⟩,⟨tv,cb (by simp<;>omega),tv⟩,⟨tv,cb (by simp<;>omega),tv⟩,⟨tv,cb (by simp<;>omega),tv⟩,⟨tv,cb (by simp<;>omega),tv⟩,⟨tv,cb (by simp<;>omega),tv⟩,⟨tv,cb (by simp<;>omega),tv⟩,(Sp.fact (l1)),rfl⟩
 by_cases h21:s.k=21
 ·have e:step2 s x y=logV true x y:=by unfold step2;rw [if_pos (.inr h21),h21];rfl
  rw [e]
  clear l1
  have hq:(s.k==21)=true:=by simp [h21]
  obtain ⟨k,t,n⟩:=s
  dsimp only at h21 h20 hk hk2
  subst h21
  refine sp_tree draws (dm:=[]) (fs:=[]) (
   .call 51 (126) ([Vb true,eVs [x,y]]) ([]) (Fr (eV (logV true x y)) [])<|.ret (Fr (V.agg [Vu (Vl.k (logV true x y)),Vb (Vl.b (logV true x y)),Vi (Vl.n (logV true x y)),V.str (Vl.s (logV true x y))]) [])) (by kernel_rfl) ?_
  exact ⟨(Sp.fact (l2)),rfl⟩
 clear l1 l2
 have e1:=operator2_sp s.k x y hx.1 hy.1 hk (by omega)
 have e2:=contains2_sp vNull x y
 simp only [eqP_null x hx.2,eqP_null y hy.2] at e2
 unfold step2
 rw [if_neg (by omega)]
 by_cases hn:x.k=0∨y.k=0
 ·rw [if_pos hn]
  rw [decide_eq_true hn] at e2
  refine sp_tree draws (dm:=[]) (fs:=[]) (
   .rw 8010 [] [(10,Vb (Stp.k s==(1:Int)),Vb false)]<|.rw 8013 [] [(13,Vb (Stp.k s==(2:Int)),Vb false)]<|.rw 8014 [] [(14,Vb (Stp.k s==(3:Int)),Vb false)]<|.rw 8020 [] [(20,Vb (Stp.k s==(4:Int)),Vb false)]<|.rw 8025 [] [(25,Vb (Stp.k s==(5:Int)),Vb false)]<|.rw 8030 [] [(30,Vb (Stp.k s==(6:Int)),Vb false)]<|.rw 8037 [] [(37,Vb (Stp.k s==(9:Int)),Vb false)]<|.rw 8045 [] [(45,Vb (Stp.k s==(20:Int)),Vb false)]<|.rw 8046 [] [(46,Vb (Stp.k s==(21:Int)),Vb false)]<|.call 54 (127) ([eVs [x,y],eV vNull]) ([]) (Fr (Vb true) [])<|.ret (Fr (V.agg [Vu (0:Int),Vb false,Vi (0:Int),V.str (ByteArray.mk #[])]) [])) (by kernel_rfl) ?_
  exact ⟨⟨tv,cb (by simp<;>omega),tv⟩,⟨tv,cb (by simp<;>omega),tv⟩,⟨tv,cb (by simp<;>omega),tv⟩,⟨tv,cb (by simp<;>omega),tv⟩,⟨tv,cb (by simp<;>omega),tv⟩,⟨tv,cb (by simp<;>omega),tv⟩,⟨tv,cb (by simp<;>omega),tv⟩,⟨tv,cb (by simp<;>omega),tv⟩,⟨tv,cb (by simp<;>omega),tv⟩,(Sp.fact (e2)),rfl⟩
 ·rw [if_neg hn]
  rw [decide_eq_false hn] at e2
  refine sp_tree draws (dm:=[]) (fs:=[]) (
   .rw 8010 [] [(10,Vb (Stp.k s==(1:Int)),Vb false)]<|.rw 8013 [] [(13,Vb (Stp.k s==(2:Int)),Vb false)]<|.rw 8014 [] [(14,Vb (Stp.k s==(3:Int)),Vb false)]<|.rw 8020 [] [(20,Vb (Stp.k s==(4:Int)),Vb false)]<|.rw 8025 [] [(25,Vb (Stp.k s==(5:Int)),Vb false)]<|.rw 8030 [] [(30,Vb (Stp.k s==(6:Int)),Vb false)]<|.rw 8037 [] [(37,Vb (Stp.k s==(9:Int)),Vb false)]<|.rw 8045 [] [(45,Vb (Stp.k s==(20:Int)),Vb false)]<|.rw 8046 [] [(46,Vb (Stp.k s==(21:Int)),Vb false)]<|.call 54 (127) ([eVs [x,y],eV vNull]) ([]) (Fr (Vb false) [])<|.call 59 (128) ([Vu (Stp.k s),eVs [x,y]]) ([]) (Fr (eV (op2 (Stp.k s) x y)) [])<|.ret (Fr (V.agg [Vu (Vl.k (op2 (Stp.k s) x y)),Vb (Vl.b (op2 (Stp.k s) x y)),Vi (Vl.n (op2 (Stp.k s) x y)),V.str (Vl.s (op2 (Stp.k s) x y))]) [])) (by kernel_rfl) ?_
  exact ⟨⟨tv,cb (by simp<;>omega),tv⟩,⟨tv,cb (by simp<;>omega),tv⟩,⟨tv,cb (by simp<;>omega),tv⟩,⟨tv,cb (by simp<;>omega),tv⟩,⟨tv,cb (by simp<;>omega),tv⟩,⟨tv,cb (by simp<;>omega),tv⟩,⟨tv,cb (by simp<;>omega),tv⟩,⟨tv,cb (by simp<;>omega),tv⟩,⟨tv,cb (by simp<;>omega),tv⟩,(Sp.fact (e2)),(Sp.fact (e1)),rfl⟩
end Go.Fw
