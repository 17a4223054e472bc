/- Algebra: AlgebraEvals. -/
import Derived.Test.YtnmfjjfnkhcpkaaGreatDoorPk14
import Derived.DataShut
set_option linter.all false
set_option maxHeartbeats 20000000
namespace Go.Fw
open Go.Proofs
theorem rowGo_gv:∀ (r:List Vl) (l:List Cl),r.length=l.length→(∀ v∈r,FineV v∧I64 v.n)→rowGo r l=0→∀ v∈r,Gv v
 | [],_,_,_,_,v,hv=>by cases hv
 | x::r,[],h,_,_,_,_=>by simp at h
 | x::r,c::l,h,hf,h0,v,hv=>by
  have hc:rowGo (x::r) (c::l)=if chkV x≠0 then chkV x else if x.k≠0∧x.k≠c.k then 5 else rowGo r l:=rfl
  rw [hc] at h0
  have h1:chkV x=0:=by
   apply Classical.byContradiction
   intro hh
   rw [if_pos hh] at h0
   exact hh h0
  rw [if_neg (by simpa using h1)] at h0
  have h2:¬(x.k≠0∧x.k≠c.k):=fun hh=>by rw [if_pos hh] at h0;cases h0
  rw [if_neg h2] at h0
  rcases List.mem_cons.1 hv with rfl | hv
  ·unfold chkV at h1
   split at h1
   ·cases h1
   rename_i hb
   split at h1
   ·cases h1
   rename_i hs
   have hx:=hf v (by simp)
   exact ⟨⟨hx.1,hx.2,by omega⟩,by simpa using hb⟩
  ·exact rowGo_gv r l (by simpa using h) (fun v hv=>hf v (by simp [hv])) h0 v hv
section
variable (l:List Stp) (row:List Vl) (cols:List Cl)
theorem eval_row (k w:Int) (hw:w≠0) (h:Sp C1 18 [eSteps l,eCols cols] (.tup [.int .u8 k,.int .i64 0])) (h2:Sp C1 25 [eRow row,eCols cols] (.int .i64 w)):Sp C1 12 [eSteps l,eRow row,eCols cols] (.tup [eV vNull,.int .i64 w]):=by
 refine sp_tree draws (dm:=[]) (fs:=[]) (
  .call 14 (18) ([eSteps l,eCols cols]) ([]) (Fr (V.tup [Vu k,Vi (0:Int)]) [])<|.call 23 (25) ([eRow row,eCols cols]) ([]) (Fr (Vi w) [])<|.rw 8025 [] [(25,Vb (w !=(0:Int)),Vb true)]<|.ret (Fr (V.tup [V.agg [Vu (0:Int),Vb false,Vi (0:Int),V.str (ByteArray.mk #[])],Vi w]) [])) (by kernel_rfl) ?_
 exact ⟨(Sp.fact (h)),(Sp.fact (h2)),⟨tv,cb (by simp<;>omega),tv⟩,rfl⟩
theorem eval_ok (k:Int) (v:Vl) (h:Sp C1 18 [eSteps l,eCols cols] (.tup [.int .u8 k,.int .i64 0])) (h2:Sp C1 25 [eRow row,eCols cols] (.int .i64 0)) (h3:Sp C1 26 [eSteps l,eRow row] (eV v)):Sp C1 12 [eSteps l,eRow row,eCols cols] (.tup [eV v,.int .i64 0]):=by
 refine sp_tree draws (dm:=[]) (fs:=[]) (
  .call 14 (18) ([eSteps l,eCols cols]) ([]) (Fr (V.tup [Vu k,Vi (0:Int)]) [])<|.call 23 (25) ([eRow row,eCols cols]) ([]) (Fr (Vi (0:Int)) [])<|.call 30 (26) ([eSteps l,eRow row]) ([]) (Fr (eV v) [])<|.ret (Fr (V.tup [V.agg [Vu (Vl.k v),Vb (Vl.b v),Vi (Vl.n v),V.str (Vl.s v)],Vi (0:Int)]) [])) (by kernel_rfl) ?_
 exact ⟨(Sp.fact (h)),(Sp.fact (h2)),(Sp.fact (h3)),rfl⟩
end
end Go.Fw
set_option maxHeartbeats 20000000
namespace Go.Fw
open Go.Proofs
theorem rightGo_app:∀ (l1 l2:List Stp) (n:Int),rightGo (l1++l2) n=(rightGo l1 n).bind (rightGo l2)
 | [],l2,n=>rfl
 | s::l1,l2,n=>by
  rw [List.cons_append]
  unfold rightGo
  split
  ·rfl
  ·exact rightGo_app l1 l2 _
theorem rightGo_up:∀ (l:List Stp) (n m d:Int),0≤d→rightGo l n=some m→rightGo l (n+d)=some (m+d)
 | [],n,m,d,h0,h=>by
  cases h;rfl
 | s::l,n,m,d,h0,h=>by
  unfold rightGo at h ⊢
  split at h
  ·cases h
  ·rename_i hc
   rw [if_neg (fun hh=>hc (hh.imp id (fun h=>by omega)))]
   rw [show n+d+(1-tN s)=n+(1-tN s)+d by omega]
   exact rightGo_up l _ m d h0 h
theorem kindGo_app (cols:List Cl):∀ (l1 l2:List Stp) (st:List Int),kindGo cols (l1++l2) st=(kindGo cols l1 st).bind (kindGo cols l2)
 | [],l2,st=>rfl
 | s::l1,l2,st=>by
  rw [List.cons_append]
  unfold kindGo
  split
  ·exact kindGo_app cols l1 l2 _
  ·split
   ·exact kindGo_app cols l1 l2 _
   ·rfl
theorem valGo_app (row:List Vl):∀ (l1 l2:List Stp) (st:List Vl),valGo row (l1++l2) st=valGo row l2 (valGo row l1 st)
 | [],l2,st=>rfl
 | s::l1,l2,st=>by
  have e:∀ l,valGo row (s::l) st=if s.k=6 then valGo row l (st++[rowV row s.n]) else valGo row l (st.take (st.length-(tkN s).toNat)++[valL s (st.drop (st.length-(tkN s).toNat))]):=fun _=>rfl
  rw [List.cons_append,e,e]
  split
  ·exact valGo_app row l1 l2 _
  ·exact valGo_app row l1 l2 _
theorem tN_at {s:Stp} (h6:s.k≠6) {n:Nat} (h:¬(tOk s=false∨(n:Int)<tN s)):(tkN s).toNat≤n∧tN s=tkN s:=by
 have e1:tN s=tkN s:=by unfold tN;rw [if_neg h6]
 refine ⟨?_,e1⟩
 have:=tkN_range s
 rw [e1] at h
 have h2:¬(n:Int)<tkN s:=fun hh=>h (.inr hh)
 omega
theorem take_up {α:Type} (pre st:List α) (n:Nat) (h:n≤st.length):(pre++st).take ((pre++st).length-n)=pre++st.take (st.length-n)∧(pre++st).drop ((pre++st).length-n)=st.drop (st.length-n):=by
 have e:(pre++st).length-n=pre.length+(st.length-n):=by rw [List.length_append];omega
 rw [e]
 exact ⟨List.take_length_add_append _,List.drop_length_add_append _⟩
theorem kindGo_up (cols:List Cl) (pre:List Int):∀ (l:List Stp) (st:List Int) (m:Int),rightGo l st.length=some m→kindGo cols l (pre++st)=(kindGo cols l st).map (pre++·)
 | [],st,m,h=>rfl
 | s::l,st,m,h=>by
  unfold rightGo at h
  split at h
  ·cases h
  rename_i hc
  unfold kindGo
  by_cases h6:s.k=6
  ·rw [if_pos h6,if_pos h6,List.append_assoc]
   have e1:tN s=0:=by unfold tN;rw [if_pos h6]
   exact kindGo_up cols pre l _ m (by rw [e1] at h;simpa using h)
  ·rw [if_neg h6,if_neg h6]
   obtain ⟨h1,h2⟩:=tN_at h6 hc
   obtain ⟨e1,e2⟩:=take_up pre st _ h1
   rw [e1,e2]
   have:=tkN_range s
   split
   ·rw [List.append_assoc]
    refine kindGo_up cols pre l _ m ?_
    rw [h2] at h
    rw [←h]
    congr 1
    simp
    omega
   ·rfl
theorem valGo_up (row pre:List Vl):∀ (l:List Stp) (st:List Vl) (m:Int),rightGo l st.length=some m→valGo row l (pre++st)=pre++valGo row l st∧((valGo row l st).length:Int)=m
 | [],st,m,h=>by
  cases h;exact ⟨rfl,rfl⟩
 | s::l,st,m,h=>by
  unfold rightGo at h
  split at h
  ·cases h
  rename_i hc
  unfold valGo
  by_cases h6:s.k=6
  ·rw [if_pos h6,if_pos h6,List.append_assoc]
   have e1:tN s=0:=by unfold tN;rw [if_pos h6]
   exact valGo_up row pre l _ m (by rw [e1] at h;simpa using h)
  ·rw [if_neg h6,if_neg h6]
   obtain ⟨h1,h2⟩:=tN_at h6 hc
   obtain ⟨e1,e2⟩:=take_up pre st _ h1
   rw [e1,e2]
   have:=tkN_range s
   rw [List.append_assoc]
   refine valGo_up row pre l _ m ?_
   rw [h2] at h
   rw [←h]
   congr 1
   simp
   omega
theorem kindGo_len (cols:List Cl):∀ (l:List Stp) (st fin:List Int) (m:Int),rightGo l st.length=some m→kindGo cols l st=some fin→(fin.length:Int)=m
 | [],st,fin,m,h,hk=>by
  cases h;cases hk;rfl
 | s::l,st,fin,m,h,hk=>by
  unfold rightGo at h
  split at h
  ·cases h
  rename_i hc
  unfold kindGo at hk
  by_cases h6:s.k=6
  ·rw [if_pos h6] at hk
   have e1:tN s=0:=by unfold tN;rw [if_pos h6]
   exact kindGo_len cols l _ fin m (by rw [e1] at h;simpa using h) hk
  ·rw [if_neg h6] at hk
   obtain ⟨h1,h2⟩:=tN_at h6 hc
   have:=tkN_range s
   split at hk
   ·refine kindGo_len cols l _ fin m ?_ hk
    rw [h2] at h
    rw [←h]
    congr 1
    simp
    omega
   ·cases hk
def OfK (k:Int) (v:Vl):Prop:=0≤k∧(v.k=0∨v.k=k)
theorem kd_step (s:Stp) (ks:List Int) (vs:List Vl) (h1:1≤s.k) (k:Int) (hk:kindL s.k ks=some k) (hl:ks.length=vs.length) (hn:ks.length=(tkN s).toNat):OfK k (valL s vs):=by
 match ks,vs,hl with
 | [],[],_ =>
  cases hk
  simp only [valL]
  unfold OfK kind0 step0
  grind
 | [a],[x],_ =>
  simp only [kindL] at hk
  split at hk
  ·cases hk
   simp only [valL]
   unfold OfK kind1 step1 op1 nV
   grind
  ·cases hk
 | [a,b],[x,y],_ =>
  have h11:11≤s.k:=by
   have hn:2=(tkN s).toNat:=hn
   unfold tkN at hn
   grind
  simp only [kindL] at hk
  split at hk
  ·cases hk
   simp only [valL]
   unfold OfK kind2 step2 logV op2 nV
   grind
  ·cases hk
 | _::_::_::_,_::_::_::_,_=>cases hk
inductive OfKs:List Int→List Vl→Prop
 | nil:OfKs [] []
 | cons {k v ks vs}:OfK k v→OfKs ks vs→OfKs (k::ks) (v::vs)
theorem OfKs.len {ks vs} (h:OfKs ks vs):ks.length=vs.length:=by
 induction h with
 | nil=>rfl
 | cons _ _ ih=>simp [ih]
theorem OfKs.app {ks vs ks' vs'} (h:OfKs ks vs) (h':OfKs ks' vs'):OfKs (ks++ks') (vs++vs'):=by
 induction h with
 | nil=>exact h'
 | cons a _ ih=>exact .cons a ih
theorem OfKs.take {ks vs} (h:OfKs ks vs):∀ n,OfKs (ks.take n) (vs.take n):=by
 induction h with
 | nil=>intro n;simp;exact .nil
 | cons a _ ih =>
  intro n
  cases n with
  | zero=>exact .nil
  | succ n=>exact .cons a (ih n)
theorem OfKs.drop {ks vs} (h:OfKs ks vs):∀ n,OfKs (ks.drop n) (vs.drop n):=by
 induction h with
 | nil=>intro n;simp;exact .nil
 | cons a t ih =>
  intro n
  cases n with
  | zero=>exact .cons a t
  | succ n=>exact ih n
theorem kds_go (cols:List Cl) (row:List Vl) (hcol:∀ n:Int,OfK (colK cols n) (rowV row n)):∀ (l:List Stp) (ks fin:List Int) (vs:List Vl) (m:Int),rightGo l ks.length=some m→OfKs ks vs→kindGo cols l ks=some fin→OfKs fin (valGo row l vs)
 | [],ks,fin,vs,m,h,hd,hk=>by
  cases hk;exact hd
 | s::l,ks,fin,vs,m,h,hd,hk=>by
  unfold rightGo at h
  split at h
  ·cases h
  rename_i hc
  unfold kindGo at hk
  unfold valGo
  by_cases h6:s.k=6
  ·rw [if_pos h6] at hk ⊢
   have e1:tN s=0:=by unfold tN;rw [if_pos h6]
   exact kds_go cols row hcol l _ fin _ m (by rw [e1] at h;simpa using h) (hd.app (.cons (hcol _) .nil)) hk
  ·rw [if_neg h6] at hk ⊢
   obtain ⟨h1,h2⟩:=tN_at h6 hc
   have:=tkN_range s
   have e2:tOk s=tkOk s:=by unfold tOk;rw [if_neg h6]
   have ho:TkOk s:=by
    cases h:tkOk s with
    | false=>exact absurd (.inl (e2.trans h)) hc
    | true=>unfold tkOk at h;simpa using h
   split at hk
   ·rename_i k hkl
    rw [←hd.len]
    refine kds_go cols row hcol l _ fin _ m ?_ ((hd.take _).app (.cons (kd_step s _ _ ho.1 k hkl (hd.drop _).len (by rw [List.length_drop];omega)) .nil)) hk
    rw [h2] at h
    rw [←h]
    congr 1
    simp
    omega
   ·cases hk
theorem rowGo_kd:∀ (r:List Vl) (l:List Cl),rowGo r l=0→r.length=l.length→(∀ c∈l,0≤c.k)→∀ i:Nat,OfK (((l[i]?).map (·.k)).getD 0) ((r[i]?).getD vNull)
 | [],[],_,_,_,i=>by
  simp [OfK]
 | [],_::_,_,h,_,_=>by simp at h
 | _::_,[],_,h,_,_=>by simp at h
 | x::r,c::l,h0,h,hc,i=>by
  have e:rowGo (x::r) (c::l)=if chkV x≠0 then chkV x else if x.k≠0∧x.k≠c.k then 5 else rowGo r l:=rfl
  rw [e] at h0
  have h1:chkV x=0:=by
   apply Classical.byContradiction
   intro hh
   rw [if_pos hh] at h0
   exact hh h0
  rw [if_neg (by simpa using h1)] at h0
  have h2:¬(x.k≠0∧x.k≠c.k):=fun hh=>by rw [if_pos hh] at h0;cases h0
  rw [if_neg h2] at h0
  cases i with
  | zero =>
   simp only [List.getElem?_cons_zero,Option.map_some,Option.getD_some]
   refine ⟨hc c (by simp),?_⟩
   by_cases h3:x.k=0
   ·exact .inl h3
   ·exact .inr (Classical.byContradiction fun h4=>h2 ⟨h3,h4⟩)
  | succ i =>
   simp only [List.getElem?_cons_succ]
   exact rowGo_kd r l h0 (by simpa using h) (fun c hh=>hc c (by simp [hh])) i
theorem eval_of (l:List Stp) (row:List Vl) (cols:List Cl) (hf:∀ s∈l,FineS s∧I64 s.n) (hrb:row.length≤2 ^ 47) (hrf:∀ v∈row,FineV v∧I64 v.n) (hcn:∀ c∈cols,0≤c.k) (hr:rightB l=true) (hc:cols.length≤16) (hx:∀ s∈l,ColOk cols.length s) (fin:List Int) (hg:kindGo cols l []=some fin) :
  Sp C1 12 [eSteps l,eRow row,eCols cols] (.tup [eV (if chkRow row cols=0 then valR l row else vNull),.int .i64 (chkRow row cols)]):=by
 have h1:=kind_ok l cols _ (kof_ok l cols (fun s hs=>(hf s hs).1) hcn hr hc hx fin hg)
 have r1:=row_all row cols hrb (fun v hv=>(hrf v hv).1)
 by_cases hw:chkRow row cols=0
 ·rw [if_pos hw]
  rw [hw] at r1 ⊢
  unfold chkRow at hw
  have hlen:row.length=cols.length:=by
   apply Classical.byContradiction
   intro hh
   rw [if_pos hh] at hw
   cases hw
  rw [if_neg (by simpa using hlen)] at hw
  have hgv:=rowGo_gv row cols hlen hrf hw
  have hx':∀ s∈l,ColOk row.length s:=by rw [hlen];exact hx
  exact eval_ok l row cols _ _ h1 r1 (value_sp l row (fun s hs=>(hf s hs).1) hr (fun s hs=>(hf s hs).2) hx' hgv)
 ·rw [if_neg hw]
  exact eval_row l row cols _ _ hw h1 r1
theorem kindsB (l:List Stp) (cols:List Cl) (hb:l.length≤2 ^ 47) (hf:∀ s∈l,FineS s) (hcn:∀ c∈cols,0≤c.k) :
  (∃ w,w≠0∧Sp C1 18 [eSteps l,eCols cols] (.tup [.int .u8 0,.int .i64 w])) ∨
  (rightB l=true∧cols.length≤16∧(∀ s∈l,ColOk cols.length s)∧∃ fin,kindGo cols l []=some fin∧Sp C1 18 [eSteps l,eCols cols] (.tup [.int .u8 (fin.headD 0),.int .i64 0])):=by
 by_cases hr:rightB l=true
 rotate_left
 ·have hr:rightB l=false:=by simpa using hr
  exact .inl ⟨13,by decide,kind_pan l cols 13 (kof_13 l cols hb hf hr)⟩
 by_cases hc:cols.length≤16
 rotate_left
 ·exact .inl ⟨3,by decide,kind_pan l cols 3 (kof_3 l cols hf hr (by omega))⟩
 by_cases hx:∀ s∈l,ColOk cols.length s
 rotate_left
 ·have hx:∃ s∈l,¬ColOk cols.length s:=by
   apply Classical.byContradiction
   intro hh
   exact hx (fun s hs=>Classical.byContradiction fun h=>hh ⟨s,hs,h⟩)
  exact .inl ⟨2,by decide,kind_pan l cols 2 (kof_2 l cols hf hr hc hx)⟩
 cases hg:kindGo cols l [] with
 | none=>exact .inl ⟨5,by decide,kind_pan l cols 5 (kof_5 l cols hf hcn hr hc hx hg)⟩
 | some fin=>exact .inr ⟨hr,hc,hx,fin,rfl,kind_ok l cols _ (kof_ok l cols hf hcn hr hc hx fin hg)⟩
def Bl (v:Vl):Prop:=v=vNull∨∃ b,v=vBool b
theorem bl_of {k:Int} {v:Vl} (h:OfK k v) (hk:k≤1) (hg:Gv v):Bl v:=by
 obtain ⟨h0,h1⟩:=h
 obtain ⟨_,b0,b1,b2,b3,b4⟩:=hg
 obtain ⟨vk,vb,vn,vs⟩:=v
 dsimp only at *
 have hs:vs=eT:=by
  have:vs.toList=[]:=b4.resolve_left (by omega)
  have hz:vs.size=0:=Classical.byContradiction fun hh=>toList_ne (by omega) this
  obtain ⟨⟨d⟩⟩:=vs
  have hz:d.length=0:=hz
  rw [List.eq_nil_of_length_eq_zero hz]
 have hn:vn=0:=b3.resolve_left (by omega)
 subst hs hn
 rcases h1 with rfl | rfl
 ·exact .inl (by rw [b2.resolve_left (by decide)])
 ·rcases (by omega:vk=0∨vk=1) with rfl | rfl
  ·exact .inl (by rw [b2.resolve_left (by decide)])
  ·exact .inr ⟨vb,rfl⟩
abbrev nS (k:Int):Stp:=⟨k,eT,0⟩
theorem nS_ok (k:Int) (h1:1≤k) (h2:k<22) (h4:k≠4) (h5:k≠5):TkOk (nS k):=⟨h1,h2,.inr (toList_nil rfl),.inr rfl,fun h=>absurd h h5⟩
theorem nS_fine (k:Int) (h1:1≤k) (h2:k<22):FineS (nS k)∧I64 (nS k).n:=⟨⟨by show (0:Nat)≤_;omega,by show 0≤k;omega,by show k≤255;omega⟩,i64_z⟩
theorem nS_n1 (k:Int) (h1:7≤k) (h2:k≤10):tkN (nS k)=1∧tOk (nS k)=true∧tN (nS k)=1:=by
 have ho:=nS_ok k (by omega) (by omega) (by omega) (by omega)
 have e:tkN (nS k)=1:=by unfold tkN;rw [if_neg (by simpa using ho),if_neg (by show ¬k<7;omega),if_pos h2]
 refine ⟨e,?_,?_⟩
 ·unfold tOk tkOk;rw [if_neg (by show ¬k=6;omega)];simpa using ho
 ·unfold tN;rw [if_neg (by show ¬k=6;omega)];exact e
theorem nS_n2 (k:Int) (h1:11≤k) (h2:k≤21):tkN (nS k)=2∧tOk (nS k)=true∧tN (nS k)=2:=by
 have ho:=nS_ok k (by omega) (by omega) (by omega) (by omega)
 have e:tkN (nS k)=2:=by unfold tkN;rw [if_neg (by simpa using ho),if_neg (by show ¬k<7;omega),if_neg (by show ¬k≤10;omega)]
 refine ⟨e,?_,?_⟩
 ·unfold tOk tkOk;rw [if_neg (by show ¬k=6;omega)];simpa using ho
 ·unfold tN;rw [if_neg (by show ¬k=6;omega)];exact e
theorem right_1 (k:Int) (h1:7≤k) (h2:k≤10) (n:Int) (hn:1≤n) (l:List Stp):rightGo (nS k::l) n=rightGo l n:=by
 have e:rightGo (nS k::l) n=if tOk (nS k)=false∨n<tN (nS k) then none else rightGo l (n+(1-tN (nS k))):=rfl
 rw [e,(nS_n1 k h1 h2).2.1,(nS_n1 k h1 h2).2.2,if_neg (by simp;omega),show n+(1-1)=n by omega]
theorem right_2 (k:Int) (h1:11≤k) (h2:k≤21) (n:Int) (hn:2≤n) (l:List Stp):rightGo (nS k::l) n=rightGo l (n-1):=by
 have e:rightGo (nS k::l) n=if tOk (nS k)=false∨n<tN (nS k) then none else rightGo l (n+(1-tN (nS k))):=rfl
 rw [e,(nS_n2 k h1 h2).2.1,(nS_n2 k h1 h2).2.2,if_neg (by simp;omega),show n+(1-2)=n-1 by omega]
theorem kind_1 (k:Int) (h1:7≤k) (h2:k≤10) (cols:List Cl) (pre:List Int) (x:Int) (l:List Stp):kindGo cols (nS k::l) (pre++[x])=if kind1ok k x then kindGo cols l (pre++[kind1 k]) else none:=by
 have e:kindGo cols (nS k::l) (pre++[x])=if (nS k).k=6 then kindGo cols l ((pre++[x])++[colK cols (nS k).n]) else match kindL (nS k).k ((pre++[x]).drop ((pre++[x]).length-(tkN (nS k)).toNat)) with
  | some k'=>kindGo cols l ((pre++[x]).take ((pre++[x]).length-(tkN (nS k)).toNat)++[k'])
  | none=>none:=rfl
 obtain ⟨d1,d2⟩:=drop_pre pre [x] 1 rfl
 rw [e,if_neg (by show ¬k=6;omega),(nS_n1 k h1 h2).1,show (1:Int).toNat=1 from rfl,d1,d2]
 show (match (if kind1ok k x then some (kind1 k) else none) with | some k'=>_ | none=>_)=_
 split<;>simp_all
theorem kind_2 (k:Int) (h1:11≤k) (h2:k≤21) (cols:List Cl) (pre:List Int) (x y:Int) (l:List Stp):kindGo cols (nS k::l) (pre++[x,y])=if kind2ok k x y then kindGo cols l (pre++[kind2 k]) else none:=by
 have e:kindGo cols (nS k::l) (pre++[x,y])=if (nS k).k=6 then kindGo cols l ((pre++[x,y])++[colK cols (nS k).n]) else match kindL (nS k).k ((pre++[x,y]).drop ((pre++[x,y]).length-(tkN (nS k)).toNat)) with
  | some k'=>kindGo cols l ((pre++[x,y]).take ((pre++[x,y]).length-(tkN (nS k)).toNat)++[k'])
  | none=>none:=rfl
 obtain ⟨d1,d2⟩:=drop_pre pre [x,y] 2 rfl
 rw [e,if_neg (by show ¬k=6;omega),(nS_n2 k h1 h2).1,show (2:Int).toNat=2 from rfl,d1,d2]
 show (match (if kind2ok k x y then some (kind2 k) else none) with | some k'=>_ | none=>_)=_
 split<;>simp_all
theorem val_1 (k:Int) (h1:7≤k) (h2:k≤10) (row pre:List Vl) (x:Vl) (l:List Stp):valGo row (nS k::l) (pre++[x])=valGo row l (pre++[step1 (nS k) x]):=by
 have e:valGo row (nS k::l) (pre++[x])=if (nS k).k=6 then valGo row l ((pre++[x])++[rowV row (nS k).n]) else valGo row l ((pre++[x]).take ((pre++[x]).length-(tkN (nS k)).toNat)++[valL (nS k) ((pre++[x]).drop ((pre++[x]).length-(tkN (nS k)).toNat))]):=rfl
 obtain ⟨d1,d2⟩:=drop_prev pre [x] 1 rfl
 rw [e,if_neg (by show ¬k=6;omega),(nS_n1 k h1 h2).1,show (1:Int).toNat=1 from rfl,d1,d2]
 rfl
theorem val_2 (k:Int) (h1:11≤k) (h2:k≤21) (row pre:List Vl) (x y:Vl) (l:List Stp):valGo row (nS k::l) (pre++[x,y])=valGo row l (pre++[step2 (nS k) x y]):=by
 have e:valGo row (nS k::l) (pre++[x,y])=if (nS k).k=6 then valGo row l ((pre++[x,y])++[rowV row (nS k).n]) else valGo row l ((pre++[x,y]).take ((pre++[x,y]).length-(tkN (nS k)).toNat)++[valL (nS k) ((pre++[x,y]).drop ((pre++[x,y]).length-(tkN (nS k)).toNat))]):=rfl
 obtain ⟨d1,d2⟩:=drop_prev pre [x,y] 2 rfl
 rw [e,if_neg (by show ¬k=6;omega),(nS_n2 k h1 h2).1,show (2:Int).toNat=2 from rfl,d1,d2]
 rfl
theorem logic_law {x y:Vl} (hx:Bl x) (hy:Bl y):step1 (nS 8) (step2 (nS 20) x y)=step2 (nS 21) (step1 (nS 8) x) (step1 (nS 8) y)∧step1 (nS 8) (step2 (nS 14) x y)=step2 (nS 15) x y:=by
 rcases hx with rfl | ⟨b,rfl⟩<;>rcases hy with rfl | ⟨c,rfl⟩
 ·simp [step1,step2,logV,isB,op1,op2]
 ·cases c<;>simp [step1,step2,logV,isB,op1,op2]
 ·cases b<;>simp [step1,step2,logV,isB,op1,op2]
 ·cases b<;>cases c<;>simp [step1,step2,logV,isB,op1,op2,cmpK,cmpV]
structure Fits (l:List Stp) (cols:List Cl) (k:Int):Prop where
 fine:∀ s∈l,FineS s∧I64 s.n
 col:∀ s∈l,ColOk cols.length s
 right:rightGo l 0=some 1
 kind:kindGo cols l []=some [k]
 le:0≤k∧k≤1
theorem Fits.r {l:List Stp} {cols:List Cl} {k:Int} (h:Fits l cols k) (n:Int) (hn:0≤n) (l2:List Stp):rightGo (l++l2) n=rightGo l2 (n+1):=by
 have:=rightGo_up l 0 1 n hn h.right
 rw [show (0:Int)+n=n by omega,show 1+n=n+1 by omega] at this
 rw [rightGo_app,this]
 rfl
theorem Fits.k {l:List Stp} {cols:List Cl} {k:Int} (h:Fits l cols k) (pre:List Int) (l2:List Stp):kindGo cols (l++l2) pre=kindGo cols l2 (pre++[k]):=by
 have:=kindGo_up cols pre l [] 1 h.right
 rw [List.append_nil,h.kind] at this
 rw [kindGo_app,this]
 rfl
theorem Fits.v {l:List Stp} {cols:List Cl} {k:Int} (h:Fits l cols k) (row pre:List Vl) (l2:List Stp):valGo row (l++l2) pre=valGo row l2 (pre++[valR l row]):=by
 have h1:=(valGo_up row pre l [] 1 h.right).1
 have h2:=(valGo_up row [] l [] 1 h.right).2
 obtain ⟨x,hx⟩:∃ x,valGo row l []=[x]:=List.length_eq_one_iff.1 (by omega)
 rw [List.append_nil,hx] at h1
 rw [valGo_app,h1]
 unfold valR
 rw [hx]
 rfl
theorem Fits.bl {l:List Stp} {cols:List Cl} {k:Int} (h:Fits l cols k) (row:List Vl) (hrb:row.length≤2 ^ 47) (hrf:∀ v∈row,FineV v∧I64 v.n) (hcn:∀ c∈cols,0≤c.k) (hb:l.length≤64) (hw:chkRow row cols=0):Bl (valR l row):=by
 unfold chkRow at hw
 have hlen:row.length=cols.length:=by
  apply Classical.byContradiction
  intro hh
  rw [if_pos hh] at hw
  cases hw
 rw [if_neg (by simpa using hlen)] at hw
 have hgv:=rowGo_gv row cols hlen hrf hw
 have hd:=kds_go cols row (fun n=>rowGo_kd row cols hw hlen hcn n.toNat) l [] [k] [] 1 h.right .nil h.kind
 obtain ⟨g1,g2,_⟩:=roundsV l row _ (v26l l row hb (fun s hs=>(h.fine s hs).1)) (fun s hs=>(h.fine s hs).2) (by rw [hlen];exact h.col) hgv 1 l.length 0 [] (by omega) (by simp) (by simp) h.right
 rw [List.drop_zero] at g1 g2
 obtain ⟨x,hx⟩:∃ x,valGo row l []=[x]:=List.length_eq_one_iff.1 (by omega)
 rw [hx] at hd g2
 unfold valR
 rw [hx]
 cases hd with
 | cons hk _=>exact bl_of hk h.le.2 (g2 x (by simp))
theorem nS_col (k:Int) (h6:k≠6) (n:Int):ColOk n (nS k):=fun h=>absurd h h6
section
variable (a b:List Stp) (row:List Vl) (cols:List Cl) (ka kb:Int) (ha:Fits a cols ka) (hb:Fits b cols kb) (hlen:a.length+b.length+3≤64) (hc:cols.length≤16) (hrb:row.length≤2 ^ 47) (hrf:∀ v∈row,FineV v∧I64 v.n) (hcn:∀ c∈cols,0≤c.k)
include ha hb hlen hc hrb hrf hcn
theorem eval_join (l:List Stp) (z:Vl) (hl:∀ s∈l,s∈a∨s∈b∨∃ k:Int,1≤k∧k<22∧k≠6∧s=nS k) (hn:l.length≤a.length+b.length+3) (hr:rightGo l 0=some 1) (hk:∃ fin,kindGo cols l []=some fin) (hv:valGo row l []=[z]) :
  Sp C1 12 [eSteps l,eRow row,eCols cols] (.tup [eV (if chkRow row cols=0 then z else vNull),.int .i64 (chkRow row cols)]):=by
 obtain ⟨fin,hk⟩:=hk
 have hz:valR l row=z:=by unfold valR;rw [hv];rfl
 rw [←hz]
 refine eval_of l row cols (fun s hs=>?_) hrb hrf hcn ?_ hc (fun s hs=>?_) fin hk
 ·rcases hl s hs with h | h | ⟨k,h1,h2,_,rfl⟩
  ·exact ha.fine s h
  ·exact hb.fine s h
  ·exact nS_fine k h1 h2
 ·unfold rightB
  rw [hr]
  simp
  omega
 ·rcases hl s hs with h | h | ⟨k,_,_,h6,rfl⟩
  ·exact ha.col s h
  ·exact hb.col s h
  ·exact nS_col k h6 _
theorem joins:let w:=chkRow row cols
  let va:=valR a row
  let vb:=valR b row
  let out:=fun (l:List Stp) (z:Vl)=>Sp C1 12 [eSteps l,eRow row,eCols cols] (.tup [eV (if w=0 then z else vNull),.int .i64 w])
  out (a++(b++([nS 20]++[nS 8]))) (step1 (nS 8) (step2 (nS 20) va vb)) ∧
  out (a++([nS 8]++(b++([nS 8]++[nS 21])))) (step2 (nS 21) (step1 (nS 8) va) (step1 (nS 8) vb)) ∧
  out (a++(b++([nS 14]++[nS 8]))) (step1 (nS 8) (step2 (nS 14) va vb)) ∧
  out (a++(b++[nS 15])) (step2 (nS 15) va vb):=by
 have hk:=ha.le
 have hk':=hb.le
 have c1:ka=0∨ka=1:=by omega
 have c2:kb=0∨kb=1:=by omega
 have m:∀ k w:Int,1≤k→k<22→k≠6→w=k→(nS w∈a∨nS w∈b∨∃ k':Int,1≤k'∧k'<22∧k'≠6∧nS w=nS k'):=fun k w h1 h2 h3 h=>.inr (.inr ⟨w,by omega,by omega,by omega,rfl⟩)
 dsimp only
 refine ⟨eval_join a b row cols ka kb ha hb hlen hc hrb hrf hcn _ _ ?_ ?_ ?_ ?_ ?_,eval_join a b row cols ka kb ha hb hlen hc hrb hrf hcn _ _ ?_ ?_ ?_ ?_ ?_,eval_join a b row cols ka kb ha hb hlen hc hrb hrf hcn _ _ ?_ ?_ ?_ ?_ ?_,eval_join a b row cols ka kb ha hb hlen hc hrb hrf hcn _ _ ?_ ?_ ?_ ?_ ?_⟩
 ·intro s hs
  simp only [List.mem_append,List.mem_singleton] at hs
  rcases hs with h | h | rfl | rfl
  ·exact .inl h
  ·exact .inr (.inl h)
  ·exact m 20 20 (by omega) (by omega) (by omega) rfl
  ·exact m 8 8 (by omega) (by omega) (by omega) rfl
 ·simp;omega
 ·rw [ha.r 0 (by omega),hb.r _ (by omega)]
  show rightGo (nS 20::[nS 8]) _=_
  rw [right_2 20 (by omega) (by omega) _ (by omega),right_1 8 (by omega) (by omega) _ (by omega)]
  rfl
 ·rw [ha.k,hb.k]
  show ∃ fin,kindGo cols (nS 20::[nS 8]) ([]++[ka]++[kb])=_
  have:([]++[ka]++[kb]:List Int)=[]++[ka,kb]:=rfl
  rw [this,kind_2 20 (by omega) (by omega),if_pos (by rcases c1 with rfl | rfl<;>rcases c2 with rfl | rfl<;>decide),kind_1 8 (by omega) (by omega),if_pos (by decide)]
  exact ⟨_,rfl⟩
 ·rw [ha.v,hb.v]
  show valGo row (nS 20::[nS 8]) ([]++[_,_])=_
  rw [val_2 20 (by omega) (by omega),val_1 8 (by omega) (by omega)]
  rfl
 ·intro s hs
  simp only [List.mem_append,List.mem_singleton] at hs
  rcases hs with h | rfl | h | rfl | rfl
  ·exact .inl h
  ·exact m 8 8 (by omega) (by omega) (by omega) rfl
  ·exact .inr (.inl h)
  ·exact m 8 8 (by omega) (by omega) (by omega) rfl
  ·exact m 21 21 (by omega) (by omega) (by omega) rfl
 ·simp;omega
 ·rw [ha.r 0 (by omega)]
  show rightGo (nS 8::(b++_)) _=_
  rw [right_1 8 (by omega) (by omega) _ (by omega),hb.r _ (by omega)]
  show rightGo (nS 8::[nS 21]) _=_
  rw [right_1 8 (by omega) (by omega) _ (by omega),right_2 21 (by omega) (by omega) _ (by omega)]
  rfl
 ·rw [ha.k]
  show ∃ fin,kindGo cols (nS 8::(b++_)) ([]++[ka])=_
  rw [kind_1 8 (by omega) (by omega),if_pos (by rcases c1 with rfl | rfl<;>decide),hb.k]
  show ∃ fin,kindGo cols (nS 8::[nS 21]) ([kind1 8]++[kb])=_
  rw [kind_1 8 (by omega) (by omega),if_pos (by rcases c2 with rfl | rfl<;>decide)]
  show ∃ fin,kindGo cols (nS 21::[]) ([]++[kind1 8,kind1 8])=_
  rw [kind_2 21 (by omega) (by omega),if_pos (by decide)]
  exact ⟨_,rfl⟩
 ·rw [ha.v]
  show valGo row (nS 8::(b++_)) ([]++[_])=_
  rw [val_1 8 (by omega) (by omega),hb.v]
  show valGo row (nS 8::[nS 21]) ([step1 (nS 8) _]++[_])=_
  rw [val_1 8 (by omega) (by omega)]
  show valGo row (nS 21::[]) ([]++[_,_])=_
  rw [val_2 21 (by omega) (by omega)]
  rfl
 ·intro s hs
  simp only [List.mem_append,List.mem_singleton] at hs
  rcases hs with h | h | rfl | rfl
  ·exact .inl h
  ·exact .inr (.inl h)
  ·exact m 14 14 (by omega) (by omega) (by omega) rfl
  ·exact m 8 8 (by omega) (by omega) (by omega) rfl
 ·simp;omega
 ·rw [ha.r 0 (by omega),hb.r _ (by omega)]
  show rightGo (nS 14::[nS 8]) _=_
  rw [right_2 14 (by omega) (by omega) _ (by omega),right_1 8 (by omega) (by omega) _ (by omega)]
  rfl
 ·rw [ha.k,hb.k]
  have:([]++[ka]++[kb]:List Int)=[]++[ka,kb]:=rfl
  show ∃ fin,kindGo cols (nS 14::[nS 8]) ([]++[ka]++[kb])=_
  rw [this,kind_2 14 (by omega) (by omega),if_pos (by rcases c1 with rfl | rfl<;>rcases c2 with rfl | rfl<;>decide),kind_1 8 (by omega) (by omega),if_pos (by decide)]
  exact ⟨_,rfl⟩
 ·rw [ha.v,hb.v]
  show valGo row (nS 14::[nS 8]) ([]++[_,_])=_
  rw [val_2 14 (by omega) (by omega),val_1 8 (by omega) (by omega)]
  rfl
 ·intro s hs
  simp only [List.mem_append,List.mem_singleton] at hs
  rcases hs with h | h | rfl
  ·exact .inl h
  ·exact .inr (.inl h)
  ·exact m 15 15 (by omega) (by omega) (by omega) rfl
 ·simp;omega
 ·rw [ha.r 0 (by omega),hb.r _ (by omega)]
  show rightGo (nS 15::[]) _=_
  rw [right_2 15 (by omega) (by omega) _ (by omega)]
  rfl
 ·rw [ha.k,hb.k]
  have:([]++[ka]++[kb]:List Int)=[]++[ka,kb]:=rfl
  show ∃ fin,kindGo cols (nS 15::[]) ([]++[ka]++[kb])=_
  rw [this,kind_2 15 (by omega) (by omega),if_pos (by rcases c1 with rfl | rfl<;>rcases c2 with rfl | rfl<;>decide)]
  exact ⟨_,rfl⟩
 ·rw [ha.v,hb.v]
  show valGo row (nS 15::[]) ([]++[_,_])=_
  rw [val_2 15 (by omega) (by omega)]
  rfl
end
end Go.Fw
set_option maxHeartbeats 20000000
namespace Go.Fw
open Go.Proofs
abbrev Pt:=Bool×List Stp
def ptsL (ps:List Pt):List Stp:=ps.flatMap (·.2)
theorem ptsL_cons (p:Pt) (ps:List Pt):ptsL (p::ps)=p.2++ptsL ps:=rfl
abbrev eP (p:Pt):V:=.imm p.1 3 (p.2.map eS)
abbrev ePs (ps:List Pt):V:=.imm true 1 (ps.map eP)
abbrev KJ:List (Nat×Fm):=[(3,.of (.lin 56 3)),(6,.of .keep),(7,.of .keep),(8,.of .keep)]
abbrev SJ (ps:List Pt) (os:List Stp) (i:Nat):St:=mkSt 17 [(3,.lin true 56 3 (os.map eS)),(6,ePs ps),(7,.int .i64 (ps.length:Int)),(8,.int .i64 (i:Int))] []
theorem join_map (os l:List Stp):os.map eS++l.map eS=(os++l).map eS:=List.map_append.symm
theorem joinl (ps:List Pt) (hb:ps.length≤64):∀ k i (os:List Stp),i+k=ps.length→os.length+(ptsL (ps.drop i)).length≤64→LoopK C1 22 24 KJ (SJ ps os i) (.exit 0) (mkSt 17 [(3,.lin true 56 3 ((os++ptsL (ps.drop i)).map eS))] [])
 | 0,i,os,h,ho=>by
  rw [List.drop_eq_nil_of_le (by omega)]
  show LoopK C1 22 24 KJ (SJ ps os i) (.exit 0) (mkSt 17 [(3,.lin true 56 3 ((os++[]).map eS))] [])
  rw [List.append_nil]
  refine loop_tree draws (rd:=true) (kn:=KJ) (ke:=[(3,.of (.lin 56 3))]) (
   .rw 8009 [] [(9,Vb (decide ((↑i:Int)<(↑(List.length ps):Int))),Vb false)]<|.ret ((Ex.exit 0,mkSt 17 [(3,V.lin true 56 3 (List.map eS os))] []))) (by kernel_rfl) ?_
  exact ⟨⟨tv,cb (by simp<;>omega),tv⟩,rfl,rfl⟩
 | k+1,i,os,h,ho=>by
  obtain ⟨p,hp⟩:∃ p,ps[i]?=some p:=⟨ps[i]'(by omega),List.getElem?_eq_getElem (by omega)⟩
  have hd:ps.drop i=p::ps.drop (i+1):=by
   obtain ⟨h1,rfl⟩:=List.getElem?_eq_some_iff.1 hp
   exact List.drop_eq_getElem_cons h1
  rw [hd,ptsL_cons] at ho
  rw [hd,ptsL_cons,←List.append_assoc]
  have ih:=joinl ps hb k (i+1) (os++p.2) (by omega) (by rw [List.length_append] at ho ⊢;omega)
  have e2:((os.map eS).length+(p.2.map eS).length)*32≤140737488355328:=by
   rw [List.length_append] at ho
   rw [List.length_map,List.length_map]
   omega
  refine loop_tree draws (rd:=true) (kn:=KJ) (ke:=[(3,.of (.lin 56 3))]) (
   .rw 8009 [] [(9,Vb (decide ((↑i:Int)<(↑(List.length ps):Int))),Vb true)]<|.opt 10 (idx (List.map eP ps) (↑i:Int)) (eP p)<|.chk 14 (decide ((List.length (List.map eS os)+List.length (List.map eS p.2))*32≤140737488355328))<|.rw 8014 [] [(14,V.lin true 56 3 (List.map eS os++List.map eS p.2),V.lin true 56 3 (List.map eS (os++p.2)))]<|.rw 8015 [] [(15,Vi (IntKind.wrap IntKind.i64 ((↑i:Int)+(1:Int))),Vi (↑(i+1):Int))]<|.ret (.normal,SJ ps (os++Prod.snd p) (i+1))) (by kernel_rfl) ?_
  exact ⟨⟨tv,cb (by grind),tv⟩,(idx_map _ hp),by exact decide_eq_true e2,⟨tv,by simp (disch:=omega) only [join_map],tv⟩,⟨tv,by simp (disch:=omega) only [cast_succ,wrap_i64],tv⟩,(ih)⟩
theorem join_sp (ps:List Pt) (hb:ps.length≤64) (h:(ptsL ps).length≤64):Sp C1 22 [ePs ps] (eSteps (ptsL ps)):=by
 have hl:=joinl ps hb ps.length 0 [] (by omega) (by simpa using h)
 refine sp_tree draws (dm:=[0]) (fs:=[.of (.imm 3)]) (
  .rw 8007 [] [(7,Vi (↑(List.length (List.map eP ps)):Int),Vi (↑(List.length ps):Int))]<|.loop 24 false (KJ) (SJ ps [] 0) (Ex.exit 0) (mkSt 17 [(3,V.lin true 56 3 (List.map eS ([]++ptsL (List.drop 0 ps))))] [])<|.rw 8016 [] [(3,V.lin false 56 3 (List.map eS ([]++ptsL (List.drop 0 ps))),V.lin false 56 3 (List.map eS (ptsL (List.drop 0 ps)))),(16,V.imm false 3 (List.map eS ([]++ptsL (List.drop 0 ps))),V.imm false 3 (List.map eS (ptsL (List.drop 0 ps))))]<|.ret (Fr (V.imm false 3 (List.map eS (ptsL (List.drop 0 ps)))) [])) (by kernel_rfl) ?_
 exact ⟨⟨tv,by simp (disch:=omega) only [List.length_map],tv⟩,(LoopR.weak (hl)),⟨tv,by simp (disch:=omega) only [List.nil_append],by simp (disch:=omega) only [List.nil_append],tv⟩,rfl⟩
end Go.Fw
set_option maxHeartbeats 20000000
namespace Go.Fw
open Go.Proofs
section
variable (a b:List Stp) (row:List Vl) (cols:List Cl) (x y w u:Int) (ha:a.length≤2 ^ 47) (hb:b.length≤2 ^ 47) (h1:Sp C1 18 [eSteps a,eCols cols] (.tup [.int .u8 x,.int .i64 w])) (h2:Sp C1 18 [eSteps b,eCols cols] (.tup [.int .u8 y,.int .i64 u]))
include ha hb h1 h2
theorem logic_out (h:w≠0∨u≠0∨1<x∨1<y∨64<a.length+b.length+3):Sp C1 7 [eSteps a,eSteps b,eRow row,eCols cols] (.bool true):=by
 refine sp_tree draws (dm:=[]) (fs:=[]) (
  .call 25 (14) ([]) ([]) (Fr (Vb true) [])<|.call 30 (18) ([eSteps a,eCols cols]) ([]) (Fr (V.tup [Vu x,Vi w]) [])<|.call 36 (18) ([eSteps b,eCols cols]) ([]) (Fr (V.tup [Vu y,Vi u]) [])<|.ite 1042 ((w !=(0:Int))==false)
  (.rw 8042 [] [(40,Vb (w !=(0:Int)),Vb false)]<|.tt 1043 ((w !=(0:Int))==false)<|.ff 44 (w !=(0:Int))<|.ite 1046 ((u !=(0:Int))==false)
  (.rw 8046 [] [(41,Vb (w !=(0:Int)),Vb false),(43,Vb (u !=(0:Int)),Vb false)]<|.tt 1047 ((u !=(0:Int))==false)<|.ff 48 (u !=(0:Int))<|.ite 1050 (decide (x>(1:Int))==false)
  (.rw 8050 [] [(44,Vb (u !=(0:Int)),Vb false),(47,Vb (decide (x>(1:Int))),Vb false)]<|.tt 1051 (decide (x>(1:Int))==false)<|.ff 52 (decide (x>(1:Int)))<|.ite 1054 (decide (y>(1:Int))==false)
  (.rw 8054 [] [(45,Vb (u !=(0:Int)),Vb false),(48,Vb (decide (x>(1:Int))),Vb false),(51,Vb (decide (y>(1:Int))),Vb false)]<|.tt 1055 (decide (y>(1:Int))==false)<|.rw 8055 [] [(55,Vi (↑(List.length (List.map eS a)):Int),Vi (↑(List.length a):Int))]<|.tt 1056 (decide (y>(1:Int))==false)<|.tt 1057 (decide (y>(1:Int))==false)<|.rw 8057 [] [(57,Vi (↑(List.length (List.map eS b)):Int),Vi (↑(List.length b):Int))]<|.tt 1058 (decide (y>(1:Int))==false)<|.rw 8058 [] [(58,Vi (IntKind.wrap IntKind.i64 ((↑(List.length a):Int)+(↑(List.length b):Int))),Vi ((↑(List.length a):Int)+(↑(List.length b):Int)))]<|.tt 1059 (decide (y>(1:Int))==false)<|.rw 8059 [] [(59,Vi (IntKind.wrap IntKind.i64 ((↑(List.length a):Int)+(↑(List.length b):Int)+(3:Int))),Vi ((↑(List.length a):Int)+(↑(List.length b):Int)+(3:Int)))]<|.tt 1060 (decide (y>(1:Int))==false)<|.rw 8060 [] [(60,Vb (decide ((↑(List.length a):Int)+(↑(List.length b):Int)+(3:Int)>(64:Int))),Vb true)]<|.ff 61 (decide (y>(1:Int)))<|.ret (Fr (Vb true) []))
  (.ff 1055 (decide (y>(1:Int))==false)<|.ff 1056 (decide (y>(1:Int))==false)<|.ff 1057 (decide (y>(1:Int))==false)<|.ff 1058 (decide (y>(1:Int))==false)<|.ff 1059 (decide (y>(1:Int))==false)<|.ff 1060 (decide (y>(1:Int))==false)<|.tt 61 (decide (y>(1:Int)))<|.ret (Fr (Vb true) [])))
  (.ff 1051 (decide (x>(1:Int))==false)<|.tt 52 (decide (x>(1:Int)))<|.ret (Fr (Vb true) [])))
  (.ff 1047 ((u !=(0:Int))==false)<|.tt 48 (u !=(0:Int))<|.ret (Fr (Vb true) [])))
  (.ff 1043 ((w !=(0:Int))==false)<|.tt 44 (w !=(0:Int))<|.ret (Fr (Vb true) []))) (by kernel_rfl) ?_
 exact ⟨(Sp.fact (lives_sp)),(Sp.fact (h1)),(Sp.fact (h2)),fun h0=>have h0p:w=(0:Int):=(by simpa using h0);⟨⟨tv,cb (by simp<;>omega),tv⟩,(h0),by simp<;>omega,fun h1=>have h1p:u=(0:Int):=(by simpa using h1);⟨⟨tv,cb (by simp<;>omega),cb (by simp<;>omega),tv⟩,(h1),by simp<;>omega,fun h2=>have h2p:x≤(1:Int):=(by simpa using h2);⟨⟨tv,cb (by simp<;>omega),cb (by simp<;>omega),tv⟩,(h2),by simp<;>omega,fun h3=>have h3p:y≤(1:Int):=(by simpa using h3);⟨⟨tv,cb (by simp<;>omega),cb (by simp<;>omega),cb (by simp<;>omega),tv⟩,(h3),⟨tv,by simp (disch:=omega) only [List.length_map],tv⟩,(h3),(h3),⟨tv,by simp (disch:=omega) only [List.length_map],tv⟩,(h3),⟨tv,by simp (disch:=omega) only [wrap_i64],tv⟩,(h3),⟨tv,by simp (disch:=omega) only [wrap_i64],tv⟩,(h3),⟨tv,cb (by simp<;>omega),tv⟩,by simp<;>omega,rfl⟩,
  fun h3=>have h3p:(1:Int)<y:=(by simpa using h3);⟨(h3),(h3),(h3),(h3),(h3),(h3),by simp<;>omega,rfl⟩⟩,
  fun h2=>have h2p:(1:Int)<x:=(by simpa using h2);⟨(h2),by simp<;>omega,rfl⟩⟩,
  fun h1=>have h1p:¬u=(0:Int):=(by simpa using h1);⟨(h1),by simp<;>omega,rfl⟩⟩,
  fun h0=>have h0p:¬w=(0:Int):=(by simpa using h0);⟨(h0),by simp<;>omega,rfl⟩⟩
theorem logic_in (hw:w=0) (hu:u=0) (hx:x≤1) (hy:y≤1) (hl:a.length+b.length+3≤64) (t:Int) (z1 z2:Vl) (l1 l2 l3 l4:List Stp)
  (j1:Sp C1 22 [ePs [(false,a),(false,b),(true,[nS 20]),(true,[nS 8])]] (eSteps l1))
  (j2:Sp C1 22 [ePs [(false,a),(true,[nS 8]),(false,b),(true,[nS 8]),(true,[nS 21])]] (eSteps l2))
  (j3:Sp C1 22 [ePs [(false,a),(false,b),(true,[nS 14]),(true,[nS 8])]] (eSteps l3))
  (j4:Sp C1 22 [ePs [(false,a),(false,b),(true,[nS 15])]] (eSteps l4))
  (e1:Sp C1 12 [eSteps l1,eRow row,eCols cols] (.tup [eV z1,.int .i64 t]))
  (e2:Sp C1 12 [eSteps l2,eRow row,eCols cols] (.tup [eV z1,.int .i64 t]))
  (e3:Sp C1 12 [eSteps l3,eRow row,eCols cols] (.tup [eV z2,.int .i64 t]))
  (e4:Sp C1 12 [eSteps l4,eRow row,eCols cols] (.tup [eV z2,.int .i64 t])):Sp C1 7 [eSteps a,eSteps b,eRow row,eCols cols] (.bool true):=by
 subst hw hu
 refine sp_tree draws (dm:=[]) (fs:=[]) (
  .call 25 (14) ([]) ([]) (Fr (Vb true) [])<|.call 30 (18) ([eSteps a,eCols cols]) ([]) (Fr (V.tup [Vu x,Vi (0:Int)]) [])<|.call 36 (18) ([eSteps b,eCols cols]) ([]) (Fr (V.tup [Vu y,Vi (0:Int)]) [])<|.rw 8047 [] [(47,Vb (decide (x>(1:Int))),Vb false)]<|.rw 8051 [] [(51,Vb (decide (y>(1:Int))),Vb false)]<|.rw 8055 [] [(55,Vi (↑(List.length (List.map eS a)):Int),Vi (↑(List.length a):Int))]<|.rw 8057 [] [(57,Vi (↑(List.length (List.map eS b)):Int),Vi (↑(List.length b):Int))]<|.rw 8058 [] [(58,Vi (IntKind.wrap IntKind.i64 ((↑(List.length a):Int)+(↑(List.length b):Int))),Vi ((↑(List.length a):Int)+(↑(List.length b):Int)))]<|.rw 8059 [] [(59,Vi (IntKind.wrap IntKind.i64 ((↑(List.length a):Int)+(↑(List.length b):Int)+(3:Int))),Vi ((↑(List.length a):Int)+(↑(List.length b):Int)+(3:Int)))]<|.rw 8060 [] [(60,Vb (decide ((↑(List.length a):Int)+(↑(List.length b):Int)+(3:Int)>(64:Int))),Vb false)]<|.call 75 (22) ([ePs [(false,a),(false,b),(true,[nS (20:Int)]),(true,[nS (8:Int)])]]) ([]) (Fr (eSteps l1) [])<|.call 78 (12) ([eSteps l1,eRow row,eCols cols]) ([]) (Fr (V.tup [eV z1,Vi t]) [])<|.call 89 (22) ([ePs [(false,a),(true,[nS (8:Int)]),(false,b),(true,[nS (8:Int)]),(true,[nS (21:Int)])]]) ([]) (Fr (eSteps l2) [])<|.call 92 (12) ([eSteps l2,eRow row,eCols cols]) ([]) (Fr (V.tup [eV z1,Vi t]) [])<|.call 103 (22) ([ePs [(false,a),(false,b),(true,[nS (14:Int)]),(true,[nS (8:Int)])]]) ([]) (Fr (eSteps l3) [])<|.call 106 (12) ([eSteps l3,eRow row,eCols cols]) ([]) (Fr (V.tup [eV z2,Vi t]) [])<|.call 116 (22) ([ePs [(false,a),(false,b),(true,[nS (15:Int)])]]) ([]) (Fr (eSteps l4) [])<|.call 119 (12) ([eSteps l4,eRow row,eCols cols]) ([]) (Fr (V.tup [eV z2,Vi t]) [])<|.rw 8124 [] [(124,Vb (t==t),Vb true)]<|.rw 8128 [] [(128,Vb (Vl.k z1==Vl.k z1&&(Vl.b z1==Vl.b z1&&(Vl.n z1==Vl.n z1&&(ByteArray.toList (Vl.s z1)==ByteArray.toList (Vl.s z1)&&true)))),Vb true)]<|.tt 1136 ((t==t)==true)<|.tt 1137 ((t==t)==true)<|.tt 1138 ((t==t)==true)<|.rw 8138 [] [(138,Vb (Vl.k z2==Vl.k z2&&(Vl.b z2==Vl.b z2&&(Vl.n z2==Vl.n z2&&(ByteArray.toList (Vl.s z2)==ByteArray.toList (Vl.s z2)&&true)))),Vb true)]<|.tt 139 (t==t)<|.ret (Fr (Vb (t==t)) [])) (by kernel_rfl) ?_
 exact ⟨(Sp.fact (lives_sp)),(Sp.fact (h1)),(Sp.fact (h2)),⟨tv,cb (by simp<;>omega),tv⟩,⟨tv,cb (by simp<;>omega),tv⟩,⟨tv,by simp (disch:=omega) only [List.length_map],tv⟩,⟨tv,by simp (disch:=omega) only [List.length_map],tv⟩,⟨tv,by simp (disch:=omega) only [wrap_i64],tv⟩,⟨tv,by simp (disch:=omega) only [wrap_i64],tv⟩,⟨tv,cb (by simp<;>omega),tv⟩,(Sp.fact (j1)),(Sp.fact (e1)),(Sp.fact (j2)),(Sp.fact (e2)),(Sp.fact (j3)),(Sp.fact (e3)),(Sp.fact (j4)),(Sp.fact (e4)),⟨tv,cb (by simp<;>omega),tv⟩,⟨tv,cb (by simp<;>omega),tv⟩,by simp<;>omega,by simp<;>omega,by simp<;>omega,⟨tv,cb (by simp<;>omega),tv⟩,by simp<;>omega,by show _=_;grind⟩
end
end Go.Fw
set_option maxHeartbeats 20000000
set_option maxRecDepth 100000
namespace Go.Fw
open Go.Proofs
theorem typ_agg {P:Program} {n:Nat} {t:TypeId} {ts:List TypeId} {x:V} (hf:flatT P 20 t=some ts) (ha:isAggT P t=some true) (h:TypE P (TypC P n) t x):∃ cs,x=.agg cs∧cs.length=ts.length∧∀ (j:Nat) (c:V) (u:TypeId),cs[j]?=some c→ts[j]?=some u→TypC P n u c:=by
 unfold TypE at h
 rw [ha] at h
 obtain ⟨ts',cs,h1,h2,h3,h4⟩:=h
 rw [hf] at h1
 cases h1
 exact ⟨cs,h2,h3,h4⟩
theorem typE_c {P:Program} {n:Nat} {t:TypeId} {x:V} (ha:isAggT P t=some false) (h:TypE P (TypC P n) t x):TypC P n t x:=by
 unfold TypE at h
 rw [ha] at h
 exact h
theorem typC_u8 {P:Program} {n:Nat} {t:TypeId} {x:V} (ht:P.underlying t=some (.int .u8)) (h:TypC P (n+1) t x):∃ z,x=.int .u8 z∧0≤z∧z≤255:=by
 unfold TypC at h
 rw [ht] at h
 obtain ⟨z,h1,h2⟩:=h
 rw [Lit.wf_int_iff] at h2
 exact ⟨z,h1,h2⟩
theorem typC_i64 {P:Program} {n:Nat} {t:TypeId} {x:V} (ht:P.underlying t=some (.int .i64)) (h:TypC P (n+1) t x):∃ z,x=.int .i64 z∧I64 z:=by
 unfold TypC at h
 rw [ht] at h
 obtain ⟨z,h1,h2⟩:=h
 rw [Lit.wf_int_iff] at h2
 exact ⟨z,h1,h2⟩
theorem typC_str {P:Program} {n:Nat} {t:TypeId} {x:V} (ht:P.underlying t=some .string) (h:TypC P (n+1) t x):∃ s,x=.str s∧s.size≤2 ^ 47:=by
 unfold TypC at h
 rw [ht] at h
 obtain ⟨s,h1,h2⟩:=h
 exact ⟨s,h1,Nat.le_trans h2 (by decide)⟩
theorem typC_bool {P:Program} {n:Nat} {t:TypeId} {x:V} (ht:P.underlying t=some .bool) (h:TypC P (n+1) t x):∃ b,x=.bool b:=by
 unfold TypC at h
 rw [ht] at h
 exact h
theorem typC_slice {P:Program} {n:Nat} {t e:TypeId} {x:V} (ht:P.underlying t=some (.slice e)) (h:TypC P (n+1) t x):∃ xs,x=.imm false (P.cellsOf e) xs∧xs.length*P.bytesOf e≤2 ^ 47∧∀ x∈xs,TypE P (TypC P n) e x:=by
 unfold TypC at h
 rw [ht] at h
 obtain ⟨xs,h1,h2,h3⟩:=h
 exact ⟨xs,h1,Nat.le_trans h2 (by decide),h3⟩
theorem maps_of {α:Type} {f:α→V} {T:α→Prop}:∀ {l:List V},(∀ x∈l,∃ a,x=f a∧T a)→∃ ys:List α,l=ys.map f∧∀ a∈ys,T a
 | [],_=>⟨[],rfl,by simp⟩
 | x::l,h=>by
  obtain ⟨a,rfl,ha⟩:=h x (by simp)
  obtain ⟨ys,rfl,hys⟩:=maps_of (l:=l) (fun x hx=>h x (by simp [hx]))
  exact ⟨a::ys,rfl,fun b hb=>by
   rcases List.mem_cons.1 hb with rfl | hb
   ·exact ha
   ·exact hys b hb⟩
theorem vl_of {n:Nat} {x:V} (h:TypE Tryz.prog (TypC Tryz.prog (n+1)) 28 x):∃ v:Vl,x=eV v∧FineV v∧I64 v.n:=by
 obtain ⟨cs,rfl,hl,hc⟩:=typ_agg (ts:=[26,4,2,9]) (by kernel_rfl) (by kernel_rfl) h
 match cs,hl with
 | [c0,c1,c2,c3],_ =>
  obtain ⟨k,rfl,k1,k2⟩:=typC_u8 (by kernel_rfl) (hc 0 c0 _ rfl rfl)
  obtain ⟨b,rfl⟩:=typC_bool (by kernel_rfl) (hc 1 c1 _ rfl rfl)
  obtain ⟨m,rfl,m1⟩:=typC_i64 (by kernel_rfl) (hc 2 c2 _ rfl rfl)
  obtain ⟨s,rfl,s1⟩:=typC_str (by kernel_rfl) (hc 3 c3 _ rfl rfl)
  exact ⟨⟨k,b,m,s⟩,rfl,⟨s1,k1,k2⟩,m1⟩
theorem stp_of {n:Nat} {x:V} (h:TypE Tryz.prog (TypC Tryz.prog (n+1)) 56 x):∃ s:Stp,x=eS s∧FineS s∧I64 s.n:=by
 obtain ⟨cs,rfl,hl,hc⟩:=typ_agg (ts:=[54,9,2]) (by kernel_rfl) (by kernel_rfl) h
 match cs,hl with
 | [c0,c1,c2],_ =>
  obtain ⟨k,rfl,k1,k2⟩:=typC_u8 (by kernel_rfl) (hc 0 c0 _ rfl rfl)
  obtain ⟨s,rfl,s1⟩:=typC_str (by kernel_rfl) (hc 1 c1 _ rfl rfl)
  obtain ⟨m,rfl,m1⟩:=typC_i64 (by kernel_rfl) (hc 2 c2 _ rfl rfl)
  exact ⟨⟨k,s,m⟩,rfl,⟨s1,k1,k2⟩,m1⟩
theorem cl_of {n:Nat} {x:V} (h:TypE Tryz.prog (TypC Tryz.prog (n+1)) 69 x):∃ c:Cl,x=eC c∧0≤c.k:=by
 obtain ⟨cs,rfl,hl,hc⟩:=typ_agg (ts:=[9,26]) (by kernel_rfl) (by kernel_rfl) h
 match cs,hl with
 | [c0,c1],_ =>
  obtain ⟨s,rfl,s1⟩:=typC_str (by kernel_rfl) (hc 0 c0 _ rfl rfl)
  obtain ⟨k,rfl,k1,k2⟩:=typC_u8 (by kernel_rfl) (hc 1 c1 _ rfl rfl)
  exact ⟨⟨s,k⟩,rfl,k1⟩
theorem steps_of {n:Nat} {x:V} (h:TypC Tryz.prog (n+2) 22 x):∃ l:List Stp,x=eSteps l∧l.length≤2 ^ 47∧∀ s∈l,FineS s∧I64 s.n:=by
 obtain ⟨xs,rfl,hb,hx⟩:=typC_slice (e:=56) (by kernel_rfl) h
 obtain ⟨l,rfl,hl⟩:=maps_of (f:=eS) (T:=fun s=>FineS s∧I64 s.n) (fun x hm=>stp_of (hx x hm))
 have e1:1≤Tryz.prog.bytesOf 56:=of_decide_eq_true (by kernel_rfl)
 have e2:Tryz.prog.cellsOf 56=3:=by kernel_rfl
 rw [e2]
 rw [List.length_map] at hb
 exact ⟨l,rfl,Nat.le_trans (Nat.le_mul_of_pos_right _ e1) hb,hl⟩
theorem row_of {n:Nat} {x:V} (h:TypC Tryz.prog (n+2) 24 x):∃ l:List Vl,x=eRow l∧l.length≤2 ^ 47∧∀ s∈l,FineV s∧I64 s.n:=by
 obtain ⟨xs,rfl,hb,hx⟩:=typC_slice (e:=28) (by kernel_rfl) h
 obtain ⟨l,rfl,hl⟩:=maps_of (f:=eV) (T:=fun s=>FineV s∧I64 s.n) (fun x hm=>vl_of (hx x hm))
 have e1:1≤Tryz.prog.bytesOf 28:=of_decide_eq_true (by kernel_rfl)
 have e2:Tryz.prog.cellsOf 28=4:=by kernel_rfl
 rw [e2]
 rw [List.length_map] at hb
 exact ⟨l,rfl,Nat.le_trans (Nat.le_mul_of_pos_right _ e1) hb,hl⟩
theorem cols_of {n:Nat} {x:V} (h:TypC Tryz.prog (n+2) 25 x):∃ l:List Cl,x=eCols l∧l.length≤2 ^ 47∧∀ c∈l,0≤c.k:=by
 obtain ⟨xs,rfl,hb,hx⟩:=typC_slice (e:=69) (by kernel_rfl) h
 obtain ⟨l,rfl,hl⟩:=maps_of (f:=eC) (T:=fun c=>0≤c.k) (fun x hm=>cl_of (hx x hm))
 have e1:1≤Tryz.prog.bytesOf 69:=of_decide_eq_true (by kernel_rfl)
 have e2:Tryz.prog.cellsOf 69=2:=by kernel_rfl
 rw [e2]
 rw [List.length_map] at hb
 exact ⟨l,rfl,Nat.le_trans (Nat.le_mul_of_pos_right _ e1) hb,hl⟩
end Go.Fw
set_option maxHeartbeats 20000000
set_option maxRecDepth 100000
namespace Go.Fw
open Go.Proofs
theorem colK_nn (cols:List Cl) (hcn:∀ c∈cols,0≤c.k) (n:Int):0≤colK cols n:=by
 unfold colK
 cases h:cols[n.toNat]? with
 | none=>simp
 | some c=>exact hcn c (List.mem_of_getElem? h)
theorem kindL_nn (k x:Int):∀ l,kindL k l=some x→0≤x
 | [],h=>by cases h;unfold kind0;grind
 | [a],h=>by
  simp only [kindL] at h
  split at h
  ·cases h;unfold kind1;grind
  ·cases h
 | [a,b],h=>by
  simp only [kindL] at h
  split at h
  ·cases h;unfold kind2;grind
  ·cases h
 | _::_::_::_,h=>by cases h
theorem kindGo_nn (cols:List Cl) (hcn:∀ c∈cols,0≤c.k):∀ (l:List Stp) (st fin:List Int),(∀ x∈st,0≤x)→kindGo cols l st=some fin→∀ x∈fin,0≤x
 | [],st,fin,h,hk=>by cases hk;exact h
 | s::l,st,fin,h,hk=>by
  unfold kindGo at hk
  split at hk
  ·refine kindGo_nn cols hcn l _ fin (fun x hx=>?_) hk
   rcases List.mem_append.1 hx with h1 | h1
   ·exact h x h1
   ·rw [List.mem_singleton.1 h1];exact colK_nn cols hcn _
  ·split at hk
   ·rename_i k hkl
    refine kindGo_nn cols hcn l _ fin (fun x hx=>?_) hk
    rcases List.mem_append.1 hx with h1 | h1
    ·exact h x (List.mem_of_mem_take h1)
    ·rw [List.mem_singleton.1 h1];exact kindL_nn _ _ _ hkl
   ·cases hk
theorem fits_of {l:List Stp} {cols:List Cl} {fin:List Int} (hf:∀ s∈l,FineS s∧I64 s.n) (hcn:∀ c∈cols,0≤c.k) (hr:rightB l=true) (hx:∀ s∈l,ColOk cols.length s) (hg:kindGo cols l []=some fin) (h1:fin.headD 0≤1):Fits l cols (fin.headD 0):=by
 have hm:rightGo l 0=some 1:=by
  unfold rightB at hr
  cases hm:rightGo l 0 with
  | none=>rw [hm] at hr;cases hr
  | some m =>
   rw [hm] at hr
   have:m=1∧l.length≤64:=by simpa using hr
   rw [this.1]
 have hl:=kindGo_len cols l [] fin 1 hm hg
 have hn:=kindGo_nn cols hcn l [] fin (by simp) hg
 obtain ⟨k,rfl⟩:∃ k,fin=[k]:=List.length_eq_one_iff.1 (by omega)
 exact ⟨hf,hx,hm,hg,hn k (by simp),h1⟩
theorem logic_sp7 (a b:List Stp) (row:List Vl) (cols:List Cl) (ha:a.length≤2 ^ 47) (hb:b.length≤2 ^ 47) (fa:∀ s∈a,FineS s∧I64 s.n) (fb:∀ s∈b,FineS s∧I64 s.n) (hrb:row.length≤2 ^ 47) (hrf:∀ v∈row,FineV v∧I64 v.n) (hcn:∀ c∈cols,0≤c.k):Sp C1 7 [eSteps a,eSteps b,eRow row,eCols cols] (.bool true):=by
 have ka:=kindsB a cols ha (fun s hs=>(fa s hs).1) hcn
 have kb:=kindsB b cols hb (fun s hs=>(fb s hs).1) hcn
 rcases ka with ⟨w,hw,h1⟩ | ⟨ar,hc,ax,fin,ag,h1⟩
 ·rcases kb with ⟨u,_,h2⟩ | ⟨_,_,_,fin',_,h2⟩
  ·exact logic_out a b row cols _ _ _ _ ha hb h1 h2 (.inl hw)
  ·exact logic_out a b row cols _ _ _ _ ha hb h1 h2 (.inl hw)
 rcases kb with ⟨u,hu,h2⟩ | ⟨br,_,bx,fin',bg,h2⟩
 ·exact logic_out a b row cols _ _ _ _ ha hb h1 h2 (.inr (.inl hu))
 by_cases hx:1<fin.headD 0
 ·exact logic_out a b row cols _ _ _ _ ha hb h1 h2 (.inr (.inr (.inl hx)))
 by_cases hy:1<fin'.headD 0
 ·exact logic_out a b row cols _ _ _ _ ha hb h1 h2 (.inr (.inr (.inr (.inl hy))))
 by_cases hl:64<a.length+b.length+3
 ·exact logic_out a b row cols _ _ _ _ ha hb h1 h2 (.inr (.inr (.inr (.inr hl))))
 have A:=fits_of fa hcn ar ax ag (by omega)
 have B:=fits_of fb hcn br bx bg (by omega)
 obtain ⟨e1,e2,e3,e4⟩:=joins a b row cols _ _ A B (by omega) hc hrb hrf hcn
 have law:(if chkRow row cols=0 then step1 (nS 8) (step2 (nS 20) (valR a row) (valR b row)) else vNull)=(if chkRow row cols=0 then step2 (nS 21) (step1 (nS 8) (valR a row)) (step1 (nS 8) (valR b row)) else vNull)∧(if chkRow row cols=0 then step1 (nS 8) (step2 (nS 14) (valR a row) (valR b row)) else vNull)=(if chkRow row cols=0 then step2 (nS 15) (valR a row) (valR b row) else vNull):=by
  by_cases hw:chkRow row cols=0
  ·have:=logic_law (A.bl row hrb hrf hcn (by omega) hw) (B.bl row hrb hrf hcn (by omega) hw)
   rw [if_pos hw,if_pos hw,if_pos hw,if_pos hw]
   exact this
  ·simp only [if_neg hw]
   exact ⟨tv,tv⟩
 rw [←law.1] at e2
 rw [←law.2] at e4
 have join:∀ (ps:List Pt) (l:List Stp),ptsL ps=l→ps.length≤64→l.length≤64→Sp C1 22 [ePs ps] (eSteps l):=fun ps l h h1 h2=>by
  subst h
  exact join_sp ps h1 h2
 exact logic_in a b row cols _ _ _ _ ha hb h1 h2 rfl rfl (by omega) (by omega) (by omega) _ _ _ _ _ _ _
  (join _ _ (by simp [ptsL]) (by simp) (by simp;omega)) (join _ _ (by simp [ptsL]) (by simp) (by simp;omega)) (join _ _ (by simp [ptsL]) (by simp) (by simp;omega)) (join _ _ (by simp [ptsL]) (by simp) (by simp;omega)) e1 e2 e3 e4
theorem logic_typed (x0 x1 x2 x3:V) (h0:TypE Tryz.prog (TypC Tryz.prog 8) 22 x0) (h1:TypE Tryz.prog (TypC Tryz.prog 8) 22 x1) (h2:TypE Tryz.prog (TypC Tryz.prog 8) 24 x2) (h3:TypE Tryz.prog (TypC Tryz.prog 8) 25 x3):Sp C1 7 [x0,x1,x2,x3] (.bool true):=by
 obtain ⟨a,rfl,a1,a2⟩:=steps_of (typE_c (by kernel_rfl) h0)
 obtain ⟨b,rfl,d1,d2⟩:=steps_of (typE_c (by kernel_rfl) h1)
 obtain ⟨row,rfl,b1,b2⟩:=row_of (typE_c (by kernel_rfl) h2)
 obtain ⟨cols,rfl,c1,c2⟩:=cols_of (typE_c (by kernel_rfl) h3)
 exact logic_sp7 a b row cols a1 d1 a2 d2 b1 b2 c2
end Go.Fw
