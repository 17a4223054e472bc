/- Algebra: AlgebraEvals. -/
import Derived.Test.YtnmfjjfnkhcpkaaGreatDoorPk14
import Derived.DataShut
set_option linter.all false
set_option maxHeartbeats 20000000
namespace Go.Fw
open Go.Proofs
theorem rowGo_gv:∀ (r:List Vl) (l:List Cl),r.length=l.length→(∀ v∈r,FineV v∧I64 v.n)→rowGo r l=0→∀ v∈r,Gv v
 | [],_,_,_,_,v,hv=>by cases hv
 | x::r,[],h,_,_,_,_=>by simp at h
 | x::r,c::l,h,hf,h0,v,hv=>by
  have hc:rowGo (x::r) (c::l)=if chkV x≠0 then chkV x else if x.k≠0∧x.k≠c.k then 5 else rowGo r l:=rfl
  rw [hc] at h0
  have h1:chkV x=0:=by
   apply Classical.byContradiction
   intro hh
   rw [if_pos hh] at h0
   exact hh h0
  rw [if_neg (by simpa using h1)] at h0
  have h2:¬(x.k≠0∧x.k≠c.k):=fun hh=>by rw [if_pos hh] at h0;cases h0
  rw [if_neg h2] at h0
  rcases List.mem_cons.1 hv with rfl | hv
  ·unfold chkV at h1
   split at h1
   ·cases h1
   rename_i hb
   split at h1
   ·cases h1
   rename_i hs
   have hx:=hf v (by simp)
   exact ⟨⟨hx.1,hx.2,by omega⟩,by simpa using hb⟩
  ·exact rowGo_gv r l (by simpa using h) (fun v hv=>hf v (by simp [hv])) h0 v hv
section
variable (l:List Stp) (row:List Vl) (cols:List Cl)
theorem eval_err (w:Int) (hw:w≠0) (h:Sp C1 18 [eSteps l,eCols cols] (.tup [.int .u8 0,.int .i64 w])):Sp C1 12 [eSteps l,eRow row,eCols cols] (.tup [eV vNull,.int .i64 w]):=by
 refine sp_tree draws (dm:=[]) (fs:=[]) (
  .call 14 (18) ([eSteps l,eCols cols]) ([]) (Fr (V.tup [Vu (0:Int),Vi w]) [])<|.rw 8018 [] [(18,Vb (w !=(0:Int)),Vb true)]<|.ret (Fr (V.tup [V.agg [Vu (0:Int),Vb false,Vi (0:Int),V.str (ByteArray.mk #[])],Vi w]) [])) (by kernel_rfl) ?_
 exact ⟨(Sp.fact (h)),⟨tv,cb (by simp<;>omega),tv⟩,rfl⟩
theorem eval_row (k w:Int) (hw:w≠0) (h:Sp C1 18 [eSteps l,eCols cols] (.tup [.int .u8 k,.int .i64 0])) (h2:Sp C1 25 [eRow row,eCols cols] (.int .i64 w)):Sp C1 12 [eSteps l,eRow row,eCols cols] (.tup [eV vNull,.int .i64 w]):=by
 refine sp_tree draws (dm:=[]) (fs:=[]) (
  .call 14 (18) ([eSteps l,eCols cols]) ([]) (Fr (V.tup [Vu k,Vi (0:Int)]) [])<|.call 23 (25) ([eRow row,eCols cols]) ([]) (Fr (Vi w) [])<|.rw 8025 [] [(25,Vb (w !=(0:Int)),Vb true)]<|.ret (Fr (V.tup [V.agg [Vu (0:Int),Vb false,Vi (0:Int),V.str (ByteArray.mk #[])],Vi w]) [])) (by kernel_rfl) ?_
 exact ⟨(Sp.fact (h)),(Sp.fact (h2)),⟨tv,cb (by simp<;>omega),tv⟩,rfl⟩
theorem eval_ok (k:Int) (v:Vl) (h:Sp C1 18 [eSteps l,eCols cols] (.tup [.int .u8 k,.int .i64 0])) (h2:Sp C1 25 [eRow row,eCols cols] (.int .i64 0)) (h3:Sp C1 26 [eSteps l,eRow row] (eV v)):Sp C1 12 [eSteps l,eRow row,eCols cols] (.tup [eV v,.int .i64 0]):=by
 refine sp_tree draws (dm:=[]) (fs:=[]) (
  .call 14 (18) ([eSteps l,eCols cols]) ([]) (Fr (V.tup [Vu k,Vi (0:Int)]) [])<|.call 23 (25) ([eRow row,eCols cols]) ([]) (Fr (Vi (0:Int)) [])<|.call 30 (26) ([eSteps l,eRow row]) ([]) (Fr (eV v) [])<|.ret (Fr (V.tup [V.agg [Vu (Vl.k v),Vb (Vl.b v),Vi (Vl.n v),V.str (Vl.s v)],Vi (0:Int)]) [])) (by kernel_rfl) ?_
 exact ⟨(Sp.fact (h)),(Sp.fact (h2)),(Sp.fact (h3)),rfl⟩
theorem eval2_err (w:Int) (hw:w≠0) (h:Sp C1 27 [eSteps l,eCols cols] (.tup [.int .u8 0,.int .i64 w])):Sp C1 13 [eSteps l,eRow row,eCols cols] (.tup [eV vNull,.int .i64 w]):=by
 refine sp_tree draws (dm:=[]) (fs:=[]) (
  .call 13 (27) ([eSteps l,eCols cols]) ([]) (Fr (V.tup [Vu (0:Int),Vi w]) [])<|.rw 8017 [] [(17,Vb (w==(0:Int)),Vb false)]<|.rw 8022 [] [(22,Vb (w !=(0:Int)),Vb true)]<|.ret (Fr (V.tup [V.agg [Vu (0:Int),Vb false,Vi (0:Int),V.str (ByteArray.mk #[])],Vi w]) [])) (by kernel_rfl) ?_
 exact ⟨(Sp.fact (h)),⟨tv,cb (by simp<;>omega),tv⟩,⟨tv,cb (by simp<;>omega),tv⟩,rfl⟩
theorem eval2_row (k w:Int) (hw:w≠0) (h:Sp C1 27 [eSteps l,eCols cols] (.tup [.int .u8 k,.int .i64 0])) (h2:Sp C1 28 [eRow row,eCols cols] (.int .i64 w)):Sp C1 13 [eSteps l,eRow row,eCols cols] (.tup [eV vNull,.int .i64 w]):=by
 refine sp_tree draws (dm:=[]) (fs:=[]) (
  .call 13 (27) ([eSteps l,eCols cols]) ([]) (Fr (V.tup [Vu k,Vi (0:Int)]) [])<|.call 20 (28) ([eRow row,eCols cols]) ([]) (Fr (Vi w) [])<|.rw 8022 [] [(22,Vb (w !=(0:Int)),Vb true)]<|.ret (Fr (V.tup [V.agg [Vu (0:Int),Vb false,Vi (0:Int),V.str (ByteArray.mk #[])],Vi w]) [])) (by kernel_rfl) ?_
 exact ⟨(Sp.fact (h)),(Sp.fact (h2)),⟨tv,cb (by simp<;>omega),tv⟩,rfl⟩
theorem eval2_ok (k:Int) (v:Vl) (h:Sp C1 27 [eSteps l,eCols cols] (.tup [.int .u8 k,.int .i64 0])) (h2:Sp C1 28 [eRow row,eCols cols] (.int .i64 0)) (h3:Sp C1 29 [eSteps l,eRow row] (eV v)):Sp C1 13 [eSteps l,eRow row,eCols cols] (.tup [eV v,.int .i64 0]):=by
 refine sp_tree draws (dm:=[]) (fs:=[]) (
  .call 13 (27) ([eSteps l,eCols cols]) ([]) (Fr (V.tup [Vu k,Vi (0:Int)]) [])<|.call 20 (28) ([eRow row,eCols cols]) ([]) (Fr (Vi (0:Int)) [])<|.call 27 (29) ([eSteps l,eRow row]) ([]) (Fr (eV v) [])<|.ret (Fr (V.tup [V.agg [Vu (Vl.k v),Vb (Vl.b v),Vi (Vl.n v),V.str (Vl.s v)],Vi (0:Int)]) [])) (by kernel_rfl) ?_
 exact ⟨(Sp.fact (h)),(Sp.fact (h2)),(Sp.fact (h3)),rfl⟩
end
theorem evals (l:List Stp) (row:List Vl) (cols:List Cl) (hb:l.length≤2 ^ 47) (hf:∀ s∈l,FineS s∧I64 s.n) (hrb:row.length≤2 ^ 47) (hrf:∀ v∈row,FineV v∧I64 v.n) (hcn:∀ c∈cols,0≤c.k) :
  ∃ v w,Sp C1 12 [eSteps l,eRow row,eCols cols] (.tup [eV v,.int .i64 w])∧Sp C1 13 [eSteps l,eRow row,eCols cols] (.tup [eV v,.int .i64 w]):=by
 rcases kinds l cols hb (fun s hs=>(hf s hs).1) hcn with ⟨w,hw,h1,h2⟩ | ⟨hr,hc,hx,fin,hg,h1,h2⟩
 ·exact ⟨vNull,w,eval_err l row cols w hw h1,eval2_err l row cols w hw h2⟩
 have r1:=row_all row cols hrb (fun v hv=>(hrf v hv).1)
 have r2:=row2_all row cols hrb (fun v hv=>(hrf v hv).1)
 by_cases hw:chkRow row cols=0
 ·rw [hw] at r1 r2
  unfold chkRow at hw
  have hlen:row.length=cols.length:=by
   apply Classical.byContradiction
   intro hh
   rw [if_pos hh] at hw
   cases hw
  rw [if_neg (by simpa using hlen)] at hw
  have hgv:=rowGo_gv row cols hlen hrf hw
  have hx':∀ s∈l,ColOk row.length s:=by rw [hlen];exact hx
  exact ⟨valR l row,0,eval_ok l row cols _ _ h1 r1 (value_sp l row (fun s hs=>(hf s hs).1) hr (fun s hs=>(hf s hs).2) hx' hgv),eval2_ok l row cols _ _ h2 r2 (value2_sp l row (fun s hs=>(hf s hs).1) hr (fun s hs=>(hf s hs).2) hx' hgv)⟩
 ·exact ⟨vNull,_,eval_row l row cols _ _ hw h1 r1,eval2_row l row cols _ _ hw h2 r2⟩
theorem evals_sp (l:List Stp) (row:List Vl) (cols:List Cl) (hb:l.length≤2 ^ 47) (hf:∀ s∈l,FineS s∧I64 s.n) (hrb:row.length≤2 ^ 47) (hrf:∀ v∈row,FineV v∧I64 v.n) (hcn:∀ c∈cols,0≤c.k):Sp C1 3 [eSteps l,eRow row,eCols cols] (.bool true):=by
 obtain ⟨v,w,h1,h2⟩:=evals l row cols hb hf hrb hrf hcn
 refine sp_tree draws (dm:=[]) (fs:=[]) (
  .call 15 (12) ([eSteps l,eRow row,eCols cols]) ([]) (Fr (V.tup [eV v,Vi w]) [])<|.call 22 (13) ([eSteps l,eRow row,eCols cols]) ([]) (Fr (V.tup [eV v,Vi w]) [])<|.call 25 (14) ([]) ([]) (Fr (Vb true) [])<|.rw 8029 [] [(29,Vb (Vl.k v==Vl.k v&&(Vl.b v==Vl.b v&&(Vl.n v==Vl.n v&&(ByteArray.toList (Vl.s v)==ByteArray.toList (Vl.s v)&&true)))),Vb true)]<|.rw 8034 [] [(34,Vb (w==w),Vb true)]<|.ret (Fr (Vb true) [])) (by kernel_rfl) ?_
 exact ⟨(Sp.fact (h1)),(Sp.fact (h2)),(Sp.fact (lives_sp)),⟨tv,cb (by simp<;>omega),tv⟩,⟨tv,cb (by simp<;>omega),tv⟩,rfl⟩
end Go.Fw
set_option maxHeartbeats 20000000
set_option maxRecDepth 100000
namespace Go.Fw
open Go.Proofs
theorem typ_agg {P:Program} {n:Nat} {t:TypeId} {ts:List TypeId} {x:V} (hf:flatT P 20 t=some ts) (ha:isAggT P t=some true) (h:TypE P (TypC P n) t x):∃ cs,x=.agg cs∧cs.length=ts.length∧∀ (j:Nat) (c:V) (u:TypeId),cs[j]?=some c→ts[j]?=some u→TypC P n u c:=by
 unfold TypE at h
 rw [ha] at h
 obtain ⟨ts',cs,h1,h2,h3,h4⟩:=h
 rw [hf] at h1
 cases h1
 exact ⟨cs,h2,h3,h4⟩
theorem typE_c {P:Program} {n:Nat} {t:TypeId} {x:V} (ha:isAggT P t=some false) (h:TypE P (TypC P n) t x):TypC P n t x:=by
 unfold TypE at h
 rw [ha] at h
 exact h
theorem typC_u8 {P:Program} {n:Nat} {t:TypeId} {x:V} (ht:P.underlying t=some (.int .u8)) (h:TypC P (n+1) t x):∃ z,x=.int .u8 z∧0≤z∧z≤255:=by
 unfold TypC at h
 rw [ht] at h
 obtain ⟨z,h1,h2⟩:=h
 rw [Lit.wf_int_iff] at h2
 exact ⟨z,h1,h2⟩
theorem typC_i64 {P:Program} {n:Nat} {t:TypeId} {x:V} (ht:P.underlying t=some (.int .i64)) (h:TypC P (n+1) t x):∃ z,x=.int .i64 z∧I64 z:=by
 unfold TypC at h
 rw [ht] at h
 obtain ⟨z,h1,h2⟩:=h
 rw [Lit.wf_int_iff] at h2
 exact ⟨z,h1,h2⟩
theorem typC_str {P:Program} {n:Nat} {t:TypeId} {x:V} (ht:P.underlying t=some .string) (h:TypC P (n+1) t x):∃ s,x=.str s∧s.size≤2 ^ 47:=by
 unfold TypC at h
 rw [ht] at h
 obtain ⟨s,h1,h2⟩:=h
 exact ⟨s,h1,Nat.le_trans h2 (by decide)⟩
theorem typC_bool {P:Program} {n:Nat} {t:TypeId} {x:V} (ht:P.underlying t=some .bool) (h:TypC P (n+1) t x):∃ b,x=.bool b:=by
 unfold TypC at h
 rw [ht] at h
 exact h
theorem typC_slice {P:Program} {n:Nat} {t e:TypeId} {x:V} (ht:P.underlying t=some (.slice e)) (h:TypC P (n+1) t x):∃ xs,x=.imm false (P.cellsOf e) xs∧xs.length*P.bytesOf e≤2 ^ 47∧∀ x∈xs,TypE P (TypC P n) e x:=by
 unfold TypC at h
 rw [ht] at h
 obtain ⟨xs,h1,h2,h3⟩:=h
 exact ⟨xs,h1,Nat.le_trans h2 (by decide),h3⟩
theorem maps_of {α:Type} {f:α→V} {T:α→Prop}:∀ {l:List V},(∀ x∈l,∃ a,x=f a∧T a)→∃ ys:List α,l=ys.map f∧∀ a∈ys,T a
 | [],_=>⟨[],rfl,by simp⟩
 | x::l,h=>by
  obtain ⟨a,rfl,ha⟩:=h x (by simp)
  obtain ⟨ys,rfl,hys⟩:=maps_of (l:=l) (fun x hx=>h x (by simp [hx]))
  exact ⟨a::ys,rfl,fun b hb=>by
   rcases List.mem_cons.1 hb with rfl | hb
   ·exact ha
   ·exact hys b hb⟩
theorem vl_of {n:Nat} {x:V} (h:TypE Tryz.prog (TypC Tryz.prog (n+1)) 28 x):∃ v:Vl,x=eV v∧FineV v∧I64 v.n:=by
 obtain ⟨cs,rfl,hl,hc⟩:=typ_agg (ts:=[26,4,2,9]) (by kernel_rfl) (by kernel_rfl) h
 match cs,hl with
 | [c0,c1,c2,c3],_ =>
  obtain ⟨k,rfl,k1,k2⟩:=typC_u8 (by kernel_rfl) (hc 0 c0 _ rfl rfl)
  obtain ⟨b,rfl⟩:=typC_bool (by kernel_rfl) (hc 1 c1 _ rfl rfl)
  obtain ⟨m,rfl,m1⟩:=typC_i64 (by kernel_rfl) (hc 2 c2 _ rfl rfl)
  obtain ⟨s,rfl,s1⟩:=typC_str (by kernel_rfl) (hc 3 c3 _ rfl rfl)
  exact ⟨⟨k,b,m,s⟩,rfl,⟨s1,k1,k2⟩,m1⟩
theorem stp_of {n:Nat} {x:V} (h:TypE Tryz.prog (TypC Tryz.prog (n+1)) 56 x):∃ s:Stp,x=eS s∧FineS s∧I64 s.n:=by
 obtain ⟨cs,rfl,hl,hc⟩:=typ_agg (ts:=[54,9,2]) (by kernel_rfl) (by kernel_rfl) h
 match cs,hl with
 | [c0,c1,c2],_ =>
  obtain ⟨k,rfl,k1,k2⟩:=typC_u8 (by kernel_rfl) (hc 0 c0 _ rfl rfl)
  obtain ⟨s,rfl,s1⟩:=typC_str (by kernel_rfl) (hc 1 c1 _ rfl rfl)
  obtain ⟨m,rfl,m1⟩:=typC_i64 (by kernel_rfl) (hc 2 c2 _ rfl rfl)
  exact ⟨⟨k,s,m⟩,rfl,⟨s1,k1,k2⟩,m1⟩
theorem cl_of {n:Nat} {x:V} (h:TypE Tryz.prog (TypC Tryz.prog (n+1)) 69 x):∃ c:Cl,x=eC c∧0≤c.k:=by
 obtain ⟨cs,rfl,hl,hc⟩:=typ_agg (ts:=[9,26]) (by kernel_rfl) (by kernel_rfl) h
 match cs,hl with
 | [c0,c1],_ =>
  obtain ⟨s,rfl,s1⟩:=typC_str (by kernel_rfl) (hc 0 c0 _ rfl rfl)
  obtain ⟨k,rfl,k1,k2⟩:=typC_u8 (by kernel_rfl) (hc 1 c1 _ rfl rfl)
  exact ⟨⟨s,k⟩,rfl,k1⟩
theorem steps_of {n:Nat} {x:V} (h:TypC Tryz.prog (n+2) 22 x):∃ l:List Stp,x=eSteps l∧l.length≤2 ^ 47∧∀ s∈l,FineS s∧I64 s.n:=by
 obtain ⟨xs,rfl,hb,hx⟩:=typC_slice (e:=56) (by kernel_rfl) h
 obtain ⟨l,rfl,hl⟩:=maps_of (f:=eS) (T:=fun s=>FineS s∧I64 s.n) (fun x hm=>stp_of (hx x hm))
 have e1:1≤Tryz.prog.bytesOf 56:=of_decide_eq_true (by kernel_rfl)
 have e2:Tryz.prog.cellsOf 56=3:=by kernel_rfl
 rw [e2]
 rw [List.length_map] at hb
 exact ⟨l,rfl,Nat.le_trans (Nat.le_mul_of_pos_right _ e1) hb,hl⟩
theorem row_of {n:Nat} {x:V} (h:TypC Tryz.prog (n+2) 24 x):∃ l:List Vl,x=eRow l∧l.length≤2 ^ 47∧∀ s∈l,FineV s∧I64 s.n:=by
 obtain ⟨xs,rfl,hb,hx⟩:=typC_slice (e:=28) (by kernel_rfl) h
 obtain ⟨l,rfl,hl⟩:=maps_of (f:=eV) (T:=fun s=>FineV s∧I64 s.n) (fun x hm=>vl_of (hx x hm))
 have e1:1≤Tryz.prog.bytesOf 28:=of_decide_eq_true (by kernel_rfl)
 have e2:Tryz.prog.cellsOf 28=4:=by kernel_rfl
 rw [e2]
 rw [List.length_map] at hb
 exact ⟨l,rfl,Nat.le_trans (Nat.le_mul_of_pos_right _ e1) hb,hl⟩
theorem cols_of {n:Nat} {x:V} (h:TypC Tryz.prog (n+2) 25 x):∃ l:List Cl,x=eCols l∧l.length≤2 ^ 47∧∀ c∈l,0≤c.k:=by
 obtain ⟨xs,rfl,hb,hx⟩:=typC_slice (e:=69) (by kernel_rfl) h
 obtain ⟨l,rfl,hl⟩:=maps_of (f:=eC) (T:=fun c=>0≤c.k) (fun x hm=>cl_of (hx x hm))
 have e1:1≤Tryz.prog.bytesOf 69:=of_decide_eq_true (by kernel_rfl)
 have e2:Tryz.prog.cellsOf 69=2:=by kernel_rfl
 rw [e2]
 rw [List.length_map] at hb
 exact ⟨l,rfl,Nat.le_trans (Nat.le_mul_of_pos_right _ e1) hb,hl⟩
theorem evals_typed (x0 x1 x2:V) (h0:TypE Tryz.prog (TypC Tryz.prog 8) 22 x0) (h1:TypE Tryz.prog (TypC Tryz.prog 8) 24 x1) (h2:TypE Tryz.prog (TypC Tryz.prog 8) 25 x2):Sp C1 3 [x0,x1,x2] (.bool true):=by
 obtain ⟨l,rfl,a1,a2⟩:=steps_of (typE_c (by kernel_rfl) h0)
 obtain ⟨row,rfl,b1,b2⟩:=row_of (typE_c (by kernel_rfl) h1)
 obtain ⟨cols,rfl,c1,c2⟩:=cols_of (typE_c (by kernel_rfl) h2)
 exact evals_sp l row cols a1 a2 b1 b2 c2
end Go.Fw
