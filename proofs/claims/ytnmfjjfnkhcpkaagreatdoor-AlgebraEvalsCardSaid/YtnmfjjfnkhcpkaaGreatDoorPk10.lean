/- Algebra: steps, on the document's side. -/
import Derived.Test.YtnmfjjfnkhcpkaaGreatDoorPk9
set_option linter.all false
set_option maxHeartbeats 20000000
namespace Go.Fw
open Go.Proofs
def FineStep (s:Stp):Prop:=FineS s∧I64 s.n
def step0 (s:Stp):Vl:=if s.k=1 then vNull else if s.k=2∨s.k=3 then vBool (decide (s.k=2)) else if s.k=4 then vInt s.n else vText s.t
def step1 (s:Stp) (x:Vl):Vl:=if s.k=9 then vBool (decide (x.k=0)) else if x.k=0 then vNull else op1 s.k x
def step2 (s:Stp) (x y:Vl):Vl:=if s.k=20∨s.k=21 then logV (decide (s.k=21)) x y else if x.k=0∨y.k=0 then vNull else op2 s.k x y
theorem step20_sp (s:Stp) (row l:List Vl) (h1:1≤s.k) (h2:s.k≤5):Sp C1 69 [eS s,eRow row,eVs l] (eV (step0 s)):=by
 have h3:s.k=1∨s.k=2∨s.k=3∨s.k=4∨s.k=5:=by omega
 obtain ⟨k,t,n⟩:=s
 dsimp only at h3
 rcases h3 with rfl | rfl | rfl | rfl | rfl
 ·refine sp_tree draws (dm:=[]) (fs:=[]) (
   .ret (Fr (V.agg [Vu (0:Int),Vb false,Vi (0:Int),V.str (ByteArray.mk #[])]) [])) (by kernel_rfl) ?_
  exact rfl
 ·refine sp_tree draws (dm:=[]) (fs:=[]) (
   .call 20 (108) ([Vb true]) ([]) (Fr (eV (vBool true)) [])<|.ret (Fr (V.agg [Vu (1:Int),Vb true,Vi (0:Int),V.str (ByteArray.mk #[])]) [])) (by kernel_rfl) ?_
  exact ⟨(Sp.fact (truth2_sp _)),rfl⟩
 ·refine sp_tree draws (dm:=[]) (fs:=[]) (
   .call 20 (108) ([Vb false]) ([]) (Fr (eV (vBool false)) [])<|.ret (Fr (V.agg [Vu (1:Int),Vb false,Vi (0:Int),V.str (ByteArray.mk #[])]) [])) (by kernel_rfl) ?_
  exact ⟨(Sp.fact (truth2_sp _)),rfl⟩
 ·refine sp_tree draws (dm:=[]) (fs:=[]) (
   .call 25 (131) ([Vi n,Vi (0:Int)]) ([]) (Fr (eV (vInt n)) [])<|.ret (Fr (V.agg [Vu (2:Int),Vb false,Vi n,V.str (ByteArray.mk (Array.mk []))]) [])) (by kernel_rfl) ?_
  exact ⟨(Sp.fact (numI2_sp _)),rfl⟩
 ·refine sp_tree draws (dm:=[]) (fs:=[]) (
   .ret (Fr (V.agg [Vu (3:Int),Vb false,Vi (0:Int),V.str t]) [])) (by kernel_rfl) ?_
  exact rfl
theorem step2C_sp (s:Stp) (row l:List Vl) (h1:s.k=6) (i:Nat) (v:Vl) (hi:s.n=(i:Int)) (hv:row[i]?=some v):Sp C1 69 [eS s,eRow row,eVs l] (eV v):=by
 obtain ⟨k,t,n⟩:=s
 dsimp only at h1 hi
 subst h1 hi
 refine sp_tree draws (dm:=[]) (fs:=[]) (
  .opt 36 (idx (List.map eV row) (↑i:Int)) (eV v)<|.ret (Fr (V.agg [Vu (Vl.k v),Vb (Vl.b v),Vi (Vl.n v),V.str (Vl.s v)]) [])) (by kernel_rfl) ?_
 exact ⟨(idx_map _ hv),rfl⟩
abbrev H69 (s:Stp):List Blk:=[.cells [.int .u8 s.k,.str s.t,.int .i64 s.n] 56,.cells [.int .u8 0,.bool false,.int .i64 0,.str eT] 28]
abbrev K69:List (Nat×Fm):=keeps [2,3,6,59,60,61]
abbrev S69 (s:Stp) (l:List Vl) (i:Nat):St:=mkSt 74 [(2,eVs l),(3,.ptr 0 0),(6,.ptr 1 0),(59,eVs l),(60,.int .i64 (l.length:Int)),(61,.int .i64 (i:Int))] (H69 s)
theorem null_none (s:Stp) (l:List Vl) (hl:l.length≤2):∀ k i,i+k=l.length→(∀ j v,i≤j→l[j]?=some v→v.k≠0)→LoopK C1 69 152 K69 (S69 s l i) (.exit 1) (mkSt 74 [(2,eVs l),(3,.ptr 0 0),(6,.ptr 1 0)] (H69 s))
 | 0,i,h,hn=>by
  refine loop_tree draws (rd:=true) (kn:=K69) (ke:=(keeps [2,3,6])) (
   .rw 8062 [] [(62,Vb (decide ((↑i:Int)<(↑(List.length l):Int))),Vb false)]<|.ret ((Ex.exit 1,mkSt 74 [(2,V.imm false 4 (List.map eV l)),(3,V.ptr 0 0),(6,V.ptr 1 0)] [Blk.cells [Vu (Stp.k s),V.str (Stp.t s),Vi (Stp.n s)] 56,Blk.cells [Vu (0:Int),Vb false,Vi (0:Int),V.str (ByteArray.mk #[])] 28]))) (by kernel_rfl) ?_
  exact ⟨⟨tv,cb (by simp<;>omega),tv⟩,rfl,rfl⟩
 | k+1,i,h,hn=>by
  have ih:=null_none s l hl k (i+1) (by omega) (fun j v hj hv=>hn j v (by omega) hv)
  obtain ⟨v,hv⟩:∃ v,l[i]?=some v:=⟨l[i]'(by omega),List.getElem?_eq_getElem (by omega)⟩
  have hk:=hn i v (Nat.le_refl _) hv
  refine loop_tree draws (rd:=true) (kn:=K69) (ke:=(keeps [2,3,6])) (
   .rw 8062 [] [(62,Vb (decide ((↑i:Int)<(↑(List.length l):Int))),Vb true)]<|.opt 63 (idx (List.map eV l) (↑i:Int)) (eV v)<|.rw 8067 [] [(67,Vb (Vl.k v==(0:Int)),Vb false)]<|.rw 8069 [] [(69,Vi (IntKind.wrap IntKind.i64 ((↑i:Int)+(1:Int))),Vi (↑(i+1):Int))]<|.to 24000 ([.cut 2])<|.ret (.normal,S69 s l (i+1))) (by kernel_rfl) ?_
  exact ⟨⟨tv,cb (by simp<;>omega),tv⟩,(idx_map _ hv),⟨tv,cb (by simp<;>omega),tv⟩,⟨tv,by simp (disch:=omega) only [cast_succ,wrap_i64],tv⟩,(ih)⟩
theorem null_some (s:Stp) (l:List Vl) (hl:l.length≤2):∀ k i,i+k=l.length→(∃ j v,i≤j∧l[j]?=some v∧v.k=0)→LoopK C1 69 152 K69 (S69 s l i) .ret (mkSt 74 [(6,.ptr 1 0)] (H69 s))
 | 0,i,h,⟨j,v,hj,hv,_⟩=>by
  have:=(List.getElem?_eq_some_iff.1 hv).1
  omega
 | k+1,i,h,hn=>by
  obtain ⟨v,hv⟩:∃ v,l[i]?=some v:=⟨l[i]'(by omega),List.getElem?_eq_getElem (by omega)⟩
  by_cases hk:v.k=0
  ·refine loop_tree draws (rd:=true) (kn:=K69) (ke:=(keeps [6])) (
    .rw 8062 [] [(62,Vb (decide ((↑i:Int)<(↑(List.length l):Int))),Vb true)]<|.opt 63 (idx (List.map eV l) (↑i:Int)) (eV v)<|.rw 8067 [] [(67,Vb (Vl.k v==(0:Int)),Vb true)]<|.to 24001 ([.cut 2])<|.ret ((Ex.ret,mkSt 74 [(6,V.ptr 1 0)] [Blk.cells [Vu (Stp.k s),V.str (Stp.t s),Vi (Stp.n s)] 56,Blk.cells [Vu (0:Int),Vb false,Vi (0:Int),V.str (ByteArray.mk #[])] 28]))) (by kernel_rfl) ?_
   exact ⟨⟨tv,cb (by simp<;>omega),tv⟩,(idx_map _ hv),⟨tv,cb (by simp<;>omega),tv⟩,rfl,rfl⟩
  ·have ih:=null_some s l hl k (i+1) (by omega) (by
    obtain ⟨j,x,q1,q2,q3⟩:=hn
    refine ⟨j,x,?_,q2,q3⟩
    by_cases e:j=i
    ·subst e;rw [hv] at q2;cases q2;exact absurd q3 hk
    ·omega)
   refine loop_tree draws (rd:=true) (kn:=K69) (ke:=(keeps [6])) (
    .rw 8062 [] [(62,Vb (decide ((↑i:Int)<(↑(List.length l):Int))),Vb true)]<|.opt 63 (idx (List.map eV l) (↑i:Int)) (eV v)<|.rw 8067 [] [(67,Vb (Vl.k v==(0:Int)),Vb false)]<|.rw 8069 [] [(69,Vi (IntKind.wrap IntKind.i64 ((↑i:Int)+(1:Int))),Vi (↑(i+1):Int))]<|.to 24000 ([.cut 2])<|.ret (.normal,S69 s l (i+1))) (by kernel_rfl) ?_
   exact ⟨⟨tv,cb (by simp<;>omega),tv⟩,(idx_map _ hv),⟨tv,cb (by simp<;>omega),tv⟩,⟨tv,by simp (disch:=omega) only [cast_succ,wrap_i64],tv⟩,(ih)⟩
theorem step21_sp (s:Stp) (row:List Vl) (x:Vl) (hx:Fv x) (hk:7≤s.k) (hk2:s.k≤10):Sp C1 69 [eS s,eRow row,eVs [x]] (eV (step1 s x)):=by
 by_cases h9:s.k=9
 ·refine sp_tree draws (dm:=[]) (fs:=[]) (
   .rw 8012 [] [(12,Vb (Stp.k s==(1:Int)),Vb false)]<|.rw 8015 [] [(15,Vb (Stp.k s==(2:Int)),Vb false)]<|.rw 8016 [] [(16,Vb (Stp.k s==(3:Int)),Vb false)]<|.rw 8022 [] [(22,Vb (Stp.k s==(4:Int)),Vb false)]<|.rw 8027 [] [(27,Vb (Stp.k s==(5:Int)),Vb false)]<|.rw 8032 [] [(32,Vb (Stp.k s==(6:Int)),Vb false)]<|.rw 8039 [] [(39,Vb (Stp.k s==(9:Int)),Vb true)]<|.call 45 (108) ([Vb (Vl.k x==(0:Int))]) ([]) (Fr (eV (vBool (Vl.k x==(0:Int)))) [])<|.ret (Fr (V.agg [Vu (1:Int),Vb (Vl.k x==(0:Int)),Vi (0:Int),V.str (ByteArray.mk (Array.mk []))]) [])) (by kernel_rfl) ?_
  exact ⟨⟨tv,cb (by simp<;>omega),tv⟩,⟨tv,cb (by simp<;>omega),tv⟩,⟨tv,cb (by simp<;>omega),tv⟩,⟨tv,cb (by simp<;>omega),tv⟩,⟨tv,cb (by simp<;>omega),tv⟩,⟨tv,cb (by simp<;>omega),tv⟩,⟨tv,cb (by simp<;>omega),tv⟩,(Sp.fact (truth2_sp _)),by show _=_;(unfold step1;grind)⟩
 have e1:=taken1_sp s.k x hx (by omega)
 by_cases hn:x.k=0
 ·have hl:=null_some s [x] (by simp) 1 0 rfl ⟨0,x,by omega,rfl,hn⟩
  have e2:step1 s x=vNull:=by unfold step1;rw [if_neg h9,if_pos hn]
  rw [e2]
  refine sp_tree draws (dm:=[]) (fs:=[]) (
   .rw 8012 [] [(12,Vb (Stp.k s==(1:Int)),Vb false)]<|.rw 8015 [] [(15,Vb (Stp.k s==(2:Int)),Vb false)]<|.rw 8016 [] [(16,Vb (Stp.k s==(3:Int)),Vb false)]<|.rw 8022 [] [(22,Vb (Stp.k s==(4:Int)),Vb false)]<|.rw 8027 [] [(27,Vb (Stp.k s==(5:Int)),Vb false)]<|.rw 8032 [] [(32,Vb (Stp.k s==(6:Int)),Vb false)]<|.rw 8039 [] [(39,Vb (Stp.k s==(9:Int)),Vb false)]<|.rw 8047 [] [(47,Vb (Stp.k s==(20:Int)),Vb false)]<|.rw 8048 [] [(48,Vb (Stp.k s==(21:Int)),Vb false)]<|.loop 152 false (K69) (S69 s [x] 0) (Ex.ret) (mkSt 74 [(6,V.ptr 1 0)] (H69 s))<|.ret (Fr (V.agg [Vu (0:Int),Vb false,Vi (0:Int),V.str (ByteArray.mk #[])]) [])) (by kernel_rfl) ?_
  exact ⟨⟨tv,cb (by simp<;>omega),tv⟩,⟨tv,cb (by simp<;>omega),tv⟩,⟨tv,cb (by simp<;>omega),tv⟩,⟨tv,cb (by simp<;>omega),tv⟩,⟨tv,cb (by simp<;>omega),tv⟩,⟨tv,cb (by simp<;>omega),tv⟩,⟨tv,cb (by simp<;>omega),tv⟩,⟨tv,cb (by simp<;>omega),tv⟩,⟨tv,cb (by simp<;>omega),tv⟩,(LoopR.weak (hl)),rfl⟩
 ·have hl:=null_none s [x] (by simp) 1 0 rfl (fun j v _ hv=>by
   match j,hv with
   | 0,hv=>cases hv;exact hn)
  have e2:step1 s x=op1 s.k x:=by unfold step1;rw [if_neg h9,if_neg hn]
  rw [e2]
  refine sp_tree draws (dm:=[]) (fs:=[]) (
   .rw 8012 [] [(12,Vb (Stp.k s==(1:Int)),Vb false)]<|.rw 8015 [] [(15,Vb (Stp.k s==(2:Int)),Vb false)]<|.rw 8016 [] [(16,Vb (Stp.k s==(3:Int)),Vb false)]<|.rw 8022 [] [(22,Vb (Stp.k s==(4:Int)),Vb false)]<|.rw 8027 [] [(27,Vb (Stp.k s==(5:Int)),Vb false)]<|.rw 8032 [] [(32,Vb (Stp.k s==(6:Int)),Vb false)]<|.rw 8039 [] [(39,Vb (Stp.k s==(9:Int)),Vb false)]<|.rw 8047 [] [(47,Vb (Stp.k s==(20:Int)),Vb false)]<|.rw 8048 [] [(48,Vb (Stp.k s==(21:Int)),Vb false)]<|.loop 152 false (K69) (S69 s [x] 0) (Ex.exit 1) (mkSt 74 [(2,eVs [x]),(3,V.ptr 0 0),(6,V.ptr 1 0)] (H69 s))<|.call 73 (133) ([Vu (Stp.k s),eVs [x]]) ([]) (Fr (eV (op1 (Stp.k s) x)) [])<|.ret (Fr (V.agg [Vu (Vl.k (op1 (Stp.k s) x)),Vb (Vl.b (op1 (Stp.k s) x)),Vi (Vl.n (op1 (Stp.k s) x)),V.str (Vl.s (op1 (Stp.k s) x))]) [])) (by kernel_rfl) ?_
  exact ⟨⟨tv,cb (by simp<;>omega),tv⟩,⟨tv,cb (by simp<;>omega),tv⟩,⟨tv,cb (by simp<;>omega),tv⟩,⟨tv,cb (by simp<;>omega),tv⟩,⟨tv,cb (by simp<;>omega),tv⟩,⟨tv,cb (by simp<;>omega),tv⟩,⟨tv,cb (by simp<;>omega),tv⟩,⟨tv,cb (by simp<;>omega),tv⟩,⟨tv,cb (by simp<;>omega),tv⟩,(LoopR.weak (hl)),(Sp.fact (e1)),rfl⟩
theorem step22_sp (s:Stp) (row:List Vl) (x y:Vl) (hx:Fv x) (hy:Fv y) (hk:11≤s.k) (hk2:s.k≤21):Sp C1 69 [eS s,eRow row,eVs [x,y]] (eV (step2 s x y)):=by
 by_cases h20:s.k=20
 ·have e:step2 s x y=logV false x y:=by unfold step2;rw [if_pos (.inl h20),h20];rfl
  rw [e]
  refine sp_tree draws (dm:=[]) (fs:=[]) (
   .rw 8012 [] [(12,Vb (Stp.k s==(1:Int)),Vb false)]<|.rw 8015 [] [(15,Vb (Stp.k s==(2:Int)),Vb false)]<|.rw 8016 [] [(16,Vb (Stp.k s==(3:Int)),Vb false)]<|.rw 8022 [] [(22,Vb (Stp.k s==(4:Int)),Vb false)]<|.rw 8027 [] [(27,Vb (Stp.k s==(5:Int)),Vb false)]<|.rw 8032 [] [(32,Vb (Stp.k s==(6:Int)),Vb false)]<|.rw 8039 [] [(39,Vb (Stp.k s==(9:Int)),Vb false)]<|.rw 8047 [] [(47,Vb (Stp.k s==(20:Int)),Vb true)]<|.rw 8051 [] [(51,Vb (Stp.k s==(21:Int)),Vb false)]<|.call 58 (132) ([Vb false,eV x,eV y]) ([]) (Fr (eV (logV false x y)) [])<|.ret (Fr (V.agg [Vu (Vl.k (logV false x y)),Vb (Vl.b (logV false x y)),Vi (Vl.n (logV false x y)),V.str (Vl.s (logV false x y))]) [])) (by kernel_rfl) ?_
  exact ⟨⟨tv,cb (by simp<;>omega),tv⟩,⟨tv,cb (by simp<;>omega),tv⟩,⟨tv,cb (by simp<;>omega),tv⟩,⟨tv,cb (by simp<;>omega),tv⟩,⟨tv,cb (by simp<;>omega),tv⟩,⟨tv,cb (by simp<;>omega),tv⟩,⟨tv,cb (by simp<;>omega),tv⟩,⟨tv,cb (by simp<;>omega),tv⟩,⟨tv,cb (by simp<;>omega),tv⟩,(Sp.fact (logic2_sp _ _ _)),rfl⟩
 by_cases h21:s.k=21
 ·have e:step2 s x y=logV true x y:=by unfold step2;rw [if_pos (.inr h21),h21];rfl
  rw [e]
  refine sp_tree draws (dm:=[]) (fs:=[]) (
   .rw 8012 [] [(12,Vb (Stp.k s==(1:Int)),Vb false)]<|.rw 8015 [] [(15,Vb (Stp.k s==(2:Int)),Vb false)]<|.rw 8016 [] [(16,Vb (Stp.k s==(3:Int)),Vb false)]<|.rw 8022 [] [(22,Vb (Stp.k s==(4:Int)),Vb false)]<|.rw 8027 [] [(27,Vb (Stp.k s==(5:Int)),Vb false)]<|.rw 8032 [] [(32,Vb (Stp.k s==(6:Int)),Vb false)]<|.rw 8039 [] [(39,Vb (Stp.k s==(9:Int)),Vb false)]<|.rw 8047 [] [(47,Vb (Stp.k s==(20:Int)),Vb false)]<|.rw 8048 [] [(48,Vb (Stp.k s==(21:Int)),Vb true)]<|.call 58 (132) ([Vb (Stp.k s==(21:Int)),eV x,eV y]) ([]) (Fr (eV (logV (Stp.k s==(21:Int)) x y)) [])<|.ret (Fr (V.agg [Vu (Vl.k (logV (Stp.k s==(21:Int)) x y)),Vb (Vl.b (logV (Stp.k s==(21:Int)) x y)),Vi (Vl.n (logV (Stp.k s==(21:Int)) x y)),V.str (Vl.s (logV (Stp.k s==(21:Int)) x y))]) [])) (by kernel_rfl) ?_
  exact ⟨⟨tv,cb (by simp<;>omega),tv⟩,⟨tv,cb (by simp<;>omega),tv⟩,⟨tv,cb (by simp<;>omega),tv⟩,⟨tv,cb (by simp<;>omega),tv⟩,⟨tv,cb (by simp<;>omega),tv⟩,⟨tv,cb (by simp<;>omega),tv⟩,⟨tv,cb (by simp<;>omega),tv⟩,⟨tv,cb (by simp<;>omega),tv⟩,⟨tv,cb (by simp<;>omega),tv⟩,(Sp.fact (logic2_sp _ _ _)),by show _=_;(rw [h21];rfl)⟩
 have e1:=taken2_sp s.k x y hx hy hk (by omega)
 by_cases hn:x.k=0∨y.k=0
 ·have hl:=null_some s [x,y] (by simp) 2 0 rfl (by
   rcases hn with hn | hn
   ·exact ⟨0,x,by omega,rfl,hn⟩
   ·exact ⟨1,y,by omega,rfl,hn⟩)
  have e2:step2 s x y=vNull:=by unfold step2;rw [if_neg (by omega),if_pos hn]
  rw [e2]
  refine sp_tree draws (dm:=[]) (fs:=[]) (
   .rw 8012 [] [(12,Vb (Stp.k s==(1:Int)),Vb false)]<|.rw 8015 [] [(15,Vb (Stp.k s==(2:Int)),Vb false)]<|.rw 8016 [] [(16,Vb (Stp.k s==(3:Int)),Vb false)]<|.rw 8022 [] [(22,Vb (Stp.k s==(4:Int)),Vb false)]<|.rw 8027 [] [(27,Vb (Stp.k s==(5:Int)),Vb false)]<|.rw 8032 [] [(32,Vb (Stp.k s==(6:Int)),Vb false)]<|.rw 8039 [] [(39,Vb (Stp.k s==(9:Int)),Vb false)]<|.rw 8047 [] [(47,Vb (Stp.k s==(20:Int)),Vb false)]<|.rw 8048 [] [(48,Vb (Stp.k s==(21:Int)),Vb false)]<|.loop 152 false (K69) (S69 s [x,y] 0) (Ex.ret) (mkSt 74 [(6,V.ptr 1 0)] (H69 s))<|.ret (Fr (V.agg [Vu (0:Int),Vb false,Vi (0:Int),V.str (ByteArray.mk #[])]) [])) (by kernel_rfl) ?_
  exact ⟨⟨tv,cb (by simp<;>omega),tv⟩,⟨tv,cb (by simp<;>omega),tv⟩,⟨tv,cb (by simp<;>omega),tv⟩,⟨tv,cb (by simp<;>omega),tv⟩,⟨tv,cb (by simp<;>omega),tv⟩,⟨tv,cb (by simp<;>omega),tv⟩,⟨tv,cb (by simp<;>omega),tv⟩,⟨tv,cb (by simp<;>omega),tv⟩,⟨tv,cb (by simp<;>omega),tv⟩,(LoopR.weak (hl)),rfl⟩
 ·have hl:=null_none s [x,y] (by simp) 2 0 rfl (fun j v _ hv=>by
   match j,hv with
   | 0,hv=>cases hv;omega
   | 1,hv=>cases hv;omega)
  have e2:step2 s x y=op2 s.k x y:=by unfold step2;rw [if_neg (by omega),if_neg hn]
  rw [e2]
  refine sp_tree draws (dm:=[]) (fs:=[]) (
   .rw 8012 [] [(12,Vb (Stp.k s==(1:Int)),Vb false)]<|.rw 8015 [] [(15,Vb (Stp.k s==(2:Int)),Vb false)]<|.rw 8016 [] [(16,Vb (Stp.k s==(3:Int)),Vb false)]<|.rw 8022 [] [(22,Vb (Stp.k s==(4:Int)),Vb false)]<|.rw 8027 [] [(27,Vb (Stp.k s==(5:Int)),Vb false)]<|.rw 8032 [] [(32,Vb (Stp.k s==(6:Int)),Vb false)]<|.rw 8039 [] [(39,Vb (Stp.k s==(9:Int)),Vb false)]<|.rw 8047 [] [(47,Vb (Stp.k s==(20:Int)),Vb false)]<|.rw 8048 [] [(48,Vb (Stp.k s==(21:Int)),Vb false)]<|.loop 152 false (K69) (S69 s [x,y] 0) (Ex.exit 1) (mkSt 74 [(2,eVs [x,y]),(3,V.ptr 0 0),(6,V.ptr 1 0)] (H69 s))<|.call 73 (133) ([Vu (Stp.k s),eVs [x,y]]) ([]) (Fr (eV (op2 (Stp.k s) x y)) [])<|.ret (Fr (V.agg [Vu (Vl.k (op2 (Stp.k s) x y)),Vb (Vl.b (op2 (Stp.k s) x y)),Vi (Vl.n (op2 (Stp.k s) x y)),V.str (Vl.s (op2 (Stp.k s) x y))]) [])) (by kernel_rfl) ?_
  exact ⟨⟨tv,cb (by simp<;>omega),tv⟩,⟨tv,cb (by simp<;>omega),tv⟩,⟨tv,cb (by simp<;>omega),tv⟩,⟨tv,cb (by simp<;>omega),tv⟩,⟨tv,cb (by simp<;>omega),tv⟩,⟨tv,cb (by simp<;>omega),tv⟩,⟨tv,cb (by simp<;>omega),tv⟩,⟨tv,cb (by simp<;>omega),tv⟩,⟨tv,cb (by simp<;>omega),tv⟩,(LoopR.weak (hl)),(Sp.fact (e1)),rfl⟩
end Go.Fw
set_option maxHeartbeats 20000000
namespace Go.Fw
open Go.Proofs
def mayB (k w:Int):Bool:=decide (k=w∨k=0)
theorem may_sp (k w:Int):Sp C1 99 [.int .u8 k,.int .u8 w] (.bool (mayB k w)):=by
 refine sp_tree draws (dm:=[]) (fs:=[]) (
  .ite 1009 ((k==w)==false)
  (.rw 8009 [] [(7,Vb (k==w),Vb false)]<|.tt 1010 ((k==w)==false)<|.ff 11 (k==w)<|.ret (Fr (Vb (k==(0:Int))) []))
  (.ff 1010 ((k==w)==false)<|.tt 11 (k==w)<|.ret (Fr (Vb true) []))) (by kernel_rfl) ?_
 exact ⟨fun h0=>have h0p:¬k=w:=(by simpa using h0);⟨⟨tv,cb (by simp<;>omega),tv⟩,(h0),by simp<;>omega,by show _=_;(unfold mayB;grind)⟩,
  fun h0=>have h0p:k=w:=(by simpa using h0);⟨(h0),by simp<;>omega,by show _=_;(unfold mayB;grind)⟩⟩
abbrev eKs (l:List Int):V:=.imm false 1 (l.map (V.int .u8))
def kind0 (k:Int):Int:=if k=1 then 0 else if k≤3 then 1 else if k=4 then 2 else 3
def kind1 (k:Int):Int:=if k=8∨k=9 then 1 else 2
def kind1ok (k x:Int):Bool:=if k=9 then true else if k=7 then mayB x 2 else if k=8 then mayB x 1 else mayB x 3
def kind2 (k:Int):Int:=if k≤13 then 2 else 1
def kind2ok (k x y:Int):Bool:=if k≤13 then mayB x 2&&mayB y 2 else if k≤19 then mayB x y||mayB y x else mayB x 1&&mayB y 1
theorem kind20_sp (k:Int) (l:List Int) (h1:1≤k) (h2:k≤5):Sp C1 67 [.int .u8 k,eKs l] (.tup [.int .u8 (kind0 k),.bool true]):=by
 refine sp_tree draws (dm:=[]) (fs:=[]) (
  .ite 2006 (k==(1:Int))
  (.rw 8004 [] [(6,Vb (k==(1:Int)),Vb true)]<|.ret (Fr (V.tup [Vu (0:Int),Vb true]) []))
  (.ite 1013 ((k==(2:Int))==false)
  (.rw 8013 [] [(6,Vb (k==(1:Int)),Vb false),(11,Vb (k==(2:Int)),Vb false)]<|.tt 1014 ((k==(2:Int))==false)<|.ff 15 (k==(2:Int))<|.ite 1017 ((k==(3:Int))==false)
  (.rw 8017 [] [(8,Vb (k==(1:Int)),Vb false),(12,Vb (k==(2:Int)),Vb false),(14,Vb (k==(3:Int)),Vb false)]<|.tt 1018 ((k==(3:Int))==false)<|.rw 8018 [] [(18,Vb (k==(9:Int)),Vb false)]<|.ff 19 (k==(3:Int))<|.ite 2020 (k==(4:Int))
  (.rw 8004 [] [(15,Vb (k==(3:Int)),Vb false),(20,Vb (k==(4:Int)),Vb true)]<|.ret (Fr (V.tup [Vu (2:Int),Vb true]) []))
  (.rw 8025 [] [(25,Vb (k==(5:Int)),Vb true)]<|.ret (Fr (V.tup [Vu (3:Int),Vb true]) [])))
  (.ff 1018 ((k==(3:Int))==false)<|.tt 19 (k==(3:Int))<|.ret (Fr (V.tup [Vu (1:Int),Vb true]) [])))
  (.ff 1014 ((k==(2:Int))==false)<|.tt 15 (k==(2:Int))<|.ret (Fr (V.tup [Vu (1:Int),Vb true]) [])))) (by kernel_rfl) ?_
 exact ⟨fun h0=>have h0p:k=(1:Int):=(by simpa using h0);⟨⟨tv,cb (h0),tv⟩,by show _=_;(unfold kind0;grind)⟩,
  fun h0=>have h0p:¬k=(1:Int):=(by simpa using h0);⟨fun h1=>have h1p:¬k=(2:Int):=(by simpa using h1);⟨⟨tv,cb (h0),cb (by simp<;>omega),tv⟩,(h1),by simp<;>omega,fun h2=>have h2p:¬k=(3:Int):=(by simpa using h2);⟨⟨tv,cb (h0),cb (by simp<;>omega),cb (by simp<;>omega),tv⟩,(h2),⟨tv,cb (by simp<;>omega),tv⟩,by simp<;>omega,fun h3=>have h3p:k=(4:Int):=(by simpa using h3);⟨⟨tv,cb (by simp<;>omega),cb (h3),tv⟩,by show _=_;(unfold kind0;grind)⟩,
  fun h3=>have h3p:¬k=(4:Int):=(by simpa using h3);⟨⟨tv,cb (by simp<;>omega),tv⟩,by show _=_;(unfold kind0;grind)⟩⟩,
  fun h2=>have h2p:k=(3:Int):=(by simpa using h2);⟨(h2),by simp<;>omega,by show _=_;(unfold kind0;grind)⟩⟩,
  fun h1=>have h1p:k=(2:Int):=(by simpa using h1);⟨(h1),by simp<;>omega,by show _=_;(unfold kind0;grind)⟩⟩⟩
theorem kind21_sp (k x:Int) (h1:7≤k) (h2:k≤10):Sp C1 67 [.int .u8 k,eKs [x]] (.tup [.int .u8 (kind1 k),.bool (kind1ok k x)]):=by
 have h3:k=7∨k=8∨k=9∨k=10:=by omega
 rcases h3 with rfl | rfl | rfl | rfl
 ·refine sp_tree draws (dm:=[]) (fs:=[]) (
   .call 32 (99) ([Vu x,Vu (2:Int)]) ([]) (Fr (Vb (mayB x (2:Int))) [])<|.ret (Fr (V.tup [Vu (2:Int),Vb (mayB x (2:Int))]) [])) (by kernel_rfl) ?_
  exact ⟨(Sp.fact (may_sp _ _)),rfl⟩
 ·refine sp_tree draws (dm:=[]) (fs:=[]) (
   .call 39 (99) ([Vu x,Vu (1:Int)]) ([]) (Fr (Vb (mayB x (1:Int))) [])<|.ret (Fr (V.tup [Vu (1:Int),Vb (mayB x (1:Int))]) [])) (by kernel_rfl) ?_
  exact ⟨(Sp.fact (may_sp _ _)),rfl⟩
 ·refine sp_tree draws (dm:=[]) (fs:=[]) (
   .ret (Fr (V.tup [Vu (1:Int),Vb true]) [])) (by kernel_rfl) ?_
  exact rfl
 ·refine sp_tree draws (dm:=[]) (fs:=[]) (
   .call 46 (99) ([Vu x,Vu (3:Int)]) ([]) (Fr (Vb (mayB x (3:Int))) [])<|.ret (Fr (V.tup [Vu (2:Int),Vb (mayB x (3:Int))]) [])) (by kernel_rfl) ?_
  exact ⟨(Sp.fact (may_sp _ _)),rfl⟩
theorem kind22_sp (k x y:Int) (h1:11≤k) (h2:k≤21):Sp C1 67 [.int .u8 k,eKs [x,y]] (.tup [.int .u8 (kind2 k),.bool (kind2ok k x y)]):=by
 have m1:=may_sp x 2
 have m2:=may_sp y 2
 have m3:=may_sp x y
 have m4:=may_sp y x
 have m5:=may_sp x 1
 have m6:=may_sp y 1
 by_cases h3:k≤13
 ·refine sp_tree draws (dm:=[]) (fs:=[]) (
   .rw 8008 [] [(8,Vb (k==(1:Int)),Vb false)]<|.rw 8011 [] [(11,Vb (k==(2:Int)),Vb false)]<|.rw 8014 [] [(14,Vb (k==(3:Int)),Vb false)]<|.rw 8018 [] [(18,Vb (k==(9:Int)),Vb false)]<|.rw 8022 [] [(22,Vb (k==(4:Int)),Vb false)]<|.rw 8025 [] [(25,Vb (k==(5:Int)),Vb false)]<|.rw 8028 [] [(28,Vb (k==(7:Int)),Vb false)]<|.rw 8035 [] [(35,Vb (k==(8:Int)),Vb false)]<|.rw 8042 [] [(42,Vb (k==(10:Int)),Vb false)]<|.rw 8049 [] [(49,Vb (decide (k≤(13:Int))),Vb true)]<|.call 53 (99) ([Vu x,Vu (2:Int)]) ([]) (Fr (Vb (mayB x (2:Int))) [])<|.ite 1055 (mayB x (2:Int)==true)
   (.rw 8055 [] [(53,Vb (mayB x (2:Int)),Vb true)]<|.tt 1056 (mayB x (2:Int)==true)<|.tt 1057 (mayB x (2:Int)==true)<|.tt 1058 (mayB x (2:Int)==true)<|.call 58 (99) ([Vu y,Vu (2:Int)]) ([]) (Fr (Vb (mayB y (2:Int))) [])<|.tt 59 (mayB x (2:Int))<|.ret (Fr (V.tup [Vu (2:Int),Vb (mayB y (2:Int))]) []))
   (.ff 1056 (mayB x (2:Int)==true)<|.ff 1057 (mayB x (2:Int)==true)<|.ff 1058 (mayB x (2:Int)==true)<|.ff 59 (mayB x (2:Int))<|.ret (Fr (V.tup [Vu (2:Int),Vb false]) []))) (by kernel_rfl) ?_
  exact ⟨⟨tv,cb (by simp<;>omega),tv⟩,⟨tv,cb (by simp<;>omega),tv⟩,⟨tv,cb (by simp<;>omega),tv⟩,⟨tv,cb (by simp<;>omega),tv⟩,⟨tv,cb (by simp<;>omega),tv⟩,⟨tv,cb (by simp<;>omega),tv⟩,⟨tv,cb (by simp<;>omega),tv⟩,⟨tv,cb (by simp<;>omega),tv⟩,⟨tv,cb (by simp<;>omega),tv⟩,⟨tv,cb (by simp<;>omega),tv⟩,(Sp.fact (m1)),fun h0=>have h0p:mayB x (2:Int)=true:=(by simpa using h0);⟨⟨tv,cb (h0p),tv⟩,(h0),(h0),(h0),(Sp.fact (m2)),(h0p),by show _=_;(unfold kind2 kind2ok;grind)⟩,
   fun h0=>have h0p:mayB x (2:Int)=false:=(by simpa using h0);⟨(h0),(h0),(h0),(h0p),by show _=_;(unfold kind2 kind2ok;grind)⟩⟩
 by_cases h4:k≤19
 ·refine sp_tree draws (dm:=[]) (fs:=[]) (
   .rw 8008 [] [(8,Vb (k==(1:Int)),Vb false)]<|.rw 8011 [] [(11,Vb (k==(2:Int)),Vb false)]<|.rw 8014 [] [(14,Vb (k==(3:Int)),Vb false)]<|.rw 8018 [] [(18,Vb (k==(9:Int)),Vb false)]<|.rw 8022 [] [(22,Vb (k==(4:Int)),Vb false)]<|.rw 8025 [] [(25,Vb (k==(5:Int)),Vb false)]<|.rw 8028 [] [(28,Vb (k==(7:Int)),Vb false)]<|.rw 8035 [] [(35,Vb (k==(8:Int)),Vb false)]<|.rw 8042 [] [(42,Vb (k==(10:Int)),Vb false)]<|.rw 8049 [] [(49,Vb (decide (k≤(13:Int))),Vb false)]<|.rw 8062 [] [(62,Vb (decide (k≤(19:Int))),Vb true)]<|.call 69 (99) ([Vu x,Vu y]) ([]) (Fr (Vb (mayB x y)) [])<|.ite 1071 (mayB x y==false)
   (.rw 8071 [] [(69,Vb (mayB x y),Vb false)]<|.tt 1072 (mayB x y==false)<|.tt 1073 (mayB x y==false)<|.tt 1074 (mayB x y==false)<|.tt 1075 (mayB x y==false)<|.tt 1076 (mayB x y==false)<|.tt 1077 (mayB x y==false)<|.call 77 (99) ([Vu y,Vu x]) ([]) (Fr (Vb (mayB y x)) [])<|.ff 78 (mayB x y)<|.ret (Fr (V.tup [Vu (1:Int),Vb (mayB y x)]) []))
   (.ff 1072 (mayB x y==false)<|.ff 1073 (mayB x y==false)<|.ff 1074 (mayB x y==false)<|.ff 1075 (mayB x y==false)<|.ff 1076 (mayB x y==false)<|.ff 1077 (mayB x y==false)<|.tt 78 (mayB x y)<|.ret (Fr (V.tup [Vu (1:Int),Vb true]) []))) (by kernel_rfl) ?_
  exact ⟨⟨tv,cb (by simp<;>omega),tv⟩,⟨tv,cb (by simp<;>omega),tv⟩,⟨tv,cb (by simp<;>omega),tv⟩,⟨tv,cb (by simp<;>omega),tv⟩,⟨tv,cb (by simp<;>omega),tv⟩,⟨tv,cb (by simp<;>omega),tv⟩,⟨tv,cb (by simp<;>omega),tv⟩,⟨tv,cb (by simp<;>omega),tv⟩,⟨tv,cb (by simp<;>omega),tv⟩,⟨tv,cb (by simp<;>omega),tv⟩,⟨tv,cb (by simp<;>omega),tv⟩,(Sp.fact (m3)),fun h0=>have h0p:mayB x y=false:=(by simpa using h0);⟨⟨tv,cb (h0p),tv⟩,(h0),(h0),(h0),(h0),(h0),(h0),(Sp.fact (m4)),(h0p),by show _=_;(unfold kind2 kind2ok;grind)⟩,
   fun h0=>have h0p:mayB x y=true:=(by simpa using h0);⟨(h0),(h0),(h0),(h0),(h0),(h0),(h0p),by show _=_;(unfold kind2 kind2ok;grind)⟩⟩
 ·refine sp_tree draws (dm:=[]) (fs:=[]) (
   .rw 8008 [] [(8,Vb (k==(1:Int)),Vb false)]<|.rw 8011 [] [(11,Vb (k==(2:Int)),Vb false)]<|.rw 8014 [] [(14,Vb (k==(3:Int)),Vb false)]<|.rw 8018 [] [(18,Vb (k==(9:Int)),Vb false)]<|.rw 8022 [] [(22,Vb (k==(4:Int)),Vb false)]<|.rw 8025 [] [(25,Vb (k==(5:Int)),Vb false)]<|.rw 8028 [] [(28,Vb (k==(7:Int)),Vb false)]<|.rw 8035 [] [(35,Vb (k==(8:Int)),Vb false)]<|.rw 8042 [] [(42,Vb (k==(10:Int)),Vb false)]<|.rw 8049 [] [(49,Vb (decide (k≤(13:Int))),Vb false)]<|.rw 8062 [] [(62,Vb (decide (k≤(19:Int))),Vb false)]<|.call 82 (99) ([Vu x,Vu (1:Int)]) ([]) (Fr (Vb (mayB x (1:Int))) [])<|.ite 1084 (mayB x (1:Int)==true)
   (.rw 8084 [] [(82,Vb (mayB x (1:Int)),Vb true)]<|.tt 1085 (mayB x (1:Int)==true)<|.tt 1086 (mayB x (1:Int)==true)<|.tt 1087 (mayB x (1:Int)==true)<|.call 87 (99) ([Vu y,Vu (1:Int)]) ([]) (Fr (Vb (mayB y (1:Int))) [])<|.tt 88 (mayB x (1:Int))<|.ret (Fr (V.tup [Vu (1:Int),Vb (mayB y (1:Int))]) []))
   (.ff 1085 (mayB x (1:Int)==true)<|.ff 1086 (mayB x (1:Int)==true)<|.ff 1087 (mayB x (1:Int)==true)<|.ff 88 (mayB x (1:Int))<|.ret (Fr (V.tup [Vu (1:Int),Vb false]) []))) (by kernel_rfl) ?_
  exact ⟨⟨tv,cb (by simp<;>omega),tv⟩,⟨tv,cb (by simp<;>omega),tv⟩,⟨tv,cb (by simp<;>omega),tv⟩,⟨tv,cb (by simp<;>omega),tv⟩,⟨tv,cb (by simp<;>omega),tv⟩,⟨tv,cb (by simp<;>omega),tv⟩,⟨tv,cb (by simp<;>omega),tv⟩,⟨tv,cb (by simp<;>omega),tv⟩,⟨tv,cb (by simp<;>omega),tv⟩,⟨tv,cb (by simp<;>omega),tv⟩,⟨tv,cb (by simp<;>omega),tv⟩,(Sp.fact (m5)),fun h0=>have h0p:mayB x (1:Int)=true:=(by simpa using h0);⟨⟨tv,cb (h0p),tv⟩,(h0),(h0),(h0),(Sp.fact (m6)),(h0p),by show _=_;(unfold kind2 kind2ok;grind)⟩,
   fun h0=>have h0p:mayB x (1:Int)=false:=(by simpa using h0);⟨(h0),(h0),(h0),(h0p),by show _=_;(unfold kind2 kind2ok;grind)⟩⟩
end Go.Fw
set_option maxHeartbeats 20000000
namespace Go.Fw
open Go.Proofs
def tOk (s:Stp):Bool:=if s.k=6 then true else tkOk s
def tN (s:Stp):Int:=if s.k=6 then 0 else tkN s
def rightGo:List Stp→Int→Option Int
 | [],n=>some n
 | s::l,n=>if tOk s=false∨n<tN s then none else rightGo l (n+(1-tN s))
def rightB (l:List Stp):Bool:=match rightGo l 0 with
 | some n=>decide (n=1∧l.length≤64)
 | none=>false
theorem tk_null:tkN ⟨1,eT,0⟩=0∧tkOk ⟨1,eT,0⟩=true:=by
 have:TkOk ⟨1,eT,0⟩:=by unfold TkOk;refine ⟨by decide,by decide,.inr (toList_nil rfl),.inr rfl,fun h=>by simp at h⟩
 unfold tkN tkOk
 rw [if_neg (by simpa using this)]
 exact ⟨rfl,by simpa using this⟩
theorem tkN_range (s:Stp):0≤tkN s∧tkN s≤2:=by unfold tkN;grind
theorem tN_range (s:Stp):0≤tN s∧tN s≤2:=by
 have:=tkN_range s
 unfold tN;grind
theorem rightGo_at (l:List Stp) (i:Nat) (s:Stp) (h:l[i]?=some s) (n:Int):rightGo (l.drop i) n=if tOk s=false∨n<tN s then none else rightGo (l.drop (i+1)) (n+(1-tN s)):=by
 obtain ⟨h1,rfl⟩:=List.getElem?_eq_some_iff.1 h
 rw [List.drop_eq_getElem_cons h1]
 rfl
abbrev K65:List (Nat×Fm):=keeps [0,3,8,9,10]
abbrev S65 (l:List Stp) (n:Int) (i:Nat):St:=mkSt 42 [(0,eSteps l),(3,.int .i64 n),(8,eSteps l),(9,.int .i64 (l.length:Int)),(10,.int .i64 (i:Int))] []
section
variable (l:List Stp) (hb:l.length≤2 ^ 47) (hf:∀ s∈l,FineS s)
include hb hf
theorem rightl_none:∀ k i (n:Int),i+k=l.length→0≤n→n≤i→rightGo (l.drop i) n=none→LoopK C1 65 24 K65 (S65 l n i) .ret (mkSt 42 [(2,.bool false)] [])
 | 0,i,n,hi,h0,h1,hz=>by
  rw [List.drop_eq_nil_of_le (by omega)] at hz
  cases hz
 | k+1,i,n,hi,h0,h1,hz=>by
  obtain ⟨s,hs⟩:∃ s,l[i]?=some s:=⟨l[i]'(by omega),List.getElem?_eq_getElem (by omega)⟩
  have fs:=hf s (List.mem_of_getElem? hs)
  have hr:=tN_range s
  rw [rightGo_at l i s hs n] at hz
  have ih0:=rightl_none k (i+1) (n+(1-tN s)) (by omega)
  by_cases h6:s.k=6
  ·have e1:tN s=0:=by unfold tN;rw [if_pos h6]
   have e2:tOk s=true:=by unfold tOk;rw [if_pos h6]
   rw [if_neg (by rw [e2,e1];simp;omega),e1] at hz
   rw [e1] at ih0
   have ih:=ih0 (by omega) (by omega) hz
   have ht:=takes2_sp ⟨1,eT,0⟩ (by unfold FineS;exact ⟨by decide,by decide,by decide⟩) (by simp)
   rw [tk_null.1,tk_null.2] at ht
   refine loop_tree draws (rd:=true) (kn:=K65) (ke:=(keeps [2])) (
    .rw 8011 [] [(11,Vb (decide ((↑i:Int)<(↑(List.length l):Int))),Vb true)]<|.opt 12 (idx (List.map eS l) (↑i:Int)) (eS s)<|.rw 8016 [] [(16,Vb (Stp.k s==(6:Int)),Vb true)]<|.call 20 (66) ([eS (Stp.mk (1:Int) eT (0:Int))]) ([]) (Fr (V.tup [Vi (0:Int),Vb true]) [])<|.rw 8028 [] [(28,Vb (decide ((0:Int)>n)),Vb false)]<|.rw 8033 [] [(33,Vi (IntKind.wrap IntKind.i64 (n+IntKind.wrap IntKind.i64 ((1:Int)-(0:Int)))),Vi (n+((1:Int)-(0:Int))))]<|.rw 8034 [] [(34,Vi (IntKind.wrap IntKind.i64 ((↑i:Int)+(1:Int))),Vi (↑(i+1):Int))]<|.to 24000 ([.cut 0])<|.ret (.normal,S65 l (n+((1:Int)-(0:Int))) (i+1))) (by kernel_rfl) ?_
   exact ⟨⟨tv,cb (by simp<;>omega),tv⟩,(idx_map _ hs),⟨tv,cb (by simp<;>omega),tv⟩,(Sp.fact (ht)),⟨tv,cb (by simp<;>omega),tv⟩,⟨tv,by simp (disch:=omega) only [wrap_i64],tv⟩,⟨tv,by simp (disch:=omega) only [cast_succ,wrap_i64],tv⟩,(ih0 (by omega) (by omega) hz)⟩
  ·have e1:tN s=tkN s:=by unfold tN;rw [if_neg h6]
   have e2:tOk s=tkOk s:=by unfold tOk;rw [if_neg h6]
   have ht:=takes2_sp s fs h6
   rw [e1,e2] at hz
   rw [e1] at hr ih0
   cases h7:tkOk s with
   | false =>
    rw [h7] at ht
    refine loop_tree draws (rd:=true) (kn:=K65) (ke:=(keeps [2])) (
     .rw 8011 [] [(11,Vb (decide ((↑i:Int)<(↑(List.length l):Int))),Vb true)]<|.opt 12 (idx (List.map eS l) (↑i:Int)) (eS s)<|.rw 8016 [] [(16,Vb (Stp.k s==(6:Int)),Vb false)]<|.call 20 (66) ([eS s]) ([]) (Fr (V.tup [Vi (tkN s),Vb false]) [])<|.to 24001 ([.cut 0])<|.ret ((Ex.ret,mkSt 42 [(2,Vb false)] []))) (by kernel_rfl) ?_
    exact ⟨⟨tv,cb (by simp<;>omega),tv⟩,(idx_map _ hs),⟨tv,cb (by simp<;>omega),tv⟩,(Sp.fact (ht)),rfl,rfl⟩
   | true =>
    rw [h7] at ht hz
    by_cases h8:n<tkN s
    ·refine loop_tree draws (rd:=true) (kn:=K65) (ke:=(keeps [2])) (
      .rw 8011 [] [(11,Vb (decide ((↑i:Int)<(↑(List.length l):Int))),Vb true)]<|.opt 12 (idx (List.map eS l) (↑i:Int)) (eS s)<|.rw 8016 [] [(16,Vb (Stp.k s==(6:Int)),Vb false)]<|.call 20 (66) ([eS s]) ([]) (Fr (V.tup [Vi (tkN s),Vb true]) [])<|.rw 8028 [] [(28,Vb (decide (tkN s>n)),Vb true)]<|.to 24001 ([.cut 0])<|.ret ((Ex.ret,mkSt 42 [(2,Vb false)] []))) (by kernel_rfl) ?_
     exact ⟨⟨tv,cb (by simp<;>omega),tv⟩,(idx_map _ hs),⟨tv,cb (by simp<;>omega),tv⟩,(Sp.fact (ht)),⟨tv,cb (by simp<;>omega),tv⟩,rfl,rfl⟩
    ·rw [if_neg (by simp;omega)] at hz
     have ih:=ih0 (by omega) (by omega) hz
     refine loop_tree draws (rd:=true) (kn:=K65) (ke:=(keeps [2])) (
      .rw 8011 [] [(11,Vb (decide ((↑i:Int)<(↑(List.length l):Int))),Vb true)]<|.opt 12 (idx (List.map eS l) (↑i:Int)) (eS s)<|.rw 8016 [] [(16,Vb (Stp.k s==(6:Int)),Vb false)]<|.call 20 (66) ([eS s]) ([]) (Fr (V.tup [Vi (tkN s),Vb true]) [])<|.rw 8028 [] [(28,Vb (decide (tkN s>n)),Vb false)]<|.rw 8032 [] [(32,Vi (IntKind.wrap IntKind.i64 ((1:Int)-tkN s)),Vi ((1:Int)-tkN s))]<|.rw 8033 [] [(33,Vi (IntKind.wrap IntKind.i64 (n+((1:Int)-tkN s))),Vi (n+((1:Int)-tkN s)))]<|.rw 8034 [] [(34,Vi (IntKind.wrap IntKind.i64 ((↑i:Int)+(1:Int))),Vi (↑(i+1):Int))]<|.to 24000 ([.cut 0])<|.ret (.normal,S65 l (n+((1:Int)-tkN s)) (i+1))) (by kernel_rfl) ?_
     exact ⟨⟨tv,cb (by simp<;>omega),tv⟩,(idx_map _ hs),⟨tv,cb (by simp<;>omega),tv⟩,(Sp.fact (ht)),⟨tv,cb (by simp<;>omega),tv⟩,⟨tv,by simp (disch:=omega) only [wrap_i64],tv⟩,⟨tv,by simp (disch:=omega) only [wrap_i64],tv⟩,⟨tv,by simp (disch:=omega) only [cast_succ,wrap_i64],tv⟩,(ih0 (by omega) (by omega) hz)⟩
theorem rightl_some (m:Int):∀ k i (n:Int),i+k=l.length→0≤n→n≤i→rightGo (l.drop i) n=some m→LoopK C1 65 24 K65 (S65 l n i) (.exit 0) (mkSt 42 [(0,eSteps l),(3,.int .i64 m)] [])
 | 0,i,n,hi,h0,h1,hz=>by
  rw [List.drop_eq_nil_of_le (by omega)] at hz
  cases hz
  refine loop_tree draws (rd:=true) (kn:=K65) (ke:=(keeps [0,3])) (
   .rw 8011 [] [(11,Vb (decide ((↑i:Int)<(↑(List.length l):Int))),Vb false)]<|.ret ((Ex.exit 0,mkSt 42 [(0,V.imm false 3 (List.map eS l)),(3,Vi m)] []))) (by kernel_rfl) ?_
  exact ⟨⟨tv,cb (by simp<;>omega),tv⟩,rfl,rfl⟩
 | k+1,i,n,hi,h0,h1,hz=>by
  obtain ⟨s,hs⟩:∃ s,l[i]?=some s:=⟨l[i]'(by omega),List.getElem?_eq_getElem (by omega)⟩
  have fs:=hf s (List.mem_of_getElem? hs)
  have hr:=tN_range s
  rw [rightGo_at l i s hs n] at hz
  have ih0:=rightl_some m k (i+1) (n+(1-tN s)) (by omega)
  have hc:¬(tOk s=false∨n<tN s):=fun hc=>by rw [if_pos hc] at hz;cases hz
  rw [if_neg hc] at hz
  have ih:=ih0 (by omega) (by omega) hz
  by_cases h6:s.k=6
  ·have e1:tN s=0:=by unfold tN;rw [if_pos h6]
   rw [e1] at ih
   have ht:=takes2_sp ⟨1,eT,0⟩ (by unfold FineS;exact ⟨by decide,by decide,by decide⟩) (by simp)
   rw [tk_null.1,tk_null.2] at ht
   refine loop_tree draws (rd:=true) (kn:=K65) (ke:=(keeps [0,3])) (
    .rw 8011 [] [(11,Vb (decide ((↑i:Int)<(↑(List.length l):Int))),Vb true)]<|.opt 12 (idx (List.map eS l) (↑i:Int)) (eS s)<|.rw 8016 [] [(16,Vb (Stp.k s==(6:Int)),Vb true)]<|.call 20 (66) ([eS (Stp.mk (1:Int) eT (0:Int))]) ([]) (Fr (V.tup [Vi (0:Int),Vb true]) [])<|.rw 8028 [] [(28,Vb (decide ((0:Int)>n)),Vb false)]<|.rw 8033 [] [(33,Vi (IntKind.wrap IntKind.i64 (n+IntKind.wrap IntKind.i64 ((1:Int)-(0:Int)))),Vi (n+((1:Int)-(0:Int))))]<|.rw 8034 [] [(34,Vi (IntKind.wrap IntKind.i64 ((↑i:Int)+(1:Int))),Vi (↑(i+1):Int))]<|.to 24000 ([.cut 0])<|.ret (.normal,S65 l (n+((1:Int)-(0:Int))) (i+1))) (by kernel_rfl) ?_
   exact ⟨⟨tv,cb (by simp<;>omega),tv⟩,(idx_map _ hs),⟨tv,cb (by simp<;>omega),tv⟩,(Sp.fact (ht)),⟨tv,cb (by simp<;>omega),tv⟩,⟨tv,by simp (disch:=omega) only [wrap_i64],tv⟩,⟨tv,by simp (disch:=omega) only [cast_succ,wrap_i64],tv⟩,(ih)⟩
  ·have e1:tN s=tkN s:=by unfold tN;rw [if_neg h6]
   have e2:tOk s=tkOk s:=by unfold tOk;rw [if_neg h6]
   have ht:=takes2_sp s fs h6
   rw [e1,e2] at hc
   rw [e1] at hr ih
   have h7:tkOk s=true:=by
    cases h:tkOk s with
    | true=>rfl
    | false=>exact absurd (.inl h) hc
   have h8:tkN s≤n:=by omega
   rw [h7] at ht
   refine loop_tree draws (rd:=true) (kn:=K65) (ke:=(keeps [0,3])) (
    .rw 8011 [] [(11,Vb (decide ((↑i:Int)<(↑(List.length l):Int))),Vb true)]<|.opt 12 (idx (List.map eS l) (↑i:Int)) (eS s)<|.rw 8016 [] [(16,Vb (Stp.k s==(6:Int)),Vb false)]<|.call 20 (66) ([eS s]) ([]) (Fr (V.tup [Vi (tkN s),Vb true]) [])<|.rw 8028 [] [(28,Vb (decide (tkN s>n)),Vb false)]<|.rw 8032 [] [(32,Vi (IntKind.wrap IntKind.i64 ((1:Int)-tkN s)),Vi ((1:Int)-tkN s))]<|.rw 8033 [] [(33,Vi (IntKind.wrap IntKind.i64 (n+((1:Int)-tkN s))),Vi (n+((1:Int)-tkN s)))]<|.rw 8034 [] [(34,Vi (IntKind.wrap IntKind.i64 ((↑i:Int)+(1:Int))),Vi (↑(i+1):Int))]<|.to 24000 ([.cut 0])<|.ret (.normal,S65 l (n+((1:Int)-tkN s)) (i+1))) (by kernel_rfl) ?_
   exact ⟨⟨tv,cb (by simp<;>omega),tv⟩,(idx_map _ hs),⟨tv,cb (by simp<;>omega),tv⟩,(Sp.fact (ht)),⟨tv,cb (by simp<;>omega),tv⟩,⟨tv,by simp (disch:=omega) only [wrap_i64],tv⟩,⟨tv,by simp (disch:=omega) only [wrap_i64],tv⟩,⟨tv,by simp (disch:=omega) only [cast_succ,wrap_i64],tv⟩,(ih)⟩
theorem right_sp:Sp C1 65 [eSteps l] (.bool (rightB l)):=by
 cases hr:rightGo l 0 with
 | none =>
  have hl:=rightl_none l hb hf l.length 0 0 (by omega) (by omega) (by omega) hr
  have e:rightB l=false:=by unfold rightB;rw [hr]
  rw [e]
  refine sp_tree draws (dm:=[]) (fs:=[]) (
   .rw 8009 [] [(9,Vi (↑(List.length (List.map eS l)):Int),Vi (↑(List.length l):Int))]<|.loop 24 false (K65) (S65 l (0:Int) 0) (Ex.ret) (mkSt 42 [(2,Vb false)] [])<|.ret (Fr (Vb false) [])) (by kernel_rfl) ?_
  exact ⟨⟨tv,by simp (disch:=omega) only [List.length_map],tv⟩,(LoopR.weak (hl)),rfl⟩
 | some m =>
  have hl:=rightl_some l hb hf m l.length 0 0 (by omega) (by omega) (by omega) hr
  have e:rightB l=decide (m=1∧l.length≤64):=by unfold rightB;rw [hr]
  rw [e]
  refine sp_tree draws (dm:=[]) (fs:=[]) (
   .rw 8009 [] [(9,Vi (↑(List.length (List.map eS l)):Int),Vi (↑(List.length l):Int))]<|.loop 24 false (K65) (S65 l (0:Int) 0) (Ex.exit 0) (mkSt 42 [(0,eSteps l),(3,Vi m)] [])<|.ite 1038 ((m==(1:Int))==true)
   (.rw 8038 [] [(36,Vb (m==(1:Int)),Vb true)]<|.tt 1039 ((m==(1:Int))==true)<|.rw 8039 [] [(39,Vi (↑(List.length (List.map eS l)):Int),Vi (↑(List.length l):Int))]<|.tt 1040 ((m==(1:Int))==true)<|.tt 41 (m==(1:Int))<|.ret (Fr (Vb (decide ((↑(List.length l):Int)≤(64:Int)))) []))
   (.ff 1039 ((m==(1:Int))==true)<|.ff 1040 ((m==(1:Int))==true)<|.ff 41 (m==(1:Int))<|.ret (Fr (Vb false) []))) (by kernel_rfl) ?_
  exact ⟨⟨tv,by simp (disch:=omega) only [List.length_map],tv⟩,(LoopR.weak (hl)),fun h0=>have h0p:m=(1:Int):=(by simpa using h0);⟨⟨tv,cb (by simp<;>omega),tv⟩,(h0),⟨tv,by simp (disch:=omega) only [List.length_map],tv⟩,(h0),by simp<;>omega,by show _=_;grind⟩,
   fun h0=>have h0p:¬m=(1:Int):=(by simpa using h0);⟨(h0),(h0),by simp<;>omega,by show _=_;grind⟩⟩
end
end Go.Fw
set_option maxHeartbeats 20000000
namespace Go.Fw
open Go.Proofs
theorem kindS_sp (l:List Stp) (cols:List Cl) (hb:l.length≤2 ^ 47) (hf:∀ s∈l,FineS s) (hr:rightB l=false):Sp C1 27 [eSteps l,eCols cols] (.tup [.int .u8 0,.int .i64 13]):=by
 have hs:=right_sp l hb hf
 rw [hr] at hs
 refine sp_tree draws (dm:=[]) (fs:=[]) (
  .call 17 (65) ([eSteps l]) ([]) (Fr (Vb false) [])<|.ret (Fr (V.tup [Vu (0:Int),Vi (13:Int)]) [])) (by kernel_rfl) ?_
 exact ⟨(Sp.fact (hs)),rfl⟩
theorem kindM_sp (l:List Stp) (cols:List Cl) (hb:l.length≤2 ^ 47) (hf:∀ s∈l,FineS s) (hr:rightB l=true) (hc:16<cols.length):Sp C1 27 [eSteps l,eCols cols] (.tup [.int .u8 0,.int .i64 3]):=by
 have hs:=right_sp l hb hf
 rw [hr] at hs
 refine sp_tree draws (dm:=[]) (fs:=[]) (
  .call 17 (65) ([eSteps l]) ([]) (Fr (Vb true) [])<|.rw 8020 [] [(20,Vi (↑(List.length (List.map eC cols)):Int),Vi (↑(List.length cols):Int))]<|.rw 8021 [] [(21,Vb (decide ((↑(List.length cols):Int)>(16:Int))),Vb true)]<|.ret (Fr (V.tup [Vu (0:Int),Vi (3:Int)]) [])) (by kernel_rfl) ?_
 exact ⟨(Sp.fact (hs)),⟨tv,by simp (disch:=omega) only [List.length_map],tv⟩,⟨tv,cb (by simp<;>omega),tv⟩,rfl⟩
def ColOk (n:Int) (s:Stp):Prop:=s.k=6→s.t.toList=[]∧0≤s.n∧s.n<n
abbrev K27:List (Nat×Fm):=keeps [0,1,22,23,24]
abbrev S27 (l:List Stp) (cols:List Cl) (i:Nat):St:=mkSt 99 [(0,eSteps l),(1,eCols cols),(22,eSteps l),(23,.int .i64 (l.length:Int)),(24,.int .i64 (i:Int))] []
section
variable (l:List Stp) (cols:List Cl) (hb:l.length≤2 ^ 47) (hc:cols.length≤16)
include hb hc
theorem coll_ok:∀ k i,i+k=l.length→(∀ j s,i≤j→l[j]?=some s→ColOk cols.length s)→LoopK C1 27 48 K27 (S27 l cols i) (.exit 0) (mkSt 99 [(0,eSteps l),(1,eCols cols)] [])
 | 0,i,h,hn=>by
  refine loop_tree draws (rd:=true) (kn:=K27) (ke:=(keeps [0,1])) (
   .rw 8025 [] [(25,Vb (decide ((↑i:Int)<(↑(List.length l):Int))),Vb false)]<|.ret ((Ex.exit 0,mkSt 99 [(0,V.imm false 3 (List.map eS l)),(1,V.imm false 2 (List.map eC cols))] []))) (by kernel_rfl) ?_
  exact ⟨⟨tv,cb (by simp<;>omega),tv⟩,rfl,rfl⟩
 | k+1,i,h,hn=>by
  have ih:=coll_ok k (i+1) (by omega) (fun j v hj hv=>hn j v (by omega) hv)
  obtain ⟨s,hs⟩:∃ s,l[i]?=some s:=⟨l[i]'(by omega),List.getElem?_eq_getElem (by omega)⟩
  have hk:=hn i s (Nat.le_refl _) hs
  by_cases h6:s.k=6
  ·obtain ⟨h1,h2,h3⟩:=hk h6
   refine loop_tree draws (rd:=true) (kn:=K27) (ke:=(keeps [0,1])) (
    .rw 8025 [] [(25,Vb (decide ((↑i:Int)<(↑(List.length l):Int))),Vb true)]<|.opt 26 (idx (List.map eS l) (↑i:Int)) (eS s)<|.rw 8030 [] [(30,Vb (Stp.k s==(6:Int)),Vb true)]<|.rw 8034 [] [(34,Vb !ByteArray.toList (Stp.t s)==[],Vb false)]<|.rw 8038 [] [(38,Vb (decide (Stp.n s<(0:Int))),Vb false)]<|.rw 8044 [] [(44,Vi (↑(List.length (List.map eC cols)):Int),Vi (↑(List.length cols):Int))]<|.rw 8045 [] [(45,Vb (decide (Stp.n s ≥ (↑(List.length cols):Int))),Vb false)]<|.rw 8048 [] [(48,Vi (IntKind.wrap IntKind.i64 ((↑i:Int)+(1:Int))),Vi (↑(i+1):Int))]<|.to 24000 ([.cut 0])<|.ret (.normal,S27 l cols (i+1))) (by kernel_rfl) ?_
   exact ⟨⟨tv,cb (by simp<;>omega),tv⟩,(idx_map _ hs),⟨tv,cb (by simp<;>omega),tv⟩,⟨tv,cb (by simp [h1]),tv⟩,⟨tv,cb (by simp<;>omega),tv⟩,⟨tv,by simp (disch:=omega) only [List.length_map],tv⟩,⟨tv,cb (by simp<;>omega),tv⟩,⟨tv,by simp (disch:=omega) only [cast_succ,wrap_i64],tv⟩,(ih)⟩
  ·refine loop_tree draws (rd:=true) (kn:=K27) (ke:=(keeps [0,1])) (
    .rw 8025 [] [(25,Vb (decide ((↑i:Int)<(↑(List.length l):Int))),Vb true)]<|.opt 26 (idx (List.map eS l) (↑i:Int)) (eS s)<|.rw 8030 [] [(30,Vb (Stp.k s==(6:Int)),Vb false)]<|.rw 8048 [] [(48,Vi (IntKind.wrap IntKind.i64 ((↑i:Int)+(1:Int))),Vi (↑(i+1):Int))]<|.to 24000 ([.cut 0])<|.ret (.normal,S27 l cols (i+1))) (by kernel_rfl) ?_
   exact ⟨⟨tv,cb (by simp<;>omega),tv⟩,(idx_map _ hs),⟨tv,cb (by simp<;>omega),tv⟩,⟨tv,by simp (disch:=omega) only [cast_succ,wrap_i64],tv⟩,(ih)⟩
theorem coll_bad:∀ k i,i+k=l.length→(∃ j s,i≤j∧l[j]?=some s∧¬ColOk cols.length s)→LoopK C1 27 48 K27 (S27 l cols i) .ret (mkSt 99 [(4,.int .u8 0),(5,.int .i64 2)] [])
 | 0,i,h,⟨j,s,hj,hs,_⟩=>by
  have:=(List.getElem?_eq_some_iff.1 hs).1
  omega
 | k+1,i,h,hn=>by
  obtain ⟨s,hs⟩:∃ s,l[i]?=some s:=⟨l[i]'(by omega),List.getElem?_eq_getElem (by omega)⟩
  by_cases hk:ColOk cols.length s
  ·have ih:=coll_bad k (i+1) (by omega) (by
    obtain ⟨j,x,q1,q2,q3⟩:=hn
    refine ⟨j,x,?_,q2,q3⟩
    by_cases e:j=i
    ·subst e;rw [hs] at q2;cases q2;exact absurd hk q3
    ·omega)
   by_cases h6:s.k=6
   ·obtain ⟨h1,h2,h3⟩:=hk h6
    refine loop_tree draws (rd:=true) (kn:=K27) (ke:=(keeps [4,5])) (
     .rw 8025 [] [(25,Vb (decide ((↑i:Int)<(↑(List.length l):Int))),Vb true)]<|.opt 26 (idx (List.map eS l) (↑i:Int)) (eS s)<|.rw 8030 [] [(30,Vb (Stp.k s==(6:Int)),Vb true)]<|.rw 8034 [] [(34,Vb !ByteArray.toList (Stp.t s)==[],Vb false)]<|.rw 8038 [] [(38,Vb (decide (Stp.n s<(0:Int))),Vb false)]<|.rw 8044 [] [(44,Vi (↑(List.length (List.map eC cols)):Int),Vi (↑(List.length cols):Int))]<|.rw 8045 [] [(45,Vb (decide (Stp.n s ≥ (↑(List.length cols):Int))),Vb false)]<|.rw 8048 [] [(48,Vi (IntKind.wrap IntKind.i64 ((↑i:Int)+(1:Int))),Vi (↑(i+1):Int))]<|.to 24000 ([.cut 0])<|.ret (.normal,S27 l cols (i+1))) (by kernel_rfl) ?_
    exact ⟨⟨tv,cb (by simp<;>omega),tv⟩,(idx_map _ hs),⟨tv,cb (by simp<;>omega),tv⟩,⟨tv,cb (by simp [h1]),tv⟩,⟨tv,cb (by simp<;>omega),tv⟩,⟨tv,by simp (disch:=omega) only [List.length_map],tv⟩,⟨tv,cb (by simp<;>omega),tv⟩,⟨tv,by simp (disch:=omega) only [cast_succ,wrap_i64],tv⟩,(ih)⟩
   ·refine loop_tree draws (rd:=true) (kn:=K27) (ke:=(keeps [4,5])) (
     .rw 8025 [] [(25,Vb (decide ((↑i:Int)<(↑(List.length l):Int))),Vb true)]<|.opt 26 (idx (List.map eS l) (↑i:Int)) (eS s)<|.rw 8030 [] [(30,Vb (Stp.k s==(6:Int)),Vb false)]<|.rw 8048 [] [(48,Vi (IntKind.wrap IntKind.i64 ((↑i:Int)+(1:Int))),Vi (↑(i+1):Int))]<|.to 24000 ([.cut 0])<|.ret (.normal,S27 l cols (i+1))) (by kernel_rfl) ?_
    exact ⟨⟨tv,cb (by simp<;>omega),tv⟩,(idx_map _ hs),⟨tv,cb (by simp<;>omega),tv⟩,⟨tv,by simp (disch:=omega) only [cast_succ,wrap_i64],tv⟩,(ih)⟩
  ·have h6:s.k=6:=by
    apply Classical.byContradiction;intro h;exact hk (fun e=>absurd e h)
   by_cases h1:s.t.toList=[]
   ·by_cases h2:s.n<0
    ·refine loop_tree draws (rd:=true) (kn:=K27) (ke:=(keeps [4,5])) (
      .rw 8025 [] [(25,Vb (decide ((↑i:Int)<(↑(List.length l):Int))),Vb true)]<|.opt 26 (idx (List.map eS l) (↑i:Int)) (eS s)<|.rw 8030 [] [(30,Vb (Stp.k s==(6:Int)),Vb true)]<|.rw 8034 [] [(34,Vb !ByteArray.toList (Stp.t s)==[],Vb false)]<|.rw 8038 [] [(38,Vb (decide (Stp.n s<(0:Int))),Vb true)]<|.to 24001 ([.cut 0])<|.ret ((Ex.ret,mkSt 99 [(4,Vu (0:Int)),(5,Vi (2:Int))] []))) (by kernel_rfl) ?_
     exact ⟨⟨tv,cb (by simp<;>omega),tv⟩,(idx_map _ hs),⟨tv,cb (by simp<;>omega),tv⟩,⟨tv,cb (by simp [h1]),tv⟩,⟨tv,cb (by simp<;>omega),tv⟩,rfl,rfl⟩
    ·have h3:(cols.length:Int)≤s.n:=by
      apply Classical.byContradiction;intro h;exact hk (fun _=>⟨h1,by omega,by omega⟩)
     refine loop_tree draws (rd:=true) (kn:=K27) (ke:=(keeps [4,5])) (
      .rw 8025 [] [(25,Vb (decide ((↑i:Int)<(↑(List.length l):Int))),Vb true)]<|.opt 26 (idx (List.map eS l) (↑i:Int)) (eS s)<|.rw 8030 [] [(30,Vb (Stp.k s==(6:Int)),Vb true)]<|.rw 8034 [] [(34,Vb !ByteArray.toList (Stp.t s)==[],Vb false)]<|.rw 8038 [] [(38,Vb (decide (Stp.n s<(0:Int))),Vb false)]<|.rw 8044 [] [(44,Vi (↑(List.length (List.map eC cols)):Int),Vi (↑(List.length cols):Int))]<|.rw 8045 [] [(45,Vb (decide (Stp.n s ≥ (↑(List.length cols):Int))),Vb true)]<|.to 24001 ([.cut 0])<|.ret ((Ex.ret,mkSt 99 [(4,Vu (0:Int)),(5,Vi (2:Int))] []))) (by kernel_rfl) ?_
     exact ⟨⟨tv,cb (by simp<;>omega),tv⟩,(idx_map _ hs),⟨tv,cb (by simp<;>omega),tv⟩,⟨tv,cb (by simp [h1]),tv⟩,⟨tv,cb (by simp<;>omega),tv⟩,⟨tv,by simp (disch:=omega) only [List.length_map],tv⟩,⟨tv,cb (by simp<;>omega),tv⟩,rfl,rfl⟩
   ·refine loop_tree draws (rd:=true) (kn:=K27) (ke:=(keeps [4,5])) (
     .rw 8025 [] [(25,Vb (decide ((↑i:Int)<(↑(List.length l):Int))),Vb true)]<|.opt 26 (idx (List.map eS l) (↑i:Int)) (eS s)<|.rw 8030 [] [(30,Vb (Stp.k s==(6:Int)),Vb true)]<|.rw 8034 [] [(34,Vb !ByteArray.toList (Stp.t s)==[],Vb true)]<|.to 24001 ([.cut 0])<|.ret ((Ex.ret,mkSt 99 [(4,Vu (0:Int)),(5,Vi (2:Int))] []))) (by kernel_rfl) ?_
    exact ⟨⟨tv,cb (by simp<;>omega),tv⟩,(idx_map _ hs),⟨tv,cb (by simp<;>omega),tv⟩,⟨tv,cb (by simp [h1]),tv⟩,rfl,rfl⟩
end
theorem kindR_sp (l:List Stp) (cols:List Cl) (hb:l.length≤2 ^ 47) (hf:∀ s∈l,FineS s) (hr:rightB l=true) (hc:cols.length≤16) (hx:∃ s∈l,¬ColOk cols.length s):Sp C1 27 [eSteps l,eCols cols] (.tup [.int .u8 0,.int .i64 2]):=by
 have hs:=right_sp l hb hf
 rw [hr] at hs
 have hl:=coll_bad l cols hb hc l.length 0 (by omega) (by
  obtain ⟨s,h1,h2⟩:=hx
  obtain ⟨j,hj,rfl⟩:=List.mem_iff_getElem.1 h1
  exact ⟨j,_,by omega,List.getElem?_eq_getElem hj,h2⟩)
 refine sp_tree draws (dm:=[]) (fs:=[]) (
  .call 17 (65) ([eSteps l]) ([]) (Fr (Vb true) [])<|.rw 8020 [] [(20,Vi (↑(List.length (List.map eC cols)):Int),Vi (↑(List.length cols):Int))]<|.rw 8021 [] [(21,Vb (decide ((↑(List.length cols):Int)>(16:Int))),Vb false)]<|.rw 8023 [] [(23,Vi (↑(List.length (List.map eS l)):Int),Vi (↑(List.length l):Int))]<|.loop 48 false (K27) (S27 l cols 0) (Ex.ret) (mkSt 99 [(4,Vu (0:Int)),(5,Vi (2:Int))] [])<|.ret (Fr (V.tup [Vu (0:Int),Vi (2:Int)]) [])) (by kernel_rfl) ?_
 exact ⟨(Sp.fact (hs)),⟨tv,by simp (disch:=omega) only [List.length_map],tv⟩,⟨tv,cb (by simp<;>omega),tv⟩,⟨tv,by simp (disch:=omega) only [List.length_map],tv⟩,(LoopR.weak (hl)),rfl⟩
end Go.Fw
set_option maxHeartbeats 20000000
namespace Go.Fw
open Go.Proofs
def kindL (k:Int):List Int→Option Int
 | []=>some (kind0 k)
 | [x]=>if kind1ok k x then some (kind1 k) else none
 | [x,y]=>if kind2ok k x y then some (kind2 k) else none
 | _=>none
def colK (cols:List Cl) (n:Int):Int:=((cols[n.toNat]?).map (·.k)).getD 0
def kindGo (cols:List Cl):List Stp→List Int→Option (List Int)
 | [],st=>some st
 | s::l,st=>if s.k=6 then kindGo cols l (st++[colK cols s.n]) else match kindL s.k (st.drop (st.length-(tkN s).toNat)) with
  | some k=>kindGo cols l (st.take (st.length-(tkN s).toNat)++[k])
  | none=>none
abbrev K104:List (Nat×Fm):=[(1,.of .keep),(8,.of (.lin 26 1)),(49,.of .keep),(50,.of .keep),(51,.of .keep)]
abbrev S104 (l:List Stp) (cols:List Cl) (st:List Int) (i:Nat):St:=mkSt 99 [(1,eCols cols),(8,.lin true 26 1 (st.map (V.int .u8))),(49,eSteps l),(50,.int .i64 (l.length:Int)),(51,.int .i64 (i:Int))] []
theorem tail0 (st:List Int) (f:Int→V):List.drop (Int.toNat ((st.length:Int)-0)) (List.take st.length (st.map f))=[]:=by
 rw [Int.sub_zero,Int.toNat_natCast,List.drop_eq_nil_of_le (by simp)]
theorem take0 (st:List Int) (f:Int→V):List.take (Int.toNat ((st.length:Int)-0)) (st.map f)=st.map f:=by
 rw [Int.sub_zero,Int.toNat_natCast,List.take_of_length_le (by simp)]
theorem tail1 (pre:List Int) (x:Int) (f:Int→V):List.drop (Int.toNat (((pre.length+1:Nat):Int)-1)) (List.take (pre.length+1) (List.map f (pre++[x])))=[f x]:=by
 rw [show (Int.toNat (((pre.length+1:Nat):Int)-1))=pre.length by omega,List.take_of_length_le (by simp),List.map_append,List.drop_append_of_le_length (by simp),List.drop_eq_nil_of_le (by simp)]
 rfl
theorem take1 (pre:List Int) (x:Int) (f:Int→V):List.take (Int.toNat (((pre.length+1:Nat):Int)-1)) (List.map f (pre++[x]))=pre.map f:=by
 rw [show (Int.toNat (((pre.length+1:Nat):Int)-1))=pre.length by omega,List.map_append,List.take_append_of_le_length (by simp),List.take_of_length_le (by simp)]
theorem tail2 (pre:List Int) (x y:Int) (f:Int→V):List.drop (Int.toNat (((pre.length+2:Nat):Int)-2)) (List.take (pre.length+2) (List.map f (pre++[x,y])))=[f x,f y]:=by
 rw [show (Int.toNat (((pre.length+2:Nat):Int)-2))=pre.length by omega,List.take_of_length_le (by simp),List.map_append,List.drop_append_of_le_length (by simp),List.drop_eq_nil_of_le (by simp)]
 rfl
theorem take2 (pre:List Int) (x y:Int) (f:Int→V):List.take (Int.toNat (((pre.length+2:Nat):Int)-2)) (List.map f (pre++[x,y]))=pre.map f:=by
 rw [show (Int.toNat (((pre.length+2:Nat):Int)-2))=pre.length by omega,List.map_append,List.take_append_of_le_length (by simp),List.take_of_length_le (by simp)]
abbrev F104 (fin:List Int):St:=mkSt 99 [(8,.lin true 26 1 (fin.map (V.int .u8)))] []
abbrev R104:St:=mkSt 99 [(4,.int .u8 0),(5,.int .i64 5)] []
theorem k104_cola (l:List Stp) (cols:List Cl) (st fin:List Int) (i:Nat) (s:Stp) (hb:l.length≤64) (hst:st.length≤i) (hs:l[i]?=some s) (h6:s.k=6) (m:Nat) (c:Cl) (hn:s.n=(m:Int)) (hc:cols[m]?=some c)
  (ih:LoopK C1 27 104 K104 (S104 l cols (st++[c.k]) (i+1)) (.exit 2) (F104 fin)):LoopK C1 27 104 K104 (S104 l cols st i) (.exit 2) (F104 fin):=by
 have hi:=(List.getElem?_eq_some_iff.1 hs).1
 have hi2:idx (cols.map eC) s.n=some (eC c):=by rw [hn];exact idx_map eC hc
 refine loop_tree draws (rd:=true) (kn:=K104) (ke:=[(8,.of (.lin 26 1))]) (
  .rw 8052 [] [(52,Vb (decide ((↑i:Int)<(↑(List.length l):Int))),Vb true)]<|.opt 53 (idx (List.map eS l) (↑i:Int)) (eS s)<|.rw 8057 [] [(57,Vb (Stp.k s==(6:Int)),Vb true)]<|.opt 62 (idx (List.map eC cols) (Stp.n s)) (eC c)<|.chk 66 (decide ((List.length (List.map (V.int .u8) st)+1)*1≤140737488355328))<|.rw 8066 [] [(66,V.lin true 26 1 (List.map (V.int .u8) st++[Vu (Cl.k c)]),V.lin true 26 1 (List.map (V.int .u8) (st++[Cl.k c])))]<|.rw 8095 [] [(95,Vi (IntKind.wrap IntKind.i64 ((↑i:Int)+(1:Int))),Vi (↑(i+1):Int))]<|.to 24000 ([.cut 0])<|.ret (.normal,S104 l cols (st++[Cl.k c]) (i+1))) (by kernel_rfl) ?_
 exact ⟨⟨tv,cb (by simp<;>omega),tv⟩,(idx_map _ hs),⟨tv,cb (by simp<;>omega),tv⟩,(hi2),by simp<;>omega,⟨tv,by simp (disch:=omega) only [app_int],tv⟩,⟨tv,by simp (disch:=omega) only [cast_succ,wrap_i64],tv⟩,(ih)⟩
theorem k104_0a (l:List Stp) (cols:List Cl) (st fin:List Int) (i:Nat) (s:Stp) (hb:l.length≤64) (hst:st.length≤i) (hs:l[i]?=some s) (hf:FineS s) (h6:TkOk s) (h7:s.k≤5)
  (ih:LoopK C1 27 104 K104 (S104 l cols (st++[kind0 s.k]) (i+1)) (.exit 2) (F104 fin)):LoopK C1 27 104 K104 (S104 l cols st i) (.exit 2) (F104 fin):=by
 have hi:=(List.getElem?_eq_some_iff.1 hs).1
 have hk:1≤s.k:=h6.1
 have ht:=takes2_sp s hf (by omega)
 have e1:tkN s=0:=by unfold tkN;rw [if_neg (by simpa using h6),if_pos (by omega)]
 have e2:tkOk s=true:=by unfold tkOk;simpa using h6
 rw [e1,e2] at ht
 have hk2:=kind20_sp s.k [] hk h7
 by_cases hne:st=[]
 ·subst hne
  refine loop_tree draws (rd:=true) (kn:=K104) (ke:=[(8,.of (.lin 26 1))]) (
   .rw 8052 [] [(52,Vb (decide ((↑i:Int)<(↑(List.length l):Int))),Vb true)]<|.opt 53 (idx (List.map eS l) (↑i:Int)) (eS s)<|.rw 8057 [] [(57,Vb (Stp.k s==(6:Int)),Vb false)]<|.call 69 (66) ([eS s]) ([]) (Fr (V.tup [Vi (0:Int),Vb true]) [])<|.call 82 (67) ([Vu (Stp.k s),eKs []]) ([]) (Fr (V.tup [Vu (kind0 (Stp.k s)),Vb true]) [])<|.rw 8095 [] [(95,Vi (IntKind.wrap IntKind.i64 ((↑i:Int)+(1:Int))),Vi (↑(i+1):Int))]<|.to 24000 ([.cut 0])<|.ret (.normal,S104 l cols ([]++[kind0 (Stp.k s)]) (i+1))) (by kernel_rfl) ?_
  exact ⟨⟨tv,cb (by simp<;>omega),tv⟩,(idx_map _ hs),⟨tv,cb (by simp<;>omega),tv⟩,(Sp.fact (ht)),(Sp.fact (hk2)),⟨tv,by simp (disch:=omega) only [cast_succ,wrap_i64],tv⟩,(ih)⟩
 ·refine loop_tree draws (rd:=true) (kn:=K104) (ke:=[(8,.of (.lin 26 1))]) (
   .rw 8052 [] [(52,Vb (decide ((↑i:Int)<(↑(List.length l):Int))),Vb true)]<|.opt 53 (idx (List.map eS l) (↑i:Int)) (eS s)<|.rw 8057 [] [(57,Vb (Stp.k s==(6:Int)),Vb false)]<|.call 69 (66) ([eS s]) ([]) (Fr (V.tup [Vi (0:Int),Vb true]) [])<|.rw 8073 [] [(73,Vi (↑(List.length (List.map (V.int .u8) st)):Int),Vi (↑(List.length st):Int))]<|.rw 8075 [] [(75,Vi (IntKind.wrap IntKind.i64 ((↑(List.length st):Int)-(0:Int))),Vi ((↑(List.length st):Int)-(0:Int)))]<|.chk 81 (decide ((0:Int)≤(↑(List.length st):Int)-(0:Int)∧(↑(List.length st):Int)-(0:Int)≤(↑(List.length (List.map (V.int .u8) st)):Int)∧(↑(List.length (List.map (V.int .u8) st)):Int)≤(↑(List.length (List.map (V.int .u8) st)):Int)))<|.rw 8081 [] [(81,V.imm false 1 (List.drop (Int.toNat ((↑(List.length st):Int)-(0:Int))) (List.take (Int.toNat (↑(List.length (List.map (V.int .u8) st)):Int)) (List.map (V.int .u8) st))),V.imm false 1 [])]<|.call 82 (67) ([Vu (Stp.k s),eKs []]) ([]) (Fr (V.tup [Vu (kind0 (Stp.k s)),Vb true]) [])<|.chk 90 (decide ((0:Int)≤(0:Int)∧(0:Int)≤(↑(List.length st):Int)-(0:Int)∧(↑(List.length st):Int)-(0:Int)≤(↑(List.length (List.map (V.int .u8) st)):Int)))<|.rw 8090 [] [(90,V.imm false 1 (List.drop 0 (List.take (Int.toNat ((↑(List.length st):Int)-(0:Int))) (List.map (V.int .u8) st))),V.imm false 1 (List.map (V.int .u8) st))]<|.ff 91 (List.isEmpty (List.map (V.int .u8) st))<|.chk 91 (decide ((0+List.length (List.map (V.int .u8) st))*1≤140737488355328))<|.rw 8091 [] [(91,V.lin true 26 1 ([]++List.map (V.int .u8) st),V.lin true 26 1 (List.map (V.int .u8) st))]<|.chk 94 (decide ((List.length (List.map (V.int .u8) st)+1)*1≤140737488355328))<|.rw 8094 [] [(94,V.lin true 26 1 (List.map (V.int .u8) st++[Vu (kind0 (Stp.k s))]),V.lin true 26 1 (List.map (V.int .u8) (st++[kind0 (Stp.k s)])))]<|.rw 8095 [] [(95,Vi (IntKind.wrap IntKind.i64 ((↑i:Int)+(1:Int))),Vi (↑(i+1):Int))]<|.to 24000 ([.cut 0])<|.ret (.normal,S104 l cols (st++[kind0 (Stp.k s)]) (i+1))) (by kernel_rfl) ?_
  exact ⟨⟨tv,cb (by simp<;>omega),tv⟩,(idx_map _ hs),⟨tv,cb (by simp<;>omega),tv⟩,(Sp.fact (ht)),⟨tv,by simp (disch:=omega) only [List.length_map],tv⟩,⟨tv,by simp (disch:=omega) only [wrap_i64],tv⟩,by simp [hne],⟨tv,by simp (disch:=omega) only [List.length_map,Int.toNat_natCast,tail0],tv⟩,(Sp.fact (hk2)),by simp [hne],⟨tv,by simp (disch:=omega) only [take0,List.drop_zero],tv⟩,by simp [hne],by simp<;>omega,⟨tv,by simp (disch:=omega) only [List.nil_append],tv⟩,by simp<;>omega,⟨tv,by simp (disch:=omega) only [app_int],tv⟩,⟨tv,by simp (disch:=omega) only [cast_succ,wrap_i64],tv⟩,(ih)⟩
theorem k104_1a (l:List Stp) (cols:List Cl) (pre fin:List Int) (x:Int) (i:Nat) (s:Stp) (hb:l.length≤64) (hst:pre.length+1≤i) (hs:l[i]?=some s) (hf:FineS s) (h6:TkOk s) (h7:7≤s.k) (h8:s.k≤10) (hok:kind1ok s.k x=true)
   (ih:LoopK C1 27 104 K104 (S104 l cols (pre++[kind1 s.k]) (i+1)) (.exit 2) (F104 fin)):LoopK C1 27 104 K104 (S104 l cols (pre++[x]) i) (.exit 2) (F104 fin):=by
 have hi:=(List.getElem?_eq_some_iff.1 hs).1
 have ht:=takes2_sp s hf (by omega)
 have e1:tkN s=1:=by unfold tkN;rw [if_neg (by simpa using h6),if_neg (by omega),if_pos (by omega)]
 have e2:tkOk s=true:=by unfold tkOk;simpa using h6
 rw [e1,e2] at ht
 have hk2:=kind21_sp s.k x h7 h8
 rw [hok] at hk2
 by_cases hne:pre=[]
 ·subst hne
  refine loop_tree draws (rd:=true) (kn:=K104) (ke:=[(8,.of (.lin 26 1))]) (
   .rw 8052 [] [(52,Vb (decide ((↑i:Int)<(↑(List.length l):Int))),Vb true)]<|.opt 53 (idx (List.map eS l) (↑i:Int)) (eS s)<|.rw 8057 [] [(57,Vb (Stp.k s==(6:Int)),Vb false)]<|.call 69 (66) ([eS s]) ([]) (Fr (V.tup [Vi (1:Int),Vb true]) [])<|.call 82 (67) ([Vu (Stp.k s),eKs [x]]) ([]) (Fr (V.tup [Vu (kind1 (Stp.k s)),Vb true]) [])<|.rw 8095 [] [(95,Vi (IntKind.wrap IntKind.i64 ((↑i:Int)+(1:Int))),Vi (↑(i+1):Int))]<|.to 24000 ([.cut 0])<|.ret (.normal,S104 l cols ([]++[kind1 (Stp.k s)]) (i+1))) (by kernel_rfl) ?_
  exact ⟨⟨tv,cb (by simp<;>omega),tv⟩,(idx_map _ hs),⟨tv,cb (by simp<;>omega),tv⟩,(Sp.fact (ht)),(Sp.fact (hk2)),⟨tv,by simp (disch:=omega) only [cast_succ,wrap_i64],tv⟩,(ih)⟩
 ·refine loop_tree draws (rd:=true) (kn:=K104) (ke:=[(8,.of (.lin 26 1))]) (
   .rw 8052 [] [(52,Vb (decide ((↑i:Int)<(↑(List.length l):Int))),Vb true)]<|.opt 53 (idx (List.map eS l) (↑i:Int)) (eS s)<|.rw 8057 [] [(57,Vb (Stp.k s==(6:Int)),Vb false)]<|.call 69 (66) ([eS s]) ([]) (Fr (V.tup [Vi (1:Int),Vb true]) [])<|.rw 8073 [] [(73,Vi (↑(List.length (List.map (V.int .u8) (pre++[x]))):Int),Vi (↑(List.length pre+1):Int))]<|.rw 8075 [] [(75,Vi (IntKind.wrap IntKind.i64 ((↑(List.length pre+1):Int)-(1:Int))),Vi ((↑(List.length pre+1):Int)-(1:Int)))]<|.chk 81 (decide ((0:Int)≤(↑(List.length pre+1):Int)-(1:Int)∧(↑(List.length pre+1):Int)-(1:Int)≤(↑(List.length (List.map (V.int .u8) (pre++[x]))):Int)∧(↑(List.length (List.map (V.int .u8) (pre++[x]))):Int)≤(↑(List.length (List.map (V.int .u8) (pre++[x]))):Int)))<|.rw 8081 [] [(81,V.imm false 1 (List.drop (Int.toNat ((↑(List.length pre+1):Int)-(1:Int))) (List.take (Int.toNat (↑(List.length (List.map (V.int .u8) (pre++[x]))):Int)) (List.map (V.int .u8) (pre++[x])))),V.imm false 1 [Vu x])]<|.call 82 (67) ([Vu (Stp.k s),eKs [x]]) ([]) (Fr (V.tup [Vu (kind1 (Stp.k s)),Vb true]) [])<|.chk 90 (decide ((0:Int)≤(0:Int)∧(0:Int)≤(↑(List.length pre+1):Int)-(1:Int)∧(↑(List.length pre+1):Int)-(1:Int)≤(↑(List.length (List.map (V.int .u8) (pre++[x]))):Int)))<|.rw 8090 [] [(90,V.imm false 1 (List.drop 0 (List.take (Int.toNat ((↑(List.length pre+1):Int)-(1:Int))) (List.map (V.int .u8) (pre++[x])))),V.imm false 1 (List.map (V.int .u8) pre))]<|.ff 91 (List.isEmpty (List.map (V.int .u8) pre))<|.chk 91 (decide ((0+List.length (List.map (V.int .u8) pre))*1≤140737488355328))<|.rw 8091 [] [(91,V.lin true 26 1 ([]++List.map (V.int .u8) pre),V.lin true 26 1 (List.map (V.int .u8) pre))]<|.chk 94 (decide ((List.length (List.map (V.int .u8) pre)+1)*1≤140737488355328))<|.rw 8094 [] [(94,V.lin true 26 1 (List.map (V.int .u8) pre++[Vu (kind1 (Stp.k s))]),V.lin true 26 1 (List.map (V.int .u8) (pre++[kind1 (Stp.k s)])))]<|.rw 8095 [] [(95,Vi (IntKind.wrap IntKind.i64 ((↑i:Int)+(1:Int))),Vi (↑(i+1):Int))]<|.to 24000 ([.cut 0])<|.ret (.normal,S104 l cols (pre++[kind1 (Stp.k s)]) (i+1))) (by kernel_rfl) ?_
  exact ⟨⟨tv,cb (by simp<;>omega),tv⟩,(idx_map _ hs),⟨tv,cb (by simp<;>omega),tv⟩,(Sp.fact (ht)),⟨tv,by simp (disch:=omega) only [List.length_map,List.length_append,List.length_cons,List.length_nil,Nat.zero_add],tv⟩,⟨tv,by simp (disch:=omega) only [wrap_i64],tv⟩,by simp<;>omega,⟨tv,by simp (disch:=omega) only [List.length_map,List.length_append,List.length_cons,List.length_nil,Nat.zero_add,Int.toNat_natCast,tail1],tv⟩,(Sp.fact (hk2)),by simp<;>omega,⟨tv,by simp (disch:=omega) only [take1,List.drop_zero],tv⟩,by simp [hne],by simp<;>omega,⟨tv,by simp (disch:=omega) only [List.nil_append],tv⟩,by simp<;>omega,⟨tv,by simp (disch:=omega) only [app_int],tv⟩,⟨tv,by simp (disch:=omega) only [cast_succ,wrap_i64],tv⟩,(ih)⟩
theorem k104_2a (l:List Stp) (cols:List Cl) (pre fin:List Int) (x y:Int) (i:Nat) (s:Stp) (hb:l.length≤64) (hst:pre.length+2≤i) (hs:l[i]?=some s) (hf:FineS s) (h6:TkOk s) (h7:11≤s.k) (h8:s.k≤21) (hok:kind2ok s.k x y=true)
   (ih:LoopK C1 27 104 K104 (S104 l cols (pre++[kind2 s.k]) (i+1)) (.exit 2) (F104 fin)):LoopK C1 27 104 K104 (S104 l cols (pre++[x,y]) i) (.exit 2) (F104 fin):=by
 have hi:=(List.getElem?_eq_some_iff.1 hs).1
 have ht:=takes2_sp s hf (by omega)
 have e1:tkN s=2:=by unfold tkN;rw [if_neg (by simpa using h6),if_neg (by omega),if_neg (by omega)]
 have e2:tkOk s=true:=by unfold tkOk;simpa using h6
 rw [e1,e2] at ht
 have hk2:=kind22_sp s.k x y h7 h8
 rw [hok] at hk2
 by_cases hne:pre=[]
 ·subst hne
  refine loop_tree draws (rd:=true) (kn:=K104) (ke:=[(8,.of (.lin 26 1))]) (
   .rw 8052 [] [(52,Vb (decide ((↑i:Int)<(↑(List.length l):Int))),Vb true)]<|.opt 53 (idx (List.map eS l) (↑i:Int)) (eS s)<|.rw 8057 [] [(57,Vb (Stp.k s==(6:Int)),Vb false)]<|.call 69 (66) ([eS s]) ([]) (Fr (V.tup [Vi (2:Int),Vb true]) [])<|.call 82 (67) ([Vu (Stp.k s),eKs [x,y]]) ([]) (Fr (V.tup [Vu (kind2 (Stp.k s)),Vb true]) [])<|.rw 8095 [] [(95,Vi (IntKind.wrap IntKind.i64 ((↑i:Int)+(1:Int))),Vi (↑(i+1):Int))]<|.to 24000 ([.cut 0])<|.ret (.normal,S104 l cols ([]++[kind2 (Stp.k s)]) (i+1))) (by kernel_rfl) ?_
  exact ⟨⟨tv,cb (by simp<;>omega),tv⟩,(idx_map _ hs),⟨tv,cb (by simp<;>omega),tv⟩,(Sp.fact (ht)),(Sp.fact (hk2)),⟨tv,by simp (disch:=omega) only [cast_succ,wrap_i64],tv⟩,(ih)⟩
 ·refine loop_tree draws (rd:=true) (kn:=K104) (ke:=[(8,.of (.lin 26 1))]) (
   .rw 8052 [] [(52,Vb (decide ((↑i:Int)<(↑(List.length l):Int))),Vb true)]<|.opt 53 (idx (List.map eS l) (↑i:Int)) (eS s)<|.rw 8057 [] [(57,Vb (Stp.k s==(6:Int)),Vb false)]<|.call 69 (66) ([eS s]) ([]) (Fr (V.tup [Vi (2:Int),Vb true]) [])<|.rw 8073 [] [(73,Vi (↑(List.length (List.map (V.int .u8) (pre++[x,y]))):Int),Vi (↑(List.length pre+(1+1)):Int))]<|.rw 8075 [] [(75,Vi (IntKind.wrap IntKind.i64 ((↑(List.length pre+2):Int)-(2:Int))),Vi ((↑(List.length pre+2):Int)-(2:Int)))]<|.chk 81 (decide ((0:Int)≤(↑(List.length pre+2):Int)-(2:Int)∧(↑(List.length pre+2):Int)-(2:Int)≤(↑(List.length (List.map (V.int .u8) (pre++[x,y]))):Int)∧(↑(List.length (List.map (V.int .u8) (pre++[x,y]))):Int)≤(↑(List.length (List.map (V.int .u8) (pre++[x,y]))):Int)))<|.rw 8081 [] [(81,V.imm false 1 (List.drop (Int.toNat ((↑(List.length pre+2):Int)-(2:Int))) (List.take (Int.toNat (↑(List.length (List.map (V.int .u8) (pre++[x,y]))):Int)) (List.map (V.int .u8) (pre++[x,y])))),V.imm false 1 [Vu x,Vu y])]<|.call 82 (67) ([Vu (Stp.k s),eKs [x,y]]) ([]) (Fr (V.tup [Vu (kind2 (Stp.k s)),Vb true]) [])<|.chk 90 (decide ((0:Int)≤(0:Int)∧(0:Int)≤(↑(List.length pre+2):Int)-(2:Int)∧(↑(List.length pre+2):Int)-(2:Int)≤(↑(List.length (List.map (V.int .u8) (pre++[x,y]))):Int)))<|.rw 8090 [] [(90,V.imm false 1 (List.drop 0 (List.take (Int.toNat ((↑(List.length pre+2):Int)-(2:Int))) (List.map (V.int .u8) (pre++[x,y])))),V.imm false 1 (List.map (V.int .u8) pre))]<|.ff 91 (List.isEmpty (List.map (V.int .u8) pre))<|.chk 91 (decide ((0+List.length (List.map (V.int .u8) pre))*1≤140737488355328))<|.rw 8091 [] [(91,V.lin true 26 1 ([]++List.map (V.int .u8) pre),V.lin true 26 1 (List.map (V.int .u8) pre))]<|.chk 94 (decide ((List.length (List.map (V.int .u8) pre)+1)*1≤140737488355328))<|.rw 8094 [] [(94,V.lin true 26 1 (List.map (V.int .u8) pre++[Vu (kind2 (Stp.k s))]),V.lin true 26 1 (List.map (V.int .u8) (pre++[kind2 (Stp.k s)])))]<|.rw 8095 [] [(95,Vi (IntKind.wrap IntKind.i64 ((↑i:Int)+(1:Int))),Vi (↑(i+1):Int))]<|.to 24000 ([.cut 0])<|.ret (.normal,S104 l cols (pre++[kind2 (Stp.k s)]) (i+1))) (by kernel_rfl) ?_
  exact ⟨⟨tv,cb (by simp<;>omega),tv⟩,(idx_map _ hs),⟨tv,cb (by simp<;>omega),tv⟩,(Sp.fact (ht)),⟨tv,by simp (disch:=omega) only [List.length_map,List.length_append,List.length_cons,List.length_nil,Nat.zero_add],tv⟩,⟨tv,by simp (disch:=omega) only [wrap_i64],tv⟩,by simp<;>omega,⟨tv,by simp (disch:=omega) only [List.length_map,List.length_append,List.length_cons,List.length_nil,Nat.zero_add,Int.toNat_natCast,tail2],tv⟩,(Sp.fact (hk2)),by simp<;>omega,⟨tv,by simp (disch:=omega) only [take2,List.drop_zero],tv⟩,by simp [hne],by simp<;>omega,⟨tv,by simp (disch:=omega) only [List.nil_append],tv⟩,by simp<;>omega,⟨tv,by simp (disch:=omega) only [app_int],tv⟩,⟨tv,by simp (disch:=omega) only [cast_succ,wrap_i64],tv⟩,(ih)⟩
theorem k104_colb (l:List Stp) (cols:List Cl) (st fin:List Int) (i:Nat) (s:Stp) (hb:l.length≤64) (hst:st.length≤i) (hs:l[i]?=some s) (h6:s.k=6) (m:Nat) (c:Cl) (hn:s.n=(m:Int)) (hc:cols[m]?=some c)
   (ih:LoopK C1 27 104 K104 (S104 l cols (st++[c.k]) (i+1)) .ret R104):LoopK C1 27 104 K104 (S104 l cols st i) .ret R104:=by
 have hi:=(List.getElem?_eq_some_iff.1 hs).1
 have hi2:idx (cols.map eC) s.n=some (eC c):=by rw [hn];exact idx_map eC hc
 refine loop_tree draws (rd:=true) (kn:=K104) (ke:=(keeps [4,5])) (
  .rw 8052 [] [(52,Vb (decide ((↑i:Int)<(↑(List.length l):Int))),Vb true)]<|.opt 53 (idx (List.map eS l) (↑i:Int)) (eS s)<|.rw 8057 [] [(57,Vb (Stp.k s==(6:Int)),Vb true)]<|.opt 62 (idx (List.map eC cols) (Stp.n s)) (eC c)<|.chk 66 (decide ((List.length (List.map (V.int .u8) st)+1)*1≤140737488355328))<|.rw 8066 [] [(66,V.lin true 26 1 (List.map (V.int .u8) st++[Vu (Cl.k c)]),V.lin true 26 1 (List.map (V.int .u8) (st++[Cl.k c])))]<|.rw 8095 [] [(95,Vi (IntKind.wrap IntKind.i64 ((↑i:Int)+(1:Int))),Vi (↑(i+1):Int))]<|.to 24000 ([.cut 0])<|.ret (.normal,S104 l cols (st++[Cl.k c]) (i+1))) (by kernel_rfl) ?_
 exact ⟨⟨tv,cb (by simp<;>omega),tv⟩,(idx_map _ hs),⟨tv,cb (by simp<;>omega),tv⟩,(hi2),by simp<;>omega,⟨tv,by simp (disch:=omega) only [app_int],tv⟩,⟨tv,by simp (disch:=omega) only [cast_succ,wrap_i64],tv⟩,(ih)⟩
theorem k104_0b (l:List Stp) (cols:List Cl) (st fin:List Int) (i:Nat) (s:Stp) (hb:l.length≤64) (hst:st.length≤i) (hs:l[i]?=some s) (hf:FineS s) (h6:TkOk s) (h7:s.k≤5)
  (ih:LoopK C1 27 104 K104 (S104 l cols (st++[kind0 s.k]) (i+1)) .ret R104):LoopK C1 27 104 K104 (S104 l cols st i) .ret R104:=by
 have hi:=(List.getElem?_eq_some_iff.1 hs).1
 have hk:1≤s.k:=h6.1
 have ht:=takes2_sp s hf (by omega)
 have e1:tkN s=0:=by unfold tkN;rw [if_neg (by simpa using h6),if_pos (by omega)]
 have e2:tkOk s=true:=by unfold tkOk;simpa using h6
 rw [e1,e2] at ht
 have hk2:=kind20_sp s.k [] hk h7
 by_cases hne:st=[]
 ·subst hne
  refine loop_tree draws (rd:=true) (kn:=K104) (ke:=(keeps [4,5])) (
   .rw 8052 [] [(52,Vb (decide ((↑i:Int)<(↑(List.length l):Int))),Vb true)]<|.opt 53 (idx (List.map eS l) (↑i:Int)) (eS s)<|.rw 8057 [] [(57,Vb (Stp.k s==(6:Int)),Vb false)]<|.call 69 (66) ([eS s]) ([]) (Fr (V.tup [Vi (0:Int),Vb true]) [])<|.call 82 (67) ([Vu (Stp.k s),eKs []]) ([]) (Fr (V.tup [Vu (kind0 (Stp.k s)),Vb true]) [])<|.rw 8095 [] [(95,Vi (IntKind.wrap IntKind.i64 ((↑i:Int)+(1:Int))),Vi (↑(i+1):Int))]<|.to 24000 ([.cut 0])<|.ret (.normal,S104 l cols ([]++[kind0 (Stp.k s)]) (i+1))) (by kernel_rfl) ?_
  exact ⟨⟨tv,cb (by simp<;>omega),tv⟩,(idx_map _ hs),⟨tv,cb (by simp<;>omega),tv⟩,(Sp.fact (ht)),(Sp.fact (hk2)),⟨tv,by simp (disch:=omega) only [cast_succ,wrap_i64],tv⟩,(ih)⟩
 ·refine loop_tree draws (rd:=true) (kn:=K104) (ke:=(keeps [4,5])) (
   .rw 8052 [] [(52,Vb (decide ((↑i:Int)<(↑(List.length l):Int))),Vb true)]<|.opt 53 (idx (List.map eS l) (↑i:Int)) (eS s)<|.rw 8057 [] [(57,Vb (Stp.k s==(6:Int)),Vb false)]<|.call 69 (66) ([eS s]) ([]) (Fr (V.tup [Vi (0:Int),Vb true]) [])<|.rw 8073 [] [(73,Vi (↑(List.length (List.map (V.int .u8) st)):Int),Vi (↑(List.length st):Int))]<|.rw 8075 [] [(75,Vi (IntKind.wrap IntKind.i64 ((↑(List.length st):Int)-(0:Int))),Vi ((↑(List.length st):Int)-(0:Int)))]<|.chk 81 (decide ((0:Int)≤(↑(List.length st):Int)-(0:Int)∧(↑(List.length st):Int)-(0:Int)≤(↑(List.length (List.map (V.int .u8) st)):Int)∧(↑(List.length (List.map (V.int .u8) st)):Int)≤(↑(List.length (List.map (V.int .u8) st)):Int)))<|.rw 8081 [] [(81,V.imm false 1 (List.drop (Int.toNat ((↑(List.length st):Int)-(0:Int))) (List.take (Int.toNat (↑(List.length (List.map (V.int .u8) st)):Int)) (List.map (V.int .u8) st))),V.imm false 1 [])]<|.call 82 (67) ([Vu (Stp.k s),eKs []]) ([]) (Fr (V.tup [Vu (kind0 (Stp.k s)),Vb true]) [])<|.chk 90 (decide ((0:Int)≤(0:Int)∧(0:Int)≤(↑(List.length st):Int)-(0:Int)∧(↑(List.length st):Int)-(0:Int)≤(↑(List.length (List.map (V.int .u8) st)):Int)))<|.rw 8090 [] [(90,V.imm false 1 (List.drop 0 (List.take (Int.toNat ((↑(List.length st):Int)-(0:Int))) (List.map (V.int .u8) st))),V.imm false 1 (List.map (V.int .u8) st))]<|.ff 91 (List.isEmpty (List.map (V.int .u8) st))<|.chk 91 (decide ((0+List.length (List.map (V.int .u8) st))*1≤140737488355328))<|.rw 8091 [] [(91,V.lin true 26 1 ([]++List.map (V.int .u8) st),V.lin true 26 1 (List.map (V.int .u8) st))]<|.chk 94 (decide ((List.length (List.map (V.int .u8) st)+1)*1≤140737488355328))<|.rw 8094 [] [(94,V.lin true 26 1 (List.map (V.int .u8) st++[Vu (kind0 (Stp.k s))]),V.lin true 26 1 (List.map (V.int .u8) (st++[kind0 (Stp.k s)])))]<|.rw 8095 [] [(95,Vi (IntKind.wrap IntKind.i64 ((↑i:Int)+(1:Int))),Vi (↑(i+1):Int))]<|.to 24000 ([.cut 0])<|.ret (.normal,S104 l cols (st++[kind0 (Stp.k s)]) (i+1))) (by kernel_rfl) ?_
  exact ⟨⟨tv,cb (by simp<;>omega),tv⟩,(idx_map _ hs),⟨tv,cb (by simp<;>omega),tv⟩,(Sp.fact (ht)),⟨tv,by simp (disch:=omega) only [List.length_map],tv⟩,⟨tv,by simp (disch:=omega) only [wrap_i64],tv⟩,by simp [hne],⟨tv,by simp (disch:=omega) only [List.length_map,Int.toNat_natCast,tail0],tv⟩,(Sp.fact (hk2)),by simp [hne],⟨tv,by simp (disch:=omega) only [take0,List.drop_zero],tv⟩,by simp [hne],by simp<;>omega,⟨tv,by simp (disch:=omega) only [List.nil_append],tv⟩,by simp<;>omega,⟨tv,by simp (disch:=omega) only [app_int],tv⟩,⟨tv,by simp (disch:=omega) only [cast_succ,wrap_i64],tv⟩,(ih)⟩
theorem k104_1b (l:List Stp) (cols:List Cl) (pre fin:List Int) (x:Int) (i:Nat) (s:Stp) (hb:l.length≤64) (hst:pre.length+1≤i) (hs:l[i]?=some s) (hf:FineS s) (h6:TkOk s) (h7:7≤s.k) (h8:s.k≤10) (hok:kind1ok s.k x=true)
   (ih:LoopK C1 27 104 K104 (S104 l cols (pre++[kind1 s.k]) (i+1)) .ret R104):LoopK C1 27 104 K104 (S104 l cols (pre++[x]) i) .ret R104:=by
 have hi:=(List.getElem?_eq_some_iff.1 hs).1
 have ht:=takes2_sp s hf (by omega)
 have e1:tkN s=1:=by unfold tkN;rw [if_neg (by simpa using h6),if_neg (by omega),if_pos (by omega)]
 have e2:tkOk s=true:=by unfold tkOk;simpa using h6
 rw [e1,e2] at ht
 have hk2:=kind21_sp s.k x h7 h8
 rw [hok] at hk2
 by_cases hne:pre=[]
 ·subst hne
  refine loop_tree draws (rd:=true) (kn:=K104) (ke:=(keeps [4,5])) (
   .rw 8052 [] [(52,Vb (decide ((↑i:Int)<(↑(List.length l):Int))),Vb true)]<|.opt 53 (idx (List.map eS l) (↑i:Int)) (eS s)<|.rw 8057 [] [(57,Vb (Stp.k s==(6:Int)),Vb false)]<|.call 69 (66) ([eS s]) ([]) (Fr (V.tup [Vi (1:Int),Vb true]) [])<|.call 82 (67) ([Vu (Stp.k s),eKs [x]]) ([]) (Fr (V.tup [Vu (kind1 (Stp.k s)),Vb true]) [])<|.rw 8095 [] [(95,Vi (IntKind.wrap IntKind.i64 ((↑i:Int)+(1:Int))),Vi (↑(i+1):Int))]<|.to 24000 ([.cut 0])<|.ret (.normal,S104 l cols ([]++[kind1 (Stp.k s)]) (i+1))) (by kernel_rfl) ?_
  exact ⟨⟨tv,cb (by simp<;>omega),tv⟩,(idx_map _ hs),⟨tv,cb (by simp<;>omega),tv⟩,(Sp.fact (ht)),(Sp.fact (hk2)),⟨tv,by simp (disch:=omega) only [cast_succ,wrap_i64],tv⟩,(ih)⟩
 ·refine loop_tree draws (rd:=true) (kn:=K104) (ke:=(keeps [4,5])) (
   .rw 8052 [] [(52,Vb (decide ((↑i:Int)<(↑(List.length l):Int))),Vb true)]<|.opt 53 (idx (List.map eS l) (↑i:Int)) (eS s)<|.rw 8057 [] [(57,Vb (Stp.k s==(6:Int)),Vb false)]<|.call 69 (66) ([eS s]) ([]) (Fr (V.tup [Vi (1:Int),Vb true]) [])<|.rw 8073 [] [(73,Vi (↑(List.length (List.map (V.int .u8) (pre++[x]))):Int),Vi (↑(List.length pre+1):Int))]<|.rw 8075 [] [(75,Vi (IntKind.wrap IntKind.i64 ((↑(List.length pre+1):Int)-(1:Int))),Vi ((↑(List.length pre+1):Int)-(1:Int)))]<|.chk 81 (decide ((0:Int)≤(↑(List.length pre+1):Int)-(1:Int)∧(↑(List.length pre+1):Int)-(1:Int)≤(↑(List.length (List.map (V.int .u8) (pre++[x]))):Int)∧(↑(List.length (List.map (V.int .u8) (pre++[x]))):Int)≤(↑(List.length (List.map (V.int .u8) (pre++[x]))):Int)))<|.rw 8081 [] [(81,V.imm false 1 (List.drop (Int.toNat ((↑(List.length pre+1):Int)-(1:Int))) (List.take (Int.toNat (↑(List.length (List.map (V.int .u8) (pre++[x]))):Int)) (List.map (V.int .u8) (pre++[x])))),V.imm false 1 [Vu x])]<|.call 82 (67) ([Vu (Stp.k s),eKs [x]]) ([]) (Fr (V.tup [Vu (kind1 (Stp.k s)),Vb true]) [])<|.chk 90 (decide ((0:Int)≤(0:Int)∧(0:Int)≤(↑(List.length pre+1):Int)-(1:Int)∧(↑(List.length pre+1):Int)-(1:Int)≤(↑(List.length (List.map (V.int .u8) (pre++[x]))):Int)))<|.rw 8090 [] [(90,V.imm false 1 (List.drop 0 (List.take (Int.toNat ((↑(List.length pre+1):Int)-(1:Int))) (List.map (V.int .u8) (pre++[x])))),V.imm false 1 (List.map (V.int .u8) pre))]<|.ff 91 (List.isEmpty (List.map (V.int .u8) pre))<|.chk 91 (decide ((0+List.length (List.map (V.int .u8) pre))*1≤140737488355328))<|.rw 8091 [] [(91,V.lin true 26 1 ([]++List.map (V.int .u8) pre),V.lin true 26 1 (List.map (V.int .u8) pre))]<|.chk 94 (decide ((List.length (List.map (V.int .u8) pre)+1)*1≤140737488355328))<|.rw 8094 [] [(94,V.lin true 26 1 (List.map (V.int .u8) pre++[Vu (kind1 (Stp.k s))]),V.lin true 26 1 (List.map (V.int .u8) (pre++[kind1 (Stp.k s)])))]<|.rw 8095 [] [(95,Vi (IntKind.wrap IntKind.i64 ((↑i:Int)+(1:Int))),Vi (↑(i+1):Int))]<|.to 24000 ([.cut 0])<|.ret (.normal,S104 l cols (pre++[kind1 (Stp.k s)]) (i+1))) (by kernel_rfl) ?_
  exact ⟨⟨tv,cb (by simp<;>omega),tv⟩,(idx_map _ hs),⟨tv,cb (by simp<;>omega),tv⟩,(Sp.fact (ht)),⟨tv,by simp (disch:=omega) only [List.length_map,List.length_append,List.length_cons,List.length_nil,Nat.zero_add],tv⟩,⟨tv,by simp (disch:=omega) only [wrap_i64],tv⟩,by simp<;>omega,⟨tv,by simp (disch:=omega) only [List.length_map,List.length_append,List.length_cons,List.length_nil,Nat.zero_add,Int.toNat_natCast,tail1],tv⟩,(Sp.fact (hk2)),by simp<;>omega,⟨tv,by simp (disch:=omega) only [take1,List.drop_zero],tv⟩,by simp [hne],by simp<;>omega,⟨tv,by simp (disch:=omega) only [List.nil_append],tv⟩,by simp<;>omega,⟨tv,by simp (disch:=omega) only [app_int],tv⟩,⟨tv,by simp (disch:=omega) only [cast_succ,wrap_i64],tv⟩,(ih)⟩
theorem k104_2b (l:List Stp) (cols:List Cl) (pre fin:List Int) (x y:Int) (i:Nat) (s:Stp) (hb:l.length≤64) (hst:pre.length+2≤i) (hs:l[i]?=some s) (hf:FineS s) (h6:TkOk s) (h7:11≤s.k) (h8:s.k≤21) (hok:kind2ok s.k x y=true)
   (ih:LoopK C1 27 104 K104 (S104 l cols (pre++[kind2 s.k]) (i+1)) .ret R104):LoopK C1 27 104 K104 (S104 l cols (pre++[x,y]) i) .ret R104:=by
 have hi:=(List.getElem?_eq_some_iff.1 hs).1
 have ht:=takes2_sp s hf (by omega)
 have e1:tkN s=2:=by unfold tkN;rw [if_neg (by simpa using h6),if_neg (by omega),if_neg (by omega)]
 have e2:tkOk s=true:=by unfold tkOk;simpa using h6
 rw [e1,e2] at ht
 have hk2:=kind22_sp s.k x y h7 h8
 rw [hok] at hk2
 by_cases hne:pre=[]
 ·subst hne
  refine loop_tree draws (rd:=true) (kn:=K104) (ke:=(keeps [4,5])) (
   .rw 8052 [] [(52,Vb (decide ((↑i:Int)<(↑(List.length l):Int))),Vb true)]<|.opt 53 (idx (List.map eS l) (↑i:Int)) (eS s)<|.rw 8057 [] [(57,Vb (Stp.k s==(6:Int)),Vb false)]<|.call 69 (66) ([eS s]) ([]) (Fr (V.tup [Vi (2:Int),Vb true]) [])<|.call 82 (67) ([Vu (Stp.k s),eKs [x,y]]) ([]) (Fr (V.tup [Vu (kind2 (Stp.k s)),Vb true]) [])<|.rw 8095 [] [(95,Vi (IntKind.wrap IntKind.i64 ((↑i:Int)+(1:Int))),Vi (↑(i+1):Int))]<|.to 24000 ([.cut 0])<|.ret (.normal,S104 l cols ([]++[kind2 (Stp.k s)]) (i+1))) (by kernel_rfl) ?_
  exact ⟨⟨tv,cb (by simp<;>omega),tv⟩,(idx_map _ hs),⟨tv,cb (by simp<;>omega),tv⟩,(Sp.fact (ht)),(Sp.fact (hk2)),⟨tv,by simp (disch:=omega) only [cast_succ,wrap_i64],tv⟩,(ih)⟩
 ·refine loop_tree draws (rd:=true) (kn:=K104) (ke:=(keeps [4,5])) (
   .rw 8052 [] [(52,Vb (decide ((↑i:Int)<(↑(List.length l):Int))),Vb true)]<|.opt 53 (idx (List.map eS l) (↑i:Int)) (eS s)<|.rw 8057 [] [(57,Vb (Stp.k s==(6:Int)),Vb false)]<|.call 69 (66) ([eS s]) ([]) (Fr (V.tup [Vi (2:Int),Vb true]) [])<|.rw 8073 [] [(73,Vi (↑(List.length (List.map (V.int .u8) (pre++[x,y]))):Int),Vi (↑(List.length pre+(1+1)):Int))]<|.rw 8075 [] [(75,Vi (IntKind.wrap IntKind.i64 ((↑(List.length pre+2):Int)-(2:Int))),Vi ((↑(List.length pre+2):Int)-(2:Int)))]<|.chk 81 (decide ((0:Int)≤(↑(List.length pre+2):Int)-(2:Int)∧(↑(List.length pre+2):Int)-(2:Int)≤(↑(List.length (List.map (V.int .u8) (pre++[x,y]))):Int)∧(↑(List.length (List.map (V.int .u8) (pre++[x,y]))):Int)≤(↑(List.length (List.map (V.int .u8) (pre++[x,y]))):Int)))<|.rw 8081 [] [(81,V.imm false 1 (List.drop (Int.toNat ((↑(List.length pre+2):Int)-(2:Int))) (List.take (Int.toNat (↑(List.length (List.map (V.int .u8) (pre++[x,y]))):Int)) (List.map (V.int .u8) (pre++[x,y])))),V.imm false 1 [Vu x,Vu y])]<|.call 82 (67) ([Vu (Stp.k s),eKs [x,y]]) ([]) (Fr (V.tup [Vu (kind2 (Stp.k s)),Vb true]) [])<|.chk 90 (decide ((0:Int)≤(0:Int)∧(0:Int)≤(↑(List.length pre+2):Int)-(2:Int)∧(↑(List.length pre+2):Int)-(2:Int)≤(↑(List.length (List.map (V.int .u8) (pre++[x,y]))):Int)))<|.rw 8090 [] [(90,V.imm false 1 (List.drop 0 (List.take (Int.toNat ((↑(List.length pre+2):Int)-(2:Int))) (List.map (V.int .u8) (pre++[x,y])))),V.imm false 1 (List.map (V.int .u8) pre))]<|.ff 91 (List.isEmpty (List.map (V.int .u8) pre))<|.chk 91 (decide ((0+List.length (List.map (V.int .u8) pre))*1≤140737488355328))<|.rw 8091 [] [(91,V.lin true 26 1 ([]++List.map (V.int .u8) pre),V.lin true 26 1 (List.map (V.int .u8) pre))]<|.chk 94 (decide ((List.length (List.map (V.int .u8) pre)+1)*1≤140737488355328))<|.rw 8094 [] [(94,V.lin true 26 1 (List.map (V.int .u8) pre++[Vu (kind2 (Stp.k s))]),V.lin true 26 1 (List.map (V.int .u8) (pre++[kind2 (Stp.k s)])))]<|.rw 8095 [] [(95,Vi (IntKind.wrap IntKind.i64 ((↑i:Int)+(1:Int))),Vi (↑(i+1):Int))]<|.to 24000 ([.cut 0])<|.ret (.normal,S104 l cols (pre++[kind2 (Stp.k s)]) (i+1))) (by kernel_rfl) ?_
  exact ⟨⟨tv,cb (by simp<;>omega),tv⟩,(idx_map _ hs),⟨tv,cb (by simp<;>omega),tv⟩,(Sp.fact (ht)),⟨tv,by simp (disch:=omega) only [List.length_map,List.length_append,List.length_cons,List.length_nil,Nat.zero_add],tv⟩,⟨tv,by simp (disch:=omega) only [wrap_i64],tv⟩,by simp<;>omega,⟨tv,by simp (disch:=omega) only [List.length_map,List.length_append,List.length_cons,List.length_nil,Nat.zero_add,Int.toNat_natCast,tail2],tv⟩,(Sp.fact (hk2)),by simp<;>omega,⟨tv,by simp (disch:=omega) only [take2,List.drop_zero],tv⟩,by simp [hne],by simp<;>omega,⟨tv,by simp (disch:=omega) only [List.nil_append],tv⟩,by simp<;>omega,⟨tv,by simp (disch:=omega) only [app_int],tv⟩,⟨tv,by simp (disch:=omega) only [cast_succ,wrap_i64],tv⟩,(ih)⟩
end Go.Fw
set_option maxHeartbeats 20000000
namespace Go.Fw
open Go.Proofs
theorem k104_1x (l:List Stp) (cols:List Cl) (pre:List Int) (x:Int) (i:Nat) (s:Stp) (hb:l.length≤64) (hst:pre.length+1≤i) (hs:l[i]?=some s) (hf:FineS s) (h6:TkOk s) (h7:7≤s.k) (h8:s.k≤10) (hok:kind1ok s.k x=false):LoopK C1 27 104 K104 (S104 l cols (pre++[x]) i) .ret R104:=by
 have hi:=(List.getElem?_eq_some_iff.1 hs).1
 have ht:=takes2_sp s hf (by omega)
 have e1:tkN s=1:=by unfold tkN;rw [if_neg (by simpa using h6),if_neg (by omega),if_pos (by omega)]
 have e2:tkOk s=true:=by unfold tkOk;simpa using h6
 rw [e1,e2] at ht
 have hk2:=kind21_sp s.k x h7 h8
 rw [hok] at hk2
 refine loop_tree draws (rd:=true) (kn:=K104) (ke:=(keeps [4,5])) (
  .rw 8052 [] [(52,Vb (decide ((↑i:Int)<(↑(List.length l):Int))),Vb true)]<|.opt 53 (idx (List.map eS l) (↑i:Int)) (eS s)<|.rw 8057 [] [(57,Vb (Stp.k s==(6:Int)),Vb false)]<|.call 69 (66) ([eS s]) ([]) (Fr (V.tup [Vi (1:Int),Vb true]) [])<|.rw 8073 [] [(73,Vi (↑(List.length (List.map (V.int .u8) (pre++[x]))):Int),Vi (↑(List.length pre+1):Int))]<|.rw 8075 [] [(75,Vi (IntKind.wrap IntKind.i64 ((↑(List.length pre+1):Int)-(1:Int))),Vi ((↑(List.length pre+1):Int)-(1:Int)))]<|.chk 81 (decide ((0:Int)≤(↑(List.length pre+1):Int)-(1:Int)∧(↑(List.length pre+1):Int)-(1:Int)≤(↑(List.length (List.map (V.int .u8) (pre++[x]))):Int)∧(↑(List.length (List.map (V.int .u8) (pre++[x]))):Int)≤(↑(List.length (List.map (V.int .u8) (pre++[x]))):Int)))<|.rw 8081 [] [(81,V.imm false 1 (List.drop (Int.toNat ((↑(List.length pre+1):Int)-(1:Int))) (List.take (Int.toNat (↑(List.length (List.map (V.int .u8) (pre++[x]))):Int)) (List.map (V.int .u8) (pre++[x])))),V.imm false 1 [Vu x])]<|.call 82 (67) ([Vu (Stp.k s),eKs [x]]) ([]) (Fr (V.tup [Vu (kind1 (Stp.k s)),Vb false]) [])<|.to 24001 ([.cut 0])<|.ret ((Ex.ret,mkSt 99 [(4,Vu (0:Int)),(5,Vi (5:Int))] []))) (by kernel_rfl) ?_
 exact ⟨⟨tv,cb (by simp<;>omega),tv⟩,(idx_map _ hs),⟨tv,cb (by simp<;>omega),tv⟩,(Sp.fact (ht)),⟨tv,by simp (disch:=omega) only [List.length_map,List.length_append,List.length_cons,List.length_nil,Nat.zero_add],tv⟩,⟨tv,by simp (disch:=omega) only [wrap_i64],tv⟩,by simp<;>omega,⟨tv,by simp (disch:=omega) only [List.length_map,List.length_append,List.length_cons,List.length_nil,Nat.zero_add,Int.toNat_natCast,tail1],tv⟩,(Sp.fact (hk2)),rfl,rfl⟩
theorem k104_2x (l:List Stp) (cols:List Cl) (pre:List Int) (x y:Int) (i:Nat) (s:Stp) (hb:l.length≤64) (hst:pre.length+2≤i) (hs:l[i]?=some s) (hf:FineS s) (h6:TkOk s) (h7:11≤s.k) (h8:s.k≤21) (hok:kind2ok s.k x y=false):LoopK C1 27 104 K104 (S104 l cols (pre++[x,y]) i) .ret R104:=by
 have hi:=(List.getElem?_eq_some_iff.1 hs).1
 have ht:=takes2_sp s hf (by omega)
 have e1:tkN s=2:=by unfold tkN;rw [if_neg (by simpa using h6),if_neg (by omega),if_neg (by omega)]
 have e2:tkOk s=true:=by unfold tkOk;simpa using h6
 rw [e1,e2] at ht
 have hk2:=kind22_sp s.k x y h7 h8
 rw [hok] at hk2
 refine loop_tree draws (rd:=true) (kn:=K104) (ke:=(keeps [4,5])) (
  .rw 8052 [] [(52,Vb (decide ((↑i:Int)<(↑(List.length l):Int))),Vb true)]<|.opt 53 (idx (List.map eS l) (↑i:Int)) (eS s)<|.rw 8057 [] [(57,Vb (Stp.k s==(6:Int)),Vb false)]<|.call 69 (66) ([eS s]) ([]) (Fr (V.tup [Vi (2:Int),Vb true]) [])<|.rw 8073 [] [(73,Vi (↑(List.length (List.map (V.int .u8) (pre++[x,y]))):Int),Vi (↑(List.length pre+(1+1)):Int))]<|.rw 8075 [] [(75,Vi (IntKind.wrap IntKind.i64 ((↑(List.length pre+2):Int)-(2:Int))),Vi ((↑(List.length pre+2):Int)-(2:Int)))]<|.chk 81 (decide ((0:Int)≤(↑(List.length pre+2):Int)-(2:Int)∧(↑(List.length pre+2):Int)-(2:Int)≤(↑(List.length (List.map (V.int .u8) (pre++[x,y]))):Int)∧(↑(List.length (List.map (V.int .u8) (pre++[x,y]))):Int)≤(↑(List.length (List.map (V.int .u8) (pre++[x,y]))):Int)))<|.rw 8081 [] [(81,V.imm false 1 (List.drop (Int.toNat ((↑(List.length pre+2):Int)-(2:Int))) (List.take (Int.toNat (↑(List.length (List.map (V.int .u8) (pre++[x,y]))):Int)) (List.map (V.int .u8) (pre++[x,y])))),V.imm false 1 [Vu x,Vu y])]<|.call 82 (67) ([Vu (Stp.k s),eKs [x,y]]) ([]) (Fr (V.tup [Vu (kind2 (Stp.k s)),Vb false]) [])<|.to 24001 ([.cut 0])<|.ret ((Ex.ret,mkSt 99 [(4,Vu (0:Int)),(5,Vi (5:Int))] []))) (by kernel_rfl) ?_
 exact ⟨⟨tv,cb (by simp<;>omega),tv⟩,(idx_map _ hs),⟨tv,cb (by simp<;>omega),tv⟩,(Sp.fact (ht)),⟨tv,by simp (disch:=omega) only [List.length_map,List.length_append,List.length_cons,List.length_nil,Nat.zero_add],tv⟩,⟨tv,by simp (disch:=omega) only [wrap_i64],tv⟩,by simp<;>omega,⟨tv,by simp (disch:=omega) only [List.length_map,List.length_append,List.length_cons,List.length_nil,Nat.zero_add,Int.toNat_natCast,tail2],tv⟩,(Sp.fact (hk2)),rfl,rfl⟩
theorem k104_end (l:List Stp) (cols:List Cl) (st:List Int) (i:Nat) (hi:i=l.length) (hb:l.length≤64):LoopK C1 27 104 K104 (S104 l cols st i) (.exit 2) (F104 st):=by
 refine loop_tree draws (rd:=true) (kn:=K104) (ke:=[(8,.of (.lin 26 1))]) (
  .rw 8052 [] [(52,Vb (decide ((↑i:Int)<(↑(List.length l):Int))),Vb false)]<|.ret ((Ex.exit 2,mkSt 99 [(8,V.lin true 26 1 (List.map (V.int .u8) st))] []))) (by kernel_rfl) ?_
 exact ⟨⟨tv,cb (by simp<;>omega),tv⟩,rfl,rfl⟩
theorem split1 (st:List Int) (h:1≤st.length):∃ pre x,st=pre++[x]:=by
 have hne:st≠[]:=by intro e;rw [e] at h;simp at h
 exact ⟨st.dropLast,st.getLast hne,(List.dropLast_concat_getLast hne).symm⟩
theorem split2 (st:List Int) (h:2≤st.length):∃ pre x y,st=pre++[x,y]:=by
 obtain ⟨p1,y,rfl⟩:=split1 st (by omega)
 obtain ⟨pre,x,rfl⟩:=split1 p1 (by simp at h;omega)
 exact ⟨pre,x,y,by simp⟩
theorem kindGo_at (cols:List Cl) (l:List Stp) (i:Nat) (s:Stp) (h:l[i]?=some s) (st:List Int):kindGo cols (l.drop i) st=if s.k=6 then kindGo cols (l.drop (i+1)) (st++[colK cols s.n]) else match kindL s.k (st.drop (st.length-(tkN s).toNat)) with
  | some k=>kindGo cols (l.drop (i+1)) (st.take (st.length-(tkN s).toNat)++[k])
  | none=>none:=by
 obtain ⟨h1,rfl⟩:=List.getElem?_eq_some_iff.1 h
 rw [List.drop_eq_getElem_cons h1]
 rfl
theorem drop_pre (pre a:List Int) (n:Nat) (h:a.length=n):(pre++a).drop ((pre++a).length-n)=a∧(pre++a).take ((pre++a).length-n)=pre:=by
 have e:(pre++a).length-n=pre.length:=by simp;omega
 rw [e]
 exact ⟨by simp,by simp⟩
theorem kindl (l:List Stp) (cols:List Cl) (hb:l.length≤64) (hf:∀ s∈l,FineS s) (hx:∀ s∈l,ColOk cols.length s) (m:Int):∀ k i (st:List Int),i+k=l.length→st.length≤i→rightGo (l.drop i) (st.length:Int)=some m →
  (match kindGo cols (l.drop i) st with
   | some fin=>(fin.length:Int)=m∧LoopK C1 27 104 K104 (S104 l cols st i) (.exit 2) (F104 fin)
   | none=>LoopK C1 27 104 K104 (S104 l cols st i) .ret R104)
 | 0,i,st,hi,hst,hr=>by
  rw [List.drop_eq_nil_of_le (by omega)] at hr ⊢
  cases hr
  exact ⟨rfl,k104_end l cols st i (by omega) hb⟩
 | k+1,i,st,hi,hst,hr=>by
  obtain ⟨s,hs⟩:∃ s,l[i]?=some s:=⟨l[i]'(by omega),List.getElem?_eq_getElem (by omega)⟩
  have fs:=hf s (List.mem_of_getElem? hs)
  have cs:=hx s (List.mem_of_getElem? hs)
  rw [rightGo_at l i s hs] at hr
  have hc:¬(tOk s=false∨(st.length:Int)<tN s):=fun hc=>by rw [if_pos hc] at hr;cases hr
  rw [if_neg hc] at hr
  rw [kindGo_at cols l i s hs st]
  by_cases h6:s.k=6
  ·rw [if_pos h6]
   obtain ⟨_,c1,c2⟩:=cs h6
   obtain ⟨q,hq⟩:∃ q:Nat,s.n=(q:Int):=⟨s.n.toNat,by omega⟩
   obtain ⟨c,hcc⟩:∃ c,cols[q]?=some c:=⟨cols[q]'(by omega),List.getElem?_eq_getElem (by omega)⟩
   have e1:tN s=0:=by unfold tN;rw [if_pos h6]
   have e2:colK cols s.n=c.k:=by unfold colK;rw [hq,Int.toNat_natCast,hcc];rfl
   rw [e2]
   have ih:=kindl l cols hb hf hx m k (i+1) (st++[c.k]) (by omega) (by simp;omega) (by rw [e1] at hr;rw [←hr];congr 1;simp)
   cases hg:kindGo cols (l.drop (i+1)) (st++[c.k]) with
   | none=>rw [hg] at ih;exact k104_colb l cols st [] i s hb hst hs h6 q c hq hcc ih
   | some fin=>rw [hg] at ih;exact ⟨ih.1,k104_cola l cols st fin i s hb hst hs h6 q c hq hcc ih.2⟩
  ·rw [if_neg h6]
   have e1:tN s=tkN s:=by unfold tN;rw [if_neg h6]
   have e2:tOk s=tkOk s:=by unfold tOk;rw [if_neg h6]
   rw [e1,e2] at hc
   rw [e1] at hr
   have ho:TkOk s:=by
    cases h:tkOk s with
    | false=>exact absurd (.inl h) hc
    | true=>unfold tkOk at h;simpa using h
   have hn:tkN s≤(st.length:Int):=by omega
   have hk1:1≤s.k:=ho.1
   have hk2:s.k<22:=ho.2.1
   by_cases h7:s.k<7
   ·have t0:tkN s=0:=by unfold tkN;rw [if_neg (by simpa using ho),if_pos h7]
    rw [t0] at hr ⊢
    obtain ⟨d1,d2⟩:=drop_pre st [] 0 rfl
    rw [List.append_nil] at d1 d2
    rw [show (0:Int).toNat=0 from rfl,d1,d2]
    show (match kindGo cols (l.drop (i+1)) (st++[kind0 s.k]) with | some fin=>_ | none=>_)
    have ih:=kindl l cols hb hf hx m k (i+1) (st++[kind0 s.k]) (by omega) (by simp;omega) (by rw [←hr];congr 1;simp)
    cases hg:kindGo cols (l.drop (i+1)) (st++[kind0 s.k]) with
    | none=>rw [hg] at ih;exact k104_0b l cols st [] i s hb hst hs fs ho (by omega) ih
    | some fin=>rw [hg] at ih;exact ⟨ih.1,k104_0a l cols st fin i s hb hst hs fs ho (by omega) ih.2⟩
   by_cases h8:s.k≤10
   ·have t1:tkN s=1:=by unfold tkN;rw [if_neg (by simpa using ho),if_neg h7,if_pos h8]
    rw [t1] at hr hn ⊢
    obtain ⟨pre,x,rfl⟩:=split1 st (by omega)
    obtain ⟨d1,d2⟩:=drop_pre pre [x] 1 rfl
    rw [show (1:Int).toNat=1 from rfl,d1,d2]
    have hst':pre.length+1≤i:=by simpa using hst
    cases hok:kind1ok s.k x with
    | false =>
     have:kindL s.k [x]=none:=by simp [kindL,hok]
     rw [this]
     exact k104_1x l cols pre x i s hb hst' hs fs ho (by omega) h8 hok
    | true =>
     have:kindL s.k [x]=some (kind1 s.k):=by simp [kindL,hok]
     rw [this]
     show (match kindGo cols (l.drop (i+1)) (pre++[kind1 s.k]) with | some fin=>_ | none=>_)
     have ih:=kindl l cols hb hf hx m k (i+1) (pre++[kind1 s.k]) (by omega) (by simp;omega) (by rw [←hr];congr 1;simp)
     cases hg:kindGo cols (l.drop (i+1)) (pre++[kind1 s.k]) with
     | none=>rw [hg] at ih;exact k104_1b l cols pre [] x i s hb hst' hs fs ho (by omega) h8 hok ih
     | some fin=>rw [hg] at ih;exact ⟨ih.1,k104_1a l cols pre fin x i s hb hst' hs fs ho (by omega) h8 hok ih.2⟩
   ·have t2:tkN s=2:=by unfold tkN;rw [if_neg (by simpa using ho),if_neg h7,if_neg h8]
    rw [t2] at hr hn ⊢
    obtain ⟨pre,x,y,rfl⟩:=split2 st (by omega)
    obtain ⟨d1,d2⟩:=drop_pre pre [x,y] 2 rfl
    rw [show (2:Int).toNat=2 from rfl,d1,d2]
    have hst':pre.length+2≤i:=by simpa using hst
    cases hok:kind2ok s.k x y with
    | false =>
     have:kindL s.k [x,y]=none:=by simp [kindL,hok]
     rw [this]
     exact k104_2x l cols pre x y i s hb hst' hs fs ho (by omega) (by omega) hok
    | true =>
     have:kindL s.k [x,y]=some (kind2 s.k):=by simp [kindL,hok]
     rw [this]
     show (match kindGo cols (l.drop (i+1)) (pre++[kind2 s.k]) with | some fin=>_ | none=>_)
     have ih:=kindl l cols hb hf hx m k (i+1) (pre++[kind2 s.k]) (by omega) (by simp;omega) (by rw [←hr];congr 1;simp;omega)
     cases hg:kindGo cols (l.drop (i+1)) (pre++[kind2 s.k]) with
     | none=>rw [hg] at ih;exact k104_2b l cols pre [] x y i s hb hst' hs fs ho (by omega) (by omega) hok ih
     | some fin=>rw [hg] at ih;exact ⟨ih.1,k104_2a l cols pre fin x y i s hb hst' hs fs ho (by omega) (by omega) hok ih.2⟩
open Classical in
noncomputable def kindR (l:List Stp) (cols:List Cl):Int×Int:=if rightB l=false then (0,13) else if 16<cols.length then (0,3) else if (∃ s∈l,¬ColOk cols.length s) then (0,2) else match kindGo cols l [] with
 | some fin=>(fin.headD 0,0)
 | none=>(0,5)
theorem kindK_none (l:List Stp) (cols:List Cl) (hb:l.length≤64) (hf:∀ s∈l,FineS s) (hr:rightB l=true) (hc:cols.length≤16) (hx:∀ s∈l,ColOk cols.length s) (hg:kindGo cols l []=none):Sp C1 27 [eSteps l,eCols cols] (.tup [.int .u8 0,.int .i64 5]):=by
 have hs:=right_sp l (by omega) hf
 rw [hr] at hs
 have hl:=coll_ok l cols (by omega) hc l.length 0 (by omega) (fun j s _ h=>hx s (List.mem_of_getElem? h))
 unfold rightB at hr
 cases hm:rightGo l 0 with
 | none=>rw [hm] at hr;cases hr
 | some m =>
  have h:=kindl l cols hb hf hx m l.length 0 [] (by omega) (by simp) hm
  rw [List.drop_zero,hg] at h
  dsimp only at h
  refine sp_tree draws (dm:=[]) (fs:=[]) (
   .call 17 (65) ([eSteps l]) ([]) (Fr (Vb true) [])<|.rw 8020 [] [(20,Vi (↑(List.length (List.map eC cols)):Int),Vi (↑(List.length cols):Int))]<|.rw 8021 [] [(21,Vb (decide ((↑(List.length cols):Int)>(16:Int))),Vb false)]<|.rw 8023 [] [(23,Vi (↑(List.length (List.map eS l)):Int),Vi (↑(List.length l):Int))]<|.loop 48 false (K27) (S27 l cols 0) (Ex.exit 0) (mkSt 99 [(0,eSteps l),(1,eCols cols)] [])<|.rw 8050 [] [(50,Vi (↑(List.length (List.map eS l)):Int),Vi (↑(List.length l):Int))]<|.loop 104 false (K104) (S104 l cols [] 0) (Ex.ret) (R104)<|.ret (Fr (V.tup [Vu (0:Int),Vi (5:Int)]) [])) (by kernel_rfl) ?_
  exact ⟨(Sp.fact (hs)),⟨tv,by simp (disch:=omega) only [List.length_map],tv⟩,⟨tv,cb (by simp<;>omega),tv⟩,⟨tv,by simp (disch:=omega) only [List.length_map],tv⟩,(LoopR.weak (hl)),⟨tv,by simp (disch:=omega) only [List.length_map],tv⟩,(LoopR.weak (h)),rfl⟩
theorem kindK_some (l:List Stp) (cols:List Cl) (hb:l.length≤64) (hf:∀ s∈l,FineS s) (hr:rightB l=true) (hc:cols.length≤16) (hx:∀ s∈l,ColOk cols.length s) (fin:List Int) (hg:kindGo cols l []=some fin):Sp C1 27 [eSteps l,eCols cols] (.tup [.int .u8 (fin.headD 0),.int .i64 0]):=by
 have hs:=right_sp l (by omega) hf
 rw [hr] at hs
 have hl:=coll_ok l cols (by omega) hc l.length 0 (by omega) (fun j s _ h=>hx s (List.mem_of_getElem? h))
 unfold rightB at hr
 cases hm:rightGo l 0 with
 | none=>rw [hm] at hr;cases hr
 | some m =>
  rw [hm] at hr
  have h:=kindl l cols hb hf hx m l.length 0 [] (by omega) (by simp) hm
  rw [List.drop_zero,hg] at h
  obtain ⟨h1,h2⟩:=h
  have hr:m=1∧l.length≤64:=by simpa using hr
  obtain ⟨x,rfl⟩:∃ x,fin=[x]:=List.length_eq_one_iff.1 (by omega)
  clear h1
  refine sp_tree draws (dm:=[]) (fs:=[]) (
   .call 17 (65) ([eSteps l]) ([]) (Fr (Vb true) [])<|.rw 8020 [] [(20,Vi (↑(List.length (List.map eC cols)):Int),Vi (↑(List.length cols):Int))]<|.rw 8021 [] [(21,Vb (decide ((↑(List.length cols):Int)>(16:Int))),Vb false)]<|.rw 8023 [] [(23,Vi (↑(List.length (List.map eS l)):Int),Vi (↑(List.length l):Int))]<|.loop 48 false (K27) (S27 l cols 0) (Ex.exit 0) (mkSt 99 [(0,eSteps l),(1,eCols cols)] [])<|.rw 8050 [] [(50,Vi (↑(List.length (List.map eS l)):Int),Vi (↑(List.length l):Int))]<|.loop 104 false (K104) (S104 l cols [] 0) (Ex.exit 2) (F104 [x])<|.ret (Fr (V.tup [Vu x,Vi (0:Int)]) [])) (by kernel_rfl) ?_
  exact ⟨(Sp.fact (hs)),⟨tv,by simp (disch:=omega) only [List.length_map],tv⟩,⟨tv,cb (by simp<;>omega),tv⟩,⟨tv,by simp (disch:=omega) only [List.length_map],tv⟩,(LoopR.weak (hl)),⟨tv,by simp (disch:=omega) only [List.length_map],tv⟩,(LoopR.weak (h2)),rfl⟩
end Go.Fw
set_option maxHeartbeats 20000000
namespace Go.Fw
open Go.Proofs
section
variable {α:Type}
theorem tailA0 (st:List α) (f:α→V):List.drop (Int.toNat ((st.length:Int)-0)) (List.take st.length (st.map f))=[]:=by
 rw [Int.sub_zero,Int.toNat_natCast,List.drop_eq_nil_of_le (by simp)]
theorem takeA0 (st:List α) (f:α→V):List.take (Int.toNat ((st.length:Int)-0)) (st.map f)=st.map f:=by
 rw [Int.sub_zero,Int.toNat_natCast,List.take_of_length_le (by simp)]
theorem tailA1 (pre:List α) (x:α) (f:α→V):List.drop (Int.toNat (((pre.length+1:Nat):Int)-1)) (List.take (pre.length+1) (List.map f (pre++[x])))=[f x]:=by
 rw [show (Int.toNat (((pre.length+1:Nat):Int)-1))=pre.length by omega,List.take_of_length_le (by simp),List.map_append,List.drop_append_of_le_length (by simp),List.drop_eq_nil_of_le (by simp)]
 rfl
theorem takeA1 (pre:List α) (x:α) (f:α→V):List.take (Int.toNat (((pre.length+1:Nat):Int)-1)) (List.map f (pre++[x]))=pre.map f:=by
 rw [show (Int.toNat (((pre.length+1:Nat):Int)-1))=pre.length by omega,List.map_append,List.take_append_of_le_length (by simp),List.take_of_length_le (by simp)]
theorem tailA2 (pre:List α) (x y:α) (f:α→V):List.drop (Int.toNat (((pre.length+2:Nat):Int)-2)) (List.take (pre.length+2) (List.map f (pre++[x,y])))=[f x,f y]:=by
 rw [show (Int.toNat (((pre.length+2:Nat):Int)-2))=pre.length by omega,List.take_of_length_le (by simp),List.map_append,List.drop_append_of_le_length (by simp),List.drop_eq_nil_of_le (by simp)]
 rfl
theorem takeA2 (pre:List α) (x y:α) (f:α→V):List.take (Int.toNat (((pre.length+2:Nat):Int)-2)) (List.map f (pre++[x,y]))=pre.map f:=by
 rw [show (Int.toNat (((pre.length+2:Nat):Int)-2))=pre.length by omega,List.map_append,List.take_append_of_le_length (by simp),List.take_of_length_le (by simp)]
end
abbrev H24:List Blk:=[.cells [.int .u8 0,.bool false,.int .i64 0,.str eT] 28]
abbrev K24:List (Nat×Fm):=[(1,.of .keep),(4,.of .keep),(5,.of (.lin 28 4)),(11,.of .keep),(12,.of .keep),(13,.of .keep)]
abbrev S24 (l:List Stp) (row st:List Vl) (i:Nat):St:=mkSt 47 [(1,eRow row),(4,.ptr 0 0),(5,.lin true 28 4 (st.map eV)),(11,eSteps l),(12,.int .i64 (l.length:Int)),(13,.int .i64 (i:Int))] H24
abbrev F24 (fin:List Vl):St:=mkSt 47 [(4,.ptr 0 0),(5,.lin true 28 4 (fin.map eV))] H24
abbrev E24:List (Nat×Fm):=[(4,.of .keep),(5,.of (.lin 28 4))]
theorem v24_1 (l:List Stp) (row pre fin:List Vl) (x v:Vl) (i:Nat) (s:Stp) (hb:l.length≤64) (hst:pre.length+1≤i) (hs:l[i]?=some s) (hf:FineS s) (h6:TkOk s) (h7:7≤s.k) (h8:s.k≤10) (hx:Fv x) (hv:step1 s x=v)
  (ih:LoopK C1 29 24 K24 (S24 l row (pre++[v]) (i+1)) (.exit 0) (F24 fin)):LoopK C1 29 24 K24 (S24 l row (pre++[x]) i) (.exit 0) (F24 fin):=by
 have hi:=(List.getElem?_eq_some_iff.1 hs).1
 have ht:=takes2_sp s hf (by omega)
 have e1:tkN s=1:=by unfold tkN;rw [if_neg (by simpa using h6),if_neg (by omega),if_pos (by omega)]
 have e2:tkOk s=true:=by unfold tkOk;simpa using h6
 rw [e1,e2] at ht
 have hk2:=step21_sp s row x hx h7 h8
 rw [hv] at hk2
 unfold S24 at ih
 rw [List.map_append] at ih
 simp only [List.map_cons,List.map_nil] at ih
 by_cases hne:pre=[]
 ·subst hne
  refine loop_tree draws (rd:=true) (kn:=K24) (ke:=E24) (
   .rw 8014 [] [(14,Vb (decide ((↑i:Int)<(↑(List.length l):Int))),Vb true)]<|.opt 15 (idx (List.map eS l) (↑i:Int)) (eS s)<|.rw 8019 [] [(19,Vb (Stp.k s !=(6:Int)),Vb true)]<|.call 22 (66) ([eS s]) ([]) (Fr (V.tup [Vi (1:Int),Vb true]) [])<|.call 34 (69) ([eS s,eRow row,eVs [x]]) ([]) (Fr (eV v) [])<|.rw 8043 [] [(43,Vi (IntKind.wrap IntKind.i64 ((↑i:Int)+(1:Int))),Vi (↑(i+1):Int))]<|.to 24000 ([.cut 1])<|.ret (.normal,mkSt 47 [(1,eRow row),(4,V.ptr 0 0),(5,V.lin true 28 4 (List.map eV []++[eV v])),(11,eSteps l),(12,Vi (↑(List.length l):Int)),(13,Vi (↑(i+1):Int))] H24)) (by kernel_rfl) ?_
  exact ⟨⟨tv,cb (by simp<;>omega),tv⟩,(idx_map _ hs),⟨tv,cb (by simp<;>omega),tv⟩,(Sp.fact (ht)),(Sp.fact (hk2)),⟨tv,by simp (disch:=omega) only [cast_succ,wrap_i64],tv⟩,(ih)⟩
 ·refine loop_tree draws (rd:=true) (kn:=K24) (ke:=E24) (
   .rw 8014 [] [(14,Vb (decide ((↑i:Int)<(↑(List.length l):Int))),Vb true)]<|.opt 15 (idx (List.map eS l) (↑i:Int)) (eS s)<|.rw 8019 [] [(19,Vb (Stp.k s !=(6:Int)),Vb true)]<|.call 22 (66) ([eS s]) ([]) (Fr (V.tup [Vi (1:Int),Vb true]) [])<|.rw 8026 [] [(26,Vi (↑(List.length (List.map eV (pre++[x]))):Int),Vi (↑(List.length pre+1):Int))]<|.rw 8028 [] [(28,Vi (IntKind.wrap IntKind.i64 ((↑(List.length pre+1):Int)-(1:Int))),Vi ((↑(List.length pre+1):Int)-(1:Int)))]<|.chk 33 (decide ((0:Int)≤(↑(List.length pre+1):Int)-(1:Int)∧(↑(List.length pre+1):Int)-(1:Int)≤(↑(List.length (List.map eV (pre++[x]))):Int)∧(↑(List.length (List.map eV (pre++[x]))):Int)≤(↑(List.length (List.map eV (pre++[x]))):Int)))<|.rw 8033 [] [(33,V.imm false 4 (List.drop (Int.toNat ((↑(List.length pre+1):Int)-(1:Int))) (List.take (Int.toNat (↑(List.length (List.map eV (pre++[x]))):Int)) (List.map eV (pre++[x])))),V.imm false 4 [eV x])]<|.call 34 (69) ([eS s,eRow row,eVs [x]]) ([]) (Fr (eV v) [])<|.chk 38 (decide ((0:Int)≤(0:Int)∧(0:Int)≤(↑(List.length pre+1):Int)-(1:Int)∧(↑(List.length pre+1):Int)-(1:Int)≤(↑(List.length (List.map eV (pre++[x]))):Int)))<|.rw 8038 [] [(38,V.imm false 4 (List.drop 0 (List.take (Int.toNat ((↑(List.length pre+1):Int)-(1:Int))) (List.map eV (pre++[x])))),V.imm false 4 (List.map eV pre))]<|.ff 39 (List.isEmpty (List.map eV pre))<|.chk 39 (decide ((0+List.length (List.map eV pre))*32≤140737488355328))<|.rw 8039 [] [(39,V.lin true 28 4 ([]++List.map eV pre),V.lin true 28 4 (List.map eV pre))]<|.chk 42 (decide ((List.length (List.map eV pre)+1)*32≤140737488355328))<|.rw 8043 [] [(43,Vi (IntKind.wrap IntKind.i64 ((↑i:Int)+(1:Int))),Vi (↑(i+1):Int))]<|.to 24000 ([.cut 1])<|.ret (.normal,mkSt 47 [(1,eRow row),(4,V.ptr 0 0),(5,V.lin true 28 4 (List.map eV pre++[eV v])),(11,eSteps l),(12,Vi (↑(List.length l):Int)),(13,Vi (↑(i+1):Int))] H24)) (by kernel_rfl) ?_
  exact ⟨⟨tv,cb (by simp<;>omega),tv⟩,(idx_map _ hs),⟨tv,cb (by simp<;>omega),tv⟩,(Sp.fact (ht)),⟨tv,by simp (disch:=omega) only [List.length_map,List.length_append,List.length_cons,List.length_nil,Nat.zero_add],tv⟩,⟨tv,by simp (disch:=omega) only [wrap_i64],tv⟩,by simp<;>omega,⟨tv,by simp (disch:=omega) only [List.length_map,List.length_append,List.length_cons,List.length_nil,Nat.zero_add,Int.toNat_natCast,tailA1],tv⟩,(Sp.fact (hk2)),by simp<;>omega,⟨tv,by simp (disch:=omega) only [takeA1,List.drop_zero],tv⟩,by simp [hne],by simp<;>omega,⟨tv,by simp (disch:=omega) only [List.nil_append],tv⟩,by simp<;>omega,⟨tv,by simp (disch:=omega) only [cast_succ,wrap_i64],tv⟩,(ih)⟩
theorem v24_2 (l:List Stp) (row pre fin:List Vl) (x y v:Vl) (i:Nat) (s:Stp) (hb:l.length≤64) (hst:pre.length+2≤i) (hs:l[i]?=some s) (hf:FineS s) (h6:TkOk s) (h7:11≤s.k) (h8:s.k≤21) (hx:Fv x) (hy:Fv y) (hv:step2 s x y=v)
   (ih:LoopK C1 29 24 K24 (S24 l row (pre++[v]) (i+1)) (.exit 0) (F24 fin)):LoopK C1 29 24 K24 (S24 l row (pre++[x,y]) i) (.exit 0) (F24 fin):=by
 have hi:=(List.getElem?_eq_some_iff.1 hs).1
 have ht:=takes2_sp s hf (by omega)
 have e1:tkN s=2:=by unfold tkN;rw [if_neg (by simpa using h6),if_neg (by omega),if_neg (by omega)]
 have e2:tkOk s=true:=by unfold tkOk;simpa using h6
 rw [e1,e2] at ht
 have hk2:=step22_sp s row x y hx hy h7 h8
 rw [hv] at hk2
 unfold S24 at ih
 rw [List.map_append] at ih
 simp only [List.map_cons,List.map_nil] at ih
 by_cases hne:pre=[]
 ·subst hne
  refine loop_tree draws (rd:=true) (kn:=K24) (ke:=E24) (
   .rw 8014 [] [(14,Vb (decide ((↑i:Int)<(↑(List.length l):Int))),Vb true)]<|.opt 15 (idx (List.map eS l) (↑i:Int)) (eS s)<|.rw 8019 [] [(19,Vb (Stp.k s !=(6:Int)),Vb true)]<|.call 22 (66) ([eS s]) ([]) (Fr (V.tup [Vi (2:Int),Vb true]) [])<|.call 34 (69) ([eS s,eRow row,eVs [x,y]]) ([]) (Fr (eV v) [])<|.rw 8043 [] [(43,Vi (IntKind.wrap IntKind.i64 ((↑i:Int)+(1:Int))),Vi (↑(i+1):Int))]<|.to 24000 ([.cut 1])<|.ret (.normal,mkSt 47 [(1,eRow row),(4,V.ptr 0 0),(5,V.lin true 28 4 (List.map eV []++[eV v])),(11,eSteps l),(12,Vi (↑(List.length l):Int)),(13,Vi (↑(i+1):Int))] H24)) (by kernel_rfl) ?_
  exact ⟨⟨tv,cb (by simp<;>omega),tv⟩,(idx_map _ hs),⟨tv,cb (by simp<;>omega),tv⟩,(Sp.fact (ht)),(Sp.fact (hk2)),⟨tv,by simp (disch:=omega) only [cast_succ,wrap_i64],tv⟩,(ih)⟩
 ·refine loop_tree draws (rd:=true) (kn:=K24) (ke:=E24) (
   .rw 8014 [] [(14,Vb (decide ((↑i:Int)<(↑(List.length l):Int))),Vb true)]<|.opt 15 (idx (List.map eS l) (↑i:Int)) (eS s)<|.rw 8019 [] [(19,Vb (Stp.k s !=(6:Int)),Vb true)]<|.call 22 (66) ([eS s]) ([]) (Fr (V.tup [Vi (2:Int),Vb true]) [])<|.rw 8026 [] [(26,Vi (↑(List.length (List.map eV (pre++[x,y]))):Int),Vi (↑(List.length pre+(1+1)):Int))]<|.rw 8028 [] [(28,Vi (IntKind.wrap IntKind.i64 ((↑(List.length pre+2):Int)-(2:Int))),Vi ((↑(List.length pre+2):Int)-(2:Int)))]<|.chk 33 (decide ((0:Int)≤(↑(List.length pre+2):Int)-(2:Int)∧(↑(List.length pre+2):Int)-(2:Int)≤(↑(List.length (List.map eV (pre++[x,y]))):Int)∧(↑(List.length (List.map eV (pre++[x,y]))):Int)≤(↑(List.length (List.map eV (pre++[x,y]))):Int)))<|.rw 8033 [] [(33,V.imm false 4 (List.drop (Int.toNat ((↑(List.length pre+2):Int)-(2:Int))) (List.take (Int.toNat (↑(List.length (List.map eV (pre++[x,y]))):Int)) (List.map eV (pre++[x,y])))),V.imm false 4 [eV x,eV y])]<|.call 34 (69) ([eS s,eRow row,eVs [x,y]]) ([]) (Fr (eV v) [])<|.chk 38 (decide ((0:Int)≤(0:Int)∧(0:Int)≤(↑(List.length pre+2):Int)-(2:Int)∧(↑(List.length pre+2):Int)-(2:Int)≤(↑(List.length (List.map eV (pre++[x,y]))):Int)))<|.rw 8038 [] [(38,V.imm false 4 (List.drop 0 (List.take (Int.toNat ((↑(List.length pre+2):Int)-(2:Int))) (List.map eV (pre++[x,y])))),V.imm false 4 (List.map eV pre))]<|.ff 39 (List.isEmpty (List.map eV pre))<|.chk 39 (decide ((0+List.length (List.map eV pre))*32≤140737488355328))<|.rw 8039 [] [(39,V.lin true 28 4 ([]++List.map eV pre),V.lin true 28 4 (List.map eV pre))]<|.chk 42 (decide ((List.length (List.map eV pre)+1)*32≤140737488355328))<|.rw 8043 [] [(43,Vi (IntKind.wrap IntKind.i64 ((↑i:Int)+(1:Int))),Vi (↑(i+1):Int))]<|.to 24000 ([.cut 1])<|.ret (.normal,mkSt 47 [(1,eRow row),(4,V.ptr 0 0),(5,V.lin true 28 4 (List.map eV pre++[eV v])),(11,eSteps l),(12,Vi (↑(List.length l):Int)),(13,Vi (↑(i+1):Int))] H24)) (by kernel_rfl) ?_
  exact ⟨⟨tv,cb (by simp<;>omega),tv⟩,(idx_map _ hs),⟨tv,cb (by simp<;>omega),tv⟩,(Sp.fact (ht)),⟨tv,by simp (disch:=omega) only [List.length_map,List.length_append,List.length_cons,List.length_nil,Nat.zero_add],tv⟩,⟨tv,by simp (disch:=omega) only [wrap_i64],tv⟩,by simp<;>omega,⟨tv,by simp (disch:=omega) only [List.length_map,List.length_append,List.length_cons,List.length_nil,Nat.zero_add,Int.toNat_natCast,tailA2],tv⟩,(Sp.fact (hk2)),by simp<;>omega,⟨tv,by simp (disch:=omega) only [takeA2,List.drop_zero],tv⟩,by simp [hne],by simp<;>omega,⟨tv,by simp (disch:=omega) only [List.nil_append],tv⟩,by simp<;>omega,⟨tv,by simp (disch:=omega) only [cast_succ,wrap_i64],tv⟩,(ih)⟩
theorem v24_0 (l:List Stp) (row pre fin:List Vl) (v:Vl) (i:Nat) (s:Stp) (hb:l.length≤64) (hst:pre.length≤i) (hs:l[i]?=some s) (hf:FineS s) (h6:TkOk s) (h7:1≤s.k) (h8:s.k≤5) (hv:step0 s=v)
   (ih:LoopK C1 29 24 K24 (S24 l row (pre++[v]) (i+1)) (.exit 0) (F24 fin)):LoopK C1 29 24 K24 (S24 l row pre i) (.exit 0) (F24 fin):=by
 have hi:=(List.getElem?_eq_some_iff.1 hs).1
 have ht:=takes2_sp s hf (by omega)
 have e1:tkN s=0:=by unfold tkN;rw [if_neg (by simpa using h6),if_pos (by omega)]
 have e2:tkOk s=true:=by unfold tkOk;simpa using h6
 rw [e1,e2] at ht
 have hk2:=step20_sp s row [] h7 h8
 rw [hv] at hk2
 unfold S24 at ih
 rw [List.map_append] at ih
 simp only [List.map_cons,List.map_nil] at ih
 by_cases hne:pre=[]
 ·subst hne
  refine loop_tree draws (rd:=true) (kn:=K24) (ke:=E24) (
   .rw 8014 [] [(14,Vb (decide ((↑i:Int)<(↑(List.length l):Int))),Vb true)]<|.opt 15 (idx (List.map eS l) (↑i:Int)) (eS s)<|.rw 8019 [] [(19,Vb (Stp.k s !=(6:Int)),Vb true)]<|.call 22 (66) ([eS s]) ([]) (Fr (V.tup [Vi (0:Int),Vb true]) [])<|.call 34 (69) ([eS s,eRow row,eVs []]) ([]) (Fr (eV v) [])<|.rw 8043 [] [(43,Vi (IntKind.wrap IntKind.i64 ((↑i:Int)+(1:Int))),Vi (↑(i+1):Int))]<|.to 24000 ([.cut 1])<|.ret (.normal,mkSt 47 [(1,eRow row),(4,V.ptr 0 0),(5,V.lin true 28 4 (List.map eV []++[eV v])),(11,eSteps l),(12,Vi (↑(List.length l):Int)),(13,Vi (↑(i+1):Int))] H24)) (by kernel_rfl) ?_
  exact ⟨⟨tv,cb (by simp<;>omega),tv⟩,(idx_map _ hs),⟨tv,cb (by simp<;>omega),tv⟩,(Sp.fact (ht)),(Sp.fact (hk2)),⟨tv,by simp (disch:=omega) only [cast_succ,wrap_i64],tv⟩,(ih)⟩
 ·refine loop_tree draws (rd:=true) (kn:=K24) (ke:=E24) (
   .rw 8014 [] [(14,Vb (decide ((↑i:Int)<(↑(List.length l):Int))),Vb true)]<|.opt 15 (idx (List.map eS l) (↑i:Int)) (eS s)<|.rw 8019 [] [(19,Vb (Stp.k s !=(6:Int)),Vb true)]<|.call 22 (66) ([eS s]) ([]) (Fr (V.tup [Vi (0:Int),Vb true]) [])<|.rw 8026 [] [(26,Vi (↑(List.length (List.map eV pre)):Int),Vi (↑(List.length pre):Int))]<|.rw 8028 [] [(28,Vi (IntKind.wrap IntKind.i64 ((↑(List.length pre):Int)-(0:Int))),Vi ((↑(List.length pre):Int)-(0:Int)))]<|.chk 33 (decide ((0:Int)≤(↑(List.length pre):Int)-(0:Int)∧(↑(List.length pre):Int)-(0:Int)≤(↑(List.length (List.map eV pre)):Int)∧(↑(List.length (List.map eV pre)):Int)≤(↑(List.length (List.map eV pre)):Int)))<|.rw 8033 [] [(33,V.imm false 4 (List.drop (Int.toNat ((↑(List.length pre):Int)-(0:Int))) (List.take (Int.toNat (↑(List.length (List.map eV pre)):Int)) (List.map eV pre))),V.imm false 4 [])]<|.call 34 (69) ([eS s,eRow row,eVs []]) ([]) (Fr (eV v) [])<|.chk 38 (decide ((0:Int)≤(0:Int)∧(0:Int)≤(↑(List.length pre):Int)-(0:Int)∧(↑(List.length pre):Int)-(0:Int)≤(↑(List.length (List.map eV pre)):Int)))<|.rw 8038 [] [(38,V.imm false 4 (List.drop 0 (List.take (Int.toNat ((↑(List.length pre):Int)-(0:Int))) (List.map eV pre))),V.imm false 4 (List.map eV pre))]<|.ff 39 (List.isEmpty (List.map eV pre))<|.chk 39 (decide ((0+List.length (List.map eV pre))*32≤140737488355328))<|.rw 8039 [] [(39,V.lin true 28 4 ([]++List.map eV pre),V.lin true 28 4 (List.map eV pre))]<|.chk 42 (decide ((List.length (List.map eV pre)+1)*32≤140737488355328))<|.rw 8043 [] [(43,Vi (IntKind.wrap IntKind.i64 ((↑i:Int)+(1:Int))),Vi (↑(i+1):Int))]<|.to 24000 ([.cut 1])<|.ret (.normal,mkSt 47 [(1,eRow row),(4,V.ptr 0 0),(5,V.lin true 28 4 (List.map eV pre++[eV v])),(11,eSteps l),(12,Vi (↑(List.length l):Int)),(13,Vi (↑(i+1):Int))] H24)) (by kernel_rfl) ?_
  exact ⟨⟨tv,cb (by simp<;>omega),tv⟩,(idx_map _ hs),⟨tv,cb (by simp<;>omega),tv⟩,(Sp.fact (ht)),⟨tv,by simp (disch:=omega) only [List.length_map],tv⟩,⟨tv,by simp (disch:=omega) only [wrap_i64],tv⟩,by simp [hne],⟨tv,by simp (disch:=omega) only [List.length_map,Int.toNat_natCast,tailA0],tv⟩,(Sp.fact (hk2)),by simp [hne],⟨tv,by simp (disch:=omega) only [takeA0,List.drop_zero],tv⟩,by simp [hne],by simp<;>omega,⟨tv,by simp (disch:=omega) only [List.nil_append],tv⟩,by simp<;>omega,⟨tv,by simp (disch:=omega) only [cast_succ,wrap_i64],tv⟩,(ih)⟩
theorem v24_col (l:List Stp) (row pre fin:List Vl) (v:Vl) (i:Nat) (s:Stp) (hb:l.length≤64) (hst:pre.length≤i) (hs:l[i]?=some s) (h6:s.k=6) (m:Nat) (hn:s.n=(m:Int)) (hv:row[m]?=some v)
   (ih:LoopK C1 29 24 K24 (S24 l row (pre++[v]) (i+1)) (.exit 0) (F24 fin)):LoopK C1 29 24 K24 (S24 l row pre i) (.exit 0) (F24 fin):=by
 have hi:=(List.getElem?_eq_some_iff.1 hs).1
 have hk2:=step2C_sp s row [] h6 m v hn hv
 unfold S24 at ih
 rw [List.map_append] at ih
 simp only [List.map_cons,List.map_nil] at ih
 by_cases hne:pre=[]
 ·subst hne
  refine loop_tree draws (rd:=true) (kn:=K24) (ke:=E24) (
   .rw 8014 [] [(14,Vb (decide ((↑i:Int)<(↑(List.length l):Int))),Vb true)]<|.opt 15 (idx (List.map eS l) (↑i:Int)) (eS s)<|.rw 8019 [] [(19,Vb (Stp.k s !=(6:Int)),Vb false)]<|.call 34 (69) ([eS s,eRow row,eVs []]) ([]) (Fr (eV v) [])<|.rw 8043 [] [(43,Vi (IntKind.wrap IntKind.i64 ((↑i:Int)+(1:Int))),Vi (↑(i+1):Int))]<|.to 24000 ([.cut 1])<|.ret (.normal,mkSt 47 [(1,eRow row),(4,V.ptr 0 0),(5,V.lin true 28 4 (List.map eV []++[eV v])),(11,eSteps l),(12,Vi (↑(List.length l):Int)),(13,Vi (↑(i+1):Int))] H24)) (by kernel_rfl) ?_
  exact ⟨⟨tv,cb (by simp<;>omega),tv⟩,(idx_map _ hs),⟨tv,cb (by simp<;>omega),tv⟩,(Sp.fact (hk2)),⟨tv,by simp (disch:=omega) only [cast_succ,wrap_i64],tv⟩,(ih)⟩
 ·refine loop_tree draws (rd:=true) (kn:=K24) (ke:=E24) (
   .rw 8014 [] [(14,Vb (decide ((↑i:Int)<(↑(List.length l):Int))),Vb true)]<|.opt 15 (idx (List.map eS l) (↑i:Int)) (eS s)<|.rw 8019 [] [(19,Vb (Stp.k s !=(6:Int)),Vb false)]<|.rw 8026 [] [(26,Vi (↑(List.length (List.map eV pre)):Int),Vi (↑(List.length pre):Int))]<|.rw 8028 [] [(28,Vi (IntKind.wrap IntKind.i64 ((↑(List.length pre):Int)-(0:Int))),Vi ((↑(List.length pre):Int)-(0:Int)))]<|.chk 33 (decide ((0:Int)≤(↑(List.length pre):Int)-(0:Int)∧(↑(List.length pre):Int)-(0:Int)≤(↑(List.length (List.map eV pre)):Int)∧(↑(List.length (List.map eV pre)):Int)≤(↑(List.length (List.map eV pre)):Int)))<|.rw 8033 [] [(33,V.imm false 4 (List.drop (Int.toNat ((↑(List.length pre):Int)-(0:Int))) (List.take (Int.toNat (↑(List.length (List.map eV pre)):Int)) (List.map eV pre))),V.imm false 4 [])]<|.call 34 (69) ([eS s,eRow row,eVs []]) ([]) (Fr (eV v) [])<|.chk 38 (decide ((0:Int)≤(0:Int)∧(0:Int)≤(↑(List.length pre):Int)-(0:Int)∧(↑(List.length pre):Int)-(0:Int)≤(↑(List.length (List.map eV pre)):Int)))<|.rw 8038 [] [(38,V.imm false 4 (List.drop 0 (List.take (Int.toNat ((↑(List.length pre):Int)-(0:Int))) (List.map eV pre))),V.imm false 4 (List.map eV pre))]<|.ff 39 (List.isEmpty (List.map eV pre))<|.chk 39 (decide ((0+List.length (List.map eV pre))*32≤140737488355328))<|.rw 8039 [] [(39,V.lin true 28 4 ([]++List.map eV pre),V.lin true 28 4 (List.map eV pre))]<|.chk 42 (decide ((List.length (List.map eV pre)+1)*32≤140737488355328))<|.rw 8043 [] [(43,Vi (IntKind.wrap IntKind.i64 ((↑i:Int)+(1:Int))),Vi (↑(i+1):Int))]<|.to 24000 ([.cut 1])<|.ret (.normal,mkSt 47 [(1,eRow row),(4,V.ptr 0 0),(5,V.lin true 28 4 (List.map eV pre++[eV v])),(11,eSteps l),(12,Vi (↑(List.length l):Int)),(13,Vi (↑(i+1):Int))] H24)) (by kernel_rfl) ?_
  exact ⟨⟨tv,cb (by simp<;>omega),tv⟩,(idx_map _ hs),⟨tv,cb (by simp<;>omega),tv⟩,⟨tv,by simp (disch:=omega) only [List.length_map],tv⟩,⟨tv,by simp (disch:=omega) only [wrap_i64],tv⟩,by simp [hne],⟨tv,by simp (disch:=omega) only [List.length_map,Int.toNat_natCast,tailA0],tv⟩,(Sp.fact (hk2)),by simp [hne],⟨tv,by simp (disch:=omega) only [takeA0,List.drop_zero],tv⟩,by simp [hne],by simp<;>omega,⟨tv,by simp (disch:=omega) only [List.nil_append],tv⟩,by simp<;>omega,⟨tv,by simp (disch:=omega) only [cast_succ,wrap_i64],tv⟩,(ih)⟩
end Go.Fw
set_option maxHeartbeats 20000000
namespace Go.Fw
open Go.Proofs
def Gv (v:Vl):Prop:=Fv v∧Bare v
theorem eT_nil:eT.toList=[]:=toList_nil rfl
theorem eT_size:eT.size=0:=rfl
theorem i64_z:I64 0:=by unfold I64;omega
theorem gv_null:Gv vNull:=by
 have e:=eT_nil
 refine ⟨⟨⟨?_,?_,?_⟩,i64_z,?_⟩,?_⟩
 ·show (0:Nat)≤_;omega
 ·show (0:Int)≤0;omega
 ·show (0:Int)≤255;omega
 ·show (0:Nat)≤_;omega
 ·unfold Bare;simp [e]
theorem gv_bool (b:Bool):Gv (vBool b):=by
 have e:=eT_nil
 refine ⟨⟨⟨?_,?_,?_⟩,i64_z,?_⟩,?_⟩
 ·show (0:Nat)≤_;omega
 ·show (0:Int)≤1;omega
 ·show (1:Int)≤255;omega
 ·show (0:Nat)≤_;omega
 ·unfold Bare;simp [e]
theorem gv_int (n:Int) (h:I64 n):Gv (vInt n):=by
 have e:=eT_nil
 refine ⟨⟨⟨?_,?_,?_⟩,h,?_⟩,?_⟩
 ·show (0:Nat)≤_;omega
 ·show (0:Int)≤2;omega
 ·show (2:Int)≤255;omega
 ·show (0:Nat)≤_;omega
 ·unfold Bare;simp [e]
theorem gv_text (s:ByteArray) (h:s.size≤256):Gv (vText s):=by
 refine ⟨⟨⟨?_,?_,?_⟩,i64_z,?_⟩,?_⟩
 ·show s.size≤_;omega
 ·show (0:Int)≤3;omega
 ·show (3:Int)≤255;omega
 ·show s.size≤_;omega
 ·unfold Bare;simp
theorem gv_nV (x:Int):Gv (nV x):=by
 unfold nV
 split
 ·exact gv_null
 ·exact gv_int _ (by unfold I64;omega)
theorem gv_step0 (s:Stp) (hn:I64 s.n) (h:TkOk s) (h5:s.k≤5):Gv (step0 s):=by
 unfold step0
 split
 ·exact gv_null
 split
 ·exact gv_bool _
 split
 ·exact gv_int _ hn
 ·exact gv_text _ (h.2.2.2.2 (by have:=h.1;omega)).1
theorem gv_op1 (k:Int) (x:Vl) (hx:Fv x):Gv (op1 k x):=by
 unfold op1
 split
 ·exact gv_nV _
 split
 ·exact gv_bool _
 ·refine gv_int _ ?_
  have:=runesS_len x.s
  have:=hx.2.2
  unfold I64;omega
theorem gv_op2 (k:Int) (x y:Vl):Gv (op2 k x y):=by
 unfold op2
 split
 ·exact gv_nV _
 split
 ·exact gv_nV _
 split
 ·exact gv_nV _
 ·exact gv_bool _
theorem gv_step1 (s:Stp) (x:Vl) (hx:Fv x):Gv (step1 s x):=by
 unfold step1
 split
 ·exact gv_bool _
 split
 ·exact gv_null
 ·exact gv_op1 _ _ hx
theorem gv_step2 (s:Stp) (x y:Vl):Gv (step2 s x y):=by
 unfold step2
 split
 ·unfold logV
  split
  ·exact gv_bool _
  split
  ·exact gv_null
  ·exact gv_bool _
 split
 ·exact gv_null
 ·exact gv_op2 _ _ _
def rowV (row:List Vl) (n:Int):Vl:=(row[n.toNat]?).getD vNull
def valL (s:Stp):List Vl→Vl
 | []=>step0 s
 | [x]=>step1 s x
 | [x,y]=>step2 s x y
 | _=>vNull
def valGo (row:List Vl):List Stp→List Vl→List Vl
 | [],st=>st
 | s::r,st=>if s.k=6 then valGo row r (st++[rowV row s.n]) else valGo row r (st.take (st.length-(tkN s).toNat)++[valL s (st.drop (st.length-(tkN s).toNat))])
theorem valGo_at (row:List Vl) (l:List Stp) (i:Nat) (s:Stp) (h:l[i]?=some s) (st:List Vl):valGo row (l.drop i) st=if s.k=6 then valGo row (l.drop (i+1)) (st++[rowV row s.n]) else valGo row (l.drop (i+1)) (st.take (st.length-(tkN s).toNat)++[valL s (st.drop (st.length-(tkN s).toNat))]):=by
 obtain ⟨h1,rfl⟩:=List.getElem?_eq_some_iff.1 h
 rw [List.drop_eq_getElem_cons h1]
 rfl
theorem split1v (st:List Vl) (h:1≤st.length):∃ pre x,st=pre++[x]:=by
 have hne:st≠[]:=by intro e;rw [e] at h;simp at h
 exact ⟨st.dropLast,st.getLast hne,(List.dropLast_concat_getLast hne).symm⟩
theorem split2v (st:List Vl) (h:2≤st.length):∃ pre x y,st=pre++[x,y]:=by
 obtain ⟨p1,y,rfl⟩:=split1v st (by omega)
 obtain ⟨pre,x,rfl⟩:=split1v p1 (by simp at h;omega)
 exact ⟨pre,x,y,by simp⟩
theorem drop_prev (pre a:List Vl) (n:Nat) (h:a.length=n):(pre++a).drop ((pre++a).length-n)=a∧(pre++a).take ((pre++a).length-n)=pre:=by
 have e:(pre++a).length-n=pre.length:=by simp;omega
 rw [e]
 exact ⟨by simp,by simp⟩
theorem v24_end (l:List Stp) (row st:List Vl) (i:Nat) (hi:i=l.length) (hb:l.length≤64):LoopK C1 29 24 K24 (S24 l row st i) (.exit 0) (F24 st):=by
 refine loop_tree draws (rd:=true) (kn:=K24) (ke:=E24) (
  .rw 8014 [] [(14,Vb (decide ((↑i:Int)<(↑(List.length l):Int))),Vb false)]<|.to 24001 ([.cut 1])<|.ret ((Ex.exit 0,mkSt 47 [(4,V.ptr 0 0),(5,V.lin true 28 4 (List.map eV st))] [Blk.cells [Vu (0:Int),Vb false,Vi (0:Int),V.str (ByteArray.mk #[])] 28]))) (by kernel_rfl) ?_
 exact ⟨⟨tv,cb (by simp<;>omega),tv⟩,rfl,rfl⟩
structure RoundsV (l:List Stp) (row:List Vl) (J:List Vl→Nat→List Vl→Prop):Prop where
 end_:∀ st i,i=l.length→J st i st
 col:∀ st fin i s v (m:Nat),st.length≤i→l[i]?=some s→s.k=6→s.n=(m:Int)→row[m]?=some v→J (st++[v]) (i+1) fin→J st i fin
 k0:∀ st fin i s,st.length≤i→l[i]?=some s→TkOk s→s.k≤5→J (st++[step0 s]) (i+1) fin→J st i fin
 k1:∀ pre fin i s x,pre.length+1≤i→l[i]?=some s→TkOk s→7≤s.k→s.k≤10→Gv x→J (pre++[step1 s x]) (i+1) fin→J (pre++[x]) i fin
 k2:∀ pre fin i s x y,pre.length+2≤i→l[i]?=some s→TkOk s→11≤s.k→s.k≤21→Gv x→Gv y→J (pre++[step2 s x y]) (i+1) fin→J (pre++[x,y]) i fin
theorem roundsV (l:List Stp) (row:List Vl) (J:List Vl→Nat→List Vl→Prop) (H:RoundsV l row J) (hn:∀ s∈l,I64 s.n) (hx:∀ s∈l,ColOk row.length s) (hr:∀ v∈row,Gv v) (m:Int):∀ k i (st:List Vl),i+k=l.length→st.length≤i→(∀ v∈st,Gv v)→rightGo (l.drop i) (st.length:Int)=some m →
  ((valGo row (l.drop i) st).length:Int)=m∧(∀ v∈valGo row (l.drop i) st,Gv v)∧J st i (valGo row (l.drop i) st)
 | 0,i,st,hi,hst,hg,hm=>by
  rw [List.drop_eq_nil_of_le (by omega)] at hm ⊢
  cases hm
  exact ⟨rfl,hg,H.end_ st i (by omega)⟩
 | k+1,i,st,hi,hst,hg,hm=>by
  obtain ⟨s,hs⟩:∃ s,l[i]?=some s:=⟨l[i]'(by omega),List.getElem?_eq_getElem (by omega)⟩
  have ns:=hn s (List.mem_of_getElem? hs)
  have cs:=hx s (List.mem_of_getElem? hs)
  rw [rightGo_at l i s hs] at hm
  have hc:¬(tOk s=false∨(st.length:Int)<tN s):=fun hc=>by rw [if_pos hc] at hm;cases hm
  rw [if_neg hc] at hm
  rw [valGo_at row l i s hs st]
  have snoc:∀ (p:List Vl) (x:Vl),(∀ v∈p,Gv v)→Gv x→∀ v∈p++[x],Gv v:=fun p x h1 h2 v hv=>by
   rcases List.mem_append.1 hv with h | h
   ·exact h1 v h
   ·rw [List.mem_singleton.1 h];exact h2
  by_cases h6:s.k=6
  ·rw [if_pos h6]
   obtain ⟨_,c1,c2⟩:=cs h6
   obtain ⟨q,hq⟩:∃ q:Nat,s.n=(q:Int):=⟨s.n.toNat,by omega⟩
   obtain ⟨v,hv⟩:∃ v,row[q]?=some v:=⟨row[q]'(by omega),List.getElem?_eq_getElem (by omega)⟩
   have e1:tN s=0:=by unfold tN;rw [if_pos h6]
   have e2:rowV row s.n=v:=by unfold rowV;rw [hq,Int.toNat_natCast,hv];rfl
   rw [e2]
   obtain ⟨i1,i2,i3⟩:=roundsV l row J H hn hx hr m k (i+1) (st++[v]) (by omega) (by simp;omega) (snoc st v hg (hr v (List.mem_of_getElem? hv))) (by rw [e1] at hm;rw [←hm];congr 1;simp)
   exact ⟨i1,i2,H.col st _ i s v q hst hs h6 hq hv i3⟩
  ·rw [if_neg h6]
   have e1:tN s=tkN s:=by unfold tN;rw [if_neg h6]
   have e2:tOk s=tkOk s:=by unfold tOk;rw [if_neg h6]
   rw [e1,e2] at hc
   rw [e1] at hm
   have ho:TkOk s:=by
    cases h:tkOk s with
    | false=>exact absurd (.inl h) hc
    | true=>unfold tkOk at h;simpa using h
   have hnn:tkN s≤(st.length:Int):=by omega
   have hk1:1≤s.k:=ho.1
   have hk2:s.k<22:=ho.2.1
   by_cases h7:s.k<7
   ·have t0:tkN s=0:=by unfold tkN;rw [if_neg (by simpa using ho),if_pos h7]
    rw [t0] at hm ⊢
    obtain ⟨d1,d2⟩:=drop_prev st [] 0 rfl
    rw [List.append_nil] at d1 d2
    rw [show (0:Int).toNat=0 from rfl,d1,d2]
    obtain ⟨i1,i2,i3⟩:=roundsV l row J H hn hx hr m k (i+1) (st++[step0 s]) (by omega) (by simp;omega) (snoc st _ hg (gv_step0 s ns ho (by omega))) (by rw [←hm];congr 1;simp)
    exact ⟨i1,i2,H.k0 st _ i s hst hs ho (by omega) i3⟩
   by_cases h8:s.k≤10
   ·have t1:tkN s=1:=by unfold tkN;rw [if_neg (by simpa using ho),if_neg h7,if_pos h8]
    rw [t1] at hm hnn ⊢
    obtain ⟨pre,x,rfl⟩:=split1v st (by omega)
    obtain ⟨d1,d2⟩:=drop_prev pre [x] 1 rfl
    rw [show (1:Int).toNat=1 from rfl,d1,d2]
    have hst':pre.length+1≤i:=by simpa using hst
    have gx:=hg x (by simp)
    obtain ⟨i1,i2,i3⟩:=roundsV l row J H hn hx hr m k (i+1) (pre++[step1 s x]) (by omega) (by simp;omega) (snoc pre _ (fun v hv=>hg v (by simp [hv])) (gv_step1 s x gx.1)) (by rw [←hm];congr 1;simp)
    exact ⟨i1,i2,H.k1 pre _ i s x hst' hs ho (by omega) h8 gx i3⟩
   ·have t2:tkN s=2:=by unfold tkN;rw [if_neg (by simpa using ho),if_neg h7,if_neg h8]
    rw [t2] at hm hnn ⊢
    obtain ⟨pre,x,y,rfl⟩:=split2v st (by omega)
    obtain ⟨d1,d2⟩:=drop_prev pre [x,y] 2 rfl
    rw [show (2:Int).toNat=2 from rfl,d1,d2]
    have hst':pre.length+2≤i:=by simpa using hst
    have gx:=hg x (by simp)
    have gy:=hg y (by simp)
    obtain ⟨i1,i2,i3⟩:=roundsV l row J H hn hx hr m k (i+1) (pre++[step2 s x y]) (by omega) (by simp;omega) (snoc pre _ (fun v hv=>hg v (by simp [hv])) (gv_step2 s x y)) (by rw [←hm];congr 1;simp;omega)
    exact ⟨i1,i2,H.k2 pre _ i s x y hst' hs ho (by omega) (by omega) gx gy i3⟩
theorem rounds2 (l:List Stp) (row:List Vl) (hb:l.length≤64) (hf:∀ s∈l,FineS s):RoundsV l row (fun st i fin=>LoopK C1 29 24 K24 (S24 l row st i) (.exit 0) (F24 fin)) where
 end_ st i hi:=v24_end l row st i hi hb
 col st fin i s v m h1 h2 h3 h4 h5 ih:=v24_col l row st fin v i s hb h1 h2 h3 m h4 h5 ih
 k0 st fin i s h1 h2 h3 h4 ih:=v24_0 l row st fin _ i s hb h1 h2 (hf s (List.mem_of_getElem? h2)) h3 h3.1 h4 rfl ih
 k1 pre fin i s x h1 h2 h3 h4 h5 gx ih:=v24_1 l row pre fin x _ i s hb h1 h2 (hf s (List.mem_of_getElem? h2)) h3 h4 h5 gx.1 rfl ih
 k2 pre fin i s x y h1 h2 h3 h4 h5 gx gy ih:=v24_2 l row pre fin x y _ i s hb h1 h2 (hf s (List.mem_of_getElem? h2)) h3 h4 h5 gx.1 gy.1 rfl ih
def valR (l:List Stp) (row:List Vl):Vl:=(valGo row l []).headD vNull
theorem value2_sp (l:List Stp) (row:List Vl) (hf:∀ s∈l,FineS s) (hr:rightB l=true) (hn:∀ s∈l,I64 s.n) (hx:∀ s∈l,ColOk row.length s) (hg:∀ v∈row,Gv v):Sp C1 29 [eSteps l,eRow row] (eV (valR l row)):=by
 unfold rightB at hr
 cases hm:rightGo l 0 with
 | none=>rw [hm] at hr;cases hr
 | some m =>
  rw [hm] at hr
  have hr:m=1∧l.length≤64:=by simpa using hr
  have hb:=hr.2
  obtain ⟨h1,h2,h3⟩:=roundsV l row _ (rounds2 l row hr.2 hf) hn hx hg m l.length 0 [] (by omega) (by simp) (by simp) hm
  rw [List.drop_zero] at h1 h3
  unfold valR
  obtain ⟨x,hx⟩:∃ x,valGo row l []=[x]:=List.length_eq_one_iff.1 (by omega)
  rw [hx] at h3 ⊢
  clear h1 h2 hx
  refine sp_tree draws (dm:=[]) (fs:=[]) (
   .rw 8012 [] [(12,Vi (↑(List.length (List.map eS l)):Int),Vi (↑(List.length l):Int))]<|.loop 24 false (K24) (S24 l row [] 0) (Ex.exit 0) (F24 [x])<|.ret (Fr (V.agg [Vu (Vl.k x),Vb (Vl.b x),Vi (Vl.n x),V.str (Vl.s x)]) [])) (by kernel_rfl) ?_
  exact ⟨⟨tv,by simp (disch:=omega) only [List.length_map],tv⟩,(LoopR.weak (h3)),rfl⟩
end Go.Fw
set_option maxHeartbeats 20000000
namespace Go.Fw
open Go.Proofs
def eqP (v x:Vl):Prop:=v.k=x.k∧v.b=x.b∧v.n=x.n∧v.s.toList=x.s.toList
instance (v x:Vl):Decidable (eqP v x):=by unfold eqP;infer_instance
def idxV (v:Vl):List Vl→Int→Int
 | [],_=>-1
 | x::r,i=>if eqP v x then i else idxV v r (i+1)
abbrev H16 (v:Vl):List Blk:=[.cells [.int .u8 v.k,.bool v.b,.int .i64 v.n,.str v.s] 28]
abbrev K16:List (Nat×Fm):=keeps [0,3,7,8]
abbrev S16 (v:Vl) (l:List Vl) (i:Nat):St:=mkSt 19 [(0,eVs l),(3,.ptr 0 0),(7,.int .i64 (l.length:Int)),(8,.int .i64 (i:Int))] (H16 v)
theorem idv_none (v:Vl) (l:List Vl) (hl:l.length≤2):∀ k i,i+k=l.length→(∀ j x,i≤j→l[j]?=some x→¬eqP v x)→LoopK C1 187 16 K16 (S16 v l i) (.exit 0) (mkSt 19 [] (H16 v))
 | 0,i,h,hn=>by
  refine loop_tree draws (rd:=true) (kn:=K16) (ke:=(keeps [])) (
   .rw 8009 [] [(9,Vb (decide ((↑i:Int)<(↑(List.length l):Int))),Vb false)]<|.ret ((Ex.exit 0,mkSt 19 [] [Blk.cells [Vu (Vl.k v),Vb (Vl.b v),Vi (Vl.n v),V.str (Vl.s v)] 28]))) (by kernel_rfl) ?_
  exact ⟨⟨tv,cb (by simp<;>omega),tv⟩,rfl,rfl⟩
 | k+1,i,h,hn=>by
  have ih:=idv_none v l hl k (i+1) (by omega) (fun j v hj hv=>hn j v (by omega) hv)
  obtain ⟨x,hx⟩:∃ x,l[i]?=some x:=⟨l[i]'(by omega),List.getElem?_eq_getElem (by omega)⟩
  have hk:=hn i x (Nat.le_refl _) hx
  unfold eqP at hk
  refine loop_tree draws (rd:=true) (kn:=K16) (ke:=(keeps [])) (
   .rw 8009 [] [(9,Vb (decide ((↑i:Int)<(↑(List.length l):Int))),Vb true)]<|.opt 14 (idx (List.map eV l) (↑i:Int)) (eV x)<|.rw 8016 [] [(16,Vb (Vl.k v==Vl.k x&&(Vl.b v==Vl.b x&&(Vl.n v==Vl.n x&&(ByteArray.toList (Vl.s v)==ByteArray.toList (Vl.s x)&&true)))),Vb false)]<|.rw 8018 [] [(18,Vi (IntKind.wrap IntKind.i64 ((↑i:Int)+(1:Int))),Vi (↑(i+1):Int))]<|.ret (.normal,S16 v l (i+1))) (by kernel_rfl) ?_
  exact ⟨⟨tv,cb (by grind),tv⟩,(idx_map _ hx),⟨tv,cb (by grind),tv⟩,⟨tv,by simp (disch:=omega) only [cast_succ,wrap_i64],tv⟩,(ih)⟩
theorem idv_some (v:Vl) (l:List Vl) (hl:l.length≤2) (m:Nat):∀ k i,i+k=m→m<l.length→(∀ j x,i≤j→j<m→l[j]?=some x→¬eqP v x)→(∀ x,l[m]?=some x→eqP v x)→LoopK C1 187 16 K16 (S16 v l i) .ret (mkSt 19 [(4,.int .i64 (m:Int))] (H16 v))
 | 0,i,h,hm,hn,he=>by
  obtain ⟨x,hx⟩:∃ x,l[i]?=some x:=⟨l[i]'(by omega),List.getElem?_eq_getElem (by omega)⟩
  have e:i=m:=by omega
  subst e
  have hk:=he x hx
  unfold eqP at hk
  refine loop_tree draws (rd:=true) (kn:=K16) (ke:=(keeps [4])) (
   .rw 8009 [] [(9,Vb (decide ((↑i:Int)<(↑(List.length l):Int))),Vb true)]<|.opt 14 (idx (List.map eV l) (↑i:Int)) (eV x)<|.rw 8016 [] [(16,Vb (Vl.k v==Vl.k x&&(Vl.b v==Vl.b x&&(Vl.n v==Vl.n x&&(ByteArray.toList (Vl.s v)==ByteArray.toList (Vl.s x)&&true)))),Vb true)]<|.ret ((Ex.ret,mkSt 19 [(4,Vi (↑i:Int))] [Blk.cells [Vu (Vl.k v),Vb (Vl.b v),Vi (Vl.n v),V.str (Vl.s v)] 28]))) (by kernel_rfl) ?_
  exact ⟨⟨tv,cb (by grind),tv⟩,(idx_map _ hx),⟨tv,cb (by grind),tv⟩,rfl,rfl⟩
 | k+1,i,h,hm,hn,he=>by
  have ih:=idv_some v l hl m k (i+1) (by omega) hm (fun j v hj hv=>hn j v (by omega) hv) he
  obtain ⟨x,hx⟩:∃ x,l[i]?=some x:=⟨l[i]'(by omega),List.getElem?_eq_getElem (by omega)⟩
  have hk:=hn i x (Nat.le_refl _) (by omega) hx
  unfold eqP at hk
  refine loop_tree draws (rd:=true) (kn:=K16) (ke:=(keeps [4])) (
   .rw 8009 [] [(9,Vb (decide ((↑i:Int)<(↑(List.length l):Int))),Vb true)]<|.opt 14 (idx (List.map eV l) (↑i:Int)) (eV x)<|.rw 8016 [] [(16,Vb (Vl.k v==Vl.k x&&(Vl.b v==Vl.b x&&(Vl.n v==Vl.n x&&(ByteArray.toList (Vl.s v)==ByteArray.toList (Vl.s x)&&true)))),Vb false)]<|.rw 8018 [] [(18,Vi (IntKind.wrap IntKind.i64 ((↑i:Int)+(1:Int))),Vi (↑(i+1):Int))]<|.ret (.normal,S16 v l (i+1))) (by kernel_rfl) ?_
  exact ⟨⟨tv,cb (by grind),tv⟩,(idx_map _ hx),⟨tv,cb (by grind),tv⟩,⟨tv,by simp (disch:=omega) only [cast_succ,wrap_i64],tv⟩,(ih)⟩
theorem index_none (v:Vl) (l:List Vl) (hl:l.length≤2) (hn:∀ x∈l,¬eqP v x):Sp C1 187 [eVs l,eV v] (.int .i64 (-1)):=by
 have h:=idv_none v l hl l.length 0 (by omega) (fun j x _ hx=>hn x (List.mem_of_getElem? hx))
 refine sp_tree draws (dm:=[]) (fs:=[]) (
  .rw 8007 [] [(7,Vi (↑(List.length (List.map eV l)):Int),Vi (↑(List.length l):Int))]<|.loop 16 false (K16) (S16 v l 0) (Ex.exit 0) (mkSt 19 [] (H16 v))<|.ret (Fr (Vi (-1:Int)) [])) (by kernel_rfl) ?_
 exact ⟨⟨tv,by simp (disch:=omega) only [List.length_map],tv⟩,(LoopR.weak (h)),rfl⟩
theorem index_some (v:Vl) (l:List Vl) (hl:l.length≤2) (m:Nat) (hm:m<l.length) (hn:∀ j x,j<m→l[j]?=some x→¬eqP v x) (he:∀ x,l[m]?=some x→eqP v x):Sp C1 187 [eVs l,eV v] (.int .i64 (m:Int)):=by
 have h:=idv_some v l hl m m 0 (by omega) hm (fun j x _ hj hx=>hn j x hj hx) he
 refine sp_tree draws (dm:=[]) (fs:=[]) (
  .rw 8007 [] [(7,Vi (↑(List.length (List.map eV l)):Int),Vi (↑(List.length l):Int))]<|.loop 16 false (K16) (S16 v l 0) (Ex.ret) (mkSt 19 [(4,Vi (↑m:Int))] (H16 v))<|.ret (Fr (Vi (↑m:Int)) [])) (by kernel_rfl) ?_
 exact ⟨⟨tv,by simp (disch:=omega) only [List.length_map],tv⟩,(LoopR.weak (h)),rfl⟩
theorem contains1_sp (v x:Vl):Sp C1 127 [eVs [x],eV v] (.bool (decide (eqP v x))):=by
 by_cases h:eqP v x
 ·have hi:=index_some v [x] (by simp) 0 (by simp) (fun j y hj hy=>absurd hj (by omega)) (fun y hy=>by cases hy;exact h)
  rw [decide_eq_true h]
  refine sp_tree draws (dm:=[]) (fs:=[]) (
   .call 7 (187) ([eVs [x],eV v]) ([]) (Fr (Vi (↑0:Int)) [])<|.ret (Fr (Vb true) [])) (by kernel_rfl) ?_
  exact ⟨(Sp.fact (hi)),rfl⟩
 ·have hi:=index_none v [x] (by simp) (fun y hy=>by rw [List.mem_singleton.1 hy];exact h)
  rw [decide_eq_false h]
  refine sp_tree draws (dm:=[]) (fs:=[]) (
   .call 7 (187) ([eVs [x],eV v]) ([]) (Fr (Vi (-1:Int)) [])<|.ret (Fr (Vb false) [])) (by kernel_rfl) ?_
  exact ⟨(Sp.fact (hi)),rfl⟩
theorem contains2_sp (v x y:Vl):Sp C1 127 [eVs [x,y],eV v] (.bool (decide (eqP v x∨eqP v y))):=by
 by_cases h:eqP v x
 ·have hi:=index_some v [x,y] (by simp) 0 (by simp) (fun j y hj hy=>absurd hj (by omega)) (fun y hy=>by cases hy;exact h)
  rw [decide_eq_true (.inl h)]
  refine sp_tree draws (dm:=[]) (fs:=[]) (
   .call 7 (187) ([eVs [x,y],eV v]) ([]) (Fr (Vi (↑0:Int)) [])<|.ret (Fr (Vb true) [])) (by kernel_rfl) ?_
  exact ⟨(Sp.fact (hi)),rfl⟩
 by_cases h2:eqP v y
 ·have hi:=index_some v [x,y] (by simp) 1 (by simp) (fun j z hj hz=>by
   obtain rfl:j=0:=by omega
   cases hz;exact h) (fun z hz=>by cases hz;exact h2)
  rw [decide_eq_true (.inr h2)]
  refine sp_tree draws (dm:=[]) (fs:=[]) (
   .call 7 (187) ([eVs [x,y],eV v]) ([]) (Fr (Vi (↑1:Int)) [])<|.ret (Fr (Vb true) [])) (by kernel_rfl) ?_
  exact ⟨(Sp.fact (hi)),rfl⟩
 ·have hi:=index_none v [x,y] (by simp) (fun z hz=>by
   rcases List.mem_cons.1 hz with rfl | hz
   ·exact h
   ·rw [List.mem_singleton.1 hz];exact h2)
  rw [decide_eq_false (fun hh=>hh.elim h h2)]
  refine sp_tree draws (dm:=[]) (fs:=[]) (
   .call 7 (187) ([eVs [x,y],eV v]) ([]) (Fr (Vi (-1:Int)) [])<|.ret (Fr (Vb false) [])) (by kernel_rfl) ?_
  exact ⟨(Sp.fact (hi)),rfl⟩
theorem eqP_null (a:Vl) (h:Bare a):eqP vNull a↔a.k=0:=by
 unfold eqP
 obtain ⟨h1,h2,h3,h4,h5⟩:=h
 constructor
 ·exact fun h=>h.1.symm
 ·intro e
  refine ⟨e.symm,?_,?_,?_⟩
  ·rcases h3 with h | h
   ·omega
   ·exact h.symm
  ·rcases h4 with h | h
   ·omega
   ·exact h.symm
  ·rcases h5 with h | h
   ·omega
   ·rw [h]
    exact eT_nil
theorem eqP_bool (a:Vl) (c:Bool):eqP (vBool c) a↔isB a c:=by
 unfold eqP isB
 constructor
 ·exact fun ⟨h1,h2,h3,h4⟩=>⟨h1.symm,h2.symm,h3.symm,by rw [←h4];exact eT_nil⟩
 ·exact fun ⟨h1,h2,h3,h4⟩=>⟨h1.symm,h2.symm,h3.symm,by rw [h4];exact eT_nil⟩
theorem logic_sp (c:Bool) (a b:Vl) (ha:Bare a) (hb:Bare b):Sp C1 126 [.bool c,eVs [a,b]] (eV (logV c a b)):=by
 have e1:=contains2_sp (vBool c) a b
 have e2:=contains2_sp vNull a b
 have t1:=truth_sp c
 have t2:=truth_sp (!c)
 simp only [eqP_bool] at e1
 simp only [eqP_null a ha,eqP_null b hb] at e2
 unfold logV
 by_cases h1:isB a c∨isB b c
 ·rw [decide_eq_true h1] at e1
  rw [if_pos h1]
  refine sp_tree draws (dm:=[]) (fs:=[]) (
   .call 8 (87) ([Vb c]) ([]) (Fr (eV (vBool c)) [])<|.call 9 (127) ([eVs [a,b],eV (vBool c)]) ([]) (Fr (Vb true) [])<|.call 11 (87) ([Vb c]) ([]) (Fr (eV (vBool c)) [])<|.ret (Fr (V.agg [Vu (1:Int),Vb c,Vi (0:Int),V.str (ByteArray.mk (Array.mk []))]) [])) (by kernel_rfl) ?_
  exact ⟨(Sp.fact (t1)),(Sp.fact (e1)),(Sp.fact (t1)),rfl⟩
 rw [decide_eq_false h1] at e1
 rw [if_neg h1]
 by_cases h2:a.k=0∨b.k=0
 ·rw [decide_eq_true h2] at e2
  rw [if_pos h2]
  refine sp_tree draws (dm:=[]) (fs:=[]) (
   .call 8 (87) ([Vb c]) ([]) (Fr (eV (vBool c)) [])<|.call 9 (127) ([eVs [a,b],eV (vBool c)]) ([]) (Fr (Vb false) [])<|.call 15 (127) ([eVs [a,b],eV vNull]) ([]) (Fr (Vb true) [])<|.ret (Fr (V.agg [Vu (0:Int),Vb false,Vi (0:Int),V.str (ByteArray.mk #[])]) [])) (by kernel_rfl) ?_
  exact ⟨(Sp.fact (t1)),(Sp.fact (e1)),(Sp.fact (e2)),rfl⟩
 ·rw [decide_eq_false h2] at e2
  rw [if_neg h2]
  refine sp_tree draws (dm:=[]) (fs:=[]) (
   .call 8 (87) ([Vb c]) ([]) (Fr (eV (vBool c)) [])<|.call 9 (127) ([eVs [a,b],eV (vBool c)]) ([]) (Fr (Vb false) [])<|.call 15 (127) ([eVs [a,b],eV vNull]) ([]) (Fr (Vb false) [])<|.call 19 (87) ([Vb !c]) ([]) (Fr (eV (vBool !c)) [])<|.ret (Fr (V.agg [Vu (1:Int),Vb !c,Vi (0:Int),V.str (ByteArray.mk (Array.mk []))]) [])) (by kernel_rfl) ?_
  exact ⟨(Sp.fact (t1)),(Sp.fact (e1)),(Sp.fact (e2)),(Sp.fact (t2)),rfl⟩
theorem operator1_sp (k:Int) (x:Vl) (hx:Fv x) (hk:k=7∨k=8∨k=10):Sp C1 128 [.int .u8 k,eVs [x]] (eV (op1 k x)):=by
 obtain ⟨f1,f2,f3⟩:=hx
 have e1:=sub_sp 0 x.n i64_0 f2
 have e2:=vrunes_sp x.s f3
 rcases hk with rfl | rfl | rfl
 ·refine sp_tree draws (dm:=[]) (fs:=[]) (
   .call 12 (188) ([Vi (0:Int),Vi (Vl.n x)]) ([]) (Fr (V.tup [Vi (ovN ((0:Int)-Vl.n x)),Vi (ovE ((0:Int)-Vl.n x))]) [])<|.call 15 (125) ([Vi (ovN ((0:Int)-Vl.n x)),Vi (ovE ((0:Int)-Vl.n x))]) ([]) (Fr (eV (nV ((0:Int)-Vl.n x))) [])<|.ret (Fr (V.agg [Vu (Vl.k (nV ((0:Int)-Vl.n x))),Vb (Vl.b (nV ((0:Int)-Vl.n x))),Vi (Vl.n (nV ((0:Int)-Vl.n x))),V.str (Vl.s (nV ((0:Int)-Vl.n x)))]) [])) (by kernel_rfl) ?_
  exact ⟨(Sp.fact (e1)),(Sp.fact (num_sp _)),rfl⟩
 ·refine sp_tree draws (dm:=[]) (fs:=[]) (
   .call 23 (87) ([Vb !Vl.b x]) ([]) (Fr (eV (vBool !Vl.b x)) [])<|.ret (Fr (V.agg [Vu (1:Int),Vb !Vl.b x,Vi (0:Int),V.str (ByteArray.mk (Array.mk []))]) [])) (by kernel_rfl) ?_
  exact ⟨(Sp.fact (truth_sp _)),rfl⟩
 ·refine sp_tree draws (dm:=[]) (fs:=[]) (
   .call 30 (136) ([V.str (Vl.s x)]) ([]) (Fr (Vi (↑(List.length (runesS (Vl.s x))):Int)) [])<|.call 31 (125) ([Vi (↑(List.length (runesS (Vl.s x))):Int),Vi (0:Int)]) ([]) (Fr (eV (vInt (↑(List.length (runesS (Vl.s x))):Int))) [])<|.ret (Fr (V.agg [Vu (2:Int),Vb false,Vi (↑(List.length (runesS (Vl.s x))):Int),V.str (ByteArray.mk (Array.mk []))]) [])) (by kernel_rfl) ?_
  exact ⟨(Sp.fact (e2)),(Sp.fact (numI_sp _)),rfl⟩
theorem operator2_sp (k:Int) (x y:Vl) (hx:Fv x) (hy:Fv y) (hk:11≤k) (hk2:k≤19):Sp C1 128 [.int .u8 k,eVs [x,y]] (eV (op2 k x y)):=by
 obtain ⟨f1,f2,f3⟩:=hx
 obtain ⟨g1,g2,g3⟩:=hy
 have e1:=add_sp x.n y.n f2 g2
 have e2:=sub_sp x.n y.n f2 g2
 have e3:=mul_sp x.n y.n f2 g2
 have e4:=compare_sp x y f1 g1
 by_cases h1:k=11
 ·subst h1
  refine sp_tree draws (dm:=[]) (fs:=[]) (
   .call 42 (189) ([Vi (Vl.n x),Vi (Vl.n y)]) ([]) (Fr (V.tup [Vi (ovN (Vl.n x+Vl.n y)),Vi (ovE (Vl.n x+Vl.n y))]) [])<|.call 45 (125) ([Vi (ovN (Vl.n x+Vl.n y)),Vi (ovE (Vl.n x+Vl.n y))]) ([]) (Fr (eV (nV (Vl.n x+Vl.n y))) [])<|.ret (Fr (V.agg [Vu (Vl.k (nV (Vl.n x+Vl.n y))),Vb (Vl.b (nV (Vl.n x+Vl.n y))),Vi (Vl.n (nV (Vl.n x+Vl.n y))),V.str (Vl.s (nV (Vl.n x+Vl.n y)))]) [])) (by kernel_rfl) ?_
  exact ⟨(Sp.fact (e1)),(Sp.fact (num_sp _)),rfl⟩
 by_cases h2:k=12
 ·subst h2
  refine sp_tree draws (dm:=[]) (fs:=[]) (
   .call 56 (188) ([Vi (Vl.n x),Vi (Vl.n y)]) ([]) (Fr (V.tup [Vi (ovN (Vl.n x-Vl.n y)),Vi (ovE (Vl.n x-Vl.n y))]) [])<|.call 59 (125) ([Vi (ovN (Vl.n x-Vl.n y)),Vi (ovE (Vl.n x-Vl.n y))]) ([]) (Fr (eV (nV (Vl.n x-Vl.n y))) [])<|.ret (Fr (V.agg [Vu (Vl.k (nV (Vl.n x-Vl.n y))),Vb (Vl.b (nV (Vl.n x-Vl.n y))),Vi (Vl.n (nV (Vl.n x-Vl.n y))),V.str (Vl.s (nV (Vl.n x-Vl.n y)))]) [])) (by kernel_rfl) ?_
  exact ⟨(Sp.fact (e2)),(Sp.fact (num_sp _)),rfl⟩
 by_cases h3:k=13
 ·subst h3
  refine sp_tree draws (dm:=[]) (fs:=[]) (
   .call 70 (190) ([Vi (Vl.n x),Vi (Vl.n y)]) ([]) (Fr (V.tup [Vi (ovN (Vl.n x*Vl.n y)),Vi (ovE (Vl.n x*Vl.n y))]) [])<|.call 73 (125) ([Vi (ovN (Vl.n x*Vl.n y)),Vi (ovE (Vl.n x*Vl.n y))]) ([]) (Fr (eV (nV (Vl.n x*Vl.n y))) [])<|.ret (Fr (V.agg [Vu (Vl.k (nV (Vl.n x*Vl.n y))),Vb (Vl.b (nV (Vl.n x*Vl.n y))),Vi (Vl.n (nV (Vl.n x*Vl.n y))),V.str (Vl.s (nV (Vl.n x*Vl.n y)))]) [])) (by kernel_rfl) ?_
  exact ⟨(Sp.fact (e3)),(Sp.fact (num_sp _)),rfl⟩
 have hr:=cmpV_range x y
 generalize hc:cmpV x y=c at hr e4
 have e5:op2 k x y=vBool (cmpK k c):=by unfold op2;rw [if_neg h1,if_neg h2,if_neg h3,hc]
 rw [e5]
 have e6:=compared_sp k c (by omega) hk2 hr
 have e7:=truth_sp (cmpK k c)
 have e8:Sp C1 191 [.int .u8 k,.int .i64 c] (.bool (cmpK k c)):=e6
 clear e6
 refine sp_tree draws (dm:=[]) (fs:=[]) (
  .rw 8007 [] [(7,Vb (k==(7:Int)),Vb false)]<|.rw 8017 [] [(17,Vb (k==(8:Int)),Vb false)]<|.rw 8025 [] [(25,Vb (k==(10:Int)),Vb false)]<|.rw 8033 [] [(33,Vb (k==(11:Int)),Vb false)]<|.rw 8047 [] [(47,Vb (k==(12:Int)),Vb false)]<|.rw 8061 [] [(61,Vb (k==(13:Int)),Vb false)]<|.call 81 (23) ([eV x,eV y]) ([]) (Fr (Vi c) [])<|.call 82 (191) ([Vu k,Vi c]) ([]) (Fr (Vb (cmpK k c)) [])<|.call 83 (87) ([Vb (cmpK k c)]) ([]) (Fr (eV (vBool (cmpK k c))) [])<|.ret (Fr (V.agg [Vu (1:Int),Vb (cmpK k c),Vi (0:Int),V.str (ByteArray.mk (Array.mk []))]) [])) (by kernel_rfl) ?_
 exact ⟨⟨tv,cb (by simp<;>omega),tv⟩,⟨tv,cb (by simp<;>omega),tv⟩,⟨tv,cb (by simp<;>omega),tv⟩,⟨tv,cb (by simp<;>omega),tv⟩,⟨tv,cb (by simp<;>omega),tv⟩,⟨tv,cb (by simp<;>omega),tv⟩,(Sp.fact (e4)),(Sp.fact (e8)),(Sp.fact (e7)),rfl⟩
theorem step0_sp (s:Stp) (row l:List Vl) (h1:1≤s.k) (h2:s.k≤5):Sp C1 64 [eS s,eRow row,eVs l] (eV (step0 s)):=by
 have h3:s.k=1∨s.k=2∨s.k=3∨s.k=4∨s.k=5:=by omega
 obtain ⟨k,t,n⟩:=s
 dsimp only at h3
 rcases h3 with rfl | rfl | rfl | rfl | rfl
 ·refine sp_tree draws (dm:=[]) (fs:=[]) (
   .ret (Fr (V.agg [Vu (0:Int),Vb false,Vi (0:Int),V.str (ByteArray.mk #[])]) [])) (by kernel_rfl) ?_
  exact rfl
 ·refine sp_tree draws (dm:=[]) (fs:=[]) (
   .call 18 (87) ([Vb true]) ([]) (Fr (eV (vBool true)) [])<|.ret (Fr (V.agg [Vu (1:Int),Vb true,Vi (0:Int),V.str (ByteArray.mk #[])]) [])) (by kernel_rfl) ?_
  exact ⟨(Sp.fact (truth_sp _)),rfl⟩
 ·refine sp_tree draws (dm:=[]) (fs:=[]) (
   .call 18 (87) ([Vb false]) ([]) (Fr (eV (vBool false)) [])<|.ret (Fr (V.agg [Vu (1:Int),Vb false,Vi (0:Int),V.str (ByteArray.mk #[])]) [])) (by kernel_rfl) ?_
  exact ⟨(Sp.fact (truth_sp _)),rfl⟩
 ·refine sp_tree draws (dm:=[]) (fs:=[]) (
   .call 23 (125) ([Vi n,Vi (0:Int)]) ([]) (Fr (eV (vInt n)) [])<|.ret (Fr (V.agg [Vu (2:Int),Vb false,Vi n,V.str (ByteArray.mk (Array.mk []))]) [])) (by kernel_rfl) ?_
  exact ⟨(Sp.fact (numI_sp _)),rfl⟩
 ·refine sp_tree draws (dm:=[]) (fs:=[]) (
   .ret (Fr (V.agg [Vu (3:Int),Vb false,Vi (0:Int),V.str t]) [])) (by kernel_rfl) ?_
  exact rfl
theorem stepC_sp (s:Stp) (row l:List Vl) (h1:s.k=6) (i:Nat) (v:Vl) (hi:s.n=(i:Int)) (hv:row[i]?=some v):Sp C1 64 [eS s,eRow row,eVs l] (eV v):=by
 obtain ⟨k,t,n⟩:=s
 dsimp only at h1 hi
 subst h1 hi
 refine sp_tree draws (dm:=[]) (fs:=[]) (
  .opt 34 (idx (List.map eV row) (↑i:Int)) (eV v)<|.ret (Fr (V.agg [Vu (Vl.k v),Vb (Vl.b v),Vi (Vl.n v),V.str (Vl.s v)]) [])) (by kernel_rfl) ?_
 exact ⟨(idx_map _ hv),rfl⟩
theorem eqb_null (x:Vl):(x.k==0&&(x.b==false&&(x.n==0&&(x.s.toList==[]&&true))))=decide (eqP x vNull):=by
 unfold eqP
 rw [Bool.eq_iff_iff]
 simp [eT_nil]
theorem step1_sp (s:Stp) (row:List Vl) (x:Vl) (hx:Gv x) (hk:7≤s.k) (hk2:s.k≤10):Sp C1 64 [eS s,eRow row,eVs [x]] (eV (step1 s x)):=by
 have hnull:=eqP_null x hx.2
 by_cases h9:s.k=9
 ·have e:step1 s x=vBool (decide (eqP x vNull)):=by
   unfold step1
   rw [if_pos h9]
   have:eqP x vNull↔eqP vNull x:=by unfold eqP;grind
   rw [decide_eq_decide.2 (this.trans hnull)]
  rw [e]
  refine sp_tree draws (dm:=[]) (fs:=[]) (
   .rw 8010 [] [(10,Vb (Stp.k s==(1:Int)),Vb false)]<|.rw 8013 [] [(13,Vb (Stp.k s==(2:Int)),Vb false)]<|.rw 8014 [] [(14,Vb (Stp.k s==(3:Int)),Vb false)]<|.rw 8020 [] [(20,Vb (Stp.k s==(4:Int)),Vb false)]<|.rw 8025 [] [(25,Vb (Stp.k s==(5:Int)),Vb false)]<|.rw 8030 [] [(30,Vb (Stp.k s==(6:Int)),Vb false)]<|.rw 8037 [] [(37,Vb (Stp.k s==(9:Int)),Vb true)]<|.call 43 (87) ([Vb (Vl.k x==(0:Int)&&(Vl.b x==false&&(Vl.n x==(0:Int)&&(ByteArray.toList (Vl.s x)==[]&&true))))]) ([]) (Fr (eV (vBool (Vl.k x==(0:Int)&&(Vl.b x==false&&(Vl.n x==(0:Int)&&(ByteArray.toList (Vl.s x)==[]&&true)))))) [])<|.ret (Fr (V.agg [Vu (1:Int),Vb (Vl.k x==(0:Int)&&(Vl.b x==false&&(Vl.n x==(0:Int)&&(ByteArray.toList (Vl.s x)==[]&&true)))),Vi (0:Int),V.str (ByteArray.mk (Array.mk []))]) [])) (by kernel_rfl) ?_
  exact ⟨⟨tv,cb (by simp<;>omega),tv⟩,⟨tv,cb (by simp<;>omega),tv⟩,⟨tv,cb (by simp<;>omega),tv⟩,⟨tv,cb (by simp<;>omega),tv⟩,⟨tv,cb (by simp<;>omega),tv⟩,⟨tv,cb (by simp<;>omega),tv⟩,⟨tv,cb (by simp<;>omega),tv⟩,(Sp.fact (truth_sp _)),by show _=_;(rw [eqb_null])⟩
 have e1:=operator1_sp s.k x hx.1 (by omega)
 have e2:=contains1_sp vNull x
 simp only [hnull] at e2
 unfold step1
 rw [if_neg h9]
 by_cases hn:x.k=0
 ·rw [if_pos hn]
  rw [decide_eq_true hn] at e2
  refine sp_tree draws (dm:=[]) (fs:=[]) (
   .rw 8010 [] [(10,Vb (Stp.k s==(1:Int)),Vb false)]<|.rw 8013 [] [(13,Vb (Stp.k s==(2:Int)),Vb false)]<|.rw 8014 [] [(14,Vb (Stp.k s==(3:Int)),Vb false)]<|.rw 8020 [] [(20,Vb (Stp.k s==(4:Int)),Vb false)]<|.rw 8025 [] [(25,Vb (Stp.k s==(5:Int)),Vb false)]<|.rw 8030 [] [(30,Vb (Stp.k s==(6:Int)),Vb false)]<|.rw 8037 [] [(37,Vb (Stp.k s==(9:Int)),Vb false)]<|.rw 8045 [] [(45,Vb (Stp.k s==(20:Int)),Vb false)]<|.rw 8046 [] [(46,Vb (Stp.k s==(21:Int)),Vb false)]<|.call 54 (127) ([eVs [x],eV vNull]) ([]) (Fr (Vb true) [])<|.ret (Fr (V.agg [Vu (0:Int),Vb false,Vi (0:Int),V.str (ByteArray.mk #[])]) [])) (by kernel_rfl) ?_
  exact ⟨⟨tv,cb (by simp<;>omega),tv⟩,⟨tv,cb (by simp<;>omega),tv⟩,⟨tv,cb (by simp<;>omega),tv⟩,⟨tv,cb (by simp<;>omega),tv⟩,⟨tv,cb (by simp<;>omega),tv⟩,⟨tv,cb (by simp<;>omega),tv⟩,⟨tv,cb (by simp<;>omega),tv⟩,⟨tv,cb (by simp<;>omega),tv⟩,⟨tv,cb (by simp<;>omega),tv⟩,(Sp.fact (e2)),rfl⟩
 ·rw [if_neg hn]
  rw [decide_eq_false hn] at e2
  refine sp_tree draws (dm:=[]) (fs:=[]) (
   .rw 8010 [] [(10,Vb (Stp.k s==(1:Int)),Vb false)]<|.rw 8013 [] [(13,Vb (Stp.k s==(2:Int)),Vb false)]<|.rw 8014 [] [(14,Vb (Stp.k s==(3:Int)),Vb false)]<|.rw 8020 [] [(20,Vb (Stp.k s==(4:Int)),Vb false)]<|.rw 8025 [] [(25,Vb (Stp.k s==(5:Int)),Vb false)]<|.rw 8030 [] [(30,Vb (Stp.k s==(6:Int)),Vb false)]<|.rw 8037 [] [(37,Vb (Stp.k s==(9:Int)),Vb false)]<|.rw 8045 [] [(45,Vb (Stp.k s==(20:Int)),Vb false)]<|.rw 8046 [] [(46,Vb (Stp.k s==(21:Int)),Vb false)]<|.call 54 (127) ([eVs [x],eV vNull]) ([]) (Fr (Vb false) [])<|.call 59 (128) ([Vu (Stp.k s),eVs [x]]) ([]) (Fr (eV (op1 (Stp.k s) x)) [])<|.ret (Fr (V.agg [Vu (Vl.k (op1 (Stp.k s) x)),Vb (Vl.b (op1 (Stp.k s) x)),Vi (Vl.n (op1 (Stp.k s) x)),V.str (Vl.s (op1 (Stp.k s) x))]) [])) (by kernel_rfl) ?_
  exact ⟨⟨tv,cb (by simp<;>omega),tv⟩,⟨tv,cb (by simp<;>omega),tv⟩,⟨tv,cb (by simp<;>omega),tv⟩,⟨tv,cb (by simp<;>omega),tv⟩,⟨tv,cb (by simp<;>omega),tv⟩,⟨tv,cb (by simp<;>omega),tv⟩,⟨tv,cb (by simp<;>omega),tv⟩,⟨tv,cb (by simp<;>omega),tv⟩,⟨tv,cb (by simp<;>omega),tv⟩,(Sp.fact (e2)),(Sp.fact (e1)),rfl⟩
theorem step2_sp (s:Stp) (row:List Vl) (x y:Vl) (hx:Gv x) (hy:Gv y) (hk:11≤s.k) (hk2:s.k≤21):Sp C1 64 [eS s,eRow row,eVs [x,y]] (eV (step2 s x y)):=by
 have l1:=logic_sp false x y hx.2 hy.2
 have l2:=logic_sp true x y hx.2 hy.2
 by_cases h20:s.k=20
 ·have e:step2 s x y=logV false x y:=by unfold step2;rw [if_pos (.inl h20),h20];rfl
  rw [e]
  clear l2
  refine sp_tree draws (dm:=[]) (fs:=[]) (
   .rw 8010 [] [(10,Vb (Stp.k s==(1:Int)),Vb false)]<|.rw 8013 [] [(13,Vb (Stp.k s==(2:Int)),Vb false)]<|.rw 8014 [] [(14,Vb (Stp.k s==(3:Int)),Vb false)]<|.rw 8020 [] [(20,Vb (Stp.k s==(4:Int)),Vb false)]<|.rw 8025 [] [(25,Vb (Stp.k s==(5:Int)),Vb false)]<|.rw 8030 [] [(30,Vb (Stp.k s==(6:Int)),Vb false)]<|.rw 8037 [] [(37,Vb (Stp.k s==(9:Int)),Vb false)]<|.rw 8045 [] [(45,Vb (Stp.k s==(20:Int)),Vb true)]<|.rw 8049 [] [(49,Vb (Stp.k s==(21:Int)),Vb false)]<|.call 51 (126) ([Vb false,eVs [x,y]]) ([]) (Fr (eV (logV false x y)) [])<|.ret (Fr (V.agg [Vu (Vl.k (logV false x y)),Vb (Vl.b (logV false x y)),Vi (Vl.n (logV false x y)),V.str (Vl.s (logV false x y))]) [])) (by kernel_rfl) ?_
  exact ⟨⟨tv,cb (by simp<;>omega),tv⟩,⟨tv,cb (by simp<;>omega),tv⟩,⟨tv,cb (by simp<;>omega),tv⟩,⟨tv,cb (by simp<;>omega),tv⟩,⟨tv,cb (by simp<;>omega),tv⟩,⟨tv,cb (by simp<;>omega),tv⟩,⟨tv,cb (by simp<;>omega),tv⟩,⟨tv,cb (by simp<;>omega),tv⟩,⟨tv,cb (by simp<;>omega),tv⟩,(Sp.fact (l1)),rfl⟩
 by_cases h21:s.k=21
 ·have e:step2 s x y=logV true x y:=by unfold step2;rw [if_pos (.inr h21),h21];rfl
  rw [e]
  clear l1
  have hq:(s.k==21)=true:=by simp [h21]
  obtain ⟨k,t,n⟩:=s
  dsimp only at h21 h20 hk hk2
  subst h21
  refine sp_tree draws (dm:=[]) (fs:=[]) (
   .call 51 (126) ([Vb true,eVs [x,y]]) ([]) (Fr (eV (logV true x y)) [])<|.ret (Fr (V.agg [Vu (Vl.k (logV true x y)),Vb (Vl.b (logV true x y)),Vi (Vl.n (logV true x y)),V.str (Vl.s (logV true x y))]) [])) (by kernel_rfl) ?_
  exact ⟨(Sp.fact (l2)),rfl⟩
 clear l1 l2
 have e1:=operator2_sp s.k x y hx.1 hy.1 hk (by omega)
 have e2:=contains2_sp vNull x y
 simp only [eqP_null x hx.2,eqP_null y hy.2] at e2
 unfold step2
 rw [if_neg (by omega)]
 by_cases hn:x.k=0∨y.k=0
 ·rw [if_pos hn]
  rw [decide_eq_true hn] at e2
  refine sp_tree draws (dm:=[]) (fs:=[]) (
   .rw 8010 [] [(10,Vb (Stp.k s==(1:Int)),Vb false)]<|.rw 8013 [] [(13,Vb (Stp.k s==(2:Int)),Vb false)]<|.rw 8014 [] [(14,Vb (Stp.k s==(3:Int)),Vb false)]<|.rw 8020 [] [(20,Vb (Stp.k s==(4:Int)),Vb false)]<|.rw 8025 [] [(25,Vb (Stp.k s==(5:Int)),Vb false)]<|.rw 8030 [] [(30,Vb (Stp.k s==(6:Int)),Vb false)]<|.rw 8037 [] [(37,Vb (Stp.k s==(9:Int)),Vb false)]<|.rw 8045 [] [(45,Vb (Stp.k s==(20:Int)),Vb false)]<|.rw 8046 [] [(46,Vb (Stp.k s==(21:Int)),Vb false)]<|.call 54 (127) ([eVs [x,y],eV vNull]) ([]) (Fr (Vb true) [])<|.ret (Fr (V.agg [Vu (0:Int),Vb false,Vi (0:Int),V.str (ByteArray.mk #[])]) [])) (by kernel_rfl) ?_
  exact ⟨⟨tv,cb (by simp<;>omega),tv⟩,⟨tv,cb (by simp<;>omega),tv⟩,⟨tv,cb (by simp<;>omega),tv⟩,⟨tv,cb (by simp<;>omega),tv⟩,⟨tv,cb (by simp<;>omega),tv⟩,⟨tv,cb (by simp<;>omega),tv⟩,⟨tv,cb (by simp<;>omega),tv⟩,⟨tv,cb (by simp<;>omega),tv⟩,⟨tv,cb (by simp<;>omega),tv⟩,(Sp.fact (e2)),rfl⟩
 ·rw [if_neg hn]
  rw [decide_eq_false hn] at e2
  refine sp_tree draws (dm:=[]) (fs:=[]) (
   .rw 8010 [] [(10,Vb (Stp.k s==(1:Int)),Vb false)]<|.rw 8013 [] [(13,Vb (Stp.k s==(2:Int)),Vb false)]<|.rw 8014 [] [(14,Vb (Stp.k s==(3:Int)),Vb false)]<|.rw 8020 [] [(20,Vb (Stp.k s==(4:Int)),Vb false)]<|.rw 8025 [] [(25,Vb (Stp.k s==(5:Int)),Vb false)]<|.rw 8030 [] [(30,Vb (Stp.k s==(6:Int)),Vb false)]<|.rw 8037 [] [(37,Vb (Stp.k s==(9:Int)),Vb false)]<|.rw 8045 [] [(45,Vb (Stp.k s==(20:Int)),Vb false)]<|.rw 8046 [] [(46,Vb (Stp.k s==(21:Int)),Vb false)]<|.call 54 (127) ([eVs [x,y],eV vNull]) ([]) (Fr (Vb false) [])<|.call 59 (128) ([Vu (Stp.k s),eVs [x,y]]) ([]) (Fr (eV (op2 (Stp.k s) x y)) [])<|.ret (Fr (V.agg [Vu (Vl.k (op2 (Stp.k s) x y)),Vb (Vl.b (op2 (Stp.k s) x y)),Vi (Vl.n (op2 (Stp.k s) x y)),V.str (Vl.s (op2 (Stp.k s) x y))]) [])) (by kernel_rfl) ?_
  exact ⟨⟨tv,cb (by simp<;>omega),tv⟩,⟨tv,cb (by simp<;>omega),tv⟩,⟨tv,cb (by simp<;>omega),tv⟩,⟨tv,cb (by simp<;>omega),tv⟩,⟨tv,cb (by simp<;>omega),tv⟩,⟨tv,cb (by simp<;>omega),tv⟩,⟨tv,cb (by simp<;>omega),tv⟩,⟨tv,cb (by simp<;>omega),tv⟩,⟨tv,cb (by simp<;>omega),tv⟩,(Sp.fact (e2)),(Sp.fact (e1)),rfl⟩
end Go.Fw
