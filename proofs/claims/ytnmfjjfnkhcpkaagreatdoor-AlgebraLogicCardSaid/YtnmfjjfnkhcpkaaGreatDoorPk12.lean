/- Algebra: values of expressions, on the program's side. -/
import Derived.Test.YtnmfjjfnkhcpkaaGreatDoorPk11
set_option linter.all false
set_option maxHeartbeats 20000000
namespace Go.Fw
open Go.Proofs
def cellsL (st:List Vl):List V:=(st.map eV).flatMap V.cells
theorem cellsL_cons (v:Vl) (st:List Vl):cellsL (v::st)=.int .u8 v.k::.bool v.b::.int .i64 v.n::.str v.s::cellsL st:=rfl
theorem cellsL_len (st:List Vl):(cellsL st).length=st.length*4:=by
 induction st with
 | nil=>rfl
 | cons p ps ih=>rw [cellsL_cons];simp [ih];omega
theorem cellsL_app (ps qs:List Vl):cellsL (ps++qs)=cellsL ps++cellsL qs:=by simp [cellsL]
theorem cellsL_snoc (st:List Vl) (v:Vl):cellsL st++[.int .u8 v.k,.bool v.b,.int .i64 v.n,.str v.s]=cellsL (st++[v]):=by rw [cellsL_app];rfl
theorem cellsL_all (st:List Vl):List.take (st.length*4) (cellsL st)=cellsL st:=List.take_of_length_le (by rw [cellsL_len];exact Nat.le_refl _)
theorem cellsL_ok (ps:List Vl):(cellsL ps).all (fun c=>!isLin1 c&&okV c)=true:=by
 induction ps with
 | nil=>rfl
 | cons p ps ih=>rw [cellsL_cons];simp only [List.all_cons,ih];rfl
theorem cellsL_flat (ps:List Vl):(cellsL ps).all flat1=true:=by
 induction ps with
 | nil=>rfl
 | cons p ps ih=>rw [cellsL_cons];simp only [List.all_cons,ih];rfl
theorem cellsL_pk (ps:List Vl):(cellsL ps).all (fun c=>refB1 0 c&&!isLin1 c)=true:=by
 induction ps with
 | nil=>rfl
 | cons p ps ih=>rw [cellsL_cons];simp only [List.all_cons,ih];rfl
theorem cellsL_below (M:Nat) (ps:List Vl):(cellsL ps).all (refB1 M)=true:=by
 induction ps with
 | nil=>rfl
 | cons p ps ih=>rw [cellsL_cons];simp only [List.all_cons,ih];rfl
theorem cellsL_same (ps:List Vl):sameC.sameCs (cellsL ps) (cellsL ps)=true:=by
 induction ps with
 | nil=>rfl
 | cons p ps ih =>
  rw [cellsL_cons]
  simp only [sameC.sameCs,sameC,ih]
  simp
theorem cellsL_drop (pre top:List Vl):(cellsL (pre++top)).drop (pre.length*4)=cellsL top:=by
 rw [cellsL_app,←cellsL_len,List.drop_left]
theorem cellsL_take (pre top:List Vl):(cellsL (pre++top)).take (pre.length*4)=cellsL pre:=by
 rw [cellsL_app,←cellsL_len,List.take_left]
theorem chunk_cells:∀ (top:List Vl),chunk 4 top.length (cellsL top)=top.map eV
 | []=>rfl
 | v::top=>by
  rw [cellsL_cons]
  show V.agg _::chunk 4 top.length (List.drop 4 _)=_
  simp only [List.drop_succ_cons,List.drop_zero,chunk_cells top]
  rfl
theorem set4 (cs:List V) (o:Nat) (a b c d:V) (h:o+4≤cs.length):(((cs.set o a).set (o+1) b).set (o+1+1) c).set (o+1+1+1) d=cs.take o++[a,b,c,d]++cs.drop (o+4):=by
 have:=setAt_eq [a,b,c,d] cs o (by simpa using h)
 simpa [setAt] using this
theorem set4L (pre post:List Vl) (x v:Vl):((((cellsL (pre++x::post)).set (pre.length*4) (.int .u8 v.k)).set (pre.length*4+1) (.bool v.b)).set (pre.length*4+1+1) (.int .i64 v.n)).set (pre.length*4+1+1+1) (.str v.s)=cellsL (pre++v::post):=by
 rw [set4 _ _ _ _ _ _ (by rw [cellsL_len];simp;omega),cellsL_take,show pre++x::post=(pre++[x])++post by simp,show pre.length*4+4=(pre++[x]).length*4 by simp;omega,cellsL_drop,show pre++v::post=pre++[v]++post by simp,cellsL_app,cellsL_app]
 rfl
theorem take4L (pre:List Vl) (v y:Vl):(cellsL (pre++[v,y])).take ((pre.length+1)*4)=cellsL (pre++[v]):=by
 rw [show pre++[v,y]=(pre++[v])++[y] by simp,show (pre.length+1)*4=(pre++[v]).length*4 by simp,cellsL_take]
theorem lend_step (s:Stp) (row pre top:List Vl) (v:Vl) (A D:Blk) (h:Sp C1 64 [eS s,eRow row,eVs top] (eV v)):SpH C1 64 [eS s,eRow row,.own 1 (pre.length*4) top.length top.length] [A,.cells (cellsL (pre++top)) 28,D] (eV v) [A,.cells (cellsL (pre++top)) 28,D]:=by
 refine SpH.lend (id:=1) (sz:=4) (ag:=true) (cs:=cellsL (pre++top)) (e:=28) h rfl (by decide) (fun h=>by cases h) (cellsL_flat _) ?_ rfl rfl
 have e:frz3 1 4 true (cellsL (pre++top)) (.own 1 (pre.length*4) top.length top.length)=some (true,eVs top):=by
  show some (decide (pre.length*4+top.length*4≤(cellsL (pre++top)).length),V.imm false 4 (chunk 4 top.length ((cellsL (pre++top)).drop (pre.length*4))))=_
  rw [cellsL_drop,chunk_cells,cellsL_len,decide_eq_true (by simp;omega)]
 have e1:frz3 1 4 true (cellsL (pre++top)) (eS s)=some (true,eS s):=rfl
 have e2:frz3 1 4 true (cellsL (pre++top)) (eRow row)=some (true,eRow row):=rfl
 simp only [frzL,e1,e2,e,Bool.and_self]
end Go.Fw
set_option maxHeartbeats 20000000
namespace Go.Fw
open Go.Proofs
theorem tn0 (n:Nat):Int.toNat ((n:Int)-0)=n:=by omega
theorem tn1 (n:Nat):Int.toNat (((n+1:Nat):Int)-1)=n:=by omega
theorem tn2 (n:Nat):Int.toNat (((n+2:Nat):Int)-2)=n:=by omega
theorem nn1 (n:Nat):n+1-n=1:=by omega
theorem nn2 (n:Nat):n+2-n=2:=by omega
abbrev H26:List Blk:=[.cells [.int .u8 0,.bool false,.int .i64 0,.str eT] 28]
abbrev B26 (st:List Vl):List Blk:=[.cells [.int .u8 0,.bool false,.int .i64 0,.str eT] 28,.cells (cellsL st) 28]
abbrev K26:List (Nat×Fm):=keeps [1,4,5,10,11,12]
abbrev S26 (l:List Stp) (row st:List Vl) (i:Nat):St:=mkSt 43 [(1,eRow row),(4,.ptr 0 0),(5,.own 1 0 st.length st.length),(10,eSteps l),(11,.int .i64 (l.length:Int)),(12,.int .i64 (i:Int))] (B26 st)
abbrev E26:List (Nat×Fm):=keeps [4,5]
abbrev F26 (st:List Vl):St:=mkSt 43 [(4,.ptr 0 0),(5,.own 1 0 st.length st.length)] (B26 st)
theorem v26_end (l:List Stp) (row st:List Vl) (i:Nat) (hi:i=l.length) (hb:l.length≤64):LoopK C1 26 24 K26 (S26 l row st i) (.exit 0) (F26 st):=by
 refine loop_tree draws (rd:=true) (kn:=K26) (ke:=E26) (
  .rw 8013 [] [(13,Vb (decide ((↑i:Int)<(↑(List.length l):Int))),Vb false)]<|.tob 24001 (List.all [Blk.cells [Vu (0:Int),Vb false,Vi (0:Int),V.str (ByteArray.mk #[])] 28,Blk.cells (cellsL st) 28] (blkBelow 2)&&true&&true) ([.cutB 2])<|.ret ((Ex.exit 0,mkSt 43 [(4,V.ptr 0 0),(5,V.own 1 0 (List.length st) (List.length st))] [Blk.cells [Vu (0:Int),Vb false,Vi (0:Int),V.str (ByteArray.mk #[])] 28,Blk.cells (cellsL st) 28]))) (by kernel_rfl) ?_
 exact ⟨⟨tv,cb (by simp [cellsL_len,cellsL_ok,cellsL_all]<;>omega),tv⟩,by simp [blkBelow,refB1,cellsL_below],rfl,rfl⟩
theorem v26_1 (l:List Stp) (row pre fin:List Vl) (x v:Vl) (i:Nat) (s:Stp) (hb:l.length≤64) (hst:pre.length+1≤i) (hs:l[i]?=some s) (hf:FineS s) (h6:TkOk s) (h7:7≤s.k) (h8:s.k≤10) (hx:Gv x) (hv:step1 s x=v)
  (ih:LoopK C1 26 24 K26 (S26 l row (pre++[v]) (i+1)) (.exit 0) (F26 fin)):LoopK C1 26 24 K26 (S26 l row (pre++[x]) i) (.exit 0) (F26 fin):=by
 have hi:=(List.getElem?_eq_some_iff.1 hs).1
 have ht:=takes_sp s hf (by omega)
 have e1:tkN s=1:=by unfold tkN;rw [if_neg (by simpa using h6),if_neg (by omega),if_pos (by omega)]
 have e2:tkOk s=true:=by unfold tkOk;simpa using h6
 rw [e1,e2] at ht
 have hk2:=step1_sp s row x hx h7 h8
 rw [hv] at hk2
 have hk3:=lend_step s row pre [x] v (.cells [.int .u8 0,.bool false,.int .i64 0,.str eT] 28) (.cells [.int .u8 s.k,.str s.t,.int .i64 s.n] 56) hk2
 clear hk2
 unfold S26 at ih
 simp only [List.length_append,List.length_cons,List.length_nil] at ih
 refine loop_tree draws (rd:=true) (kn:=K26) (ke:=E26) (
  .rw 8013 [] [(5,V.own 1 0 (List.length (pre++[x])) (List.length (pre++[x])),V.own 1 0 (List.length pre+1) (List.length pre+1)),(13,Vb (decide ((↑i:Int)<(↑(List.length l):Int))),Vb true)]<|.opt 14 (idx (List.map eS l) (↑i:Int)) (eS s)<|.rw 8018 [] [(18,Vb (Stp.k s !=(6:Int)),Vb true)]<|.call 21 (63) ([eS s]) ([]) (Fr (V.tup [Vi (1:Int),Vb true]) [])<|.rw 8027 [] [(27,Vi (IntKind.wrap IntKind.i64 ((↑(List.length pre+1):Int)-(1:Int))),Vi ((↑(List.length pre+1):Int)-(1:Int)))]<|.chk 30 (decide ((0:Int)≤(0:Int)∧(0:Int)≤(↑(List.length pre+1):Int)-(1:Int)∧(↑(List.length pre+1):Int)-(1:Int)≤max (↑(List.length pre+1):Int) (↑(List.length pre+1):Int)∧max (↑(List.length pre+1):Int) (↑(List.length pre+1):Int)≤(↑(max (List.length pre+1) (List.length pre+1)):Int))&&true)<|.rw 8030 [] [(30,V.own 1 0 (Int.toNat ((↑(List.length pre+1):Int)-(1:Int))-0) (Int.toNat (max (↑(List.length pre+1):Int) (↑(List.length pre+1):Int))-0),V.own 1 0 (List.length pre) (List.length pre+1))]<|.chk 35 (decide ((0:Int)≤(↑(List.length pre+1):Int)-(1:Int)∧(↑(List.length pre+1):Int)-(1:Int)≤(↑(List.length pre+1):Int)∧(↑(List.length pre+1):Int)≤max (↑(List.length pre+1):Int) (↑(List.length pre+1):Int)∧max (↑(List.length pre+1):Int) (↑(List.length pre+1):Int)≤(↑(max (List.length pre+1) (List.length pre+1)):Int))&&true)<|.rw 8035 [] [(35,V.own 1 (0+Int.toNat ((↑(List.length pre+1):Int)-(1:Int))*4) (Int.toNat (↑(List.length pre+1):Int)-Int.toNat ((↑(List.length pre+1):Int)-(1:Int))) (Int.toNat (max (↑(List.length pre+1):Int) (↑(List.length pre+1):Int))-Int.toNat ((↑(List.length pre+1):Int)-(1:Int))),V.own 1 (List.length pre*4) 1 1)]<|.call 36 (64) ([eS s,eRow row,V.own 1 (List.length pre*4) (List.length [x]) (List.length [x])]) ([Blk.cells [Vu (0:Int),Vb false,Vi (0:Int),V.str eT] 28,Blk.cells (cellsL (pre++[x])) (28:TypeId),Blk.cells [Vu (Stp.k s),V.str (Stp.t s),Vi (Stp.n s)] 56]) (Fr (eV v) [Blk.cells [Vu (0:Int),Vb false,Vi (0:Int),V.str eT] 28,Blk.cells (cellsL (pre++[x])) (28:TypeId),Blk.cells [Vu (Stp.k s),V.str (Stp.t s),Vi (Stp.n s)] 56])<|.chk 5536 (true&&List.all [(7,Kd.rd 1 0 0),(6,Kd.none),(5,Kd.none),(4,Kd.none),(3,Kd.rd 2 0 3),(2,Kd.rd 1 0 0),(1,Kd.none),(0,Kd.none)] fun p=>!unAtF [0,1,0,7,15,31,63,31,7,7,0,0] (Prod.fst p) (nat_lit 8)||compatKF (List.length (St.h (Prod.snd (Ex.normal,mkSt 43 [(1,V.imm false 4 (List.map eV row)),(4,V.ptr 0 0),(5,V.own 1 0 (List.length pre+1) (List.length pre+1)),(7,V.ptr 2 0),(8,Vi (1:Int)),(9,Vi ((↑(List.length pre+1):Int)-(1:Int))),(10,V.imm false 3 (List.map eS l)),(11,Vi (↑(List.length l):Int)),(12,Vi (↑i:Int)),(13,Vb true),(14,V.iptr (V.agg [Vu (Stp.k s),V.str (Stp.t s),Vi (Stp.n s)]) 0),(15,V.agg [Vu (Stp.k s),V.str (Stp.t s),Vi (Stp.n s)]),(16,V.ptr 2 0),(17,Vu (Stp.k s)),(18,Vb true),(19,V.tup [Vi (1:Int),Vb true]),(20,V.agg [Vu (Stp.k s),V.str (Stp.t s),Vi (Stp.n s)]),(21,V.tup [Vi (1:Int),Vb true]),(22,Vi (1:Int)),(23,Vb true),(24,V.own 1 0 (List.length pre+1) (List.length pre+1)),(25,Vi (↑(List.length pre+1):Int)),(26,Vi (1:Int)),(27,Vi ((↑(List.length pre+1):Int)-(1:Int)))] [Blk.cells [Vu (0:Int),Vb false,Vi (0:Int),V.str (ByteArray.mk #[])] 28,Blk.cells (cellsL (pre++[x])) 28,Blk.cells [Vu (Stp.k s),V.str (Stp.t s),Vi (Stp.n s)] 56])))) (Prod.snd p) (kindCF C1 (26:FuncId) (Oper.mk (some 36) (Op.call (Call.mk (Callee.value (Operand.func 64)) #[Operand.tmp 31,Operand.tmp 32,Operand.tmp 35] #[56,24,23])) 28 "algebra.go:104" #[Edge.mk 3 Ground.data,Edge.mk 4 Ground.data,Edge.mk 7 Ground.data] none) (mkSt 43 [(1,V.imm false 4 (List.map eV row)),(4,V.ptr 0 0),(5,V.own 1 0 (List.length pre+1) (List.length pre+1)),(7,V.ptr 2 0),(8,Vi (1:Int)),(9,Vi ((↑(List.length pre+1):Int)-(1:Int))),(10,V.imm false 3 (List.map eS l)),(11,Vi (↑(List.length l):Int)),(12,Vi (↑i:Int)),(13,Vb true),(14,V.iptr (V.agg [Vu (Stp.k s),V.str (Stp.t s),Vi (Stp.n s)]) 0),(15,V.agg [Vu (Stp.k s),V.str (Stp.t s),Vi (Stp.n s)]),(16,V.ptr 2 0),(17,Vu (Stp.k s)),(18,Vb true),(19,V.tup [Vi (1:Int),Vb true]),(20,V.agg [Vu (Stp.k s),V.str (Stp.t s),Vi (Stp.n s)]),(21,V.tup [Vi (1:Int),Vb true]),(22,Vi (1:Int)),(23,Vb true),(24,V.own 1 0 (List.length pre+1) (List.length pre+1)),(25,Vi (↑(List.length pre+1):Int)),(26,Vi (1:Int)),(27,Vi ((↑(List.length pre+1):Int)-(1:Int))),(28,V.own 1 0 (List.length pre+1) (List.length pre+1)),(29,Vi ((↑(List.length pre+1):Int)-(1:Int))),(30,V.own 1 0 (List.length pre) (List.length pre+1)),(31,V.agg [Vu (Stp.k s),V.str (Stp.t s),Vi (Stp.n s)]),(32,V.imm false 4 (List.map eV row)),(33,V.own 1 0 (List.length pre+1) (List.length pre+1)),(34,Vi ((↑(List.length pre+1):Int)-(1:Int))),(35,V.own 1 (List.length pre*4) 1 1)] [Blk.cells [Vu (0:Int),Vb false,Vi (0:Int),V.str (ByteArray.mk #[])] 28,Blk.cells (cellsL (pre++[x])) 28,Blk.cells [Vu (Stp.k s),V.str (Stp.t s),Vi (Stp.n s)] 56]) (St.h (St.mk (St.fr (St.useAllF (mkSt 43 [(1,V.imm false 4 (List.map eV row)),(4,V.ptr 0 0),(5,V.own 1 0 (List.length pre+1) (List.length pre+1)),(7,V.ptr 2 0),(8,Vi (1:Int)),(9,Vi ((↑(List.length pre+1):Int)-(1:Int))),(10,V.imm false 3 (List.map eS l)),(11,Vi (↑(List.length l):Int)),(12,Vi (↑i:Int)),(13,Vb true),(14,V.iptr (V.agg [Vu (Stp.k s),V.str (Stp.t s),Vi (Stp.n s)]) 0),(15,V.agg [Vu (Stp.k s),V.str (Stp.t s),Vi (Stp.n s)]),(16,V.ptr 2 0),(17,Vu (Stp.k s)),(18,Vb true),(19,V.tup [Vi (1:Int),Vb true]),(20,V.agg [Vu (Stp.k s),V.str (Stp.t s),Vi (Stp.n s)]),(21,V.tup [Vi (1:Int),Vb true]),(22,Vi (1:Int)),(23,Vb true),(24,V.own 1 0 (List.length pre+1) (List.length pre+1)),(25,Vi (↑(List.length pre+1):Int)),(26,Vi (1:Int)),(27,Vi ((↑(List.length pre+1):Int)-(1:Int))),(28,V.own 1 0 (List.length pre+1) (List.length pre+1)),(29,Vi ((↑(List.length pre+1):Int)-(1:Int))),(30,V.own 1 0 (List.length pre) (List.length pre+1)),(31,V.agg [Vu (Stp.k s),V.str (Stp.t s),Vi (Stp.n s)]),(32,V.imm false 4 (List.map eV row)),(33,V.own 1 0 (List.length pre+1) (List.length pre+1)),(34,Vi ((↑(List.length pre+1):Int)-(1:Int))),(35,V.own 1 (List.length pre*4) 1 1)] [Blk.cells [Vu (0:Int),Vb false,Vi (0:Int),V.str (ByteArray.mk #[])] 28,Blk.cells (cellsL (pre++[x])) 28,Blk.cells [Vu (Stp.k s),V.str (Stp.t s),Vi (Stp.n s)] 56]) (Array.toList (Call.args (Call.mk (Callee.value (Operand.func 64)) #[Operand.tmp 31,Operand.tmp 32,Operand.tmp 35] #[56,24,23]))))) [Blk.cells [Vu (0:Int),Vb false,Vi (0:Int),V.str eT] 28,Blk.cells (cellsL (pre++[x])) (28:TypeId),Blk.cells [Vu (Stp.k s),V.str (Stp.t s),Vi (Stp.n s)] 56] (St.df (St.useAllF (mkSt 43 [(1,V.imm false 4 (List.map eV row)),(4,V.ptr 0 0),(5,V.own 1 0 (List.length pre+1) (List.length pre+1)),(7,V.ptr 2 0),(8,Vi (1:Int)),(9,Vi ((↑(List.length pre+1):Int)-(1:Int))),(10,V.imm false 3 (List.map eS l)),(11,Vi (↑(List.length l):Int)),(12,Vi (↑i:Int)),(13,Vb true),(14,V.iptr (V.agg [Vu (Stp.k s),V.str (Stp.t s),Vi (Stp.n s)]) 0),(15,V.agg [Vu (Stp.k s),V.str (Stp.t s),Vi (Stp.n s)]),(16,V.ptr 2 0),(17,Vu (Stp.k s)),(18,Vb true),(19,V.tup [Vi (1:Int),Vb true]),(20,V.agg [Vu (Stp.k s),V.str (Stp.t s),Vi (Stp.n s)]),(21,V.tup [Vi (1:Int),Vb true]),(22,Vi (1:Int)),(23,Vb true),(24,V.own 1 0 (List.length pre+1) (List.length pre+1)),(25,Vi (↑(List.length pre+1):Int)),(26,Vi (1:Int)),(27,Vi ((↑(List.length pre+1):Int)-(1:Int))),(28,V.own 1 0 (List.length pre+1) (List.length pre+1)),(29,Vi ((↑(List.length pre+1):Int)-(1:Int))),(30,V.own 1 0 (List.length pre) (List.length pre+1)),(31,V.agg [Vu (Stp.k s),V.str (Stp.t s),Vi (Stp.n s)]),(32,V.imm false 4 (List.map eV row)),(33,V.own 1 0 (List.length pre+1) (List.length pre+1)),(34,Vi ((↑(List.length pre+1):Int)-(1:Int))),(35,V.own 1 (List.length pre*4) 1 1)] [Blk.cells [Vu (0:Int),Vb false,Vi (0:Int),V.str (ByteArray.mk #[])] 28,Blk.cells (cellsL (pre++[x])) 28,Blk.cells [Vu (Stp.k s),V.str (Stp.t s),Vi (Stp.n s)] 56]) (Array.toList (Call.args (Call.mk (Callee.value (Operand.func 64)) #[Operand.tmp 31,Operand.tmp 32,Operand.tmp 35] #[56,24,23])))))))))<|.tt 5038 (decide (List.length pre+1≤List.length pre+1))<|.chk 6038 (decide (23=23∧0<4∧4=4∧0+(List.length pre+1)*4≤List.length (cellsL (pre++[x])))&&true)<|.rw 8038 [(1,setAt (cellsL (pre++[x])) (0+List.length pre*4) [Vu (Vl.k v),Vb (Vl.b v),Vi (Vl.n v),V.str (Vl.s v)],setAt (cellsL (pre++[x])) (List.length pre*4) [Vu (Vl.k v),Vb (Vl.b v),Vi (Vl.n v),V.str (Vl.s v)])] []<|.rw 8005 [(1,List.set (List.set (List.set (List.set (cellsL (pre++[x])) (List.length pre*4) (Vu (Vl.k v))) (List.length pre*4+1) (Vb (Vl.b v))) (List.length pre*4+1+1) (Vi (Vl.n v))) (List.length pre*4+1+1+1) (V.str (Vl.s v)),cellsL (pre++[v]))] []<|.rw 8039 [] [(39,Vi (IntKind.wrap IntKind.i64 ((↑i:Int)+(1:Int))),Vi (↑(i+1):Int))]<|.tob 24000 (List.all [Blk.cells [Vu (0:Int),Vb false,Vi (0:Int),V.str (ByteArray.mk #[])] 28,Blk.cells (cellsL (pre++[v])) 28] (blkBelow 2)&&true&&true) ([.cutB 2])<|.ret (.normal,mkSt 43 [(1,eRow row),(4,V.ptr 0 0),(5,V.own 1 0 (List.length pre+(0+1)) (List.length pre+(0+1))),(10,eSteps l),(11,Vi (↑(List.length l):Int)),(12,Vi (↑(i+1):Int))] (B26 (pre++[v])))) (by kernel_rfl) ?_
 exact ⟨⟨tv,by simp (disch:=omega) only [List.length_append,List.length_cons,List.length_nil,Nat.zero_add],cb (by simp [cellsL_len,cellsL_ok,cellsL_all]<;>omega),tv⟩,(idx_map _ hs),⟨tv,cb (by simp [cellsL_len,cellsL_ok,cellsL_all]<;>omega),tv⟩,(Sp.fact (ht)),⟨tv,by simp (disch:=omega) only [wrap_i64],tv⟩,by simp [cellsL_len,cellsL_ok,cellsL_all]<;>omega,⟨tv,by simp (disch:=omega) only [tn1,Nat.sub_zero,max_cast,Nat.max_self,Int.toNat_natCast],tv⟩,by simp [cellsL_len,cellsL_ok,cellsL_all]<;>omega,⟨tv,by simp (disch:=omega) only [tn1,Nat.zero_add,Int.toNat_natCast,nn1,max_cast,Nat.max_self],tv⟩,(SpH.fact (hk3)),by (change (true&&List.all _ _)=true;refine Eq.trans (b:=(sameC.sameCs (cellsL (pre++[x])) (cellsL (pre++[x]))&&true)) ?_ (by simp only [cellsL_same,Bool.and_self]);kernel_rfl),by simp [cellsL_len,cellsL_ok,cellsL_all]<;>omega,by simp [cellsL_len,cellsL_ok,cellsL_all]<;>omega,⟨⟨by simp (disch:=omega) only [Nat.zero_add],tv⟩,tv⟩,⟨⟨by simp (disch:=omega) only [set4L],tv⟩,tv⟩,⟨tv,by simp (disch:=omega) only [cast_succ,wrap_i64],tv⟩,by simp [blkBelow,refB1,cellsL_below],(ih)⟩
theorem v26_2 (l:List Stp) (row pre fin:List Vl) (x y v:Vl) (i:Nat) (s:Stp) (hb:l.length≤64) (hst:pre.length+2≤i) (hs:l[i]?=some s) (hf:FineS s) (h6:TkOk s) (h7:11≤s.k) (h8:s.k≤21) (hx:Gv x) (hy:Gv y) (hv:step2 s x y=v)
  (ih:LoopK C1 26 24 K26 (S26 l row (pre++[v]) (i+1)) (.exit 0) (F26 fin)):LoopK C1 26 24 K26 (S26 l row (pre++[x,y]) i) (.exit 0) (F26 fin):=by
 have hi:=(List.getElem?_eq_some_iff.1 hs).1
 have ht:=takes_sp s hf (by omega)
 have e1:tkN s=2:=by unfold tkN;rw [if_neg (by simpa using h6),if_neg (by omega),if_neg (by omega)]
 have e2:tkOk s=true:=by unfold tkOk;simpa using h6
 rw [e1,e2] at ht
 have hk2:=step2_sp s row x y hx hy h7 h8
 rw [hv] at hk2
 have hk3:=lend_step s row pre [x,y] v (.cells [.int .u8 0,.bool false,.int .i64 0,.str eT] 28) (.cells [.int .u8 s.k,.str s.t,.int .i64 s.n] 56) hk2
 clear hk2
 unfold S26 at ih
 simp only [List.length_append,List.length_cons,List.length_nil] at ih
 refine loop_tree draws (rd:=true) (kn:=K26) (ke:=E26) (
  .rw 8013 [] [(5,V.own 1 0 (List.length (pre++[x,y])) (List.length (pre++[x,y])),V.own 1 0 (List.length pre+(1+1)) (List.length pre+(1+1))),(13,Vb (decide ((↑i:Int)<(↑(List.length l):Int))),Vb true)]<|.opt 14 (idx (List.map eS l) (↑i:Int)) (eS s)<|.rw 8018 [] [(18,Vb (Stp.k s !=(6:Int)),Vb true)]<|.call 21 (63) ([eS s]) ([]) (Fr (V.tup [Vi (2:Int),Vb true]) [])<|.rw 8027 [] [(27,Vi (IntKind.wrap IntKind.i64 ((↑(List.length pre+2):Int)-(2:Int))),Vi ((↑(List.length pre+2):Int)-(2:Int)))]<|.chk 30 (decide ((0:Int)≤(0:Int)∧(0:Int)≤(↑(List.length pre+2):Int)-(2:Int)∧(↑(List.length pre+2):Int)-(2:Int)≤max (↑(List.length pre+2):Int) (↑(List.length pre+2):Int)∧max (↑(List.length pre+2):Int) (↑(List.length pre+2):Int)≤(↑(max (List.length pre+2) (List.length pre+2)):Int))&&true)<|.rw 8030 [] [(30,V.own 1 0 (Int.toNat ((↑(List.length pre+2):Int)-(2:Int))-0) (Int.toNat (max (↑(List.length pre+2):Int) (↑(List.length pre+2):Int))-0),V.own 1 0 (List.length pre) (List.length pre+2))]<|.chk 35 (decide ((0:Int)≤(↑(List.length pre+2):Int)-(2:Int)∧(↑(List.length pre+2):Int)-(2:Int)≤(↑(List.length pre+2):Int)∧(↑(List.length pre+2):Int)≤max (↑(List.length pre+2):Int) (↑(List.length pre+2):Int)∧max (↑(List.length pre+2):Int) (↑(List.length pre+2):Int)≤(↑(max (List.length pre+2) (List.length pre+2)):Int))&&true)<|.rw 8035 [] [(35,V.own 1 (0+Int.toNat ((↑(List.length pre+2):Int)-(2:Int))*4) (Int.toNat (↑(List.length pre+2):Int)-Int.toNat ((↑(List.length pre+2):Int)-(2:Int))) (Int.toNat (max (↑(List.length pre+2):Int) (↑(List.length pre+2):Int))-Int.toNat ((↑(List.length pre+2):Int)-(2:Int))),V.own 1 (List.length pre*4) 2 2)]<|.call 36 (64) ([eS s,eRow row,V.own 1 (List.length pre*4) (List.length [x,y]) (List.length [x,y])]) ([Blk.cells [Vu (0:Int),Vb false,Vi (0:Int),V.str eT] 28,Blk.cells (cellsL (pre++[x,y])) (28:TypeId),Blk.cells [Vu (Stp.k s),V.str (Stp.t s),Vi (Stp.n s)] 56]) (Fr (eV v) [Blk.cells [Vu (0:Int),Vb false,Vi (0:Int),V.str eT] 28,Blk.cells (cellsL (pre++[x,y])) (28:TypeId),Blk.cells [Vu (Stp.k s),V.str (Stp.t s),Vi (Stp.n s)] 56])<|.chk 5536 (true&&List.all [(7,Kd.rd 1 0 0),(6,Kd.none),(5,Kd.none),(4,Kd.none),(3,Kd.rd 2 0 3),(2,Kd.rd 1 0 0),(1,Kd.none),(0,Kd.none)] fun p=>!unAtF [0,1,0,7,15,31,63,31,7,7,0,0] (Prod.fst p) (nat_lit 8)||compatKF (List.length (St.h (Prod.snd (Ex.normal,mkSt 43 [(1,V.imm false 4 (List.map eV row)),(4,V.ptr 0 0),(5,V.own 1 0 (List.length pre+2) (List.length pre+2)),(7,V.ptr 2 0),(8,Vi (2:Int)),(9,Vi ((↑(List.length pre+2):Int)-(2:Int))),(10,V.imm false 3 (List.map eS l)),(11,Vi (↑(List.length l):Int)),(12,Vi (↑i:Int)),(13,Vb true),(14,V.iptr (V.agg [Vu (Stp.k s),V.str (Stp.t s),Vi (Stp.n s)]) 0),(15,V.agg [Vu (Stp.k s),V.str (Stp.t s),Vi (Stp.n s)]),(16,V.ptr 2 0),(17,Vu (Stp.k s)),(18,Vb true),(19,V.tup [Vi (2:Int),Vb true]),(20,V.agg [Vu (Stp.k s),V.str (Stp.t s),Vi (Stp.n s)]),(21,V.tup [Vi (2:Int),Vb true]),(22,Vi (2:Int)),(23,Vb true),(24,V.own 1 0 (List.length pre+2) (List.length pre+2)),(25,Vi (↑(List.length pre+2):Int)),(26,Vi (2:Int)),(27,Vi ((↑(List.length pre+2):Int)-(2:Int)))] [Blk.cells [Vu (0:Int),Vb false,Vi (0:Int),V.str (ByteArray.mk #[])] 28,Blk.cells (cellsL (pre++[x,y])) 28,Blk.cells [Vu (Stp.k s),V.str (Stp.t s),Vi (Stp.n s)] 56])))) (Prod.snd p) (kindCF C1 (26:FuncId) (Oper.mk (some 36) (Op.call (Call.mk (Callee.value (Operand.func 64)) #[Operand.tmp 31,Operand.tmp 32,Operand.tmp 35] #[56,24,23])) 28 "algebra.go:104" #[Edge.mk 3 Ground.data,Edge.mk 4 Ground.data,Edge.mk 7 Ground.data] none) (mkSt 43 [(1,V.imm false 4 (List.map eV row)),(4,V.ptr 0 0),(5,V.own 1 0 (List.length pre+2) (List.length pre+2)),(7,V.ptr 2 0),(8,Vi (2:Int)),(9,Vi ((↑(List.length pre+2):Int)-(2:Int))),(10,V.imm false 3 (List.map eS l)),(11,Vi (↑(List.length l):Int)),(12,Vi (↑i:Int)),(13,Vb true),(14,V.iptr (V.agg [Vu (Stp.k s),V.str (Stp.t s),Vi (Stp.n s)]) 0),(15,V.agg [Vu (Stp.k s),V.str (Stp.t s),Vi (Stp.n s)]),(16,V.ptr 2 0),(17,Vu (Stp.k s)),(18,Vb true),(19,V.tup [Vi (2:Int),Vb true]),(20,V.agg [Vu (Stp.k s),V.str (Stp.t s),Vi (Stp.n s)]),(21,V.tup [Vi (2:Int),Vb true]),(22,Vi (2:Int)),(23,Vb true),(24,V.own 1 0 (List.length pre+2) (List.length pre+2)),(25,Vi (↑(List.length pre+2):Int)),(26,Vi (2:Int)),(27,Vi ((↑(List.length pre+2):Int)-(2:Int))),(28,V.own 1 0 (List.length pre+2) (List.length pre+2)),(29,Vi ((↑(List.length pre+2):Int)-(2:Int))),(30,V.own 1 0 (List.length pre) (List.length pre+2)),(31,V.agg [Vu (Stp.k s),V.str (Stp.t s),Vi (Stp.n s)]),(32,V.imm false 4 (List.map eV row)),(33,V.own 1 0 (List.length pre+2) (List.length pre+2)),(34,Vi ((↑(List.length pre+2):Int)-(2:Int))),(35,V.own 1 (List.length pre*4) 2 2)] [Blk.cells [Vu (0:Int),Vb false,Vi (0:Int),V.str (ByteArray.mk #[])] 28,Blk.cells (cellsL (pre++[x,y])) 28,Blk.cells [Vu (Stp.k s),V.str (Stp.t s),Vi (Stp.n s)] 56]) (St.h (St.mk (St.fr (St.useAllF (mkSt 43 [(1,V.imm false 4 (List.map eV row)),(4,V.ptr 0 0),(5,V.own 1 0 (List.length pre+2) (List.length pre+2)),(7,V.ptr 2 0),(8,Vi (2:Int)),(9,Vi ((↑(List.length pre+2):Int)-(2:Int))),(10,V.imm false 3 (List.map eS l)),(11,Vi (↑(List.length l):Int)),(12,Vi (↑i:Int)),(13,Vb true),(14,V.iptr (V.agg [Vu (Stp.k s),V.str (Stp.t s),Vi (Stp.n s)]) 0),(15,V.agg [Vu (Stp.k s),V.str (Stp.t s),Vi (Stp.n s)]),(16,V.ptr 2 0),(17,Vu (Stp.k s)),(18,Vb true),(19,V.tup [Vi (2:Int),Vb true]),(20,V.agg [Vu (Stp.k s),V.str (Stp.t s),Vi (Stp.n s)]),(21,V.tup [Vi (2:Int),Vb true]),(22,Vi (2:Int)),(23,Vb true),(24,V.own 1 0 (List.length pre+2) (List.length pre+2)),(25,Vi (↑(List.length pre+2):Int)),(26,Vi (2:Int)),(27,Vi ((↑(List.length pre+2):Int)-(2:Int))),(28,V.own 1 0 (List.length pre+2) (List.length pre+2)),(29,Vi ((↑(List.length pre+2):Int)-(2:Int))),(30,V.own 1 0 (List.length pre) (List.length pre+2)),(31,V.agg [Vu (Stp.k s),V.str (Stp.t s),Vi (Stp.n s)]),(32,V.imm false 4 (List.map eV row)),(33,V.own 1 0 (List.length pre+2) (List.length pre+2)),(34,Vi ((↑(List.length pre+2):Int)-(2:Int))),(35,V.own 1 (List.length pre*4) 2 2)] [Blk.cells [Vu (0:Int),Vb false,Vi (0:Int),V.str (ByteArray.mk #[])] 28,Blk.cells (cellsL (pre++[x,y])) 28,Blk.cells [Vu (Stp.k s),V.str (Stp.t s),Vi (Stp.n s)] 56]) (Array.toList (Call.args (Call.mk (Callee.value (Operand.func 64)) #[Operand.tmp 31,Operand.tmp 32,Operand.tmp 35] #[56,24,23]))))) [Blk.cells [Vu (0:Int),Vb false,Vi (0:Int),V.str eT] 28,Blk.cells (cellsL (pre++[x,y])) (28:TypeId),Blk.cells [Vu (Stp.k s),V.str (Stp.t s),Vi (Stp.n s)] 56] (St.df (St.useAllF (mkSt 43 [(1,V.imm false 4 (List.map eV row)),(4,V.ptr 0 0),(5,V.own 1 0 (List.length pre+2) (List.length pre+2)),(7,V.ptr 2 0),(8,Vi (2:Int)),(9,Vi ((↑(List.length pre+2):Int)-(2:Int))),(10,V.imm false 3 (List.map eS l)),(11,Vi (↑(List.length l):Int)),(12,Vi (↑i:Int)),(13,Vb true),(14,V.iptr (V.agg [Vu (Stp.k s),V.str (Stp.t s),Vi (Stp.n s)]) 0),(15,V.agg [Vu (Stp.k s),V.str (Stp.t s),Vi (Stp.n s)]),(16,V.ptr 2 0),(17,Vu (Stp.k s)),(18,Vb true),(19,V.tup [Vi (2:Int),Vb true]),(20,V.agg [Vu (Stp.k s),V.str (Stp.t s),Vi (Stp.n s)]),(21,V.tup [Vi (2:Int),Vb true]),(22,Vi (2:Int)),(23,Vb true),(24,V.own 1 0 (List.length pre+2) (List.length pre+2)),(25,Vi (↑(List.length pre+2):Int)),(26,Vi (2:Int)),(27,Vi ((↑(List.length pre+2):Int)-(2:Int))),(28,V.own 1 0 (List.length pre+2) (List.length pre+2)),(29,Vi ((↑(List.length pre+2):Int)-(2:Int))),(30,V.own 1 0 (List.length pre) (List.length pre+2)),(31,V.agg [Vu (Stp.k s),V.str (Stp.t s),Vi (Stp.n s)]),(32,V.imm false 4 (List.map eV row)),(33,V.own 1 0 (List.length pre+2) (List.length pre+2)),(34,Vi ((↑(List.length pre+2):Int)-(2:Int))),(35,V.own 1 (List.length pre*4) 2 2)] [Blk.cells [Vu (0:Int),Vb false,Vi (0:Int),V.str (ByteArray.mk #[])] 28,Blk.cells (cellsL (pre++[x,y])) 28,Blk.cells [Vu (Stp.k s),V.str (Stp.t s),Vi (Stp.n s)] 56]) (Array.toList (Call.args (Call.mk (Callee.value (Operand.func 64)) #[Operand.tmp 31,Operand.tmp 32,Operand.tmp 35] #[56,24,23])))))))))<|.tt 5038 (decide (List.length pre+1≤List.length pre+2))<|.chk 6038 (decide (23=23∧0<4∧4=4∧0+(List.length pre+1)*4≤List.length (cellsL (pre++[x,y])))&&true)<|.rw 8038 [(1,setAt (cellsL (pre++[x,y])) (0+List.length pre*4) [Vu (Vl.k v),Vb (Vl.b v),Vi (Vl.n v),V.str (Vl.s v)],setAt (cellsL (pre++[x,y])) (List.length pre*4) [Vu (Vl.k v),Vb (Vl.b v),Vi (Vl.n v),V.str (Vl.s v)])] []<|.rw 8005 [(1,List.set (List.set (List.set (List.set (cellsL (pre++[x,y])) (List.length pre*4) (Vu (Vl.k v))) (List.length pre*4+1) (Vb (Vl.b v))) (List.length pre*4+1+1) (Vi (Vl.n v))) (List.length pre*4+1+1+1) (V.str (Vl.s v)),cellsL (pre++[v,y]))] []<|.rw 8039 [] [(39,Vi (IntKind.wrap IntKind.i64 ((↑i:Int)+(1:Int))),Vi (↑(i+1):Int))]<|.to 8039 ([.trim 1 ((pre.length+1)*4),.room 5])<|.rw 8012 [(1,List.take ((List.length pre+1)*4) (cellsL (pre++[v,y])),cellsL (pre++[v]))] []<|.tob 24000 (List.all [Blk.cells [Vu (0:Int),Vb false,Vi (0:Int),V.str (ByteArray.mk #[])] 28,Blk.cells (cellsL (pre++[v])) 28] (blkBelow 2)&&true&&true) ([.cutB 2])<|.ret (.normal,mkSt 43 [(1,eRow row),(4,V.ptr 0 0),(5,V.own 1 0 (List.length pre+(0+1)) (List.length pre+(0+1))),(10,eSteps l),(11,Vi (↑(List.length l):Int)),(12,Vi (↑(i+1):Int))] (B26 (pre++[v])))) (by kernel_rfl) ?_
 exact ⟨⟨tv,by simp (disch:=omega) only [List.length_append,List.length_cons,List.length_nil,Nat.zero_add],cb (by simp [cellsL_len,cellsL_ok,cellsL_all]<;>omega),tv⟩,(idx_map _ hs),⟨tv,cb (by simp [cellsL_len,cellsL_ok,cellsL_all]<;>omega),tv⟩,(Sp.fact (ht)),⟨tv,by simp (disch:=omega) only [wrap_i64],tv⟩,by simp [cellsL_len,cellsL_ok,cellsL_all]<;>omega,⟨tv,by simp (disch:=omega) only [tn2,Nat.sub_zero,max_cast,Nat.max_self,Int.toNat_natCast],tv⟩,by simp [cellsL_len,cellsL_ok,cellsL_all]<;>omega,⟨tv,by simp (disch:=omega) only [tn2,Nat.zero_add,Int.toNat_natCast,nn2,max_cast,Nat.max_self],tv⟩,(SpH.fact (hk3)),by (change (true&&List.all _ _)=true;refine Eq.trans (b:=(sameC.sameCs (cellsL (pre++[x,y])) (cellsL (pre++[x,y]))&&true)) ?_ (by simp only [cellsL_same,Bool.and_self]);kernel_rfl),by simp [cellsL_len,cellsL_ok,cellsL_all]<;>omega,by simp [cellsL_len,cellsL_ok,cellsL_all]<;>omega,⟨⟨by simp (disch:=omega) only [Nat.zero_add],tv⟩,tv⟩,⟨⟨by simp (disch:=omega) only [set4L],tv⟩,tv⟩,⟨tv,by simp (disch:=omega) only [cast_succ,wrap_i64],tv⟩,⟨⟨by simp (disch:=omega) only [take4L],tv⟩,tv⟩,by simp [blkBelow,refB1,cellsL_below],(ih)⟩
theorem tell26 (st:List Vl):([Blk.cells [V.int .u8 0,V.bool false,V.int .i64 0,V.str {data:=#[]}] 28,Blk.cells (cellsL st) 28].all pkBlk&&true)=true:=by
 have h:=cellsL_pk st
 simp only [List.all_cons,List.all_nil,pkBlk,h]
 rfl
theorem v26_0 (l:List Stp) (row st fin:List Vl) (v:Vl) (i:Nat) (s:Stp) (hb:l.length≤64) (hst:st.length≤i) (hs:l[i]?=some s) (hf:FineS s) (h6:TkOk s) (h7:1≤s.k) (h8:s.k≤5) (hv:step0 s=v)
  (ih:LoopK C1 26 24 K26 (S26 l row (st++[v]) (i+1)) (.exit 0) (F26 fin)):LoopK C1 26 24 K26 (S26 l row st i) (.exit 0) (F26 fin):=by
 have hi:=(List.getElem?_eq_some_iff.1 hs).1
 have ht:=takes_sp s hf (by omega)
 have e1:tkN s=0:=by unfold tkN;rw [if_neg (by simpa using h6),if_pos (by omega)]
 have e2:tkOk s=true:=by unfold tkOk;simpa using h6
 rw [e1,e2] at ht
 have hk2:=step0_sp s row [] h7 h8
 rw [hv] at hk2
 have hk3:=lend_step s row st [] v (.cells [.int .u8 0,.bool false,.int .i64 0,.str eT] 28) (.cells [.int .u8 s.k,.str s.t,.int .i64 s.n] 56) hk2
 rw [List.append_nil] at hk3
 simp only [List.length_nil] at hk3
 clear hk2
 unfold S26 at ih
 simp only [List.length_append,List.length_cons,List.length_nil] at ih
 refine loop_tree draws (rd:=true) (kn:=K26) (ke:=E26) (
  .rw 8013 [] [(13,Vb (decide ((↑i:Int)<(↑(List.length l):Int))),Vb true)]<|.opt 14 (idx (List.map eS l) (↑i:Int)) (eS s)<|.rw 8018 [] [(18,Vb (Stp.k s !=(6:Int)),Vb true)]<|.call 21 (63) ([eS s]) ([]) (Fr (V.tup [Vi (0:Int),Vb true]) [])<|.rw 8027 [] [(27,Vi (IntKind.wrap IntKind.i64 ((↑(List.length st):Int)-(0:Int))),Vi ((↑(List.length st):Int)-(0:Int)))]<|.chk 30 (decide ((0:Int)≤(0:Int)∧(0:Int)≤(↑(List.length st):Int)-(0:Int)∧(↑(List.length st):Int)-(0:Int)≤max (↑(List.length st):Int) (↑(List.length st):Int)∧max (↑(List.length st):Int) (↑(List.length st):Int)≤(↑(max (List.length st) (List.length st)):Int))&&true)<|.rw 8030 [] [(30,V.own 1 0 (Int.toNat ((↑(List.length st):Int)-(0:Int))-0) (Int.toNat (max (↑(List.length st):Int) (↑(List.length st):Int))-0),V.own 1 0 (List.length st) (List.length st))]<|.chk 35 (decide ((0:Int)≤(↑(List.length st):Int)-(0:Int)∧(↑(List.length st):Int)-(0:Int)≤(↑(List.length st):Int)∧(↑(List.length st):Int)≤max (↑(List.length st):Int) (↑(List.length st):Int)∧max (↑(List.length st):Int) (↑(List.length st):Int)≤(↑(max (List.length st) (List.length st)):Int))&&true)<|.rw 8035 [] [(35,V.own 1 (0+Int.toNat ((↑(List.length st):Int)-(0:Int))*4) (Int.toNat (↑(List.length st):Int)-Int.toNat ((↑(List.length st):Int)-(0:Int))) (Int.toNat (max (↑(List.length st):Int) (↑(List.length st):Int))-Int.toNat ((↑(List.length st):Int)-(0:Int))),V.own 1 (List.length st*4) 0 0)]<|.call 36 (64) ([eS s,eRow row,V.own 1 (List.length st*4) 0 0]) ([Blk.cells [Vu (0:Int),Vb false,Vi (0:Int),V.str eT] 28,Blk.cells (cellsL st) (28:TypeId),Blk.cells [Vu (Stp.k s),V.str (Stp.t s),Vi (Stp.n s)] 56]) (Fr (eV v) [Blk.cells [Vu (0:Int),Vb false,Vi (0:Int),V.str eT] 28,Blk.cells (cellsL st) (28:TypeId),Blk.cells [Vu (Stp.k s),V.str (Stp.t s),Vi (Stp.n s)] 56])<|.chk 5536 (true&&List.all [(7,Kd.rd 1 0 0),(6,Kd.none),(5,Kd.none),(4,Kd.none),(3,Kd.rd 2 0 3),(2,Kd.rd 1 0 0),(1,Kd.none),(0,Kd.none)] fun p=>!unAtF [0,1,0,7,15,31,63,31,7,7,0,0] (Prod.fst p) (nat_lit 8)||compatKF (List.length (St.h (Prod.snd (Ex.normal,mkSt 43 [(1,V.imm false 4 (List.map eV row)),(4,V.ptr 0 0),(5,V.own 1 0 (List.length st) (List.length st)),(7,V.ptr 2 0),(8,Vi (0:Int)),(9,Vi ((↑(List.length st):Int)-(0:Int))),(10,V.imm false 3 (List.map eS l)),(11,Vi (↑(List.length l):Int)),(12,Vi (↑i:Int)),(13,Vb true),(14,V.iptr (V.agg [Vu (Stp.k s),V.str (Stp.t s),Vi (Stp.n s)]) 0),(15,V.agg [Vu (Stp.k s),V.str (Stp.t s),Vi (Stp.n s)]),(16,V.ptr 2 0),(17,Vu (Stp.k s)),(18,Vb true),(19,V.tup [Vi (0:Int),Vb true]),(20,V.agg [Vu (Stp.k s),V.str (Stp.t s),Vi (Stp.n s)]),(21,V.tup [Vi (0:Int),Vb true]),(22,Vi (0:Int)),(23,Vb true),(24,V.own 1 0 (List.length st) (List.length st)),(25,Vi (↑(List.length st):Int)),(26,Vi (0:Int)),(27,Vi ((↑(List.length st):Int)-(0:Int)))] [Blk.cells [Vu (0:Int),Vb false,Vi (0:Int),V.str (ByteArray.mk #[])] 28,Blk.cells (cellsL st) 28,Blk.cells [Vu (Stp.k s),V.str (Stp.t s),Vi (Stp.n s)] 56])))) (Prod.snd p) (kindCF C1 (26:FuncId) (Oper.mk (some 36) (Op.call (Call.mk (Callee.value (Operand.func 64)) #[Operand.tmp 31,Operand.tmp 32,Operand.tmp 35] #[56,24,23])) 28 "algebra.go:104" #[Edge.mk 3 Ground.data,Edge.mk 4 Ground.data,Edge.mk 7 Ground.data] none) (mkSt 43 [(1,V.imm false 4 (List.map eV row)),(4,V.ptr 0 0),(5,V.own 1 0 (List.length st) (List.length st)),(7,V.ptr 2 0),(8,Vi (0:Int)),(9,Vi ((↑(List.length st):Int)-(0:Int))),(10,V.imm false 3 (List.map eS l)),(11,Vi (↑(List.length l):Int)),(12,Vi (↑i:Int)),(13,Vb true),(14,V.iptr (V.agg [Vu (Stp.k s),V.str (Stp.t s),Vi (Stp.n s)]) 0),(15,V.agg [Vu (Stp.k s),V.str (Stp.t s),Vi (Stp.n s)]),(16,V.ptr 2 0),(17,Vu (Stp.k s)),(18,Vb true),(19,V.tup [Vi (0:Int),Vb true]),(20,V.agg [Vu (Stp.k s),V.str (Stp.t s),Vi (Stp.n s)]),(21,V.tup [Vi (0:Int),Vb true]),(22,Vi (0:Int)),(23,Vb true),(24,V.own 1 0 (List.length st) (List.length st)),(25,Vi (↑(List.length st):Int)),(26,Vi (0:Int)),(27,Vi ((↑(List.length st):Int)-(0:Int))),(28,V.own 1 0 (List.length st) (List.length st)),(29,Vi ((↑(List.length st):Int)-(0:Int))),(30,V.own 1 0 (List.length st) (List.length st)),(31,V.agg [Vu (Stp.k s),V.str (Stp.t s),Vi (Stp.n s)]),(32,V.imm false 4 (List.map eV row)),(33,V.own 1 0 (List.length st) (List.length st)),(34,Vi ((↑(List.length st):Int)-(0:Int))),(35,V.own 1 (List.length st*4) 0 0)] [Blk.cells [Vu (0:Int),Vb false,Vi (0:Int),V.str (ByteArray.mk #[])] 28,Blk.cells (cellsL st) 28,Blk.cells [Vu (Stp.k s),V.str (Stp.t s),Vi (Stp.n s)] 56]) (St.h (St.mk (St.fr (St.useAllF (mkSt 43 [(1,V.imm false 4 (List.map eV row)),(4,V.ptr 0 0),(5,V.own 1 0 (List.length st) (List.length st)),(7,V.ptr 2 0),(8,Vi (0:Int)),(9,Vi ((↑(List.length st):Int)-(0:Int))),(10,V.imm false 3 (List.map eS l)),(11,Vi (↑(List.length l):Int)),(12,Vi (↑i:Int)),(13,Vb true),(14,V.iptr (V.agg [Vu (Stp.k s),V.str (Stp.t s),Vi (Stp.n s)]) 0),(15,V.agg [Vu (Stp.k s),V.str (Stp.t s),Vi (Stp.n s)]),(16,V.ptr 2 0),(17,Vu (Stp.k s)),(18,Vb true),(19,V.tup [Vi (0:Int),Vb true]),(20,V.agg [Vu (Stp.k s),V.str (Stp.t s),Vi (Stp.n s)]),(21,V.tup [Vi (0:Int),Vb true]),(22,Vi (0:Int)),(23,Vb true),(24,V.own 1 0 (List.length st) (List.length st)),(25,Vi (↑(List.length st):Int)),(26,Vi (0:Int)),(27,Vi ((↑(List.length st):Int)-(0:Int))),(28,V.own 1 0 (List.length st) (List.length st)),(29,Vi ((↑(List.length st):Int)-(0:Int))),(30,V.own 1 0 (List.length st) (List.length st)),(31,V.agg [Vu (Stp.k s),V.str (Stp.t s),Vi (Stp.n s)]),(32,V.imm false 4 (List.map eV row)),(33,V.own 1 0 (List.length st) (List.length st)),(34,Vi ((↑(List.length st):Int)-(0:Int))),(35,V.own 1 (List.length st*4) 0 0)] [Blk.cells [Vu (0:Int),Vb false,Vi (0:Int),V.str (ByteArray.mk #[])] 28,Blk.cells (cellsL st) 28,Blk.cells [Vu (Stp.k s),V.str (Stp.t s),Vi (Stp.n s)] 56]) (Array.toList (Call.args (Call.mk (Callee.value (Operand.func 64)) #[Operand.tmp 31,Operand.tmp 32,Operand.tmp 35] #[56,24,23]))))) [Blk.cells [Vu (0:Int),Vb false,Vi (0:Int),V.str eT] 28,Blk.cells (cellsL st) (28:TypeId),Blk.cells [Vu (Stp.k s),V.str (Stp.t s),Vi (Stp.n s)] 56] (St.df (St.useAllF (mkSt 43 [(1,V.imm false 4 (List.map eV row)),(4,V.ptr 0 0),(5,V.own 1 0 (List.length st) (List.length st)),(7,V.ptr 2 0),(8,Vi (0:Int)),(9,Vi ((↑(List.length st):Int)-(0:Int))),(10,V.imm false 3 (List.map eS l)),(11,Vi (↑(List.length l):Int)),(12,Vi (↑i:Int)),(13,Vb true),(14,V.iptr (V.agg [Vu (Stp.k s),V.str (Stp.t s),Vi (Stp.n s)]) 0),(15,V.agg [Vu (Stp.k s),V.str (Stp.t s),Vi (Stp.n s)]),(16,V.ptr 2 0),(17,Vu (Stp.k s)),(18,Vb true),(19,V.tup [Vi (0:Int),Vb true]),(20,V.agg [Vu (Stp.k s),V.str (Stp.t s),Vi (Stp.n s)]),(21,V.tup [Vi (0:Int),Vb true]),(22,Vi (0:Int)),(23,Vb true),(24,V.own 1 0 (List.length st) (List.length st)),(25,Vi (↑(List.length st):Int)),(26,Vi (0:Int)),(27,Vi ((↑(List.length st):Int)-(0:Int))),(28,V.own 1 0 (List.length st) (List.length st)),(29,Vi ((↑(List.length st):Int)-(0:Int))),(30,V.own 1 0 (List.length st) (List.length st)),(31,V.agg [Vu (Stp.k s),V.str (Stp.t s),Vi (Stp.n s)]),(32,V.imm false 4 (List.map eV row)),(33,V.own 1 0 (List.length st) (List.length st)),(34,Vi ((↑(List.length st):Int)-(0:Int))),(35,V.own 1 (List.length st*4) 0 0)] [Blk.cells [Vu (0:Int),Vb false,Vi (0:Int),V.str (ByteArray.mk #[])] 28,Blk.cells (cellsL st) 28,Blk.cells [Vu (Stp.k s),V.str (Stp.t s),Vi (Stp.n s)] 56]) (Array.toList (Call.args (Call.mk (Callee.value (Operand.func 64)) #[Operand.tmp 31,Operand.tmp 32,Operand.tmp 35] #[56,24,23])))))))))<|.ff 5038 (decide (List.length st+1≤List.length st))<|.chk 6038 (decide (23=23∧28=28∧0=0∧0<4∧0<32∧4=4∧4=4∧List.length st*4≤List.length (cellsL st)∧0<1∧(List.length st+1)*32≤140737488355328)&&true&&true&&List.all (List.take (List.length st*4) (cellsL st)) fun c=>!isLin1 c&&okV c)<|.rw 8038 [(3,List.take (List.length st*4) (cellsL st)++[Vu (Vl.k v),Vb (Vl.b v),Vi (Vl.n v),V.str (Vl.s v)],cellsL (st++[v]))] []<|.rw 8039 [] [(39,Vi (IntKind.wrap IntKind.i64 ((↑i:Int)+(1:Int))),Vi (↑(i+1):Int))]<|.tob 24000 (List.all [Blk.cells [Vu (0:Int),Vb false,Vi (0:Int),V.str (ByteArray.mk #[])] 28,Blk.cells (cellsL (st++[v])) 28] pkBlk&&true) ([.packB [0,3]])<|.ret (.normal,mkSt 43 [(1,eRow row),(4,V.ptr 0 0),(5,V.own 1 0 (List.length st+(0+1)) (List.length st+(0+1))),(10,eSteps l),(11,Vi (↑(List.length l):Int)),(12,Vi (↑(i+1):Int))] (B26 (st++[v])))) (by kernel_rfl) ?_
 exact ⟨⟨tv,cb (by simp [cellsL_len,cellsL_ok,cellsL_all]<;>omega),tv⟩,(idx_map _ hs),⟨tv,cb (by simp [cellsL_len,cellsL_ok,cellsL_all]<;>omega),tv⟩,(Sp.fact (ht)),⟨tv,by simp (disch:=omega) only [wrap_i64],tv⟩,by simp [cellsL_len,cellsL_ok,cellsL_all]<;>omega,⟨tv,by simp (disch:=omega) only [tn0,Nat.sub_zero,max_cast,Nat.max_self,Int.toNat_natCast],tv⟩,by simp [cellsL_len,cellsL_ok,cellsL_all]<;>omega,⟨tv,by simp (disch:=omega) only [tn0,Nat.zero_add,Int.toNat_natCast,Nat.sub_self,max_cast,Nat.max_self],tv⟩,(SpH.fact (hk3)),by (change (true&&List.all _ _)=true;refine Eq.trans (b:=(sameC.sameCs (cellsL (st)) (cellsL (st))&&true)) ?_ (by simp only [cellsL_same,Bool.and_self]);kernel_rfl),by simp [cellsL_len,cellsL_ok,cellsL_all]<;>omega,by simp [cellsL_len,cellsL_ok,cellsL_all]<;>omega,⟨⟨by simp (disch:=omega) only [cellsL_all,cellsL_snoc],tv⟩,tv⟩,⟨tv,by simp (disch:=omega) only [cast_succ,wrap_i64],tv⟩,(tell26 _),(ih)⟩
theorem v26_col (l:List Stp) (row st fin:List Vl) (v:Vl) (i:Nat) (s:Stp) (hb:l.length≤64) (hst:st.length≤i) (hs:l[i]?=some s) (h6:s.k=6) (m:Nat) (hn:s.n=(m:Int)) (hv:row[m]?=some v)
  (ih:LoopK C1 26 24 K26 (S26 l row (st++[v]) (i+1)) (.exit 0) (F26 fin)):LoopK C1 26 24 K26 (S26 l row st i) (.exit 0) (F26 fin):=by
 have hi:=(List.getElem?_eq_some_iff.1 hs).1
 have hk2:=stepC_sp s row [] h6 m v hn hv
 have hk3:=lend_step s row st [] v (.cells [.int .u8 0,.bool false,.int .i64 0,.str eT] 28) (.cells [.int .u8 s.k,.str s.t,.int .i64 s.n] 56) hk2
 rw [List.append_nil] at hk3
 simp only [List.length_nil] at hk3
 clear hk2
 unfold S26 at ih
 simp only [List.length_append,List.length_cons,List.length_nil] at ih
 refine loop_tree draws (rd:=true) (kn:=K26) (ke:=E26) (
  .rw 8013 [] [(13,Vb (decide ((↑i:Int)<(↑(List.length l):Int))),Vb true)]<|.opt 14 (idx (List.map eS l) (↑i:Int)) (eS s)<|.rw 8018 [] [(18,Vb (Stp.k s !=(6:Int)),Vb false)]<|.rw 8027 [] [(27,Vi (IntKind.wrap IntKind.i64 ((↑(List.length st):Int)-(0:Int))),Vi ((↑(List.length st):Int)-(0:Int)))]<|.chk 30 (decide ((0:Int)≤(0:Int)∧(0:Int)≤(↑(List.length st):Int)-(0:Int)∧(↑(List.length st):Int)-(0:Int)≤max (↑(List.length st):Int) (↑(List.length st):Int)∧max (↑(List.length st):Int) (↑(List.length st):Int)≤(↑(max (List.length st) (List.length st)):Int))&&true)<|.rw 8030 [] [(30,V.own 1 0 (Int.toNat ((↑(List.length st):Int)-(0:Int))-0) (Int.toNat (max (↑(List.length st):Int) (↑(List.length st):Int))-0),V.own 1 0 (List.length st) (List.length st))]<|.chk 35 (decide ((0:Int)≤(↑(List.length st):Int)-(0:Int)∧(↑(List.length st):Int)-(0:Int)≤(↑(List.length st):Int)∧(↑(List.length st):Int)≤max (↑(List.length st):Int) (↑(List.length st):Int)∧max (↑(List.length st):Int) (↑(List.length st):Int)≤(↑(max (List.length st) (List.length st)):Int))&&true)<|.rw 8035 [] [(35,V.own 1 (0+Int.toNat ((↑(List.length st):Int)-(0:Int))*4) (Int.toNat (↑(List.length st):Int)-Int.toNat ((↑(List.length st):Int)-(0:Int))) (Int.toNat (max (↑(List.length st):Int) (↑(List.length st):Int))-Int.toNat ((↑(List.length st):Int)-(0:Int))),V.own 1 (List.length st*4) 0 0)]<|.call 36 (64) ([eS s,eRow row,V.own 1 (List.length st*4) 0 0]) ([Blk.cells [Vu (0:Int),Vb false,Vi (0:Int),V.str eT] 28,Blk.cells (cellsL st) (28:TypeId),Blk.cells [Vu (Stp.k s),V.str (Stp.t s),Vi (Stp.n s)] 56]) (Fr (eV v) [Blk.cells [Vu (0:Int),Vb false,Vi (0:Int),V.str eT] 28,Blk.cells (cellsL st) (28:TypeId),Blk.cells [Vu (Stp.k s),V.str (Stp.t s),Vi (Stp.n s)] 56])<|.chk 5536 (true&&List.all [(7,Kd.rd 1 0 0),(6,Kd.none),(5,Kd.none),(4,Kd.none),(3,Kd.rd 2 0 3),(2,Kd.rd 1 0 0),(1,Kd.none),(0,Kd.none)] fun p=>!unAtF [0,1,0,7,15,31,63,31,7,7,0,0] (Prod.fst p) (nat_lit 8)||compatKF (List.length (St.h (Prod.snd (Ex.normal,mkSt 43 [(1,V.imm false 4 (List.map eV row)),(4,V.ptr 0 0),(5,V.own 1 0 (List.length st) (List.length st)),(7,V.ptr 2 0),(8,Vi (0:Int)),(9,Vi ((↑(List.length st):Int)-(0:Int))),(10,V.imm false 3 (List.map eS l)),(11,Vi (↑(List.length l):Int)),(12,Vi (↑i:Int)),(13,Vb true),(14,V.iptr (V.agg [Vu (Stp.k s),V.str (Stp.t s),Vi (Stp.n s)]) 0),(15,V.agg [Vu (Stp.k s),V.str (Stp.t s),Vi (Stp.n s)]),(16,V.ptr 2 0),(17,Vu (Stp.k s)),(18,Vb false),(24,V.own 1 0 (List.length st) (List.length st)),(25,Vi (↑(List.length st):Int)),(26,Vi (0:Int)),(27,Vi ((↑(List.length st):Int)-(0:Int)))] [Blk.cells [Vu (0:Int),Vb false,Vi (0:Int),V.str (ByteArray.mk #[])] 28,Blk.cells (cellsL st) 28,Blk.cells [Vu (Stp.k s),V.str (Stp.t s),Vi (Stp.n s)] 56])))) (Prod.snd p) (kindCF C1 (26:FuncId) (Oper.mk (some 36) (Op.call (Call.mk (Callee.value (Operand.func 64)) #[Operand.tmp 31,Operand.tmp 32,Operand.tmp 35] #[56,24,23])) 28 "algebra.go:104" #[Edge.mk 3 Ground.data,Edge.mk 4 Ground.data,Edge.mk 7 Ground.data] none) (mkSt 43 [(1,V.imm false 4 (List.map eV row)),(4,V.ptr 0 0),(5,V.own 1 0 (List.length st) (List.length st)),(7,V.ptr 2 0),(8,Vi (0:Int)),(9,Vi ((↑(List.length st):Int)-(0:Int))),(10,V.imm false 3 (List.map eS l)),(11,Vi (↑(List.length l):Int)),(12,Vi (↑i:Int)),(13,Vb true),(14,V.iptr (V.agg [Vu (Stp.k s),V.str (Stp.t s),Vi (Stp.n s)]) 0),(15,V.agg [Vu (Stp.k s),V.str (Stp.t s),Vi (Stp.n s)]),(16,V.ptr 2 0),(17,Vu (Stp.k s)),(18,Vb false),(24,V.own 1 0 (List.length st) (List.length st)),(25,Vi (↑(List.length st):Int)),(26,Vi (0:Int)),(27,Vi ((↑(List.length st):Int)-(0:Int))),(28,V.own 1 0 (List.length st) (List.length st)),(29,Vi ((↑(List.length st):Int)-(0:Int))),(30,V.own 1 0 (List.length st) (List.length st)),(31,V.agg [Vu (Stp.k s),V.str (Stp.t s),Vi (Stp.n s)]),(32,V.imm false 4 (List.map eV row)),(33,V.own 1 0 (List.length st) (List.length st)),(34,Vi ((↑(List.length st):Int)-(0:Int))),(35,V.own 1 (List.length st*4) 0 0)] [Blk.cells [Vu (0:Int),Vb false,Vi (0:Int),V.str (ByteArray.mk #[])] 28,Blk.cells (cellsL st) 28,Blk.cells [Vu (Stp.k s),V.str (Stp.t s),Vi (Stp.n s)] 56]) (St.h (St.mk (St.fr (St.useAllF (mkSt 43 [(1,V.imm false 4 (List.map eV row)),(4,V.ptr 0 0),(5,V.own 1 0 (List.length st) (List.length st)),(7,V.ptr 2 0),(8,Vi (0:Int)),(9,Vi ((↑(List.length st):Int)-(0:Int))),(10,V.imm false 3 (List.map eS l)),(11,Vi (↑(List.length l):Int)),(12,Vi (↑i:Int)),(13,Vb true),(14,V.iptr (V.agg [Vu (Stp.k s),V.str (Stp.t s),Vi (Stp.n s)]) 0),(15,V.agg [Vu (Stp.k s),V.str (Stp.t s),Vi (Stp.n s)]),(16,V.ptr 2 0),(17,Vu (Stp.k s)),(18,Vb false),(24,V.own 1 0 (List.length st) (List.length st)),(25,Vi (↑(List.length st):Int)),(26,Vi (0:Int)),(27,Vi ((↑(List.length st):Int)-(0:Int))),(28,V.own 1 0 (List.length st) (List.length st)),(29,Vi ((↑(List.length st):Int)-(0:Int))),(30,V.own 1 0 (List.length st) (List.length st)),(31,V.agg [Vu (Stp.k s),V.str (Stp.t s),Vi (Stp.n s)]),(32,V.imm false 4 (List.map eV row)),(33,V.own 1 0 (List.length st) (List.length st)),(34,Vi ((↑(List.length st):Int)-(0:Int))),(35,V.own 1 (List.length st*4) 0 0)] [Blk.cells [Vu (0:Int),Vb false,Vi (0:Int),V.str (ByteArray.mk #[])] 28,Blk.cells (cellsL st) 28,Blk.cells [Vu (Stp.k s),V.str (Stp.t s),Vi (Stp.n s)] 56]) (Array.toList (Call.args (Call.mk (Callee.value (Operand.func 64)) #[Operand.tmp 31,Operand.tmp 32,Operand.tmp 35] #[56,24,23]))))) [Blk.cells [Vu (0:Int),Vb false,Vi (0:Int),V.str eT] 28,Blk.cells (cellsL st) (28:TypeId),Blk.cells [Vu (Stp.k s),V.str (Stp.t s),Vi (Stp.n s)] 56] (St.df (St.useAllF (mkSt 43 [(1,V.imm false 4 (List.map eV row)),(4,V.ptr 0 0),(5,V.own 1 0 (List.length st) (List.length st)),(7,V.ptr 2 0),(8,Vi (0:Int)),(9,Vi ((↑(List.length st):Int)-(0:Int))),(10,V.imm false 3 (List.map eS l)),(11,Vi (↑(List.length l):Int)),(12,Vi (↑i:Int)),(13,Vb true),(14,V.iptr (V.agg [Vu (Stp.k s),V.str (Stp.t s),Vi (Stp.n s)]) 0),(15,V.agg [Vu (Stp.k s),V.str (Stp.t s),Vi (Stp.n s)]),(16,V.ptr 2 0),(17,Vu (Stp.k s)),(18,Vb false),(24,V.own 1 0 (List.length st) (List.length st)),(25,Vi (↑(List.length st):Int)),(26,Vi (0:Int)),(27,Vi ((↑(List.length st):Int)-(0:Int))),(28,V.own 1 0 (List.length st) (List.length st)),(29,Vi ((↑(List.length st):Int)-(0:Int))),(30,V.own 1 0 (List.length st) (List.length st)),(31,V.agg [Vu (Stp.k s),V.str (Stp.t s),Vi (Stp.n s)]),(32,V.imm false 4 (List.map eV row)),(33,V.own 1 0 (List.length st) (List.length st)),(34,Vi ((↑(List.length st):Int)-(0:Int))),(35,V.own 1 (List.length st*4) 0 0)] [Blk.cells [Vu (0:Int),Vb false,Vi (0:Int),V.str (ByteArray.mk #[])] 28,Blk.cells (cellsL st) 28,Blk.cells [Vu (Stp.k s),V.str (Stp.t s),Vi (Stp.n s)] 56]) (Array.toList (Call.args (Call.mk (Callee.value (Operand.func 64)) #[Operand.tmp 31,Operand.tmp 32,Operand.tmp 35] #[56,24,23])))))))))<|.ff 5038 (decide (List.length st+1≤List.length st))<|.chk 6038 (decide (23=23∧28=28∧0=0∧0<4∧0<32∧4=4∧4=4∧List.length st*4≤List.length (cellsL st)∧0<1∧(List.length st+1)*32≤140737488355328)&&true&&true&&List.all (List.take (List.length st*4) (cellsL st)) fun c=>!isLin1 c&&okV c)<|.rw 8038 [(3,List.take (List.length st*4) (cellsL st)++[Vu (Vl.k v),Vb (Vl.b v),Vi (Vl.n v),V.str (Vl.s v)],cellsL (st++[v]))] []<|.rw 8039 [] [(39,Vi (IntKind.wrap IntKind.i64 ((↑i:Int)+(1:Int))),Vi (↑(i+1):Int))]<|.tob 24000 (List.all [Blk.cells [Vu (0:Int),Vb false,Vi (0:Int),V.str (ByteArray.mk #[])] 28,Blk.cells (cellsL (st++[v])) 28] pkBlk&&true) ([.packB [0,3]])<|.ret (.normal,mkSt 43 [(1,eRow row),(4,V.ptr 0 0),(5,V.own 1 0 (List.length st+(0+1)) (List.length st+(0+1))),(10,eSteps l),(11,Vi (↑(List.length l):Int)),(12,Vi (↑(i+1):Int))] (B26 (st++[v])))) (by kernel_rfl) ?_
 exact ⟨⟨tv,cb (by simp [cellsL_len,cellsL_ok,cellsL_all]<;>omega),tv⟩,(idx_map _ hs),⟨tv,cb (by simp [cellsL_len,cellsL_ok,cellsL_all]<;>omega),tv⟩,⟨tv,by simp (disch:=omega) only [wrap_i64],tv⟩,by simp [cellsL_len,cellsL_ok,cellsL_all]<;>omega,⟨tv,by simp (disch:=omega) only [tn0,Nat.sub_zero,max_cast,Nat.max_self,Int.toNat_natCast],tv⟩,by simp [cellsL_len,cellsL_ok,cellsL_all]<;>omega,⟨tv,by simp (disch:=omega) only [tn0,Nat.zero_add,Int.toNat_natCast,Nat.sub_self,max_cast,Nat.max_self],tv⟩,(SpH.fact (hk3)),by (change (true&&List.all _ _)=true;refine Eq.trans (b:=(sameC.sameCs (cellsL (st)) (cellsL (st))&&true)) ?_ (by simp only [cellsL_same,Bool.and_self]);kernel_rfl),by simp [cellsL_len,cellsL_ok,cellsL_all]<;>omega,by simp [cellsL_len,cellsL_ok,cellsL_all]<;>omega,⟨⟨by simp (disch:=omega) only [cellsL_all,cellsL_snoc],tv⟩,tv⟩,⟨tv,by simp (disch:=omega) only [cast_succ,wrap_i64],tv⟩,(tell26 _),(ih)⟩
end Go.Fw
set_option maxHeartbeats 20000000
namespace Go.Fw
open Go.Proofs
theorem Sp.nilArg {C:Cx} {f:FuncId} {pre post:List V} {n:Nat} {v:V} (hn:0<n) (h:Sp C f (pre++.imm false n []::post) v):Sp C f (pre++.nils::post) v:=by
 refine ⟨h.fn,h.small,?_,fun k us w m hm ha=>h.run k us w m hm ⟨?_,fun j c hj hc=>?_⟩⟩
 ·have:=h.flat
  unfold pureOf at this ⊢
  simpa [flat2,flat1,flat0] using this
 ·have:=ha.1
  simpa using this
 ·by_cases hjp:j=pre.length
  ·subst hjp
   have h1:=ha.2 pre.length .nils hj (by simp)
   simp at hc
   subst hc
   generalize us[pre.length]=u at h1 ⊢
   cases h1
   exact .none0 false n hn
  ·refine ha.2 j c hj ?_
   rw [←hc]
   by_cases hlt:j<pre.length
   ·rw [List.getElem?_append_left hlt,List.getElem?_append_left hlt]
   ·rw [List.getElem?_append_right (by omega),List.getElem?_append_right (by omega)]
    obtain ⟨q,hq⟩:∃ q,j-pre.length=q+1:=⟨j-pre.length-1,by omega⟩
    rw [hq,List.getElem?_cons_succ,List.getElem?_cons_succ]
theorem cellsL_one (v:Vl):[V.int .u8 v.k,V.bool v.b,V.int .i64 v.n,V.str v.s]=cellsL [v]:=rfl
abbrev N26 (l:List Stp) (row:List Vl) (i:Nat):St:=mkSt 43 [(1,eRow row),(4,.ptr 0 0),(5,.nils),(10,eSteps l),(11,.int .i64 (l.length:Int)),(12,.int .i64 (i:Int))] H26
theorem n26_0 (l:List Stp) (row fin:List Vl) (v:Vl) (i:Nat) (s:Stp) (hb:l.length≤64) (hs:l[i]?=some s) (hf:FineS s) (h6:TkOk s) (h7:1≤s.k) (h8:s.k≤5) (hv:step0 s=v)
  (ih:LoopK C1 26 24 K26 (S26 l row [v] (i+1)) (.exit 0) (F26 fin)):LoopK C1 26 24 K26 (N26 l row i) (.exit 0) (F26 fin):=by
 have hi:=(List.getElem?_eq_some_iff.1 hs).1
 have ht:=takes_sp s hf (by omega)
 have e1:tkN s=0:=by unfold tkN;rw [if_neg (by simpa using h6),if_pos (by omega)]
 have e2:tkOk s=true:=by unfold tkOk;simpa using h6
 rw [e1,e2] at ht
 have hk2:=Sp.nilArg (pre:=[eS s,eRow row]) (post:=[]) (by decide) (step0_sp s row [] h7 h8)
 rw [hv] at hk2
 unfold S26 at ih
 simp only [List.length_cons,List.length_nil] at ih
 refine loop_tree draws (rd:=true) (kn:=K26) (ke:=E26) (
  .rw 8013 [] [(13,Vb (decide ((↑i:Int)<(↑(List.length l):Int))),Vb true)]<|.opt 14 (idx (List.map eS l) (↑i:Int)) (eS s)<|.rw 8018 [] [(18,Vb (Stp.k s !=(6:Int)),Vb true)]<|.call 21 (63) ([eS s]) ([]) (Fr (V.tup [Vi (0:Int),Vb true]) [])<|.call 36 (64) ([eS s,eRow row]++[V.nils]) ([]) (Fr (eV v) [])<|.rw 8036 [] [(36,V.agg [Vu (Vl.k v),Vb (Vl.b v),Vi (Vl.n v),V.str (Vl.s v)],V.agg (cellsL [v]))]<|.rw 8037 [] [(36,V.agg [Vu (Vl.k v),Vb (Vl.b v),Vi (Vl.n v),V.str (Vl.s v)],V.agg (cellsL [v])),(37,V.imm true 4 [V.agg [Vu (Vl.k v),Vb (Vl.b v),Vi (Vl.n v),V.str (Vl.s v)]],V.imm true 4 [V.agg (cellsL [v])])]<|.rw 8038 [(2,[Vu (Vl.k v),Vb (Vl.b v),Vi (Vl.n v),V.str (Vl.s v)],cellsL [v])] [(36,V.agg [Vu (Vl.k v),Vb (Vl.b v),Vi (Vl.n v),V.str (Vl.s v)],V.agg (cellsL [v])),(37,V.imm true 4 [V.agg [Vu (Vl.k v),Vb (Vl.b v),Vi (Vl.n v),V.str (Vl.s v)]],V.imm true 4 [V.agg (cellsL [v])])]<|.rw 8005 [(2,[Vu (Vl.k v),Vb (Vl.b v),Vi (Vl.n v),V.str (Vl.s v)],cellsL [v])] [(36,V.agg [Vu (Vl.k v),Vb (Vl.b v),Vi (Vl.n v),V.str (Vl.s v)],V.agg (cellsL [v])),(37,V.imm true 4 [V.agg [Vu (Vl.k v),Vb (Vl.b v),Vi (Vl.n v),V.str (Vl.s v)]],V.imm true 4 [V.agg (cellsL [v])])]<|.rw 8039 [(2,[Vu (Vl.k v),Vb (Vl.b v),Vi (Vl.n v),V.str (Vl.s v)],cellsL [v])] [(36,V.agg [Vu (Vl.k v),Vb (Vl.b v),Vi (Vl.n v),V.str (Vl.s v)],V.agg (cellsL [v])),(37,V.imm true 4 [V.agg [Vu (Vl.k v),Vb (Vl.b v),Vi (Vl.n v),V.str (Vl.s v)]],V.imm true 4 [V.agg (cellsL [v])]),(39,Vi (IntKind.wrap IntKind.i64 ((↑i:Int)+(1:Int))),Vi (↑(i+1):Int))]<|.rw 8012 [(2,[Vu (Vl.k v),Vb (Vl.b v),Vi (Vl.n v),V.str (Vl.s v)],cellsL [v])] [(36,V.agg [Vu (Vl.k v),Vb (Vl.b v),Vi (Vl.n v),V.str (Vl.s v)],V.agg (cellsL [v])),(37,V.imm true 4 [V.agg [Vu (Vl.k v),Vb (Vl.b v),Vi (Vl.n v),V.str (Vl.s v)]],V.imm true 4 [V.agg (cellsL [v])])]<|.rw 24000 [(2,[Vu (Vl.k v),Vb (Vl.b v),Vi (Vl.n v),V.str (Vl.s v)],cellsL [v])] [(36,V.agg [Vu (Vl.k v),Vb (Vl.b v),Vi (Vl.n v),V.str (Vl.s v)],V.agg (cellsL [v])),(37,V.imm true 4 [V.agg [Vu (Vl.k v),Vb (Vl.b v),Vi (Vl.n v),V.str (Vl.s v)]],V.imm true 4 [V.agg (cellsL [v])])]<|.tob 24000 (true) ([.packB [0,2]])<|.ret (.normal,mkSt 43 [(1,eRow row),(4,V.ptr 0 0),(5,V.own 1 0 (0+1) (0+1)),(10,eSteps l),(11,Vi (↑(List.length l):Int)),(12,Vi (↑(i+1):Int))] (B26 [v]))) (by kernel_rfl) ?_
 exact ⟨⟨tv,cb (by simp<;>omega),tv⟩,(idx_map _ hs),⟨tv,cb (by simp<;>omega),tv⟩,(Sp.fact (ht)),(Sp.fact (hk2)),⟨tv,by simp (disch:=omega) only [cellsL_one],tv⟩,⟨tv,by simp (disch:=omega) only [cellsL_one],by simp (disch:=omega) only [cellsL_one],tv⟩,⟨⟨by simp (disch:=omega) only [cellsL_one],tv⟩,by simp (disch:=omega) only [cellsL_one],by simp (disch:=omega) only [cellsL_one],tv⟩,⟨⟨by simp (disch:=omega) only [cellsL_one],tv⟩,by simp (disch:=omega) only [cellsL_one],by simp (disch:=omega) only [cellsL_one],tv⟩,⟨⟨by simp (disch:=omega) only [cellsL_one],tv⟩,by simp (disch:=omega) only [cellsL_one],by simp (disch:=omega) only [cellsL_one],by simp (disch:=omega) only [cast_succ,wrap_i64],tv⟩,⟨⟨by simp (disch:=omega) only [cellsL_one],tv⟩,by simp (disch:=omega) only [cellsL_one],by simp (disch:=omega) only [cellsL_one],tv⟩,⟨⟨by simp (disch:=omega) only [cellsL_one],tv⟩,by simp (disch:=omega) only [cellsL_one],by simp (disch:=omega) only [cellsL_one],tv⟩,by rfl,(ih)⟩
theorem n26_col (l:List Stp) (row fin:List Vl) (v:Vl) (i:Nat) (s:Stp) (hb:l.length≤64) (hs:l[i]?=some s) (h6:s.k=6) (m:Nat) (hn:s.n=(m:Int)) (hv:row[m]?=some v)
  (ih:LoopK C1 26 24 K26 (S26 l row [v] (i+1)) (.exit 0) (F26 fin)):LoopK C1 26 24 K26 (N26 l row i) (.exit 0) (F26 fin):=by
 have hi:=(List.getElem?_eq_some_iff.1 hs).1
 have hk2:=Sp.nilArg (pre:=[eS s,eRow row]) (post:=[]) (by decide) (stepC_sp s row [] h6 m v hn hv)
 unfold S26 at ih
 simp only [List.length_cons,List.length_nil] at ih
 refine loop_tree draws (rd:=true) (kn:=K26) (ke:=E26) (
  .rw 8013 [] [(13,Vb (decide ((↑i:Int)<(↑(List.length l):Int))),Vb true)]<|.opt 14 (idx (List.map eS l) (↑i:Int)) (eS s)<|.rw 8018 [] [(18,Vb (Stp.k s !=(6:Int)),Vb false)]<|.call 36 (64) ([eS s,eRow row]++[V.nils]) ([]) (Fr (eV v) [])<|.rw 8036 [] [(36,V.agg [Vu (Vl.k v),Vb (Vl.b v),Vi (Vl.n v),V.str (Vl.s v)],V.agg (cellsL [v]))]<|.rw 8037 [] [(36,V.agg [Vu (Vl.k v),Vb (Vl.b v),Vi (Vl.n v),V.str (Vl.s v)],V.agg (cellsL [v])),(37,V.imm true 4 [V.agg [Vu (Vl.k v),Vb (Vl.b v),Vi (Vl.n v),V.str (Vl.s v)]],V.imm true 4 [V.agg (cellsL [v])])]<|.rw 8038 [(2,[Vu (Vl.k v),Vb (Vl.b v),Vi (Vl.n v),V.str (Vl.s v)],cellsL [v])] [(36,V.agg [Vu (Vl.k v),Vb (Vl.b v),Vi (Vl.n v),V.str (Vl.s v)],V.agg (cellsL [v])),(37,V.imm true 4 [V.agg [Vu (Vl.k v),Vb (Vl.b v),Vi (Vl.n v),V.str (Vl.s v)]],V.imm true 4 [V.agg (cellsL [v])])]<|.rw 8005 [(2,[Vu (Vl.k v),Vb (Vl.b v),Vi (Vl.n v),V.str (Vl.s v)],cellsL [v])] [(36,V.agg [Vu (Vl.k v),Vb (Vl.b v),Vi (Vl.n v),V.str (Vl.s v)],V.agg (cellsL [v])),(37,V.imm true 4 [V.agg [Vu (Vl.k v),Vb (Vl.b v),Vi (Vl.n v),V.str (Vl.s v)]],V.imm true 4 [V.agg (cellsL [v])])]<|.rw 8039 [(2,[Vu (Vl.k v),Vb (Vl.b v),Vi (Vl.n v),V.str (Vl.s v)],cellsL [v])] [(36,V.agg [Vu (Vl.k v),Vb (Vl.b v),Vi (Vl.n v),V.str (Vl.s v)],V.agg (cellsL [v])),(37,V.imm true 4 [V.agg [Vu (Vl.k v),Vb (Vl.b v),Vi (Vl.n v),V.str (Vl.s v)]],V.imm true 4 [V.agg (cellsL [v])]),(39,Vi (IntKind.wrap IntKind.i64 ((↑i:Int)+(1:Int))),Vi (↑(i+1):Int))]<|.rw 8012 [(2,[Vu (Vl.k v),Vb (Vl.b v),Vi (Vl.n v),V.str (Vl.s v)],cellsL [v])] [(36,V.agg [Vu (Vl.k v),Vb (Vl.b v),Vi (Vl.n v),V.str (Vl.s v)],V.agg (cellsL [v])),(37,V.imm true 4 [V.agg [Vu (Vl.k v),Vb (Vl.b v),Vi (Vl.n v),V.str (Vl.s v)]],V.imm true 4 [V.agg (cellsL [v])])]<|.rw 24000 [(2,[Vu (Vl.k v),Vb (Vl.b v),Vi (Vl.n v),V.str (Vl.s v)],cellsL [v])] [(36,V.agg [Vu (Vl.k v),Vb (Vl.b v),Vi (Vl.n v),V.str (Vl.s v)],V.agg (cellsL [v])),(37,V.imm true 4 [V.agg [Vu (Vl.k v),Vb (Vl.b v),Vi (Vl.n v),V.str (Vl.s v)]],V.imm true 4 [V.agg (cellsL [v])])]<|.tob 24000 (true) ([.packB [0,2]])<|.ret (.normal,mkSt 43 [(1,eRow row),(4,V.ptr 0 0),(5,V.own 1 0 (0+1) (0+1)),(10,eSteps l),(11,Vi (↑(List.length l):Int)),(12,Vi (↑(i+1):Int))] (B26 [v]))) (by kernel_rfl) ?_
 exact ⟨⟨tv,cb (by simp<;>omega),tv⟩,(idx_map _ hs),⟨tv,cb (by simp<;>omega),tv⟩,(Sp.fact (hk2)),⟨tv,by simp (disch:=omega) only [cellsL_one],tv⟩,⟨tv,by simp (disch:=omega) only [cellsL_one],by simp (disch:=omega) only [cellsL_one],tv⟩,⟨⟨by simp (disch:=omega) only [cellsL_one],tv⟩,by simp (disch:=omega) only [cellsL_one],by simp (disch:=omega) only [cellsL_one],tv⟩,⟨⟨by simp (disch:=omega) only [cellsL_one],tv⟩,by simp (disch:=omega) only [cellsL_one],by simp (disch:=omega) only [cellsL_one],tv⟩,⟨⟨by simp (disch:=omega) only [cellsL_one],tv⟩,by simp (disch:=omega) only [cellsL_one],by simp (disch:=omega) only [cellsL_one],by simp (disch:=omega) only [cast_succ,wrap_i64],tv⟩,⟨⟨by simp (disch:=omega) only [cellsL_one],tv⟩,by simp (disch:=omega) only [cellsL_one],by simp (disch:=omega) only [cellsL_one],tv⟩,⟨⟨by simp (disch:=omega) only [cellsL_one],tv⟩,by simp (disch:=omega) only [cellsL_one],by simp (disch:=omega) only [cellsL_one],tv⟩,by rfl,(ih)⟩
theorem v26l (l:List Stp) (row:List Vl) (hb:l.length≤64) (hf:∀ s∈l,FineS s):RoundsV l row (fun st i fin=>fin≠[]→LoopK C1 26 24 K26 (match st with | []=>N26 l row i | _::_=>S26 l row st i) (.exit 0) (F26 fin)) where
 end_ st i hi hn:=by
  cases st with
  | nil=>exact absurd rfl hn
  | cons x st=>exact v26_end l row (x::st) i hi hb
 col st fin i s v m h1 h2 h3 h4 h5 ih hn:=by
  cases st with
  | nil=>exact n26_col l row fin v i s hb h2 h3 m h4 h5 (ih hn)
  | cons x st=>exact v26_col l row (x::st) fin v i s hb h1 h2 h3 m h4 h5 (ih hn)
 k0 st fin i s h1 h2 h3 h4 ih hn:=by
  cases st with
  | nil=>exact n26_0 l row fin _ i s hb h2 (hf s (List.mem_of_getElem? h2)) h3 h3.1 h4 rfl (ih hn)
  | cons x st=>exact v26_0 l row (x::st) fin _ i s hb h1 h2 (hf s (List.mem_of_getElem? h2)) h3 h3.1 h4 rfl (ih hn)
 k1 pre fin i s x h1 h2 h3 h4 h5 gx ih hn:=by
  have:=v26_1 l row pre fin x _ i s hb h1 h2 (hf s (List.mem_of_getElem? h2)) h3 h4 h5 gx rfl
  cases pre with
  | nil=>exact this (ih hn)
  | cons y pre=>exact this (ih hn)
 k2 pre fin i s x y h1 h2 h3 h4 h5 gx gy ih hn:=by
  have:=v26_2 l row pre fin x y _ i s hb h1 h2 (hf s (List.mem_of_getElem? h2)) h3 h4 h5 gx gy rfl
  cases pre with
  | nil=>exact this (ih hn)
  | cons z pre=>exact this (ih hn)
theorem value_sp (l:List Stp) (row:List Vl) (hf:∀ s∈l,FineS s) (hr:rightB l=true) (hn:∀ s∈l,I64 s.n) (hx:∀ s∈l,ColOk row.length s) (hg:∀ v∈row,Gv v):Sp C1 26 [eSteps l,eRow row] (eV (valR l row)):=by
 unfold rightB at hr
 cases hm:rightGo l 0 with
 | none=>rw [hm] at hr;cases hr
 | some m =>
  rw [hm] at hr
  have hr:m=1∧l.length≤64:=by simpa using hr
  have hb:=hr.2
  obtain ⟨h1,h2,h3⟩:=roundsV l row _ (v26l l row hr.2 hf) hn hx hg m l.length 0 [] (by omega) (by simp) (by simp) hm
  rw [List.drop_zero] at h1 h3
  unfold valR
  obtain ⟨x,hx⟩:∃ x,valGo row l []=[x]:=List.length_eq_one_iff.1 (by omega)
  rw [hx] at h3 ⊢
  have h4:=h3 (by simp)
  clear h1 h2 h3 hx
  unfold F26 B26 at h4
  rw [←cellsL_one] at h4
  refine sp_tree draws (dm:=[]) (fs:=[]) (
   .rw 8011 [] [(11,Vi (↑(List.length (List.map eS l)):Int),Vi (↑(List.length l):Int))]<|.loop 24 false (K26) (v26l.match_1 (fun st=>St) [] (fun _=>N26 l row 0) fun head tail=>S26 l row [] 0) (Ex.exit 0) (mkSt 43 [(4,V.ptr 0 0),(5,V.own 1 0 (List.length [x]) (List.length [x]))] [Blk.cells [Vu (0:Int),Vb false,Vi (0:Int),V.str eT] 28,Blk.cells [Vu (Vl.k x),Vb (Vl.b x),Vi (Vl.n x),V.str (Vl.s x)] 28])<|.ret (Fr (V.agg [Vu (Vl.k x),Vb (Vl.b x),Vi (Vl.n x),V.str (Vl.s x)]) [])) (by kernel_rfl) ?_
  exact ⟨⟨tv,by simp (disch:=omega) only [List.length_map],tv⟩,(LoopR.weak (h4)),rfl⟩
end Go.Fw
set_option maxHeartbeats 20000000
namespace Go.Fw
open Go.Proofs
abbrev rl (k a b:Int):V×V:=(.int .u8 k,.agg [.int .u8 a,.int .u8 b])
abbrev rulesL:List (V×V):=[rl 1 0 0,rl 2 1 1,rl 3 1 1,rl 4 2 2,rl 5 0 3,rl 7 2 2,rl 8 1 1,rl 10 3 2,rl 11 2 2,rl 12 2 2,rl 13 2 2,rl 20 1 1,rl 21 1 1]
abbrev rulesH:List Blk:=[.cells [.int .u8 2,.int .u8 2] 212,.cells [.int .u8 1,.int .u8 1] 212,.mp rulesL]
theorem rules_sp:FactO C1 168 [] [] (.ret (.obj 0 2) rulesH):=FactO.ofVb (sound 5) (by kernel_rfl)
abbrev errI (w:Int):V:=.iface 29 (.int .i64 w)
theorem must_ok (w:Int):Sp C1 81 [.bool true,.int .i64 w] (.tup []):=by
 refine sp_tree draws (dm:=[]) (fs:=[]) (
  .ret (Fr (V.tup []) [])) (by kernel_rfl) ?_
 exact rfl
theorem must_no (w:Int):FactO C1 81 [.bool false,.int .i64 w] [] (.pan (errI w) []):=by
 refine fact_tree draws (pure:=true) (
  .ret (FOut.pan (V.iface 29 (Vi w)) [])) (by kernel_rfl) ?_
 exact rfl
theorem btakes_sp (s:Stp) (hf:FineS s):Sp C1 110 [eS s] (.tup [.int .i64 (tN s),.bool (tOk s)]):=by
 unfold tN tOk
 by_cases h:s.k=6
 ·rw [if_pos h,if_pos h]
  refine sp_tree draws (dm:=[]) (fs:=[]) (
   .rw 8006 [] [(6,Vb (Stp.k s==(6:Int)),Vb true)]<|.ret (Fr (V.tup [Vi (0:Int),Vb true]) [])) (by kernel_rfl) ?_
  exact ⟨⟨tv,cb (by simp<;>omega),tv⟩,rfl⟩
 ·rw [if_neg h,if_neg h]
  have ht:=takes_sp s hf h
  refine sp_tree draws (dm:=[]) (fs:=[]) (
   .rw 8006 [] [(6,Vb (Stp.k s==(6:Int)),Vb false)]<|.call 8 (63) ([eS s]) ([]) (Fr (V.tup [Vi (tkN s),Vb (tkOk s)]) [])<|.ret (Fr (V.tup [Vi (tkN s),Vb (tkOk s)]) [])) (by kernel_rfl) ?_
  exact ⟨⟨tv,cb (by simp<;>omega),tv⟩,(Sp.fact (ht)),rfl⟩
abbrev K111:List (Nat×Fm):=keeps [5,16,17,18]
abbrev H111 (a b:Int):List Blk:=[.cells [.int .u8 2,.int .u8 2] 212,.cells [.int .u8 1,.int .u8 1] 212,.mp rulesL,.cells [.int .u8 a,.int .u8 b] 212]
abbrev S111 (a b:Int) (l:List Int) (i:Nat):St:=mkSt 54 [(5,.ptr 3 0),(16,eKs l),(17,.int .i64 (l.length:Int)),(18,.int .i64 (i:Int))] (H111 a b)
theorem kl_ok (a b:Int) (l:List Int) (hl:l.length≤2):∀ k i,i+k=l.length→(∀ j x,i≤j→l[j]?=some x→mayB x a=true)→LoopK C1 111 32 K111 (S111 a b l i) (.exit 0) (mkSt 54 [(5,.ptr 3 0)] (H111 a b))
 | 0,i,h,hn=>by
  refine loop_tree draws (rd:=true) (kn:=K111) (ke:=(keeps [5])) (
   .rw 8019 [] [(19,Vb (decide ((↑i:Int)<(↑(List.length l):Int))),Vb false)]<|.ret ((Ex.exit 0,mkSt 54 [(5,V.ptr 3 0)] [Blk.cells [Vu (2:Int),Vu (2:Int)] 212,Blk.cells [Vu (1:Int),Vu (1:Int)] 212,Blk.mp [(Vu (1:Int),V.agg [Vu (0:Int),Vu (0:Int)]),(Vu (2:Int),V.agg [Vu (1:Int),Vu (1:Int)]),(Vu (3:Int),V.agg [Vu (1:Int),Vu (1:Int)]),(Vu (4:Int),V.agg [Vu (2:Int),Vu (2:Int)]),(Vu (5:Int),V.agg [Vu (0:Int),Vu (3:Int)]),(Vu (7:Int),V.agg [Vu (2:Int),Vu (2:Int)]),(Vu (8:Int),V.agg [Vu (1:Int),Vu (1:Int)]),(Vu (10:Int),V.agg [Vu (3:Int),Vu (2:Int)]),(Vu (11:Int),V.agg [Vu (2:Int),Vu (2:Int)]),(Vu (12:Int),V.agg [Vu (2:Int),Vu (2:Int)]),(Vu (13:Int),V.agg [Vu (2:Int),Vu (2:Int)]),(Vu (20:Int),V.agg [Vu (1:Int),Vu (1:Int)]),(Vu (21:Int),V.agg [Vu (1:Int),Vu (1:Int)])],Blk.cells [Vu a,Vu b] 212]))) (by kernel_rfl) ?_
  exact ⟨⟨tv,cb (by simp<;>omega),tv⟩,rfl,rfl⟩
 | k+1,i,h,hn=>by
  have ih:=kl_ok a b l hl k (i+1) (by omega) (fun j v hj hv=>hn j v (by omega) hv)
  obtain ⟨x,hx⟩:∃ x,l[i]?=some x:=⟨l[i]'(by omega),List.getElem?_eq_getElem (by omega)⟩
  have hk:=hn i x (Nat.le_refl _) hx
  unfold mayB at hk
  simp only [decide_eq_true_eq] at hk
  by_cases e:x=a
  ·subst e
   refine loop_tree draws (rd:=true) (kn:=K111) (ke:=(keeps [5])) (
    .rw 8019 [] [(19,Vb (decide ((↑i:Int)<(↑(List.length l):Int))),Vb true)]<|.opt 20 (idx (List.map (V.int .u8) l) (↑i:Int)) (Vu x)<|.rw 8025 [] [(25,Vb (x==x),Vb true)]<|.call 30 (81) ([Vb true,Vi (5:Int)]) ([]) (Fr (V.tup []) [])<|.rw 8031 [] [(31,Vi (IntKind.wrap IntKind.i64 ((↑i:Int)+(1:Int))),Vi (↑(i+1):Int))]<|.ret (.normal,S111 x b l (i+1))) (by kernel_rfl) ?_
   exact ⟨⟨tv,cb (by simp<;>omega),tv⟩,(idx_map _ hx),⟨tv,cb (by simp<;>omega),tv⟩,(Sp.fact (must_ok _)),⟨tv,by simp (disch:=omega) only [cast_succ,wrap_i64],tv⟩,(ih)⟩
  ·have e0:x=0:=by omega
   subst e0
   refine loop_tree draws (rd:=true) (kn:=K111) (ke:=(keeps [5])) (
    .rw 8019 [] [(19,Vb (decide ((↑i:Int)<(↑(List.length l):Int))),Vb true)]<|.opt 20 (idx (List.map (V.int .u8) l) (↑i:Int)) (Vu (0:Int))<|.rw 8025 [] [(25,Vb ((0:Int)==a),Vb false)]<|.call 30 (81) ([Vb true,Vi (5:Int)]) ([]) (Fr (V.tup []) [])<|.rw 8031 [] [(31,Vi (IntKind.wrap IntKind.i64 ((↑i:Int)+(1:Int))),Vi (↑(i+1):Int))]<|.ret (.normal,S111 a b l (i+1))) (by kernel_rfl) ?_
   exact ⟨⟨tv,cb (by grind),tv⟩,(idx_map _ hx),⟨tv,cb (by grind),tv⟩,(Sp.fact (must_ok _)),⟨tv,by simp (disch:=omega) only [cast_succ,wrap_i64],tv⟩,(ih)⟩
theorem kl_bad (a b:Int) (l:List Int) (hl:l.length≤2):∀ k i,i+k=l.length→(∃ j x,i≤j∧l[j]?=some x∧mayB x a=false)→LoopK C1 111 32 K111 (S111 a b l i) (.pan (errI 5)) (mkSt 54 [] (H111 a b))
 | 0,i,h,⟨j,x,hj,hx,_⟩=>by
  have:=(List.getElem?_eq_some_iff.1 hx).1
  omega
 | k+1,i,h,hn=>by
  obtain ⟨x,hx⟩:∃ x,l[i]?=some x:=⟨l[i]'(by omega),List.getElem?_eq_getElem (by omega)⟩
  by_cases hk:mayB x a=true
  ·have ih:=kl_bad a b l hl k (i+1) (by omega) (by
    obtain ⟨j,y,q1,q2,q3⟩:=hn
    refine ⟨j,y,?_,q2,q3⟩
    by_cases e:j=i
    ·subst e;rw [hx] at q2;cases q2;rw [hk] at q3;cases q3
    ·omega)
   unfold mayB at hk
   simp only [decide_eq_true_eq] at hk
   by_cases e:x=a
   ·subst e
    refine loop_tree draws (rd:=true) (kn:=K111) (ke:=(keeps [])) (
     .rw 8019 [] [(19,Vb (decide ((↑i:Int)<(↑(List.length l):Int))),Vb true)]<|.opt 20 (idx (List.map (V.int .u8) l) (↑i:Int)) (Vu x)<|.rw 8025 [] [(25,Vb (x==x),Vb true)]<|.call 30 (81) ([Vb true,Vi (5:Int)]) ([]) (Fr (V.tup []) [])<|.rw 8031 [] [(31,Vi (IntKind.wrap IntKind.i64 ((↑i:Int)+(1:Int))),Vi (↑(i+1):Int))]<|.ret (.normal,S111 x b l (i+1))) (by kernel_rfl) ?_
    exact ⟨⟨tv,cb (by simp<;>omega),tv⟩,(idx_map _ hx),⟨tv,cb (by simp<;>omega),tv⟩,(Sp.fact (must_ok _)),⟨tv,by simp (disch:=omega) only [cast_succ,wrap_i64],tv⟩,(ih)⟩
   ·have e0:x=0:=by omega
    subst e0
    refine loop_tree draws (rd:=true) (kn:=K111) (ke:=(keeps [])) (
     .rw 8019 [] [(19,Vb (decide ((↑i:Int)<(↑(List.length l):Int))),Vb true)]<|.opt 20 (idx (List.map (V.int .u8) l) (↑i:Int)) (Vu (0:Int))<|.rw 8025 [] [(25,Vb ((0:Int)==a),Vb false)]<|.call 30 (81) ([Vb true,Vi (5:Int)]) ([]) (Fr (V.tup []) [])<|.rw 8031 [] [(31,Vi (IntKind.wrap IntKind.i64 ((↑i:Int)+(1:Int))),Vi (↑(i+1):Int))]<|.ret (.normal,S111 a b l (i+1))) (by kernel_rfl) ?_
    exact ⟨⟨tv,cb (by grind),tv⟩,(idx_map _ hx),⟨tv,cb (by grind),tv⟩,(Sp.fact (must_ok _)),⟨tv,by simp (disch:=omega) only [cast_succ,wrap_i64],tv⟩,(ih)⟩
  ·unfold mayB at hk
   simp only [decide_eq_true_eq] at hk
   have n1:¬x=a:=fun e=>hk (.inl e)
   have n2:¬x=0:=fun e=>hk (.inr e)
   clear hk hn
   refine loop_tree draws (rd:=true) (kn:=K111) (ke:=(keeps [])) (
    .rw 8019 [] [(19,Vb (decide ((↑i:Int)<(↑(List.length l):Int))),Vb true)]<|.opt 20 (idx (List.map (V.int .u8) l) (↑i:Int)) (Vu x)<|.rw 8025 [] [(25,Vb (x==a),Vb false)]<|.rw 8028 [] [(28,Vb (x==(0:Int)),Vb false)]<|.call 30 (81) ([Vb false,Vi (5:Int)]) ([]) (FOut.pan (errI (5:Int)) [])<|.ret ((Ex.pan (V.iface 29 (Vi (5:Int))),mkSt 54 [] [Blk.cells [Vu (2:Int),Vu (2:Int)] 212,Blk.cells [Vu (1:Int),Vu (1:Int)] 212,Blk.mp [(Vu (1:Int),V.agg [Vu (0:Int),Vu (0:Int)]),(Vu (2:Int),V.agg [Vu (1:Int),Vu (1:Int)]),(Vu (3:Int),V.agg [Vu (1:Int),Vu (1:Int)]),(Vu (4:Int),V.agg [Vu (2:Int),Vu (2:Int)]),(Vu (5:Int),V.agg [Vu (0:Int),Vu (3:Int)]),(Vu (7:Int),V.agg [Vu (2:Int),Vu (2:Int)]),(Vu (8:Int),V.agg [Vu (1:Int),Vu (1:Int)]),(Vu (10:Int),V.agg [Vu (3:Int),Vu (2:Int)]),(Vu (11:Int),V.agg [Vu (2:Int),Vu (2:Int)]),(Vu (12:Int),V.agg [Vu (2:Int),Vu (2:Int)]),(Vu (13:Int),V.agg [Vu (2:Int),Vu (2:Int)]),(Vu (20:Int),V.agg [Vu (1:Int),Vu (1:Int)]),(Vu (21:Int),V.agg [Vu (1:Int),Vu (1:Int)])],Blk.cells [Vu a,Vu b] 212]))) (by kernel_rfl) ?_
   exact ⟨⟨tv,cb (by grind),tv⟩,(idx_map _ hx),⟨tv,cb (by grind),tv⟩,⟨tv,cb (by grind),tv⟩,(must_no _),rfl,rfl⟩
end Go.Fw
set_option maxHeartbeats 20000000
namespace Go.Fw
open Go.Proofs
theorem bk1_ok (l:List Int) (hl:l.length≤2) (h:∀ x∈l,mayB x 0=true):Sp C1 111 [.int .u8 1,eKs l] (.int .u8 0):=by
 have h2:=kl_ok 0 0 l hl l.length 0 (by omega) (fun j x _ hx=>h x (List.mem_of_getElem? hx))
 refine sp_tree draws (dm:=[]) (fs:=[]) (
  .call 10 (168) ([]) ([]) (Fr (V.obj 0 2) rulesH)<|.rw 8017 [] [(17,Vi (↑(List.length (List.map (V.int .u8) l)):Int),Vi (↑(List.length l):Int))]<|.loop 32 false (K111) (S111 (0:Int) (0:Int) l 0) (Ex.exit 0) (mkSt 54 [(5,V.ptr 3 0)] (H111 (0:Int) (0:Int)))<|.ret (Fr (Vu (0:Int)) [])) (by kernel_rfl) ?_
 exact ⟨(rules_sp),⟨tv,by simp (disch:=omega) only [List.length_map],tv⟩,(LoopR.weak (h2)),rfl⟩
theorem bk2_ok (l:List Int) (hl:l.length≤2) (h:∀ x∈l,mayB x 1=true):Sp C1 111 [.int .u8 2,eKs l] (.int .u8 1):=by
 have h2:=kl_ok 1 1 l hl l.length 0 (by omega) (fun j x _ hx=>h x (List.mem_of_getElem? hx))
 refine sp_tree draws (dm:=[]) (fs:=[]) (
  .call 10 (168) ([]) ([]) (Fr (V.obj 0 2) rulesH)<|.rw 8017 [] [(17,Vi (↑(List.length (List.map (V.int .u8) l)):Int),Vi (↑(List.length l):Int))]<|.loop 32 false (K111) (S111 (1:Int) (1:Int) l 0) (Ex.exit 0) (mkSt 54 [(5,V.ptr 3 0)] (H111 (1:Int) (1:Int)))<|.ret (Fr (Vu (1:Int)) [])) (by kernel_rfl) ?_
 exact ⟨(rules_sp),⟨tv,by simp (disch:=omega) only [List.length_map],tv⟩,(LoopR.weak (h2)),rfl⟩
theorem bk3_ok (l:List Int) (hl:l.length≤2) (h:∀ x∈l,mayB x 1=true):Sp C1 111 [.int .u8 3,eKs l] (.int .u8 1):=by
 have h2:=kl_ok 1 1 l hl l.length 0 (by omega) (fun j x _ hx=>h x (List.mem_of_getElem? hx))
 refine sp_tree draws (dm:=[]) (fs:=[]) (
  .call 10 (168) ([]) ([]) (Fr (V.obj 0 2) rulesH)<|.rw 8017 [] [(17,Vi (↑(List.length (List.map (V.int .u8) l)):Int),Vi (↑(List.length l):Int))]<|.loop 32 false (K111) (S111 (1:Int) (1:Int) l 0) (Ex.exit 0) (mkSt 54 [(5,V.ptr 3 0)] (H111 (1:Int) (1:Int)))<|.ret (Fr (Vu (1:Int)) [])) (by kernel_rfl) ?_
 exact ⟨(rules_sp),⟨tv,by simp (disch:=omega) only [List.length_map],tv⟩,(LoopR.weak (h2)),rfl⟩
theorem bk4_ok (l:List Int) (hl:l.length≤2) (h:∀ x∈l,mayB x 2=true):Sp C1 111 [.int .u8 4,eKs l] (.int .u8 2):=by
 have h2:=kl_ok 2 2 l hl l.length 0 (by omega) (fun j x _ hx=>h x (List.mem_of_getElem? hx))
 refine sp_tree draws (dm:=[]) (fs:=[]) (
  .call 10 (168) ([]) ([]) (Fr (V.obj 0 2) rulesH)<|.rw 8017 [] [(17,Vi (↑(List.length (List.map (V.int .u8) l)):Int),Vi (↑(List.length l):Int))]<|.loop 32 false (K111) (S111 (2:Int) (2:Int) l 0) (Ex.exit 0) (mkSt 54 [(5,V.ptr 3 0)] (H111 (2:Int) (2:Int)))<|.ret (Fr (Vu (2:Int)) [])) (by kernel_rfl) ?_
 exact ⟨(rules_sp),⟨tv,by simp (disch:=omega) only [List.length_map],tv⟩,(LoopR.weak (h2)),rfl⟩
theorem bk5_ok (l:List Int) (hl:l.length≤2) (h:∀ x∈l,mayB x 0=true):Sp C1 111 [.int .u8 5,eKs l] (.int .u8 3):=by
 have h2:=kl_ok 0 3 l hl l.length 0 (by omega) (fun j x _ hx=>h x (List.mem_of_getElem? hx))
 refine sp_tree draws (dm:=[]) (fs:=[]) (
  .call 10 (168) ([]) ([]) (Fr (V.obj 0 2) rulesH)<|.rw 8017 [] [(17,Vi (↑(List.length (List.map (V.int .u8) l)):Int),Vi (↑(List.length l):Int))]<|.loop 32 false (K111) (S111 (0:Int) (3:Int) l 0) (Ex.exit 0) (mkSt 54 [(5,V.ptr 3 0)] (H111 (0:Int) (3:Int)))<|.ret (Fr (Vu (3:Int)) [])) (by kernel_rfl) ?_
 exact ⟨(rules_sp),⟨tv,by simp (disch:=omega) only [List.length_map],tv⟩,(LoopR.weak (h2)),rfl⟩
theorem bk7_ok (l:List Int) (hl:l.length≤2) (h:∀ x∈l,mayB x 2=true):Sp C1 111 [.int .u8 7,eKs l] (.int .u8 2):=by
 have h2:=kl_ok 2 2 l hl l.length 0 (by omega) (fun j x _ hx=>h x (List.mem_of_getElem? hx))
 refine sp_tree draws (dm:=[]) (fs:=[]) (
  .call 10 (168) ([]) ([]) (Fr (V.obj 0 2) rulesH)<|.rw 8017 [] [(17,Vi (↑(List.length (List.map (V.int .u8) l)):Int),Vi (↑(List.length l):Int))]<|.loop 32 false (K111) (S111 (2:Int) (2:Int) l 0) (Ex.exit 0) (mkSt 54 [(5,V.ptr 3 0)] (H111 (2:Int) (2:Int)))<|.ret (Fr (Vu (2:Int)) [])) (by kernel_rfl) ?_
 exact ⟨(rules_sp),⟨tv,by simp (disch:=omega) only [List.length_map],tv⟩,(LoopR.weak (h2)),rfl⟩
theorem bk7_no (l:List Int) (hl:l.length≤2) (h:∃ x∈l,mayB x 2=false):FactO C1 111 [.int .u8 7,eKs l] [] (.pan (errI 5) []):=by
 have h2:=kl_bad 2 2 l hl l.length 0 (by omega) (by
  obtain ⟨x,hx,hm⟩:=h
  obtain ⟨j,hj⟩:=List.getElem?_of_mem hx
  exact ⟨j,x,by omega,hj,hm⟩)
 refine fact_tree draws (pure:=true) (
  .call 10 (168) ([]) ([]) (Fr (V.obj 0 2) rulesH)<|.rw 8017 [] [(17,Vi (↑(List.length (List.map (V.int .u8) l)):Int),Vi (↑(List.length l):Int))]<|.loop 32 false (K111) (S111 (2:Int) (2:Int) l 0) (Ex.pan (errI (5:Int))) (mkSt 54 [] (H111 (2:Int) (2:Int)))<|.ret (FOut.pan (V.iface 29 (Vi (5:Int))) [])) (by kernel_rfl) ?_
 exact ⟨(rules_sp),⟨tv,by simp (disch:=omega) only [List.length_map],tv⟩,(LoopR.weak (h2)),rfl⟩
theorem bk8_ok (l:List Int) (hl:l.length≤2) (h:∀ x∈l,mayB x 1=true):Sp C1 111 [.int .u8 8,eKs l] (.int .u8 1):=by
 have h2:=kl_ok 1 1 l hl l.length 0 (by omega) (fun j x _ hx=>h x (List.mem_of_getElem? hx))
 refine sp_tree draws (dm:=[]) (fs:=[]) (
  .call 10 (168) ([]) ([]) (Fr (V.obj 0 2) rulesH)<|.rw 8017 [] [(17,Vi (↑(List.length (List.map (V.int .u8) l)):Int),Vi (↑(List.length l):Int))]<|.loop 32 false (K111) (S111 (1:Int) (1:Int) l 0) (Ex.exit 0) (mkSt 54 [(5,V.ptr 3 0)] (H111 (1:Int) (1:Int)))<|.ret (Fr (Vu (1:Int)) [])) (by kernel_rfl) ?_
 exact ⟨(rules_sp),⟨tv,by simp (disch:=omega) only [List.length_map],tv⟩,(LoopR.weak (h2)),rfl⟩
theorem bk8_no (l:List Int) (hl:l.length≤2) (h:∃ x∈l,mayB x 1=false):FactO C1 111 [.int .u8 8,eKs l] [] (.pan (errI 5) []):=by
 have h2:=kl_bad 1 1 l hl l.length 0 (by omega) (by
  obtain ⟨x,hx,hm⟩:=h
  obtain ⟨j,hj⟩:=List.getElem?_of_mem hx
  exact ⟨j,x,by omega,hj,hm⟩)
 refine fact_tree draws (pure:=true) (
  .call 10 (168) ([]) ([]) (Fr (V.obj 0 2) rulesH)<|.rw 8017 [] [(17,Vi (↑(List.length (List.map (V.int .u8) l)):Int),Vi (↑(List.length l):Int))]<|.loop 32 false (K111) (S111 (1:Int) (1:Int) l 0) (Ex.pan (errI (5:Int))) (mkSt 54 [] (H111 (1:Int) (1:Int)))<|.ret (FOut.pan (V.iface 29 (Vi (5:Int))) [])) (by kernel_rfl) ?_
 exact ⟨(rules_sp),⟨tv,by simp (disch:=omega) only [List.length_map],tv⟩,(LoopR.weak (h2)),rfl⟩
theorem bk10_ok (l:List Int) (hl:l.length≤2) (h:∀ x∈l,mayB x 3=true):Sp C1 111 [.int .u8 10,eKs l] (.int .u8 2):=by
 have h2:=kl_ok 3 2 l hl l.length 0 (by omega) (fun j x _ hx=>h x (List.mem_of_getElem? hx))
 refine sp_tree draws (dm:=[]) (fs:=[]) (
  .call 10 (168) ([]) ([]) (Fr (V.obj 0 2) rulesH)<|.rw 8017 [] [(17,Vi (↑(List.length (List.map (V.int .u8) l)):Int),Vi (↑(List.length l):Int))]<|.loop 32 false (K111) (S111 (3:Int) (2:Int) l 0) (Ex.exit 0) (mkSt 54 [(5,V.ptr 3 0)] (H111 (3:Int) (2:Int)))<|.ret (Fr (Vu (2:Int)) [])) (by kernel_rfl) ?_
 exact ⟨(rules_sp),⟨tv,by simp (disch:=omega) only [List.length_map],tv⟩,(LoopR.weak (h2)),rfl⟩
theorem bk10_no (l:List Int) (hl:l.length≤2) (h:∃ x∈l,mayB x 3=false):FactO C1 111 [.int .u8 10,eKs l] [] (.pan (errI 5) []):=by
 have h2:=kl_bad 3 2 l hl l.length 0 (by omega) (by
  obtain ⟨x,hx,hm⟩:=h
  obtain ⟨j,hj⟩:=List.getElem?_of_mem hx
  exact ⟨j,x,by omega,hj,hm⟩)
 refine fact_tree draws (pure:=true) (
  .call 10 (168) ([]) ([]) (Fr (V.obj 0 2) rulesH)<|.rw 8017 [] [(17,Vi (↑(List.length (List.map (V.int .u8) l)):Int),Vi (↑(List.length l):Int))]<|.loop 32 false (K111) (S111 (3:Int) (2:Int) l 0) (Ex.pan (errI (5:Int))) (mkSt 54 [] (H111 (3:Int) (2:Int)))<|.ret (FOut.pan (V.iface 29 (Vi (5:Int))) [])) (by kernel_rfl) ?_
 exact ⟨(rules_sp),⟨tv,by simp (disch:=omega) only [List.length_map],tv⟩,(LoopR.weak (h2)),rfl⟩
theorem bk11_ok (l:List Int) (hl:l.length≤2) (h:∀ x∈l,mayB x 2=true):Sp C1 111 [.int .u8 11,eKs l] (.int .u8 2):=by
 have h2:=kl_ok 2 2 l hl l.length 0 (by omega) (fun j x _ hx=>h x (List.mem_of_getElem? hx))
 refine sp_tree draws (dm:=[]) (fs:=[]) (
  .call 10 (168) ([]) ([]) (Fr (V.obj 0 2) rulesH)<|.rw 8017 [] [(17,Vi (↑(List.length (List.map (V.int .u8) l)):Int),Vi (↑(List.length l):Int))]<|.loop 32 false (K111) (S111 (2:Int) (2:Int) l 0) (Ex.exit 0) (mkSt 54 [(5,V.ptr 3 0)] (H111 (2:Int) (2:Int)))<|.ret (Fr (Vu (2:Int)) [])) (by kernel_rfl) ?_
 exact ⟨(rules_sp),⟨tv,by simp (disch:=omega) only [List.length_map],tv⟩,(LoopR.weak (h2)),rfl⟩
theorem bk11_no (l:List Int) (hl:l.length≤2) (h:∃ x∈l,mayB x 2=false):FactO C1 111 [.int .u8 11,eKs l] [] (.pan (errI 5) []):=by
 have h2:=kl_bad 2 2 l hl l.length 0 (by omega) (by
  obtain ⟨x,hx,hm⟩:=h
  obtain ⟨j,hj⟩:=List.getElem?_of_mem hx
  exact ⟨j,x,by omega,hj,hm⟩)
 refine fact_tree draws (pure:=true) (
  .call 10 (168) ([]) ([]) (Fr (V.obj 0 2) rulesH)<|.rw 8017 [] [(17,Vi (↑(List.length (List.map (V.int .u8) l)):Int),Vi (↑(List.length l):Int))]<|.loop 32 false (K111) (S111 (2:Int) (2:Int) l 0) (Ex.pan (errI (5:Int))) (mkSt 54 [] (H111 (2:Int) (2:Int)))<|.ret (FOut.pan (V.iface 29 (Vi (5:Int))) [])) (by kernel_rfl) ?_
 exact ⟨(rules_sp),⟨tv,by simp (disch:=omega) only [List.length_map],tv⟩,(LoopR.weak (h2)),rfl⟩
theorem bk12_ok (l:List Int) (hl:l.length≤2) (h:∀ x∈l,mayB x 2=true):Sp C1 111 [.int .u8 12,eKs l] (.int .u8 2):=by
 have h2:=kl_ok 2 2 l hl l.length 0 (by omega) (fun j x _ hx=>h x (List.mem_of_getElem? hx))
 refine sp_tree draws (dm:=[]) (fs:=[]) (
  .call 10 (168) ([]) ([]) (Fr (V.obj 0 2) rulesH)<|.rw 8017 [] [(17,Vi (↑(List.length (List.map (V.int .u8) l)):Int),Vi (↑(List.length l):Int))]<|.loop 32 false (K111) (S111 (2:Int) (2:Int) l 0) (Ex.exit 0) (mkSt 54 [(5,V.ptr 3 0)] (H111 (2:Int) (2:Int)))<|.ret (Fr (Vu (2:Int)) [])) (by kernel_rfl) ?_
 exact ⟨(rules_sp),⟨tv,by simp (disch:=omega) only [List.length_map],tv⟩,(LoopR.weak (h2)),rfl⟩
theorem bk12_no (l:List Int) (hl:l.length≤2) (h:∃ x∈l,mayB x 2=false):FactO C1 111 [.int .u8 12,eKs l] [] (.pan (errI 5) []):=by
 have h2:=kl_bad 2 2 l hl l.length 0 (by omega) (by
  obtain ⟨x,hx,hm⟩:=h
  obtain ⟨j,hj⟩:=List.getElem?_of_mem hx
  exact ⟨j,x,by omega,hj,hm⟩)
 refine fact_tree draws (pure:=true) (
  .call 10 (168) ([]) ([]) (Fr (V.obj 0 2) rulesH)<|.rw 8017 [] [(17,Vi (↑(List.length (List.map (V.int .u8) l)):Int),Vi (↑(List.length l):Int))]<|.loop 32 false (K111) (S111 (2:Int) (2:Int) l 0) (Ex.pan (errI (5:Int))) (mkSt 54 [] (H111 (2:Int) (2:Int)))<|.ret (FOut.pan (V.iface 29 (Vi (5:Int))) [])) (by kernel_rfl) ?_
 exact ⟨(rules_sp),⟨tv,by simp (disch:=omega) only [List.length_map],tv⟩,(LoopR.weak (h2)),rfl⟩
theorem bk13_ok (l:List Int) (hl:l.length≤2) (h:∀ x∈l,mayB x 2=true):Sp C1 111 [.int .u8 13,eKs l] (.int .u8 2):=by
 have h2:=kl_ok 2 2 l hl l.length 0 (by omega) (fun j x _ hx=>h x (List.mem_of_getElem? hx))
 refine sp_tree draws (dm:=[]) (fs:=[]) (
  .call 10 (168) ([]) ([]) (Fr (V.obj 0 2) rulesH)<|.rw 8017 [] [(17,Vi (↑(List.length (List.map (V.int .u8) l)):Int),Vi (↑(List.length l):Int))]<|.loop 32 false (K111) (S111 (2:Int) (2:Int) l 0) (Ex.exit 0) (mkSt 54 [(5,V.ptr 3 0)] (H111 (2:Int) (2:Int)))<|.ret (Fr (Vu (2:Int)) [])) (by kernel_rfl) ?_
 exact ⟨(rules_sp),⟨tv,by simp (disch:=omega) only [List.length_map],tv⟩,(LoopR.weak (h2)),rfl⟩
theorem bk13_no (l:List Int) (hl:l.length≤2) (h:∃ x∈l,mayB x 2=false):FactO C1 111 [.int .u8 13,eKs l] [] (.pan (errI 5) []):=by
 have h2:=kl_bad 2 2 l hl l.length 0 (by omega) (by
  obtain ⟨x,hx,hm⟩:=h
  obtain ⟨j,hj⟩:=List.getElem?_of_mem hx
  exact ⟨j,x,by omega,hj,hm⟩)
 refine fact_tree draws (pure:=true) (
  .call 10 (168) ([]) ([]) (Fr (V.obj 0 2) rulesH)<|.rw 8017 [] [(17,Vi (↑(List.length (List.map (V.int .u8) l)):Int),Vi (↑(List.length l):Int))]<|.loop 32 false (K111) (S111 (2:Int) (2:Int) l 0) (Ex.pan (errI (5:Int))) (mkSt 54 [] (H111 (2:Int) (2:Int)))<|.ret (FOut.pan (V.iface 29 (Vi (5:Int))) [])) (by kernel_rfl) ?_
 exact ⟨(rules_sp),⟨tv,by simp (disch:=omega) only [List.length_map],tv⟩,(LoopR.weak (h2)),rfl⟩
theorem bk20_ok (l:List Int) (hl:l.length≤2) (h:∀ x∈l,mayB x 1=true):Sp C1 111 [.int .u8 20,eKs l] (.int .u8 1):=by
 have h2:=kl_ok 1 1 l hl l.length 0 (by omega) (fun j x _ hx=>h x (List.mem_of_getElem? hx))
 refine sp_tree draws (dm:=[]) (fs:=[]) (
  .call 10 (168) ([]) ([]) (Fr (V.obj 0 2) rulesH)<|.rw 8017 [] [(17,Vi (↑(List.length (List.map (V.int .u8) l)):Int),Vi (↑(List.length l):Int))]<|.loop 32 false (K111) (S111 (1:Int) (1:Int) l 0) (Ex.exit 0) (mkSt 54 [(5,V.ptr 3 0)] (H111 (1:Int) (1:Int)))<|.ret (Fr (Vu (1:Int)) [])) (by kernel_rfl) ?_
 exact ⟨(rules_sp),⟨tv,by simp (disch:=omega) only [List.length_map],tv⟩,(LoopR.weak (h2)),rfl⟩
theorem bk20_no (l:List Int) (hl:l.length≤2) (h:∃ x∈l,mayB x 1=false):FactO C1 111 [.int .u8 20,eKs l] [] (.pan (errI 5) []):=by
 have h2:=kl_bad 1 1 l hl l.length 0 (by omega) (by
  obtain ⟨x,hx,hm⟩:=h
  obtain ⟨j,hj⟩:=List.getElem?_of_mem hx
  exact ⟨j,x,by omega,hj,hm⟩)
 refine fact_tree draws (pure:=true) (
  .call 10 (168) ([]) ([]) (Fr (V.obj 0 2) rulesH)<|.rw 8017 [] [(17,Vi (↑(List.length (List.map (V.int .u8) l)):Int),Vi (↑(List.length l):Int))]<|.loop 32 false (K111) (S111 (1:Int) (1:Int) l 0) (Ex.pan (errI (5:Int))) (mkSt 54 [] (H111 (1:Int) (1:Int)))<|.ret (FOut.pan (V.iface 29 (Vi (5:Int))) [])) (by kernel_rfl) ?_
 exact ⟨(rules_sp),⟨tv,by simp (disch:=omega) only [List.length_map],tv⟩,(LoopR.weak (h2)),rfl⟩
theorem bk21_ok (l:List Int) (hl:l.length≤2) (h:∀ x∈l,mayB x 1=true):Sp C1 111 [.int .u8 21,eKs l] (.int .u8 1):=by
 have h2:=kl_ok 1 1 l hl l.length 0 (by omega) (fun j x _ hx=>h x (List.mem_of_getElem? hx))
 refine sp_tree draws (dm:=[]) (fs:=[]) (
  .call 10 (168) ([]) ([]) (Fr (V.obj 0 2) rulesH)<|.rw 8017 [] [(17,Vi (↑(List.length (List.map (V.int .u8) l)):Int),Vi (↑(List.length l):Int))]<|.loop 32 false (K111) (S111 (1:Int) (1:Int) l 0) (Ex.exit 0) (mkSt 54 [(5,V.ptr 3 0)] (H111 (1:Int) (1:Int)))<|.ret (Fr (Vu (1:Int)) [])) (by kernel_rfl) ?_
 exact ⟨(rules_sp),⟨tv,by simp (disch:=omega) only [List.length_map],tv⟩,(LoopR.weak (h2)),rfl⟩
theorem bk21_no (l:List Int) (hl:l.length≤2) (h:∃ x∈l,mayB x 1=false):FactO C1 111 [.int .u8 21,eKs l] [] (.pan (errI 5) []):=by
 have h2:=kl_bad 1 1 l hl l.length 0 (by omega) (by
  obtain ⟨x,hx,hm⟩:=h
  obtain ⟨j,hj⟩:=List.getElem?_of_mem hx
  exact ⟨j,x,by omega,hj,hm⟩)
 refine fact_tree draws (pure:=true) (
  .call 10 (168) ([]) ([]) (Fr (V.obj 0 2) rulesH)<|.rw 8017 [] [(17,Vi (↑(List.length (List.map (V.int .u8) l)):Int),Vi (↑(List.length l):Int))]<|.loop 32 false (K111) (S111 (1:Int) (1:Int) l 0) (Ex.pan (errI (5:Int))) (mkSt 54 [] (H111 (1:Int) (1:Int)))<|.ret (FOut.pan (V.iface 29 (Vi (5:Int))) [])) (by kernel_rfl) ?_
 exact ⟨(rules_sp),⟨tv,by simp (disch:=omega) only [List.length_map],tv⟩,(LoopR.weak (h2)),rfl⟩
theorem bk9 (x:Int):Sp C1 111 [.int .u8 9,eKs [x]] (.int .u8 1):=by
 refine sp_tree draws (dm:=[]) (fs:=[]) (
  .call 10 (168) ([]) ([]) (Fr (V.obj 0 2) rulesH)<|.ret (Fr (Vu (1:Int)) [])) (by kernel_rfl) ?_
 exact ⟨(rules_sp),rfl⟩
theorem bk14_ok (x y:Int) (hx:0≤x) (hy:0≤y) (h:x=y∨x=0∨y=0):Sp C1 111 [.int .u8 14,eKs [x,y]] (.int .u8 1):=by
 by_cases e:x=y
 ·subst e
  refine sp_tree draws (dm:=[]) (fs:=[]) (
   .call 10 (168) ([]) ([]) (Fr (V.obj 0 2) rulesH)<|.rw 8042 [] [(42,Vb (x==x),Vb true)]<|.call 53 (81) ([Vb true,Vi (5:Int)]) ([]) (Fr (V.tup []) [])<|.ret (Fr (Vu (1:Int)) [])) (by kernel_rfl) ?_
  exact ⟨(rules_sp),⟨tv,cb (by simp<;>omega),tv⟩,(Sp.fact (must_ok _)),rfl⟩
 ·refine sp_tree draws (dm:=[]) (fs:=[]) (
   .call 10 (168) ([]) ([]) (Fr (V.obj 0 2) rulesH)<|.rw 8042 [] [(42,Vb (x==y),Vb false)]<|.rw 8051 [] [(51,Vb ((if y<x then y else x)==(0:Int)),Vb true)]<|.call 53 (81) ([Vb true,Vi (5:Int)]) ([]) (Fr (V.tup []) [])<|.ret (Fr (Vu (1:Int)) [])) (by kernel_rfl) ?_
  exact ⟨(rules_sp),⟨tv,cb (by grind),tv⟩,⟨tv,cb (by grind),tv⟩,(Sp.fact (must_ok _)),rfl⟩
theorem bk14_no (x y:Int) (hx:0≤x) (hy:0≤y) (h:¬(x=y∨x=0∨y=0)):FactO C1 111 [.int .u8 14,eKs [x,y]] [] (.pan (errI 5) []):=by
 refine fact_tree draws (pure:=true) (
  .call 10 (168) ([]) ([]) (Fr (V.obj 0 2) rulesH)<|.rw 8042 [] [(42,Vb (x==y),Vb false)]<|.rw 8051 [] [(51,Vb ((if y<x then y else x)==(0:Int)),Vb false)]<|.call 53 (81) ([Vb false,Vi (5:Int)]) ([]) (FOut.pan (errI (5:Int)) [])<|.ret (FOut.pan (V.iface 29 (Vi (5:Int))) [])) (by kernel_rfl) ?_
 exact ⟨(rules_sp),⟨tv,cb (by grind),tv⟩,⟨tv,cb (by grind),tv⟩,(must_no _),rfl⟩
theorem bk15_ok (x y:Int) (hx:0≤x) (hy:0≤y) (h:x=y∨x=0∨y=0):Sp C1 111 [.int .u8 15,eKs [x,y]] (.int .u8 1):=by
 by_cases e:x=y
 ·subst e
  refine sp_tree draws (dm:=[]) (fs:=[]) (
   .call 10 (168) ([]) ([]) (Fr (V.obj 0 2) rulesH)<|.rw 8042 [] [(42,Vb (x==x),Vb true)]<|.call 53 (81) ([Vb true,Vi (5:Int)]) ([]) (Fr (V.tup []) [])<|.ret (Fr (Vu (1:Int)) [])) (by kernel_rfl) ?_
  exact ⟨(rules_sp),⟨tv,cb (by simp<;>omega),tv⟩,(Sp.fact (must_ok _)),rfl⟩
 ·refine sp_tree draws (dm:=[]) (fs:=[]) (
   .call 10 (168) ([]) ([]) (Fr (V.obj 0 2) rulesH)<|.rw 8042 [] [(42,Vb (x==y),Vb false)]<|.rw 8051 [] [(51,Vb ((if y<x then y else x)==(0:Int)),Vb true)]<|.call 53 (81) ([Vb true,Vi (5:Int)]) ([]) (Fr (V.tup []) [])<|.ret (Fr (Vu (1:Int)) [])) (by kernel_rfl) ?_
  exact ⟨(rules_sp),⟨tv,cb (by grind),tv⟩,⟨tv,cb (by grind),tv⟩,(Sp.fact (must_ok _)),rfl⟩
theorem bk15_no (x y:Int) (hx:0≤x) (hy:0≤y) (h:¬(x=y∨x=0∨y=0)):FactO C1 111 [.int .u8 15,eKs [x,y]] [] (.pan (errI 5) []):=by
 refine fact_tree draws (pure:=true) (
  .call 10 (168) ([]) ([]) (Fr (V.obj 0 2) rulesH)<|.rw 8042 [] [(42,Vb (x==y),Vb false)]<|.rw 8051 [] [(51,Vb ((if y<x then y else x)==(0:Int)),Vb false)]<|.call 53 (81) ([Vb false,Vi (5:Int)]) ([]) (FOut.pan (errI (5:Int)) [])<|.ret (FOut.pan (V.iface 29 (Vi (5:Int))) [])) (by kernel_rfl) ?_
 exact ⟨(rules_sp),⟨tv,cb (by grind),tv⟩,⟨tv,cb (by grind),tv⟩,(must_no _),rfl⟩
theorem bk16_ok (x y:Int) (hx:0≤x) (hy:0≤y) (h:x=y∨x=0∨y=0):Sp C1 111 [.int .u8 16,eKs [x,y]] (.int .u8 1):=by
 by_cases e:x=y
 ·subst e
  refine sp_tree draws (dm:=[]) (fs:=[]) (
   .call 10 (168) ([]) ([]) (Fr (V.obj 0 2) rulesH)<|.rw 8042 [] [(42,Vb (x==x),Vb true)]<|.call 53 (81) ([Vb true,Vi (5:Int)]) ([]) (Fr (V.tup []) [])<|.ret (Fr (Vu (1:Int)) [])) (by kernel_rfl) ?_
  exact ⟨(rules_sp),⟨tv,cb (by simp<;>omega),tv⟩,(Sp.fact (must_ok _)),rfl⟩
 ·refine sp_tree draws (dm:=[]) (fs:=[]) (
   .call 10 (168) ([]) ([]) (Fr (V.obj 0 2) rulesH)<|.rw 8042 [] [(42,Vb (x==y),Vb false)]<|.rw 8051 [] [(51,Vb ((if y<x then y else x)==(0:Int)),Vb true)]<|.call 53 (81) ([Vb true,Vi (5:Int)]) ([]) (Fr (V.tup []) [])<|.ret (Fr (Vu (1:Int)) [])) (by kernel_rfl) ?_
  exact ⟨(rules_sp),⟨tv,cb (by grind),tv⟩,⟨tv,cb (by grind),tv⟩,(Sp.fact (must_ok _)),rfl⟩
theorem bk16_no (x y:Int) (hx:0≤x) (hy:0≤y) (h:¬(x=y∨x=0∨y=0)):FactO C1 111 [.int .u8 16,eKs [x,y]] [] (.pan (errI 5) []):=by
 refine fact_tree draws (pure:=true) (
  .call 10 (168) ([]) ([]) (Fr (V.obj 0 2) rulesH)<|.rw 8042 [] [(42,Vb (x==y),Vb false)]<|.rw 8051 [] [(51,Vb ((if y<x then y else x)==(0:Int)),Vb false)]<|.call 53 (81) ([Vb false,Vi (5:Int)]) ([]) (FOut.pan (errI (5:Int)) [])<|.ret (FOut.pan (V.iface 29 (Vi (5:Int))) [])) (by kernel_rfl) ?_
 exact ⟨(rules_sp),⟨tv,cb (by grind),tv⟩,⟨tv,cb (by grind),tv⟩,(must_no _),rfl⟩
theorem bk17_ok (x y:Int) (hx:0≤x) (hy:0≤y) (h:x=y∨x=0∨y=0):Sp C1 111 [.int .u8 17,eKs [x,y]] (.int .u8 1):=by
 by_cases e:x=y
 ·subst e
  refine sp_tree draws (dm:=[]) (fs:=[]) (
   .call 10 (168) ([]) ([]) (Fr (V.obj 0 2) rulesH)<|.rw 8042 [] [(42,Vb (x==x),Vb true)]<|.call 53 (81) ([Vb true,Vi (5:Int)]) ([]) (Fr (V.tup []) [])<|.ret (Fr (Vu (1:Int)) [])) (by kernel_rfl) ?_
  exact ⟨(rules_sp),⟨tv,cb (by simp<;>omega),tv⟩,(Sp.fact (must_ok _)),rfl⟩
 ·refine sp_tree draws (dm:=[]) (fs:=[]) (
   .call 10 (168) ([]) ([]) (Fr (V.obj 0 2) rulesH)<|.rw 8042 [] [(42,Vb (x==y),Vb false)]<|.rw 8051 [] [(51,Vb ((if y<x then y else x)==(0:Int)),Vb true)]<|.call 53 (81) ([Vb true,Vi (5:Int)]) ([]) (Fr (V.tup []) [])<|.ret (Fr (Vu (1:Int)) [])) (by kernel_rfl) ?_
  exact ⟨(rules_sp),⟨tv,cb (by grind),tv⟩,⟨tv,cb (by grind),tv⟩,(Sp.fact (must_ok _)),rfl⟩
theorem bk17_no (x y:Int) (hx:0≤x) (hy:0≤y) (h:¬(x=y∨x=0∨y=0)):FactO C1 111 [.int .u8 17,eKs [x,y]] [] (.pan (errI 5) []):=by
 refine fact_tree draws (pure:=true) (
  .call 10 (168) ([]) ([]) (Fr (V.obj 0 2) rulesH)<|.rw 8042 [] [(42,Vb (x==y),Vb false)]<|.rw 8051 [] [(51,Vb ((if y<x then y else x)==(0:Int)),Vb false)]<|.call 53 (81) ([Vb false,Vi (5:Int)]) ([]) (FOut.pan (errI (5:Int)) [])<|.ret (FOut.pan (V.iface 29 (Vi (5:Int))) [])) (by kernel_rfl) ?_
 exact ⟨(rules_sp),⟨tv,cb (by grind),tv⟩,⟨tv,cb (by grind),tv⟩,(must_no _),rfl⟩
theorem bk18_ok (x y:Int) (hx:0≤x) (hy:0≤y) (h:x=y∨x=0∨y=0):Sp C1 111 [.int .u8 18,eKs [x,y]] (.int .u8 1):=by
 by_cases e:x=y
 ·subst e
  refine sp_tree draws (dm:=[]) (fs:=[]) (
   .call 10 (168) ([]) ([]) (Fr (V.obj 0 2) rulesH)<|.rw 8042 [] [(42,Vb (x==x),Vb true)]<|.call 53 (81) ([Vb true,Vi (5:Int)]) ([]) (Fr (V.tup []) [])<|.ret (Fr (Vu (1:Int)) [])) (by kernel_rfl) ?_
  exact ⟨(rules_sp),⟨tv,cb (by simp<;>omega),tv⟩,(Sp.fact (must_ok _)),rfl⟩
 ·refine sp_tree draws (dm:=[]) (fs:=[]) (
   .call 10 (168) ([]) ([]) (Fr (V.obj 0 2) rulesH)<|.rw 8042 [] [(42,Vb (x==y),Vb false)]<|.rw 8051 [] [(51,Vb ((if y<x then y else x)==(0:Int)),Vb true)]<|.call 53 (81) ([Vb true,Vi (5:Int)]) ([]) (Fr (V.tup []) [])<|.ret (Fr (Vu (1:Int)) [])) (by kernel_rfl) ?_
  exact ⟨(rules_sp),⟨tv,cb (by grind),tv⟩,⟨tv,cb (by grind),tv⟩,(Sp.fact (must_ok _)),rfl⟩
theorem bk18_no (x y:Int) (hx:0≤x) (hy:0≤y) (h:¬(x=y∨x=0∨y=0)):FactO C1 111 [.int .u8 18,eKs [x,y]] [] (.pan (errI 5) []):=by
 refine fact_tree draws (pure:=true) (
  .call 10 (168) ([]) ([]) (Fr (V.obj 0 2) rulesH)<|.rw 8042 [] [(42,Vb (x==y),Vb false)]<|.rw 8051 [] [(51,Vb ((if y<x then y else x)==(0:Int)),Vb false)]<|.call 53 (81) ([Vb false,Vi (5:Int)]) ([]) (FOut.pan (errI (5:Int)) [])<|.ret (FOut.pan (V.iface 29 (Vi (5:Int))) [])) (by kernel_rfl) ?_
 exact ⟨(rules_sp),⟨tv,cb (by grind),tv⟩,⟨tv,cb (by grind),tv⟩,(must_no _),rfl⟩
theorem bk19_ok (x y:Int) (hx:0≤x) (hy:0≤y) (h:x=y∨x=0∨y=0):Sp C1 111 [.int .u8 19,eKs [x,y]] (.int .u8 1):=by
 by_cases e:x=y
 ·subst e
  refine sp_tree draws (dm:=[]) (fs:=[]) (
   .call 10 (168) ([]) ([]) (Fr (V.obj 0 2) rulesH)<|.rw 8042 [] [(42,Vb (x==x),Vb true)]<|.call 53 (81) ([Vb true,Vi (5:Int)]) ([]) (Fr (V.tup []) [])<|.ret (Fr (Vu (1:Int)) [])) (by kernel_rfl) ?_
  exact ⟨(rules_sp),⟨tv,cb (by simp<;>omega),tv⟩,(Sp.fact (must_ok _)),rfl⟩
 ·refine sp_tree draws (dm:=[]) (fs:=[]) (
   .call 10 (168) ([]) ([]) (Fr (V.obj 0 2) rulesH)<|.rw 8042 [] [(42,Vb (x==y),Vb false)]<|.rw 8051 [] [(51,Vb ((if y<x then y else x)==(0:Int)),Vb true)]<|.call 53 (81) ([Vb true,Vi (5:Int)]) ([]) (Fr (V.tup []) [])<|.ret (Fr (Vu (1:Int)) [])) (by kernel_rfl) ?_
  exact ⟨(rules_sp),⟨tv,cb (by grind),tv⟩,⟨tv,cb (by grind),tv⟩,(Sp.fact (must_ok _)),rfl⟩
theorem bk19_no (x y:Int) (hx:0≤x) (hy:0≤y) (h:¬(x=y∨x=0∨y=0)):FactO C1 111 [.int .u8 19,eKs [x,y]] [] (.pan (errI 5) []):=by
 refine fact_tree draws (pure:=true) (
  .call 10 (168) ([]) ([]) (Fr (V.obj 0 2) rulesH)<|.rw 8042 [] [(42,Vb (x==y),Vb false)]<|.rw 8051 [] [(51,Vb ((if y<x then y else x)==(0:Int)),Vb false)]<|.call 53 (81) ([Vb false,Vi (5:Int)]) ([]) (FOut.pan (errI (5:Int)) [])<|.ret (FOut.pan (V.iface 29 (Vi (5:Int))) [])) (by kernel_rfl) ?_
 exact ⟨(rules_sp),⟨tv,cb (by grind),tv⟩,⟨tv,cb (by grind),tv⟩,(must_no _),rfl⟩
end Go.Fw
set_option maxHeartbeats 20000000
namespace Go.Fw
open Go.Proofs
theorem mem1 {x:Int} {P:Int→Prop} (h:P x):∀ y∈[x],P y:=fun y hy=>by rw [List.mem_singleton.1 hy];exact h
theorem mem2 {x y:Int} {P:Int→Prop} (h:P x) (h2:P y):∀ z∈[x,y],P z:=fun z hz=>by
 rcases List.mem_cons.1 hz with rfl | hz
 ·exact h
 ·rw [List.mem_singleton.1 hz];exact h2
theorem bkind0_sp (k:Int) (h1:1≤k) (h2:k≤5):Sp C1 111 [.int .u8 k,eKs []] (.int .u8 (kind0 k)):=by
 have h3:k=1∨k=2∨k=3∨k=4∨k=5:=by omega
 rcases h3 with rfl | rfl | rfl | rfl | rfl
 ·exact bk1_ok [] (by simp) (by simp)
 ·exact bk2_ok [] (by simp) (by simp)
 ·exact bk3_ok [] (by simp) (by simp)
 ·exact bk4_ok [] (by simp) (by simp)
 ·exact bk5_ok [] (by simp) (by simp)
theorem bkind1_ok (k x:Int) (h1:7≤k) (h2:k≤10) (h:kind1ok k x=true):Sp C1 111 [.int .u8 k,eKs [x]] (.int .u8 (kind1 k)):=by
 have h3:k=7∨k=8∨k=9∨k=10:=by omega
 rcases h3 with rfl | rfl | rfl | rfl
 ·exact bk7_ok [x] (by simp) (mem1 h)
 ·exact bk8_ok [x] (by simp) (mem1 h)
 ·exact bk9 x
 ·exact bk10_ok [x] (by simp) (mem1 h)
theorem bkind1_no (k x:Int) (h1:7≤k) (h2:k≤10) (h:kind1ok k x=false):FactO C1 111 [.int .u8 k,eKs [x]] [] (.pan (errI 5) []):=by
 have h3:k=7∨k=8∨k=9∨k=10:=by omega
 rcases h3 with rfl | rfl | rfl | rfl
 ·exact bk7_no [x] (by simp) ⟨x,by simp,h⟩
 ·exact bk8_no [x] (by simp) ⟨x,by simp,h⟩
 ·cases h
 ·exact bk10_no [x] (by simp) ⟨x,by simp,h⟩
theorem may_cmp (x y:Int):(mayB x y||mayB y x)=decide (x=y∨x=0∨y=0):=by
 unfold mayB
 rw [Bool.eq_iff_iff]
 simp
 omega
theorem bkind2_ok (k x y:Int) (h1:11≤k) (h2:k≤21) (hx:0≤x) (hy:0≤y) (h:kind2ok k x y=true):Sp C1 111 [.int .u8 k,eKs [x,y]] (.int .u8 (kind2 k)):=by
 have h3:k=11∨k=12∨k=13∨k=14∨k=15∨k=16∨k=17∨k=18∨k=19∨k=20∨k=21:=by omega
 have two:∀ a:Int,(mayB x a&&mayB y a)=true→∀ z∈[x,y],mayB z a=true:=fun a ha=>by
  rw [Bool.and_eq_true] at ha
  exact mem2 ha.1 ha.2
 have cmp:(mayB x y||mayB y x)=true→x=y∨x=0∨y=0:=fun hh=>by rw [may_cmp] at hh;exact of_decide_eq_true hh
 rcases h3 with rfl | rfl | rfl | rfl | rfl | rfl | rfl | rfl | rfl | rfl | rfl
 ·exact bk11_ok [x,y] (by simp) (two 2 h)
 ·exact bk12_ok [x,y] (by simp) (two 2 h)
 ·exact bk13_ok [x,y] (by simp) (two 2 h)
 ·exact bk14_ok x y hx hy (cmp h)
 ·exact bk15_ok x y hx hy (cmp h)
 ·exact bk16_ok x y hx hy (cmp h)
 ·exact bk17_ok x y hx hy (cmp h)
 ·exact bk18_ok x y hx hy (cmp h)
 ·exact bk19_ok x y hx hy (cmp h)
 ·exact bk20_ok [x,y] (by simp) (two 1 h)
 ·exact bk21_ok [x,y] (by simp) (two 1 h)
theorem bkind2_no (k x y:Int) (h1:11≤k) (h2:k≤21) (hx:0≤x) (hy:0≤y) (h:kind2ok k x y=false):FactO C1 111 [.int .u8 k,eKs [x,y]] [] (.pan (errI 5) []):=by
 have h3:k=11∨k=12∨k=13∨k=14∨k=15∨k=16∨k=17∨k=18∨k=19∨k=20∨k=21:=by omega
 have two:∀ a:Int,(mayB x a&&mayB y a)=false→∃ z∈[x,y],mayB z a=false:=fun a ha=>by
  rw [Bool.and_eq_false_iff] at ha
  rcases ha with ha | ha
  ·exact ⟨x,by simp,ha⟩
  ·exact ⟨y,by simp,ha⟩
 have cmp:(mayB x y||mayB y x)=false→¬(x=y∨x=0∨y=0):=fun hh=>by rw [may_cmp] at hh;exact of_decide_eq_false hh
 rcases h3 with rfl | rfl | rfl | rfl | rfl | rfl | rfl | rfl | rfl | rfl | rfl
 ·exact bk11_no [x,y] (by simp) (two 2 h)
 ·exact bk12_no [x,y] (by simp) (two 2 h)
 ·exact bk13_no [x,y] (by simp) (two 2 h)
 ·exact bk14_no x y hx hy (cmp h)
 ·exact bk15_no x y hx hy (cmp h)
 ·exact bk16_no x y hx hy (cmp h)
 ·exact bk17_no x y hx hy (cmp h)
 ·exact bk18_no x y hx hy (cmp h)
 ·exact bk19_no x y hx hy (cmp h)
 ·exact bk20_no [x,y] (by simp) (two 1 h)
 ·exact bk21_no [x,y] (by simp) (two 1 h)
abbrev HS (s:Stp):List Blk:=[.cells [.int .u8 s.k,.str s.t,.int .i64 s.n] 56]
abbrev KA:List (Nat×Fm):=keeps [0,1,5,18,19,20]
abbrev SA (l:List Stp) (cols:List Cl) (n:Int) (i:Nat):St:=mkSt 124 [(0,eSteps l),(1,eCols cols),(5,.int .i64 n),(18,eSteps l),(19,.int .i64 (l.length:Int)),(20,.int .i64 (i:Int))] []
section
variable (l:List Stp) (cols:List Cl) (hb:l.length≤2 ^ 47) (hf:∀ s∈l,FineS s)
include hb hf
theorem hl_none:∀ k i (n:Int),i+k=l.length→0≤n→n≤i→rightGo (l.drop i) n=none→∃ s,LoopK C1 50 24 KA (SA l cols n i) (.pan (errI 13)) (mkSt 124 [] (HS s))
 | 0,i,n,hi,h0,h1,hz=>by
  rw [List.drop_eq_nil_of_le (by omega)] at hz
  cases hz
 | k+1,i,n,hi,h0,h1,hz=>by
  obtain ⟨s,hs⟩:∃ s,l[i]?=some s:=⟨l[i]'(by omega),List.getElem?_eq_getElem (by omega)⟩
  have fs:=hf s (List.mem_of_getElem? hs)
  have hr:=tN_range s
  have ht:=btakes_sp s fs
  rw [rightGo_at l i s hs n] at hz
  cases h7:tOk s with
  | false =>
   rw [h7] at ht
   refine ⟨s,?_⟩
   clear hz
   refine loop_tree draws (rd:=true) (kn:=KA) (ke:=(keeps [])) (
    .rw 8021 [] [(21,Vb (decide ((↑i:Int)<(↑(List.length l):Int))),Vb true)]<|.opt 22 (idx (List.map eS l) (↑i:Int)) (eS s)<|.call 26 (110) ([eS s]) ([]) (Fr (V.tup [Vi (tN s),Vb false]) [])<|.call 35 (81) ([Vb false,Vi (13:Int)]) ([]) (FOut.pan (errI (13:Int)) [])<|.ret ((Ex.pan (V.iface 29 (Vi (13:Int))),mkSt 124 [] [Blk.cells [Vu (Stp.k s),V.str (Stp.t s),Vi (Stp.n s)] 56]))) (by kernel_rfl) ?_
   exact ⟨⟨tv,cb (by simp<;>omega),tv⟩,(idx_map _ hs),(Sp.fact (ht)),(must_no _),rfl,rfl⟩
  | true =>
   rw [h7] at ht hz
   by_cases h8:n<tN s
   ·refine ⟨s,?_⟩
    clear hz
    refine loop_tree draws (rd:=true) (kn:=KA) (ke:=(keeps [])) (
     .rw 8021 [] [(21,Vb (decide ((↑i:Int)<(↑(List.length l):Int))),Vb true)]<|.opt 22 (idx (List.map eS l) (↑i:Int)) (eS s)<|.call 26 (110) ([eS s]) ([]) (Fr (V.tup [Vi (tN s),Vb true]) [])<|.rw 8033 [] [(33,Vb (decide (tN s≤n)),Vb false)]<|.call 35 (81) ([Vb false,Vi (13:Int)]) ([]) (FOut.pan (errI (13:Int)) [])<|.ret ((Ex.pan (V.iface 29 (Vi (13:Int))),mkSt 124 [] [Blk.cells [Vu (Stp.k s),V.str (Stp.t s),Vi (Stp.n s)] 56]))) (by kernel_rfl) ?_
    exact ⟨⟨tv,cb (by simp<;>omega),tv⟩,(idx_map _ hs),(Sp.fact (ht)),⟨tv,cb (by simp<;>omega),tv⟩,(must_no _),rfl,rfl⟩
   ·rw [if_neg (by simp;omega)] at hz
    have e:n+(1-tN s)=n-(tN s-1):=by omega
    rw [e] at hz
    obtain ⟨s2,ih⟩:=hl_none k (i+1) (n-(tN s-1)) (by omega) (by omega) (by omega) hz
    refine ⟨s2,?_⟩
    clear hz
    refine loop_tree draws (rd:=true) (kn:=KA) (ke:=(keeps [])) (
     .rw 8021 [] [(21,Vb (decide ((↑i:Int)<(↑(List.length l):Int))),Vb true)]<|.opt 22 (idx (List.map eS l) (↑i:Int)) (eS s)<|.call 26 (110) ([eS s]) ([]) (Fr (V.tup [Vi (tN s),Vb true]) [])<|.rw 8033 [] [(33,Vb (decide (tN s≤n)),Vb true)]<|.call 35 (81) ([Vb true,Vi (13:Int)]) ([]) (Fr (V.tup []) [])<|.rw 8038 [] [(38,Vi (IntKind.wrap IntKind.i64 (tN s-(1:Int))),Vi (tN s-(1:Int)))]<|.rw 8039 [] [(39,Vi (IntKind.wrap IntKind.i64 (n-(tN s-(1:Int)))),Vi (n-(tN s-(1:Int))))]<|.rw 8040 [] [(40,Vi (IntKind.wrap IntKind.i64 ((↑i:Int)+(1:Int))),Vi (↑(i+1):Int))]<|.to 24000 ([.cut 0])<|.ret (.normal,SA l cols (n-(tN s-(1:Int))) (i+1))) (by kernel_rfl) ?_
    exact ⟨⟨tv,cb (by simp<;>omega),tv⟩,(idx_map _ hs),(Sp.fact (ht)),⟨tv,cb (by simp<;>omega),tv⟩,(Sp.fact (must_ok _)),⟨tv,by simp (disch:=omega) only [wrap_i64],tv⟩,⟨tv,by simp (disch:=omega) only [wrap_i64],tv⟩,⟨tv,by simp (disch:=omega) only [cast_succ,wrap_i64],tv⟩,(ih)⟩
theorem hl_some (m:Int):∀ k i (n:Int),i+k=l.length→0≤n→n≤i→rightGo (l.drop i) n=some m→LoopK C1 50 24 KA (SA l cols n i) (.exit 0) (mkSt 124 [(0,eSteps l),(1,eCols cols),(5,.int .i64 m)] [])
 | 0,i,n,hi,h0,h1,hz=>by
  rw [List.drop_eq_nil_of_le (by omega)] at hz
  cases hz
  refine loop_tree draws (rd:=true) (kn:=KA) (ke:=(keeps [0,1,5])) (
   .rw 8021 [] [(21,Vb (decide ((↑i:Int)<(↑(List.length l):Int))),Vb false)]<|.ret ((Ex.exit 0,mkSt 124 [(0,V.imm false 3 (List.map eS l)),(1,V.imm false 2 (List.map eC cols)),(5,Vi m)] []))) (by kernel_rfl) ?_
  exact ⟨⟨tv,cb (by simp<;>omega),tv⟩,rfl,rfl⟩
 | k+1,i,n,hi,h0,h1,hz=>by
  obtain ⟨s,hs⟩:∃ s,l[i]?=some s:=⟨l[i]'(by omega),List.getElem?_eq_getElem (by omega)⟩
  have fs:=hf s (List.mem_of_getElem? hs)
  have hr:=tN_range s
  have ht:=btakes_sp s fs
  rw [rightGo_at l i s hs n] at hz
  have hc:¬(tOk s=false∨n<tN s):=fun hc=>by rw [if_pos hc] at hz;cases hz
  rw [if_neg hc] at hz
  have h7:tOk s=true:=by
   cases h:tOk s with
   | true=>rfl
   | false=>exact absurd (.inl h) hc
  have h8:tN s≤n:=by omega
  rw [h7] at ht
  have e:n+(1-tN s)=n-(tN s-1):=by omega
  rw [e] at hz
  have ih:=hl_some m k (i+1) (n-(tN s-1)) (by omega) (by omega) (by omega) hz
  clear hz hc
  refine loop_tree draws (rd:=true) (kn:=KA) (ke:=(keeps [0,1,5])) (
   .rw 8021 [] [(21,Vb (decide ((↑i:Int)<(↑(List.length l):Int))),Vb true)]<|.opt 22 (idx (List.map eS l) (↑i:Int)) (eS s)<|.call 26 (110) ([eS s]) ([]) (Fr (V.tup [Vi (tN s),Vb true]) [])<|.rw 8033 [] [(33,Vb (decide (tN s≤n)),Vb true)]<|.call 35 (81) ([Vb true,Vi (13:Int)]) ([]) (Fr (V.tup []) [])<|.rw 8038 [] [(38,Vi (IntKind.wrap IntKind.i64 (tN s-(1:Int))),Vi (tN s-(1:Int)))]<|.rw 8039 [] [(39,Vi (IntKind.wrap IntKind.i64 (n-(tN s-(1:Int)))),Vi (n-(tN s-(1:Int))))]<|.rw 8040 [] [(40,Vi (IntKind.wrap IntKind.i64 ((↑i:Int)+(1:Int))),Vi (↑(i+1):Int))]<|.to 24000 ([.cut 0])<|.ret (.normal,SA l cols (n-(tN s-(1:Int))) (i+1))) (by kernel_rfl) ?_
  exact ⟨⟨tv,cb (by simp<;>omega),tv⟩,(idx_map _ hs),(Sp.fact (ht)),⟨tv,cb (by simp<;>omega),tv⟩,(Sp.fact (must_ok _)),⟨tv,by simp (disch:=omega) only [wrap_i64],tv⟩,⟨tv,by simp (disch:=omega) only [wrap_i64],tv⟩,⟨tv,by simp (disch:=omega) only [cast_succ,wrap_i64],tv⟩,(ih)⟩
end
abbrev KB:List (Nat×Fm):=keeps [0,1,53,54,55]
abbrev SB (l:List Stp) (cols:List Cl) (i:Nat):St:=mkSt 124 [(0,eSteps l),(1,eCols cols),(53,eSteps l),(54,.int .i64 (l.length:Int)),(55,.int .i64 (i:Int))] []
section
variable (l:List Stp) (cols:List Cl) (hb:l.length≤2 ^ 47) (hc:cols.length≤16)
include hb hc
theorem cl_ok:∀ k i,i+k=l.length→(∀ j s,i≤j→l[j]?=some s→ColOk cols.length s)→LoopK C1 50 96 KB (SB l cols i) (.exit 2) (mkSt 124 [(0,eSteps l),(1,eCols cols)] [])
 | 0,i,h,hn=>by
  refine loop_tree draws (rd:=true) (kn:=KB) (ke:=(keeps [0,1])) (
   .rw 8056 [] [(56,Vb (decide ((↑i:Int)<(↑(List.length l):Int))),Vb false)]<|.ret ((Ex.exit 2,mkSt 124 [(0,V.imm false 3 (List.map eS l)),(1,V.imm false 2 (List.map eC cols))] []))) (by kernel_rfl) ?_
  exact ⟨⟨tv,cb (by simp<;>omega),tv⟩,rfl,rfl⟩
 | k+1,i,h,hn=>by
  have ih:=cl_ok k (i+1) (by omega) (fun j v hj hv=>hn j v (by omega) hv)
  obtain ⟨s,hs⟩:∃ s,l[i]?=some s:=⟨l[i]'(by omega),List.getElem?_eq_getElem (by omega)⟩
  have hk:=hn i s (Nat.le_refl _) hs
  by_cases h6:s.k=6
  ·obtain ⟨h1,h2,h3⟩:=hk h6
   refine loop_tree draws (rd:=true) (kn:=KB) (ke:=(keeps [0,1])) (
    .rw 8056 [] [(56,Vb (decide ((↑i:Int)<(↑(List.length l):Int))),Vb true)]<|.opt 57 (idx (List.map eS l) (↑i:Int)) (eS s)<|.rw 8061 [] [(61,Vb (Stp.k s !=(6:Int)),Vb false)]<|.rw 8065 [] [(65,Vb (ByteArray.toList (Stp.t s)==[]),Vb true)]<|.rw 8069 [] [(69,Vb (decide (Stp.n s ≥ (0:Int))),Vb true)]<|.rw 8075 [] [(75,Vi (↑(List.length (List.map eC cols)):Int),Vi (↑(List.length cols):Int))]<|.rw 8076 [] [(76,Vb (decide (Stp.n s<(↑(List.length cols):Int))),Vb true)]<|.call 79 (81) ([Vb true,Vi (2:Int)]) ([]) (Fr (V.tup []) [])<|.rw 8080 [] [(80,Vi (IntKind.wrap IntKind.i64 ((↑i:Int)+(1:Int))),Vi (↑(i+1):Int))]<|.to 24000 ([.cut 0])<|.ret (.normal,SB l cols (i+1))) (by kernel_rfl) ?_
   exact ⟨⟨tv,cb (by simp<;>omega),tv⟩,(idx_map _ hs),⟨tv,cb (by simp<;>omega),tv⟩,⟨tv,cb (by simp [h1]),tv⟩,⟨tv,cb (by simp<;>omega),tv⟩,⟨tv,by simp (disch:=omega) only [List.length_map],tv⟩,⟨tv,cb (by simp<;>omega),tv⟩,(Sp.fact (must_ok _)),⟨tv,by simp (disch:=omega) only [cast_succ,wrap_i64],tv⟩,(ih)⟩
  ·refine loop_tree draws (rd:=true) (kn:=KB) (ke:=(keeps [0,1])) (
    .rw 8056 [] [(56,Vb (decide ((↑i:Int)<(↑(List.length l):Int))),Vb true)]<|.opt 57 (idx (List.map eS l) (↑i:Int)) (eS s)<|.rw 8061 [] [(61,Vb (Stp.k s !=(6:Int)),Vb true)]<|.call 79 (81) ([Vb true,Vi (2:Int)]) ([]) (Fr (V.tup []) [])<|.rw 8080 [] [(80,Vi (IntKind.wrap IntKind.i64 ((↑i:Int)+(1:Int))),Vi (↑(i+1):Int))]<|.to 24000 ([.cut 0])<|.ret (.normal,SB l cols (i+1))) (by kernel_rfl) ?_
   exact ⟨⟨tv,cb (by simp<;>omega),tv⟩,(idx_map _ hs),⟨tv,cb (by simp<;>omega),tv⟩,(Sp.fact (must_ok _)),⟨tv,by simp (disch:=omega) only [cast_succ,wrap_i64],tv⟩,(ih)⟩
theorem cl_bad:∀ k i,i+k=l.length→(∃ j s,i≤j∧l[j]?=some s∧¬ColOk cols.length s)→∃ s,LoopK C1 50 96 KB (SB l cols i) (.pan (errI 2)) (mkSt 124 [] (HS s))
 | 0,i,h,⟨j,s,hj,hs,_⟩=>by
  have:=(List.getElem?_eq_some_iff.1 hs).1
  omega
 | k+1,i,h,hn=>by
  obtain ⟨s,hs⟩:∃ s,l[i]?=some s:=⟨l[i]'(by omega),List.getElem?_eq_getElem (by omega)⟩
  by_cases hk:ColOk cols.length s
  ·obtain ⟨s2,ih⟩:=cl_bad k (i+1) (by omega) (by
    obtain ⟨j,x,q1,q2,q3⟩:=hn
    refine ⟨j,x,?_,q2,q3⟩
    by_cases e:j=i
    ·subst e;rw [hs] at q2;cases q2;exact absurd hk q3
    ·omega)
   refine ⟨s2,?_⟩
   by_cases h6:s.k=6
   ·obtain ⟨h1,h2,h3⟩:=hk h6
    refine loop_tree draws (rd:=true) (kn:=KB) (ke:=(keeps [])) (
     .rw 8056 [] [(56,Vb (decide ((↑i:Int)<(↑(List.length l):Int))),Vb true)]<|.opt 57 (idx (List.map eS l) (↑i:Int)) (eS s)<|.rw 8061 [] [(61,Vb (Stp.k s !=(6:Int)),Vb false)]<|.rw 8065 [] [(65,Vb (ByteArray.toList (Stp.t s)==[]),Vb true)]<|.rw 8069 [] [(69,Vb (decide (Stp.n s ≥ (0:Int))),Vb true)]<|.rw 8075 [] [(75,Vi (↑(List.length (List.map eC cols)):Int),Vi (↑(List.length cols):Int))]<|.rw 8076 [] [(76,Vb (decide (Stp.n s<(↑(List.length cols):Int))),Vb true)]<|.call 79 (81) ([Vb true,Vi (2:Int)]) ([]) (Fr (V.tup []) [])<|.rw 8080 [] [(80,Vi (IntKind.wrap IntKind.i64 ((↑i:Int)+(1:Int))),Vi (↑(i+1):Int))]<|.to 24000 ([.cut 0])<|.ret (.normal,SB l cols (i+1))) (by kernel_rfl) ?_
    exact ⟨⟨tv,cb (by simp<;>omega),tv⟩,(idx_map _ hs),⟨tv,cb (by simp<;>omega),tv⟩,⟨tv,cb (by simp [h1]),tv⟩,⟨tv,cb (by simp<;>omega),tv⟩,⟨tv,by simp (disch:=omega) only [List.length_map],tv⟩,⟨tv,cb (by simp<;>omega),tv⟩,(Sp.fact (must_ok _)),⟨tv,by simp (disch:=omega) only [cast_succ,wrap_i64],tv⟩,(ih)⟩
   ·refine loop_tree draws (rd:=true) (kn:=KB) (ke:=(keeps [])) (
     .rw 8056 [] [(56,Vb (decide ((↑i:Int)<(↑(List.length l):Int))),Vb true)]<|.opt 57 (idx (List.map eS l) (↑i:Int)) (eS s)<|.rw 8061 [] [(61,Vb (Stp.k s !=(6:Int)),Vb true)]<|.call 79 (81) ([Vb true,Vi (2:Int)]) ([]) (Fr (V.tup []) [])<|.rw 8080 [] [(80,Vi (IntKind.wrap IntKind.i64 ((↑i:Int)+(1:Int))),Vi (↑(i+1):Int))]<|.to 24000 ([.cut 0])<|.ret (.normal,SB l cols (i+1))) (by kernel_rfl) ?_
    exact ⟨⟨tv,cb (by simp<;>omega),tv⟩,(idx_map _ hs),⟨tv,cb (by simp<;>omega),tv⟩,(Sp.fact (must_ok _)),⟨tv,by simp (disch:=omega) only [cast_succ,wrap_i64],tv⟩,(ih)⟩
  ·have h6:s.k=6:=by
    apply Classical.byContradiction;intro h;exact hk (fun e=>absurd e h)
   refine ⟨s,?_⟩
   by_cases h1:s.t.toList=[]
   ·by_cases h2:s.n<0
    ·refine loop_tree draws (rd:=true) (kn:=KB) (ke:=(keeps [])) (
      .rw 8056 [] [(56,Vb (decide ((↑i:Int)<(↑(List.length l):Int))),Vb true)]<|.opt 57 (idx (List.map eS l) (↑i:Int)) (eS s)<|.rw 8061 [] [(61,Vb (Stp.k s !=(6:Int)),Vb false)]<|.rw 8065 [] [(65,Vb (ByteArray.toList (Stp.t s)==[]),Vb true)]<|.rw 8069 [] [(69,Vb (decide (Stp.n s ≥ (0:Int))),Vb false)]<|.call 79 (81) ([Vb false,Vi (2:Int)]) ([]) (FOut.pan (errI (2:Int)) [])<|.ret ((Ex.pan (V.iface 29 (Vi (2:Int))),mkSt 124 [] [Blk.cells [Vu (Stp.k s),V.str (Stp.t s),Vi (Stp.n s)] 56]))) (by kernel_rfl) ?_
     exact ⟨⟨tv,cb (by simp<;>omega),tv⟩,(idx_map _ hs),⟨tv,cb (by simp<;>omega),tv⟩,⟨tv,cb (by simp [h1]),tv⟩,⟨tv,cb (by simp<;>omega),tv⟩,(must_no _),rfl,rfl⟩
    ·have h3:(cols.length:Int)≤s.n:=by
      apply Classical.byContradiction;intro h;exact hk (fun _=>⟨h1,by omega,by omega⟩)
     refine loop_tree draws (rd:=true) (kn:=KB) (ke:=(keeps [])) (
      .rw 8056 [] [(56,Vb (decide ((↑i:Int)<(↑(List.length l):Int))),Vb true)]<|.opt 57 (idx (List.map eS l) (↑i:Int)) (eS s)<|.rw 8061 [] [(61,Vb (Stp.k s !=(6:Int)),Vb false)]<|.rw 8065 [] [(65,Vb (ByteArray.toList (Stp.t s)==[]),Vb true)]<|.rw 8069 [] [(69,Vb (decide (Stp.n s ≥ (0:Int))),Vb true)]<|.rw 8075 [] [(75,Vi (↑(List.length (List.map eC cols)):Int),Vi (↑(List.length cols):Int))]<|.rw 8076 [] [(76,Vb (decide (Stp.n s<(↑(List.length cols):Int))),Vb false)]<|.call 79 (81) ([Vb false,Vi (2:Int)]) ([]) (FOut.pan (errI (2:Int)) [])<|.ret ((Ex.pan (V.iface 29 (Vi (2:Int))),mkSt 124 [] [Blk.cells [Vu (Stp.k s),V.str (Stp.t s),Vi (Stp.n s)] 56]))) (by kernel_rfl) ?_
     exact ⟨⟨tv,cb (by simp<;>omega),tv⟩,(idx_map _ hs),⟨tv,cb (by simp<;>omega),tv⟩,⟨tv,cb (by simp [h1]),tv⟩,⟨tv,cb (by simp<;>omega),tv⟩,⟨tv,by simp (disch:=omega) only [List.length_map],tv⟩,⟨tv,cb (by simp<;>omega),tv⟩,(must_no _),rfl,rfl⟩
   ·refine loop_tree draws (rd:=true) (kn:=KB) (ke:=(keeps [])) (
     .rw 8056 [] [(56,Vb (decide ((↑i:Int)<(↑(List.length l):Int))),Vb true)]<|.opt 57 (idx (List.map eS l) (↑i:Int)) (eS s)<|.rw 8061 [] [(61,Vb (Stp.k s !=(6:Int)),Vb false)]<|.rw 8065 [] [(65,Vb (ByteArray.toList (Stp.t s)==[]),Vb false)]<|.call 79 (81) ([Vb false,Vi (2:Int)]) ([]) (FOut.pan (errI (2:Int)) [])<|.ret ((Ex.pan (V.iface 29 (Vi (2:Int))),mkSt 124 [] [Blk.cells [Vu (Stp.k s),V.str (Stp.t s),Vi (Stp.n s)] 56]))) (by kernel_rfl) ?_
    exact ⟨⟨tv,cb (by simp<;>omega),tv⟩,(idx_map _ hs),⟨tv,cb (by simp<;>omega),tv⟩,⟨tv,cb (by simp [h1]),tv⟩,(must_no _),rfl,rfl⟩
end
end Go.Fw
set_option maxHeartbeats 20000000
namespace Go.Fw
open Go.Proofs
abbrev KD:List (Nat×Fm):=[(1,.of .keep),(12,.of (.lin 26 1)),(81,.of .keep),(82,.of .keep),(83,.of .keep)]
abbrev SD (l:List Stp) (cols:List Cl) (st:List Int) (i:Nat):St:=mkSt 124 [(1,eCols cols),(12,.lin true 26 1 (st.map (V.int .u8))),(81,eSteps l),(82,.int .i64 (l.length:Int)),(83,.int .i64 (i:Int))] []
abbrev FD (st:List Int):St:=mkSt 124 [(12,.lin true 26 1 (st.map (V.int .u8)))] []
theorem kd_end (l:List Stp) (cols:List Cl) (st:List Int) (i:Nat) (hi:i=l.length) (hb:l.length≤64):LoopK C1 50 144 KD (SD l cols st i) (.exit 4) (FD st):=by
 refine loop_tree draws (rd:=true) (kn:=KD) (ke:=[(12,.of (.lin 26 1))]) (
  .rw 8084 [] [(84,Vb (decide ((↑i:Int)<(↑(List.length l):Int))),Vb false)]<|.ret ((Ex.exit 4,mkSt 124 [(12,V.lin true 26 1 (List.map (V.int .u8) st))] []))) (by kernel_rfl) ?_
 exact ⟨⟨tv,cb (by simp<;>omega),tv⟩,rfl,rfl⟩
section
variable (l:List Stp) (cols:List Cl) (i:Nat) (s:Stp) (e:Ex) (s2:St) (hb:l.length≤64) (hs:l[i]?=some s)
include hb hs
theorem kd_col (st:List Int) (hst:st.length≤i) (h6:s.k=6) (m:Nat) (c:Cl) (hn:s.n=(m:Int)) (hc:cols[m]?=some c)
  (ih:LoopK C1 50 144 KD (SD l cols (st++[c.k]) (i+1)) e s2):LoopK C1 50 144 KD (SD l cols st i) e s2:=by
 have hi:=(List.getElem?_eq_some_iff.1 hs).1
 have hi2:idx (cols.map eC) s.n=some (eC c):=by rw [hn];exact idx_map eC hc
 refine loop_tree draws (rd:=true) (kn:=KD) (ke:=(keeps [])) (
  .rw 8084 [] [(84,Vb (decide ((↑i:Int)<(↑(List.length l):Int))),Vb true)]<|.opt 85 (idx (List.map eS l) (↑i:Int)) (eS s)<|.rw 8089 [] [(89,Vb (Stp.k s==(6:Int)),Vb true)]<|.opt 94 (idx (List.map eC cols) (Stp.n s)) (eC c)<|.chk 98 (decide ((List.length (List.map (V.int .u8) st)+1)*1≤140737488355328))<|.rw 8098 [] [(98,V.lin true 26 1 (List.map (V.int .u8) st++[Vu (Cl.k c)]),V.lin true 26 1 (List.map (V.int .u8) (st++[Cl.k c])))]<|.rw 8120 [] [(120,Vi (IntKind.wrap IntKind.i64 ((↑i:Int)+(1:Int))),Vi (↑(i+1):Int))]<|.to 24000 ([.cut 0])<|.ret (.normal,SD l cols (st++[Cl.k c]) (i+1))) (by kernel_rfl) ?_
 exact ⟨⟨tv,cb (by simp<;>omega),tv⟩,(idx_map _ hs),⟨tv,cb (by simp<;>omega),tv⟩,(hi2),by simp<;>omega,⟨tv,by simp (disch:=omega) only [app_int],tv⟩,⟨tv,by simp (disch:=omega) only [cast_succ,wrap_i64],tv⟩,(ih)⟩
theorem kd_0 (st:List Int) (hst:st.length≤i) (hf:FineS s) (h6:TkOk s) (h7:s.k≤5)
  (ih:LoopK C1 50 144 KD (SD l cols (st++[kind0 s.k]) (i+1)) e s2):LoopK C1 50 144 KD (SD l cols st i) e s2:=by
 have hi:=(List.getElem?_eq_some_iff.1 hs).1
 have h1:=h6.1
 have e1:tN s=0:=by unfold tN;rw [if_neg (by omega)];unfold tkN;rw [if_neg (by simpa using h6),if_pos (by omega)]
 have e2:tOk s=true:=by unfold tOk;rw [if_neg (by omega)];unfold tkOk;simpa using h6
 have ht:=btakes_sp s hf
 rw [e1,e2] at ht
 have hk2:=bkind0_sp s.k h1 h7
 unfold SD at ih
 rw [List.map_append] at ih
 simp only [List.map_cons,List.map_nil] at ih
 refine loop_tree draws (rd:=true) (kn:=KD) (ke:=(keeps [])) (
  .rw 8084 [] [(84,Vb (decide ((↑i:Int)<(↑(List.length l):Int))),Vb true)]<|.opt 85 (idx (List.map eS l) (↑i:Int)) (eS s)<|.rw 8089 [] [(89,Vb (Stp.k s==(6:Int)),Vb false)]<|.call 101 (110) ([eS s]) ([]) (Fr (V.tup [Vi (0:Int),Vb true]) [])<|.rw 8105 [] [(105,Vi (↑(List.length (List.map (V.int .u8) st)):Int),Vi (↑(List.length st):Int))]<|.rw 8107 [] [(107,Vi (IntKind.wrap IntKind.i64 ((↑(List.length st):Int)-(0:Int))),Vi ((↑(List.length st):Int)-(0:Int)))]<|.chk 111 (decide ((0:Int)≤(0:Int)∧(0:Int)≤(↑(List.length st):Int)-(0:Int)∧(↑(List.length st):Int)-(0:Int)≤(↑(List.length (List.map (V.int .u8) st)):Int)∧(↑(List.length st):Int)-(0:Int)=(↑(List.length st):Int)-(0:Int)))<|.rw 8111 [] [(111,V.imm true 1 (List.drop 0 (List.take (Int.toNat ((↑(List.length st):Int)-(0:Int))) (List.map (V.int .u8) st))),V.imm true 1 (List.drop 0 (List.map (V.int .u8) st)))]<|.chk 116 (decide ((0:Int)≤(↑(List.length st):Int)-(0:Int)∧(↑(List.length st):Int)-(0:Int)≤(↑(List.length (List.map (V.int .u8) st)):Int)∧(↑(List.length (List.map (V.int .u8) st)):Int)≤(↑(List.length (List.map (V.int .u8) st)):Int)))<|.rw 8116 [] [(116,V.imm false 1 (List.drop (Int.toNat ((↑(List.length st):Int)-(0:Int))) (List.take (Int.toNat (↑(List.length (List.map (V.int .u8) st)):Int)) (List.map (V.int .u8) st))),V.imm false 1 [])]<|.call 117 (111) ([Vu (Stp.k s),eKs []]) ([]) (Fr (Vu (kind0 (Stp.k s))) [])<|.chk 119 (decide ((List.length (List.drop 0 (List.map (V.int .u8) st))+1)*1≤140737488355328))<|.rw 8120 [] [(120,Vi (IntKind.wrap IntKind.i64 ((↑i:Int)+(1:Int))),Vi (↑(i+1):Int))]<|.to 24000 ([.cut 0])<|.ret (.normal,mkSt 124 [(1,eCols cols),(12,V.lin true 26 1 (List.map (V.int .u8) st++[Vu (kind0 (Stp.k s))])),(81,eSteps l),(82,Vi (↑(List.length l):Int)),(83,Vi (↑(i+1):Int))] [])) (by kernel_rfl) ?_
 exact ⟨⟨tv,cb (by simp<;>omega),tv⟩,(idx_map _ hs),⟨tv,cb (by simp<;>omega),tv⟩,(Sp.fact (ht)),⟨tv,by simp (disch:=omega) only [List.length_map],tv⟩,⟨tv,by simp (disch:=omega) only [wrap_i64],tv⟩,by simp,⟨tv,by simp (disch:=omega) only [take0],tv⟩,by simp,⟨tv,by simp (disch:=omega) only [List.length_map,Int.toNat_natCast,tail0],tv⟩,(Sp.fact (hk2)),by simp<;>omega,⟨tv,by simp (disch:=omega) only [cast_succ,wrap_i64],tv⟩,(ih)⟩
theorem kd_1 (pre:List Int) (x:Int) (hst:pre.length+1≤i) (hf:FineS s) (h6:TkOk s) (h7:7≤s.k) (h8:s.k≤10) (hok:kind1ok s.k x=true)
  (ih:LoopK C1 50 144 KD (SD l cols (pre++[kind1 s.k]) (i+1)) e s2):LoopK C1 50 144 KD (SD l cols (pre++[x]) i) e s2:=by
 have hi:=(List.getElem?_eq_some_iff.1 hs).1
 have e1:tN s=1:=by unfold tN;rw [if_neg (by omega)];unfold tkN;rw [if_neg (by simpa using h6),if_neg (by omega),if_pos (by omega)]
 have e2:tOk s=true:=by unfold tOk;rw [if_neg (by omega)];unfold tkOk;simpa using h6
 have ht:=btakes_sp s hf
 rw [e1,e2] at ht
 have hk2:=bkind1_ok s.k x h7 h8 hok
 unfold SD at ih
 rw [List.map_append] at ih
 simp only [List.map_cons,List.map_nil] at ih
 refine loop_tree draws (rd:=true) (kn:=KD) (ke:=(keeps [])) (
  .rw 8084 [] [(84,Vb (decide ((↑i:Int)<(↑(List.length l):Int))),Vb true)]<|.opt 85 (idx (List.map eS l) (↑i:Int)) (eS s)<|.rw 8089 [] [(89,Vb (Stp.k s==(6:Int)),Vb false)]<|.call 101 (110) ([eS s]) ([]) (Fr (V.tup [Vi (1:Int),Vb true]) [])<|.rw 8105 [] [(105,Vi (↑(List.length (List.map (V.int .u8) (pre++[x]))):Int),Vi (↑(List.length pre+1):Int))]<|.rw 8107 [] [(107,Vi (IntKind.wrap IntKind.i64 ((↑(List.length pre+1):Int)-(1:Int))),Vi ((↑(List.length pre+1):Int)-(1:Int)))]<|.chk 111 (decide ((0:Int)≤(0:Int)∧(0:Int)≤(↑(List.length pre+1):Int)-(1:Int)∧(↑(List.length pre+1):Int)-(1:Int)≤(↑(List.length (List.map (V.int .u8) (pre++[x]))):Int)∧(↑(List.length pre+1):Int)-(1:Int)=(↑(List.length pre+1):Int)-(1:Int)))<|.rw 8111 [] [(111,V.imm true 1 (List.drop 0 (List.take (Int.toNat ((↑(List.length pre+1):Int)-(1:Int))) (List.map (V.int .u8) (pre++[x])))),V.imm true 1 (List.drop 0 (List.map (V.int .u8) pre)))]<|.chk 116 (decide ((0:Int)≤(↑(List.length pre+1):Int)-(1:Int)∧(↑(List.length pre+1):Int)-(1:Int)≤(↑(List.length (List.map (V.int .u8) (pre++[x]))):Int)∧(↑(List.length (List.map (V.int .u8) (pre++[x]))):Int)≤(↑(List.length (List.map (V.int .u8) (pre++[x]))):Int)))<|.rw 8116 [] [(116,V.imm false 1 (List.drop (Int.toNat ((↑(List.length pre+1):Int)-(1:Int))) (List.take (Int.toNat (↑(List.length (List.map (V.int .u8) (pre++[x]))):Int)) (List.map (V.int .u8) (pre++[x])))),V.imm false 1 [Vu x])]<|.call 117 (111) ([Vu (Stp.k s),eKs [x]]) ([]) (Fr (Vu (kind1 (Stp.k s))) [])<|.chk 119 (decide ((List.length (List.drop 0 (List.map (V.int .u8) pre))+1)*1≤140737488355328))<|.rw 8120 [] [(120,Vi (IntKind.wrap IntKind.i64 ((↑i:Int)+(1:Int))),Vi (↑(i+1):Int))]<|.to 24000 ([.cut 0])<|.ret (.normal,mkSt 124 [(1,eCols cols),(12,V.lin true 26 1 (List.map (V.int .u8) pre++[Vu (kind1 (Stp.k s))])),(81,eSteps l),(82,Vi (↑(List.length l):Int)),(83,Vi (↑(i+1):Int))] [])) (by kernel_rfl) ?_
 exact ⟨⟨tv,cb (by simp<;>omega),tv⟩,(idx_map _ hs),⟨tv,cb (by simp<;>omega),tv⟩,(Sp.fact (ht)),⟨tv,by simp (disch:=omega) only [List.length_map,List.length_append,List.length_cons,List.length_nil,Nat.zero_add],tv⟩,⟨tv,by simp (disch:=omega) only [wrap_i64],tv⟩,by simp<;>omega,⟨tv,by simp (disch:=omega) only [take1],tv⟩,by simp<;>omega,⟨tv,by simp (disch:=omega) only [List.length_map,List.length_append,List.length_cons,List.length_nil,Nat.zero_add,Int.toNat_natCast,tail1],tv⟩,(Sp.fact (hk2)),by simp<;>omega,⟨tv,by simp (disch:=omega) only [cast_succ,wrap_i64],tv⟩,(ih)⟩
theorem kd_2 (pre:List Int) (x y:Int) (hx:0≤x) (hy:0≤y) (hst:pre.length+2≤i) (hf:FineS s) (h6:TkOk s) (h7:11≤s.k) (h8:s.k≤21) (hok:kind2ok s.k x y=true)
  (ih:LoopK C1 50 144 KD (SD l cols (pre++[kind2 s.k]) (i+1)) e s2):LoopK C1 50 144 KD (SD l cols (pre++[x,y]) i) e s2:=by
 have hi:=(List.getElem?_eq_some_iff.1 hs).1
 have e1:tN s=2:=by unfold tN;rw [if_neg (by omega)];unfold tkN;rw [if_neg (by simpa using h6),if_neg (by omega),if_neg (by omega)]
 have e2:tOk s=true:=by unfold tOk;rw [if_neg (by omega)];unfold tkOk;simpa using h6
 have ht:=btakes_sp s hf
 rw [e1,e2] at ht
 have hk2:=bkind2_ok s.k x y h7 h8 hx hy hok
 unfold SD at ih
 rw [List.map_append] at ih
 simp only [List.map_cons,List.map_nil] at ih
 refine loop_tree draws (rd:=true) (kn:=KD) (ke:=(keeps [])) (
  .rw 8084 [] [(84,Vb (decide ((↑i:Int)<(↑(List.length l):Int))),Vb true)]<|.opt 85 (idx (List.map eS l) (↑i:Int)) (eS s)<|.rw 8089 [] [(89,Vb (Stp.k s==(6:Int)),Vb false)]<|.call 101 (110) ([eS s]) ([]) (Fr (V.tup [Vi (2:Int),Vb true]) [])<|.rw 8105 [] [(105,Vi (↑(List.length (List.map (V.int .u8) (pre++[x,y]))):Int),Vi (↑(List.length pre+(1+1)):Int))]<|.rw 8107 [] [(107,Vi (IntKind.wrap IntKind.i64 ((↑(List.length pre+2):Int)-(2:Int))),Vi ((↑(List.length pre+2):Int)-(2:Int)))]<|.chk 111 (decide ((0:Int)≤(0:Int)∧(0:Int)≤(↑(List.length pre+2):Int)-(2:Int)∧(↑(List.length pre+2):Int)-(2:Int)≤(↑(List.length (List.map (V.int .u8) (pre++[x,y]))):Int)∧(↑(List.length pre+2):Int)-(2:Int)=(↑(List.length pre+2):Int)-(2:Int)))<|.rw 8111 [] [(111,V.imm true 1 (List.drop 0 (List.take (Int.toNat ((↑(List.length pre+2):Int)-(2:Int))) (List.map (V.int .u8) (pre++[x,y])))),V.imm true 1 (List.drop 0 (List.map (V.int .u8) pre)))]<|.chk 116 (decide ((0:Int)≤(↑(List.length pre+2):Int)-(2:Int)∧(↑(List.length pre+2):Int)-(2:Int)≤(↑(List.length (List.map (V.int .u8) (pre++[x,y]))):Int)∧(↑(List.length (List.map (V.int .u8) (pre++[x,y]))):Int)≤(↑(List.length (List.map (V.int .u8) (pre++[x,y]))):Int)))<|.rw 8116 [] [(116,V.imm false 1 (List.drop (Int.toNat ((↑(List.length pre+2):Int)-(2:Int))) (List.take (Int.toNat (↑(List.length (List.map (V.int .u8) (pre++[x,y]))):Int)) (List.map (V.int .u8) (pre++[x,y])))),V.imm false 1 [Vu x,Vu y])]<|.call 117 (111) ([Vu (Stp.k s),eKs [x,y]]) ([]) (Fr (Vu (kind2 (Stp.k s))) [])<|.chk 119 (decide ((List.length (List.drop 0 (List.map (V.int .u8) pre))+1)*1≤140737488355328))<|.rw 8120 [] [(120,Vi (IntKind.wrap IntKind.i64 ((↑i:Int)+(1:Int))),Vi (↑(i+1):Int))]<|.to 24000 ([.cut 0])<|.ret (.normal,mkSt 124 [(1,eCols cols),(12,V.lin true 26 1 (List.map (V.int .u8) pre++[Vu (kind2 (Stp.k s))])),(81,eSteps l),(82,Vi (↑(List.length l):Int)),(83,Vi (↑(i+1):Int))] [])) (by kernel_rfl) ?_
 exact ⟨⟨tv,cb (by simp<;>omega),tv⟩,(idx_map _ hs),⟨tv,cb (by simp<;>omega),tv⟩,(Sp.fact (ht)),⟨tv,by simp (disch:=omega) only [List.length_map,List.length_append,List.length_cons,List.length_nil,Nat.zero_add],tv⟩,⟨tv,by simp (disch:=omega) only [wrap_i64],tv⟩,by simp<;>omega,⟨tv,by simp (disch:=omega) only [take2],tv⟩,by simp<;>omega,⟨tv,by simp (disch:=omega) only [List.length_map,List.length_append,List.length_cons,List.length_nil,Nat.zero_add,Int.toNat_natCast,tail2],tv⟩,(Sp.fact (hk2)),by simp<;>omega,⟨tv,by simp (disch:=omega) only [cast_succ,wrap_i64],tv⟩,(ih)⟩
end
section
variable (l:List Stp) (cols:List Cl) (i:Nat) (s:Stp) (hb:l.length≤64) (hs:l[i]?=some s)
include hb hs
theorem kd_1x (pre:List Int) (x:Int) (hst:pre.length+1≤i) (hf:FineS s) (h6:TkOk s) (h7:7≤s.k) (h8:s.k≤10) (hok:kind1ok s.k x=false):LoopK C1 50 144 KD (SD l cols (pre++[x]) i) (.pan (errI 5)) (mkSt 124 [] (HS s)):=by
 have hi:=(List.getElem?_eq_some_iff.1 hs).1
 have e1:tN s=1:=by unfold tN;rw [if_neg (by omega)];unfold tkN;rw [if_neg (by simpa using h6),if_neg (by omega),if_pos (by omega)]
 have e2:tOk s=true:=by unfold tOk;rw [if_neg (by omega)];unfold tkOk;simpa using h6
 have ht:=btakes_sp s hf
 rw [e1,e2] at ht
 have hk2:=bkind1_no s.k x h7 h8 hok
 refine loop_tree draws (rd:=true) (kn:=KD) (ke:=(keeps [])) (
  .rw 8084 [] [(84,Vb (decide ((↑i:Int)<(↑(List.length l):Int))),Vb true)]<|.opt 85 (idx (List.map eS l) (↑i:Int)) (eS s)<|.rw 8089 [] [(89,Vb (Stp.k s==(6:Int)),Vb false)]<|.call 101 (110) ([eS s]) ([]) (Fr (V.tup [Vi (1:Int),Vb true]) [])<|.rw 8105 [] [(105,Vi (↑(List.length (List.map (V.int .u8) (pre++[x]))):Int),Vi (↑(List.length pre+1):Int))]<|.rw 8107 [] [(107,Vi (IntKind.wrap IntKind.i64 ((↑(List.length pre+1):Int)-(1:Int))),Vi ((↑(List.length pre+1):Int)-(1:Int)))]<|.chk 111 (decide ((0:Int)≤(0:Int)∧(0:Int)≤(↑(List.length pre+1):Int)-(1:Int)∧(↑(List.length pre+1):Int)-(1:Int)≤(↑(List.length (List.map (V.int .u8) (pre++[x]))):Int)∧(↑(List.length pre+1):Int)-(1:Int)=(↑(List.length pre+1):Int)-(1:Int)))<|.rw 8111 [] [(111,V.imm true 1 (List.drop 0 (List.take (Int.toNat ((↑(List.length pre+1):Int)-(1:Int))) (List.map (V.int .u8) (pre++[x])))),V.imm true 1 (List.drop 0 (List.map (V.int .u8) pre)))]<|.chk 116 (decide ((0:Int)≤(↑(List.length pre+1):Int)-(1:Int)∧(↑(List.length pre+1):Int)-(1:Int)≤(↑(List.length (List.map (V.int .u8) (pre++[x]))):Int)∧(↑(List.length (List.map (V.int .u8) (pre++[x]))):Int)≤(↑(List.length (List.map (V.int .u8) (pre++[x]))):Int)))<|.rw 8116 [] [(116,V.imm false 1 (List.drop (Int.toNat ((↑(List.length pre+1):Int)-(1:Int))) (List.take (Int.toNat (↑(List.length (List.map (V.int .u8) (pre++[x]))):Int)) (List.map (V.int .u8) (pre++[x])))),V.imm false 1 [Vu x])]<|.call 117 (111) ([Vu (Stp.k s),eKs [x]]) ([]) (FOut.pan (errI (5:Int)) [])<|.ret ((Ex.pan (V.iface 29 (Vi (5:Int))),mkSt 124 [] [Blk.cells [Vu (Stp.k s),V.str (Stp.t s),Vi (Stp.n s)] 56]))) (by kernel_rfl) ?_
 exact ⟨⟨tv,cb (by simp<;>omega),tv⟩,(idx_map _ hs),⟨tv,cb (by simp<;>omega),tv⟩,(Sp.fact (ht)),⟨tv,by simp (disch:=omega) only [List.length_map,List.length_append,List.length_cons,List.length_nil,Nat.zero_add],tv⟩,⟨tv,by simp (disch:=omega) only [wrap_i64],tv⟩,by simp<;>omega,⟨tv,by simp (disch:=omega) only [take1],tv⟩,by simp<;>omega,⟨tv,by simp (disch:=omega) only [List.length_map,List.length_append,List.length_cons,List.length_nil,Nat.zero_add,Int.toNat_natCast,tail1],tv⟩,(hk2),rfl,rfl⟩
theorem kd_2x (pre:List Int) (x y:Int) (hx:0≤x) (hy:0≤y) (hst:pre.length+2≤i) (hf:FineS s) (h6:TkOk s) (h7:11≤s.k) (h8:s.k≤21) (hok:kind2ok s.k x y=false):LoopK C1 50 144 KD (SD l cols (pre++[x,y]) i) (.pan (errI 5)) (mkSt 124 [] (HS s)):=by
 have hi:=(List.getElem?_eq_some_iff.1 hs).1
 have e1:tN s=2:=by unfold tN;rw [if_neg (by omega)];unfold tkN;rw [if_neg (by simpa using h6),if_neg (by omega),if_neg (by omega)]
 have e2:tOk s=true:=by unfold tOk;rw [if_neg (by omega)];unfold tkOk;simpa using h6
 have ht:=btakes_sp s hf
 rw [e1,e2] at ht
 have hk2:=bkind2_no s.k x y h7 h8 hx hy hok
 refine loop_tree draws (rd:=true) (kn:=KD) (ke:=(keeps [])) (
  .rw 8084 [] [(84,Vb (decide ((↑i:Int)<(↑(List.length l):Int))),Vb true)]<|.opt 85 (idx (List.map eS l) (↑i:Int)) (eS s)<|.rw 8089 [] [(89,Vb (Stp.k s==(6:Int)),Vb false)]<|.call 101 (110) ([eS s]) ([]) (Fr (V.tup [Vi (2:Int),Vb true]) [])<|.rw 8105 [] [(105,Vi (↑(List.length (List.map (V.int .u8) (pre++[x,y]))):Int),Vi (↑(List.length pre+(1+1)):Int))]<|.rw 8107 [] [(107,Vi (IntKind.wrap IntKind.i64 ((↑(List.length pre+2):Int)-(2:Int))),Vi ((↑(List.length pre+2):Int)-(2:Int)))]<|.chk 111 (decide ((0:Int)≤(0:Int)∧(0:Int)≤(↑(List.length pre+2):Int)-(2:Int)∧(↑(List.length pre+2):Int)-(2:Int)≤(↑(List.length (List.map (V.int .u8) (pre++[x,y]))):Int)∧(↑(List.length pre+2):Int)-(2:Int)=(↑(List.length pre+2):Int)-(2:Int)))<|.rw 8111 [] [(111,V.imm true 1 (List.drop 0 (List.take (Int.toNat ((↑(List.length pre+2):Int)-(2:Int))) (List.map (V.int .u8) (pre++[x,y])))),V.imm true 1 (List.drop 0 (List.map (V.int .u8) pre)))]<|.chk 116 (decide ((0:Int)≤(↑(List.length pre+2):Int)-(2:Int)∧(↑(List.length pre+2):Int)-(2:Int)≤(↑(List.length (List.map (V.int .u8) (pre++[x,y]))):Int)∧(↑(List.length (List.map (V.int .u8) (pre++[x,y]))):Int)≤(↑(List.length (List.map (V.int .u8) (pre++[x,y]))):Int)))<|.rw 8116 [] [(116,V.imm false 1 (List.drop (Int.toNat ((↑(List.length pre+2):Int)-(2:Int))) (List.take (Int.toNat (↑(List.length (List.map (V.int .u8) (pre++[x,y]))):Int)) (List.map (V.int .u8) (pre++[x,y])))),V.imm false 1 [Vu x,Vu y])]<|.call 117 (111) ([Vu (Stp.k s),eKs [x,y]]) ([]) (FOut.pan (errI (5:Int)) [])<|.ret ((Ex.pan (V.iface 29 (Vi (5:Int))),mkSt 124 [] [Blk.cells [Vu (Stp.k s),V.str (Stp.t s),Vi (Stp.n s)] 56]))) (by kernel_rfl) ?_
 exact ⟨⟨tv,cb (by simp<;>omega),tv⟩,(idx_map _ hs),⟨tv,cb (by simp<;>omega),tv⟩,(Sp.fact (ht)),⟨tv,by simp (disch:=omega) only [List.length_map,List.length_append,List.length_cons,List.length_nil,Nat.zero_add],tv⟩,⟨tv,by simp (disch:=omega) only [wrap_i64],tv⟩,by simp<;>omega,⟨tv,by simp (disch:=omega) only [take2],tv⟩,by simp<;>omega,⟨tv,by simp (disch:=omega) only [List.length_map,List.length_append,List.length_cons,List.length_nil,Nat.zero_add,Int.toNat_natCast,tail2],tv⟩,(hk2),rfl,rfl⟩
end
end Go.Fw
set_option maxHeartbeats 20000000
namespace Go.Fw
open Go.Proofs
theorem kind0_nn (k:Int):0≤kind0 k:=by unfold kind0;grind
theorem kind1_nn (k:Int):0≤kind1 k:=by unfold kind1;grind
theorem kind2_nn (k:Int):0≤kind2 k:=by unfold kind2;grind
theorem kdl (l:List Stp) (cols:List Cl) (hb:l.length≤64) (hf:∀ s∈l,FineS s) (hx:∀ s∈l,ColOk cols.length s) (hcn:∀ c∈cols,0≤c.k) (m:Int):∀ k i (st:List Int),i+k=l.length→st.length≤i→(∀ x∈st,0≤x)→rightGo (l.drop i) (st.length:Int)=some m →
  (match kindGo cols (l.drop i) st with
   | some fin=>(fin.length:Int)=m∧LoopK C1 50 144 KD (SD l cols st i) (.exit 4) (FD fin)
   | none=>∃ s,LoopK C1 50 144 KD (SD l cols st i) (.pan (errI 5)) (mkSt 124 [] (HS s)))
 | 0,i,st,hi,hst,_,hr=>by
  rw [List.drop_eq_nil_of_le (by omega)] at hr ⊢
  cases hr
  exact ⟨rfl,kd_end l cols st i (by omega) hb⟩
 | k+1,i,st,hi,hst,hnn,hr=>by
  obtain ⟨s,hs⟩:∃ s,l[i]?=some s:=⟨l[i]'(by omega),List.getElem?_eq_getElem (by omega)⟩
  have fs:=hf s (List.mem_of_getElem? hs)
  have cs:=hx s (List.mem_of_getElem? hs)
  rw [rightGo_at l i s hs] at hr
  have hc:¬(tOk s=false∨(st.length:Int)<tN s):=fun hc=>by rw [if_pos hc] at hr;cases hr
  rw [if_neg hc] at hr
  rw [kindGo_at cols l i s hs st]
  have snoc:∀ (p:List Int) (x:Int),(∀ v∈p,0≤v)→0≤x→∀ v∈p++[x],0≤v:=fun p x h1 h2 v hv=>by
   rcases List.mem_append.1 hv with h | h
   ·exact h1 v h
   ·rw [List.mem_singleton.1 h];exact h2
  by_cases h6:s.k=6
  ·rw [if_pos h6]
   obtain ⟨_,c1,c2⟩:=cs h6
   obtain ⟨q,hq⟩:∃ q:Nat,s.n=(q:Int):=⟨s.n.toNat,by omega⟩
   obtain ⟨c,hcc⟩:∃ c,cols[q]?=some c:=⟨cols[q]'(by omega),List.getElem?_eq_getElem (by omega)⟩
   have e1:tN s=0:=by unfold tN;rw [if_pos h6]
   have e2:colK cols s.n=c.k:=by unfold colK;rw [hq,Int.toNat_natCast,hcc];rfl
   rw [e2]
   have ih:=kdl l cols hb hf hx hcn m k (i+1) (st++[c.k]) (by omega) (by simp;omega) (snoc st c.k hnn (hcn c (List.mem_of_getElem? hcc))) (by rw [e1] at hr;rw [←hr];congr 1;simp)
   cases hg:kindGo cols (l.drop (i+1)) (st++[c.k]) with
   | none=>rw [hg] at ih;obtain ⟨z,ih⟩:=ih;exact ⟨z,kd_col l cols i s _ _ hb hs st hst h6 q c hq hcc ih⟩
   | some fin=>rw [hg] at ih;exact ⟨ih.1,kd_col l cols i s _ _ hb hs st hst h6 q c hq hcc ih.2⟩
  ·rw [if_neg h6]
   have e1:tN s=tkN s:=by unfold tN;rw [if_neg h6]
   have e2:tOk s=tkOk s:=by unfold tOk;rw [if_neg h6]
   rw [e1,e2] at hc
   rw [e1] at hr
   have ho:TkOk s:=by
    cases h:tkOk s with
    | false=>exact absurd (.inl h) hc
    | true=>unfold tkOk at h;simpa using h
   have hn:tkN s≤(st.length:Int):=by omega
   have hk1:1≤s.k:=ho.1
   have hk2:s.k<22:=ho.2.1
   by_cases h7:s.k<7
   ·have t0:tkN s=0:=by unfold tkN;rw [if_neg (by simpa using ho),if_pos h7]
    rw [t0] at hr ⊢
    obtain ⟨d1,d2⟩:=drop_pre st [] 0 rfl
    rw [List.append_nil] at d1 d2
    rw [show (0:Int).toNat=0 from rfl,d1,d2]
    show (match kindGo cols (l.drop (i+1)) (st++[kind0 s.k]) with | some fin=>_ | none=>_)
    have ih:=kdl l cols hb hf hx hcn m k (i+1) (st++[kind0 s.k]) (by omega) (by simp;omega) (snoc st _ hnn (kind0_nn _)) (by rw [←hr];congr 1;simp)
    cases hg:kindGo cols (l.drop (i+1)) (st++[kind0 s.k]) with
    | none=>rw [hg] at ih;obtain ⟨z,ih⟩:=ih;exact ⟨z,kd_0 l cols i s _ _ hb hs st hst fs ho (by omega) ih⟩
    | some fin=>rw [hg] at ih;exact ⟨ih.1,kd_0 l cols i s _ _ hb hs st hst fs ho (by omega) ih.2⟩
   by_cases h8:s.k≤10
   ·have t1:tkN s=1:=by unfold tkN;rw [if_neg (by simpa using ho),if_neg h7,if_pos h8]
    rw [t1] at hr hn ⊢
    obtain ⟨pre,x,rfl⟩:=split1 st (by omega)
    obtain ⟨d1,d2⟩:=drop_pre pre [x] 1 rfl
    rw [show (1:Int).toNat=1 from rfl,d1,d2]
    have hst':pre.length+1≤i:=by simpa using hst
    cases hok:kind1ok s.k x with
    | false =>
     have:kindL s.k [x]=none:=by simp [kindL,hok]
     rw [this]
     exact ⟨s,kd_1x l cols i s hb hs pre x hst' fs ho (by omega) h8 hok⟩
    | true =>
     have:kindL s.k [x]=some (kind1 s.k):=by simp [kindL,hok]
     rw [this]
     show (match kindGo cols (l.drop (i+1)) (pre++[kind1 s.k]) with | some fin=>_ | none=>_)
     have ih:=kdl l cols hb hf hx hcn m k (i+1) (pre++[kind1 s.k]) (by omega) (by simp;omega) (snoc pre _ (fun v hv=>hnn v (by simp [hv])) (kind1_nn _)) (by rw [←hr];congr 1;simp)
     cases hg:kindGo cols (l.drop (i+1)) (pre++[kind1 s.k]) with
     | none=>rw [hg] at ih;obtain ⟨z,ih⟩:=ih;exact ⟨z,kd_1 l cols i s _ _ hb hs pre x hst' fs ho (by omega) h8 hok ih⟩
     | some fin=>rw [hg] at ih;exact ⟨ih.1,kd_1 l cols i s _ _ hb hs pre x hst' fs ho (by omega) h8 hok ih.2⟩
   ·have t2:tkN s=2:=by unfold tkN;rw [if_neg (by simpa using ho),if_neg h7,if_neg h8]
    rw [t2] at hr hn ⊢
    obtain ⟨pre,x,y,rfl⟩:=split2 st (by omega)
    obtain ⟨d1,d2⟩:=drop_pre pre [x,y] 2 rfl
    rw [show (2:Int).toNat=2 from rfl,d1,d2]
    have hst':pre.length+2≤i:=by simpa using hst
    have gx:=hnn x (by simp)
    have gy:=hnn y (by simp)
    cases hok:kind2ok s.k x y with
    | false =>
     have:kindL s.k [x,y]=none:=by simp [kindL,hok]
     rw [this]
     exact ⟨s,kd_2x l cols i s hb hs pre x y gx gy hst' fs ho (by omega) (by omega) hok⟩
    | true =>
     have:kindL s.k [x,y]=some (kind2 s.k):=by simp [kindL,hok]
     rw [this]
     show (match kindGo cols (l.drop (i+1)) (pre++[kind2 s.k]) with | some fin=>_ | none=>_)
     have ih:=kdl l cols hb hf hx hcn m k (i+1) (pre++[kind2 s.k]) (by omega) (by simp;omega) (snoc pre _ (fun v hv=>hnn v (by simp [hv])) (kind2_nn _)) (by rw [←hr];congr 1;simp;omega)
     cases hg:kindGo cols (l.drop (i+1)) (pre++[kind2 s.k]) with
     | none=>rw [hg] at ih;obtain ⟨z,ih⟩:=ih;exact ⟨z,kd_2 l cols i s _ _ hb hs pre x y gx gy hst' fs ho (by omega) (by omega) hok ih⟩
     | some fin=>rw [hg] at ih;exact ⟨ih.1,kd_2 l cols i s _ _ hb hs pre x y gx gy hst' fs ho (by omega) (by omega) hok ih.2⟩
theorem kof_13 (l:List Stp) (cols:List Cl) (hb:l.length≤2 ^ 47) (hf:∀ s∈l,FineS s) (hr:rightB l=false):FactO C1 50 [eSteps l,eCols cols] [] (.pan (errI 13) []):=by
 unfold rightB at hr
 cases hm:rightGo l 0 with
 | none =>
  obtain ⟨s,hl⟩:=hl_none l cols hb hf l.length 0 0 (by omega) (by omega) (by omega) hm
  refine fact_tree draws (pure:=true) (
   .rw 8019 [] [(19,Vi (↑(List.length (List.map eS l)):Int),Vi (↑(List.length l):Int))]<|.loop 24 false (KA) (SA l cols (0:Int) 0) (Ex.pan (errI (13:Int))) (mkSt 124 [] (HS s))<|.ret (FOut.pan (V.iface 29 (Vi (13:Int))) [])) (by kernel_rfl) ?_
  exact ⟨⟨tv,by simp (disch:=omega) only [List.length_map],tv⟩,(LoopR.weak (hl)),rfl⟩
 | some m =>
  rw [hm] at hr
  have hl:=hl_some l cols hb hf m l.length 0 0 (by omega) (by omega) (by omega) hm
  have hr:¬(m=1∧l.length≤64):=by simpa using hr
  by_cases e:m=1
  ·subst e
   have h64:64<l.length:=by omega
   clear hr
   refine fact_tree draws (pure:=true) (
    .rw 8019 [] [(19,Vi (↑(List.length (List.map eS l)):Int),Vi (↑(List.length l):Int))]<|.loop 24 false (KA) (SA l cols (0:Int) 0) (Ex.exit 0) (mkSt 124 [(0,eSteps l),(1,eCols cols),(5,Vi (1:Int))] [])<|.rw 8045 [] [(45,Vi (↑(List.length (List.map eS l)):Int),Vi (↑(List.length l):Int))]<|.rw 8046 [] [(46,Vb (decide ((↑(List.length l):Int)≤(64:Int))),Vb false)]<|.call 48 (81) ([Vb false,Vi (13:Int)]) ([]) (FOut.pan (errI (13:Int)) [])<|.ret (FOut.pan (V.iface 29 (Vi (13:Int))) [])) (by kernel_rfl) ?_
   exact ⟨⟨tv,by simp (disch:=omega) only [List.length_map],tv⟩,(LoopR.weak (hl)),⟨tv,by simp (disch:=omega) only [List.length_map],tv⟩,⟨tv,cb (by simp<;>omega),tv⟩,(must_no _),rfl⟩
  ·clear hr
   refine fact_tree draws (pure:=true) (
    .rw 8019 [] [(19,Vi (↑(List.length (List.map eS l)):Int),Vi (↑(List.length l):Int))]<|.loop 24 false (KA) (SA l cols (0:Int) 0) (Ex.exit 0) (mkSt 124 [(0,eSteps l),(1,eCols cols),(5,Vi m)] [])<|.rw 8042 [] [(42,Vb (m==(1:Int)),Vb false)]<|.call 48 (81) ([Vb false,Vi (13:Int)]) ([]) (FOut.pan (errI (13:Int)) [])<|.ret (FOut.pan (V.iface 29 (Vi (13:Int))) [])) (by kernel_rfl) ?_
   exact ⟨⟨tv,by simp (disch:=omega) only [List.length_map],tv⟩,(LoopR.weak (hl)),⟨tv,cb (by simp<;>omega),tv⟩,(must_no _),rfl⟩
theorem kof_3 (l:List Stp) (cols:List Cl) (hf:∀ s∈l,FineS s) (hr:rightB l=true) (hc:16<cols.length):FactO C1 50 [eSteps l,eCols cols] [] (.pan (errI 3) []):=by
 unfold rightB at hr
 cases hm:rightGo l 0 with
 | none=>rw [hm] at hr;cases hr
 | some m =>
  rw [hm] at hr
  have hr:m=1∧l.length≤64:=by simpa using hr
  obtain ⟨rfl,hb⟩:=hr
  have hl:=hl_some l cols (by omega) hf 1 l.length 0 0 (by omega) (by omega) (by omega) hm
  refine fact_tree draws (pure:=true) (
   .rw 8019 [] [(19,Vi (↑(List.length (List.map eS l)):Int),Vi (↑(List.length l):Int))]<|.loop 24 false (KA) (SA l cols (0:Int) 0) (Ex.exit 0) (mkSt 124 [(0,eSteps l),(1,eCols cols),(5,Vi (1:Int))] [])<|.rw 8045 [] [(45,Vi (↑(List.length (List.map eS l)):Int),Vi (↑(List.length l):Int))]<|.rw 8046 [] [(46,Vb (decide ((↑(List.length l):Int)≤(64:Int))),Vb true)]<|.call 48 (81) ([Vb true,Vi (13:Int)]) ([]) (Fr (V.tup []) [])<|.rw 8050 [] [(50,Vi (↑(List.length (List.map eC cols)):Int),Vi (↑(List.length cols):Int))]<|.rw 8051 [] [(51,Vb (decide ((↑(List.length cols):Int)≤(16:Int))),Vb false)]<|.call 52 (81) ([Vb false,Vi (3:Int)]) ([]) (FOut.pan (errI (3:Int)) [])<|.ret (FOut.pan (V.iface 29 (Vi (3:Int))) [])) (by kernel_rfl) ?_
  exact ⟨⟨tv,by simp (disch:=omega) only [List.length_map],tv⟩,(LoopR.weak (hl)),⟨tv,by simp (disch:=omega) only [List.length_map],tv⟩,⟨tv,cb (by simp<;>omega),tv⟩,(Sp.fact (must_ok _)),⟨tv,by simp (disch:=omega) only [List.length_map],tv⟩,⟨tv,cb (by simp<;>omega),tv⟩,(must_no _),rfl⟩
theorem kof_2 (l:List Stp) (cols:List Cl) (hf:∀ s∈l,FineS s) (hr:rightB l=true) (hc:cols.length≤16) (hx:∃ s∈l,¬ColOk cols.length s):FactO C1 50 [eSteps l,eCols cols] [] (.pan (errI 2) []):=by
 unfold rightB at hr
 cases hm:rightGo l 0 with
 | none=>rw [hm] at hr;cases hr
 | some m =>
  rw [hm] at hr
  have hr:m=1∧l.length≤64:=by simpa using hr
  obtain ⟨rfl,hb⟩:=hr
  have hl:=hl_some l cols (by omega) hf 1 l.length 0 0 (by omega) (by omega) (by omega) hm
  obtain ⟨s,hl2⟩:=cl_bad l cols (by omega) hc l.length 0 (by omega) (by
   obtain ⟨s,h1,h2⟩:=hx
   obtain ⟨j,hj,rfl⟩:=List.mem_iff_getElem.1 h1
   exact ⟨j,_,by omega,List.getElem?_eq_getElem hj,h2⟩)
  refine fact_tree draws (pure:=true) (
   .rw 8019 [] [(19,Vi (↑(List.length (List.map eS l)):Int),Vi (↑(List.length l):Int))]<|.loop 24 false (KA) (SA l cols (0:Int) 0) (Ex.exit 0) (mkSt 124 [(0,eSteps l),(1,eCols cols),(5,Vi (1:Int))] [])<|.rw 8045 [] [(45,Vi (↑(List.length (List.map eS l)):Int),Vi (↑(List.length l):Int))]<|.rw 8046 [] [(46,Vb (decide ((↑(List.length l):Int)≤(64:Int))),Vb true)]<|.call 48 (81) ([Vb true,Vi (13:Int)]) ([]) (Fr (V.tup []) [])<|.rw 8050 [] [(50,Vi (↑(List.length (List.map eC cols)):Int),Vi (↑(List.length cols):Int))]<|.rw 8051 [] [(51,Vb (decide ((↑(List.length cols):Int)≤(16:Int))),Vb true)]<|.call 52 (81) ([Vb true,Vi (3:Int)]) ([]) (Fr (V.tup []) [])<|.rw 8054 [] [(54,Vi (↑(List.length (List.map eS l)):Int),Vi (↑(List.length l):Int))]<|.loop 96 false (KB) (SB l cols 0) (Ex.pan (errI (2:Int))) (mkSt 124 [] (HS s))<|.ret (FOut.pan (V.iface 29 (Vi (2:Int))) [])) (by kernel_rfl) ?_
  exact ⟨⟨tv,by simp (disch:=omega) only [List.length_map],tv⟩,(LoopR.weak (hl)),⟨tv,by simp (disch:=omega) only [List.length_map],tv⟩,⟨tv,cb (by simp<;>omega),tv⟩,(Sp.fact (must_ok _)),⟨tv,by simp (disch:=omega) only [List.length_map],tv⟩,⟨tv,cb (by simp<;>omega),tv⟩,(Sp.fact (must_ok _)),⟨tv,by simp (disch:=omega) only [List.length_map],tv⟩,(LoopR.weak (hl2)),rfl⟩
theorem kof_5 (l:List Stp) (cols:List Cl) (hf:∀ s∈l,FineS s) (hcn:∀ c∈cols,0≤c.k) (hr:rightB l=true) (hc:cols.length≤16) (hx:∀ s∈l,ColOk cols.length s) (hg:kindGo cols l []=none):FactO C1 50 [eSteps l,eCols cols] [] (.pan (errI 5) []):=by
 unfold rightB at hr
 cases hm:rightGo l 0 with
 | none=>rw [hm] at hr;cases hr
 | some m =>
  rw [hm] at hr
  have hr:m=1∧l.length≤64:=by simpa using hr
  obtain ⟨rfl,hb⟩:=hr
  have hl:=hl_some l cols (by omega) hf 1 l.length 0 0 (by omega) (by omega) (by omega) hm
  have hl2:=cl_ok l cols (by omega) hc l.length 0 (by omega) (fun j s _ h=>hx s (List.mem_of_getElem? h))
  have h:=kdl l cols hb hf hx hcn 1 l.length 0 [] (by omega) (by simp) (by simp) hm
  rw [List.drop_zero,hg] at h
  obtain ⟨s,hl3⟩:=h
  refine fact_tree draws (pure:=true) (
   .rw 8019 [] [(19,Vi (↑(List.length (List.map eS l)):Int),Vi (↑(List.length l):Int))]<|.loop 24 false (KA) (SA l cols (0:Int) 0) (Ex.exit 0) (mkSt 124 [(0,eSteps l),(1,eCols cols),(5,Vi (1:Int))] [])<|.rw 8045 [] [(45,Vi (↑(List.length (List.map eS l)):Int),Vi (↑(List.length l):Int))]<|.rw 8046 [] [(46,Vb (decide ((↑(List.length l):Int)≤(64:Int))),Vb true)]<|.call 48 (81) ([Vb true,Vi (13:Int)]) ([]) (Fr (V.tup []) [])<|.rw 8050 [] [(50,Vi (↑(List.length (List.map eC cols)):Int),Vi (↑(List.length cols):Int))]<|.rw 8051 [] [(51,Vb (decide ((↑(List.length cols):Int)≤(16:Int))),Vb true)]<|.call 52 (81) ([Vb true,Vi (3:Int)]) ([]) (Fr (V.tup []) [])<|.rw 8054 [] [(54,Vi (↑(List.length (List.map eS l)):Int),Vi (↑(List.length l):Int))]<|.loop 96 false (KB) (SB l cols 0) (Ex.exit 2) (mkSt 124 [(0,eSteps l),(1,eCols cols)] [])<|.rw 8082 [] [(82,Vi (↑(List.length (List.map eS l)):Int),Vi (↑(List.length l):Int))]<|.loop 144 false (KD) (SD l cols [] 0) (Ex.pan (errI (5:Int))) (mkSt 124 [] (HS s))<|.ret (FOut.pan (V.iface 29 (Vi (5:Int))) [])) (by kernel_rfl) ?_
  exact ⟨⟨tv,by simp (disch:=omega) only [List.length_map],tv⟩,(LoopR.weak (hl)),⟨tv,by simp (disch:=omega) only [List.length_map],tv⟩,⟨tv,cb (by simp<;>omega),tv⟩,(Sp.fact (must_ok _)),⟨tv,by simp (disch:=omega) only [List.length_map],tv⟩,⟨tv,cb (by simp<;>omega),tv⟩,(Sp.fact (must_ok _)),⟨tv,by simp (disch:=omega) only [List.length_map],tv⟩,(LoopR.weak (hl2)),⟨tv,by simp (disch:=omega) only [List.length_map],tv⟩,(LoopR.weak (hl3)),rfl⟩
theorem kof_ok (l:List Stp) (cols:List Cl) (hf:∀ s∈l,FineS s) (hcn:∀ c∈cols,0≤c.k) (hr:rightB l=true) (hc:cols.length≤16) (hx:∀ s∈l,ColOk cols.length s) (fin:List Int) (hg:kindGo cols l []=some fin):Sp C1 50 [eSteps l,eCols cols] (.int .u8 (fin.headD 0)):=by
 unfold rightB at hr
 cases hm:rightGo l 0 with
 | none=>rw [hm] at hr;cases hr
 | some m =>
  rw [hm] at hr
  have hr:m=1∧l.length≤64:=by simpa using hr
  obtain ⟨rfl,hb⟩:=hr
  have hl:=hl_some l cols (by omega) hf 1 l.length 0 0 (by omega) (by omega) (by omega) hm
  have hl2:=cl_ok l cols (by omega) hc l.length 0 (by omega) (fun j s _ h=>hx s (List.mem_of_getElem? h))
  have h:=kdl l cols hb hf hx hcn 1 l.length 0 [] (by omega) (by simp) (by simp) hm
  rw [List.drop_zero,hg] at h
  obtain ⟨h1,h2⟩:=h
  obtain ⟨x,rfl⟩:∃ x,fin=[x]:=List.length_eq_one_iff.1 (by omega)
  clear h1
  refine sp_tree draws (dm:=[]) (fs:=[]) (
   .rw 8019 [] [(19,Vi (↑(List.length (List.map eS l)):Int),Vi (↑(List.length l):Int))]<|.loop 24 false (KA) (SA l cols (0:Int) 0) (Ex.exit 0) (mkSt 124 [(0,eSteps l),(1,eCols cols),(5,Vi (1:Int))] [])<|.rw 8045 [] [(45,Vi (↑(List.length (List.map eS l)):Int),Vi (↑(List.length l):Int))]<|.rw 8046 [] [(46,Vb (decide ((↑(List.length l):Int)≤(64:Int))),Vb true)]<|.call 48 (81) ([Vb true,Vi (13:Int)]) ([]) (Fr (V.tup []) [])<|.rw 8050 [] [(50,Vi (↑(List.length (List.map eC cols)):Int),Vi (↑(List.length cols):Int))]<|.rw 8051 [] [(51,Vb (decide ((↑(List.length cols):Int)≤(16:Int))),Vb true)]<|.call 52 (81) ([Vb true,Vi (3:Int)]) ([]) (Fr (V.tup []) [])<|.rw 8054 [] [(54,Vi (↑(List.length (List.map eS l)):Int),Vi (↑(List.length l):Int))]<|.loop 96 false (KB) (SB l cols 0) (Ex.exit 2) (mkSt 124 [(0,eSteps l),(1,eCols cols)] [])<|.rw 8082 [] [(82,Vi (↑(List.length (List.map eS l)):Int),Vi (↑(List.length l):Int))]<|.loop 144 false (KD) (SD l cols [] 0) (Ex.exit 4) (FD [x])<|.ret (Fr (Vu x) [])) (by kernel_rfl) ?_
  exact ⟨⟨tv,by simp (disch:=omega) only [List.length_map],tv⟩,(LoopR.weak (hl)),⟨tv,by simp (disch:=omega) only [List.length_map],tv⟩,⟨tv,cb (by simp<;>omega),tv⟩,(Sp.fact (must_ok _)),⟨tv,by simp (disch:=omega) only [List.length_map],tv⟩,⟨tv,cb (by simp<;>omega),tv⟩,(Sp.fact (must_ok _)),⟨tv,by simp (disch:=omega) only [List.length_map],tv⟩,(LoopR.weak (hl2)),⟨tv,by simp (disch:=omega) only [List.length_map],tv⟩,(LoopR.weak (h2)),rfl⟩
end Go.Fw
set_option maxHeartbeats 20000000
namespace Go.Fw
open Go.Proofs
abbrev H18 (l:List Stp) (cols:List Cl) (k:Int):List Blk:=[.cells [eSteps l] 22,.cells [eCols cols] 25,.cells [.int .u8 k] 26]
abbrev fn49:V:=.fn (.func 49) [] [.ptr 0 0,.ptr 1 0,.ptr 2 0]
theorem c49_pan (l:List Stp) (cols:List Cl) (w:Int) (b:Blk) (h:FactO C1 50 [eSteps l,eCols cols] [] (.pan (errI w) [])):FactO C1 49 [.ptr 0 0,.ptr 1 0,.ptr 2 0] (H18 l cols 0++[b]) (.pan (errI w) (H18 l cols 0++[b])):=by
 refine fact_tree draws (pure:=false) (
  .call 5 (50) ([eSteps l,eCols cols]) ([]) (FOut.pan (errI w) [])<|.ret (FOut.pan (V.iface 29 (Vi w)) [Blk.cells [V.imm false 3 (List.map eS l)] 22,Blk.cells [V.imm false 2 (List.map eC cols)] 25,Blk.cells [Vu (0:Int)] 26,b])) (by kernel_rfl) ?_
 exact ⟨(h),rfl⟩
theorem c49_ok (l:List Stp) (cols:List Cl) (x:Int) (b:Blk) (h:Sp C1 50 [eSteps l,eCols cols] (.int .u8 x)):FactO C1 49 [.ptr 0 0,.ptr 1 0,.ptr 2 0] (H18 l cols 0++[b]) (.ret (.tup []) (H18 l cols x++[b])):=by
 refine fact_tree draws (pure:=false) (
  .call 5 (50) ([eSteps l,eCols cols]) ([]) (Fr (Vu x) [])<|.ret (Fr (V.tup []) [Blk.cells [V.imm false 3 (List.map eS l)] 22,Blk.cells [V.imm false 2 (List.map eC cols)] 25,Blk.cells [Vu x] 26,b])) (by kernel_rfl) ?_
 exact ⟨(Sp.fact (h)),rfl⟩
theorem caught_pan (l:List Stp) (cols:List Cl) (w:Int) (h:FactO C1 50 [eSteps l,eCols cols] [] (.pan (errI w) [])):FactO C1 48 [fn49] (H18 l cols 0) (.ret (.int .i64 w) (H18 l cols 0++[.cells [.int .i64 w] 29])):=by
 have h1:=c49_pan l cols w (.cells [.int .i64 0] 29) h
 refine fact_tree draws (pure:=false) (
  .call 5 (49) ([V.ptr 0 0,V.ptr 1 0,V.ptr 2 0]) (H18 l cols (0:Int)++[Blk.cells [Vi (0:Int)] 29]) (FOut.pan (errI w) (H18 l cols (0:Int)++[Blk.cells [Vi (0:Int)] 29]))<|.ret (Fr (Vi w) [Blk.cells [V.imm false 3 (List.map eS l)] 22,Blk.cells [V.imm false 2 (List.map eC cols)] 25,Blk.cells [Vu (0:Int)] 26,Blk.cells [Vi w] 29])) (by kernel_rfl) ?_
 exact ⟨(h1),rfl⟩
theorem caught_ok (l:List Stp) (cols:List Cl) (x:Int) (h:Sp C1 50 [eSteps l,eCols cols] (.int .u8 x)):FactO C1 48 [fn49] (H18 l cols 0) (.ret (.int .i64 0) (H18 l cols x++[.cells [.int .i64 0] 29])):=by
 have h1:=c49_ok l cols x (.cells [.int .i64 0] 29) h
 refine fact_tree draws (pure:=false) (
  .call 5 (49) ([V.ptr 0 0,V.ptr 1 0,V.ptr 2 0]) (H18 l cols (0:Int)++[Blk.cells [Vi (0:Int)] 29]) (Fr (V.tup []) (H18 l cols x++[Blk.cells [Vi (0:Int)] 29]))<|.ret (Fr (Vi (0:Int)) [Blk.cells [V.imm false 3 (List.map eS l)] 22,Blk.cells [V.imm false 2 (List.map eC cols)] 25,Blk.cells [Vu x] 26,Blk.cells [Vi (0:Int)] 29])) (by kernel_rfl) ?_
 exact ⟨(h1),rfl⟩
theorem kind_pan (l:List Stp) (cols:List Cl) (w:Int) (h:FactO C1 50 [eSteps l,eCols cols] [] (.pan (errI w) [])):Sp C1 18 [eSteps l,eCols cols] (.tup [.int .u8 0,.int .i64 w]):=by
 have h1:=caught_pan l cols w h
 refine sp_tree draws (dm:=[]) (fs:=[]) (
  .call 7 (48) ([fn49]) (H18 l cols (0:Int)) (Fr (Vi w) (H18 l cols (0:Int)++[Blk.cells [Vi w] 29]))<|.ret (Fr (V.tup [Vu (0:Int),Vi w]) [])) (by kernel_rfl) ?_
 exact ⟨(h1),rfl⟩
theorem kind_ok (l:List Stp) (cols:List Cl) (x:Int) (h:Sp C1 50 [eSteps l,eCols cols] (.int .u8 x)):Sp C1 18 [eSteps l,eCols cols] (.tup [.int .u8 x,.int .i64 0]):=by
 have h1:=caught_ok l cols x h
 refine sp_tree draws (dm:=[]) (fs:=[]) (
  .call 7 (48) ([fn49]) (H18 l cols (0:Int)) (Fr (Vi (0:Int)) (H18 l cols x++[Blk.cells [Vi (0:Int)] 29]))<|.ret (Fr (V.tup [Vu x,Vi (0:Int)]) [])) (by kernel_rfl) ?_
 exact ⟨(h1),rfl⟩
theorem kinds (l:List Stp) (cols:List Cl) (hb:l.length≤2 ^ 47) (hf:∀ s∈l,FineS s) (hcn:∀ c∈cols,0≤c.k) :
  (∃ w,w≠0∧Sp C1 18 [eSteps l,eCols cols] (.tup [.int .u8 0,.int .i64 w])∧Sp C1 27 [eSteps l,eCols cols] (.tup [.int .u8 0,.int .i64 w])) ∨
  (rightB l=true∧cols.length≤16∧(∀ s∈l,ColOk cols.length s)∧∃ fin,kindGo cols l []=some fin∧Sp C1 18 [eSteps l,eCols cols] (.tup [.int .u8 (fin.headD 0),.int .i64 0])∧Sp C1 27 [eSteps l,eCols cols] (.tup [.int .u8 (fin.headD 0),.int .i64 0])):=by
 by_cases hr:rightB l=true
 rotate_left
 ·have hr:rightB l=false:=by simpa using hr
  exact .inl ⟨13,by decide,kind_pan l cols 13 (kof_13 l cols hb hf hr),kindS_sp l cols hb hf hr⟩
 by_cases hc:cols.length≤16
 rotate_left
 ·exact .inl ⟨3,by decide,kind_pan l cols 3 (kof_3 l cols hf hr (by omega)),kindM_sp l cols hb hf hr (by omega)⟩
 by_cases hx:∀ s∈l,ColOk cols.length s
 rotate_left
 ·have hx:∃ s∈l,¬ColOk cols.length s:=by
   apply Classical.byContradiction
   intro hh
   exact hx (fun s hs=>Classical.byContradiction fun h=>hh ⟨s,hs,h⟩)
  exact .inl ⟨2,by decide,kind_pan l cols 2 (kof_2 l cols hf hr hc hx),kindR_sp l cols hb hf hr hc hx⟩
 have hb64:l.length≤64:=by
  have hr':=hr
  unfold rightB at hr'
  cases hm:rightGo l 0 with
  | none=>rw [hm] at hr';cases hr'
  | some m =>
   rw [hm] at hr'
   have:m=1∧l.length≤64:=by simpa using hr'
   exact this.2
 cases hg:kindGo cols l [] with
 | none=>exact .inl ⟨5,by decide,kind_pan l cols 5 (kof_5 l cols hf hcn hr hc hx hg),kindK_none l cols hb64 hf hr hc hx hg⟩
 | some fin=>exact .inr ⟨hr,hc,hx,fin,rfl,kind_ok l cols _ (kof_ok l cols hf hcn hr hc hx fin hg),kindK_some l cols hb64 hf hr hc hx fin hg⟩
end Go.Fw
