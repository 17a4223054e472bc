/- Algebra: contracts of the library, laid at this program. -/
import Derived.Test.YtnmfjjfnkhcpkaaGreatDoorPk8
import Derived.Ground.NamesProg
set_option linter.all false
set_option maxRecDepth 100000
namespace Go.Proofs
open Go.RowKit Go.Shelf Go.Lib
def Tryz.laysValid_ren:Go.Shelf.Ren:=⟨fun | 196=>51 | 259=>112 | n=>n,fun | 9=>9 | 4=>4 | 3=>3 | 5=>5 | 12=>12 | 119=>150 | 0=>0 | 46=>154 | 139=>153 | 138=>152 | 53=>216 | n=>n,fun | 3=>0 | 4=>1 | n=>n⟩
theorem Tryz.laysValid:Go.Proofs.Lays.n196 Tryz.prog Tryz.laysValid_ren:={
 mixed:=by kernel_rfl
 f196:=Tryz.func51.trans (congrArg some (by kernel_rfl))
 f259:=Tryz.func112.trans (congrArg some (by kernel_rfl))
 t0:=Tryz.underlying0
 a0:=Tryz.isAgg0
 z0:=Tryz.sizeOf0
 v0:=Tryz.zeroValue0
 t3:=Tryz.underlying3
 a3:=Tryz.isAgg3
 z3:=Tryz.sizeOf3
 v3:=Tryz.zeroValue3
 t4:=Tryz.underlying4
 a4:=Tryz.isAgg4
 z4:=Tryz.sizeOf4
 v4:=Tryz.zeroValue4
 t5:=Tryz.underlying5
 a5:=Tryz.isAgg5
 z5:=Tryz.sizeOf5
 v5:=Tryz.zeroValue5
 t9:=Tryz.underlying9
 a9:=Tryz.isAgg9
 z9:=Tryz.sizeOf9
 v9:=Tryz.zeroValue9
 t12:=Tryz.underlying12
 a12:=Tryz.isAgg12
 z12:=Tryz.sizeOf12
 v12:=Tryz.zeroValue12
 t46:=Tryz.underlying154
 a46:=Tryz.isAgg154
 z46:=Tryz.sizeOf154
 v46:=Tryz.zeroValue154
 t53:=Tryz.underlying216
 a53:=Tryz.isAgg216
 z53:=Tryz.sizeOf216
 v53:=Tryz.zeroValue216
 t119:=Tryz.underlying150
 a119:=Tryz.isAgg150
 z119:=Tryz.sizeOf150
 t138:=Tryz.underlying152
 a138:=Tryz.isAgg152
 z138:=Tryz.sizeOf152
 v138:=Tryz.zeroValue152
 t139:=Tryz.underlying153
 a139:=Tryz.isAgg153
 z139:=Tryz.sizeOf153
 v139:=Tryz.zeroValue153
 g3:=by kernel_rfl
 g4:=by kernel_rfl}
def Tryz.laysDecode_ren:Go.Shelf.Ren:=⟨fun | 197=>116 | 260=>169 | n=>n,fun | 9=>9 | 21=>21 | 3=>3 | 4=>4 | 5=>5 | 105=>157 | 119=>150 | 0=>0 | 46=>154 | 139=>153 | 138=>152 | n=>n,fun | 3=>0 | 4=>1 | n=>n⟩
theorem Tryz.laysDecode:Go.Proofs.Lays.n197 Tryz.prog Tryz.laysDecode_ren:={
 mixed:=by kernel_rfl
 f197:=Tryz.func116.trans (congrArg some (by kernel_rfl))
 f260:=Tryz.func169.trans (congrArg some (by kernel_rfl))
 t0:=Tryz.underlying0
 a0:=Tryz.isAgg0
 z0:=Tryz.sizeOf0
 v0:=Tryz.zeroValue0
 t3:=Tryz.underlying3
 a3:=Tryz.isAgg3
 z3:=Tryz.sizeOf3
 v3:=Tryz.zeroValue3
 t4:=Tryz.underlying4
 a4:=Tryz.isAgg4
 z4:=Tryz.sizeOf4
 v4:=Tryz.zeroValue4
 t5:=Tryz.underlying5
 a5:=Tryz.isAgg5
 z5:=Tryz.sizeOf5
 v5:=Tryz.zeroValue5
 t9:=Tryz.underlying9
 a9:=Tryz.isAgg9
 z9:=Tryz.sizeOf9
 v9:=Tryz.zeroValue9
 t21:=Tryz.underlying21
 a21:=Tryz.isAgg21
 z21:=Tryz.sizeOf21
 v21:=Tryz.zeroValue21
 t46:=Tryz.underlying154
 a46:=Tryz.isAgg154
 z46:=Tryz.sizeOf154
 v46:=Tryz.zeroValue154
 t105:=Tryz.underlying157
 a105:=Tryz.isAgg157
 z105:=Tryz.sizeOf157
 v105:=Tryz.zeroValue157
 t119:=Tryz.underlying150
 a119:=Tryz.isAgg150
 z119:=Tryz.sizeOf150
 t138:=Tryz.underlying152
 a138:=Tryz.isAgg152
 z138:=Tryz.sizeOf152
 v138:=Tryz.zeroValue152
 t139:=Tryz.underlying153
 a139:=Tryz.isAgg153
 z139:=Tryz.sizeOf153
 v139:=Tryz.zeroValue153
 g3:=by kernel_rfl
 g4:=by kernel_rfl}
end Go.Proofs
namespace Go.Fw
open Go.Proofs Go.RowKit
theorem tab_first:∀ c:Fin 256,(globNums 0).bind (·[c.val]?)=some (Lib.firstT c.val):=by decide
theorem tab_acc:∀ i:Fin 16,(globNums 1).bind (·[2*i.val]?)=some (Lib.accLo i.val)∧(globNums 1).bind (·[2*i.val+1]?)=some (Lib.accHi i.val):=by decide
theorem utf8_tabs {m:Mem} {w:World} (hm:MemOk m w):Lib.Utf8Tabs 0 1 w:=by
 have get:∀ (b i:Nat) (u:Value),(theGlob b).bind (·[i]?)=some u→w.cell? ⟨b,i,none⟩=some u:=fun b i u h=>by
  obtain ⟨cs,h1,h2⟩:=Option.bind_eq_some_iff.1 h
  exact glob_cell hm h1 h2
 exact ⟨fun c hc=>get 0 c _ (glob_num (tab_first ⟨c,hc⟩)),fun i hi=>⟨get 1 _ _ (glob_num (tab_acc ⟨i,hi⟩).1),get 1 _ _ (glob_num (tab_acc ⟨i,hi⟩).2)⟩⟩
theorem small {f:Nat} (h:Nat.blt f 1000000=true):f<yBase:=by unfold yBase;exact Nat.le_of_ble_eq_true h
theorem hasBody {f:FuncId} (h:(match C1.P.funcs[f]? with | some fn=>fn.body.isSome&&!(fn.name == "runtime.NumGoroutine") | none=>false)=true):∃ fn c,C1.P.funcs[f]?=some fn∧fn.body=some c∧(fn.name == "runtime.NumGoroutine")=false:=by
 split at h
 ·rename_i fn hf
  rw [Bool.and_eq_true] at h
  obtain ⟨c,hc⟩:=Option.isSome_iff_exists.1 h.1
  exact ⟨fn,c,hf,hc,by simpa using h.2⟩
 ·cases h
def validU (s:ByteArray):Bool:=Lib.validD s.data.toList
theorem valid_sp (s:ByteArray) (h:s.size≤9223372036854775807):Sp C1 51 [.str s] (.bool (validU s)):=by
 refine Sp.ofCalls (hasBody (by kernel_rfl)) (small rfl) (by kernel_rfl) rfl (fun us w m hm ha=>?_)
 rw [argsI_str ha]
 refine (Any.utf8_ValidString Tryz.laysValid s w h (utf8_tabs hm)).mono (fun e w' he=>?_)
 exact ⟨_,he.1,.bool _,he.2⟩
theorem decode_sp (s:ByteArray):Sp C1 116 [.str s] (.tup [.int .i32 (Lib.decodeGo s).1,.int .i64 (Lib.decodeGo s).2]):=by
 refine Sp.ofCallsT (hasBody (by kernel_rfl)) (small rfl) (by kernel_rfl) rfl (fun us w m hm ha=>?_)
 rw [argsI_str ha]
 refine (Any.utf8_DecodeRuneInString Tryz.laysDecode s w (utf8_tabs hm)).mono (fun e w' he=>?_)
 refine ⟨_,he.1,⟨rfl,fun j c hj hc=>?_⟩,he.2⟩
 match j,hj with
 | 0,_=>cases hc;exact .int _ _
 | 1,_=>cases hc;exact .int _ _
abbrev tFFFD:ByteArray:=⟨#[239,191,189]⟩
theorem decodeN_fffd (n b0 b1 b2 b3:Nat) (h0:b0<256) (h1:b1<256) (h2:b2<256) (h3:b3<256) (hn:1≤n) (h:(Lib.decodeN n b0 b1 b2 b3).1=65533) :
  ((Lib.decodeN n b0 b1 b2 b3).2=1∧¬(3≤n∧b0=239∧b1=191∧b2=189))∨((Lib.decodeN n b0 b1 b2 b3).2=3∧3≤n∧b0=239∧b1=191∧b2=189):=by
 obtain ⟨d,hd⟩:∃ d,Lib.decodeN n b0 b1 b2 b3=d:=⟨_,rfl⟩
 rw [hd] at h ⊢
 unfold Lib.decodeN at hd
 repeat' split at hd
 all_goals subst hd
 all_goals simp only at h ⊢
 all_goals first | omega | (exfalso;omega) | (left;refine ⟨trivial,fun e=>?_⟩;omega) | (right;refine ⟨trivial,?_⟩;omega)
theorem ext3 (s:ByteArray) (p:Nat) (h:p+3≤s.size):(s.extract p (p+3)=tFFFD)↔(s.get! p).toNat=239∧(s.get! (p+1)).toNat=191∧(s.get! (p+2)).toNat=189:=by
 have hg:∀ k,k<3→(s.extract p (p+3)).data.toList[k]?=some (s.get! (p+k)):=by
  intro k hk
  have e:s.get! (p+k)=s.data.toList[p+k]'(by rw [←Lib.size_eq];omega):=by
   rw [Proofs.Utf8W.get!_of_lt s (p+k) (by omega)];rfl
  rw [e]
  have:(s.extract p (p+3)).data.toList=(s.data.toList.drop p).take 3:=by
   rw [ByteArray.data_extract,Array.toList_extract]
   simp
  rw [this,List.getElem?_take,if_pos hk,List.getElem?_drop,List.getElem?_eq_getElem]
 have hl:(s.extract p (p+3)).data.toList.length=3:=by
  rw [←Lib.size_eq,ByteArray.size_extract];omega
 constructor
 ·intro e
  have g0:=hg 0 (by omega);have g1:=hg 1 (by omega);have g2:=hg 2 (by omega)
  rw [e] at g0 g1 g2
  simp at g0 g1 g2
  rw [←g0,←g1,←g2]
  decide
 ·rintro ⟨a,b,c⟩
  have a:s.get! p=239:=UInt8.toNat_inj.1 (by rw [a];rfl)
  have b:s.get! (p+1)=191:=UInt8.toNat_inj.1 (by rw [b];rfl)
  have c:s.get! (p+2)=189:=UInt8.toNat_inj.1 (by rw [c];rfl)
  have e:(s.extract p (p+3)).data.toList=[239,191,189]:=by
   apply List.ext_getElem?
   intro k
   by_cases hk:k<3
   ·rw [hg k hk]
    match k,hk with
    | 0,_=>rw [Nat.add_zero,a];rfl
    | 1,_=>rw [b];rfl
    | 2,_=>rw [c];rfl
   ·rw [List.getElem?_eq_none (by omega),List.getElem?_eq_none (by simp;omega)]
  exact ByteArray.ext (Array.ext' e)
theorem decode_fffd (s:ByteArray) (p:Nat) (h:p<s.size) (hr:(Utf8.decode s p).1=65533):((Utf8.decode s p).2=1∧(s.size<p+3∨(p+3≤s.size∧s.extract p (p+3)≠tFFFD)))∨((Utf8.decode s p).2=3∧p+3≤s.size∧s.extract p (p+3)=tFFFD):=by
 rw [Lib.decode_at] at hr ⊢
 rcases decodeN_fffd _ _ _ _ _ (s.get! p).toNat_lt (s.get! (p+1)).toNat_lt (s.get! (p+2)).toNat_lt (s.get! (p+3)).toNat_lt (by omega) hr with ⟨h1,h2⟩ | ⟨h1,h2,h3⟩
 ·refine .inl ⟨h1,?_⟩
  by_cases h3:p+3≤s.size
  ·refine .inr ⟨h3,fun e=>h2 ⟨by omega,(ext3 s p h3).1 e⟩⟩
  ·exact .inl (by omega)
 ·exact .inr ⟨h1,by omega,(ext3 s p (by omega)).2 h3⟩
theorem eq_fffd {a:ByteArray} (h:a=tFFFD):(!(a.toList==[239,191,189]))=false:=by
 rw [h,Lib.toList_data];rfl
theorem neq_fffd {a:ByteArray} (h:a≠tFFFD):(!(a.toList==[239,191,189]))=true:=by
 rw [Lib.toList_data]
 simp only [Bool.not_eq_true',beq_eq_false_iff_ne,ne_eq]
 exact fun e=>h (ByteArray.ext (Array.ext' e))
theorem toNat_3 (p:Nat):((p:Int)+3).toNat=p+3:=by omega
end Go.Fw
set_option maxHeartbeats 20000000
namespace Go.Fw
open Go.Proofs
def vFrom (s:ByteArray) (p:Nat):Bool:=Lib.validD (s.data.toList.drop p)
abbrev SU (s:ByteArray) (p:Nat):St:=mkSt 28 [(0,.str s),(6,.ptr 0 0)] [.iter s p]
theorem vFrom_end (s:ByteArray) (p:Nat) (h:s.size≤p):vFrom s p=true:=by
 unfold vFrom
 rw [List.drop_eq_nil_of_le (by rw [←Lib.size_eq];exact h)]
 rfl
theorem vFrom_step (s:ByteArray) (p:Nat) (h:p<s.size):vFrom s p=if (Utf8.decode s p).1=65533∧(Utf8.decode s p).2=1 then false else vFrom s (p+(Utf8.decode s p).2):=by
 unfold vFrom
 rw [Lib.validD_step _ (by intro e;have:=congrArg List.length e;rw [List.length_drop,←Lib.size_eq] at this;simp at this;omega),Lib.decodeL_drop,List.drop_drop]
theorem decode_width (s:ByteArray) (p:Nat):1≤(Utf8.decode s p).2:=by rw [←Lib.decodeL_drop];exact Lib.decodeL_width _
theorem utfl_ok (s:ByteArray) (hs:s.size≤2 ^ 47):∀ k p,s.size≤p+k→vFrom s p=true→LoopK C1 129 16 (keeps [0,6]) (SU s p) (.exit 0) (mkSt 28 [] [])
 | 0,p,h,hv=>by
  refine loop_tree draws (rd:=true) (kn:=(keeps [0,6])) (ke:=(keeps [])) (
   .ff 7 (decide (p<ByteArray.size s))<|.to 24001 ([.cut 0])<|.ret ((Ex.exit 0,mkSt 28 [] []))) (by kernel_rfl) ?_
  exact ⟨by (simp<;>omega),rfl,rfl⟩
 | k+1,p,h,hv=>by
  by_cases hp:p<s.size
  ·have hw:=decode_width s p
   have ih0:=utfl_ok s hs k (p+(Utf8.decode s p).2) (by omega)
   by_cases hr:(Utf8.decode s p).1=65533
   ·rcases decode_fffd s p hp hr with ⟨h1,h2⟩ | ⟨h1,h2,h3⟩
    ·rw [vFrom_step s p hp,if_pos ⟨hr,h1⟩] at hv
     cases hv
    ·rw [vFrom_step s p hp,if_neg (by omega)] at hv
     have ih:=ih0 hv
     have hr':(((Utf8.decode s p).1:Int)=65533):=by omega
     refine loop_tree draws (rd:=true) (kn:=(keeps [0,6])) (ke:=(keeps [])) (
      .tt 7 (decide (p<ByteArray.size s))<|.rw 8012 [] [(12,Vb ((↑(Prod.fst (Utf8.decode s p)):Int)==(65533:Int)),Vb true)]<|.rw 8015 [] [(15,Vi (IntKind.wrap IntKind.i64 ((↑p:Int)+(3:Int))),Vi ((↑p:Int)+(3:Int)))]<|.rw 8018 [] [(18,Vb (decide ((↑p:Int)+(3:Int)>(↑(ByteArray.size s):Int))),Vb false)]<|.rw 8023 [] [(23,Vi (IntKind.wrap IntKind.i64 ((↑p:Int)+(3:Int))),Vi ((↑p:Int)+(3:Int)))]<|.chk 24 (decide ((0:Int)≤(↑p:Int)∧(↑p:Int)≤(↑p:Int)+(3:Int)∧(↑p:Int)+(3:Int)≤(↑(ByteArray.size s):Int)))<|.rw 8024 [] [(24,V.str (ByteArray.extract s (Int.toNat (↑p:Int)) (Int.toNat ((↑p:Int)+(3:Int)))),V.str (ByteArray.extract s p (p+3)))]<|.rw 8025 [] [(25,Vb !ByteArray.toList (ByteArray.extract s p (p+3))==[UInt8.ofBitVec (BitVec.ofFin (Fin.mk 239 (Nat.mod_lt (nat_lit 239) (BitVec.ofNat._proof_1 8)))),UInt8.ofBitVec (BitVec.ofFin (Fin.mk 191 (Nat.mod_lt (nat_lit 191) (BitVec.ofNat._proof_1 8)))),UInt8.ofBitVec (BitVec.ofFin (Fin.mk 189 (Nat.mod_lt (nat_lit 189) (BitVec.ofNat._proof_1 8))))],Vb false)]<|.ret (.normal,SU s (p+Prod.snd (Utf8.decode s p)))) (by kernel_rfl) ?_
     exact ⟨by simp<;>omega,⟨tv,cb (by simp<;>omega),tv⟩,⟨tv,by simp (disch:=omega) only [wrap_i64],tv⟩,⟨tv,cb (by simp<;>omega),tv⟩,⟨tv,by simp (disch:=omega) only [wrap_i64],tv⟩,by simp<;>omega,⟨tv,by simp (disch:=omega) only [Int.toNat_natCast,toNat_3],tv⟩,⟨tv,cb (by exact eq_fffd h3),tv⟩,(ih0 hv)⟩
   ·have hr':¬(((Utf8.decode s p).1:Int)=65533):=by omega
    rw [vFrom_step s p hp,if_neg (fun e=>hr e.1)] at hv
    have ih:=ih0 hv
    refine loop_tree draws (rd:=true) (kn:=(keeps [0,6])) (ke:=(keeps [])) (
     .tt 7 (decide (p<ByteArray.size s))<|.rw 8012 [] [(12,Vb ((↑(Prod.fst (Utf8.decode s p)):Int)==(65533:Int)),Vb false)]<|.ret (.normal,SU s (p+Prod.snd (Utf8.decode s p)))) (by kernel_rfl) ?_
    exact ⟨by simp<;>omega,⟨tv,cb (by simp<;>omega),tv⟩,(ih0 hv)⟩
  ·refine loop_tree draws (rd:=true) (kn:=(keeps [0,6])) (ke:=(keeps [])) (
    .ff 7 (decide (p<ByteArray.size s))<|.to 24001 ([.cut 0])<|.ret ((Ex.exit 0,mkSt 28 [] []))) (by kernel_rfl) ?_
   exact ⟨by (simp<;>omega),rfl,rfl⟩
theorem utfl_bad (s:ByteArray) (hs:s.size≤2 ^ 47):∀ k p,s.size≤p+k→vFrom s p=false→LoopK C1 129 16 (keeps [0,6]) (SU s p) .ret (mkSt 28 [(2,.bool false)] [])
 | 0,p,h,hv=>by
  rw [vFrom_end s p (by omega)] at hv
  cases hv
 | k+1,p,h,hv=>by
  have hp:p<s.size:=by
   apply Classical.byContradiction
   intro hn
   rw [vFrom_end s p (by omega)] at hv
   cases hv
  have hw:=decode_width s p
  have ih0:=utfl_bad s hs k (p+(Utf8.decode s p).2) (by omega)
  by_cases hr:(Utf8.decode s p).1=65533
  ·have hr':(((Utf8.decode s p).1:Int)=65533):=by omega
   rcases decode_fffd s p hp hr with ⟨h1,h2 | ⟨h2,h3⟩⟩ | ⟨h1,h2,h3⟩
   ·refine loop_tree draws (rd:=true) (kn:=(keeps [0,6])) (ke:=(keeps [2])) (
     .tt 7 (decide (p<ByteArray.size s))<|.rw 8012 [] [(12,Vb ((↑(Prod.fst (Utf8.decode s p)):Int)==(65533:Int)),Vb true)]<|.rw 8015 [] [(15,Vi (IntKind.wrap IntKind.i64 ((↑p:Int)+(3:Int))),Vi ((↑p:Int)+(3:Int)))]<|.rw 8018 [] [(18,Vb (decide ((↑p:Int)+(3:Int)>(↑(ByteArray.size s):Int))),Vb true)]<|.to 24001 ([.cut 0])<|.ret ((Ex.ret,mkSt 28 [(2,Vb false)] []))) (by kernel_rfl) ?_
    exact ⟨by simp<;>omega,⟨tv,cb (by simp<;>omega),tv⟩,⟨tv,by simp (disch:=omega) only [wrap_i64],tv⟩,⟨tv,cb (by simp<;>omega),tv⟩,rfl,rfl⟩
   ·refine loop_tree draws (rd:=true) (kn:=(keeps [0,6])) (ke:=(keeps [2])) (
     .tt 7 (decide (p<ByteArray.size s))<|.rw 8012 [] [(12,Vb ((↑(Prod.fst (Utf8.decode s p)):Int)==(65533:Int)),Vb true)]<|.rw 8015 [] [(15,Vi (IntKind.wrap IntKind.i64 ((↑p:Int)+(3:Int))),Vi ((↑p:Int)+(3:Int)))]<|.rw 8018 [] [(18,Vb (decide ((↑p:Int)+(3:Int)>(↑(ByteArray.size s):Int))),Vb false)]<|.rw 8023 [] [(23,Vi (IntKind.wrap IntKind.i64 ((↑p:Int)+(3:Int))),Vi ((↑p:Int)+(3:Int)))]<|.chk 24 (decide ((0:Int)≤(↑p:Int)∧(↑p:Int)≤(↑p:Int)+(3:Int)∧(↑p:Int)+(3:Int)≤(↑(ByteArray.size s):Int)))<|.rw 8024 [] [(24,V.str (ByteArray.extract s (Int.toNat (↑p:Int)) (Int.toNat ((↑p:Int)+(3:Int)))),V.str (ByteArray.extract s p (p+3)))]<|.rw 8025 [] [(25,Vb !ByteArray.toList (ByteArray.extract s p (p+3))==[UInt8.ofBitVec (BitVec.ofFin (Fin.mk 239 (Nat.mod_lt (nat_lit 239) (BitVec.ofNat._proof_1 8)))),UInt8.ofBitVec (BitVec.ofFin (Fin.mk 191 (Nat.mod_lt (nat_lit 191) (BitVec.ofNat._proof_1 8)))),UInt8.ofBitVec (BitVec.ofFin (Fin.mk 189 (Nat.mod_lt (nat_lit 189) (BitVec.ofNat._proof_1 8))))],Vb true)]<|.to 24001 ([.cut 0])<|.ret ((Ex.ret,mkSt 28 [(2,Vb false)] []))) (by kernel_rfl) ?_
    exact ⟨by simp<;>omega,⟨tv,cb (by simp<;>omega),tv⟩,⟨tv,by simp (disch:=omega) only [wrap_i64],tv⟩,⟨tv,cb (by simp<;>omega),tv⟩,⟨tv,by simp (disch:=omega) only [wrap_i64],tv⟩,by simp<;>omega,⟨tv,by simp (disch:=omega) only [Int.toNat_natCast,toNat_3],tv⟩,⟨tv,cb (by exact neq_fffd h3),tv⟩,rfl,rfl⟩
   ·rw [vFrom_step s p hp,if_neg (by omega)] at hv
    have ih:=ih0 hv
    refine loop_tree draws (rd:=true) (kn:=(keeps [0,6])) (ke:=(keeps [2])) (
     .tt 7 (decide (p<ByteArray.size s))<|.rw 8012 [] [(12,Vb ((↑(Prod.fst (Utf8.decode s p)):Int)==(65533:Int)),Vb true)]<|.rw 8015 [] [(15,Vi (IntKind.wrap IntKind.i64 ((↑p:Int)+(3:Int))),Vi ((↑p:Int)+(3:Int)))]<|.rw 8018 [] [(18,Vb (decide ((↑p:Int)+(3:Int)>(↑(ByteArray.size s):Int))),Vb false)]<|.rw 8023 [] [(23,Vi (IntKind.wrap IntKind.i64 ((↑p:Int)+(3:Int))),Vi ((↑p:Int)+(3:Int)))]<|.chk 24 (decide ((0:Int)≤(↑p:Int)∧(↑p:Int)≤(↑p:Int)+(3:Int)∧(↑p:Int)+(3:Int)≤(↑(ByteArray.size s):Int)))<|.rw 8024 [] [(24,V.str (ByteArray.extract s (Int.toNat (↑p:Int)) (Int.toNat ((↑p:Int)+(3:Int)))),V.str (ByteArray.extract s p (p+3)))]<|.rw 8025 [] [(25,Vb !ByteArray.toList (ByteArray.extract s p (p+3))==[UInt8.ofBitVec (BitVec.ofFin (Fin.mk 239 (Nat.mod_lt (nat_lit 239) (BitVec.ofNat._proof_1 8)))),UInt8.ofBitVec (BitVec.ofFin (Fin.mk 191 (Nat.mod_lt (nat_lit 191) (BitVec.ofNat._proof_1 8)))),UInt8.ofBitVec (BitVec.ofFin (Fin.mk 189 (Nat.mod_lt (nat_lit 189) (BitVec.ofNat._proof_1 8))))],Vb false)]<|.ret (.normal,SU s (p+Prod.snd (Utf8.decode s p)))) (by kernel_rfl) ?_
    exact ⟨by simp<;>omega,⟨tv,cb (by simp<;>omega),tv⟩,⟨tv,by simp (disch:=omega) only [wrap_i64],tv⟩,⟨tv,cb (by simp<;>omega),tv⟩,⟨tv,by simp (disch:=omega) only [wrap_i64],tv⟩,by simp<;>omega,⟨tv,by simp (disch:=omega) only [Int.toNat_natCast,toNat_3],tv⟩,⟨tv,cb (by exact eq_fffd h3),tv⟩,(ih0 hv)⟩
  ·have hr':¬(((Utf8.decode s p).1:Int)=65533):=by omega
   rw [vFrom_step s p hp,if_neg (fun e=>hr e.1)] at hv
   have ih:=ih0 hv
   refine loop_tree draws (rd:=true) (kn:=(keeps [0,6])) (ke:=(keeps [2])) (
    .tt 7 (decide (p<ByteArray.size s))<|.rw 8012 [] [(12,Vb ((↑(Prod.fst (Utf8.decode s p)):Int)==(65533:Int)),Vb false)]<|.ret (.normal,SU s (p+Prod.snd (Utf8.decode s p)))) (by kernel_rfl) ?_
   exact ⟨by simp<;>omega,⟨tv,cb (by simp<;>omega),tv⟩,(ih0 hv)⟩
theorem utf_ok (s:ByteArray) (hs:s.size≤2 ^ 47) (hv:validU s=true):Sp C1 129 [.str s] (.bool true):=by
 have l:=utfl_ok s hs s.size 0 (by omega) hv
 refine sp_tree draws (dm:=[]) (fs:=[]) (
  .loop 16 false (keeps [0,6]) (SU s 0) (Ex.exit 0) (mkSt 28 [] [])<|.ret (Fr (Vb true) [])) (by kernel_rfl) ?_
 exact ⟨(LoopR.weak (l)),rfl⟩
theorem utf_bad (s:ByteArray) (hs:s.size≤2 ^ 47) (hv:validU s=false):Sp C1 129 [.str s] (.bool false):=by
 have l:=utfl_bad s hs s.size 0 (by omega) hv
 refine sp_tree draws (dm:=[]) (fs:=[]) (
  .loop 16 false (keeps [0,6]) (SU s 0) (Ex.ret) (mkSt 28 [(2,Vb false)] [])<|.ret (Fr (Vb false) [])) (by kernel_rfl) ?_
 exact ⟨(LoopR.weak (l)),rfl⟩
theorem utf_sp (s:ByteArray) (hs:s.size≤2 ^ 47):Sp C1 129 [.str s] (.bool (validU s)):=by
 cases hv:validU s
 ·exact utf_bad s hs hv
 ·exact utf_ok s hs hv
end Go.Fw
set_option maxHeartbeats 20000000
namespace Go.Fw
open Go.Proofs
def Bare (v:Vl):Prop:=0≤v.k∧v.k<4∧(v.k=1∨v.b=false)∧(v.k=2∨v.n=0)∧(v.k=3∨v.s.toList=[])
instance (v:Vl):Decidable (Bare v):=by unfold Bare;infer_instance
def chkV (v:Vl):Int:=if ¬Bare v then 5 else if 256<v.s.size then 4 else if validU v.s=false then 9 else 0
theorem check_sp (v:Vl) (hs:v.s.size≤2 ^ 47) (hk:0≤v.k):Sp C1 19 [eV v] (.int .i64 (chkV v)):=by
 have hv:=valid_sp v.s (by omega)
 refine sp_tree draws (dm:=[]) (fs:=[]) (
  .ite 2009 (Vl.k v==(0:Int))
  (.rw 8027 [] [(9,Vb (Vl.k v==(0:Int)),Vb true)]<|.ite 2026 (!(Vl.k v==Vl.k v&&(Vl.b v==false&&(Vl.n v==(0:Int)&&(ByteArray.toList (Vl.s v)==[]&&true)))))
  (.rw 8002 [] [(10,Vb (Vl.k v==(0:Int)),Vb true),(26,Vb !(Vl.k v==Vl.k v&&(Vl.b v==false&&(Vl.n v==(0:Int)&&(ByteArray.toList (Vl.s v)==[]&&true)))),Vb true)]<|.ret (Fr (Vi (5:Int)) []))
  (.ite 2030 (decide ((↑(ByteArray.size (Vl.s v)):Int)>(256:Int)))
  (.rw 8002 [] [(10,Vb (Vl.k v==(0:Int)),Vb true),(26,Vb !(Vl.k v==Vl.k v&&(Vl.b v==false&&(Vl.n v==(0:Int)&&(ByteArray.toList (Vl.s v)==[]&&true)))),Vb false),(30,Vb (decide ((↑(ByteArray.size (Vl.s v)):Int)>(256:Int))),Vb true)]<|.ret (Fr (Vi (4:Int)) []))
  (.call 38 (51) ([V.str (Vl.s v)]) ([]) (Fr (Vb (validU (Vl.s v))) [])<|.ite 2035 (!validU (Vl.s v))
  (.rw 8002 [] [(10,Vb (Vl.k v==(0:Int)),Vb true),(26,Vb !(Vl.k v==Vl.k v&&(Vl.b v==false&&(Vl.n v==(0:Int)&&(ByteArray.toList (Vl.s v)==[]&&true)))),Vb false),(30,Vb (decide ((↑(ByteArray.size (Vl.s v)):Int)>(256:Int))),Vb false),(35,Vb !validU (Vl.s v),Vb true),(38,Vb (validU (Vl.s v)),Vb false)]<|.ret (Fr (Vi (9:Int)) []))
  (.ret (Fr (Vi (0:Int)) [])))))
  (.ite 2011 (Vl.k v==(1:Int))
  (.rw 8013 [] [(11,Vb (Vl.k v==(1:Int)),Vb true)]<|.ite 2026 (!(Vl.k v==Vl.k v&&(Vl.b v==Vl.b v&&(Vl.n v==(0:Int)&&(ByteArray.toList (Vl.s v)==[]&&true)))))
  (.rw 8002 [] [(12,Vb (Vl.k v==(1:Int)),Vb true),(26,Vb !(Vl.k v==Vl.k v&&(Vl.b v==Vl.b v&&(Vl.n v==(0:Int)&&(ByteArray.toList (Vl.s v)==[]&&true)))),Vb true)]<|.ret (Fr (Vi (5:Int)) []))
  (.ite 2030 (decide ((↑(ByteArray.size (Vl.s v)):Int)>(256:Int)))
  (.rw 8002 [] [(12,Vb (Vl.k v==(1:Int)),Vb true),(26,Vb !(Vl.k v==Vl.k v&&(Vl.b v==Vl.b v&&(Vl.n v==(0:Int)&&(ByteArray.toList (Vl.s v)==[]&&true)))),Vb false)]<|.ret (Fr (Vi (4:Int)) []))
  (.call 38 (51) ([V.str (Vl.s v)]) ([]) (Fr (Vb (validU (Vl.s v))) [])<|.ite 2035 (!validU (Vl.s v))
  (.rw 8002 [] [(9,Vb (Vl.k v==(0:Int)),Vb false),(12,Vb (Vl.k v==(1:Int)),Vb true),(26,Vb !(Vl.k v==Vl.k v&&(Vl.b v==Vl.b v&&(Vl.n v==(0:Int)&&(ByteArray.toList (Vl.s v)==[]&&true)))),Vb false),(30,Vb (decide ((↑(ByteArray.size (Vl.s v)):Int)>(256:Int))),Vb false),(35,Vb !validU (Vl.s v),Vb true),(38,Vb (validU (Vl.s v)),Vb false)]<|.ret (Fr (Vi (9:Int)) []))
  (.ret (Fr (Vi (0:Int)) [])))))
  (.ite 2016 (Vl.k v==(2:Int))
  (.rw 8018 [] [(16,Vb (Vl.k v==(2:Int)),Vb true)]<|.ite 2026 (!(Vl.k v==Vl.k v&&(Vl.b v==false&&(Vl.n v==Vl.n v&&(ByteArray.toList (Vl.s v)==[]&&true)))))
  (.rw 8002 [] [(17,Vb (Vl.k v==(2:Int)),Vb true),(26,Vb !(Vl.k v==Vl.k v&&(Vl.b v==false&&(Vl.n v==Vl.n v&&(ByteArray.toList (Vl.s v)==[]&&true)))),Vb true)]<|.ret (Fr (Vi (5:Int)) []))
  (.ite 2030 (decide ((↑(ByteArray.size (Vl.s v)):Int)>(256:Int)))
  (.rw 8002 [] [(17,Vb (Vl.k v==(2:Int)),Vb true),(26,Vb !(Vl.k v==Vl.k v&&(Vl.b v==false&&(Vl.n v==Vl.n v&&(ByteArray.toList (Vl.s v)==[]&&true)))),Vb false)]<|.ret (Fr (Vi (4:Int)) []))
  (.call 38 (51) ([V.str (Vl.s v)]) ([]) (Fr (Vb (validU (Vl.s v))) [])<|.ite 2035 (!validU (Vl.s v))
  (.rw 8002 [] [(9,Vb (Vl.k v==(0:Int)),Vb false),(11,Vb (Vl.k v==(1:Int)),Vb false),(17,Vb (Vl.k v==(2:Int)),Vb true),(26,Vb !(Vl.k v==Vl.k v&&(Vl.b v==false&&(Vl.n v==Vl.n v&&(ByteArray.toList (Vl.s v)==[]&&true)))),Vb false),(30,Vb (decide ((↑(ByteArray.size (Vl.s v)):Int)>(256:Int))),Vb false),(35,Vb !validU (Vl.s v),Vb true),(38,Vb (validU (Vl.s v)),Vb false)]<|.ret (Fr (Vi (9:Int)) []))
  (.ret (Fr (Vi (0:Int)) [])))))
  (.ite 2021 (Vl.k v==(3:Int))
  (.rw 8023 [] [(21,Vb (Vl.k v==(3:Int)),Vb true)]<|.ite 2026 (!(Vl.k v==Vl.k v&&(Vl.b v==false&&(Vl.n v==(0:Int)&&(ByteArray.toList (Vl.s v)==ByteArray.toList (Vl.s v)&&true)))))
  (.rw 8002 [] [(22,Vb (Vl.k v==(3:Int)),Vb true),(26,Vb !(Vl.k v==Vl.k v&&(Vl.b v==false&&(Vl.n v==(0:Int)&&(ByteArray.toList (Vl.s v)==ByteArray.toList (Vl.s v)&&true)))),Vb true)]<|.ret (Fr (Vi (5:Int)) []))
  (.ite 2030 (decide ((↑(ByteArray.size (Vl.s v)):Int)>(256:Int)))
  (.rw 8002 [] [(22,Vb (Vl.k v==(3:Int)),Vb true),(26,Vb !(Vl.k v==Vl.k v&&(Vl.b v==false&&(Vl.n v==(0:Int)&&(ByteArray.toList (Vl.s v)==ByteArray.toList (Vl.s v)&&true)))),Vb false)]<|.ret (Fr (Vi (4:Int)) []))
  (.call 38 (51) ([V.str (Vl.s v)]) ([]) (Fr (Vb (validU (Vl.s v))) [])<|.ite 2035 (!validU (Vl.s v))
  (.rw 8002 [] [(9,Vb (Vl.k v==(0:Int)),Vb false),(11,Vb (Vl.k v==(1:Int)),Vb false),(16,Vb (Vl.k v==(2:Int)),Vb false),(22,Vb (Vl.k v==(3:Int)),Vb true),(26,Vb !(Vl.k v==Vl.k v&&(Vl.b v==false&&(Vl.n v==(0:Int)&&(ByteArray.toList (Vl.s v)==ByteArray.toList (Vl.s v)&&true)))),Vb false),(30,Vb (decide ((↑(ByteArray.size (Vl.s v)):Int)>(256:Int))),Vb false),(35,Vb !validU (Vl.s v),Vb true),(38,Vb (validU (Vl.s v)),Vb false)]<|.ret (Fr (Vi (9:Int)) []))
  (.ret (Fr (Vi (0:Int)) [])))))
  (.ret (Fr (Vi (5:Int)) [])))))) (by kernel_rfl) ?_
 exact ⟨fun h0=>have h0p:Vl.k v=(0:Int):=(by simpa using h0);⟨⟨tv,cb (h0),tv⟩,fun h1=>have h1p:Vl.b v=true∨¬Vl.n v=(0:Int)∨¬ByteArray.toList (Vl.s v)=[]:=(by simpa using h1);⟨⟨tv,cb (h0),cb (h1),tv⟩,by show _=_;(unfold chkV Bare;grind)⟩,
  fun h1=>have h1p:Vl.b v=false∧Vl.n v=(0:Int)∧ByteArray.toList (Vl.s v)=[]:=(by simpa using h1);⟨fun h2=>have h2p:(256:Int)<(↑(ByteArray.size (Vl.s v)):Int):=(by simpa using h2);⟨⟨tv,cb (h0),cb (h1),cb (h2),tv⟩,by show _=_;(unfold chkV Bare;grind)⟩,
  fun h2=>have h2p:(↑(ByteArray.size (Vl.s v)):Int)≤(256:Int):=(by simpa using h2);⟨(Sp.fact (hv)),fun h3=>have h3p:validU (Vl.s v)=false:=(by simpa using h3);⟨⟨tv,cb (h0),cb (h1),cb (h2),cb (h3),cb (h3p),tv⟩,by show _=_;(unfold chkV Bare;grind)⟩,
  fun h3=>have h3p:validU (Vl.s v)=true:=(by simpa using h3);by show _=_;(unfold chkV Bare;grind)⟩⟩⟩,
  fun h0=>have h0p:¬Vl.k v=(0:Int):=(by simpa using h0);⟨fun h1=>have h1p:Vl.k v=(1:Int):=(by simpa using h1);⟨⟨tv,cb (h1),tv⟩,fun h2=>have h2p:¬Vl.n v=(0:Int)∨¬ByteArray.toList (Vl.s v)=[]:=(by simpa using h2);⟨⟨tv,cb (h1),cb (h2),tv⟩,by show _=_;(unfold chkV Bare;grind)⟩,
  fun h2=>have h2p:Vl.n v=(0:Int)∧ByteArray.toList (Vl.s v)=[]:=(by simpa using h2);⟨fun h3=>have h3p:(256:Int)<(↑(ByteArray.size (Vl.s v)):Int):=(by simpa using h3);⟨⟨tv,cb (h1),cb (h2),tv⟩,by show _=_;(unfold chkV Bare;grind)⟩,
  fun h3=>have h3p:(↑(ByteArray.size (Vl.s v)):Int)≤(256:Int):=(by simpa using h3);⟨(Sp.fact (hv)),fun h4=>have h4p:validU (Vl.s v)=false:=(by simpa using h4);⟨⟨tv,cb (h0),cb (h1),cb (h2),cb (h3),cb (h4),cb (h4p),tv⟩,by show _=_;(unfold chkV Bare;grind)⟩,
  fun h4=>have h4p:validU (Vl.s v)=true:=(by simpa using h4);by show _=_;(unfold chkV Bare;grind)⟩⟩⟩,
  fun h1=>have h1p:¬Vl.k v=(1:Int):=(by simpa using h1);⟨fun h2=>have h2p:Vl.k v=(2:Int):=(by simpa using h2);⟨⟨tv,cb (h2),tv⟩,fun h3=>have h3p:Vl.b v=true∨¬ByteArray.toList (Vl.s v)=[]:=(by simpa using h3);⟨⟨tv,cb (h2),cb (h3),tv⟩,by show _=_;(unfold chkV Bare;grind)⟩,
  fun h3=>have h3p:Vl.b v=false∧ByteArray.toList (Vl.s v)=[]:=(by simpa using h3);⟨fun h4=>have h4p:(256:Int)<(↑(ByteArray.size (Vl.s v)):Int):=(by simpa using h4);⟨⟨tv,cb (h2),cb (h3),tv⟩,by show _=_;(unfold chkV Bare;grind)⟩,
  fun h4=>have h4p:(↑(ByteArray.size (Vl.s v)):Int)≤(256:Int):=(by simpa using h4);⟨(Sp.fact (hv)),fun h5=>have h5p:validU (Vl.s v)=false:=(by simpa using h5);⟨⟨tv,cb (h0),cb (h1),cb (h2),cb (h3),cb (h4),cb (h5),cb (h5p),tv⟩,by show _=_;(unfold chkV Bare;grind)⟩,
  fun h5=>have h5p:validU (Vl.s v)=true:=(by simpa using h5);by show _=_;(unfold chkV Bare;grind)⟩⟩⟩,
  fun h2=>have h2p:¬Vl.k v=(2:Int):=(by simpa using h2);⟨fun h3=>have h3p:Vl.k v=(3:Int):=(by simpa using h3);⟨⟨tv,cb (h3),tv⟩,fun h4=>have h4p:Vl.b v=true∨¬Vl.n v=(0:Int):=(by simpa using h4);⟨⟨tv,cb (h3),cb (h4),tv⟩,by show _=_;(unfold chkV Bare;grind)⟩,
  fun h4=>have h4p:Vl.b v=false∧Vl.n v=(0:Int):=(by simpa using h4);⟨fun h5=>have h5p:(256:Int)<(↑(ByteArray.size (Vl.s v)):Int):=(by simpa using h5);⟨⟨tv,cb (h3),cb (h4),tv⟩,by show _=_;(unfold chkV Bare;grind)⟩,
  fun h5=>have h5p:(↑(ByteArray.size (Vl.s v)):Int)≤(256:Int):=(by simpa using h5);⟨(Sp.fact (hv)),fun h6=>have h6p:validU (Vl.s v)=false:=(by simpa using h6);⟨⟨tv,cb (h0),cb (h1),cb (h2),cb (h3),cb (h4),cb (h5),cb (h6),cb (h6p),tv⟩,by show _=_;(unfold chkV Bare;grind)⟩,
  fun h6=>have h6p:validU (Vl.s v)=true:=(by simpa using h6);by show _=_;(unfold chkV Bare;grind)⟩⟩⟩,
  fun h3=>have h3p:¬Vl.k v=(3:Int):=(by simpa using h3);by show _=_;(unfold chkV Bare;grind)⟩⟩⟩⟩
theorem check2_sp (v:Vl) (hs:v.s.size≤2 ^ 47) (hk:0≤v.k):Sp C1 68 [eV v] (.int .i64 (chkV v)):=by
 have hv:=utf_sp v.s (by omega)
 refine sp_tree draws (dm:=[]) (fs:=[]) (
  .ite 1010 (decide (Vl.k v ≥ (4:Int))==false)
  (.rw 8010 [] [(8,Vb (decide (Vl.k v ≥ (4:Int))),Vb false)]<|.tt 1011 (decide (Vl.k v ≥ (4:Int))==false)<|.tt 1012 (decide (Vl.k v ≥ (4:Int))==false)<|.ite 1013 ((Vl.k v !=(1:Int))==true)
  (.rw 8013 [] [(9,Vb (decide (Vl.k v ≥ (4:Int))),Vb false),(11,Vb (Vl.k v !=(1:Int)),Vb true)]<|.tt 1014 ((Vl.k v !=(1:Int))==true)<|.tt 15 (Vl.k v !=(1:Int))<|.ite 1018 (Vl.b v==false)
  (.rw 8018 [] [(12,Vb (Vl.k v !=(1:Int)),Vb true),(14,Vb (Vl.b v),Vb false)]<|.tt 1019 (Vl.b v==false)<|.tt 1020 (Vl.b v==false)<|.ite 1021 ((Vl.k v !=(2:Int))==true)
  (.rw 8021 [] [(15,Vb (Vl.b v),Vb false),(19,Vb (Vl.k v !=(2:Int)),Vb true)]<|.tt 1022 ((Vl.k v !=(2:Int))==true)<|.tt 1023 ((Vl.k v !=(2:Int))==true)<|.tt 1024 (Vl.b v==false)<|.tt 24 (Vl.k v !=(2:Int))<|.ff 25 (Vl.b v)<|.ite 1027 ((Vl.n v !=(0:Int))==false)
  (.rw 8027 [] [(16,Vb (Vl.b v),Vb false),(20,Vb (Vl.k v !=(2:Int)),Vb true),(23,Vb (Vl.n v !=(0:Int)),Vb false)]<|.tt 1028 ((Vl.n v !=(0:Int))==false)<|.tt 1029 ((Vl.n v !=(0:Int))==false)<|.ite 1030 ((Vl.k v !=(3:Int))==true)
  (.rw 8030 [] [(17,Vb (Vl.b v),Vb false),(24,Vb (Vl.n v !=(0:Int)),Vb false),(28,Vb (Vl.k v !=(3:Int)),Vb true)]<|.tt 1031 ((Vl.k v !=(3:Int))==true)<|.tt 1032 ((Vl.k v !=(3:Int))==true)<|.tt 1033 ((Vl.n v !=(0:Int))==false)<|.tt 33 (Vl.k v !=(3:Int))<|.ff 34 (Vl.n v !=(0:Int))<|.ite 2006 (!ByteArray.toList (Vl.s v)==[])
  (.rw 8002 [] [(6,Vb !ByteArray.toList (Vl.s v)==[],Vb true),(25,Vb (Vl.n v !=(0:Int)),Vb false),(29,Vb (Vl.k v !=(3:Int)),Vb true)]<|.ret (Fr (Vi (5:Int)) []))
  (.ite 2035 (decide ((↑(ByteArray.size (Vl.s v)):Int)>(256:Int)))
  (.rw 8002 [] [(6,Vb !ByteArray.toList (Vl.s v)==[],Vb false),(25,Vb (Vl.n v !=(0:Int)),Vb false),(29,Vb (Vl.k v !=(3:Int)),Vb true),(35,Vb (decide ((↑(ByteArray.size (Vl.s v)):Int)>(256:Int))),Vb true)]<|.ret (Fr (Vi (4:Int)) []))
  (.call 43 (129) ([V.str (Vl.s v)]) ([]) (Fr (Vb (validU (Vl.s v))) [])<|.ite 2040 (!validU (Vl.s v))
  (.rw 8002 [] [(6,Vb !ByteArray.toList (Vl.s v)==[],Vb false),(25,Vb (Vl.n v !=(0:Int)),Vb false),(29,Vb (Vl.k v !=(3:Int)),Vb true),(35,Vb (decide ((↑(ByteArray.size (Vl.s v)):Int)>(256:Int))),Vb false),(40,Vb !validU (Vl.s v),Vb true),(43,Vb (validU (Vl.s v)),Vb false)]<|.ret (Fr (Vi (9:Int)) []))
  (.ret (Fr (Vi (0:Int)) [])))))
  (.ff 1031 ((Vl.k v !=(3:Int))==true)<|.ff 1032 ((Vl.k v !=(3:Int))==true)<|.tt 1033 ((Vl.n v !=(0:Int))==false)<|.ff 33 (Vl.k v !=(3:Int))<|.ff 34 (Vl.n v !=(0:Int))<|.ite 2035 (decide ((↑(ByteArray.size (Vl.s v)):Int)>(256:Int)))
  (.rw 8002 [] [(17,Vb (Vl.b v),Vb false)]<|.ret (Fr (Vi (4:Int)) []))
  (.call 43 (129) ([V.str (Vl.s v)]) ([]) (Fr (Vb (validU (Vl.s v))) [])<|.ite 2040 (!validU (Vl.s v))
  (.rw 8002 [] [(17,Vb (Vl.b v),Vb false)]<|.ret (Fr (Vi (9:Int)) []))
  (.ret (Fr (Vi (0:Int)) [])))))
  (.ff 1028 ((Vl.n v !=(0:Int))==false)<|.ff 1029 ((Vl.n v !=(0:Int))==false)<|.ff 1033 ((Vl.n v !=(0:Int))==false)<|.tt 34 (Vl.n v !=(0:Int))<|.ret (Fr (Vi (5:Int)) [])))
  (.ff 1022 ((Vl.k v !=(2:Int))==true)<|.ff 1023 ((Vl.k v !=(2:Int))==true)<|.tt 1024 (Vl.b v==false)<|.ff 24 (Vl.k v !=(2:Int))<|.ff 25 (Vl.b v)<|.rw 8028 [] [(28,Vb (Vl.k v !=(3:Int)),Vb true)]<|.ite 2006 (!ByteArray.toList (Vl.s v)==[])
  (.rw 8002 [] [(6,Vb !ByteArray.toList (Vl.s v)==[],Vb true)]<|.ret (Fr (Vi (5:Int)) []))
  (.ite 2035 (decide ((↑(ByteArray.size (Vl.s v)):Int)>(256:Int)))
  (.rw 8002 [] [(19,Vb (Vl.k v !=(2:Int)),Vb false)]<|.ret (Fr (Vi (4:Int)) []))
  (.call 43 (129) ([V.str (Vl.s v)]) ([]) (Fr (Vb (validU (Vl.s v))) [])<|.ite 2040 (!validU (Vl.s v))
  (.rw 8002 [] [(19,Vb (Vl.k v !=(2:Int)),Vb false)]<|.ret (Fr (Vi (9:Int)) []))
  (.ret (Fr (Vi (0:Int)) []))))))
  (.ff 1019 (Vl.b v==false)<|.ff 1020 (Vl.b v==false)<|.ff 1024 (Vl.b v==false)<|.tt 25 (Vl.b v)<|.ret (Fr (Vi (5:Int)) [])))
  (.ff 1014 ((Vl.k v !=(1:Int))==true)<|.tt 1015 (decide (Vl.k v ≥ (4:Int))==false)<|.ff 15 (Vl.k v !=(1:Int))<|.ff 16 (decide (Vl.k v ≥ (4:Int)))<|.rw 8019 [] [(19,Vb (Vl.k v !=(2:Int)),Vb true)]<|.ite 1027 ((Vl.n v !=(0:Int))==false)
  (.rw 8027 [] [(9,Vb (decide (Vl.k v ≥ (4:Int))),Vb false),(23,Vb (Vl.n v !=(0:Int)),Vb false)]<|.tt 1028 ((Vl.n v !=(0:Int))==false)<|.rw 8028 [] [(28,Vb (Vl.k v !=(3:Int)),Vb true)]<|.tt 1029 ((Vl.n v !=(0:Int))==false)<|.tt 1033 ((Vl.n v !=(0:Int))==false)<|.ff 34 (Vl.n v !=(0:Int))<|.ite 2006 (!ByteArray.toList (Vl.s v)==[])
  (.rw 8002 [] [(11,Vb (Vl.k v !=(1:Int)),Vb false)]<|.ret (Fr (Vi (5:Int)) []))
  (.ite 2035 (decide ((↑(ByteArray.size (Vl.s v)):Int)>(256:Int)))
  (.rw 8002 [] [(11,Vb (Vl.k v !=(1:Int)),Vb false)]<|.ret (Fr (Vi (4:Int)) []))
  (.call 43 (129) ([V.str (Vl.s v)]) ([]) (Fr (Vb (validU (Vl.s v))) [])<|.ite 2040 (!validU (Vl.s v))
  (.rw 8002 [] [(11,Vb (Vl.k v !=(1:Int)),Vb false)]<|.ret (Fr (Vi (9:Int)) []))
  (.ret (Fr (Vi (0:Int)) [])))))
  (.ff 1028 ((Vl.n v !=(0:Int))==false)<|.ff 1029 ((Vl.n v !=(0:Int))==false)<|.ff 1033 ((Vl.n v !=(0:Int))==false)<|.tt 34 (Vl.n v !=(0:Int))<|.ret (Fr (Vi (5:Int)) []))))
  (.ff 1011 (decide (Vl.k v ≥ (4:Int))==false)<|.ff 1012 (decide (Vl.k v ≥ (4:Int))==false)<|.ff 1015 (decide (Vl.k v ≥ (4:Int))==false)<|.tt 16 (decide (Vl.k v ≥ (4:Int)))<|.ret (Fr (Vi (5:Int)) []))) (by kernel_rfl) ?_
 exact ⟨fun h0=>have h0p:Vl.k v<(4:Int):=(by simpa using h0);⟨⟨tv,cb (by simp<;>omega),tv⟩,(h0),(h0),fun h1=>have h1p:¬Vl.k v=(1:Int):=(by simpa using h1);⟨⟨tv,cb (by simp<;>omega),cb (by simp<;>omega),tv⟩,(h1),by simp<;>omega,fun h2=>have h2p:Vl.b v=false:=(by simpa using h2);⟨⟨tv,cb (by simp<;>omega),cb (h2p),tv⟩,(h2),(h2),fun h3=>have h3p:¬Vl.k v=(2:Int):=(by simpa using h3);⟨⟨tv,cb (h2p),cb (by simp<;>omega),tv⟩,(h3),(h3),(h2),by simp<;>omega,(h2p),fun h4=>have h4p:Vl.n v=(0:Int):=(by simpa using h4);⟨⟨tv,cb (h2p),cb (by simp<;>omega),cb (by simp<;>omega),tv⟩,(h4),(h4),fun h5=>have h5p:¬Vl.k v=(3:Int):=(by simpa using h5);⟨⟨tv,cb (h2p),cb (by simp<;>omega),cb (by simp<;>omega),tv⟩,(h5),(h5),(h4),by simp<;>omega,by simp<;>omega,fun h6=>have h6p:¬ByteArray.toList (Vl.s v)=[]:=(by simpa using h6);⟨⟨tv,cb (h6),cb (by simp<;>omega),cb (by simp<;>omega),tv⟩,by show _=_;(unfold chkV Bare;grind)⟩,
  fun h6=>have h6p:ByteArray.toList (Vl.s v)=[]:=(by simpa using h6);⟨fun h7=>have h7p:(256:Int)<(↑(ByteArray.size (Vl.s v)):Int):=(by simpa using h7);⟨⟨tv,cb (h6),cb (by simp<;>omega),cb (by simp<;>omega),cb (h7),tv⟩,by show _=_;(unfold chkV Bare;grind)⟩,
  fun h7=>have h7p:(↑(ByteArray.size (Vl.s v)):Int)≤(256:Int):=(by simpa using h7);⟨(Sp.fact (hv)),fun h8=>have h8p:validU (Vl.s v)=false:=(by simpa using h8);⟨⟨tv,cb (h6),cb (by simp<;>omega),cb (by simp<;>omega),cb (h7),cb (h8),cb (h8p),tv⟩,by show _=_;(unfold chkV Bare;grind)⟩,
  fun h8=>have h8p:validU (Vl.s v)=true:=(by simpa using h8);by show _=_;(unfold chkV Bare;grind)⟩⟩⟩,
  fun h5=>have h5p:Vl.k v=(3:Int):=(by simpa using h5);⟨(h5),(h5),(h4),by simp<;>omega,by simp<;>omega,fun h6=>have h6p:(256:Int)<(↑(ByteArray.size (Vl.s v)):Int):=(by simpa using h6);⟨⟨tv,cb (h2p),tv⟩,by show _=_;(unfold chkV Bare;grind)⟩,
  fun h6=>have h6p:(↑(ByteArray.size (Vl.s v)):Int)≤(256:Int):=(by simpa using h6);⟨(Sp.fact (hv)),fun h7=>have h7p:validU (Vl.s v)=false:=(by simpa using h7);⟨⟨tv,cb (h2p),tv⟩,by show _=_;(unfold chkV Bare;grind)⟩,
  fun h7=>have h7p:validU (Vl.s v)=true:=(by simpa using h7);by show _=_;(unfold chkV Bare;grind)⟩⟩⟩,
  fun h4=>have h4p:¬Vl.n v=(0:Int):=(by simpa using h4);⟨(h4),(h4),(h4),by simp<;>omega,by show _=_;(unfold chkV Bare;grind)⟩⟩,
  fun h3=>have h3p:Vl.k v=(2:Int):=(by simpa using h3);⟨(h3),(h3),(h2),by simp<;>omega,(h2p),⟨tv,cb (by simp<;>omega),tv⟩,fun h4=>have h4p:¬ByteArray.toList (Vl.s v)=[]:=(by simpa using h4);⟨⟨tv,cb (h4),tv⟩,by show _=_;(unfold chkV Bare;grind)⟩,
  fun h4=>have h4p:ByteArray.toList (Vl.s v)=[]:=(by simpa using h4);⟨fun h5=>have h5p:(256:Int)<(↑(ByteArray.size (Vl.s v)):Int):=(by simpa using h5);⟨⟨tv,cb (by simp<;>omega),tv⟩,by show _=_;(unfold chkV Bare;grind)⟩,
  fun h5=>have h5p:(↑(ByteArray.size (Vl.s v)):Int)≤(256:Int):=(by simpa using h5);⟨(Sp.fact (hv)),fun h6=>have h6p:validU (Vl.s v)=false:=(by simpa using h6);⟨⟨tv,cb (by simp<;>omega),tv⟩,by show _=_;(unfold chkV Bare;grind)⟩,
  fun h6=>have h6p:validU (Vl.s v)=true:=(by simpa using h6);by show _=_;(unfold chkV Bare;grind)⟩⟩⟩⟩,
  fun h2=>have h2p:Vl.b v=true:=(by simpa using h2);⟨(h2),(h2),(h2),(h2p),by show _=_;(unfold chkV Bare;grind)⟩⟩,
  fun h1=>have h1p:Vl.k v=(1:Int):=(by simpa using h1);⟨(h1),(h0),by simp<;>omega,by simp<;>omega,⟨tv,cb (by simp<;>omega),tv⟩,fun h2=>have h2p:Vl.n v=(0:Int):=(by simpa using h2);⟨⟨tv,cb (by simp<;>omega),cb (by simp<;>omega),tv⟩,(h2),⟨tv,cb (by simp<;>omega),tv⟩,(h2),(h2),by simp<;>omega,fun h3=>have h3p:¬ByteArray.toList (Vl.s v)=[]:=(by simpa using h3);⟨⟨tv,cb (by simp<;>omega),tv⟩,by show _=_;(unfold chkV Bare;grind)⟩,
  fun h3=>have h3p:ByteArray.toList (Vl.s v)=[]:=(by simpa using h3);⟨fun h4=>have h4p:(256:Int)<(↑(ByteArray.size (Vl.s v)):Int):=(by simpa using h4);⟨⟨tv,cb (by simp<;>omega),tv⟩,by show _=_;(unfold chkV Bare;grind)⟩,
  fun h4=>have h4p:(↑(ByteArray.size (Vl.s v)):Int)≤(256:Int):=(by simpa using h4);⟨(Sp.fact (hv)),fun h5=>have h5p:validU (Vl.s v)=false:=(by simpa using h5);⟨⟨tv,cb (by simp<;>omega),tv⟩,by show _=_;(unfold chkV Bare;grind)⟩,
  fun h5=>have h5p:validU (Vl.s v)=true:=(by simpa using h5);by show _=_;(unfold chkV Bare;grind)⟩⟩⟩,
  fun h2=>have h2p:¬Vl.n v=(0:Int):=(by simpa using h2);⟨(h2),(h2),(h2),by simp<;>omega,by show _=_;(unfold chkV Bare;grind)⟩⟩⟩,
  fun h0=>have h0p:(4:Int)≤Vl.k v:=(by simpa using h0);⟨(h0),(h0),(h0),by simp<;>omega,by show _=_;(unfold chkV Bare;grind)⟩⟩
end Go.Fw
set_option maxHeartbeats 20000000
namespace Go.Fw
open Go.Proofs
abbrev eRow (r:List Vl):V:=.imm false 4 (r.map eV)
abbrev eCols (l:List Cl):V:=.imm false 2 (l.map eC)
abbrev eSteps (l:List Stp):V:=.imm false 3 (l.map eS)
def FineV (v:Vl):Prop:=v.s.size≤2 ^ 47∧0≤v.k∧v.k≤255
theorem checkF_sp (v:Vl) (h:FineV v):Sp C1 19 [eV v] (.int .i64 (chkV v)):=check_sp v h.1 h.2.1
theorem checkF2_sp (v:Vl) (h:FineV v):Sp C1 68 [eV v] (.int .i64 (chkV v)):=check2_sp v h.1 h.2.1
def rowGo:List Vl→List Cl→Int
 | v::r,c::l=>if chkV v≠0 then chkV v else if v.k≠0∧v.k≠c.k then 5 else rowGo r l
 | _,_=>0
def chkRow (r:List Vl) (l:List Cl):Int:=if r.length≠l.length then 3 else rowGo r l
theorem rowGo_at (r:List Vl) (l:List Cl) (i:Nat) (v:Vl) (c:Cl) (hv:r[i]?=some v) (hc:l[i]?=some c):rowGo (r.drop i) (l.drop i)=if chkV v≠0 then chkV v else if v.k≠0∧v.k≠c.k then 5 else rowGo (r.drop (i+1)) (l.drop (i+1)):=by
 obtain ⟨h1,rfl⟩:=List.getElem?_eq_some_iff.1 hv
 obtain ⟨h2,rfl⟩:=List.getElem?_eq_some_iff.1 hc
 rw [List.drop_eq_getElem_cons h1,List.drop_eq_getElem_cons h2]
 rfl
abbrev KR:List (Nat×Fm):=keeps [0,1,13,14,15]
abbrev SR (n:Nat) (r:List Vl) (l:List Cl) (i:Nat):St:=mkSt n [(0,eRow r),(1,eCols l),(13,eRow r),(14,.int .i64 (r.length:Int)),(15,.int .i64 (i:Int))] []
section
variable (r:List Vl) (l:List Cl) (h:r.length=l.length) (hb:r.length≤2 ^ 47) (hf:∀ v∈r,FineV v)
include h hb hf
theorem rowl_ok:∀ k i,i+k=r.length→rowGo (r.drop i) (l.drop i)=0→LoopK C1 25 32 KR (SR 39 r l i) (.exit 0) (mkSt 39 [] [])
 | 0,i,hi,hz=>by
  refine loop_tree draws (rd:=true) (kn:=KR) (ke:=(keeps [])) (
   .rw 8016 [] [(16,Vb (decide ((↑i:Int)<(↑(List.length r):Int))),Vb false)]<|.to 24001 ([.cut 0])<|.ret ((Ex.exit 0,mkSt 39 [] []))) (by kernel_rfl) ?_
  exact ⟨⟨tv,cb (by simp<;>omega),tv⟩,rfl,rfl⟩
 | k+1,i,hi,hz=>by
  have ih0:=rowl_ok k (i+1) (by omega)
  obtain ⟨v,hv⟩:∃ v,r[i]?=some v:=⟨r[i]'(by omega),List.getElem?_eq_getElem (by omega)⟩
  obtain ⟨c,hc⟩:∃ c,l[i]?=some c:=⟨l[i]'(by omega),List.getElem?_eq_getElem (by omega)⟩
  have fv:=hf v (List.mem_of_getElem? hv)
  rw [rowGo_at r l i v c hv hc] at hz
  have h1:chkV v=0:=by
   apply Classical.byContradiction;intro hn;rw [if_pos hn] at hz;exact hn hz
  rw [if_neg (by simp [h1])] at hz
  have h2:v.k=0∨v.k=c.k:=by
   apply Classical.byContradiction;intro hn;rw [if_pos (by omega)] at hz;omega
  rw [if_neg (by omega)] at hz
  have ih:=ih0 hz
  have hsp:=checkF_sp v fv
  rw [h1] at hsp
  rcases h2 with h2 | h2
  ·refine loop_tree draws (rd:=true) (kn:=KR) (ke:=(keeps [])) (
    .rw 8016 [] [(16,Vb (decide ((↑i:Int)<(↑(List.length r):Int))),Vb true)]<|.opt 18 (idx (List.map eV r) (↑i:Int)) (eV v)<|.call 21 (19) ([eV v]) ([]) (Fr (Vi (0:Int)) [])<|.rw 8027 [] [(27,Vb (Vl.k v !=(0:Int)),Vb false)]<|.rw 8038 [] [(38,Vi (IntKind.wrap IntKind.i64 ((↑i:Int)+(1:Int))),Vi (↑(i+1):Int))]<|.to 24000 ([.cut 0])<|.ret (.normal,SR 39 r l (i+1))) (by kernel_rfl) ?_
   exact ⟨⟨tv,cb (by simp<;>omega),tv⟩,(idx_map _ hv),(Sp.fact (hsp)),⟨tv,cb (by simp<;>omega),tv⟩,⟨tv,by simp (disch:=omega) only [cast_succ,wrap_i64],tv⟩,(ih0 hz)⟩
  ·refine loop_tree draws (rd:=true) (kn:=KR) (ke:=(keeps [])) (
    .rw 8016 [] [(16,Vb (decide ((↑i:Int)<(↑(List.length r):Int))),Vb true)]<|.opt 18 (idx (List.map eV r) (↑i:Int)) (eV v)<|.call 21 (19) ([eV v]) ([]) (Fr (Vi (0:Int)) [])<|.ite 1029 ((Vl.k v !=(0:Int))==true)
    (.rw 8029 [] [(27,Vb (Vl.k v !=(0:Int)),Vb true)]<|.tt 1030 ((Vl.k v !=(0:Int))==true)<|.tt 1031 ((Vl.k v !=(0:Int))==true)<|.tt 1032 ((Vl.k v !=(0:Int))==true)<|.tt 1033 ((Vl.k v !=(0:Int))==true)<|.opt 33 (idx (List.map eC l) (↑i:Int)) (eC c)<|.tt 1034 ((Vl.k v !=(0:Int))==true)<|.tt 1035 ((Vl.k v !=(0:Int))==true)<|.tt 1036 ((Vl.k v !=(0:Int))==true)<|.rw 8036 [] [(36,Vb (Vl.k v !=Cl.k c),Vb false)]<|.tt 37 (Vl.k v !=(0:Int))<|.rw 8038 [] [(38,Vi (IntKind.wrap IntKind.i64 ((↑i:Int)+(1:Int))),Vi (↑(i+1):Int))]<|.to 24000 ([.cut 0])<|.ret (.normal,SR 39 r l (i+1)))
    (.ff 1030 ((Vl.k v !=(0:Int))==true)<|.ff 1031 ((Vl.k v !=(0:Int))==true)<|.ff 1032 ((Vl.k v !=(0:Int))==true)<|.ff 1033 ((Vl.k v !=(0:Int))==true)<|.ff 1034 ((Vl.k v !=(0:Int))==true)<|.ff 1035 ((Vl.k v !=(0:Int))==true)<|.ff 1036 ((Vl.k v !=(0:Int))==true)<|.ff 37 (Vl.k v !=(0:Int))<|.rw 8038 [] [(38,Vi (IntKind.wrap IntKind.i64 ((↑i:Int)+(1:Int))),Vi (↑(i+1):Int))]<|.to 24000 ([.cut 0])<|.ret (.normal,SR 39 r l (i+1)))) (by kernel_rfl) ?_
   exact ⟨⟨tv,cb (by simp<;>omega),tv⟩,(idx_map _ hv),(Sp.fact (hsp)),fun h0=>have h0p:¬Vl.k v=(0:Int):=(by simpa using h0);⟨⟨tv,cb (by simp<;>omega),tv⟩,(h0),(h0),(h0),(h0),(idx_map _ hc),(h0),(h0),(h0),⟨tv,cb (by simp<;>omega),tv⟩,by simp<;>omega,⟨tv,by simp (disch:=omega) only [cast_succ,wrap_i64],tv⟩,(ih0 hz)⟩,
    fun h0=>have h0p:Vl.k v=(0:Int):=(by simpa using h0);⟨(h0),(h0),(h0),(h0),(h0),(h0),(h0),by simp<;>omega,⟨tv,by simp (disch:=omega) only [cast_succ,wrap_i64],tv⟩,(ih0 hz)⟩⟩
theorem rowl_bad (e:Int) (he:e≠0):∀ k i,i+k=r.length→rowGo (r.drop i) (l.drop i)=e→LoopK C1 25 32 KR (SR 39 r l i) .ret (mkSt 39 [(4,.int .i64 e)] [])
 | 0,i,hi,hz=>by
  rw [List.drop_eq_nil_of_le (by omega)] at hz
  exact absurd hz.symm he
 | k+1,i,hi,hz=>by
  have ih0:=rowl_bad e he k (i+1) (by omega)
  obtain ⟨v,hv⟩:∃ v,r[i]?=some v:=⟨r[i]'(by omega),List.getElem?_eq_getElem (by omega)⟩
  obtain ⟨c,hc⟩:∃ c,l[i]?=some c:=⟨l[i]'(by omega),List.getElem?_eq_getElem (by omega)⟩
  have fv:=hf v (List.mem_of_getElem? hv)
  rw [rowGo_at r l i v c hv hc] at hz
  have hsp:=checkF_sp v fv
  by_cases h1:chkV v=0
  ·rw [if_neg (by simp [h1])] at hz
   rw [h1] at hsp
   by_cases h2:v.k≠0∧v.k≠c.k
   ·rw [if_pos h2] at hz
    subst hz
    obtain ⟨h3,h4⟩:=h2
    refine loop_tree draws (rd:=true) (kn:=KR) (ke:=(keeps [4])) (
     .rw 8016 [] [(16,Vb (decide ((↑i:Int)<(↑(List.length r):Int))),Vb true)]<|.opt 18 (idx (List.map eV r) (↑i:Int)) (eV v)<|.call 21 (19) ([eV v]) ([]) (Fr (Vi (0:Int)) [])<|.rw 8027 [] [(27,Vb (Vl.k v !=(0:Int)),Vb true)]<|.opt 33 (idx (List.map eC l) (↑i:Int)) (eC c)<|.rw 8036 [] [(36,Vb (Vl.k v !=Cl.k c),Vb true)]<|.to 24001 ([.cut 0])<|.ret ((Ex.ret,mkSt 39 [(4,Vi (5:Int))] []))) (by kernel_rfl) ?_
    exact ⟨⟨tv,cb (by simp<;>omega),tv⟩,(idx_map _ hv),(Sp.fact (hsp)),⟨tv,cb (by simp<;>omega),tv⟩,(idx_map _ hc),⟨tv,cb (by simp<;>omega),tv⟩,rfl,rfl⟩
   ·rw [if_neg h2] at hz
    have ih:=ih0 hz
    have h2:v.k=0∨v.k=c.k:=by omega
    rcases h2 with h2 | h2
    ·refine loop_tree draws (rd:=true) (kn:=KR) (ke:=(keeps [4])) (
      .rw 8016 [] [(16,Vb (decide ((↑i:Int)<(↑(List.length r):Int))),Vb true)]<|.opt 18 (idx (List.map eV r) (↑i:Int)) (eV v)<|.call 21 (19) ([eV v]) ([]) (Fr (Vi (0:Int)) [])<|.rw 8027 [] [(27,Vb (Vl.k v !=(0:Int)),Vb false)]<|.rw 8038 [] [(38,Vi (IntKind.wrap IntKind.i64 ((↑i:Int)+(1:Int))),Vi (↑(i+1):Int))]<|.to 24000 ([.cut 0])<|.ret (.normal,SR 39 r l (i+1))) (by kernel_rfl) ?_
     exact ⟨⟨tv,cb (by simp<;>omega),tv⟩,(idx_map _ hv),(Sp.fact (hsp)),⟨tv,cb (by simp<;>omega),tv⟩,⟨tv,by simp (disch:=omega) only [cast_succ,wrap_i64],tv⟩,(ih0 hz)⟩
    ·refine loop_tree draws (rd:=true) (kn:=KR) (ke:=(keeps [4])) (
      .rw 8016 [] [(16,Vb (decide ((↑i:Int)<(↑(List.length r):Int))),Vb true)]<|.opt 18 (idx (List.map eV r) (↑i:Int)) (eV v)<|.call 21 (19) ([eV v]) ([]) (Fr (Vi (0:Int)) [])<|.ite 1029 ((Vl.k v !=(0:Int))==true)
      (.rw 8029 [] [(27,Vb (Vl.k v !=(0:Int)),Vb true)]<|.tt 1030 ((Vl.k v !=(0:Int))==true)<|.tt 1031 ((Vl.k v !=(0:Int))==true)<|.tt 1032 ((Vl.k v !=(0:Int))==true)<|.tt 1033 ((Vl.k v !=(0:Int))==true)<|.opt 33 (idx (List.map eC l) (↑i:Int)) (eC c)<|.tt 1034 ((Vl.k v !=(0:Int))==true)<|.tt 1035 ((Vl.k v !=(0:Int))==true)<|.tt 1036 ((Vl.k v !=(0:Int))==true)<|.rw 8036 [] [(36,Vb (Vl.k v !=Cl.k c),Vb false)]<|.tt 37 (Vl.k v !=(0:Int))<|.rw 8038 [] [(38,Vi (IntKind.wrap IntKind.i64 ((↑i:Int)+(1:Int))),Vi (↑(i+1):Int))]<|.to 24000 ([.cut 0])<|.ret (.normal,SR 39 r l (i+1)))
      (.ff 1030 ((Vl.k v !=(0:Int))==true)<|.ff 1031 ((Vl.k v !=(0:Int))==true)<|.ff 1032 ((Vl.k v !=(0:Int))==true)<|.ff 1033 ((Vl.k v !=(0:Int))==true)<|.ff 1034 ((Vl.k v !=(0:Int))==true)<|.ff 1035 ((Vl.k v !=(0:Int))==true)<|.ff 1036 ((Vl.k v !=(0:Int))==true)<|.ff 37 (Vl.k v !=(0:Int))<|.rw 8038 [] [(38,Vi (IntKind.wrap IntKind.i64 ((↑i:Int)+(1:Int))),Vi (↑(i+1):Int))]<|.to 24000 ([.cut 0])<|.ret (.normal,SR 39 r l (i+1)))) (by kernel_rfl) ?_
     exact ⟨⟨tv,cb (by simp<;>omega),tv⟩,(idx_map _ hv),(Sp.fact (hsp)),fun h0=>have h0p:¬Vl.k v=(0:Int):=(by simpa using h0);⟨⟨tv,cb (by simp<;>omega),tv⟩,(h0),(h0),(h0),(h0),(idx_map _ hc),(h0),(h0),(h0),⟨tv,cb (by simp<;>omega),tv⟩,by simp<;>omega,⟨tv,by simp (disch:=omega) only [cast_succ,wrap_i64],tv⟩,(ih0 hz)⟩,
      fun h0=>have h0p:Vl.k v=(0:Int):=(by simpa using h0);⟨(h0),(h0),(h0),(h0),(h0),(h0),(h0),by simp<;>omega,⟨tv,by simp (disch:=omega) only [cast_succ,wrap_i64],tv⟩,(ih0 hz)⟩⟩
  ·rw [if_pos h1] at hz
   rw [hz] at hsp
   refine loop_tree draws (rd:=true) (kn:=KR) (ke:=(keeps [4])) (
    .rw 8016 [] [(16,Vb (decide ((↑i:Int)<(↑(List.length r):Int))),Vb true)]<|.opt 18 (idx (List.map eV r) (↑i:Int)) (eV v)<|.call 21 (19) ([eV v]) ([]) (Fr (Vi e) [])<|.rw 8023 [] [(23,Vb (e !=(0:Int)),Vb true)]<|.to 24001 ([.cut 0])<|.ret ((Ex.ret,mkSt 39 [(4,Vi e)] []))) (by kernel_rfl) ?_
   exact ⟨⟨tv,cb (by simp<;>omega),tv⟩,(idx_map _ hv),(Sp.fact (hsp)),⟨tv,cb (by simp<;>omega),tv⟩,rfl,rfl⟩
theorem row_sp:Sp C1 25 [eRow r,eCols l] (.int .i64 (rowGo r l)):=by
 by_cases hz:rowGo r l=0
 ·have hl:=rowl_ok r l h hb hf r.length 0 (by omega) hz
  rw [hz]
  refine sp_tree draws (dm:=[]) (fs:=[]) (
   .rw 8009 [] [(9,Vi (↑(List.length (List.map eV r)):Int),Vi (↑(List.length r):Int))]<|.rw 8011 [] [(11,Vi (↑(List.length (List.map eC l)):Int),Vi (↑(List.length l):Int))]<|.rw 8012 [] [(12,Vb ((↑(List.length r):Int) !=(↑(List.length l):Int)),Vb false)]<|.rw 8014 [] [(14,Vi (↑(List.length (List.map eV r)):Int),Vi (↑(List.length r):Int))]<|.loop 32 false (KR) (SR 39 r l 0) (Ex.exit 0) (mkSt 39 [] [])<|.ret (Fr (Vi (0:Int)) [])) (by kernel_rfl) ?_
  exact ⟨⟨tv,by simp (disch:=omega) only [List.length_map],tv⟩,⟨tv,by simp (disch:=omega) only [List.length_map],tv⟩,⟨tv,cb (by simp<;>omega),tv⟩,⟨tv,by simp (disch:=omega) only [List.length_map],tv⟩,(LoopR.weak (hl)),rfl⟩
 ·have hl:=rowl_bad r l h hb hf (rowGo r l) hz r.length 0 (by omega) rfl
  refine sp_tree draws (dm:=[]) (fs:=[]) (
   .rw 8009 [] [(9,Vi (↑(List.length (List.map eV r)):Int),Vi (↑(List.length r):Int))]<|.rw 8011 [] [(11,Vi (↑(List.length (List.map eC l)):Int),Vi (↑(List.length l):Int))]<|.rw 8012 [] [(12,Vb ((↑(List.length r):Int) !=(↑(List.length l):Int)),Vb false)]<|.rw 8014 [] [(14,Vi (↑(List.length (List.map eV r)):Int),Vi (↑(List.length r):Int))]<|.loop 32 false (KR) (SR 39 r l 0) (Ex.ret) (mkSt 39 [(4,Vi (rowGo r l))] [])<|.ret (Fr (Vi (rowGo r l)) [])) (by kernel_rfl) ?_
  exact ⟨⟨tv,by simp (disch:=omega) only [List.length_map],tv⟩,⟨tv,by simp (disch:=omega) only [List.length_map],tv⟩,⟨tv,cb (by simp<;>omega),tv⟩,⟨tv,by simp (disch:=omega) only [List.length_map],tv⟩,(LoopR.weak (hl)),rfl⟩
end
theorem row_many (r:List Vl) (l:List Cl) (h:r.length≠l.length):Sp C1 25 [eRow r,eCols l] (.int .i64 3):=by
 have h':((r.length:Int)=(l.length:Int))=False:=by simp;omega
 refine sp_tree draws (dm:=[]) (fs:=[]) (
  .rw 8009 [] [(9,Vi (↑(List.length (List.map eV r)):Int),Vi (↑(List.length r):Int))]<|.rw 8011 [] [(11,Vi (↑(List.length (List.map eC l)):Int),Vi (↑(List.length l):Int))]<|.rw 8012 [] [(12,Vb ((↑(List.length r):Int) !=(↑(List.length l):Int)),Vb true)]<|.ret (Fr (Vi (3:Int)) [])) (by kernel_rfl) ?_
 exact ⟨⟨tv,by simp (disch:=omega) only [List.length_map],tv⟩,⟨tv,by simp (disch:=omega) only [List.length_map],tv⟩,⟨tv,cb (by simp<;>omega),tv⟩,rfl⟩
theorem row_all (r:List Vl) (l:List Cl) (hb:r.length≤2 ^ 47) (hf:∀ v∈r,FineV v):Sp C1 25 [eRow r,eCols l] (.int .i64 (chkRow r l)):=by
 unfold chkRow
 by_cases h:r.length=l.length
 ·rw [if_neg (by simp [h])];exact row_sp r l h hb hf
 ·rw [if_pos h];exact row_many r l h
section
variable (r:List Vl) (l:List Cl) (h:r.length=l.length) (hb:r.length≤2 ^ 47) (hf:∀ v∈r,FineV v)
include h hb hf
theorem row2l_ok:∀ k i,i+k=r.length→rowGo (r.drop i) (l.drop i)=0→LoopK C1 28 32 KR (SR 43 r l i) (.exit 0) (mkSt 43 [] [])
 | 0,i,hi,hz=>by
  refine loop_tree draws (rd:=true) (kn:=KR) (ke:=(keeps [])) (
   .rw 8016 [] [(16,Vb (decide ((↑i:Int)<(↑(List.length r):Int))),Vb false)]<|.to 24001 ([.cut 0])<|.ret ((Ex.exit 0,mkSt 43 [] []))) (by kernel_rfl) ?_
  exact ⟨⟨tv,cb (by simp<;>omega),tv⟩,rfl,rfl⟩
 | k+1,i,hi,hz=>by
  have ih0:=row2l_ok k (i+1) (by omega)
  obtain ⟨v,hv⟩:∃ v,r[i]?=some v:=⟨r[i]'(by omega),List.getElem?_eq_getElem (by omega)⟩
  obtain ⟨c,hc⟩:∃ c,l[i]?=some c:=⟨l[i]'(by omega),List.getElem?_eq_getElem (by omega)⟩
  have fv:=hf v (List.mem_of_getElem? hv)
  rw [rowGo_at r l i v c hv hc] at hz
  have h1:chkV v=0:=by
   apply Classical.byContradiction;intro hn;rw [if_pos hn] at hz;exact hn hz
  rw [if_neg (by simp [h1])] at hz
  have h2:v.k=0∨v.k=c.k:=by
   apply Classical.byContradiction;intro hn;rw [if_pos (by omega)] at hz;omega
  rw [if_neg (by omega)] at hz
  have ih:=ih0 hz
  have hsp:=checkF2_sp v fv
  rw [h1] at hsp
  rcases h2 with h2 | h2
  ·refine loop_tree draws (rd:=true) (kn:=KR) (ke:=(keeps [])) (
    .rw 8016 [] [(16,Vb (decide ((↑i:Int)<(↑(List.length r):Int))),Vb true)]<|.opt 18 (idx (List.map eV r) (↑i:Int)) (eV v)<|.call 21 (68) ([eV v]) ([]) (Fr (Vi (0:Int)) [])<|.rw 8027 [] [(27,Vb (Vl.k v !=(0:Int)),Vb false)]<|.rw 8042 [] [(42,Vi (IntKind.wrap IntKind.i64 ((↑i:Int)+(1:Int))),Vi (↑(i+1):Int))]<|.to 24000 ([.cut 0])<|.ret (.normal,SR 43 r l (i+1))) (by kernel_rfl) ?_
   exact ⟨⟨tv,cb (by simp<;>omega),tv⟩,(idx_map _ hv),(Sp.fact (hsp)),⟨tv,cb (by simp<;>omega),tv⟩,⟨tv,by simp (disch:=omega) only [cast_succ,wrap_i64],tv⟩,(ih0 hz)⟩
  ·refine loop_tree draws (rd:=true) (kn:=KR) (ke:=(keeps [])) (
    .rw 8016 [] [(16,Vb (decide ((↑i:Int)<(↑(List.length r):Int))),Vb true)]<|.opt 18 (idx (List.map eV r) (↑i:Int)) (eV v)<|.call 21 (68) ([eV v]) ([]) (Fr (Vi (0:Int)) [])<|.ite 1030 ((Vl.k v !=(0:Int))==true)
    (.rw 8030 [] [(27,Vb (Vl.k v !=(0:Int)),Vb true)]<|.tt 1031 ((Vl.k v !=(0:Int))==true)<|.tt 1032 ((Vl.k v !=(0:Int))==true)<|.tt 1033 ((Vl.k v !=(0:Int))==true)<|.tt 1034 ((Vl.k v !=(0:Int))==true)<|.opt 34 (idx (List.map eC l) (↑i:Int)) (eC c)<|.tt 1035 ((Vl.k v !=(0:Int))==true)<|.tt 1036 ((Vl.k v !=(0:Int))==true)<|.tt 1037 ((Vl.k v !=(0:Int))==true)<|.rw 8037 [] [(37,Vb (Vl.k v !=Cl.k c),Vb false)]<|.tt 38 (Vl.k v !=(0:Int))<|.rw 8042 [] [(42,Vi (IntKind.wrap IntKind.i64 ((↑i:Int)+(1:Int))),Vi (↑(i+1):Int))]<|.to 24000 ([.cut 0])<|.ret (.normal,SR 43 r l (i+1)))
    (.ff 1031 ((Vl.k v !=(0:Int))==true)<|.ff 1032 ((Vl.k v !=(0:Int))==true)<|.ff 1033 ((Vl.k v !=(0:Int))==true)<|.ff 1034 ((Vl.k v !=(0:Int))==true)<|.ff 1035 ((Vl.k v !=(0:Int))==true)<|.ff 1036 ((Vl.k v !=(0:Int))==true)<|.ff 1037 ((Vl.k v !=(0:Int))==true)<|.ff 38 (Vl.k v !=(0:Int))<|.rw 8042 [] [(42,Vi (IntKind.wrap IntKind.i64 ((↑i:Int)+(1:Int))),Vi (↑(i+1):Int))]<|.to 24000 ([.cut 0])<|.ret (.normal,SR 43 r l (i+1)))) (by kernel_rfl) ?_
   exact ⟨⟨tv,cb (by simp<;>omega),tv⟩,(idx_map _ hv),(Sp.fact (hsp)),fun h0=>have h0p:¬Vl.k v=(0:Int):=(by simpa using h0);⟨⟨tv,cb (by simp<;>omega),tv⟩,(h0),(h0),(h0),(h0),(idx_map _ hc),(h0),(h0),(h0),⟨tv,cb (by simp<;>omega),tv⟩,by simp<;>omega,⟨tv,by simp (disch:=omega) only [cast_succ,wrap_i64],tv⟩,(ih0 hz)⟩,
    fun h0=>have h0p:Vl.k v=(0:Int):=(by simpa using h0);⟨(h0),(h0),(h0),(h0),(h0),(h0),(h0),by simp<;>omega,⟨tv,by simp (disch:=omega) only [cast_succ,wrap_i64],tv⟩,(ih0 hz)⟩⟩
theorem row2l_bad (e:Int) (he:e≠0):∀ k i,i+k=r.length→rowGo (r.drop i) (l.drop i)=e→LoopK C1 28 32 KR (SR 43 r l i) .ret (mkSt 43 [(4,.int .i64 e)] [])
 | 0,i,hi,hz=>by
  rw [List.drop_eq_nil_of_le (by omega)] at hz
  exact absurd hz.symm he
 | k+1,i,hi,hz=>by
  have ih0:=row2l_bad e he k (i+1) (by omega)
  obtain ⟨v,hv⟩:∃ v,r[i]?=some v:=⟨r[i]'(by omega),List.getElem?_eq_getElem (by omega)⟩
  obtain ⟨c,hc⟩:∃ c,l[i]?=some c:=⟨l[i]'(by omega),List.getElem?_eq_getElem (by omega)⟩
  have fv:=hf v (List.mem_of_getElem? hv)
  rw [rowGo_at r l i v c hv hc] at hz
  have hsp:=checkF2_sp v fv
  by_cases h1:chkV v=0
  ·rw [if_neg (by simp [h1])] at hz
   rw [h1] at hsp
   by_cases h2:v.k≠0∧v.k≠c.k
   ·rw [if_pos h2] at hz
    subst hz
    obtain ⟨h3,h4⟩:=h2
    refine loop_tree draws (rd:=true) (kn:=KR) (ke:=(keeps [4])) (
     .rw 8016 [] [(16,Vb (decide ((↑i:Int)<(↑(List.length r):Int))),Vb true)]<|.opt 18 (idx (List.map eV r) (↑i:Int)) (eV v)<|.call 21 (68) ([eV v]) ([]) (Fr (Vi (0:Int)) [])<|.rw 8027 [] [(27,Vb (Vl.k v !=(0:Int)),Vb true)]<|.opt 34 (idx (List.map eC l) (↑i:Int)) (eC c)<|.rw 8037 [] [(37,Vb (Vl.k v !=Cl.k c),Vb true)]<|.to 24001 ([.cut 0])<|.ret ((Ex.ret,mkSt 43 [(4,Vi (5:Int))] []))) (by kernel_rfl) ?_
    exact ⟨⟨tv,cb (by simp<;>omega),tv⟩,(idx_map _ hv),(Sp.fact (hsp)),⟨tv,cb (by simp<;>omega),tv⟩,(idx_map _ hc),⟨tv,cb (by simp<;>omega),tv⟩,rfl,rfl⟩
   ·rw [if_neg h2] at hz
    have ih:=ih0 hz
    have h2:v.k=0∨v.k=c.k:=by omega
    rcases h2 with h2 | h2
    ·refine loop_tree draws (rd:=true) (kn:=KR) (ke:=(keeps [4])) (
      .rw 8016 [] [(16,Vb (decide ((↑i:Int)<(↑(List.length r):Int))),Vb true)]<|.opt 18 (idx (List.map eV r) (↑i:Int)) (eV v)<|.call 21 (68) ([eV v]) ([]) (Fr (Vi (0:Int)) [])<|.rw 8027 [] [(27,Vb (Vl.k v !=(0:Int)),Vb false)]<|.rw 8042 [] [(42,Vi (IntKind.wrap IntKind.i64 ((↑i:Int)+(1:Int))),Vi (↑(i+1):Int))]<|.to 24000 ([.cut 0])<|.ret (.normal,SR 43 r l (i+1))) (by kernel_rfl) ?_
     exact ⟨⟨tv,cb (by simp<;>omega),tv⟩,(idx_map _ hv),(Sp.fact (hsp)),⟨tv,cb (by simp<;>omega),tv⟩,⟨tv,by simp (disch:=omega) only [cast_succ,wrap_i64],tv⟩,(ih0 hz)⟩
    ·refine loop_tree draws (rd:=true) (kn:=KR) (ke:=(keeps [4])) (
      .rw 8016 [] [(16,Vb (decide ((↑i:Int)<(↑(List.length r):Int))),Vb true)]<|.opt 18 (idx (List.map eV r) (↑i:Int)) (eV v)<|.call 21 (68) ([eV v]) ([]) (Fr (Vi (0:Int)) [])<|.ite 1030 ((Vl.k v !=(0:Int))==true)
      (.rw 8030 [] [(27,Vb (Vl.k v !=(0:Int)),Vb true)]<|.tt 1031 ((Vl.k v !=(0:Int))==true)<|.tt 1032 ((Vl.k v !=(0:Int))==true)<|.tt 1033 ((Vl.k v !=(0:Int))==true)<|.tt 1034 ((Vl.k v !=(0:Int))==true)<|.opt 34 (idx (List.map eC l) (↑i:Int)) (eC c)<|.tt 1035 ((Vl.k v !=(0:Int))==true)<|.tt 1036 ((Vl.k v !=(0:Int))==true)<|.tt 1037 ((Vl.k v !=(0:Int))==true)<|.rw 8037 [] [(37,Vb (Vl.k v !=Cl.k c),Vb false)]<|.tt 38 (Vl.k v !=(0:Int))<|.rw 8042 [] [(42,Vi (IntKind.wrap IntKind.i64 ((↑i:Int)+(1:Int))),Vi (↑(i+1):Int))]<|.to 24000 ([.cut 0])<|.ret (.normal,SR 43 r l (i+1)))
      (.ff 1031 ((Vl.k v !=(0:Int))==true)<|.ff 1032 ((Vl.k v !=(0:Int))==true)<|.ff 1033 ((Vl.k v !=(0:Int))==true)<|.ff 1034 ((Vl.k v !=(0:Int))==true)<|.ff 1035 ((Vl.k v !=(0:Int))==true)<|.ff 1036 ((Vl.k v !=(0:Int))==true)<|.ff 1037 ((Vl.k v !=(0:Int))==true)<|.ff 38 (Vl.k v !=(0:Int))<|.rw 8042 [] [(42,Vi (IntKind.wrap IntKind.i64 ((↑i:Int)+(1:Int))),Vi (↑(i+1):Int))]<|.to 24000 ([.cut 0])<|.ret (.normal,SR 43 r l (i+1)))) (by kernel_rfl) ?_
     exact ⟨⟨tv,cb (by simp<;>omega),tv⟩,(idx_map _ hv),(Sp.fact (hsp)),fun h0=>have h0p:¬Vl.k v=(0:Int):=(by simpa using h0);⟨⟨tv,cb (by simp<;>omega),tv⟩,(h0),(h0),(h0),(h0),(idx_map _ hc),(h0),(h0),(h0),⟨tv,cb (by simp<;>omega),tv⟩,by simp<;>omega,⟨tv,by simp (disch:=omega) only [cast_succ,wrap_i64],tv⟩,(ih0 hz)⟩,
      fun h0=>have h0p:Vl.k v=(0:Int):=(by simpa using h0);⟨(h0),(h0),(h0),(h0),(h0),(h0),(h0),by simp<;>omega,⟨tv,by simp (disch:=omega) only [cast_succ,wrap_i64],tv⟩,(ih0 hz)⟩⟩
  ·rw [if_pos h1] at hz
   rw [hz] at hsp
   refine loop_tree draws (rd:=true) (kn:=KR) (ke:=(keeps [4])) (
    .rw 8016 [] [(16,Vb (decide ((↑i:Int)<(↑(List.length r):Int))),Vb true)]<|.opt 18 (idx (List.map eV r) (↑i:Int)) (eV v)<|.call 21 (68) ([eV v]) ([]) (Fr (Vi e) [])<|.rw 8023 [] [(23,Vb (e==(0:Int)),Vb false)]<|.rw 8040 [] [(40,Vb (e !=(0:Int)),Vb true)]<|.to 24001 ([.cut 0])<|.ret ((Ex.ret,mkSt 43 [(4,Vi e)] []))) (by kernel_rfl) ?_
   exact ⟨⟨tv,cb (by simp<;>omega),tv⟩,(idx_map _ hv),(Sp.fact (hsp)),⟨tv,cb (by simp<;>omega),tv⟩,⟨tv,cb (by simp<;>omega),tv⟩,rfl,rfl⟩
theorem row2_sp:Sp C1 28 [eRow r,eCols l] (.int .i64 (rowGo r l)):=by
 by_cases hz:rowGo r l=0
 ·have hl:=row2l_ok r l h hb hf r.length 0 (by omega) hz
  rw [hz]
  refine sp_tree draws (dm:=[]) (fs:=[]) (
   .rw 8009 [] [(9,Vi (↑(List.length (List.map eV r)):Int),Vi (↑(List.length r):Int))]<|.rw 8011 [] [(11,Vi (↑(List.length (List.map eC l)):Int),Vi (↑(List.length l):Int))]<|.rw 8012 [] [(12,Vb ((↑(List.length r):Int) !=(↑(List.length l):Int)),Vb false)]<|.rw 8014 [] [(14,Vi (↑(List.length (List.map eV r)):Int),Vi (↑(List.length r):Int))]<|.loop 32 false (KR) (SR 43 r l 0) (Ex.exit 0) (mkSt 43 [] [])<|.ret (Fr (Vi (0:Int)) [])) (by kernel_rfl) ?_
  exact ⟨⟨tv,by simp (disch:=omega) only [List.length_map],tv⟩,⟨tv,by simp (disch:=omega) only [List.length_map],tv⟩,⟨tv,cb (by simp<;>omega),tv⟩,⟨tv,by simp (disch:=omega) only [List.length_map],tv⟩,(LoopR.weak (hl)),rfl⟩
 ·have hl:=row2l_bad r l h hb hf (rowGo r l) hz r.length 0 (by omega) rfl
  refine sp_tree draws (dm:=[]) (fs:=[]) (
   .rw 8009 [] [(9,Vi (↑(List.length (List.map eV r)):Int),Vi (↑(List.length r):Int))]<|.rw 8011 [] [(11,Vi (↑(List.length (List.map eC l)):Int),Vi (↑(List.length l):Int))]<|.rw 8012 [] [(12,Vb ((↑(List.length r):Int) !=(↑(List.length l):Int)),Vb false)]<|.rw 8014 [] [(14,Vi (↑(List.length (List.map eV r)):Int),Vi (↑(List.length r):Int))]<|.loop 32 false (KR) (SR 43 r l 0) (Ex.ret) (mkSt 43 [(4,Vi (rowGo r l))] [])<|.ret (Fr (Vi (rowGo r l)) [])) (by kernel_rfl) ?_
  exact ⟨⟨tv,by simp (disch:=omega) only [List.length_map],tv⟩,⟨tv,by simp (disch:=omega) only [List.length_map],tv⟩,⟨tv,cb (by simp<;>omega),tv⟩,⟨tv,by simp (disch:=omega) only [List.length_map],tv⟩,(LoopR.weak (hl)),rfl⟩
end
theorem row2_many (r:List Vl) (l:List Cl) (h:r.length≠l.length):Sp C1 28 [eRow r,eCols l] (.int .i64 3):=by
 have h':((r.length:Int)=(l.length:Int))=False:=by simp;omega
 refine sp_tree draws (dm:=[]) (fs:=[]) (
  .rw 8009 [] [(9,Vi (↑(List.length (List.map eV r)):Int),Vi (↑(List.length r):Int))]<|.rw 8011 [] [(11,Vi (↑(List.length (List.map eC l)):Int),Vi (↑(List.length l):Int))]<|.rw 8012 [] [(12,Vb ((↑(List.length r):Int) !=(↑(List.length l):Int)),Vb true)]<|.ret (Fr (Vi (3:Int)) [])) (by kernel_rfl) ?_
 exact ⟨⟨tv,by simp (disch:=omega) only [List.length_map],tv⟩,⟨tv,by simp (disch:=omega) only [List.length_map],tv⟩,⟨tv,cb (by simp<;>omega),tv⟩,rfl⟩
theorem row2_all (r:List Vl) (l:List Cl) (hb:r.length≤2 ^ 47) (hf:∀ v∈r,FineV v):Sp C1 28 [eRow r,eCols l] (.int .i64 (chkRow r l)):=by
 unfold chkRow
 by_cases h:r.length=l.length
 ·rw [if_neg (by simp [h])];exact row2_sp r l h hb hf
 ·rw [if_pos h];exact row2_many r l h
end Go.Fw
set_option maxHeartbeats 20000000
namespace Go.Fw
open Go.Proofs
def FineS (s:Stp):Prop:=s.t.size≤2 ^ 47∧0≤s.k∧s.k≤255
def TkOk (s:Stp):Prop:=1≤s.k∧s.k<22∧(s.k=5∨s.t.toList=[])∧(s.k=4∨s.n=0)∧(s.k=5→s.t.size≤256∧validU s.t=true)
instance (s:Stp):Decidable (TkOk s):=by unfold TkOk;infer_instance
def tkOk (s:Stp):Bool:=decide (TkOk s)
def tkN (s:Stp):Int:=if ¬TkOk s then 0 else if s.k<7 then 0 else if s.k≤10 then 1 else 2
theorem takes_sp (s:Stp) (hs:FineS s) (h6:s.k≠6):Sp C1 63 [eS s] (.tup [.int .i64 (tkN s),.bool (tkOk s)]):=by
 have hv:=valid_sp s.t (by have:=hs.1;omega)
 obtain ⟨h1,h2,h3⟩:=hs
 refine sp_tree draws (dm:=[]) (fs:=[]) (
  .ite 1009 ((ByteArray.toList (Stp.t s)==[])==true)
  (.rw 8009 [] [(7,Vb (ByteArray.toList (Stp.t s)==[]),Vb true)]<|.tt 1010 ((ByteArray.toList (Stp.t s)==[])==true)<|.tt 1011 ((ByteArray.toList (Stp.t s)==[])==true)<|.tt 12 (ByteArray.toList (Stp.t s)==[])<|.ite 2015 (Stp.k s==(1:Int))
  (.tt 2015 (Stp.k s==(1:Int))<|.rw 8019 [] [(8,Vb (ByteArray.toList (Stp.t s)==[]),Vb true),(15,Vb (Stp.k s==(1:Int)),Vb true)]<|.ret (Fr (V.tup [Vi (0:Int),Vb (Stp.n s==(0:Int))]) []))
  (.ite 2015 (Stp.k s==(2:Int))
  (.tt 2015 (Stp.k s==(2:Int))<|.rw 8019 [] [(8,Vb (ByteArray.toList (Stp.t s)==[]),Vb true),(15,Vb (Stp.k s==(2:Int)),Vb true),(16,Vb (Stp.k s==(1:Int)),Vb false)]<|.ret (Fr (V.tup [Vi (0:Int),Vb (Stp.n s==(0:Int))]) []))
  (.ite 2015 (Stp.k s==(3:Int))
  (.rw 8019 [] [(8,Vb (ByteArray.toList (Stp.t s)==[]),Vb true),(15,Vb (Stp.k s==(3:Int)),Vb true),(16,Vb (Stp.k s==(1:Int)),Vb false),(17,Vb (Stp.k s==(2:Int)),Vb false)]<|.ret (Fr (V.tup [Vi (0:Int),Vb (Stp.n s==(0:Int))]) []))
  (.ite 2020 (Stp.k s==(4:Int))
  (.rw 8022 [] [(8,Vb (ByteArray.toList (Stp.t s)==[]),Vb true),(15,Vb (Stp.k s==(3:Int)),Vb false),(16,Vb (Stp.k s==(1:Int)),Vb false),(17,Vb (Stp.k s==(2:Int)),Vb false),(20,Vb (Stp.k s==(4:Int)),Vb true)]<|.ret (Fr (V.tup [Vi (0:Int),Vb (ByteArray.toList (Stp.t s)==[])]) []))
  (.ite 2025 (Stp.k s==(5:Int))
  (.rw 8027 [] [(8,Vb (ByteArray.toList (Stp.t s)==[]),Vb true),(15,Vb (Stp.k s==(3:Int)),Vb false),(16,Vb (Stp.k s==(1:Int)),Vb false),(17,Vb (Stp.k s==(2:Int)),Vb false),(20,Vb (Stp.k s==(4:Int)),Vb false),(25,Vb (Stp.k s==(5:Int)),Vb true)]<|.ite 1031 ((Stp.n s==(0:Int))==true)
  (.rw 8031 [] [(4,Vb (Stp.n s==(0:Int)),Vb true),(18,Vb (Stp.k s==(3:Int)),Vb false),(21,Vb (Stp.k s==(4:Int)),Vb false),(26,Vb (Stp.k s==(5:Int)),Vb true)]<|.tt 1032 ((Stp.n s==(0:Int))==true)<|.tt 1033 ((Stp.n s==(0:Int))==true)<|.tt 1034 ((Stp.n s==(0:Int))==true)<|.tt 35 (Stp.n s==(0:Int))<|.ite 1037 (decide ((↑(ByteArray.size (Stp.t s)):Int)≤(256:Int))==true)
  (.rw 8037 [] [(11,Vb (Stp.n s==(0:Int)),Vb true),(34,Vb (decide ((↑(ByteArray.size (Stp.t s)):Int)≤(256:Int))),Vb true)]<|.tt 1038 (decide ((↑(ByteArray.size (Stp.t s)):Int)≤(256:Int))==true)<|.tt 1039 (decide ((↑(ByteArray.size (Stp.t s)):Int)≤(256:Int))==true)<|.call 39 (51) ([V.str (Stp.t s)]) ([]) (Fr (Vb (validU (Stp.t s))) [])<|.tt 40 (decide ((↑(ByteArray.size (Stp.t s)):Int)≤(256:Int)))<|.ret (Fr (V.tup [Vi (0:Int),Vb (validU (Stp.t s))]) []))
  (.ff 1038 (decide ((↑(ByteArray.size (Stp.t s)):Int)≤(256:Int))==true)<|.ff 1039 (decide ((↑(ByteArray.size (Stp.t s)):Int)≤(256:Int))==true)<|.ff 40 (decide ((↑(ByteArray.size (Stp.t s)):Int)≤(256:Int)))<|.ret (Fr (V.tup [Vi (0:Int),Vb false]) [])))
  (.ff 1032 ((Stp.n s==(0:Int))==true)<|.ff 1033 ((Stp.n s==(0:Int))==true)<|.ff 1034 ((Stp.n s==(0:Int))==true)<|.ff 35 (Stp.n s==(0:Int))<|.ret (Fr (V.tup [Vi (0:Int),Vb false]) [])))
  (.rw 8042 [] [(42,Vb (Stp.k s==(6:Int)),Vb false)]<|.ite 1056 ((Stp.k s==(0:Int))==false)
  (.rw 8056 [] [(8,Vb (ByteArray.toList (Stp.t s)==[]),Vb true),(16,Vb (Stp.k s==(1:Int)),Vb false),(17,Vb (Stp.k s==(2:Int)),Vb false),(54,Vb (Stp.k s==(0:Int)),Vb false)]<|.tt 1057 ((Stp.k s==(0:Int))==false)<|.tt 1058 ((Stp.k s==(0:Int))==false)<|.ff 59 (Stp.k s==(0:Int))<|.ite 1061 (decide (Stp.k s ≥ (22:Int))==false)
  (.rw 8061 [] [(15,Vb (Stp.k s==(3:Int)),Vb false),(20,Vb (Stp.k s==(4:Int)),Vb false),(25,Vb (Stp.k s==(5:Int)),Vb false),(55,Vb (Stp.k s==(0:Int)),Vb false),(58,Vb (decide (Stp.k s ≥ (22:Int))),Vb false)]<|.tt 1062 (decide (Stp.k s ≥ (22:Int))==false)<|.ff 63 (decide (Stp.k s ≥ (22:Int)))<|.ite 2051 (!Stp.n s==(0:Int))
  (.rw 8002 [] [(4,Vb (Stp.n s==(0:Int)),Vb false),(18,Vb (Stp.k s==(3:Int)),Vb false),(21,Vb (Stp.k s==(4:Int)),Vb false),(26,Vb (Stp.k s==(5:Int)),Vb false),(51,Vb !Stp.n s==(0:Int),Vb true),(59,Vb (decide (Stp.k s ≥ (22:Int))),Vb false)]<|.ret (Fr (V.tup [Vi (0:Int),Vb false]) []))
  (.ite 2064 (decide (Stp.k s≤(10:Int)))
  (.rw 8002 [] [(4,Vb (Stp.n s==(0:Int)),Vb true),(18,Vb (Stp.k s==(3:Int)),Vb false),(21,Vb (Stp.k s==(4:Int)),Vb false),(26,Vb (Stp.k s==(5:Int)),Vb false),(51,Vb !Stp.n s==(0:Int),Vb false),(59,Vb (decide (Stp.k s ≥ (22:Int))),Vb false),(64,Vb (decide (Stp.k s≤(10:Int))),Vb true)]<|.ret (Fr (V.tup [Vi (1:Int),Vb true]) []))
  (.ret (Fr (V.tup [Vi (2:Int),Vb true]) []))))
  (.ff 1062 (decide (Stp.k s ≥ (22:Int))==false)<|.tt 63 (decide (Stp.k s ≥ (22:Int)))<|.ret (Fr (V.tup [Vi (0:Int),Vb false]) [])))
  (.ff 1057 ((Stp.k s==(0:Int))==false)<|.ff 1058 ((Stp.k s==(0:Int))==false)<|.tt 59 (Stp.k s==(0:Int))<|.ret (Fr (V.tup [Vi (0:Int),Vb false]) []))))))))
  (.ff 1010 ((ByteArray.toList (Stp.t s)==[])==true)<|.ff 1011 ((ByteArray.toList (Stp.t s)==[])==true)<|.ff 12 (ByteArray.toList (Stp.t s)==[])<|.ite 2015 (Stp.k s==(1:Int))
  (.tt 2015 (Stp.k s==(1:Int))<|.ret (Fr (V.tup [Vi (0:Int),Vb false]) []))
  (.ite 2015 (Stp.k s==(2:Int))
  (.tt 2015 (Stp.k s==(2:Int))<|.ret (Fr (V.tup [Vi (0:Int),Vb false]) []))
  (.ite 2015 (Stp.k s==(3:Int))
  (.ret (Fr (V.tup [Vi (0:Int),Vb false]) []))
  (.ite 2020 (Stp.k s==(4:Int))
  (.ret (Fr (V.tup [Vi (0:Int),Vb (ByteArray.toList (Stp.t s)==[])]) []))
  (.ite 2025 (Stp.k s==(5:Int))
  (.ite 1031 ((Stp.n s==(0:Int))==true)
  (.tt 1032 ((Stp.n s==(0:Int))==true)<|.tt 1033 ((Stp.n s==(0:Int))==true)<|.tt 1034 ((Stp.n s==(0:Int))==true)<|.tt 35 (Stp.n s==(0:Int))<|.ite 1037 (decide ((↑(ByteArray.size (Stp.t s)):Int)≤(256:Int))==true)
  (.rw 8037 [] [(7,Vb (ByteArray.toList (Stp.t s)==[]),Vb false),(16,Vb (Stp.k s==(1:Int)),Vb false),(17,Vb (Stp.k s==(2:Int)),Vb false)]<|.tt 1038 (decide ((↑(ByteArray.size (Stp.t s)):Int)≤(256:Int))==true)<|.tt 1039 (decide ((↑(ByteArray.size (Stp.t s)):Int)≤(256:Int))==true)<|.call 39 (51) ([V.str (Stp.t s)]) ([]) (Fr (Vb (validU (Stp.t s))) [])<|.tt 40 (decide ((↑(ByteArray.size (Stp.t s)):Int)≤(256:Int)))<|.ret (Fr (V.tup [Vi (0:Int),Vb (validU (Stp.t s))]) []))
  (.ff 1038 (decide ((↑(ByteArray.size (Stp.t s)):Int)≤(256:Int))==true)<|.ff 1039 (decide ((↑(ByteArray.size (Stp.t s)):Int)≤(256:Int))==true)<|.ff 40 (decide ((↑(ByteArray.size (Stp.t s)):Int)≤(256:Int)))<|.ret (Fr (V.tup [Vi (0:Int),Vb false]) [])))
  (.ff 1032 ((Stp.n s==(0:Int))==true)<|.ff 1033 ((Stp.n s==(0:Int))==true)<|.ff 1034 ((Stp.n s==(0:Int))==true)<|.ff 35 (Stp.n s==(0:Int))<|.ret (Fr (V.tup [Vi (0:Int),Vb false]) [])))
  (.ff 2041 (Stp.k s==(6:Int))<|.ite 1056 ((Stp.k s==(0:Int))==false)
  (.rw 8056 [] [(41,Vb (Stp.k s==(6:Int)),Vb false)]<|.tt 1057 ((Stp.k s==(0:Int))==false)<|.tt 1058 ((Stp.k s==(0:Int))==false)<|.ff 59 (Stp.k s==(0:Int))<|.ite 1061 (decide (Stp.k s ≥ (22:Int))==false)
  (.rw 8061 [] [(42,Vb (Stp.k s==(6:Int)),Vb false)]<|.tt 1062 (decide (Stp.k s ≥ (22:Int))==false)<|.ff 63 (decide (Stp.k s ≥ (22:Int)))<|.ret (Fr (V.tup [Vi (0:Int),Vb false]) []))
  (.ff 1062 (decide (Stp.k s ≥ (22:Int))==false)<|.tt 63 (decide (Stp.k s ≥ (22:Int)))<|.ret (Fr (V.tup [Vi (0:Int),Vb false]) [])))
  (.ff 1057 ((Stp.k s==(0:Int))==false)<|.ff 1058 ((Stp.k s==(0:Int))==false)<|.tt 59 (Stp.k s==(0:Int))<|.ret (Fr (V.tup [Vi (0:Int),Vb false]) []))))))))) (by kernel_rfl) ?_
 exact ⟨fun h0=>have h0p:ByteArray.toList (Stp.t s)=[]:=(by simpa using h0);⟨⟨tv,cb (by simp<;>omega),tv⟩,(h0),(h0),by simp<;>omega,fun h1=>have h1p:Stp.k s=(1:Int):=(by simpa using h1);⟨(h1),⟨tv,cb (by simp<;>omega),cb (h1),tv⟩,by show _=_;(unfold tkN tkOk TkOk;grind)⟩,
  fun h1=>have h1p:¬Stp.k s=(1:Int):=(by simpa using h1);⟨fun h2=>have h2p:Stp.k s=(2:Int):=(by simpa using h2);⟨(h2),⟨tv,cb (by simp<;>omega),cb (h2),cb (h1),tv⟩,by show _=_;(unfold tkN tkOk TkOk;grind)⟩,
  fun h2=>have h2p:¬Stp.k s=(2:Int):=(by simpa using h2);⟨fun h3=>have h3p:Stp.k s=(3:Int):=(by simpa using h3);⟨⟨tv,cb (by simp<;>omega),cb (h3),cb (h1),cb (h2),tv⟩,by show _=_;(unfold tkN tkOk TkOk;grind)⟩,
  fun h3=>have h3p:¬Stp.k s=(3:Int):=(by simpa using h3);⟨fun h4=>have h4p:Stp.k s=(4:Int):=(by simpa using h4);⟨⟨tv,cb (by simp<;>omega),cb (h3),cb (h1),cb (h2),cb (h4),tv⟩,by show _=_;(unfold tkN tkOk TkOk;grind)⟩,
  fun h4=>have h4p:¬Stp.k s=(4:Int):=(by simpa using h4);⟨fun h5=>have h5p:Stp.k s=(5:Int):=(by simpa using h5);⟨⟨tv,cb (by simp<;>omega),cb (h3),cb (h1),cb (h2),cb (h4),cb (h5),tv⟩,fun h6=>have h6p:Stp.n s=(0:Int):=(by simpa using h6);⟨⟨tv,cb (by simp<;>omega),cb (h3),cb (h4),cb (h5),tv⟩,(h6),(h6),(h6),by simp<;>omega,fun h7=>have h7p:(↑(ByteArray.size (Stp.t s)):Int)≤(256:Int):=(by simpa using h7);⟨⟨tv,cb (by simp<;>omega),cb (by simp<;>omega),tv⟩,(h7),(h7),(Sp.fact (hv)),by simp<;>omega,by show _=_;(unfold tkN tkOk TkOk;grind)⟩,
  fun h7=>have h7p:(256:Int)<(↑(ByteArray.size (Stp.t s)):Int):=(by simpa using h7);⟨(h7),(h7),by simp<;>omega,by show _=_;(unfold tkN tkOk TkOk;grind)⟩⟩,
  fun h6=>have h6p:¬Stp.n s=(0:Int):=(by simpa using h6);⟨(h6),(h6),(h6),by simp<;>omega,by show _=_;(unfold tkN tkOk TkOk;grind)⟩⟩,
  fun h5=>have h5p:¬Stp.k s=(5:Int):=(by simpa using h5);⟨⟨tv,cb (by simp<;>omega),tv⟩,fun h6=>have h6p:¬Stp.k s=(0:Int):=(by simpa using h6);⟨⟨tv,cb (by simp<;>omega),cb (h1),cb (h2),cb (by simp<;>omega),tv⟩,(h6),(h6),by simp<;>omega,fun h7=>have h7p:Stp.k s<(22:Int):=(by simpa using h7);⟨⟨tv,cb (h3),cb (h4),cb (h5),cb (by simp<;>omega),cb (by simp<;>omega),tv⟩,(h7),by simp<;>omega,fun h8=>have h8p:¬Stp.n s=(0:Int):=(by simpa using h8);⟨⟨tv,cb (by simp<;>omega),cb (h3),cb (h4),cb (h5),cb (h8),cb (by simp<;>omega),tv⟩,by show _=_;(unfold tkN tkOk TkOk;grind)⟩,
  fun h8=>have h8p:Stp.n s=(0:Int):=(by simpa using h8);⟨fun h9=>have h9p:Stp.k s≤(10:Int):=(by simpa using h9);⟨⟨tv,cb (by simp<;>omega),cb (h3),cb (h4),cb (h5),cb (h8),cb (by simp<;>omega),cb (h9),tv⟩,by show _=_;(unfold tkN tkOk TkOk;grind)⟩,
  fun h9=>have h9p:(10:Int)<Stp.k s:=(by simpa using h9);by show _=_;(unfold tkN tkOk TkOk;grind)⟩⟩,
  fun h7=>have h7p:(22:Int)≤Stp.k s:=(by simpa using h7);⟨(h7),by simp<;>omega,by show _=_;(unfold tkN tkOk TkOk;grind)⟩⟩,
  fun h6=>have h6p:Stp.k s=(0:Int):=(by simpa using h6);⟨(h6),(h6),by simp<;>omega,by show _=_;(unfold tkN tkOk TkOk;grind)⟩⟩⟩⟩⟩⟩⟩,
  fun h0=>have h0p:¬ByteArray.toList (Stp.t s)=[]:=(by simpa using h0);⟨(h0),(h0),by simp<;>omega,fun h1=>have h1p:Stp.k s=(1:Int):=(by simpa using h1);⟨(h1),by show _=_;(unfold tkN tkOk TkOk;grind)⟩,
  fun h1=>have h1p:¬Stp.k s=(1:Int):=(by simpa using h1);⟨fun h2=>have h2p:Stp.k s=(2:Int):=(by simpa using h2);⟨(h2),by show _=_;(unfold tkN tkOk TkOk;grind)⟩,
  fun h2=>have h2p:¬Stp.k s=(2:Int):=(by simpa using h2);⟨fun h3=>have h3p:Stp.k s=(3:Int):=(by simpa using h3);by show _=_;(unfold tkN tkOk TkOk;grind),
  fun h3=>have h3p:¬Stp.k s=(3:Int):=(by simpa using h3);⟨fun h4=>have h4p:Stp.k s=(4:Int):=(by simpa using h4);by show _=_;(unfold tkN tkOk TkOk;grind),
  fun h4=>have h4p:¬Stp.k s=(4:Int):=(by simpa using h4);⟨fun h5=>have h5p:Stp.k s=(5:Int):=(by simpa using h5);⟨fun h6=>have h6p:Stp.n s=(0:Int):=(by simpa using h6);⟨(h6),(h6),(h6),by simp<;>omega,fun h7=>have h7p:(↑(ByteArray.size (Stp.t s)):Int)≤(256:Int):=(by simpa using h7);⟨⟨tv,cb (by simp<;>omega),cb (h1),cb (h2),tv⟩,(h7),(h7),(Sp.fact (hv)),by simp<;>omega,by show _=_;(unfold tkN tkOk TkOk;grind)⟩,
  fun h7=>have h7p:(256:Int)<(↑(ByteArray.size (Stp.t s)):Int):=(by simpa using h7);⟨(h7),(h7),by simp<;>omega,by show _=_;(unfold tkN tkOk TkOk;grind)⟩⟩,
  fun h6=>have h6p:¬Stp.n s=(0:Int):=(by simpa using h6);⟨(h6),(h6),(h6),by simp<;>omega,by show _=_;(unfold tkN tkOk TkOk;grind)⟩⟩,
  fun h5=>have h5p:¬Stp.k s=(5:Int):=(by simpa using h5);⟨by simp<;>omega,fun h6=>have h6p:¬Stp.k s=(0:Int):=(by simpa using h6);⟨⟨tv,cb (by simp<;>omega),tv⟩,(h6),(h6),by simp<;>omega,fun h7=>have h7p:Stp.k s<(22:Int):=(by simpa using h7);⟨⟨tv,cb (by simp<;>omega),tv⟩,(h7),by simp<;>omega,by show _=_;(unfold tkN tkOk TkOk;grind)⟩,
  fun h7=>have h7p:(22:Int)≤Stp.k s:=(by simpa using h7);⟨(h7),by simp<;>omega,by show _=_;(unfold tkN tkOk TkOk;grind)⟩⟩,
  fun h6=>have h6p:Stp.k s=(0:Int):=(by simpa using h6);⟨(h6),(h6),by simp<;>omega,by show _=_;(unfold tkN tkOk TkOk;grind)⟩⟩⟩⟩⟩⟩⟩⟩
theorem takes2_sp (s:Stp) (hs:FineS s) (h6:s.k≠6):Sp C1 66 [eS s] (.tup [.int .i64 (tkN s),.bool (tkOk s)]):=by
 have hv:=utf_sp s.t (by have:=hs.1;omega)
 obtain ⟨h1,h2,h3⟩:=hs
 refine sp_tree draws (dm:=[]) (fs:=[]) (
  .ite 1010 (decide (Stp.k s<(1:Int))==false)
  (.rw 8010 [] [(8,Vb (decide (Stp.k s<(1:Int))),Vb false)]<|.tt 1011 (decide (Stp.k s<(1:Int))==false)<|.ff 12 (decide (Stp.k s<(1:Int)))<|.ite 1014 (decide (Stp.k s ≥ (22:Int))==false)
  (.rw 8014 [] [(9,Vb (decide (Stp.k s<(1:Int))),Vb false),(11,Vb (decide (Stp.k s ≥ (22:Int))),Vb false)]<|.tt 1015 (decide (Stp.k s ≥ (22:Int))==false)<|.tt 1016 (decide (Stp.k s ≥ (22:Int))==false)<|.ite 1017 ((Stp.k s !=(5:Int))==true)
  (.rw 8017 [] [(12,Vb (decide (Stp.k s ≥ (22:Int))),Vb false),(15,Vb (Stp.k s !=(5:Int)),Vb true)]<|.tt 1018 ((Stp.k s !=(5:Int))==true)<|.rw 8018 [] [(18,Vb (Stp.k s !=(6:Int)),Vb true)]<|.tt 1019 (decide (Stp.k s ≥ (22:Int))==false)<|.tt 19 (Stp.k s !=(5:Int))<|.tt 1020 (decide (Stp.k s ≥ (22:Int))==false)<|.tt 1024 (decide (Stp.k s ≥ (22:Int))==false)<|.ff 25 (decide (Stp.k s ≥ (22:Int)))<|.ite 1027 ((!ByteArray.toList (Stp.t s)==[])==false)
  (.rw 8027 [] [(13,Vb (decide (Stp.k s ≥ (22:Int))),Vb false),(16,Vb (Stp.k s !=(5:Int)),Vb true),(23,Vb !ByteArray.toList (Stp.t s)==[],Vb false)]<|.tt 1028 ((!ByteArray.toList (Stp.t s)==[])==false)<|.tt 1029 ((!ByteArray.toList (Stp.t s)==[])==false)<|.ite 1030 ((Stp.k s !=(4:Int))==true)
  (.rw 8030 [] [(24,Vb !ByteArray.toList (Stp.t s)==[],Vb false),(28,Vb (Stp.k s !=(4:Int)),Vb true)]<|.tt 1031 ((Stp.k s !=(4:Int))==true)<|.tt 1032 ((Stp.k s !=(4:Int))==true)<|.tt 1033 ((!ByteArray.toList (Stp.t s)==[])==false)<|.tt 33 (Stp.k s !=(4:Int))<|.ff 34 (!ByteArray.toList (Stp.t s)==[])<|.ite 2034 (Stp.n s !=(0:Int))
  (.rw 8002 [] [(25,Vb !ByteArray.toList (Stp.t s)==[],Vb false),(29,Vb (Stp.k s !=(4:Int)),Vb true),(32,Vb (Stp.n s !=(0:Int)),Vb true)]<|.ret (Fr (V.tup [Vi (0:Int),Vb false]) []))
  (.rw 8037 [] [(37,Vb (Stp.k s==(5:Int)),Vb false)]<|.rw 8049 [] [(49,Vb (Stp.k s==(6:Int)),Vb false)]<|.ite 2053 (decide (Stp.k s<(7:Int)))
  (.rw 8002 [] [(25,Vb !ByteArray.toList (Stp.t s)==[],Vb false),(29,Vb (Stp.k s !=(4:Int)),Vb true),(32,Vb (Stp.n s !=(0:Int)),Vb false),(53,Vb (decide (Stp.k s<(7:Int))),Vb true)]<|.ret (Fr (V.tup [Vi (0:Int),Vb true]) []))
  (.ite 2056 (decide (Stp.k s≤(10:Int)))
  (.rw 8002 [] [(25,Vb !ByteArray.toList (Stp.t s)==[],Vb false),(29,Vb (Stp.k s !=(4:Int)),Vb true),(32,Vb (Stp.n s !=(0:Int)),Vb false),(53,Vb (decide (Stp.k s<(7:Int))),Vb false),(56,Vb (decide (Stp.k s≤(10:Int))),Vb true)]<|.ret (Fr (V.tup [Vi (1:Int),Vb true]) []))
  (.ret (Fr (V.tup [Vi (2:Int),Vb true]) [])))))
  (.ff 1031 ((Stp.k s !=(4:Int))==true)<|.ff 1032 ((Stp.k s !=(4:Int))==true)<|.tt 1033 ((!ByteArray.toList (Stp.t s)==[])==false)<|.ff 33 (Stp.k s !=(4:Int))<|.ff 34 (!ByteArray.toList (Stp.t s)==[])<|.rw 8037 [] [(37,Vb (Stp.k s==(5:Int)),Vb false)]<|.rw 8049 [] [(49,Vb (Stp.k s==(6:Int)),Vb false)]<|.rw 8055 [] [(55,Vb (decide (Stp.k s<(7:Int))),Vb true)]<|.ret (Fr (V.tup [Vi (0:Int),Vb true]) [])))
  (.ff 1028 ((!ByteArray.toList (Stp.t s)==[])==false)<|.ff 1029 ((!ByteArray.toList (Stp.t s)==[])==false)<|.ff 1033 ((!ByteArray.toList (Stp.t s)==[])==false)<|.tt 34 (!ByteArray.toList (Stp.t s)==[])<|.ret (Fr (V.tup [Vi (0:Int),Vb false]) [])))
  (.ff 1018 ((Stp.k s !=(5:Int))==true)<|.tt 1019 (decide (Stp.k s ≥ (22:Int))==false)<|.ff 19 (Stp.k s !=(5:Int))<|.tt 1020 (decide (Stp.k s ≥ (22:Int))==false)<|.tt 1024 (decide (Stp.k s ≥ (22:Int))==false)<|.ff 25 (decide (Stp.k s ≥ (22:Int)))<|.rw 8028 [] [(28,Vb (Stp.k s !=(4:Int)),Vb true)]<|.ite 2034 (Stp.n s !=(0:Int))
  (.rw 8002 [] [(32,Vb (Stp.n s !=(0:Int)),Vb true)]<|.ret (Fr (V.tup [Vi (0:Int),Vb false]) []))
  (.rw 8037 [] [(37,Vb (Stp.k s==(5:Int)),Vb true)]<|.ite 1043 (decide ((↑(ByteArray.size (Stp.t s)):Int)≤(256:Int))==true)
  (.rw 8043 [] [(12,Vb (decide (Stp.k s ≥ (22:Int))),Vb false),(15,Vb (Stp.k s !=(5:Int)),Vb false),(41,Vb (decide ((↑(ByteArray.size (Stp.t s)):Int)≤(256:Int))),Vb true)]<|.tt 1044 (decide ((↑(ByteArray.size (Stp.t s)):Int)≤(256:Int))==true)<|.tt 1045 (decide ((↑(ByteArray.size (Stp.t s)):Int)≤(256:Int))==true)<|.call 45 (129) ([V.str (Stp.t s)]) ([]) (Fr (Vb (validU (Stp.t s))) [])<|.tt 46 (decide ((↑(ByteArray.size (Stp.t s)):Int)≤(256:Int)))<|.ret (Fr (V.tup [Vi (0:Int),Vb (validU (Stp.t s))]) []))
  (.ff 1044 (decide ((↑(ByteArray.size (Stp.t s)):Int)≤(256:Int))==true)<|.ff 1045 (decide ((↑(ByteArray.size (Stp.t s)):Int)≤(256:Int))==true)<|.ff 46 (decide ((↑(ByteArray.size (Stp.t s)):Int)≤(256:Int)))<|.ret (Fr (V.tup [Vi (0:Int),Vb false]) [])))))
  (.ff 1015 (decide (Stp.k s ≥ (22:Int))==false)<|.ff 1016 (decide (Stp.k s ≥ (22:Int))==false)<|.ff 1019 (decide (Stp.k s ≥ (22:Int))==false)<|.ff 1020 (decide (Stp.k s ≥ (22:Int))==false)<|.ff 1024 (decide (Stp.k s ≥ (22:Int))==false)<|.tt 25 (decide (Stp.k s ≥ (22:Int)))<|.ret (Fr (V.tup [Vi (0:Int),Vb false]) [])))
  (.ff 1011 (decide (Stp.k s<(1:Int))==false)<|.tt 12 (decide (Stp.k s<(1:Int)))<|.ret (Fr (V.tup [Vi (0:Int),Vb false]) []))) (by kernel_rfl) ?_
 exact ⟨fun h0=>have h0p:(1:Int)≤Stp.k s:=(by simpa using h0);⟨⟨tv,cb (by simp<;>omega),tv⟩,(h0),by simp<;>omega,fun h1=>have h1p:Stp.k s<(22:Int):=(by simpa using h1);⟨⟨tv,cb (by simp<;>omega),cb (by simp<;>omega),tv⟩,(h1),(h1),fun h2=>have h2p:¬Stp.k s=(5:Int):=(by simpa using h2);⟨⟨tv,cb (by simp<;>omega),cb (by simp<;>omega),tv⟩,(h2),⟨tv,cb (by simp<;>omega),tv⟩,(h1),by simp<;>omega,(h1),(h1),by simp<;>omega,fun h3=>have h3p:ByteArray.toList (Stp.t s)=[]:=(by simpa using h3);⟨⟨tv,cb (by simp<;>omega),cb (by simp<;>omega),cb (by simp<;>omega),tv⟩,(h3),(h3),fun h4=>have h4p:¬Stp.k s=(4:Int):=(by simpa using h4);⟨⟨tv,cb (by simp<;>omega),cb (by simp<;>omega),tv⟩,(h4),(h4),(h3),by simp<;>omega,by simp<;>omega,fun h5=>have h5p:¬Stp.n s=(0:Int):=(by simpa using h5);⟨⟨tv,cb (by simp<;>omega),cb (by simp<;>omega),cb (h5),tv⟩,by show _=_;(unfold tkN tkOk TkOk;grind)⟩,
  fun h5=>have h5p:Stp.n s=(0:Int):=(by simpa using h5);⟨⟨tv,cb (by simp<;>omega),tv⟩,⟨tv,cb (by simp<;>omega),tv⟩,fun h6=>have h6p:Stp.k s<(7:Int):=(by simpa using h6);⟨⟨tv,cb (by simp<;>omega),cb (by simp<;>omega),cb (h5),cb (h6),tv⟩,by show _=_;(unfold tkN tkOk TkOk;grind)⟩,
  fun h6=>have h6p:(7:Int)≤Stp.k s:=(by simpa using h6);⟨fun h7=>have h7p:Stp.k s≤(10:Int):=(by simpa using h7);⟨⟨tv,cb (by simp<;>omega),cb (by simp<;>omega),cb (h5),cb (h6),cb (h7),tv⟩,by show _=_;(unfold tkN tkOk TkOk;grind)⟩,
  fun h7=>have h7p:(10:Int)<Stp.k s:=(by simpa using h7);by show _=_;(unfold tkN tkOk TkOk;grind)⟩⟩⟩,
  fun h4=>have h4p:Stp.k s=(4:Int):=(by simpa using h4);⟨(h4),(h4),(h3),by simp<;>omega,by simp<;>omega,⟨tv,cb (by simp<;>omega),tv⟩,⟨tv,cb (by simp<;>omega),tv⟩,⟨tv,cb (by simp<;>omega),tv⟩,by show _=_;(unfold tkN tkOk TkOk;grind)⟩⟩,
  fun h3=>have h3p:¬ByteArray.toList (Stp.t s)=[]:=(by simpa using h3);⟨(h3),(h3),(h3),by simp<;>omega,by show _=_;(unfold tkN tkOk TkOk;grind)⟩⟩,
  fun h2=>have h2p:Stp.k s=(5:Int):=(by simpa using h2);⟨(h2),(h1),by simp<;>omega,(h1),(h1),by simp<;>omega,⟨tv,cb (by simp<;>omega),tv⟩,fun h3=>have h3p:¬Stp.n s=(0:Int):=(by simpa using h3);⟨⟨tv,cb (h3),tv⟩,by show _=_;(unfold tkN tkOk TkOk;grind)⟩,
  fun h3=>have h3p:Stp.n s=(0:Int):=(by simpa using h3);⟨⟨tv,cb (by simp<;>omega),tv⟩,fun h4=>have h4p:(↑(ByteArray.size (Stp.t s)):Int)≤(256:Int):=(by simpa using h4);⟨⟨tv,cb (by simp<;>omega),cb (by simp<;>omega),cb (by simp<;>omega),tv⟩,(h4),(h4),(Sp.fact (hv)),by simp<;>omega,by show _=_;(unfold tkN tkOk TkOk;grind)⟩,
  fun h4=>have h4p:(256:Int)<(↑(ByteArray.size (Stp.t s)):Int):=(by simpa using h4);⟨(h4),(h4),by simp<;>omega,by show _=_;(unfold tkN tkOk TkOk;grind)⟩⟩⟩⟩,
  fun h1=>have h1p:(22:Int)≤Stp.k s:=(by simpa using h1);⟨(h1),(h1),(h1),(h1),(h1),by simp<;>omega,by show _=_;(unfold tkN tkOk TkOk;grind)⟩⟩,
  fun h0=>have h0p:Stp.k s<(1:Int):=(by simpa using h0);⟨(h0),by simp<;>omega,by show _=_;(unfold tkN tkOk TkOk;grind)⟩⟩
end Go.Fw
set_option maxHeartbeats 20000000
namespace Go.Fw
open Go.Proofs
def I64 (x:Int):Prop:=-9223372036854775808≤x∧x≤9223372036854775807
theorem wrap_hi (x:Int) (h1:9223372036854775807<x) (h2:x≤18446744073709551615):IntKind.wrap .i64 x=x-18446744073709551616:=by
 simp only [IntKind.wrap,IntKind.bits,IntKind.signed]
 simp
 omega
theorem wrap_lo (x:Int) (h1:x < -9223372036854775808) (h2:-18446744073709551616≤x):IntKind.wrap .i64 x=x+18446744073709551616:=by
 simp only [IntKind.wrap,IntKind.bits,IntKind.signed]
 simp
 omega
def ovN (x:Int):Int:=if x < -9223372036854775808∨9223372036854775807<x then 0 else x
def ovE (x:Int):Int:=if x < -9223372036854775808∨9223372036854775807<x then 16 else 0
theorem add_sp (a b:Int) (ha:I64 a) (hb:I64 b):Sp C1 189 [.int .i64 a,.int .i64 b] (.tup [.int .i64 (ovN (a+b)),.int .i64 (ovE (a+b))]):=by
 unfold I64 at ha hb
 obtain ⟨a1,a2⟩:=ha
 obtain ⟨b1,b2⟩:=hb
 unfold ovN ovE
 by_cases h1:a+b < -9223372036854775808
 ·rw [if_pos (.inl h1),if_pos (.inl h1)]
  refine sp_tree draws (dm:=[]) (fs:=[]) (
   .rw 8007 [] [(7,Vb (decide (b>(0:Int))),Vb false)]<|.rw 8016 [] [(16,Vb (decide (b<(0:Int))),Vb true)]<|.rw 8020 [] [(20,Vi (IntKind.wrap IntKind.i64 ((-9223372036854775808:Int)-b)),Vi ((-9223372036854775808:Int)-b))]<|.rw 8021 [] [(21,Vb (decide (a<(-9223372036854775808:Int)-b)),Vb true)]<|.ret (Fr (V.tup [Vi (0:Int),Vi (16:Int)]) [])) (by kernel_rfl) ?_
  exact ⟨⟨tv,cb (by simp<;>omega),tv⟩,⟨tv,cb (by simp<;>omega),tv⟩,⟨tv,by simp (disch:=omega) only [wrap_i64],tv⟩,⟨tv,cb (by simp<;>omega),tv⟩,rfl⟩
 by_cases h2:9223372036854775807<a+b
 ·rw [if_pos (.inr h2),if_pos (.inr h2)]
  refine sp_tree draws (dm:=[]) (fs:=[]) (
   .rw 8007 [] [(7,Vb (decide (b>(0:Int))),Vb true)]<|.rw 8011 [] [(11,Vi (IntKind.wrap IntKind.i64 ((9223372036854775807:Int)-b)),Vi ((9223372036854775807:Int)-b))]<|.rw 8012 [] [(12,Vb (decide (a>(9223372036854775807:Int)-b)),Vb true)]<|.ret (Fr (V.tup [Vi (0:Int),Vi (16:Int)]) [])) (by kernel_rfl) ?_
  exact ⟨⟨tv,cb (by simp<;>omega),tv⟩,⟨tv,by simp (disch:=omega) only [wrap_i64],tv⟩,⟨tv,cb (by simp<;>omega),tv⟩,rfl⟩
 rw [if_neg (by omega),if_neg (by omega)]
 refine sp_tree draws (dm:=[]) (fs:=[]) (
  .ite 1009 (decide (b>(0:Int))==true)
  (.rw 8009 [] [(7,Vb (decide (b>(0:Int))),Vb true)]<|.tt 1010 (decide (b>(0:Int))==true)<|.tt 1011 (decide (b>(0:Int))==true)<|.rw 8011 [] [(11,Vi (IntKind.wrap IntKind.i64 ((9223372036854775807:Int)-b)),Vi ((9223372036854775807:Int)-b))]<|.tt 1012 (decide (b>(0:Int))==true)<|.rw 8012 [] [(12,Vb (decide (a>(9223372036854775807:Int)-b)),Vb false)]<|.tt 13 (decide (b>(0:Int)))<|.rw 8016 [] [(16,Vb (decide (b<(0:Int))),Vb false)]<|.rw 8026 [] [(26,Vi (IntKind.wrap IntKind.i64 (a+b)),Vi (a+b))]<|.ret (Fr (V.tup [Vi (a+b),Vi (0:Int)]) []))
  (.ff 1010 (decide (b>(0:Int))==true)<|.ff 1011 (decide (b>(0:Int))==true)<|.ff 1012 (decide (b>(0:Int))==true)<|.ff 13 (decide (b>(0:Int)))<|.ite 1018 (decide (b<(0:Int))==true)
  (.rw 8018 [] [(7,Vb (decide (b>(0:Int))),Vb false),(16,Vb (decide (b<(0:Int))),Vb true)]<|.tt 1019 (decide (b<(0:Int))==true)<|.tt 1020 (decide (b<(0:Int))==true)<|.rw 8020 [] [(20,Vi (IntKind.wrap IntKind.i64 ((-9223372036854775808:Int)-b)),Vi ((-9223372036854775808:Int)-b))]<|.tt 1021 (decide (b<(0:Int))==true)<|.rw 8021 [] [(21,Vb (decide (a<(-9223372036854775808:Int)-b)),Vb false)]<|.tt 22 (decide (b<(0:Int)))<|.rw 8026 [] [(26,Vi (IntKind.wrap IntKind.i64 (a+b)),Vi (a+b))]<|.ret (Fr (V.tup [Vi (a+b),Vi (0:Int)]) []))
  (.ff 1019 (decide (b<(0:Int))==true)<|.ff 1020 (decide (b<(0:Int))==true)<|.ff 1021 (decide (b<(0:Int))==true)<|.ff 22 (decide (b<(0:Int)))<|.rw 8026 [] [(26,Vi (IntKind.wrap IntKind.i64 (a+b)),Vi (a+b))]<|.ret (Fr (V.tup [Vi (a+b),Vi (0:Int)]) [])))) (by kernel_rfl) ?_
 exact ⟨fun h0=>have h0p:(0:Int)<b:=(by simpa using h0);⟨⟨tv,cb (by simp<;>omega),tv⟩,(h0),(h0),⟨tv,by simp (disch:=omega) only [wrap_i64],tv⟩,(h0),⟨tv,cb (by simp<;>omega),tv⟩,by simp<;>omega,⟨tv,cb (by simp<;>omega),tv⟩,⟨tv,by simp (disch:=omega) only [wrap_i64],tv⟩,rfl⟩,
  fun h0=>have h0p:b≤(0:Int):=(by simpa using h0);⟨(h0),(h0),(h0),by simp<;>omega,fun h1=>have h1p:b<(0:Int):=(by simpa using h1);⟨⟨tv,cb (by simp<;>omega),cb (by simp<;>omega),tv⟩,(h1),(h1),⟨tv,by simp (disch:=omega) only [wrap_i64],tv⟩,(h1),⟨tv,cb (by simp<;>omega),tv⟩,by simp<;>omega,⟨tv,by simp (disch:=omega) only [wrap_i64],tv⟩,rfl⟩,
  fun h1=>have h1p:(0:Int)≤b:=(by simpa using h1);⟨(h1),(h1),(h1),by simp<;>omega,⟨tv,by simp (disch:=omega) only [wrap_i64],tv⟩,rfl⟩⟩⟩
theorem sub_sp (a b:Int) (ha:I64 a) (hb:I64 b):Sp C1 188 [.int .i64 a,.int .i64 b] (.tup [.int .i64 (ovN (a-b)),.int .i64 (ovE (a-b))]):=by
 unfold I64 at ha hb
 obtain ⟨a1,a2⟩:=ha
 obtain ⟨b1,b2⟩:=hb
 unfold ovN ovE
 by_cases h1:a-b < -9223372036854775808
 ·rw [if_pos (.inl h1),if_pos (.inl h1)]
  refine sp_tree draws (dm:=[]) (fs:=[]) (
   .rw 8007 [] [(7,Vb (decide (b<(0:Int))),Vb false)]<|.rw 8016 [] [(16,Vb (decide (b>(0:Int))),Vb true)]<|.rw 8020 [] [(20,Vi (IntKind.wrap IntKind.i64 ((-9223372036854775808:Int)+b)),Vi ((-9223372036854775808:Int)+b))]<|.rw 8021 [] [(21,Vb (decide (a<(-9223372036854775808:Int)+b)),Vb true)]<|.ret (Fr (V.tup [Vi (0:Int),Vi (16:Int)]) [])) (by kernel_rfl) ?_
  exact ⟨⟨tv,cb (by simp<;>omega),tv⟩,⟨tv,cb (by simp<;>omega),tv⟩,⟨tv,by simp (disch:=omega) only [wrap_i64],tv⟩,⟨tv,cb (by simp<;>omega),tv⟩,rfl⟩
 by_cases h2:9223372036854775807<a-b
 ·rw [if_pos (.inr h2),if_pos (.inr h2)]
  refine sp_tree draws (dm:=[]) (fs:=[]) (
   .rw 8007 [] [(7,Vb (decide (b<(0:Int))),Vb true)]<|.rw 8011 [] [(11,Vi (IntKind.wrap IntKind.i64 ((9223372036854775807:Int)+b)),Vi ((9223372036854775807:Int)+b))]<|.rw 8012 [] [(12,Vb (decide (a>(9223372036854775807:Int)+b)),Vb true)]<|.ret (Fr (V.tup [Vi (0:Int),Vi (16:Int)]) [])) (by kernel_rfl) ?_
  exact ⟨⟨tv,cb (by simp<;>omega),tv⟩,⟨tv,by simp (disch:=omega) only [wrap_i64],tv⟩,⟨tv,cb (by simp<;>omega),tv⟩,rfl⟩
 rw [if_neg (by omega),if_neg (by omega)]
 refine sp_tree draws (dm:=[]) (fs:=[]) (
  .ite 1009 (decide (b<(0:Int))==true)
  (.rw 8009 [] [(7,Vb (decide (b<(0:Int))),Vb true)]<|.tt 1010 (decide (b<(0:Int))==true)<|.tt 1011 (decide (b<(0:Int))==true)<|.rw 8011 [] [(11,Vi (IntKind.wrap IntKind.i64 ((9223372036854775807:Int)+b)),Vi ((9223372036854775807:Int)+b))]<|.tt 1012 (decide (b<(0:Int))==true)<|.rw 8012 [] [(12,Vb (decide (a>(9223372036854775807:Int)+b)),Vb false)]<|.tt 13 (decide (b<(0:Int)))<|.rw 8016 [] [(16,Vb (decide (b>(0:Int))),Vb false)]<|.rw 8026 [] [(26,Vi (IntKind.wrap IntKind.i64 (a-b)),Vi (a-b))]<|.ret (Fr (V.tup [Vi (a-b),Vi (0:Int)]) []))
  (.ff 1010 (decide (b<(0:Int))==true)<|.ff 1011 (decide (b<(0:Int))==true)<|.ff 1012 (decide (b<(0:Int))==true)<|.ff 13 (decide (b<(0:Int)))<|.ite 1018 (decide (b>(0:Int))==true)
  (.rw 8018 [] [(7,Vb (decide (b<(0:Int))),Vb false),(16,Vb (decide (b>(0:Int))),Vb true)]<|.tt 1019 (decide (b>(0:Int))==true)<|.tt 1020 (decide (b>(0:Int))==true)<|.rw 8020 [] [(20,Vi (IntKind.wrap IntKind.i64 ((-9223372036854775808:Int)+b)),Vi ((-9223372036854775808:Int)+b))]<|.tt 1021 (decide (b>(0:Int))==true)<|.rw 8021 [] [(21,Vb (decide (a<(-9223372036854775808:Int)+b)),Vb false)]<|.tt 22 (decide (b>(0:Int)))<|.rw 8026 [] [(26,Vi (IntKind.wrap IntKind.i64 (a-b)),Vi (a-b))]<|.ret (Fr (V.tup [Vi (a-b),Vi (0:Int)]) []))
  (.ff 1019 (decide (b>(0:Int))==true)<|.ff 1020 (decide (b>(0:Int))==true)<|.ff 1021 (decide (b>(0:Int))==true)<|.ff 22 (decide (b>(0:Int)))<|.rw 8026 [] [(26,Vi (IntKind.wrap IntKind.i64 (a-b)),Vi (a-b))]<|.ret (Fr (V.tup [Vi (a-b),Vi (0:Int)]) [])))) (by kernel_rfl) ?_
 exact ⟨fun h0=>have h0p:b<(0:Int):=(by simpa using h0);⟨⟨tv,cb (by simp<;>omega),tv⟩,(h0),(h0),⟨tv,by simp (disch:=omega) only [wrap_i64],tv⟩,(h0),⟨tv,cb (by simp<;>omega),tv⟩,by simp<;>omega,⟨tv,cb (by simp<;>omega),tv⟩,⟨tv,by simp (disch:=omega) only [wrap_i64],tv⟩,rfl⟩,
  fun h0=>have h0p:(0:Int)≤b:=(by simpa using h0);⟨(h0),(h0),(h0),by simp<;>omega,fun h1=>have h1p:(0:Int)<b:=(by simpa using h1);⟨⟨tv,cb (by simp<;>omega),cb (by simp<;>omega),tv⟩,(h1),(h1),⟨tv,by simp (disch:=omega) only [wrap_i64],tv⟩,(h1),⟨tv,cb (by simp<;>omega),tv⟩,by simp<;>omega,⟨tv,by simp (disch:=omega) only [wrap_i64],tv⟩,rfl⟩,
  fun h1=>have h1p:b≤(0:Int):=(by simpa using h1);⟨(h1),(h1),(h1),by simp<;>omega,⟨tv,by simp (disch:=omega) only [wrap_i64],tv⟩,rfl⟩⟩⟩
theorem add2_sp (a b:Int) (ha:I64 a) (hb:I64 b):Sp C1 196 [.int .i64 a,.int .i64 b] (.tup [.int .i64 (ovN (a+b)),.int .i64 (ovE (a+b))]):=by
 unfold I64 at ha hb
 obtain ⟨a1,a2⟩:=ha
 obtain ⟨b1,b2⟩:=hb
 unfold ovN ovE
 by_cases h1:a+b < -9223372036854775808
 ·rw [if_pos (.inl h1),if_pos (.inl h1)]
  refine sp_tree draws (dm:=[]) (fs:=[]) (
   .rw 8009 [] [(9,Vi (IntKind.wrap IntKind.i64 (a+b)),Vi (a+b+(18446744073709551616:Int)))]<|.rw 8011 [] [(11,Vb (decide (b ≥ (0:Int))),Vb false)]<|.rw 8014 [] [(14,Vb (decide (a+b+(18446744073709551616:Int) ≥ a)),Vb true)]<|.ret (Fr (V.tup [Vi (0:Int),Vi (16:Int)]) [])) (by kernel_rfl) ?_
  exact ⟨⟨tv,by simp (disch:=omega) only [wrap_lo],tv⟩,⟨tv,cb (by simp<;>omega),tv⟩,⟨tv,cb (by simp<;>omega),tv⟩,rfl⟩
 by_cases h2:9223372036854775807<a+b
 ·rw [if_pos (.inr h2),if_pos (.inr h2)]
  refine sp_tree draws (dm:=[]) (fs:=[]) (
   .rw 8009 [] [(9,Vi (IntKind.wrap IntKind.i64 (a+b)),Vi (a+b-(18446744073709551616:Int)))]<|.rw 8011 [] [(11,Vb (decide (b ≥ (0:Int))),Vb true)]<|.rw 8014 [] [(14,Vb (decide (a+b-(18446744073709551616:Int) ≥ a)),Vb false)]<|.ret (Fr (V.tup [Vi (0:Int),Vi (16:Int)]) [])) (by kernel_rfl) ?_
  exact ⟨⟨tv,by simp (disch:=omega) only [wrap_hi],tv⟩,⟨tv,cb (by simp<;>omega),tv⟩,⟨tv,cb (by simp<;>omega),tv⟩,rfl⟩
 rw [if_neg (by omega),if_neg (by omega)]
 refine sp_tree draws (dm:=[]) (fs:=[]) (
  .rw 8009 [] [(9,Vi (IntKind.wrap IntKind.i64 (a+b)),Vi (a+b))]<|.rw 8015 [] [(15,Vb !decide (b ≥ (0:Int))==decide (a+b ≥ a),Vb false)]<|.ret (Fr (V.tup [Vi (a+b),Vi (0:Int)]) [])) (by kernel_rfl) ?_
 exact ⟨⟨tv,by simp (disch:=omega) only [wrap_i64],tv⟩,⟨tv,cb (by simp<;>omega),tv⟩,rfl⟩
theorem sub2_sp (a b:Int) (ha:I64 a) (hb:I64 b):Sp C1 194 [.int .i64 a,.int .i64 b] (.tup [.int .i64 (ovN (a-b)),.int .i64 (ovE (a-b))]):=by
 unfold I64 at ha hb
 obtain ⟨a1,a2⟩:=ha
 obtain ⟨b1,b2⟩:=hb
 unfold ovN ovE
 by_cases h1:a-b < -9223372036854775808
 ·rw [if_pos (.inl h1),if_pos (.inl h1)]
  refine sp_tree draws (dm:=[]) (fs:=[]) (
   .rw 8009 [] [(9,Vi (IntKind.wrap IntKind.i64 (a-b)),Vi (a-b+(18446744073709551616:Int)))]<|.rw 8011 [] [(11,Vb (decide (b≤(0:Int))),Vb false)]<|.rw 8014 [] [(14,Vb (decide (a-b+(18446744073709551616:Int) ≥ a)),Vb true)]<|.ret (Fr (V.tup [Vi (0:Int),Vi (16:Int)]) [])) (by kernel_rfl) ?_
  exact ⟨⟨tv,by simp (disch:=omega) only [wrap_lo],tv⟩,⟨tv,cb (by simp<;>omega),tv⟩,⟨tv,cb (by simp<;>omega),tv⟩,rfl⟩
 by_cases h2:9223372036854775807<a-b
 ·rw [if_pos (.inr h2),if_pos (.inr h2)]
  refine sp_tree draws (dm:=[]) (fs:=[]) (
   .rw 8009 [] [(9,Vi (IntKind.wrap IntKind.i64 (a-b)),Vi (a-b-(18446744073709551616:Int)))]<|.rw 8011 [] [(11,Vb (decide (b≤(0:Int))),Vb true)]<|.rw 8014 [] [(14,Vb (decide (a-b-(18446744073709551616:Int) ≥ a)),Vb false)]<|.ret (Fr (V.tup [Vi (0:Int),Vi (16:Int)]) [])) (by kernel_rfl) ?_
  exact ⟨⟨tv,by simp (disch:=omega) only [wrap_hi],tv⟩,⟨tv,cb (by simp<;>omega),tv⟩,⟨tv,cb (by simp<;>omega),tv⟩,rfl⟩
 rw [if_neg (by omega),if_neg (by omega)]
 refine sp_tree draws (dm:=[]) (fs:=[]) (
  .rw 8009 [] [(9,Vi (IntKind.wrap IntKind.i64 (a-b)),Vi (a-b))]<|.rw 8015 [] [(15,Vb !decide (b≤(0:Int))==decide (a-b ≥ a),Vb false)]<|.ret (Fr (V.tup [Vi (a-b),Vi (0:Int)]) [])) (by kernel_rfl) ?_
 exact ⟨⟨tv,by simp (disch:=omega) only [wrap_i64],tv⟩,⟨tv,cb (by simp<;>omega),tv⟩,rfl⟩
theorem compared_sp (k c:Int) (hk:14≤k) (hk2:k≤19) (hc:-1≤c∧c≤1):Sp C1 191 [.int .u8 k,.int .i64 c] (.bool (if k=14 then decide (c=0) else if k=15 then decide (c≠0) else if k=16 then decide (c<0) else if k=17 then decide (c<1) else if k=18 then decide (0<c) else decide (-1<c))):=by
 refine sp_tree draws (dm:=[]) (fs:=[]) (
  .ite 2006 (k==(14:Int))
  (.rw 8008 [] [(6,Vb (k==(14:Int)),Vb true)]<|.ret (Fr (Vb (c==(0:Int))) []))
  (.ite 2010 (k==(15:Int))
  (.rw 8012 [] [(6,Vb (k==(14:Int)),Vb false),(10,Vb (k==(15:Int)),Vb true)]<|.ret (Fr (Vb (c !=(0:Int))) []))
  (.ite 2014 (k==(16:Int))
  (.rw 8016 [] [(6,Vb (k==(14:Int)),Vb false),(10,Vb (k==(15:Int)),Vb false),(14,Vb (k==(16:Int)),Vb true)]<|.ret (Fr (Vb (decide (c<(0:Int)))) []))
  (.ite 2018 (k==(17:Int))
  (.rw 8020 [] [(6,Vb (k==(14:Int)),Vb false),(10,Vb (k==(15:Int)),Vb false),(14,Vb (k==(16:Int)),Vb false),(18,Vb (k==(17:Int)),Vb true)]<|.ret (Fr (Vb (decide (c<(1:Int)))) []))
  (.ite 2022 (k==(18:Int))
  (.rw 8024 [] [(6,Vb (k==(14:Int)),Vb false),(10,Vb (k==(15:Int)),Vb false),(14,Vb (k==(16:Int)),Vb false),(18,Vb (k==(17:Int)),Vb false),(22,Vb (k==(18:Int)),Vb true)]<|.ret (Fr (Vb (decide (c>(0:Int)))) []))
  (.ret (Fr (Vb (decide (c>(-1:Int)))) []))))))) (by kernel_rfl) ?_
 exact ⟨fun h0=>have h0p:k=(14:Int):=(by simpa using h0);⟨⟨tv,cb (h0),tv⟩,by show _=_;grind⟩,
  fun h0=>have h0p:¬k=(14:Int):=(by simpa using h0);⟨fun h1=>have h1p:k=(15:Int):=(by simpa using h1);⟨⟨tv,cb (h0),cb (h1),tv⟩,by show _=_;grind⟩,
  fun h1=>have h1p:¬k=(15:Int):=(by simpa using h1);⟨fun h2=>have h2p:k=(16:Int):=(by simpa using h2);⟨⟨tv,cb (h0),cb (h1),cb (h2),tv⟩,by show _=_;grind⟩,
  fun h2=>have h2p:¬k=(16:Int):=(by simpa using h2);⟨fun h3=>have h3p:k=(17:Int):=(by simpa using h3);⟨⟨tv,cb (h0),cb (h1),cb (h2),cb (h3),tv⟩,by show _=_;grind⟩,
  fun h3=>have h3p:¬k=(17:Int):=(by simpa using h3);⟨fun h4=>have h4p:k=(18:Int):=(by simpa using h4);⟨⟨tv,cb (h0),cb (h1),cb (h2),cb (h3),cb (h4),tv⟩,by show _=_;grind⟩,
  fun h4=>have h4p:¬k=(18:Int):=(by simpa using h4);by show _=_;grind⟩⟩⟩⟩⟩
end Go.Fw
set_option maxHeartbeats 20000000
namespace Go.Fw
open Go.Proofs
def cmpI (a b:Int):Int:=if a<b then -1 else if b<a then 1 else 0
theorem nanK_sp (a:Int):Sp C1 114 [.int .u8 a] (.bool false):=by
 refine sp_tree draws (dm:=[]) (fs:=[]) (
  .rw 8005 [] [(5,Vb (a !=a),Vb false)]<|.ret (Fr (Vb false) [])) (by kernel_rfl) ?_
 exact ⟨⟨tv,cb (by simp<;>omega),tv⟩,rfl⟩
theorem cmpK_sp (a b:Int):Sp C1 53 [.int .u8 a,.int .u8 b] (.int .i64 (cmpI a b)):=by
 refine sp_tree draws (dm:=[]) (fs:=[]) (
  .call 8 (114) ([Vu a]) ([]) (Fr (Vb false) [])<|.call 10 (114) ([Vu b]) ([]) (Fr (Vb false) [])<|.ite 2016 (decide (a<b))
  (.rw 8004 [] [(16,Vb (decide (a<b)),Vb true)]<|.ret (Fr (Vi (-1:Int)) []))
  (.ite 2019 (decide (a>b))
  (.rw 8004 [] [(16,Vb (decide (a<b)),Vb false),(19,Vb (decide (a>b)),Vb true)]<|.ret (Fr (Vi (1:Int)) []))
  (.ret (Fr (Vi (0:Int)) [])))) (by kernel_rfl) ?_
 exact ⟨(Sp.fact (nanK_sp _)),(Sp.fact (nanK_sp _)),fun h0=>have h0p:a<b:=(by simpa using h0);⟨⟨tv,cb (h0),tv⟩,by show _=_;(unfold cmpI;grind)⟩,
  fun h0=>have h0p:b≤a:=(by simpa using h0);⟨fun h1=>have h1p:b<a:=(by simpa using h1);⟨⟨tv,cb (h0),cb (h1),tv⟩,by show _=_;(unfold cmpI;grind)⟩,
  fun h1=>have h1p:a≤b:=(by simpa using h1);by show _=_;(unfold cmpI;grind)⟩⟩
theorem nanL_sp (a:Int):Sp C1 115 [.int .i64 a] (.bool false):=by
 refine sp_tree draws (dm:=[]) (fs:=[]) (
  .rw 8005 [] [(5,Vb (a !=a),Vb false)]<|.ret (Fr (Vb false) [])) (by kernel_rfl) ?_
 exact ⟨⟨tv,cb (by simp<;>omega),tv⟩,rfl⟩
theorem cmpL_sp (a b:Int):Sp C1 54 [.int .i64 a,.int .i64 b] (.int .i64 (cmpI a b)):=by
 refine sp_tree draws (dm:=[]) (fs:=[]) (
  .call 8 (115) ([Vi a]) ([]) (Fr (Vb false) [])<|.call 10 (115) ([Vi b]) ([]) (Fr (Vb false) [])<|.ite 2016 (decide (a<b))
  (.rw 8004 [] [(16,Vb (decide (a<b)),Vb true)]<|.ret (Fr (Vi (-1:Int)) []))
  (.ite 2019 (decide (a>b))
  (.rw 8004 [] [(16,Vb (decide (a<b)),Vb false),(19,Vb (decide (a>b)),Vb true)]<|.ret (Fr (Vi (1:Int)) []))
  (.ret (Fr (Vi (0:Int)) [])))) (by kernel_rfl) ?_
 exact ⟨(Sp.fact (nanL_sp _)),(Sp.fact (nanL_sp _)),fun h0=>have h0p:a<b:=(by simpa using h0);⟨⟨tv,cb (h0),tv⟩,by show _=_;(unfold cmpI;grind)⟩,
  fun h0=>have h0p:b≤a:=(by simpa using h0);⟨fun h1=>have h1p:b<a:=(by simpa using h1);⟨⟨tv,cb (h0),cb (h1),tv⟩,by show _=_;(unfold cmpI;grind)⟩,
  fun h1=>have h1p:a≤b:=(by simpa using h1);by show _=_;(unfold cmpI;grind)⟩⟩
theorem nanR_sp (a:Int):Sp C1 170 [.int .i32 a] (.bool false):=by
 refine sp_tree draws (dm:=[]) (fs:=[]) (
  .rw 8005 [] [(5,Vb (a !=a),Vb false)]<|.ret (Fr (Vb false) [])) (by kernel_rfl) ?_
 exact ⟨⟨tv,cb (by simp<;>omega),tv⟩,rfl⟩
theorem cmpR_sp (a b:Int):Sp C1 117 [.int .i32 a,.int .i32 b] (.int .i64 (cmpI a b)):=by
 refine sp_tree draws (dm:=[]) (fs:=[]) (
  .call 8 (170) ([V.int .i32 a]) ([]) (Fr (Vb false) [])<|.call 10 (170) ([V.int .i32 b]) ([]) (Fr (Vb false) [])<|.ite 2016 (decide (a<b))
  (.rw 8004 [] [(16,Vb (decide (a<b)),Vb true)]<|.ret (Fr (Vi (-1:Int)) []))
  (.ite 2019 (decide (a>b))
  (.rw 8004 [] [(16,Vb (decide (a<b)),Vb false),(19,Vb (decide (a>b)),Vb true)]<|.ret (Fr (Vi (1:Int)) []))
  (.ret (Fr (Vi (0:Int)) [])))) (by kernel_rfl) ?_
 exact ⟨(Sp.fact (nanR_sp _)),(Sp.fact (nanR_sp _)),fun h0=>have h0p:a<b:=(by simpa using h0);⟨⟨tv,cb (h0),tv⟩,by show _=_;(unfold cmpI;grind)⟩,
  fun h0=>have h0p:b≤a:=(by simpa using h0);⟨fun h1=>have h1p:b<a:=(by simpa using h1);⟨⟨tv,cb (h0),cb (h1),tv⟩,by show _=_;(unfold cmpI;grind)⟩,
  fun h1=>have h1p:a≤b:=(by simpa using h1);by show _=_;(unfold cmpI;grind)⟩⟩
theorem nanI_sp (a:Int):Sp C1 171 [.int .i64 a] (.bool false):=by
 refine sp_tree draws (dm:=[]) (fs:=[]) (
  .rw 8005 [] [(5,Vb (a !=a),Vb false)]<|.ret (Fr (Vb false) [])) (by kernel_rfl) ?_
 exact ⟨⟨tv,cb (by simp<;>omega),tv⟩,rfl⟩
theorem cmpI_sp (a b:Int):Sp C1 118 [.int .i64 a,.int .i64 b] (.int .i64 (cmpI a b)):=by
 refine sp_tree draws (dm:=[]) (fs:=[]) (
  .call 8 (171) ([Vi a]) ([]) (Fr (Vb false) [])<|.call 10 (171) ([Vi b]) ([]) (Fr (Vb false) [])<|.ite 2016 (decide (a<b))
  (.rw 8004 [] [(16,Vb (decide (a<b)),Vb true)]<|.ret (Fr (Vi (-1:Int)) []))
  (.ite 2019 (decide (a>b))
  (.rw 8004 [] [(16,Vb (decide (a<b)),Vb false),(19,Vb (decide (a>b)),Vb true)]<|.ret (Fr (Vi (1:Int)) []))
  (.ret (Fr (Vi (0:Int)) [])))) (by kernel_rfl) ?_
 exact ⟨(Sp.fact (nanI_sp _)),(Sp.fact (nanI_sp _)),fun h0=>have h0p:a<b:=(by simpa using h0);⟨⟨tv,cb (h0),tv⟩,by show _=_;(unfold cmpI;grind)⟩,
  fun h0=>have h0p:b≤a:=(by simpa using h0);⟨fun h1=>have h1p:b<a:=(by simpa using h1);⟨⟨tv,cb (h0),cb (h1),tv⟩,by show _=_;(unfold cmpI;grind)⟩,
  fun h1=>have h1p:a≤b:=(by simpa using h1);by show _=_;(unfold cmpI;grind)⟩⟩
theorem order_sp (a b:Bool):Sp C1 166 [.bool a,.bool b] (.int .i64 (if a then -1 else if b then 1 else 0)):=by
 refine sp_tree draws (dm:=[]) (fs:=[]) (
  .ite 2005 (a)
  (.rw 8004 [] [(0,Vb a,Vb true)]<|.ret (Fr (Vi (-1:Int)) []))
  (.ite 2006 (b)
  (.rw 8004 [] [(0,Vb a,Vb false),(1,Vb b,Vb true)]<|.ret (Fr (Vi (1:Int)) []))
  (.ret (Fr (Vi (0:Int)) [])))) (by kernel_rfl) ?_
 exact ⟨fun h0=>⟨⟨tv,cb (h0),tv⟩,by show _=_;simp_all⟩,
  fun h0=>⟨fun h1=>⟨⟨tv,cb (h0),cb (h1),tv⟩,by show _=_;simp_all⟩,
  fun h1=>by show _=_;simp_all⟩⟩
def rn:Nat→List UInt8→List Int
 | 0,_=>[]
 | f+1,l=>if l=[] then [] else ((Lib.decodeL l).1:Int)::rn f (l.drop (Lib.decodeL l).2)
def runesL (l:List UInt8):List Int:=rn l.length l
theorem rn_fuel:∀ (n m:Nat) (l:List UInt8),l.length≤n→l.length≤m→rn n l=rn m l
 | 0,m,l,hn,_=>by
  obtain rfl:l=[]:=List.eq_nil_of_length_eq_zero (by omega)
  cases m<;>rfl
 | n+1,0,l,_,hm=>by
  obtain rfl:l=[]:=List.eq_nil_of_length_eq_zero (by omega)
  rfl
 | n+1,m+1,l,hn,hm=>by
  unfold rn
  by_cases hne:l=[]
  ·simp [hne]
  ·have hw:=Lib.decodeL_width l
   have hl:0<l.length:=List.length_pos_iff.2 hne
   rw [if_neg hne,if_neg hne,rn_fuel n m _ (by rw [List.length_drop];omega) (by rw [List.length_drop];omega)]
theorem runesL_nil:runesL []=[]:=rfl
theorem runesL_step (l:List UInt8) (hne:l≠[]):runesL l=((Lib.decodeL l).1:Int)::runesL (l.drop (Lib.decodeL l).2):=by
 have hl:0<l.length:=List.length_pos_iff.2 hne
 have hw:=Lib.decodeL_width l
 obtain ⟨n,hn⟩:∃ n,l.length=n+1:=⟨l.length-1,by omega⟩
 unfold runesL
 rw [hn]
 show (if l=[] then [] else _)=_
 rw [if_neg hne,rn_fuel n (l.drop (Lib.decodeL l).2).length _ (by rw [List.length_drop];omega) (Nat.le_refl _)]
def runesS (s:ByteArray):List Int:=runesL s.data.toList
def cmpR:List Int→List Int→Int
 | [],[]=>0
 | [],_=>-1
 | _,[]=>1
 | x::xs,y::ys=>if x<y then -1 else if y<x then 1 else cmpR xs ys
theorem toList_ne {a:ByteArray} (h:0<a.size):¬a.toList=[]:=by
 intro e
 have:a.size=0:=by rw [Lib.size_eq,←Lib.toList_data,e];rfl
 omega
theorem toList_nil {a:ByteArray} (h:a.size=0):a.toList=[]:=by
 rw [Lib.toList_data]
 exact List.eq_nil_of_length_eq_zero (by rw [←Lib.size_eq];exact h)
theorem runesS_nil {a:ByteArray} (h:a.size=0):runesS a=[]:=by
 unfold runesS
 rw [←Lib.toList_data,toList_nil h]
 rfl
theorem decodeGo_L {a:ByteArray} (h:0<a.size):Lib.decodeGo a=Lib.decodeL a.data.toList:=by
 unfold Lib.decodeGo
 rw [if_neg (by omega),←Lib.decodeL_drop,List.drop_zero]
theorem runesS_step {a:ByteArray} (h:0<a.size):runesS a=((Lib.decodeGo a).1:Int)::runesS (a.extract (Lib.decodeGo a).2 a.size):=by
 unfold runesS
 rw [runesL_step _ (by rw [←Lib.toList_data];exact toList_ne h),Lib.ext_list,decodeGo_L h]
theorem decodeGo_w {a:ByteArray} (h:0<a.size):1≤(Lib.decodeGo a).2∧(Lib.decodeGo a).2≤a.size:=by
 rw [decodeGo_L h]
 exact ⟨Lib.decodeL_width _,by rw [Lib.size_eq];exact Lib.decodeL_le _ (by rw [←Lib.toList_data];exact toList_ne h)⟩
abbrev KT:List (Nat×Fm):=keeps [0,1]
abbrev SX (a b:ByteArray):St:=mkSt 42 [(0,.str a),(1,.str b)] []
theorem cmpR_nil (a b:ByteArray) (h:a.size=0∨b.size=0):cmpR (runesS a) (runesS b)=cmpI (a.size:Int) (b.size:Int):=by
 have e:∀ x:ByteArray,0<x.size→∃ y ys,runesS x=y::ys:=fun x hx=>⟨_,_,runesS_step hx⟩
 unfold cmpI
 by_cases ha:a.size=0
 ·rw [runesS_nil ha]
  by_cases hb:b.size=0
  ·rw [runesS_nil hb,ha,hb];rfl
  ·obtain ⟨y,ys,e1⟩:=e b (by omega)
   rw [e1,if_pos (by omega)];rfl
 ·have hb:b.size=0:=by omega
  obtain ⟨y,ys,e1⟩:=e a (by omega)
  rw [runesS_nil hb,e1,if_neg (by omega),if_pos (by omega)];rfl
theorem textsl:∀ (n:Nat) (a b:ByteArray),a.size+b.size≤n→a.size≤2 ^ 47→b.size≤2 ^ 47 →
  (∃ a' b':ByteArray,a'.size≤2 ^ 47∧b'.size≤2 ^ 47∧cmpR (runesS a) (runesS b)=cmpI (a'.size:Int) (b'.size:Int)∧LoopK C1 55 8 KT (SX a b) (.exit 0) (mkSt 42 [(0,.str a'),(1,.str b')] [])) ∨
  LoopK C1 55 8 KT (SX a b) .ret (mkSt 42 [(4,.int .i64 (cmpR (runesS a) (runesS b)))] []):=by
 intro n
 induction n with
 | zero =>
  intro a b h ha hb
  have ta:=toList_nil (a:=a) (by omega)
  refine .inl ⟨a,b,ha,hb,cmpR_nil a b (by omega),?_⟩
  refine loop_tree draws (rd:=true) (kn:=KT) (ke:=(keeps [0,1])) (
   .rw 8010 [] [(10,Vb !ByteArray.toList a==[],Vb false)]<|.ret ((Ex.exit 0,mkSt 42 [(0,V.str a),(1,V.str b)] []))) (by kernel_rfl) ?_
  exact ⟨⟨tv,cb (by simp [ta]),tv⟩,rfl,rfl⟩
 | succ n ihn =>
  intro a b h ha hb
  by_cases h1:a.size=0
  ·have ta:=toList_nil h1
   refine .inl ⟨a,b,ha,hb,cmpR_nil a b (by omega),?_⟩
   refine loop_tree draws (rd:=true) (kn:=KT) (ke:=(keeps [0,1])) (
    .rw 8010 [] [(10,Vb !ByteArray.toList a==[],Vb false)]<|.ret ((Ex.exit 0,mkSt 42 [(0,V.str a),(1,V.str b)] []))) (by kernel_rfl) ?_
   exact ⟨⟨tv,cb (by simp [ta]),tv⟩,rfl,rfl⟩
  by_cases h2:b.size=0
  ·have ta:=toList_ne (a:=a) (by omega)
   have tb:=toList_nil h2
   refine .inl ⟨a,b,ha,hb,cmpR_nil a b (by omega),?_⟩
   refine loop_tree draws (rd:=true) (kn:=KT) (ke:=(keeps [0,1])) (
    .rw 8010 [] [(10,Vb !ByteArray.toList a==[],Vb true)]<|.rw 8013 [] [(13,Vb !ByteArray.toList b==[],Vb false)]<|.ret ((Ex.exit 0,mkSt 42 [(0,V.str a),(1,V.str b)] []))) (by kernel_rfl) ?_
   exact ⟨⟨tv,cb (by simp [ta,tb]),tv⟩,⟨tv,cb (by simp [ta,tb]),tv⟩,rfl,rfl⟩
  have ta:=toList_ne (a:=a) (by omega)
  have tb:=toList_ne (a:=b) (by omega)
  obtain ⟨wa1,wa2⟩:=decodeGo_w (a:=a) (by omega)
  obtain ⟨wb1,wb2⟩:=decodeGo_w (a:=b) (by omega)
  have da:=decode_sp a
  have db:=decode_sp b
  have dc:=cmpR_sp ((Lib.decodeGo a).1:Int) ((Lib.decodeGo b).1:Int)
  rw [runesS_step (a:=a) (by omega),runesS_step (a:=b) (by omega)]
  by_cases he:((Lib.decodeGo a).1:Int)=(Lib.decodeGo b).1
  ·have e:cmpR (((Lib.decodeGo a).1:Int)::runesS (a.extract (Lib.decodeGo a).2 a.size)) (((Lib.decodeGo b).1:Int)::runesS (b.extract (Lib.decodeGo b).2 b.size))=cmpR (runesS (a.extract (Lib.decodeGo a).2 a.size)) (runesS (b.extract (Lib.decodeGo b).2 b.size)):=by
    rw [cmpR,if_neg (by omega),if_neg (by omega)]
   rw [e]
   rcases ihn (a.extract (Lib.decodeGo a).2 a.size) (b.extract (Lib.decodeGo b).2 b.size) (by rw [Lib.ext_size,Lib.ext_size];omega) (by rw [Lib.ext_size];omega) (by rw [Lib.ext_size];omega) with ⟨a',b',q1,q2,q3,ih⟩ | ih
   ·refine .inl ⟨a',b',q1,q2,q3,?_⟩
    refine loop_tree draws (rd:=true) (kn:=KT) (ke:=(keeps [0,1])) (
     .rw 8010 [] [(10,Vb !ByteArray.toList a==[],Vb true)]<|.rw 8013 [] [(13,Vb !ByteArray.toList b==[],Vb true)]<|.call 17 (116) ([V.str a]) ([]) (Fr (V.tup [V.int .i32 (↑(Prod.fst (Lib.decodeGo a)):Int),Vi (↑(Prod.snd (Lib.decodeGo a)):Int)]) [])<|.call 22 (116) ([V.str b]) ([]) (Fr (V.tup [V.int .i32 (↑(Prod.fst (Lib.decodeGo b)):Int),Vi (↑(Prod.snd (Lib.decodeGo b)):Int)]) [])<|.rw 8027 [] [(27,Vb ((↑(Prod.fst (Lib.decodeGo a)):Int) !=(↑(Prod.fst (Lib.decodeGo b)):Int)),Vb false)]<|.chk 33 (decide ((0:Int)≤(↑(Prod.snd (Lib.decodeGo a)):Int)∧(↑(Prod.snd (Lib.decodeGo a)):Int)≤(↑(ByteArray.size a):Int)∧(↑(ByteArray.size a):Int)≤(↑(ByteArray.size a):Int)))<|.rw 8033 [] [(33,V.str (ByteArray.extract a (Int.toNat (↑(Prod.snd (Lib.decodeGo a)):Int)) (Int.toNat (↑(ByteArray.size a):Int))),V.str (ByteArray.extract a (Prod.snd (Lib.decodeGo a)) (ByteArray.size a)))]<|.chk 36 (decide ((0:Int)≤(↑(Prod.snd (Lib.decodeGo b)):Int)∧(↑(Prod.snd (Lib.decodeGo b)):Int)≤(↑(ByteArray.size b):Int)∧(↑(ByteArray.size b):Int)≤(↑(ByteArray.size b):Int)))<|.rw 8036 [] [(36,V.str (ByteArray.extract b (Int.toNat (↑(Prod.snd (Lib.decodeGo b)):Int)) (Int.toNat (↑(ByteArray.size b):Int))),V.str (ByteArray.extract b (Prod.snd (Lib.decodeGo b)) (ByteArray.size b)))]<|.ret (.normal,SX (ByteArray.extract a (Prod.snd (Lib.decodeGo a)) (ByteArray.size a)) (ByteArray.extract b (Prod.snd (Lib.decodeGo b)) (ByteArray.size b)))) (by kernel_rfl) ?_
    exact ⟨⟨tv,cb (by simp [ta,tb]),tv⟩,⟨tv,cb (by simp [ta,tb]),tv⟩,(Sp.fact (da)),(Sp.fact (db)),⟨tv,cb (by simp<;>omega),tv⟩,by simp<;>omega,⟨tv,by simp (disch:=omega) only [Int.toNat_natCast],tv⟩,by simp<;>omega,⟨tv,by simp (disch:=omega) only [Int.toNat_natCast],tv⟩,(ih)⟩
   ·right
    refine loop_tree draws (rd:=true) (kn:=KT) (ke:=(keeps [4])) (
     .rw 8010 [] [(10,Vb !ByteArray.toList a==[],Vb true)]<|.rw 8013 [] [(13,Vb !ByteArray.toList b==[],Vb true)]<|.call 17 (116) ([V.str a]) ([]) (Fr (V.tup [V.int .i32 (↑(Prod.fst (Lib.decodeGo a)):Int),Vi (↑(Prod.snd (Lib.decodeGo a)):Int)]) [])<|.call 22 (116) ([V.str b]) ([]) (Fr (V.tup [V.int .i32 (↑(Prod.fst (Lib.decodeGo b)):Int),Vi (↑(Prod.snd (Lib.decodeGo b)):Int)]) [])<|.rw 8027 [] [(27,Vb ((↑(Prod.fst (Lib.decodeGo a)):Int) !=(↑(Prod.fst (Lib.decodeGo b)):Int)),Vb false)]<|.chk 33 (decide ((0:Int)≤(↑(Prod.snd (Lib.decodeGo a)):Int)∧(↑(Prod.snd (Lib.decodeGo a)):Int)≤(↑(ByteArray.size a):Int)∧(↑(ByteArray.size a):Int)≤(↑(ByteArray.size a):Int)))<|.rw 8033 [] [(33,V.str (ByteArray.extract a (Int.toNat (↑(Prod.snd (Lib.decodeGo a)):Int)) (Int.toNat (↑(ByteArray.size a):Int))),V.str (ByteArray.extract a (Prod.snd (Lib.decodeGo a)) (ByteArray.size a)))]<|.chk 36 (decide ((0:Int)≤(↑(Prod.snd (Lib.decodeGo b)):Int)∧(↑(Prod.snd (Lib.decodeGo b)):Int)≤(↑(ByteArray.size b):Int)∧(↑(ByteArray.size b):Int)≤(↑(ByteArray.size b):Int)))<|.rw 8036 [] [(36,V.str (ByteArray.extract b (Int.toNat (↑(Prod.snd (Lib.decodeGo b)):Int)) (Int.toNat (↑(ByteArray.size b):Int))),V.str (ByteArray.extract b (Prod.snd (Lib.decodeGo b)) (ByteArray.size b)))]<|.ret (.normal,SX (ByteArray.extract a (Prod.snd (Lib.decodeGo a)) (ByteArray.size a)) (ByteArray.extract b (Prod.snd (Lib.decodeGo b)) (ByteArray.size b)))) (by kernel_rfl) ?_
    exact ⟨⟨tv,cb (by simp [ta,tb]),tv⟩,⟨tv,cb (by simp [ta,tb]),tv⟩,(Sp.fact (da)),(Sp.fact (db)),⟨tv,cb (by simp<;>omega),tv⟩,by simp<;>omega,⟨tv,by simp (disch:=omega) only [Int.toNat_natCast],tv⟩,by simp<;>omega,⟨tv,by simp (disch:=omega) only [Int.toNat_natCast],tv⟩,(ih)⟩
  ·have e:cmpR (((Lib.decodeGo a).1:Int)::runesS (a.extract (Lib.decodeGo a).2 a.size)) (((Lib.decodeGo b).1:Int)::runesS (b.extract (Lib.decodeGo b).2 b.size))=cmpI ((Lib.decodeGo a).1:Int) ((Lib.decodeGo b).1:Int):=by
    rw [cmpR]
    unfold cmpI
    split
    ·rfl
    ·split
     ·rfl
     ·omega
   rw [e]
   right
   refine loop_tree draws (rd:=true) (kn:=KT) (ke:=(keeps [4])) (
    .rw 8010 [] [(10,Vb !ByteArray.toList a==[],Vb true)]<|.rw 8013 [] [(13,Vb !ByteArray.toList b==[],Vb true)]<|.call 17 (116) ([V.str a]) ([]) (Fr (V.tup [V.int .i32 (↑(Prod.fst (Lib.decodeGo a)):Int),Vi (↑(Prod.snd (Lib.decodeGo a)):Int)]) [])<|.call 22 (116) ([V.str b]) ([]) (Fr (V.tup [V.int .i32 (↑(Prod.fst (Lib.decodeGo b)):Int),Vi (↑(Prod.snd (Lib.decodeGo b)):Int)]) [])<|.rw 8027 [] [(27,Vb ((↑(Prod.fst (Lib.decodeGo a)):Int) !=(↑(Prod.fst (Lib.decodeGo b)):Int)),Vb true)]<|.call 30 (117) ([V.int .i32 (↑(Prod.fst (Lib.decodeGo a)):Int),V.int .i32 (↑(Prod.fst (Lib.decodeGo b)):Int)]) ([]) (Fr (Vi (cmpI (↑(Prod.fst (Lib.decodeGo a)):Int) (↑(Prod.fst (Lib.decodeGo b)):Int))) [])<|.ret ((Ex.ret,mkSt 42 [(4,Vi (cmpI (↑(Prod.fst (Lib.decodeGo a)):Int) (↑(Prod.fst (Lib.decodeGo b)):Int)))] []))) (by kernel_rfl) ?_
   exact ⟨⟨tv,cb (by simp [ta,tb]),tv⟩,⟨tv,cb (by simp [ta,tb]),tv⟩,(Sp.fact (da)),(Sp.fact (db)),⟨tv,cb (by simp<;>omega),tv⟩,(Sp.fact (dc)),rfl,rfl⟩
theorem texts_sp (a b:ByteArray) (ha:a.size≤2 ^ 47) (hb:b.size≤2 ^ 47):Sp C1 55 [.str a,.str b] (.int .i64 (cmpR (runesS a) (runesS b))):=by
 rcases textsl (a.size+b.size) a b (Nat.le_refl _) ha hb with ⟨a',b',q1,q2,q3,h⟩ | h
 ·rw [q3]
  refine sp_tree draws (dm:=[]) (fs:=[]) (
   .loop 8 false (KT) (SX a b) (Ex.exit 0) (mkSt 42 [(0,V.str a'),(1,V.str b')] [])<|.call 41 (118) ([Vi (↑(ByteArray.size a'):Int),Vi (↑(ByteArray.size b'):Int)]) ([]) (Fr (Vi (cmpI (↑(ByteArray.size a'):Int) (↑(ByteArray.size b'):Int))) [])<|.ret (Fr (Vi (cmpI (↑(ByteArray.size a'):Int) (↑(ByteArray.size b'):Int))) [])) (by kernel_rfl) ?_
  exact ⟨(LoopR.weak (h)),(Sp.fact (cmpI_sp _ _)),rfl⟩
 ·refine sp_tree draws (dm:=[]) (fs:=[]) (
   .loop 8 false (KT) (SX a b) (Ex.ret) (mkSt 42 [(4,Vi (cmpR (runesS a) (runesS b)))] [])<|.ret (Fr (Vi (cmpR (runesS a) (runesS b))) [])) (by kernel_rfl) ?_
  exact ⟨(LoopR.weak (h)),rfl⟩
end Go.Fw
set_option maxHeartbeats 20000000
namespace Go.Fw
open Go.Proofs
def cmpV (a b:Vl):Int:=if a.k≠b.k then cmpI a.k b.k else if a.k=1 then (if a.b=b.b then 0 else if a.b then 1 else -1) else if a.k=2 then cmpI a.n b.n else if a.k=3 then cmpR (runesS a.s) (runesS b.s) else 0
theorem compare_sp (a b:Vl) (ha:FineV a) (hb:FineV b):Sp C1 23 [eV a,eV b] (.int .i64 (cmpV a b)):=by
 have ht:=texts_sp a.s b.s ha.1 hb.1
 obtain ⟨_,a1,a2⟩:=ha
 obtain ⟨_,b1,b2⟩:=hb
 refine sp_tree draws (dm:=[]) (fs:=[]) (
  .ite 2009 (Vl.k a !=Vl.k b)
  (.rw 8010 [] [(9,Vb (Vl.k a !=Vl.k b),Vb true)]<|.call 14 (53) ([Vu (Vl.k a),Vu (Vl.k b)]) ([]) (Fr (Vi (cmpI (Vl.k a) (Vl.k b))) [])<|.ret (Fr (Vi (cmpI (Vl.k a) (Vl.k b))) []))
  (.ite 1020 ((Vl.k a==(1:Int))==true)
  (.rw 8020 [] [(9,Vb (Vl.k a !=Vl.k b),Vb false),(18,Vb (Vl.k a==(1:Int)),Vb true)]<|.tt 1021 ((Vl.k a==(1:Int))==true)<|.tt 1022 ((Vl.k a==(1:Int))==true)<|.tt 1023 ((Vl.k a==(1:Int))==true)<|.tt 1024 ((Vl.k a==(1:Int))==true)<|.tt 25 (Vl.k a==(1:Int))<|.ite 2015 (!Vl.b a==Vl.b b)
  (.rw 8026 [] [(15,Vb !Vl.b a==Vl.b b,Vb true),(19,Vb (Vl.k a==(1:Int)),Vb true)]<|.ite 2027 (Vl.b a)
  (.rw 8004 [] [(21,Vb (Vl.b a),Vb true),(24,Vb !Vl.b a==Vl.b b,Vb true)]<|.ret (Fr (Vi (1:Int)) []))
  (.ret (Fr (Vi (-1:Int)) [])))
  (.rw 8031 [] [(31,Vb (Vl.k a==(2:Int)),Vb false)]<|.rw 8040 [] [(40,Vb (Vl.k a==(3:Int)),Vb false)]<|.ret (Fr (Vi (0:Int)) [])))
  (.ff 1021 ((Vl.k a==(1:Int))==true)<|.ff 1022 ((Vl.k a==(1:Int))==true)<|.ff 1023 ((Vl.k a==(1:Int))==true)<|.ff 1024 ((Vl.k a==(1:Int))==true)<|.ff 25 (Vl.k a==(1:Int))<|.ite 2028 (Vl.k a==(2:Int))
  (.rw 8032 [] [(9,Vb (Vl.k a !=Vl.k b),Vb false)]<|.call 36 (54) ([Vi (Vl.n a),Vi (Vl.n b)]) ([]) (Fr (Vi (cmpI (Vl.n a) (Vl.n b))) [])<|.ret (Fr (Vi (cmpI (Vl.n a) (Vl.n b))) []))
  (.ite 2037 (Vl.k a==(3:Int))
  (.rw 8041 [] [(9,Vb (Vl.k a !=Vl.k b),Vb false),(18,Vb (Vl.k a==(1:Int)),Vb false),(28,Vb (Vl.k a==(2:Int)),Vb false),(37,Vb (Vl.k a==(3:Int)),Vb true)]<|.call 45 (55) ([V.str (Vl.s a),V.str (Vl.s b)]) ([]) (Fr (Vi (cmpR (runesS (Vl.s a)) (runesS (Vl.s b)))) [])<|.ret (Fr (Vi (cmpR (runesS (Vl.s a)) (runesS (Vl.s b)))) []))
  (.ret (Fr (Vi (0:Int)) [])))))) (by kernel_rfl) ?_
 exact ⟨fun h0=>have h0p:¬Vl.k a=Vl.k b:=(by simpa using h0);⟨⟨tv,cb (h0),tv⟩,(Sp.fact (cmpK_sp _ _)),by show _=_;(unfold cmpV;grind)⟩,
  fun h0=>have h0p:Vl.k a=Vl.k b:=(by simpa using h0);⟨fun h1=>have h1p:Vl.k a=(1:Int):=(by simpa using h1);⟨⟨tv,cb (h0),cb (by simp<;>omega),tv⟩,(h1),(h1),(h1),(h1),by simp<;>omega,fun h2=>have h2p:¬Vl.b a=Vl.b b:=(by simpa using h2);⟨⟨tv,cb (h2),cb (by simp<;>omega),tv⟩,fun h3=>⟨⟨tv,cb (h3),cb (h2),tv⟩,by show _=_;(unfold cmpV;grind)⟩,
  fun h3=>by show _=_;(unfold cmpV;grind)⟩,
  fun h2=>have h2p:Vl.b a=Vl.b b:=(by simpa using h2);⟨⟨tv,cb (by simp<;>omega),tv⟩,⟨tv,cb (by simp<;>omega),tv⟩,by show _=_;(unfold cmpV;grind)⟩⟩,
  fun h1=>have h1p:¬Vl.k a=(1:Int):=(by simpa using h1);⟨(h1),(h1),(h1),(h1),by simp<;>omega,fun h2=>have h2p:Vl.k a=(2:Int):=(by simpa using h2);⟨⟨tv,cb (h0),tv⟩,(Sp.fact (cmpL_sp _ _)),by show _=_;(unfold cmpV;grind)⟩,
  fun h2=>have h2p:¬Vl.k a=(2:Int):=(by simpa using h2);⟨fun h3=>have h3p:Vl.k a=(3:Int):=(by simpa using h3);⟨⟨tv,cb (h0),cb (by simp<;>omega),cb (h2),cb (h3),tv⟩,(Sp.fact (ht)),by show _=_;(unfold cmpV;grind)⟩,
  fun h3=>have h3p:¬Vl.k a=(3:Int):=(by simpa using h3);by show _=_;(unfold cmpV;grind)⟩⟩⟩⟩
def rFrom (s:ByteArray) (p:Nat):List Int:=runesL (s.data.toList.drop p)
theorem rFrom_end (s:ByteArray) (p:Nat) (h:s.size≤p):rFrom s p=[]:=by
 unfold rFrom
 rw [List.drop_eq_nil_of_le (by rw [←Lib.size_eq];exact h)]
 rfl
theorem rFrom_step (s:ByteArray) (p:Nat) (h:p<s.size):rFrom s p=((Utf8.decode s p).1:Int)::rFrom s (p+(Utf8.decode s p).2):=by
 unfold rFrom
 rw [runesL_step _ (by intro e;have:=congrArg List.length e;rw [List.length_drop,←Lib.size_eq] at this;simp at this;omega),Lib.decodeL_drop,List.drop_drop]
abbrev KN:List (Nat×Fm):=[(0,.of .keep),(3,.of (.lin 21 1)),(7,.of .keep)]
abbrev SN (s:ByteArray) (p:Nat) (os:List Int):St:=mkSt 16 [(0,.str s),(3,.lin true 21 1 (os.map (V.int .i32))),(7,.ptr 0 0)] [.iter s p]
theorem runesl (s:ByteArray) (hs:s.size≤2 ^ 40):∀ k p (os:List Int),s.size≤p+k→os.length≤p→LoopK C1 167 24 KN (SN s p os) (.exit 0) (mkSt 16 [(3,.lin true 21 1 ((os++rFrom s p).map (V.int .i32)))] [])
 | 0,p,os,h,ho=>by
  rw [rFrom_end s p (by omega),List.append_nil]
  refine loop_tree draws (rd:=true) (kn:=KN) (ke:=[(3,.of (.lin 21 1))]) (
   .ff 8 (decide (p<ByteArray.size s))<|.to 24001 ([.cut 0])<|.ret ((Ex.exit 0,mkSt 16 [(3,V.lin true 21 1 (List.map (V.int .i32) os))] []))) (by kernel_rfl) ?_
  exact ⟨by (simp<;>omega),rfl,rfl⟩
 | k+1,p,os,h,ho=>by
  by_cases hp:p<s.size
  ·have hw:=decode_width s p
   have ih:=runesl s hs k (p+(Utf8.decode s p).2) (os++[((Utf8.decode s p).1:Int)]) (by omega) (by simp;omega)
   rw [rFrom_step s p hp]
   rw [List.append_assoc] at ih
   refine loop_tree draws (rd:=true) (kn:=KN) (ke:=[(3,.of (.lin 21 1))]) (
    .tt 8 (decide (p<ByteArray.size s))<|.chk 14 (decide ((List.length (List.map (V.int .i32) os)+1)*4≤140737488355328))<|.rw 8014 [] [(14,V.lin true 21 1 (List.map (V.int .i32) os++[V.int .i32 (↑(Prod.fst (Utf8.decode s p)):Int)]),V.lin true 21 1 (List.map (V.int .i32) (os++[(↑(Prod.fst (Utf8.decode s p)):Int)])))]<|.ret (.normal,SN s (p+Prod.snd (Utf8.decode s p)) (os++[(↑(Prod.fst (Utf8.decode s p)):Int)]))) (by kernel_rfl) ?_
   exact ⟨by simp<;>omega,by simp<;>omega,⟨tv,by simp (disch:=omega) only [app_int],tv⟩,(ih)⟩
  ·rw [rFrom_end s p (by omega),List.append_nil]
   refine loop_tree draws (rd:=true) (kn:=KN) (ke:=[(3,.of (.lin 21 1))]) (
    .ff 8 (decide (p<ByteArray.size s))<|.to 24001 ([.cut 0])<|.ret ((Ex.exit 0,mkSt 16 [(3,V.lin true 21 1 (List.map (V.int .i32) os))] []))) (by kernel_rfl) ?_
   exact ⟨by (simp<;>omega),rfl,rfl⟩
theorem runes_sp (s:ByteArray) (h:s.size≤2 ^ 40):Sp C1 167 [.str s] (.imm false 1 ((runesS s).map (V.int .i32))):=by
 have hl:=runesl s h s.size 0 [] (by omega) (by simp)
 refine sp_tree draws (dm:=[0]) (fs:=[.of (.imm 1)]) (
  .loop 24 false (KN) (SN s 0 []) (Ex.exit 0) (mkSt 16 [(3,V.lin true 21 1 (List.map (V.int .i32) ([]++rFrom s 0)))] [])<|.rw 8015 [] [(3,V.lin false 21 1 (List.map (V.int .i32) ([]++rFrom s 0)),V.lin false 21 1 (List.map (V.int .i32) (rFrom s 0))),(15,V.imm false 1 (List.map (V.int .i32) ([]++rFrom s 0)),V.imm false 1 (List.map (V.int .i32) (rFrom s 0)))]<|.ret (Fr (V.imm false 1 (List.map (V.int .i32) (rFrom s 0))) [])) (by kernel_rfl) ?_
 exact ⟨(LoopR.weak (hl)),⟨tv,by simp (disch:=omega) only [List.nil_append],by simp (disch:=omega) only [List.nil_append],tv⟩,rfl⟩
abbrev KM:List (Nat×Fm):=keeps [3,5]
abbrev SM (s:ByteArray) (p:Nat) (n:Nat):St:=mkSt 11 [(3,.int .i64 (n:Int)),(5,.ptr 0 0)] [.iter s p]
theorem vrunesl (s:ByteArray) (hs:s.size≤2 ^ 40):∀ k p n,s.size≤p+k→n≤p→LoopK C1 136 24 KM (SM s p n) (.exit 0) (mkSt 11 [(3,.int .i64 ((n+(rFrom s p).length:Nat):Int))] [])
 | 0,p,n,h,ho=>by
  rw [rFrom_end s p (by omega)]
  refine loop_tree draws (rd:=true) (kn:=KM) (ke:=(keeps [3])) (
   .ff 6 (decide (p<ByteArray.size s))<|.to 24001 ([.cut 0])<|.ret ((Ex.exit 0,mkSt 11 [(3,Vi (↑n:Int))] []))) (by kernel_rfl) ?_
  exact ⟨by (simp<;>omega),rfl,rfl⟩
 | k+1,p,n,h,ho=>by
  by_cases hp:p<s.size
  ·have hw:=decode_width s p
   have ih:=vrunesl s hs k (p+(Utf8.decode s p).2) (n+1) (by omega) (by omega)
   rw [rFrom_step s p hp]
   rw [show n+1+(rFrom s (p+(Utf8.decode s p).2)).length=n+(((Utf8.decode s p).1:Int)::rFrom s (p+(Utf8.decode s p).2)).length by simp;omega] at ih
   refine loop_tree draws (rd:=true) (kn:=KM) (ke:=(keeps [3])) (
    .tt 6 (decide (p<ByteArray.size s))<|.rw 8009 [] [(9,Vi (IntKind.wrap IntKind.i64 ((↑n:Int)+(1:Int))),Vi (↑(n+1):Int))]<|.ret (.normal,SM s (p+Prod.snd (Utf8.decode s p)) (n+1))) (by kernel_rfl) ?_
   exact ⟨by simp<;>omega,⟨tv,by simp (disch:=omega) only [cast_succ,wrap_i64],tv⟩,(ih)⟩
  ·rw [rFrom_end s p (by omega)]
   refine loop_tree draws (rd:=true) (kn:=KM) (ke:=(keeps [3])) (
    .ff 6 (decide (p<ByteArray.size s))<|.to 24001 ([.cut 0])<|.ret ((Ex.exit 0,mkSt 11 [(3,Vi (↑n:Int))] []))) (by kernel_rfl) ?_
   exact ⟨by (simp<;>omega),rfl,rfl⟩
theorem vrunes_sp (s:ByteArray) (h:s.size≤2 ^ 40):Sp C1 136 [.str s] (.int .i64 ((runesS s).length:Int)):=by
 have hl:=vrunesl s h s.size 0 0 (by omega) (by omega)
 rw [show 0+(rFrom s 0).length=(runesS s).length by rw [Nat.zero_add];rfl] at hl
 refine sp_tree draws (dm:=[]) (fs:=[]) (
  .loop 24 false (KM) (SM s 0 0) (Ex.exit 0) (mkSt 11 [(3,Vi (↑(List.length (runesS s)):Int))] [])<|.ret (Fr (Vi (↑(List.length (runesS s)):Int)) [])) (by kernel_rfl) ?_
 exact ⟨(LoopR.weak (hl)),rfl⟩
theorem runes_len:∀ (n:Nat) (l:List UInt8),(rn n l).length≤l.length
 | 0,l=>by simp [rn]
 | n+1,l=>by
  unfold rn
  split
  ·simp
  ·rename_i hne
   have hw:=Lib.decodeL_width l
   have:=runes_len n (l.drop (Lib.decodeL l).2)
   have hl:0<l.length:=List.length_pos_iff.2 hne
   rw [List.length_drop] at this
   simp only [List.length_cons]
   omega
theorem runesS_len (s:ByteArray):(runesS s).length≤s.size:=by
 rw [Lib.size_eq];exact runes_len _ _
theorem vrunes2_sp (s:ByteArray) (h:s.size≤2 ^ 40):Sp C1 195 [.str s] (.int .i64 ((runesS s).length:Int)):=by
 refine sp_tree draws (dm:=[]) (fs:=[]) (
  .call 4 (167) ([V.str s]) ([]) (Fr (V.imm false 1 (List.map (V.int .i32) (runesS s))) [])<|.rw 8005 [] [(5,Vi (↑(List.length (List.map (V.int .i32) (runesS s))):Int),Vi (↑(List.length (runesS s)):Int))]<|.ret (Fr (Vi (↑(List.length (runesS s)):Int)) [])) (by kernel_rfl) ?_
 exact ⟨(Sp.fact (runes_sp _ h)),⟨tv,by simp (disch:=omega) only [List.length_map],tv⟩,rfl⟩
abbrev KC:List (Nat×Fm):=keeps [5,6,7]
abbrev eR (xs:List Int):V:=.imm false 1 (xs.map (V.int .i32))
abbrev SC (xs ys:List Int) (i:Nat):St:=mkSt 115 [(5,eR xs),(6,eR ys),(7,.int .i64 (i:Int))] []
theorem cmpR_end (xs ys:List Int) (i:Nat) (h:i=xs.length∨i=ys.length) (h1:i≤xs.length) (h2:i≤ys.length):cmpR (xs.drop i) (ys.drop i)=cmpI (xs.length:Int) (ys.length:Int):=by
 unfold cmpI
 by_cases ha:i=xs.length
 ·rw [List.drop_eq_nil_of_le (by omega:xs.length≤i)]
  by_cases hb:i=ys.length
  ·rw [List.drop_eq_nil_of_le (by omega:ys.length≤i),if_neg (by omega),if_neg (by omega)];rfl
  ·rw [List.drop_eq_getElem_cons (by omega:i<ys.length),if_pos (by omega)];rfl
 ·have hb:i=ys.length:=by omega
  rw [List.drop_eq_nil_of_le (by omega:ys.length≤i),List.drop_eq_getElem_cons (by omega:i<xs.length),if_neg (by omega),if_pos (by omega)];rfl
theorem cmp2l (xs ys:List Int) (h1:xs.length≤2 ^ 40) (h2:ys.length≤2 ^ 40):∀ k i,xs.length≤i+k→i≤xs.length→i≤ys.length →
  (cmpR (xs.drop i) (ys.drop i)=cmpI (xs.length:Int) (ys.length:Int)∧LoopK C1 107 88 KC (SC xs ys i) (.exit 1) (mkSt 115 [(5,eR xs),(6,eR ys)] [])) ∨
  LoopK C1 107 88 KC (SC xs ys i) .ret (mkSt 115 [(4,.int .i64 (cmpR (xs.drop i) (ys.drop i)))] []):=by
 intro k
 induction k with
 | zero =>
  intro i h hx hy
  refine .inl ⟨cmpR_end xs ys i (by omega) hx hy,?_⟩
  refine loop_tree draws (rd:=true) (kn:=KC) (ke:=(keeps [5,6])) (
   .rw 8066 [] [(66,Vi (↑(List.length (List.map (V.int .i32) xs)):Int),Vi (↑(List.length xs):Int))]<|.rw 8067 [] [(67,Vb (decide ((↑i:Int)<(↑(List.length xs):Int))),Vb false)]<|.ret ((Ex.exit 1,mkSt 115 [(5,V.imm false 1 (List.map (V.int .i32) xs)),(6,V.imm false 1 (List.map (V.int .i32) ys))] []))) (by kernel_rfl) ?_
  exact ⟨⟨tv,by simp (disch:=omega) only [List.length_map],tv⟩,⟨tv,cb (by simp<;>omega),tv⟩,rfl,rfl⟩
 | succ k ihk =>
  intro i h hx hy
  by_cases ha:i=xs.length
  ·refine .inl ⟨cmpR_end xs ys i (by omega) hx hy,?_⟩
   refine loop_tree draws (rd:=true) (kn:=KC) (ke:=(keeps [5,6])) (
    .rw 8066 [] [(66,Vi (↑(List.length (List.map (V.int .i32) xs)):Int),Vi (↑(List.length xs):Int))]<|.rw 8067 [] [(67,Vb (decide ((↑i:Int)<(↑(List.length xs):Int))),Vb false)]<|.ret ((Ex.exit 1,mkSt 115 [(5,V.imm false 1 (List.map (V.int .i32) xs)),(6,V.imm false 1 (List.map (V.int .i32) ys))] []))) (by kernel_rfl) ?_
   exact ⟨⟨tv,by simp (disch:=omega) only [List.length_map],tv⟩,⟨tv,cb (by simp<;>omega),tv⟩,rfl,rfl⟩
  by_cases hb:i=ys.length
  ·refine .inl ⟨cmpR_end xs ys i (by omega) hx hy,?_⟩
   refine loop_tree draws (rd:=true) (kn:=KC) (ke:=(keeps [5,6])) (
    .rw 8066 [] [(66,Vi (↑(List.length (List.map (V.int .i32) xs)):Int),Vi (↑(List.length xs):Int))]<|.rw 8067 [] [(67,Vb (decide ((↑i:Int)<(↑(List.length xs):Int))),Vb true)]<|.rw 8071 [] [(71,Vi (↑(List.length (List.map (V.int .i32) ys)):Int),Vi (↑(List.length ys):Int))]<|.rw 8072 [] [(72,Vb (decide ((↑i:Int)<(↑(List.length ys):Int))),Vb false)]<|.ret ((Ex.exit 1,mkSt 115 [(5,V.imm false 1 (List.map (V.int .i32) xs)),(6,V.imm false 1 (List.map (V.int .i32) ys))] []))) (by kernel_rfl) ?_
   exact ⟨⟨tv,by simp (disch:=omega) only [List.length_map],tv⟩,⟨tv,cb (by simp<;>omega),tv⟩,⟨tv,by simp (disch:=omega) only [List.length_map],tv⟩,⟨tv,cb (by simp<;>omega),tv⟩,rfl,rfl⟩
  obtain ⟨x,hxi⟩:∃ x,xs[i]?=some x:=⟨xs[i]'(by omega),List.getElem?_eq_getElem (by omega)⟩
  obtain ⟨y,hyi⟩:∃ y,ys[i]?=some y:=⟨ys[i]'(by omega),List.getElem?_eq_getElem (by omega)⟩
  have e:cmpR (xs.drop i) (ys.drop i)=if x<y then -1 else if y<x then 1 else cmpR (xs.drop (i+1)) (ys.drop (i+1)):=by
   obtain ⟨q1,rfl⟩:=List.getElem?_eq_some_iff.1 hxi
   obtain ⟨q2,rfl⟩:=List.getElem?_eq_some_iff.1 hyi
   rw [List.drop_eq_getElem_cons q1,List.drop_eq_getElem_cons q2]
   rfl
  by_cases he:x=y
  ·have e:cmpR (xs.drop i) (ys.drop i)=cmpR (xs.drop (i+1)) (ys.drop (i+1)):=by rw [e,if_neg (by omega),if_neg (by omega)]
   rw [e]
   rcases ihk (i+1) (by omega) (by omega) (by omega) with ⟨q,ih⟩ | ih
   ·refine .inl ⟨q,?_⟩
    refine loop_tree draws (rd:=true) (kn:=KC) (ke:=(keeps [5,6])) (
     .rw 8066 [] [(66,Vi (↑(List.length (List.map (V.int .i32) xs)):Int),Vi (↑(List.length xs):Int))]<|.rw 8067 [] [(67,Vb (decide ((↑i:Int)<(↑(List.length xs):Int))),Vb true)]<|.rw 8071 [] [(71,Vi (↑(List.length (List.map (V.int .i32) ys)):Int),Vi (↑(List.length ys):Int))]<|.rw 8072 [] [(72,Vb (decide ((↑i:Int)<(↑(List.length ys):Int))),Vb true)]<|.opt 78 (idx (List.map (V.int .i32) xs) (↑i:Int)) (V.int .i32 x)<|.opt 82 (idx (List.map (V.int .i32) ys) (↑i:Int)) (V.int .i32 y)<|.rw 8084 [] [(84,Vb (x !=y),Vb false)]<|.rw 8075 [] [(75,Vi (IntKind.wrap IntKind.i64 ((↑i:Int)+(1:Int))),Vi (↑(i+1):Int))]<|.ret (.normal,SC xs ys (i+1))) (by kernel_rfl) ?_
    exact ⟨⟨tv,by simp (disch:=omega) only [List.length_map],tv⟩,⟨tv,cb (by simp<;>omega),tv⟩,⟨tv,by simp (disch:=omega) only [List.length_map],tv⟩,⟨tv,cb (by simp<;>omega),tv⟩,(idx_map _ hxi),(idx_map _ hyi),⟨tv,cb (by simp<;>omega),tv⟩,⟨tv,by simp (disch:=omega) only [cast_succ,wrap_i64],tv⟩,(ih)⟩
   ·right
    refine loop_tree draws (rd:=true) (kn:=KC) (ke:=(keeps [4])) (
     .rw 8066 [] [(66,Vi (↑(List.length (List.map (V.int .i32) xs)):Int),Vi (↑(List.length xs):Int))]<|.rw 8067 [] [(67,Vb (decide ((↑i:Int)<(↑(List.length xs):Int))),Vb true)]<|.rw 8071 [] [(71,Vi (↑(List.length (List.map (V.int .i32) ys)):Int),Vi (↑(List.length ys):Int))]<|.rw 8072 [] [(72,Vb (decide ((↑i:Int)<(↑(List.length ys):Int))),Vb true)]<|.opt 78 (idx (List.map (V.int .i32) xs) (↑i:Int)) (V.int .i32 x)<|.opt 82 (idx (List.map (V.int .i32) ys) (↑i:Int)) (V.int .i32 y)<|.rw 8084 [] [(84,Vb (x !=y),Vb false)]<|.rw 8075 [] [(75,Vi (IntKind.wrap IntKind.i64 ((↑i:Int)+(1:Int))),Vi (↑(i+1):Int))]<|.ret (.normal,SC xs ys (i+1))) (by kernel_rfl) ?_
    exact ⟨⟨tv,by simp (disch:=omega) only [List.length_map],tv⟩,⟨tv,cb (by simp<;>omega),tv⟩,⟨tv,by simp (disch:=omega) only [List.length_map],tv⟩,⟨tv,cb (by simp<;>omega),tv⟩,(idx_map _ hxi),(idx_map _ hyi),⟨tv,cb (by simp<;>omega),tv⟩,⟨tv,by simp (disch:=omega) only [cast_succ,wrap_i64],tv⟩,(ih)⟩
  ·right
   by_cases hl:x<y
   ·rw [e,if_pos hl]
    refine loop_tree draws (rd:=true) (kn:=KC) (ke:=(keeps [4])) (
     .rw 8066 [] [(66,Vi (↑(List.length (List.map (V.int .i32) xs)):Int),Vi (↑(List.length xs):Int))]<|.rw 8067 [] [(67,Vb (decide ((↑i:Int)<(↑(List.length xs):Int))),Vb true)]<|.rw 8071 [] [(71,Vi (↑(List.length (List.map (V.int .i32) ys)):Int),Vi (↑(List.length ys):Int))]<|.rw 8072 [] [(72,Vb (decide ((↑i:Int)<(↑(List.length ys):Int))),Vb true)]<|.opt 78 (idx (List.map (V.int .i32) xs) (↑i:Int)) (V.int .i32 x)<|.opt 82 (idx (List.map (V.int .i32) ys) (↑i:Int)) (V.int .i32 y)<|.rw 8084 [] [(84,Vb (x !=y),Vb true)]<|.opt 87 (idx (List.map (V.int .i32) xs) (↑i:Int)) (V.int .i32 x)<|.opt 91 (idx (List.map (V.int .i32) ys) (↑i:Int)) (V.int .i32 y)<|.rw 8093 [] [(93,Vb (decide (x<y)),Vb true)]<|.opt 96 (idx (List.map (V.int .i32) xs) (↑i:Int)) (V.int .i32 x)<|.opt 100 (idx (List.map (V.int .i32) ys) (↑i:Int)) (V.int .i32 y)<|.rw 8102 [] [(102,Vb (decide (x>y)),Vb false)]<|.call 103 (166) ([Vb true,Vb false]) ([]) (Fr (Vi (if true=true then (-1:Int) else if false=true then (1:Int) else (0:Int))) [])<|.ret ((Ex.ret,mkSt 115 [(4,Vi (-1:Int))] []))) (by kernel_rfl) ?_
    exact ⟨⟨tv,by simp (disch:=omega) only [List.length_map],tv⟩,⟨tv,cb (by simp<;>omega),tv⟩,⟨tv,by simp (disch:=omega) only [List.length_map],tv⟩,⟨tv,cb (by simp<;>omega),tv⟩,(idx_map _ hxi),(idx_map _ hyi),⟨tv,cb (by simp<;>omega),tv⟩,(idx_map _ hxi),(idx_map _ hyi),⟨tv,cb (by simp<;>omega),tv⟩,(idx_map _ hxi),(idx_map _ hyi),⟨tv,cb (by simp<;>omega),tv⟩,(Sp.fact (order_sp _ _)),rfl,rfl⟩
   ·rw [e,if_neg hl,if_pos (by omega)]
    refine loop_tree draws (rd:=true) (kn:=KC) (ke:=(keeps [4])) (
     .rw 8066 [] [(66,Vi (↑(List.length (List.map (V.int .i32) xs)):Int),Vi (↑(List.length xs):Int))]<|.rw 8067 [] [(67,Vb (decide ((↑i:Int)<(↑(List.length xs):Int))),Vb true)]<|.rw 8071 [] [(71,Vi (↑(List.length (List.map (V.int .i32) ys)):Int),Vi (↑(List.length ys):Int))]<|.rw 8072 [] [(72,Vb (decide ((↑i:Int)<(↑(List.length ys):Int))),Vb true)]<|.opt 78 (idx (List.map (V.int .i32) xs) (↑i:Int)) (V.int .i32 x)<|.opt 82 (idx (List.map (V.int .i32) ys) (↑i:Int)) (V.int .i32 y)<|.rw 8084 [] [(84,Vb (x !=y),Vb true)]<|.opt 87 (idx (List.map (V.int .i32) xs) (↑i:Int)) (V.int .i32 x)<|.opt 91 (idx (List.map (V.int .i32) ys) (↑i:Int)) (V.int .i32 y)<|.rw 8093 [] [(93,Vb (decide (x<y)),Vb false)]<|.opt 96 (idx (List.map (V.int .i32) xs) (↑i:Int)) (V.int .i32 x)<|.opt 100 (idx (List.map (V.int .i32) ys) (↑i:Int)) (V.int .i32 y)<|.rw 8102 [] [(102,Vb (decide (x>y)),Vb true)]<|.call 103 (166) ([Vb false,Vb true]) ([]) (Fr (Vi (if false=true then (-1:Int) else if true=true then (1:Int) else (0:Int))) [])<|.ret ((Ex.ret,mkSt 115 [(4,Vi (1:Int))] []))) (by kernel_rfl) ?_
    exact ⟨⟨tv,by simp (disch:=omega) only [List.length_map],tv⟩,⟨tv,cb (by simp<;>omega),tv⟩,⟨tv,by simp (disch:=omega) only [List.length_map],tv⟩,⟨tv,cb (by simp<;>omega),tv⟩,(idx_map _ hxi),(idx_map _ hyi),⟨tv,cb (by simp<;>omega),tv⟩,(idx_map _ hxi),(idx_map _ hyi),⟨tv,cb (by simp<;>omega),tv⟩,(idx_map _ hxi),(idx_map _ hyi),⟨tv,cb (by simp<;>omega),tv⟩,(Sp.fact (order_sp _ _)),rfl,rfl⟩
theorem compare2_sp (a b:Vl) (ha:FineV a) (hb:FineV b) (ha4:a.s.size≤2 ^ 40) (hb4:b.s.size≤2 ^ 40):Sp C1 107 [eV a,eV b] (.int .i64 (cmpV a b)):=by
 obtain ⟨_,a1,a2⟩:=ha
 obtain ⟨_,b1,b2⟩:=hb
 have h1:=runesS_len a.s
 have h2:=runesS_len b.s
 rcases cmp2l (runesS a.s) (runesS b.s) (by omega) (by omega) (runesS a.s).length 0 (by omega) (by omega) (by omega) with ⟨q,hl⟩ | hl
 ·rw [List.drop_zero,List.drop_zero] at q
  refine sp_tree draws (dm:=[]) (fs:=[]) (
   .ite 2012 (Vl.k a !=Vl.k b)
   (.rw 8013 [] [(12,Vb (Vl.k a !=Vl.k b),Vb true)]<|.call 23 (166) ([Vb (decide (Vl.k a<Vl.k b)),Vb (decide (Vl.k a>Vl.k b))]) ([]) (Fr (Vi (if decide (Vl.k a<Vl.k b)=true then (-1:Int) else if decide (Vl.k a>Vl.k b)=true then (1:Int) else (0:Int))) [])<|.ret (Fr (Vi (if decide (Vl.k a<Vl.k b)=true then (-1:Int) else if decide (Vl.k a>Vl.k b)=true then (1:Int) else (0:Int))) []))
   (.ite 2026 (Vl.k a==(1:Int))
   (.rw 8028 [] [(12,Vb (Vl.k a !=Vl.k b),Vb false),(26,Vb (Vl.k a==(1:Int)),Vb true)]<|.ite 1032 ((!Vl.b a)==true)
   (.rw 8032 [] [(27,Vb (Vl.k a==(1:Int)),Vb true),(29,Vb (Vl.b a),Vb false),(30,Vb !Vl.b a,Vb true)]<|.tt 1033 ((!Vl.b a)==true)<|.tt 34 (!Vl.b a)<|.ff 1038 (Vl.b a==true)<|.ff 1039 (Vl.b a==true)<|.ff 1040 (Vl.b a==true)<|.ff 41 (Vl.b a)<|.call 42 (166) ([Vb (Vl.b b),Vb false]) ([]) (Fr (Vi (if Vl.b b=true then (-1:Int) else if false=true then (1:Int) else (0:Int))) [])<|.ret (Fr (Vi (if Vl.b b=true then (-1:Int) else (0:Int))) []))
   (.ff 1033 ((!Vl.b a)==true)<|.ff 34 (!Vl.b a)<|.tt 1038 (Vl.b a==true)<|.tt 1039 (Vl.b a==true)<|.tt 1040 (Vl.b a==true)<|.tt 41 (Vl.b a)<|.call 42 (166) ([Vb false,Vb !Vl.b b]) ([]) (Fr (Vi (if false=true then (-1:Int) else if (!Vl.b b)=true then (1:Int) else (0:Int))) [])<|.ret (Fr (Vi (if false=true then (-1:Int) else if (!Vl.b b)=true then (1:Int) else (0:Int))) [])))
   (.ite 2043 (Vl.k a==(2:Int))
   (.rw 8045 [] [(12,Vb (Vl.k a !=Vl.k b),Vb false),(43,Vb (Vl.k a==(2:Int)),Vb true)]<|.call 55 (166) ([Vb (decide (Vl.n a<Vl.n b)),Vb (decide (Vl.n a>Vl.n b))]) ([]) (Fr (Vi (if decide (Vl.n a<Vl.n b)=true then (-1:Int) else if decide (Vl.n a>Vl.n b)=true then (1:Int) else (0:Int))) [])<|.ret (Fr (Vi (if decide (Vl.n a<Vl.n b)=true then (-1:Int) else if decide (Vl.n a>Vl.n b)=true then (1:Int) else (0:Int))) []))
   (.ite 2056 (Vl.k a==(3:Int))
   (.rw 8058 [] [(12,Vb (Vl.k a !=Vl.k b),Vb false),(26,Vb (Vl.k a==(1:Int)),Vb false),(43,Vb (Vl.k a==(2:Int)),Vb false),(56,Vb (Vl.k a==(3:Int)),Vb true)]<|.call 60 (167) ([V.str (Vl.s a)]) ([]) (Fr (V.imm false 1 (List.map (V.int .i32) (runesS (Vl.s a)))) [])<|.call 63 (167) ([V.str (Vl.s b)]) ([]) (Fr (V.imm false 1 (List.map (V.int .i32) (runesS (Vl.s b)))) [])<|.to 8007 ([.cut 0])<|.loop 88 false (KC) (SC (runesS (Vl.s a)) (runesS (Vl.s b)) 0) (Ex.exit 1) (mkSt 115 [(5,eR (runesS (Vl.s a))),(6,eR (runesS (Vl.s b)))] [])<|.rw 8105 [] [(105,Vi (↑(List.length (List.map (V.int .i32) (runesS (Vl.s a)))):Int),Vi (↑(List.length (runesS (Vl.s a))):Int))]<|.rw 8107 [] [(107,Vi (↑(List.length (List.map (V.int .i32) (runesS (Vl.s b)))):Int),Vi (↑(List.length (runesS (Vl.s b))):Int))]<|.rw 8110 [] [(110,Vi (↑(List.length (List.map (V.int .i32) (runesS (Vl.s a)))):Int),Vi (↑(List.length (runesS (Vl.s a))):Int))]<|.rw 8112 [] [(112,Vi (↑(List.length (List.map (V.int .i32) (runesS (Vl.s b)))):Int),Vi (↑(List.length (runesS (Vl.s b))):Int))]<|.call 114 (166) ([Vb (decide ((↑(List.length (runesS (Vl.s a))):Int)<(↑(List.length (runesS (Vl.s b))):Int))),Vb (decide ((↑(List.length (runesS (Vl.s a))):Int)>(↑(List.length (runesS (Vl.s b))):Int)))]) ([]) (Fr (Vi (if decide ((↑(List.length (runesS (Vl.s a))):Int)<(↑(List.length (runesS (Vl.s b))):Int))=true then (-1:Int) else if decide ((↑(List.length (runesS (Vl.s a))):Int)>(↑(List.length (runesS (Vl.s b))):Int))=true then (1:Int) else (0:Int))) [])<|.ret (Fr (Vi (if decide ((↑(List.length (runesS (Vl.s a))):Int)<(↑(List.length (runesS (Vl.s b))):Int))=true then (-1:Int) else if decide ((↑(List.length (runesS (Vl.s a))):Int)>(↑(List.length (runesS (Vl.s b))):Int))=true then (1:Int) else (0:Int))) []))
   (.ret (Fr (Vi (0:Int)) [])))))) (by kernel_rfl) ?_
  exact ⟨fun h0=>have h0p:¬Vl.k a=Vl.k b:=(by simpa using h0);⟨⟨tv,cb (h0),tv⟩,(Sp.fact (order_sp _ _)),by show _=_;(unfold cmpV;simp only [q];unfold cmpI;grind)⟩,
   fun h0=>have h0p:Vl.k a=Vl.k b:=(by simpa using h0);⟨fun h1=>have h1p:Vl.k a=(1:Int):=(by simpa using h1);⟨⟨tv,cb (h0),cb (h1),tv⟩,fun h2=>have h2p:Vl.b a=false:=(by simpa using h2);⟨⟨tv,cb (h1),cb (h2p),cb (by simp<;>omega),tv⟩,(h2),by simp<;>omega,by simp<;>omega,by simp<;>omega,by simp<;>omega,(h2p),(Sp.fact (order_sp _ _)),by show _=_;(unfold cmpV;simp only [q];unfold cmpI;grind)⟩,
   fun h2=>have h2p:Vl.b a=true:=(by simpa using h2);⟨(h2),by simp<;>omega,by simp<;>omega,by simp<;>omega,by simp<;>omega,(h2p),(Sp.fact (order_sp _ _)),by show _=_;(unfold cmpV;simp only [q];unfold cmpI;grind)⟩⟩,
   fun h1=>have h1p:¬Vl.k a=(1:Int):=(by simpa using h1);⟨fun h2=>have h2p:Vl.k a=(2:Int):=(by simpa using h2);⟨⟨tv,cb (h0),cb (h2),tv⟩,(Sp.fact (order_sp _ _)),by show _=_;(unfold cmpV;simp only [q];unfold cmpI;grind)⟩,
   fun h2=>have h2p:¬Vl.k a=(2:Int):=(by simpa using h2);⟨fun h3=>have h3p:Vl.k a=(3:Int):=(by simpa using h3);⟨⟨tv,cb (h0),cb (h1),cb (h2),cb (h3),tv⟩,(Sp.fact (runes_sp _ ha4)),(Sp.fact (runes_sp _ hb4)),(LoopR.weak (hl)),⟨tv,by simp (disch:=omega) only [List.length_map],tv⟩,⟨tv,by simp (disch:=omega) only [List.length_map],tv⟩,⟨tv,by simp (disch:=omega) only [List.length_map],tv⟩,⟨tv,by simp (disch:=omega) only [List.length_map],tv⟩,(Sp.fact (order_sp _ _)),by show _=_;(unfold cmpV;simp only [q];unfold cmpI;grind)⟩,
   fun h3=>have h3p:¬Vl.k a=(3:Int):=(by simpa using h3);by show _=_;(unfold cmpV;simp only [q];unfold cmpI;grind)⟩⟩⟩⟩
 ·rw [List.drop_zero,List.drop_zero] at hl
  refine sp_tree draws (dm:=[]) (fs:=[]) (
   .ite 2012 (Vl.k a !=Vl.k b)
   (.rw 8013 [] [(12,Vb (Vl.k a !=Vl.k b),Vb true)]<|.call 23 (166) ([Vb (decide (Vl.k a<Vl.k b)),Vb (decide (Vl.k a>Vl.k b))]) ([]) (Fr (Vi (if decide (Vl.k a<Vl.k b)=true then (-1:Int) else if decide (Vl.k a>Vl.k b)=true then (1:Int) else (0:Int))) [])<|.ret (Fr (Vi (if decide (Vl.k a<Vl.k b)=true then (-1:Int) else if decide (Vl.k a>Vl.k b)=true then (1:Int) else (0:Int))) []))
   (.ite 2026 (Vl.k a==(1:Int))
   (.rw 8028 [] [(12,Vb (Vl.k a !=Vl.k b),Vb false),(26,Vb (Vl.k a==(1:Int)),Vb true)]<|.ite 1032 ((!Vl.b a)==true)
   (.rw 8032 [] [(27,Vb (Vl.k a==(1:Int)),Vb true),(29,Vb (Vl.b a),Vb false),(30,Vb !Vl.b a,Vb true)]<|.tt 1033 ((!Vl.b a)==true)<|.tt 34 (!Vl.b a)<|.ff 1038 (Vl.b a==true)<|.ff 1039 (Vl.b a==true)<|.ff 1040 (Vl.b a==true)<|.ff 41 (Vl.b a)<|.call 42 (166) ([Vb (Vl.b b),Vb false]) ([]) (Fr (Vi (if Vl.b b=true then (-1:Int) else if false=true then (1:Int) else (0:Int))) [])<|.ret (Fr (Vi (if Vl.b b=true then (-1:Int) else (0:Int))) []))
   (.ff 1033 ((!Vl.b a)==true)<|.ff 34 (!Vl.b a)<|.tt 1038 (Vl.b a==true)<|.tt 1039 (Vl.b a==true)<|.tt 1040 (Vl.b a==true)<|.tt 41 (Vl.b a)<|.call 42 (166) ([Vb false,Vb !Vl.b b]) ([]) (Fr (Vi (if false=true then (-1:Int) else if (!Vl.b b)=true then (1:Int) else (0:Int))) [])<|.ret (Fr (Vi (if false=true then (-1:Int) else if (!Vl.b b)=true then (1:Int) else (0:Int))) [])))
   (.ite 2043 (Vl.k a==(2:Int))
   (.rw 8045 [] [(12,Vb (Vl.k a !=Vl.k b),Vb false),(43,Vb (Vl.k a==(2:Int)),Vb true)]<|.call 55 (166) ([Vb (decide (Vl.n a<Vl.n b)),Vb (decide (Vl.n a>Vl.n b))]) ([]) (Fr (Vi (if decide (Vl.n a<Vl.n b)=true then (-1:Int) else if decide (Vl.n a>Vl.n b)=true then (1:Int) else (0:Int))) [])<|.ret (Fr (Vi (if decide (Vl.n a<Vl.n b)=true then (-1:Int) else if decide (Vl.n a>Vl.n b)=true then (1:Int) else (0:Int))) []))
   (.ite 2056 (Vl.k a==(3:Int))
   (.rw 8058 [] [(12,Vb (Vl.k a !=Vl.k b),Vb false),(26,Vb (Vl.k a==(1:Int)),Vb false),(43,Vb (Vl.k a==(2:Int)),Vb false),(56,Vb (Vl.k a==(3:Int)),Vb true)]<|.call 60 (167) ([V.str (Vl.s a)]) ([]) (Fr (V.imm false 1 (List.map (V.int .i32) (runesS (Vl.s a)))) [])<|.call 63 (167) ([V.str (Vl.s b)]) ([]) (Fr (V.imm false 1 (List.map (V.int .i32) (runesS (Vl.s b)))) [])<|.to 8007 ([.cut 0])<|.loop 88 false (KC) (SC (runesS (Vl.s a)) (runesS (Vl.s b)) 0) (Ex.ret) (mkSt 115 [(4,Vi (cmpR (runesS (Vl.s a)) (runesS (Vl.s b))))] [])<|.ret (Fr (Vi (cmpR (runesS (Vl.s a)) (runesS (Vl.s b)))) []))
   (.ret (Fr (Vi (0:Int)) [])))))) (by kernel_rfl) ?_
  exact ⟨fun h0=>have h0p:¬Vl.k a=Vl.k b:=(by simpa using h0);⟨⟨tv,cb (h0),tv⟩,(Sp.fact (order_sp _ _)),by show _=_;(unfold cmpV cmpI;grind)⟩,
   fun h0=>have h0p:Vl.k a=Vl.k b:=(by simpa using h0);⟨fun h1=>have h1p:Vl.k a=(1:Int):=(by simpa using h1);⟨⟨tv,cb (h0),cb (h1),tv⟩,fun h2=>have h2p:Vl.b a=false:=(by simpa using h2);⟨⟨tv,cb (h1),cb (h2p),cb (by simp<;>omega),tv⟩,(h2),by simp<;>omega,by simp<;>omega,by simp<;>omega,by simp<;>omega,(h2p),(Sp.fact (order_sp _ _)),by show _=_;(unfold cmpV cmpI;grind)⟩,
   fun h2=>have h2p:Vl.b a=true:=(by simpa using h2);⟨(h2),by simp<;>omega,by simp<;>omega,by simp<;>omega,by simp<;>omega,(h2p),(Sp.fact (order_sp _ _)),by show _=_;(unfold cmpV cmpI;grind)⟩⟩,
   fun h1=>have h1p:¬Vl.k a=(1:Int):=(by simpa using h1);⟨fun h2=>have h2p:Vl.k a=(2:Int):=(by simpa using h2);⟨⟨tv,cb (h0),cb (h2),tv⟩,(Sp.fact (order_sp _ _)),by show _=_;(unfold cmpV cmpI;grind)⟩,
   fun h2=>have h2p:¬Vl.k a=(2:Int):=(by simpa using h2);⟨fun h3=>have h3p:Vl.k a=(3:Int):=(by simpa using h3);⟨⟨tv,cb (h0),cb (h1),cb (h2),cb (h3),tv⟩,(Sp.fact (runes_sp _ ha4)),(Sp.fact (runes_sp _ hb4)),(LoopR.weak (hl)),by show _=_;(unfold cmpV cmpI;grind)⟩,
   fun h3=>have h3p:¬Vl.k a=(3:Int):=(by simpa using h3);by show _=_;(unfold cmpV cmpI;grind)⟩⟩⟩⟩
end Go.Fw
set_option maxHeartbeats 20000000
set_option maxRecDepth 100000
namespace Go.Proofs
open Go.RowKit Go.Shelf Go.Lib
def Tryz.laysMul_ren:Go.Shelf.Ren:=⟨fun | 264=>233 | n=>n,fun | 53=>216 | 46=>154 | n=>n,fun | n=>n⟩
theorem Tryz.laysMul:Go.Proofs.Lays.n264 Tryz.prog Tryz.laysMul_ren:={
 mixed:=by kernel_rfl
 f264:=Tryz.func233.trans (congrArg some (by kernel_rfl))
 t46:=Tryz.underlying154
 a46:=Tryz.isAgg154
 z46:=Tryz.sizeOf154
 v46:=Tryz.zeroValue154
 t53:=Tryz.underlying216
 a53:=Tryz.isAgg216
 z53:=Tryz.sizeOf216
 v53:=Tryz.zeroValue216}
end Go.Proofs
namespace Go.Fw
open Go.Proofs Go.RowKit
theorem argsI_two {m:Mem} {k k':IntKind} {x y:Int} {us:Array Value} (h:ArgsI m [.int k x,.int k' y] us):us=#[.int k x,.int k' y]:=by
 obtain ⟨h1,h2⟩:=h
 obtain ⟨l⟩:=us
 match l,h1,h2 with
 | [u,v],_,h2 =>
  have a:=h2 0 (.int k x) (by simp) rfl
  have b:=h2 1 (.int k' y) (by simp) rfl
  cases a
  cases b
  rfl
theorem mul64_sp (x y:Nat) (hx:x<18446744073709551616) (hy:y<18446744073709551616):Sp C1 233 [.int .u64 (x:Int),.int .u64 (y:Int)] (.tup [.int .u64 ((x*y / 18446744073709551616:Nat):Int),.int .u64 ((x*y % 18446744073709551616:Nat):Int)]):=by
 refine Sp.ofCallsT (hasBody (by kernel_rfl)) (small rfl) (by kernel_rfl) rfl (fun us w m hm ha=>?_)
 rw [argsI_two ha]
 refine (Any.bits_Mul64 Tryz.laysMul x y hx hy w).mono (fun e w' he=>?_)
 obtain ⟨rfl,rfl⟩:=he
 refine ⟨_,rfl,⟨rfl,fun j c hj hc=>?_⟩,Below.refl _ _⟩
 match j,hj with
 | 0,_=>cases hc;exact .int _ _
 | 1,_=>cases hc;exact .int _ _
theorem size_sp (n:Int) (h:I64 n):Sp C1 234 [.int .i64 n] (.int .u64 (n.natAbs:Int)):=by
 obtain ⟨h1,h2⟩:=h
 by_cases hn:n<0
 ·refine sp_tree draws (dm:=[]) (fs:=[]) (
   .rw 8004 [] [(4,Vb (decide (n<(0:Int))),Vb true)]<|.ret (Fr (V.int .u64 (IntKind.wrap IntKind.u64 ((0:Int)-IntKind.wrap IntKind.u64 n))) [])) (by kernel_rfl) ?_
  exact ⟨⟨tv,cb (by simp<;>omega),tv⟩,by show _=_;(rw [IntKind.wrap_u64,IntKind.wrap_u64];congr 2;omega)⟩
 ·refine sp_tree draws (dm:=[]) (fs:=[]) (
   .rw 8004 [] [(4,Vb (decide (n<(0:Int))),Vb false)]<|.rw 8009 [] [(9,V.int .u64 (IntKind.wrap IntKind.u64 n),V.int .u64 n)]<|.ret (Fr (V.int .u64 n) [])) (by kernel_rfl) ?_
  exact ⟨⟨tv,cb (by simp<;>omega),tv⟩,⟨tv,by simp (disch:=omega) only [wrap_u64],tv⟩,by show _=_;(congr 2;omega)⟩
theorem mul_sp (a b:Int) (ha:I64 a) (hb:I64 b):Sp C1 190 [.int .i64 a,.int .i64 b] (.tup [.int .i64 (ovN (a*b)),.int .i64 (ovE (a*b))]):=by
 have s1:=size_sp a ha
 have s2:=size_sp b hb
 obtain ⟨a1,a2⟩:=ha
 obtain ⟨b1,b2⟩:=hb
 have hm:=mul64_sp a.natAbs b.natAbs (by omega) (by omega)
 have hP:a.natAbs*b.natAbs=(a*b).natAbs:=(Int.natAbs_mul a b).symm
 obtain ⟨M,hM⟩:∃ M,a*b=M:=⟨_,rfl⟩
 rw [hP] at hm
 rw [hM] at hm ⊢
 unfold ovN ovE
 have hs1:a<0→b<0→0<M:=fun h1 h2=>by rw [←hM];exact Int.mul_pos_of_neg_of_neg h1 h2
 have hs2:0≤a→0≤b→0≤M:=fun h1 h2=>by rw [←hM];exact Int.mul_nonneg h1 h2
 have hs3:a<0→0≤b→M≤0:=fun h1 h2=>by rw [←hM];exact Int.mul_nonpos_of_nonpos_of_nonneg (by omega) h2
 have hs4:0≤a→b<0→M≤0:=fun h1 h2=>by rw [←hM];exact Int.mul_nonpos_of_nonneg_of_nonpos h1 (by omega)
 refine sp_tree draws (dm:=[]) (fs:=[]) (
  .call 11 (234) ([Vi a]) ([]) (Fr (V.int .u64 (↑(Int.natAbs a):Int)) [])<|.call 13 (234) ([Vi b]) ([]) (Fr (V.int .u64 (↑(Int.natAbs b):Int)) [])<|.call 14 (233) ([V.int .u64 (↑(Int.natAbs a):Int),V.int .u64 (↑(Int.natAbs b):Int)]) ([]) (Fr (V.tup [V.int .u64 (↑(Int.natAbs M / 18446744073709551616):Int),V.int .u64 (↑(Int.natAbs M % 18446744073709551616):Int)]) [])<|.ite 1025 (decide ((↑(Int.natAbs M / 18446744073709551616):Int)>(0:Int))==false)
  (.rw 8025 [] [(23,Vb (decide ((↑(Int.natAbs M / 18446744073709551616):Int)>(0:Int))),Vb false)]<|.tt 1026 (decide ((↑(Int.natAbs M / 18446744073709551616):Int)>(0:Int))==false)<|.ff 27 (decide ((↑(Int.natAbs M / 18446744073709551616):Int)>(0:Int)))<|.ite 1029 (decide ((↑(Int.natAbs M % 18446744073709551616):Int)>(9223372036854775808:Int))==false)
  (.rw 8029 [] [(24,Vb (decide ((↑(Int.natAbs M / 18446744073709551616):Int)>(0:Int))),Vb false),(26,Vb (decide ((↑(Int.natAbs M % 18446744073709551616):Int)>(9223372036854775808:Int))),Vb false)]<|.tt 1030 (decide ((↑(Int.natAbs M % 18446744073709551616):Int)>(9223372036854775808:Int))==false)<|.tt 1031 (decide ((↑(Int.natAbs M % 18446744073709551616):Int)>(9223372036854775808:Int))==false)<|.ite 1032 (((↑(Int.natAbs M % 18446744073709551616):Int)==(9223372036854775808:Int))==true)
  (.rw 8032 [] [(27,Vb (decide ((↑(Int.natAbs M % 18446744073709551616):Int)>(9223372036854775808:Int))),Vb false),(30,Vb ((↑(Int.natAbs M % 18446744073709551616):Int)==(9223372036854775808:Int)),Vb true)]<|.tt 1033 (((↑(Int.natAbs M % 18446744073709551616):Int)==(9223372036854775808:Int))==true)<|.tt 1034 (decide ((↑(Int.natAbs M % 18446744073709551616):Int)>(9223372036854775808:Int))==false)<|.tt 34 ((↑(Int.natAbs M % 18446744073709551616):Int)==(9223372036854775808:Int))<|.ff 35 (decide ((↑(Int.natAbs M % 18446744073709551616):Int)>(9223372036854775808:Int)))<|.ite 2035 (!!decide (a<(0:Int))==decide (b<(0:Int)))
  (.rw 8004 [] [(8,Vb !decide (a<(0:Int))==decide (b<(0:Int)),Vb false),(28,Vb (decide ((↑(Int.natAbs M % 18446744073709551616):Int)>(9223372036854775808:Int))),Vb false),(31,Vb ((↑(Int.natAbs M % 18446744073709551616):Int)==(9223372036854775808:Int)),Vb true),(33,Vb !!decide (a<(0:Int))==decide (b<(0:Int)),Vb true)]<|.ret (Fr (V.tup [Vi (0:Int),Vi (16:Int)]) []))
  (.rw 8038 [] [(38,Vi (IntKind.wrap IntKind.i64 (a*b)),Vi (a*b))]<|.ret (Fr (V.tup [Vi (a*b),Vi (0:Int)]) [])))
  (.ff 1033 (((↑(Int.natAbs M % 18446744073709551616):Int)==(9223372036854775808:Int))==true)<|.tt 1034 (decide ((↑(Int.natAbs M % 18446744073709551616):Int)>(9223372036854775808:Int))==false)<|.ff 34 ((↑(Int.natAbs M % 18446744073709551616):Int)==(9223372036854775808:Int))<|.ff 35 (decide ((↑(Int.natAbs M % 18446744073709551616):Int)>(9223372036854775808:Int)))<|.rw 8038 [] [(38,Vi (IntKind.wrap IntKind.i64 (a*b)),Vi (a*b))]<|.ret (Fr (V.tup [Vi (a*b),Vi (0:Int)]) [])))
  (.ff 1030 (decide ((↑(Int.natAbs M % 18446744073709551616):Int)>(9223372036854775808:Int))==false)<|.ff 1031 (decide ((↑(Int.natAbs M % 18446744073709551616):Int)>(9223372036854775808:Int))==false)<|.ff 1034 (decide ((↑(Int.natAbs M % 18446744073709551616):Int)>(9223372036854775808:Int))==false)<|.tt 35 (decide ((↑(Int.natAbs M % 18446744073709551616):Int)>(9223372036854775808:Int)))<|.ret (Fr (V.tup [Vi (0:Int),Vi (16:Int)]) [])))
  (.ff 1026 (decide ((↑(Int.natAbs M / 18446744073709551616):Int)>(0:Int))==false)<|.tt 27 (decide ((↑(Int.natAbs M / 18446744073709551616):Int)>(0:Int)))<|.ret (Fr (V.tup [Vi (0:Int),Vi (16:Int)]) []))) (by kernel_rfl) ?_
 exact ⟨(Sp.fact (s1)),(Sp.fact (s2)),(Sp.fact (hm)),fun h0=>have h0p:(↑(Int.natAbs M):Int) / (18446744073709551616:Int)≤(0:Int):=(by simpa using h0);⟨⟨tv,cb (by simp<;>omega),tv⟩,(h0),by simp<;>omega,fun h1=>have h1p:(↑(Int.natAbs M):Int) % (18446744073709551616:Int)≤(9223372036854775808:Int):=(by simpa using h1);⟨⟨tv,cb (by simp<;>omega),cb (by simp<;>omega),tv⟩,(h1),(h1),fun h2=>have h2p:(↑(Int.natAbs M):Int) % (18446744073709551616:Int)=(9223372036854775808:Int):=(by simpa using h2);⟨⟨tv,cb (by simp<;>omega),cb (by simp<;>omega),tv⟩,(h2),(h1),by simp<;>omega,by simp<;>omega,fun h3=>have h3p:a<(0:Int)↔b<(0:Int):=(by simpa using h3);⟨⟨tv,cb (by simp<;>omega),cb (by simp<;>omega),cb (by simp<;>omega),cb (h3),tv⟩,by show _=_;(first | (rw [if_pos (by omega),if_pos (by omega)]) | (rw [hM];grind))⟩,
  fun h3=>have h3p:¬(a<(0:Int)↔b<(0:Int)):=(by simpa using h3);⟨⟨tv,by simp (disch:=omega) only [wrap_i64],tv⟩,by show _=_;(first | (rw [if_pos (by omega),if_pos (by omega)]) | (rw [hM];grind))⟩⟩,
  fun h2=>have h2p:¬(↑(Int.natAbs M):Int) % (18446744073709551616:Int)=(9223372036854775808:Int):=(by simpa using h2);⟨(h2),(h1),by simp<;>omega,by simp<;>omega,⟨tv,by simp (disch:=omega) only [wrap_i64],tv⟩,by show _=_;(first | (rw [if_pos (by omega),if_pos (by omega)]) | (rw [hM];grind))⟩⟩,
  fun h1=>have h1p:(9223372036854775808:Int)<(↑(Int.natAbs M):Int) % (18446744073709551616:Int):=(by simpa using h1);⟨(h1),(h1),(h1),by simp<;>omega,by show _=_;(first | (rw [if_pos (by omega),if_pos (by omega)]) | (rw [hM];grind))⟩⟩,
  fun h0=>have h0p:(0:Int)<(↑(Int.natAbs M):Int) / (18446744073709551616:Int):=(by simpa using h0);⟨(h0),by simp<;>omega,by show _=_;(first | (rw [if_pos (by omega),if_pos (by omega)]) | (rw [hM];grind))⟩⟩
theorem tdiv_over (a b M q:Int) (hb:b≠0) (hb2:b.natAbs≤9223372036854775808) (hM:a*b=M) (hq:q≠0):(M-18446744073709551616*q).tdiv b≠a:=by
 intro e
 have h1:=Int.mul_tdiv_add_tmod (M-18446744073709551616*q) b
 rw [e,Int.mul_comm b a,hM] at h1
 have h2:((M-18446744073709551616*q).tmod b).natAbs<b.natAbs:=by
  rw [Int.natAbs_tmod]
  exact Nat.mod_lt _ (by omega)
 omega
theorem wrap_form (x:Int):∃ q,IntKind.wrap .i64 x=x-18446744073709551616*q∧I64 (IntKind.wrap .i64 x):=by
 have e:IntKind.wrap .i64 x=if x % 18446744073709551616 ≥ 9223372036854775808 then x % 18446744073709551616-18446744073709551616 else x % 18446744073709551616:=by
  unfold IntKind.wrap IntKind.bits IntKind.signed
  simp
 unfold I64
 rw [e]
 have:=Int.emod_add_mul_ediv x 18446744073709551616
 split
 ·exact ⟨x / 18446744073709551616+1,by omega,by omega⟩
 ·exact ⟨x / 18446744073709551616,by omega,by omega⟩
theorem tdiv_small (n b:Int) (hn:I64 n) (hb:b≠0) (hb1:b≠-1):I64 (n.tdiv b):=by
 obtain ⟨h3,h4⟩:=hn
 by_cases h1:b=1
 ·subst h1
  rw [Int.tdiv_one]
  exact ⟨h3,h4⟩
 ·have h:=Int.natAbs_tdiv n b
  have h2:n.natAbs / b.natAbs≤n.natAbs / 2:=Nat.div_le_div_left (by omega) (by omega)
  have h:(n.tdiv b).natAbs=n.natAbs / b.natAbs:=h
  rw [←h] at h2
  unfold I64
  omega
theorem wrap_id (x:Int) (h:I64 x):IntKind.wrap .i64 x=x:=wrap_i64 x h.1 h.2
theorem mul_over (a b M:Int) (hb:I64 b) (ha:I64 a) (hM:a*b=M) (hr:M < -9223372036854775808∨9223372036854775807<M) :
  (a=-1∧b=-9223372036854775808)∨(b=-1∧a=-9223372036854775808)∨(b≠0∧b≠-1∧IntKind.wrap .i64 ((IntKind.wrap .i64 (a*b)).tdiv b)≠a):=by
 obtain ⟨a1,a2⟩:=ha
 obtain ⟨b1,b2⟩:=hb
 by_cases h0:b=0
 ·subst h0;simp at hM;omega
 by_cases h1:b=-1
 ·subst h1;right;left;omega
 right;right
 refine ⟨h0,h1,?_⟩
 obtain ⟨q,hq,hi⟩:=wrap_form (a*b)
 rw [wrap_id _ (tdiv_small _ b hi h0 h1),hq]
 rw [hM] at hq hi ⊢
 refine tdiv_over a b M q h0 (by omega) hM ?_
 rintro rfl
 obtain ⟨i1,i2⟩:=hi
 omega
theorem mul_fit (a b M:Int) (hb:I64 b) (ha:I64 a) (hM:a*b=M) (hr:¬(M < -9223372036854775808∨9223372036854775807<M)) :
  ¬(a=-1∧b=-9223372036854775808)∧¬(b=-1∧a=-9223372036854775808)∧(b≠0→IntKind.wrap .i64 ((a*b).tdiv b)=a):=by
 refine ⟨?_,?_,fun h=>?_⟩
 ·rintro ⟨rfl,rfl⟩;omega
 ·rintro ⟨rfl,rfl⟩;omega
 ·rw [Int.mul_tdiv_cancel _ h,wrap_id _ ha]
theorem vquo (n b:Int) (hb:b≠0):vbin (Cx.P C1) .quo 2 (.int .i64 n) (.int .i64 b)=some (.int .i64 (IntKind.wrap .i64 (n.tdiv b))):=by
 unfold vbin nilEq toVal1
 dsimp only
 have:quiet (Cx.P C1) (Go.binOp .quo 2 (.int .i64 n) (.int .i64 b))=some (.int .i64 (IntKind.wrap .i64 (n.tdiv b))):=by
  unfold Go.binOp
  show quiet C1.P (Go.Op.intDiv .quo .i64 n b)=_
  unfold Go.Op.intDiv
  rw [if_neg hb]
  rfl
 rw [this]
 rfl
theorem mul2_sp (a b:Int) (ha:I64 a) (hb:I64 b):Sp C1 197 [.int .i64 a,.int .i64 b] (.tup [.int .i64 (ovN (a*b)),.int .i64 (ovE (a*b))]):=by
 obtain ⟨M,hM⟩:∃ M,a*b=M:=⟨_,rfl⟩
 rw [hM]
 unfold ovN ovE
 by_cases hr:M < -9223372036854775808∨9223372036854775807<M
 ·rw [if_pos hr,if_pos hr]
  have H:=mul_over a b M hb ha hM hr
  clear hr hM
  obtain ⟨a1,a2⟩:=ha
  obtain ⟨b1,b2⟩:=hb
  refine sp_tree draws (dm:=[]) (fs:=[]) (
   .ite 1014 ((a==(-1:Int))==true)
   (.rw 8014 [] [(12,Vb (a==(-1:Int)),Vb true)]<|.tt 1015 ((a==(-1:Int))==true)<|.tt 1016 ((a==(-1:Int))==true)<|.tt 17 (a==(-1:Int))<|.ite 1019 ((b==(-9223372036854775808:Int))==false)
   (.rw 8019 [] [(13,Vb (a==(-1:Int)),Vb true),(16,Vb (b==(-9223372036854775808:Int)),Vb false)]<|.tt 1020 ((b==(-9223372036854775808:Int))==false)<|.rw 8020 [] [(20,Vb (b==(-1:Int)),Vb false)]<|.tt 1021 ((b==(-9223372036854775808:Int))==false)<|.tt 1025 ((b==(-9223372036854775808:Int))==false)<|.ff 26 (b==(-9223372036854775808:Int))<|.rw 8029 [] [(29,Vb (b !=(0:Int)),Vb true)]<|.rw 8032 [] [(32,Vb (b !=(-1:Int)),Vb true)]<|.opt 37 (vbin (Cx.P C1) BinOp.quo 2 (Vi (IntKind.wrap IntKind.i64 (a*b))) (Vi b)) (Vi (IntKind.wrap IntKind.i64 (Int.tdiv (IntKind.wrap IntKind.i64 (a*b)) b)))<|.rw 8039 [] [(39,Vb (IntKind.wrap IntKind.i64 (Int.tdiv (IntKind.wrap IntKind.i64 (a*b)) b) !=a),Vb true)]<|.ret (Fr (V.tup [Vi (0:Int),Vi (16:Int)]) []))
   (.ff 1020 ((b==(-9223372036854775808:Int))==false)<|.ff 1021 ((b==(-9223372036854775808:Int))==false)<|.ff 1025 ((b==(-9223372036854775808:Int))==false)<|.tt 26 (b==(-9223372036854775808:Int))<|.ret (Fr (V.tup [Vi (0:Int),Vi (16:Int)]) [])))
   (.ff 1015 ((a==(-1:Int))==true)<|.ff 1016 ((a==(-1:Int))==true)<|.ff 17 (a==(-1:Int))<|.ite 1022 ((b==(-1:Int))==true)
   (.tt 1023 ((b==(-1:Int))==true)<|.tt 1024 ((b==(-1:Int))==true)<|.rw 8024 [] [(24,Vb (a==(-9223372036854775808:Int)),Vb true)]<|.tt 25 (b==(-1:Int))<|.ret (Fr (V.tup [Vi (0:Int),Vi (16:Int)]) []))
   (.ff 1023 ((b==(-1:Int))==true)<|.ff 1024 ((b==(-1:Int))==true)<|.ff 25 (b==(-1:Int))<|.tt 1031 ((b !=(0:Int))==true)<|.tt 1032 ((b !=(0:Int))==true)<|.tt 33 (b !=(0:Int))<|.tt 1035 ((b !=(-1:Int))==true)<|.tt 1036 ((b !=(-1:Int))==true)<|.tt 1037 ((b !=(-1:Int))==true)<|.opt 37 (vbin (Cx.P C1) BinOp.quo 2 (Vi (IntKind.wrap IntKind.i64 (a*b))) (Vi b)) (Vi (IntKind.wrap IntKind.i64 (Int.tdiv (IntKind.wrap IntKind.i64 (a*b)) b)))<|.tt 1038 ((b !=(-1:Int))==true)<|.tt 1039 ((b !=(-1:Int))==true)<|.tt 40 (b !=(-1:Int))<|.tt 2041 (IntKind.wrap IntKind.i64 (Int.tdiv (IntKind.wrap IntKind.i64 (a*b)) b) !=a)<|.ret (Fr (V.tup [Vi (0:Int),Vi (16:Int)]) [])))) (by kernel_rfl) ?_
  exact ⟨fun h0=>have h0p:a=(-1:Int):=(by simpa using h0);⟨⟨tv,cb (by simp<;>omega),tv⟩,(h0),(h0),by simp<;>omega,fun h1=>have h1p:¬b=(-9223372036854775808:Int):=(by simpa using h1);⟨⟨tv,cb (by simp<;>omega),cb (by simp<;>omega),tv⟩,(h1),⟨tv,cb (by simp<;>omega),tv⟩,(h1),(h1),by simp<;>omega,⟨tv,cb (by simp<;>omega),tv⟩,⟨tv,cb (by simp<;>omega),tv⟩,(vquo _ _ (by omega)),⟨tv,cb (by simp<;>omega),tv⟩,rfl⟩,
   fun h1=>have h1p:b=(-9223372036854775808:Int):=(by simpa using h1);⟨(h1),(h1),(h1),by simp<;>omega,rfl⟩⟩,
   fun h0=>have h0p:¬a=(-1:Int):=(by simpa using h0);⟨(h0),(h0),by simp<;>omega,fun h1=>have h1p:b=(-1:Int):=(by simpa using h1);⟨(h1),(h1),⟨tv,cb (by simp<;>omega),tv⟩,by simp<;>omega,rfl⟩,
   fun h1=>have h1p:¬b=(-1:Int):=(by simpa using h1);⟨(h1),(h1),by simp<;>omega,by simp<;>omega,by simp<;>omega,by simp<;>omega,by simp<;>omega,by simp<;>omega,by simp<;>omega,(vquo _ _ (by omega)),by simp<;>omega,by simp<;>omega,by simp<;>omega,by simp<;>omega,rfl⟩⟩⟩
 ·rw [if_neg hr,if_neg hr]
  have H:=mul_fit a b M hb ha hM hr
  obtain ⟨a1,a2⟩:=ha
  obtain ⟨b1,b2⟩:=hb
  refine sp_tree draws (dm:=[]) (fs:=[]) (
   .rw 8010 [] [(10,Vi (IntKind.wrap IntKind.i64 (a*b)),Vi (a*b))]<|.ite 1014 ((a==(-1:Int))==true)
   (.rw 8014 [] [(12,Vb (a==(-1:Int)),Vb true)]<|.tt 1015 ((a==(-1:Int))==true)<|.tt 1016 ((a==(-1:Int))==true)<|.rw 8016 [] [(16,Vb (b==(-9223372036854775808:Int)),Vb false)]<|.tt 17 (a==(-1:Int))<|.ite 1022 ((b==(-1:Int))==true)
   (.rw 8022 [] [(13,Vb (a==(-1:Int)),Vb true),(20,Vb (b==(-1:Int)),Vb true)]<|.tt 1023 ((b==(-1:Int))==true)<|.tt 1024 ((b==(-1:Int))==true)<|.rw 8024 [] [(24,Vb (a==(-9223372036854775808:Int)),Vb false)]<|.tt 25 (b==(-1:Int))<|.rw 8029 [] [(29,Vb (b !=(0:Int)),Vb true)]<|.rw 8032 [] [(32,Vb (b !=(-1:Int)),Vb false)]<|.ret (Fr (V.tup [Vi (a*b),Vi (0:Int)]) []))
   (.ff 1023 ((b==(-1:Int))==true)<|.ff 1024 ((b==(-1:Int))==true)<|.ff 25 (b==(-1:Int))<|.ite 1031 ((b !=(0:Int))==true)
   (.rw 8031 [] [(13,Vb (a==(-1:Int)),Vb true),(20,Vb (b==(-1:Int)),Vb false),(29,Vb (b !=(0:Int)),Vb true)]<|.tt 1032 ((b !=(0:Int))==true)<|.rw 8032 [] [(32,Vb (b !=(-1:Int)),Vb true)]<|.tt 33 (b !=(0:Int))<|.opt 37 (vbin (Cx.P C1) BinOp.quo 2 (Vi (a*b)) (Vi b)) (Vi (IntKind.wrap IntKind.i64 (Int.tdiv (a*b) b)))<|.rw 8039 [] [(39,Vb (IntKind.wrap IntKind.i64 (Int.tdiv (a*b) b) !=a),Vb false)]<|.ret (Fr (V.tup [Vi (a*b),Vi (0:Int)]) []))
   (.ff 1032 ((b !=(0:Int))==true)<|.ff 33 (b !=(0:Int))<|.ret (Fr (V.tup [Vi (a*b),Vi (0:Int)]) []))))
   (.ff 1015 ((a==(-1:Int))==true)<|.ff 1016 ((a==(-1:Int))==true)<|.ff 17 (a==(-1:Int))<|.ite 1022 ((b==(-1:Int))==true)
   (.tt 1023 ((b==(-1:Int))==true)<|.tt 1024 ((b==(-1:Int))==true)<|.tt 25 (b==(-1:Int))<|.tt 1028 ((a==(-9223372036854775808:Int))==false)<|.tt 1029 ((a==(-9223372036854775808:Int))==false)<|.tt 1030 ((a==(-9223372036854775808:Int))==false)<|.tt 1031 ((b !=(0:Int))==true)<|.tt 1032 ((b !=(0:Int))==true)<|.tt 1033 ((a==(-9223372036854775808:Int))==false)<|.tt 33 (b !=(0:Int))<|.tt 1034 ((a==(-9223372036854775808:Int))==false)<|.ff 1035 ((b !=(-1:Int))==true)<|.ff 1036 ((b !=(-1:Int))==true)<|.ff 1037 ((b !=(-1:Int))==true)<|.ff 1038 ((b !=(-1:Int))==true)<|.ff 1039 ((b !=(-1:Int))==true)<|.tt 1040 ((a==(-9223372036854775808:Int))==false)<|.ff 40 (b !=(-1:Int))<|.ff 41 (a==(-9223372036854775808:Int))<|.ret (Fr (V.tup [Vi (a*b),Vi (0:Int)]) []))
   (.ff 1023 ((b==(-1:Int))==true)<|.ff 1024 ((b==(-1:Int))==true)<|.ff 25 (b==(-1:Int))<|.ite 1031 ((b !=(0:Int))==true)
   (.tt 1032 ((b !=(0:Int))==true)<|.tt 33 (b !=(0:Int))<|.tt 1035 ((b !=(-1:Int))==true)<|.tt 1036 ((b !=(-1:Int))==true)<|.tt 1037 ((b !=(-1:Int))==true)<|.opt 37 (vbin (Cx.P C1) BinOp.quo 2 (Vi (a*b)) (Vi b)) (Vi (IntKind.wrap IntKind.i64 (Int.tdiv (a*b) b)))<|.tt 1038 ((b !=(-1:Int))==true)<|.tt 1039 ((b !=(-1:Int))==true)<|.tt 40 (b !=(-1:Int))<|.ff 2041 (IntKind.wrap IntKind.i64 (Int.tdiv (a*b) b) !=a)<|.ret (Fr (V.tup [Vi (a*b),Vi (0:Int)]) []))
   (.ff 1032 ((b !=(0:Int))==true)<|.ff 33 (b !=(0:Int))<|.ret (Fr (V.tup [Vi (a*b),Vi (0:Int)]) []))))) (by kernel_rfl) ?_
  exact ⟨⟨tv,by simp (disch:=omega) only [wrap_i64],tv⟩,fun h0=>have h0p:a=(-1:Int):=(by simpa using h0);⟨⟨tv,cb (by simp<;>omega),tv⟩,(h0),(h0),⟨tv,cb (by simp<;>omega),tv⟩,by simp<;>omega,fun h1=>have h1p:b=(-1:Int):=(by simpa using h1);⟨⟨tv,cb (by simp<;>omega),cb (by simp<;>omega),tv⟩,(h1),(h1),⟨tv,cb (by simp<;>omega),tv⟩,by simp<;>omega,⟨tv,cb (by simp<;>omega),tv⟩,⟨tv,cb (by simp<;>omega),tv⟩,by show _=_;grind⟩,
   fun h1=>have h1p:¬b=(-1:Int):=(by simpa using h1);⟨(h1),(h1),by simp<;>omega,fun h2=>have h2p:¬b=(0:Int):=(by simpa using h2);⟨⟨tv,cb (by simp<;>omega),cb (by simp<;>omega),cb (by simp<;>omega),tv⟩,(h2),⟨tv,cb (by simp<;>omega),tv⟩,by simp<;>omega,(vquo _ _ h2p),⟨tv,cb (by simp<;>omega),tv⟩,by show _=_;grind⟩,
   fun h2=>have h2p:b=(0:Int):=(by simpa using h2);⟨(h2),by simp<;>omega,by show _=_;grind⟩⟩⟩,
   fun h0=>have h0p:¬a=(-1:Int):=(by simpa using h0);⟨(h0),(h0),by simp<;>omega,fun h1=>have h1p:b=(-1:Int):=(by simpa using h1);⟨(h1),(h1),by simp<;>omega,by simp<;>omega,by simp<;>omega,by simp<;>omega,by simp<;>omega,by simp<;>omega,by simp<;>omega,by simp<;>omega,by simp<;>omega,by simp<;>omega,by simp<;>omega,by simp<;>omega,by simp<;>omega,by simp<;>omega,by simp<;>omega,by simp<;>omega,by simp<;>omega,by show _=_;grind⟩,
   fun h1=>have h1p:¬b=(-1:Int):=(by simpa using h1);⟨(h1),(h1),by simp<;>omega,fun h2=>have h2p:¬b=(0:Int):=(by simpa using h2);⟨(h2),by simp<;>omega,by simp<;>omega,by simp<;>omega,by simp<;>omega,(vquo _ _ h2p),by simp<;>omega,by simp<;>omega,by simp<;>omega,by simp<;>omega,by show _=_;grind⟩,
   fun h2=>have h2p:b=(0:Int):=(by simpa using h2);⟨(h2),by simp<;>omega,by show _=_;grind⟩⟩⟩⟩
end Go.Fw
set_option maxHeartbeats 20000000
namespace Go.Fw
open Go.Proofs
def nV (x:Int):Vl:=if x < -9223372036854775808∨9223372036854775807<x then vNull else vInt x
theorem num_sp (x:Int):Sp C1 125 [.int .i64 (ovN x),.int .i64 (ovE x)] (eV (nV x)):=by
 unfold ovN ovE nV
 by_cases h:x < -9223372036854775808∨9223372036854775807<x
 ·rw [if_pos h,if_pos h,if_pos h]
  refine sp_tree draws (dm:=[]) (fs:=[]) (
   .ret (Fr (V.agg [Vu (0:Int),Vb false,Vi (0:Int),V.str (ByteArray.mk #[])]) [])) (by kernel_rfl) ?_
  exact rfl
 ·rw [if_neg h,if_neg h,if_neg h]
  refine sp_tree draws (dm:=[]) (fs:=[]) (
   .ret (Fr (V.agg [Vu (2:Int),Vb false,Vi x,V.str (ByteArray.mk #[])]) [])) (by kernel_rfl) ?_
  exact rfl
theorem numI_sp (x:Int):Sp C1 125 [.int .i64 x,.int .i64 0] (eV (vInt x)):=by
 refine sp_tree draws (dm:=[]) (fs:=[]) (
  .ret (Fr (V.agg [Vu (2:Int),Vb false,Vi x,V.str (ByteArray.mk #[])]) [])) (by kernel_rfl) ?_
 exact rfl
theorem num2_sp (x:Int):Sp C1 131 [.int .i64 (ovN x),.int .i64 (ovE x)] (eV (nV x)):=by
 unfold ovN ovE nV
 by_cases h:x < -9223372036854775808∨9223372036854775807<x
 ·rw [if_pos h,if_pos h,if_pos h]
  refine sp_tree draws (dm:=[]) (fs:=[]) (
   .ret (Fr (V.agg [Vu (0:Int),Vb false,Vi (0:Int),V.str (ByteArray.mk #[])]) [])) (by kernel_rfl) ?_
  exact rfl
 ·rw [if_neg h,if_neg h,if_neg h]
  refine sp_tree draws (dm:=[]) (fs:=[]) (
   .ret (Fr (V.agg [Vu (2:Int),Vb false,Vi x,V.str (ByteArray.mk #[])]) [])) (by kernel_rfl) ?_
  exact rfl
theorem numI2_sp (x:Int):Sp C1 131 [.int .i64 x,.int .i64 0] (eV (vInt x)):=by
 refine sp_tree draws (dm:=[]) (fs:=[]) (
  .ret (Fr (V.agg [Vu (2:Int),Vb false,Vi x,V.str (ByteArray.mk #[])]) [])) (by kernel_rfl) ?_
 exact rfl
def isB (v:Vl) (b:Bool):Prop:=v.k=1∧v.b=b∧v.n=0∧v.s.toList=[]
instance (v:Vl) (b:Bool):Decidable (isB v b):=by unfold isB;infer_instance
def logV (by_:Bool) (a b:Vl):Vl:=if isB a by_∨isB b by_ then vBool by_ else if a.k=0∨b.k=0 then vNull else vBool (!by_)
theorem logic2_sp (c:Bool) (a b:Vl):Sp C1 132 [.bool c,eV a,eV b] (eV (logV c a b)):=by
 refine sp_tree draws (dm:=[]) (fs:=[]) (
  .call 9 (108) ([Vb c]) ([]) (Fr (eV (vBool c)) [])<|.ite 1012 ((Vl.k a==(1:Int)&&(Vl.b a==c&&(Vl.n a==(0:Int)&&(ByteArray.toList (Vl.s a)==[]&&true))))==false)
  (.tt 1013 ((Vl.k a==(1:Int)&&(Vl.b a==c&&(Vl.n a==(0:Int)&&(ByteArray.toList (Vl.s a)==[]&&true))))==false)<|.tt 1014 ((Vl.k a==(1:Int)&&(Vl.b a==c&&(Vl.n a==(0:Int)&&(ByteArray.toList (Vl.s a)==[]&&true))))==false)<|.call 14 (108) ([Vb c]) ([]) (Fr (eV (vBool c)) [])<|.tt 1015 ((Vl.k a==(1:Int)&&(Vl.b a==c&&(Vl.n a==(0:Int)&&(ByteArray.toList (Vl.s a)==[]&&true))))==false)<|.ite 16 (Vl.k a==(1:Int)&&(Vl.b a==c&&(Vl.n a==(0:Int)&&(ByteArray.toList (Vl.s a)==[]&&true))))
  (.rw 8016 [] [(10,Vb (Vl.k a==(1:Int)&&(Vl.b a==c&&(Vl.n a==(0:Int)&&(ByteArray.toList (Vl.s a)==[]&&true)))),Vb true)]<|.call 18 (108) ([Vb c]) ([]) (Fr (eV (vBool c)) [])<|.ret (Fr (V.agg [Vu (1:Int),Vb c,Vi (0:Int),V.str (ByteArray.mk (Array.mk []))]) []))
  (.ite 2016 (Vl.k b==(1:Int)&&(Vl.b b==c&&(Vl.n b==(0:Int)&&(ByteArray.toList (Vl.s b)==[]&&true))))
  (.rw 8017 [] [(10,Vb (Vl.k a==(1:Int)&&(Vl.b a==c&&(Vl.n a==(0:Int)&&(ByteArray.toList (Vl.s a)==[]&&true)))),Vb false),(15,Vb (Vl.k b==(1:Int)&&(Vl.b b==c&&(Vl.n b==(0:Int)&&(ByteArray.toList (Vl.s b)==[]&&true)))),Vb true)]<|.call 18 (108) ([Vb c]) ([]) (Fr (eV (vBool c)) [])<|.ret (Fr (V.agg [Vu (1:Int),Vb c,Vi (0:Int),V.str (ByteArray.mk (Array.mk []))]) []))
  (.ite 1023 ((Vl.k a==(0:Int))==false)
  (.rw 8023 [] [(10,Vb (Vl.k a==(1:Int)&&(Vl.b a==c&&(Vl.n a==(0:Int)&&(ByteArray.toList (Vl.s a)==[]&&true)))),Vb false),(15,Vb (Vl.k b==(1:Int)&&(Vl.b b==c&&(Vl.n b==(0:Int)&&(ByteArray.toList (Vl.s b)==[]&&true)))),Vb false),(21,Vb (Vl.k a==(0:Int)),Vb false)]<|.tt 1024 ((Vl.k a==(0:Int))==false)<|.tt 1025 ((Vl.k a==(0:Int))==false)<|.ff 26 (Vl.k a==(0:Int))<|.ite 2026 (Vl.k b==(0:Int))
  (.rw 8027 [] [(11,Vb (Vl.k a==(1:Int)&&(Vl.b a==c&&(Vl.n a==(0:Int)&&(ByteArray.toList (Vl.s a)==[]&&true)))),Vb false),(16,Vb (Vl.k b==(1:Int)&&(Vl.b b==c&&(Vl.n b==(0:Int)&&(ByteArray.toList (Vl.s b)==[]&&true)))),Vb false),(22,Vb (Vl.k a==(0:Int)),Vb false),(25,Vb (Vl.k b==(0:Int)),Vb true)]<|.ret (Fr (V.agg [Vu (0:Int),Vb false,Vi (0:Int),V.str (ByteArray.mk #[])]) []))
  (.call 30 (108) ([Vb !c]) ([]) (Fr (eV (vBool !c)) [])<|.ret (Fr (V.agg [Vu (1:Int),Vb !c,Vi (0:Int),V.str (ByteArray.mk (Array.mk []))]) [])))
  (.ff 1024 ((Vl.k a==(0:Int))==false)<|.ff 1025 ((Vl.k a==(0:Int))==false)<|.tt 26 (Vl.k a==(0:Int))<|.ret (Fr (V.agg [Vu (0:Int),Vb false,Vi (0:Int),V.str (ByteArray.mk #[])]) [])))))
  (.ff 1013 ((Vl.k a==(1:Int)&&(Vl.b a==c&&(Vl.n a==(0:Int)&&(ByteArray.toList (Vl.s a)==[]&&true))))==false)<|.ff 1014 ((Vl.k a==(1:Int)&&(Vl.b a==c&&(Vl.n a==(0:Int)&&(ByteArray.toList (Vl.s a)==[]&&true))))==false)<|.ff 1015 ((Vl.k a==(1:Int)&&(Vl.b a==c&&(Vl.n a==(0:Int)&&(ByteArray.toList (Vl.s a)==[]&&true))))==false)<|.tt 16 (Vl.k a==(1:Int)&&(Vl.b a==c&&(Vl.n a==(0:Int)&&(ByteArray.toList (Vl.s a)==[]&&true))))<|.call 18 (108) ([Vb c]) ([]) (Fr (eV (vBool c)) [])<|.ret (Fr (V.agg [Vu (1:Int),Vb c,Vi (0:Int),V.str (ByteArray.mk (Array.mk []))]) []))) (by kernel_rfl) ?_
 exact ⟨(Sp.fact (truth2_sp _)),fun h0=>have h0p:¬Vl.k a=(1:Int)∨¬Vl.b a=c∨¬Vl.n a=(0:Int)∨¬ByteArray.toList (Vl.s a)=[]:=(by simpa using h0);⟨(h0),(h0),(Sp.fact (truth2_sp _)),(h0),fun h1=>have h1p:Vl.k a=(1:Int)∧Vl.b a=c∧Vl.n a=(0:Int)∧ByteArray.toList (Vl.s a)=[]:=(by simpa using h1);⟨⟨tv,cb (h1),tv⟩,(Sp.fact (truth2_sp _)),by show _=_;(unfold logV isB;grind)⟩,
  fun h1=>have h1p:Vl.k a=(1:Int)→Vl.b a=c→Vl.n a=(0:Int)→¬ByteArray.toList (Vl.s a)=[]:=(by simpa using h1);⟨fun h2=>have h2p:Vl.k b=(1:Int)∧Vl.b b=c∧Vl.n b=(0:Int)∧ByteArray.toList (Vl.s b)=[]:=(by simpa using h2);⟨⟨tv,cb (h1),cb (h2),tv⟩,(Sp.fact (truth2_sp _)),by show _=_;(unfold logV isB;grind)⟩,
  fun h2=>have h2p:Vl.k b=(1:Int)→Vl.b b=c→Vl.n b=(0:Int)→¬ByteArray.toList (Vl.s b)=[]:=(by simpa using h2);⟨fun h3=>have h3p:¬Vl.k a=(0:Int):=(by simpa using h3);⟨⟨tv,cb (h1),cb (h2),cb (by simp<;>omega),tv⟩,(h3),(h3),by simp<;>omega,fun h4=>have h4p:Vl.k b=(0:Int):=(by simpa using h4);⟨⟨tv,cb (h1),cb (h2),cb (by simp<;>omega),cb (h4),tv⟩,by show _=_;(unfold logV isB;grind)⟩,
  fun h4=>have h4p:¬Vl.k b=(0:Int):=(by simpa using h4);⟨(Sp.fact (truth2_sp _)),by show _=_;(unfold logV isB;grind)⟩⟩,
  fun h3=>have h3p:Vl.k a=(0:Int):=(by simpa using h3);⟨(h3),(h3),by simp<;>omega,by show _=_;(unfold logV isB;grind)⟩⟩⟩⟩,
  fun h0=>have h0p:Vl.k a=(1:Int)∧Vl.b a=c∧Vl.n a=(0:Int)∧ByteArray.toList (Vl.s a)=[]:=(by simpa using h0);⟨(h0),(h0),(h0),by simp<;>omega,(Sp.fact (truth2_sp _)),by show _=_;(unfold logV isB;grind)⟩⟩
def Fv (v:Vl):Prop:=FineV v∧I64 v.n∧v.s.size≤2 ^ 40
abbrev eVs (l:List Vl):V:=.imm false 4 (l.map eV)
def cmpK (k c:Int):Bool:=if k=14 then decide (c=0) else if k=15 then decide (c≠0) else if k=16 then decide (c<0) else if k=17 then decide (c<1) else if k=18 then decide (0<c) else decide (-1<c)
def op1 (k:Int) (x:Vl):Vl:=if k=7 then nV (0-x.n) else if k=8 then vBool (!x.b) else vInt ((runesS x.s).length:Int)
def op2 (k:Int) (x y:Vl):Vl:=if k=11 then nV (x.n+y.n) else if k=12 then nV (x.n-y.n) else if k=13 then nV (x.n*y.n) else vBool (cmpK k (cmpV x y))
theorem cmpI_range (a b:Int):-1≤cmpI a b∧cmpI a b≤1:=by unfold cmpI;grind
theorem cmpR_range:∀ (xs ys:List Int),-1≤cmpR xs ys∧cmpR xs ys≤1
 | [],[]=>by decide
 | [],_::_=>by simp [cmpR]
 | _::_,[]=>by simp [cmpR]
 | x::xs,y::ys=>by
  have:=cmpR_range xs ys
  rw [cmpR]
  grind
theorem cmpV_range (a b:Vl):-1≤cmpV a b∧cmpV a b≤1:=by
 have h1:=cmpI_range a.k b.k
 have h2:=cmpI_range a.n b.n
 have h3:=cmpR_range (runesS a.s) (runesS b.s)
 unfold cmpV
 grind
theorem i64_0:I64 0:=by unfold I64;omega
theorem taken1_sp (k:Int) (x:Vl) (hx:Fv x) (hk:k=7∨k=8∨k=10):Sp C1 133 [.int .u8 k,eVs [x]] (eV (op1 k x)):=by
 obtain ⟨f1,f2,f3⟩:=hx
 have e1:=sub2_sp 0 x.n i64_0 f2
 have e2:=vrunes2_sp x.s f3
 rcases hk with rfl | rfl | rfl
 ·refine sp_tree draws (dm:=[]) (fs:=[]) (
   .call 13 (194) ([Vi (0:Int),Vi (Vl.n x)]) ([]) (Fr (V.tup [Vi (ovN ((0:Int)-Vl.n x)),Vi (ovE ((0:Int)-Vl.n x))]) [])<|.call 16 (131) ([Vi (ovN ((0:Int)-Vl.n x)),Vi (ovE ((0:Int)-Vl.n x))]) ([]) (Fr (eV (nV ((0:Int)-Vl.n x))) [])<|.ret (Fr (V.agg [Vu (Vl.k (nV ((0:Int)-Vl.n x))),Vb (Vl.b (nV ((0:Int)-Vl.n x))),Vi (Vl.n (nV ((0:Int)-Vl.n x))),V.str (Vl.s (nV ((0:Int)-Vl.n x)))]) [])) (by kernel_rfl) ?_
  exact ⟨(Sp.fact (e1)),(Sp.fact (num2_sp _)),rfl⟩
 ·refine sp_tree draws (dm:=[]) (fs:=[]) (
   .call 24 (108) ([Vb !Vl.b x]) ([]) (Fr (eV (vBool !Vl.b x)) [])<|.ret (Fr (V.agg [Vu (1:Int),Vb !Vl.b x,Vi (0:Int),V.str (ByteArray.mk (Array.mk []))]) [])) (by kernel_rfl) ?_
  exact ⟨(Sp.fact (truth2_sp _)),rfl⟩
 ·refine sp_tree draws (dm:=[]) (fs:=[]) (
   .call 31 (195) ([V.str (Vl.s x)]) ([]) (Fr (Vi (↑(List.length (runesS (Vl.s x))):Int)) [])<|.call 32 (131) ([Vi (↑(List.length (runesS (Vl.s x))):Int),Vi (0:Int)]) ([]) (Fr (eV (vInt (↑(List.length (runesS (Vl.s x))):Int))) [])<|.ret (Fr (V.agg [Vu (2:Int),Vb false,Vi (↑(List.length (runesS (Vl.s x))):Int),V.str (ByteArray.mk (Array.mk []))]) [])) (by kernel_rfl) ?_
  exact ⟨(Sp.fact (e2)),(Sp.fact (numI2_sp _)),rfl⟩
theorem taken2_sp (k:Int) (x y:Vl) (hx:Fv x) (hy:Fv y) (hk:11≤k) (hk2:k≤19):Sp C1 133 [.int .u8 k,eVs [x,y]] (eV (op2 k x y)):=by
 obtain ⟨f1,f2,f3⟩:=hx
 obtain ⟨g1,g2,g3⟩:=hy
 have e1:=add2_sp x.n y.n f2 g2
 have e2:=sub2_sp x.n y.n f2 g2
 have e3:=mul2_sp x.n y.n f2 g2
 have e4:=compare2_sp x y f1 g1 f3 g3
 by_cases h1:k=11
 ·subst h1
  refine sp_tree draws (dm:=[]) (fs:=[]) (
   .call 43 (196) ([Vi (Vl.n x),Vi (Vl.n y)]) ([]) (Fr (V.tup [Vi (ovN (Vl.n x+Vl.n y)),Vi (ovE (Vl.n x+Vl.n y))]) [])<|.call 46 (131) ([Vi (ovN (Vl.n x+Vl.n y)),Vi (ovE (Vl.n x+Vl.n y))]) ([]) (Fr (eV (nV (Vl.n x+Vl.n y))) [])<|.ret (Fr (V.agg [Vu (Vl.k (nV (Vl.n x+Vl.n y))),Vb (Vl.b (nV (Vl.n x+Vl.n y))),Vi (Vl.n (nV (Vl.n x+Vl.n y))),V.str (Vl.s (nV (Vl.n x+Vl.n y)))]) [])) (by kernel_rfl) ?_
  exact ⟨(Sp.fact (e1)),(Sp.fact (num2_sp _)),rfl⟩
 by_cases h2:k=12
 ·subst h2
  refine sp_tree draws (dm:=[]) (fs:=[]) (
   .call 57 (194) ([Vi (Vl.n x),Vi (Vl.n y)]) ([]) (Fr (V.tup [Vi (ovN (Vl.n x-Vl.n y)),Vi (ovE (Vl.n x-Vl.n y))]) [])<|.call 60 (131) ([Vi (ovN (Vl.n x-Vl.n y)),Vi (ovE (Vl.n x-Vl.n y))]) ([]) (Fr (eV (nV (Vl.n x-Vl.n y))) [])<|.ret (Fr (V.agg [Vu (Vl.k (nV (Vl.n x-Vl.n y))),Vb (Vl.b (nV (Vl.n x-Vl.n y))),Vi (Vl.n (nV (Vl.n x-Vl.n y))),V.str (Vl.s (nV (Vl.n x-Vl.n y)))]) [])) (by kernel_rfl) ?_
  exact ⟨(Sp.fact (e2)),(Sp.fact (num2_sp _)),rfl⟩
 by_cases h3:k=13
 ·subst h3
  refine sp_tree draws (dm:=[]) (fs:=[]) (
   .call 71 (197) ([Vi (Vl.n x),Vi (Vl.n y)]) ([]) (Fr (V.tup [Vi (ovN (Vl.n x*Vl.n y)),Vi (ovE (Vl.n x*Vl.n y))]) [])<|.call 74 (131) ([Vi (ovN (Vl.n x*Vl.n y)),Vi (ovE (Vl.n x*Vl.n y))]) ([]) (Fr (eV (nV (Vl.n x*Vl.n y))) [])<|.ret (Fr (V.agg [Vu (Vl.k (nV (Vl.n x*Vl.n y))),Vb (Vl.b (nV (Vl.n x*Vl.n y))),Vi (Vl.n (nV (Vl.n x*Vl.n y))),V.str (Vl.s (nV (Vl.n x*Vl.n y)))]) [])) (by kernel_rfl) ?_
  exact ⟨(Sp.fact (e3)),(Sp.fact (num2_sp _)),rfl⟩
 have hr:=cmpV_range x y
 generalize hc:cmpV x y=c at hr e4
 have e5:op2 k x y=vBool (cmpK k c):=by unfold op2;rw [if_neg h1,if_neg h2,if_neg h3,hc]
 rw [e5]
 refine sp_tree draws (dm:=[]) (fs:=[]) (
  .rw 8008 [] [(8,Vb (k==(7:Int)),Vb false)]<|.rw 8018 [] [(18,Vb (k==(8:Int)),Vb false)]<|.rw 8026 [] [(26,Vb (k==(10:Int)),Vb false)]<|.rw 8034 [] [(34,Vb (k==(11:Int)),Vb false)]<|.rw 8048 [] [(48,Vb (k==(12:Int)),Vb false)]<|.rw 8062 [] [(62,Vb (k==(13:Int)),Vb false)]<|.call 81 (107) ([eV x,eV y]) ([]) (Fr (Vi c) [])<|.ite 2083 (k==(14:Int))
  (.rw 8085 [] [(83,Vb (k==(14:Int)),Vb true)]<|.call 87 (108) ([Vb (c==(0:Int))]) ([]) (Fr (eV (vBool (c==(0:Int)))) [])<|.ret (Fr (V.agg [Vu (1:Int),Vb (c==(0:Int)),Vi (0:Int),V.str (ByteArray.mk (Array.mk []))]) []))
  (.ite 2088 (k==(15:Int))
  (.rw 8090 [] [(83,Vb (k==(14:Int)),Vb false),(88,Vb (k==(15:Int)),Vb true)]<|.call 92 (108) ([Vb (c !=(0:Int))]) ([]) (Fr (eV (vBool (c !=(0:Int)))) [])<|.ret (Fr (V.agg [Vu (1:Int),Vb (c !=(0:Int)),Vi (0:Int),V.str (ByteArray.mk (Array.mk []))]) []))
  (.ite 2093 (k==(16:Int))
  (.rw 8095 [] [(83,Vb (k==(14:Int)),Vb false),(88,Vb (k==(15:Int)),Vb false),(93,Vb (k==(16:Int)),Vb true)]<|.call 97 (108) ([Vb (decide (c<(0:Int)))]) ([]) (Fr (eV (vBool (decide (c<(0:Int))))) [])<|.ret (Fr (V.agg [Vu (1:Int),Vb (decide (c<(0:Int))),Vi (0:Int),V.str (ByteArray.mk (Array.mk []))]) []))
  (.ite 2098 (k==(17:Int))
  (.rw 8100 [] [(83,Vb (k==(14:Int)),Vb false),(88,Vb (k==(15:Int)),Vb false),(93,Vb (k==(16:Int)),Vb false),(98,Vb (k==(17:Int)),Vb true)]<|.call 102 (108) ([Vb (decide (c≤(0:Int)))]) ([]) (Fr (eV (vBool (decide (c≤(0:Int))))) [])<|.ret (Fr (V.agg [Vu (1:Int),Vb (decide (c≤(0:Int))),Vi (0:Int),V.str (ByteArray.mk (Array.mk []))]) []))
  (.ite 2103 (k==(18:Int))
  (.rw 8105 [] [(83,Vb (k==(14:Int)),Vb false),(88,Vb (k==(15:Int)),Vb false),(93,Vb (k==(16:Int)),Vb false),(98,Vb (k==(17:Int)),Vb false),(103,Vb (k==(18:Int)),Vb true)]<|.call 107 (108) ([Vb (decide (c>(0:Int)))]) ([]) (Fr (eV (vBool (decide (c>(0:Int))))) [])<|.ret (Fr (V.agg [Vu (1:Int),Vb (decide (c>(0:Int))),Vi (0:Int),V.str (ByteArray.mk (Array.mk []))]) []))
  (.call 110 (108) ([Vb (decide (c ≥ (0:Int)))]) ([]) (Fr (eV (vBool (decide (c ≥ (0:Int))))) [])<|.ret (Fr (V.agg [Vu (1:Int),Vb (decide (c ≥ (0:Int))),Vi (0:Int),V.str (ByteArray.mk (Array.mk []))]) []))))))) (by kernel_rfl) ?_
 exact ⟨⟨tv,cb (by simp<;>omega),tv⟩,⟨tv,cb (by simp<;>omega),tv⟩,⟨tv,cb (by simp<;>omega),tv⟩,⟨tv,cb (by simp<;>omega),tv⟩,⟨tv,cb (by simp<;>omega),tv⟩,⟨tv,cb (by simp<;>omega),tv⟩,(Sp.fact (e4)),fun h0=>have h0p:k=(14:Int):=(by simpa using h0);⟨⟨tv,cb (h0),tv⟩,(Sp.fact (truth2_sp _)),by show _=_;(unfold cmpK;grind)⟩,
  fun h0=>have h0p:¬k=(14:Int):=(by simpa using h0);⟨fun h1=>have h1p:k=(15:Int):=(by simpa using h1);⟨⟨tv,cb (h0),cb (h1),tv⟩,(Sp.fact (truth2_sp _)),by show _=_;(unfold cmpK;grind)⟩,
  fun h1=>have h1p:¬k=(15:Int):=(by simpa using h1);⟨fun h2=>have h2p:k=(16:Int):=(by simpa using h2);⟨⟨tv,cb (h0),cb (h1),cb (h2),tv⟩,(Sp.fact (truth2_sp _)),by show _=_;(unfold cmpK;grind)⟩,
  fun h2=>have h2p:¬k=(16:Int):=(by simpa using h2);⟨fun h3=>have h3p:k=(17:Int):=(by simpa using h3);⟨⟨tv,cb (h0),cb (h1),cb (h2),cb (h3),tv⟩,(Sp.fact (truth2_sp _)),by show _=_;(unfold cmpK;grind)⟩,
  fun h3=>have h3p:¬k=(17:Int):=(by simpa using h3);⟨fun h4=>have h4p:k=(18:Int):=(by simpa using h4);⟨⟨tv,cb (h0),cb (h1),cb (h2),cb (h3),cb (h4),tv⟩,(Sp.fact (truth2_sp _)),by show _=_;(unfold cmpK;grind)⟩,
  fun h4=>have h4p:¬k=(18:Int):=(by simpa using h4);⟨(Sp.fact (truth2_sp _)),by show _=_;(unfold cmpK;grind)⟩⟩⟩⟩⟩⟩
end Go.Fw
