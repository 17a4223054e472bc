/- Algebra: contracts of the library, laid at this program. -/
import Derived.Test.YtnmfjjfnkhcpkaaGreatDoorPk8
import Derived.Ground.NamesProg
set_option linter.all false
set_option maxRecDepth 100000
namespace Go.Proofs
open Go.RowKit Go.Shelf Go.Lib
def Tryz.laysValid_ren:Go.Shelf.Ren:=⟨fun | 196=>51 | 259=>112 | n=>n,fun | 9=>9 | 4=>4 | 3=>3 | 5=>5 | 12=>12 | 119=>150 | 0=>0 | 46=>154 | 139=>153 | 138=>152 | 53=>216 | n=>n,fun | 3=>0 | 4=>1 | n=>n⟩
theorem Tryz.laysValid:Go.Proofs.Lays.n196 Tryz.prog Tryz.laysValid_ren:={
 mixed:=by kernel_rfl
 f196:=Tryz.func51.trans (congrArg some (by kernel_rfl))
 f259:=Tryz.func112.trans (congrArg some (by kernel_rfl))
 t0:=Tryz.underlying0
 a0:=Tryz.isAgg0
 z0:=Tryz.sizeOf0
 v0:=Tryz.zeroValue0
 t3:=Tryz.underlying3
 a3:=Tryz.isAgg3
 z3:=Tryz.sizeOf3
 v3:=Tryz.zeroValue3
 t4:=Tryz.underlying4
 a4:=Tryz.isAgg4
 z4:=Tryz.sizeOf4
 v4:=Tryz.zeroValue4
 t5:=Tryz.underlying5
 a5:=Tryz.isAgg5
 z5:=Tryz.sizeOf5
 v5:=Tryz.zeroValue5
 t9:=Tryz.underlying9
 a9:=Tryz.isAgg9
 z9:=Tryz.sizeOf9
 v9:=Tryz.zeroValue9
 t12:=Tryz.underlying12
 a12:=Tryz.isAgg12
 z12:=Tryz.sizeOf12
 v12:=Tryz.zeroValue12
 t46:=Tryz.underlying154
 a46:=Tryz.isAgg154
 z46:=Tryz.sizeOf154
 v46:=Tryz.zeroValue154
 t53:=Tryz.underlying216
 a53:=Tryz.isAgg216
 z53:=Tryz.sizeOf216
 v53:=Tryz.zeroValue216
 t119:=Tryz.underlying150
 a119:=Tryz.isAgg150
 z119:=Tryz.sizeOf150
 t138:=Tryz.underlying152
 a138:=Tryz.isAgg152
 z138:=Tryz.sizeOf152
 v138:=Tryz.zeroValue152
 t139:=Tryz.underlying153
 a139:=Tryz.isAgg153
 z139:=Tryz.sizeOf153
 v139:=Tryz.zeroValue153
 g3:=by kernel_rfl
 g4:=by kernel_rfl}
def Tryz.laysDecode_ren:Go.Shelf.Ren:=⟨fun | 197=>116 | 260=>169 | n=>n,fun | 9=>9 | 21=>21 | 3=>3 | 4=>4 | 5=>5 | 105=>157 | 119=>150 | 0=>0 | 46=>154 | 139=>153 | 138=>152 | n=>n,fun | 3=>0 | 4=>1 | n=>n⟩
theorem Tryz.laysDecode:Go.Proofs.Lays.n197 Tryz.prog Tryz.laysDecode_ren:={
 mixed:=by kernel_rfl
 f197:=Tryz.func116.trans (congrArg some (by kernel_rfl))
 f260:=Tryz.func169.trans (congrArg some (by kernel_rfl))
 t0:=Tryz.underlying0
 a0:=Tryz.isAgg0
 z0:=Tryz.sizeOf0
 v0:=Tryz.zeroValue0
 t3:=Tryz.underlying3
 a3:=Tryz.isAgg3
 z3:=Tryz.sizeOf3
 v3:=Tryz.zeroValue3
 t4:=Tryz.underlying4
 a4:=Tryz.isAgg4
 z4:=Tryz.sizeOf4
 v4:=Tryz.zeroValue4
 t5:=Tryz.underlying5
 a5:=Tryz.isAgg5
 z5:=Tryz.sizeOf5
 v5:=Tryz.zeroValue5
 t9:=Tryz.underlying9
 a9:=Tryz.isAgg9
 z9:=Tryz.sizeOf9
 v9:=Tryz.zeroValue9
 t21:=Tryz.underlying21
 a21:=Tryz.isAgg21
 z21:=Tryz.sizeOf21
 v21:=Tryz.zeroValue21
 t46:=Tryz.underlying154
 a46:=Tryz.isAgg154
 z46:=Tryz.sizeOf154
 v46:=Tryz.zeroValue154
 t105:=Tryz.underlying157
 a105:=Tryz.isAgg157
 z105:=Tryz.sizeOf157
 v105:=Tryz.zeroValue157
 t119:=Tryz.underlying150
 a119:=Tryz.isAgg150
 z119:=Tryz.sizeOf150
 t138:=Tryz.underlying152
 a138:=Tryz.isAgg152
 z138:=Tryz.sizeOf152
 v138:=Tryz.zeroValue152
 t139:=Tryz.underlying153
 a139:=Tryz.isAgg153
 z139:=Tryz.sizeOf153
 v139:=Tryz.zeroValue153
 g3:=by kernel_rfl
 g4:=by kernel_rfl}
end Go.Proofs
namespace Go.Fw
open Go.Proofs Go.RowKit
theorem tab_first:∀ c:Fin 256,(globNums 0).bind (·[c.val]?)=some (Lib.firstT c.val):=by decide
theorem tab_acc:∀ i:Fin 16,(globNums 1).bind (·[2*i.val]?)=some (Lib.accLo i.val)∧(globNums 1).bind (·[2*i.val+1]?)=some (Lib.accHi i.val):=by decide
theorem utf8_tabs {m:Mem} {w:World} (hm:MemOk m w):Lib.Utf8Tabs 0 1 w:=by
 have get:∀ (b i:Nat) (u:Value),(theGlob b).bind (·[i]?)=some u→w.cell? ⟨b,i,none⟩=some u:=fun b i u h=>by
  obtain ⟨cs,h1,h2⟩:=Option.bind_eq_some_iff.1 h
  exact glob_cell hm h1 h2
 exact ⟨fun c hc=>get 0 c _ (glob_num (tab_first ⟨c,hc⟩)),fun i hi=>⟨get 1 _ _ (glob_num (tab_acc ⟨i,hi⟩).1),get 1 _ _ (glob_num (tab_acc ⟨i,hi⟩).2)⟩⟩
theorem small {f:Nat} (h:Nat.blt f 1000000=true):f<yBase:=by unfold yBase;exact Nat.le_of_ble_eq_true h
theorem hasBody {f:FuncId} (h:(match C1.P.funcs[f]? with | some fn=>fn.body.isSome&&!(fn.name == "runtime.NumGoroutine") | none=>false)=true):∃ fn c,C1.P.funcs[f]?=some fn∧fn.body=some c∧(fn.name == "runtime.NumGoroutine")=false:=by
 split at h
 ·rename_i fn hf
  rw [Bool.and_eq_true] at h
  obtain ⟨c,hc⟩:=Option.isSome_iff_exists.1 h.1
  exact ⟨fn,c,hf,hc,by simpa using h.2⟩
 ·cases h
def validU (s:ByteArray):Bool:=Lib.validD s.data.toList
theorem valid_sp (s:ByteArray) (h:s.size≤9223372036854775807):Sp C1 51 [.str s] (.bool (validU s)):=by
 refine Sp.ofCalls (hasBody (by kernel_rfl)) (small rfl) (by kernel_rfl) rfl (fun us w m hm ha=>?_)
 rw [argsI_str ha]
 refine (Any.utf8_ValidString Tryz.laysValid s w h (utf8_tabs hm)).mono (fun e w' he=>?_)
 exact ⟨_,he.1,.bool _,he.2⟩
theorem decode_sp (s:ByteArray):Sp C1 116 [.str s] (.tup [.int .i32 (Lib.decodeGo s).1,.int .i64 (Lib.decodeGo s).2]):=by
 refine Sp.ofCallsT (hasBody (by kernel_rfl)) (small rfl) (by kernel_rfl) rfl (fun us w m hm ha=>?_)
 rw [argsI_str ha]
 refine (Any.utf8_DecodeRuneInString Tryz.laysDecode s w (utf8_tabs hm)).mono (fun e w' he=>?_)
 refine ⟨_,he.1,⟨rfl,fun j c hj hc=>?_⟩,he.2⟩
 match j,hj with
 | 0,_=>cases hc;exact .int _ _
 | 1,_=>cases hc;exact .int _ _
abbrev tFFFD:ByteArray:=⟨#[239,191,189]⟩
theorem decodeN_fffd (n b0 b1 b2 b3:Nat) (h0:b0<256) (h1:b1<256) (h2:b2<256) (h3:b3<256) (hn:1≤n) (h:(Lib.decodeN n b0 b1 b2 b3).1=65533) :
  ((Lib.decodeN n b0 b1 b2 b3).2=1∧¬(3≤n∧b0=239∧b1=191∧b2=189))∨((Lib.decodeN n b0 b1 b2 b3).2=3∧3≤n∧b0=239∧b1=191∧b2=189):=by
 obtain ⟨d,hd⟩:∃ d,Lib.decodeN n b0 b1 b2 b3=d:=⟨_,rfl⟩
 rw [hd] at h ⊢
 unfold Lib.decodeN at hd
 repeat' split at hd
 all_goals subst hd
 all_goals simp only at h ⊢
 all_goals first | omega | (exfalso;omega) | (left;refine ⟨trivial,fun e=>?_⟩;omega) | (right;refine ⟨trivial,?_⟩;omega)
theorem ext3 (s:ByteArray) (p:Nat) (h:p+3≤s.size):(s.extract p (p+3)=tFFFD)↔(s.get! p).toNat=239∧(s.get! (p+1)).toNat=191∧(s.get! (p+2)).toNat=189:=by
 have hg:∀ k,k<3→(s.extract p (p+3)).data.toList[k]?=some (s.get! (p+k)):=by
  intro k hk
  have e:s.get! (p+k)=s.data.toList[p+k]'(by rw [←Lib.size_eq];omega):=by
   rw [Proofs.Utf8W.get!_of_lt s (p+k) (by omega)];rfl
  rw [e]
  have:(s.extract p (p+3)).data.toList=(s.data.toList.drop p).take 3:=by
   rw [ByteArray.data_extract,Array.toList_extract]
   simp
  rw [this,List.getElem?_take,if_pos hk,List.getElem?_drop,List.getElem?_eq_getElem]
 have hl:(s.extract p (p+3)).data.toList.length=3:=by
  rw [←Lib.size_eq,ByteArray.size_extract];omega
 constructor
 ·intro e
  have g0:=hg 0 (by omega);have g1:=hg 1 (by omega);have g2:=hg 2 (by omega)
  rw [e] at g0 g1 g2
  simp at g0 g1 g2
  rw [←g0,←g1,←g2]
  decide
 ·rintro ⟨a,b,c⟩
  have a:s.get! p=239:=UInt8.toNat_inj.1 (by rw [a];rfl)
  have b:s.get! (p+1)=191:=UInt8.toNat_inj.1 (by rw [b];rfl)
  have c:s.get! (p+2)=189:=UInt8.toNat_inj.1 (by rw [c];rfl)
  have e:(s.extract p (p+3)).data.toList=[239,191,189]:=by
   apply List.ext_getElem?
   intro k
   by_cases hk:k<3
   ·rw [hg k hk]
    match k,hk with
    | 0,_=>rw [Nat.add_zero,a];rfl
    | 1,_=>rw [b];rfl
    | 2,_=>rw [c];rfl
   ·rw [List.getElem?_eq_none (by omega),List.getElem?_eq_none (by simp;omega)]
  exact ByteArray.ext (Array.ext' e)
theorem decode_fffd (s:ByteArray) (p:Nat) (h:p<s.size) (hr:(Utf8.decode s p).1=65533):((Utf8.decode s p).2=1∧(s.size<p+3∨(p+3≤s.size∧s.extract p (p+3)≠tFFFD)))∨((Utf8.decode s p).2=3∧p+3≤s.size∧s.extract p (p+3)=tFFFD):=by
 rw [Lib.decode_at] at hr ⊢
 rcases decodeN_fffd _ _ _ _ _ (s.get! p).toNat_lt (s.get! (p+1)).toNat_lt (s.get! (p+2)).toNat_lt (s.get! (p+3)).toNat_lt (by omega) hr with ⟨h1,h2⟩ | ⟨h1,h2,h3⟩
 ·refine .inl ⟨h1,?_⟩
  by_cases h3:p+3≤s.size
  ·refine .inr ⟨h3,fun e=>h2 ⟨by omega,(ext3 s p h3).1 e⟩⟩
  ·exact .inl (by omega)
 ·exact .inr ⟨h1,by omega,(ext3 s p (by omega)).2 h3⟩
theorem eq_fffd {a:ByteArray} (h:a=tFFFD):(!(a.toList==[239,191,189]))=false:=by
 rw [h,Lib.toList_data];rfl
theorem neq_fffd {a:ByteArray} (h:a≠tFFFD):(!(a.toList==[239,191,189]))=true:=by
 rw [Lib.toList_data]
 simp only [Bool.not_eq_true',beq_eq_false_iff_ne,ne_eq]
 exact fun e=>h (ByteArray.ext (Array.ext' e))
theorem toNat_3 (p:Nat):((p:Int)+3).toNat=p+3:=by omega
end Go.Fw
set_option maxHeartbeats 20000000
namespace Go.Fw
open Go.Proofs
def vFrom (s:ByteArray) (p:Nat):Bool:=Lib.validD (s.data.toList.drop p)
abbrev SU (s:ByteArray) (p:Nat):St:=mkSt 28 [(0,.str s),(6,.ptr 0 0)] [.iter s p]
theorem vFrom_end (s:ByteArray) (p:Nat) (h:s.size≤p):vFrom s p=true:=by
 unfold vFrom
 rw [List.drop_eq_nil_of_le (by rw [←Lib.size_eq];exact h)]
 rfl
theorem vFrom_step (s:ByteArray) (p:Nat) (h:p<s.size):vFrom s p=if (Utf8.decode s p).1=65533∧(Utf8.decode s p).2=1 then false else vFrom s (p+(Utf8.decode s p).2):=by
 unfold vFrom
 rw [Lib.validD_step _ (by intro e;have:=congrArg List.length e;rw [List.length_drop,←Lib.size_eq] at this;simp at this;omega),Lib.decodeL_drop,List.drop_drop]
theorem decode_width (s:ByteArray) (p:Nat):1≤(Utf8.decode s p).2:=by rw [←Lib.decodeL_drop];exact Lib.decodeL_width _
theorem utfl_ok (s:ByteArray) (hs:s.size≤2 ^ 47):∀ k p,s.size≤p+k→vFrom s p=true→LoopK C1 129 16 (keeps [0,6]) (SU s p) (.exit 0) (mkSt 28 [] [])
 | 0,p,h,hv=>by
  refine loop_tree draws (rd:=true) (kn:=(keeps [0,6])) (ke:=(keeps [])) (
   .ff 7 (decide (p<ByteArray.size s))<|.to 24001 ([.cut 0])<|.ret ((Ex.exit 0,mkSt 28 [] []))) (by kernel_rfl) ?_
  exact ⟨by (simp<;>omega),rfl,rfl⟩
 | k+1,p,h,hv=>by
  by_cases hp:p<s.size
  ·have hw:=decode_width s p
   have ih0:=utfl_ok s hs k (p+(Utf8.decode s p).2) (by omega)
   by_cases hr:(Utf8.decode s p).1=65533
   ·rcases decode_fffd s p hp hr with ⟨h1,h2⟩ | ⟨h1,h2,h3⟩
    ·rw [vFrom_step s p hp,if_pos ⟨hr,h1⟩] at hv
     cases hv
    ·rw [vFrom_step s p hp,if_neg (by omega)] at hv
     have ih:=ih0 hv
     have hr':(((Utf8.decode s p).1:Int)=65533):=by omega
     refine loop_tree draws (rd:=true) (kn:=(keeps [0,6])) (ke:=(keeps [])) (
      .tt 7 (decide (p<ByteArray.size s))<|.rw 8012 [] [(12,Vb ((↑(Prod.fst (Utf8.decode s p)):Int)==(65533:Int)),Vb true)]<|.rw 8015 [] [(15,Vi (IntKind.wrap IntKind.i64 ((↑p:Int)+(3:Int))),Vi ((↑p:Int)+(3:Int)))]<|.rw 8018 [] [(18,Vb (decide ((↑p:Int)+(3:Int)>(↑(ByteArray.size s):Int))),Vb false)]<|.rw 8023 [] [(23,Vi (IntKind.wrap IntKind.i64 ((↑p:Int)+(3:Int))),Vi ((↑p:Int)+(3:Int)))]<|.chk 24 (decide ((0:Int)≤(↑p:Int)∧(↑p:Int)≤(↑p:Int)+(3:Int)∧(↑p:Int)+(3:Int)≤(↑(ByteArray.size s):Int)))<|.rw 8024 [] [(24,V.str (ByteArray.extract s (Int.toNat (↑p:Int)) (Int.toNat ((↑p:Int)+(3:Int)))),V.str (ByteArray.extract s p (p+3)))]<|.rw 8025 [] [(25,Vb !ByteArray.toList (ByteArray.extract s p (p+3))==[UInt8.ofBitVec (BitVec.ofFin (Fin.mk 239 (Nat.mod_lt (nat_lit 239) (BitVec.ofNat._proof_1 8)))),UInt8.ofBitVec (BitVec.ofFin (Fin.mk 191 (Nat.mod_lt (nat_lit 191) (BitVec.ofNat._proof_1 8)))),UInt8.ofBitVec (BitVec.ofFin (Fin.mk 189 (Nat.mod_lt (nat_lit 189) (BitVec.ofNat._proof_1 8))))],Vb false)]<|.ret (.normal,SU s (p+Prod.snd (Utf8.decode s p)))) (by kernel_rfl) ?_
     exact ⟨by simp<;>omega,⟨tv,cb (by simp<;>omega),tv⟩,⟨tv,by simp (disch:=omega) only [wrap_i64],tv⟩,⟨tv,cb (by simp<;>omega),tv⟩,⟨tv,by simp (disch:=omega) only [wrap_i64],tv⟩,by simp<;>omega,⟨tv,by simp (disch:=omega) only [Int.toNat_natCast,toNat_3],tv⟩,⟨tv,cb (by exact eq_fffd h3),tv⟩,(ih0 hv)⟩
   ·have hr':¬(((Utf8.decode s p).1:Int)=65533):=by omega
    rw [vFrom_step s p hp,if_neg (fun e=>hr e.1)] at hv
    have ih:=ih0 hv
    refine loop_tree draws (rd:=true) (kn:=(keeps [0,6])) (ke:=(keeps [])) (
     .tt 7 (decide (p<ByteArray.size s))<|.rw 8012 [] [(12,Vb ((↑(Prod.fst (Utf8.decode s p)):Int)==(65533:Int)),Vb false)]<|.ret (.normal,SU s (p+Prod.snd (Utf8.decode s p)))) (by kernel_rfl) ?_
    exact ⟨by simp<;>omega,⟨tv,cb (by simp<;>omega),tv⟩,(ih0 hv)⟩
  ·refine loop_tree draws (rd:=true) (kn:=(keeps [0,6])) (ke:=(keeps [])) (
    .ff 7 (decide (p<ByteArray.size s))<|.to 24001 ([.cut 0])<|.ret ((Ex.exit 0,mkSt 28 [] []))) (by kernel_rfl) ?_
   exact ⟨by (simp<;>omega),rfl,rfl⟩
theorem utfl_bad (s:ByteArray) (hs:s.size≤2 ^ 47):∀ k p,s.size≤p+k→vFrom s p=false→LoopK C1 129 16 (keeps [0,6]) (SU s p) .ret (mkSt 28 [(2,.bool false)] [])
 | 0,p,h,hv=>by
  rw [vFrom_end s p (by omega)] at hv
  cases hv
 | k+1,p,h,hv=>by
  have hp:p<s.size:=by
   apply Classical.byContradiction
   intro hn
   rw [vFrom_end s p (by omega)] at hv
   cases hv
  have hw:=decode_width s p
  have ih0:=utfl_bad s hs k (p+(Utf8.decode s p).2) (by omega)
  by_cases hr:(Utf8.decode s p).1=65533
  ·have hr':(((Utf8.decode s p).1:Int)=65533):=by omega
   rcases decode_fffd s p hp hr with ⟨h1,h2 | ⟨h2,h3⟩⟩ | ⟨h1,h2,h3⟩
   ·refine loop_tree draws (rd:=true) (kn:=(keeps [0,6])) (ke:=(keeps [2])) (
     .tt 7 (decide (p<ByteArray.size s))<|.rw 8012 [] [(12,Vb ((↑(Prod.fst (Utf8.decode s p)):Int)==(65533:Int)),Vb true)]<|.rw 8015 [] [(15,Vi (IntKind.wrap IntKind.i64 ((↑p:Int)+(3:Int))),Vi ((↑p:Int)+(3:Int)))]<|.rw 8018 [] [(18,Vb (decide ((↑p:Int)+(3:Int)>(↑(ByteArray.size s):Int))),Vb true)]<|.to 24001 ([.cut 0])<|.ret ((Ex.ret,mkSt 28 [(2,Vb false)] []))) (by kernel_rfl) ?_
    exact ⟨by simp<;>omega,⟨tv,cb (by simp<;>omega),tv⟩,⟨tv,by simp (disch:=omega) only [wrap_i64],tv⟩,⟨tv,cb (by simp<;>omega),tv⟩,rfl,rfl⟩
   ·refine loop_tree draws (rd:=true) (kn:=(keeps [0,6])) (ke:=(keeps [2])) (
     .tt 7 (decide (p<ByteArray.size s))<|.rw 8012 [] [(12,Vb ((↑(Prod.fst (Utf8.decode s p)):Int)==(65533:Int)),Vb true)]<|.rw 8015 [] [(15,Vi (IntKind.wrap IntKind.i64 ((↑p:Int)+(3:Int))),Vi ((↑p:Int)+(3:Int)))]<|.rw 8018 [] [(18,Vb (decide ((↑p:Int)+(3:Int)>(↑(ByteArray.size s):Int))),Vb false)]<|.rw 8023 [] [(23,Vi (IntKind.wrap IntKind.i64 ((↑p:Int)+(3:Int))),Vi ((↑p:Int)+(3:Int)))]<|.chk 24 (decide ((0:Int)≤(↑p:Int)∧(↑p:Int)≤(↑p:Int)+(3:Int)∧(↑p:Int)+(3:Int)≤(↑(ByteArray.size s):Int)))<|.rw 8024 [] [(24,V.str (ByteArray.extract s (Int.toNat (↑p:Int)) (Int.toNat ((↑p:Int)+(3:Int)))),V.str (ByteArray.extract s p (p+3)))]<|.rw 8025 [] [(25,Vb !ByteArray.toList (ByteArray.extract s p (p+3))==[UInt8.ofBitVec (BitVec.ofFin (Fin.mk 239 (Nat.mod_lt (nat_lit 239) (BitVec.ofNat._proof_1 8)))),UInt8.ofBitVec (BitVec.ofFin (Fin.mk 191 (Nat.mod_lt (nat_lit 191) (BitVec.ofNat._proof_1 8)))),UInt8.ofBitVec (BitVec.ofFin (Fin.mk 189 (Nat.mod_lt (nat_lit 189) (BitVec.ofNat._proof_1 8))))],Vb true)]<|.to 24001 ([.cut 0])<|.ret ((Ex.ret,mkSt 28 [(2,Vb false)] []))) (by kernel_rfl) ?_
    exact ⟨by simp<;>omega,⟨tv,cb (by simp<;>omega),tv⟩,⟨tv,by simp (disch:=omega) only [wrap_i64],tv⟩,⟨tv,cb (by simp<;>omega),tv⟩,⟨tv,by simp (disch:=omega) only [wrap_i64],tv⟩,by simp<;>omega,⟨tv,by simp (disch:=omega) only [Int.toNat_natCast,toNat_3],tv⟩,⟨tv,cb (by exact neq_fffd h3),tv⟩,rfl,rfl⟩
   ·rw [vFrom_step s p hp,if_neg (by omega)] at hv
    have ih:=ih0 hv
    refine loop_tree draws (rd:=true) (kn:=(keeps [0,6])) (ke:=(keeps [2])) (
     .tt 7 (decide (p<ByteArray.size s))<|.rw 8012 [] [(12,Vb ((↑(Prod.fst (Utf8.decode s p)):Int)==(65533:Int)),Vb true)]<|.rw 8015 [] [(15,Vi (IntKind.wrap IntKind.i64 ((↑p:Int)+(3:Int))),Vi ((↑p:Int)+(3:Int)))]<|.rw 8018 [] [(18,Vb (decide ((↑p:Int)+(3:Int)>(↑(ByteArray.size s):Int))),Vb false)]<|.rw 8023 [] [(23,Vi (IntKind.wrap IntKind.i64 ((↑p:Int)+(3:Int))),Vi ((↑p:Int)+(3:Int)))]<|.chk 24 (decide ((0:Int)≤(↑p:Int)∧(↑p:Int)≤(↑p:Int)+(3:Int)∧(↑p:Int)+(3:Int)≤(↑(ByteArray.size s):Int)))<|.rw 8024 [] [(24,V.str (ByteArray.extract s (Int.toNat (↑p:Int)) (Int.toNat ((↑p:Int)+(3:Int)))),V.str (ByteArray.extract s p (p+3)))]<|.rw 8025 [] [(25,Vb !ByteArray.toList (ByteArray.extract s p (p+3))==[UInt8.ofBitVec (BitVec.ofFin (Fin.mk 239 (Nat.mod_lt (nat_lit 239) (BitVec.ofNat._proof_1 8)))),UInt8.ofBitVec (BitVec.ofFin (Fin.mk 191 (Nat.mod_lt (nat_lit 191) (BitVec.ofNat._proof_1 8)))),UInt8.ofBitVec (BitVec.ofFin (Fin.mk 189 (Nat.mod_lt (nat_lit 189) (BitVec.ofNat._proof_1 8))))],Vb false)]<|.ret (.normal,SU s (p+Prod.snd (Utf8.decode s p)))) (by kernel_rfl) ?_
    exact ⟨by simp<;>omega,⟨tv,cb (by simp<;>omega),tv⟩,⟨tv,by simp (disch:=omega) only [wrap_i64],tv⟩,⟨tv,cb (by simp<;>omega),tv⟩,⟨tv,by simp (disch:=omega) only [wrap_i64],tv⟩,by simp<;>omega,⟨tv,by simp (disch:=omega) only [Int.toNat_natCast,toNat_3],tv⟩,⟨tv,cb (by exact eq_fffd h3),tv⟩,(ih0 hv)⟩
  ·have hr':¬(((Utf8.decode s p).1:Int)=65533):=by omega
   rw [vFrom_step s p hp,if_neg (fun e=>hr e.1)] at hv
   have ih:=ih0 hv
   refine loop_tree draws (rd:=true) (kn:=(keeps [0,6])) (ke:=(keeps [2])) (
    .tt 7 (decide (p<ByteArray.size s))<|.rw 8012 [] [(12,Vb ((↑(Prod.fst (Utf8.decode s p)):Int)==(65533:Int)),Vb false)]<|.ret (.normal,SU s (p+Prod.snd (Utf8.decode s p)))) (by kernel_rfl) ?_
   exact ⟨by simp<;>omega,⟨tv,cb (by simp<;>omega),tv⟩,(ih0 hv)⟩
theorem utf_ok (s:ByteArray) (hs:s.size≤2 ^ 47) (hv:validU s=true):Sp C1 129 [.str s] (.bool true):=by
 have l:=utfl_ok s hs s.size 0 (by omega) hv
 refine sp_tree draws (dm:=[]) (fs:=[]) (
  .loop 16 false (keeps [0,6]) (SU s 0) (Ex.exit 0) (mkSt 28 [] [])<|.ret (Fr (Vb true) [])) (by kernel_rfl) ?_
 exact ⟨(LoopR.weak (l)),rfl⟩
theorem utf_bad (s:ByteArray) (hs:s.size≤2 ^ 47) (hv:validU s=false):Sp C1 129 [.str s] (.bool false):=by
 have l:=utfl_bad s hs s.size 0 (by omega) hv
 refine sp_tree draws (dm:=[]) (fs:=[]) (
  .loop 16 false (keeps [0,6]) (SU s 0) (Ex.ret) (mkSt 28 [(2,Vb false)] [])<|.ret (Fr (Vb false) [])) (by kernel_rfl) ?_
 exact ⟨(LoopR.weak (l)),rfl⟩
theorem utf_sp (s:ByteArray) (hs:s.size≤2 ^ 47):Sp C1 129 [.str s] (.bool (validU s)):=by
 cases hv:validU s
 ·exact utf_bad s hs hv
 ·exact utf_ok s hs hv
end Go.Fw
set_option maxHeartbeats 20000000
namespace Go.Fw
open Go.Proofs
def Bare (v:Vl):Prop:=0≤v.k∧v.k<4∧(v.k=1∨v.b=false)∧(v.k=2∨v.n=0)∧(v.k=3∨v.s.toList=[])
instance (v:Vl):Decidable (Bare v):=by unfold Bare;infer_instance
def chkV (v:Vl):Int:=if ¬Bare v then 5 else if 256<v.s.size then 4 else if validU v.s=false then 9 else 0
theorem check_sp (v:Vl) (hs:v.s.size≤2 ^ 47) (hk:0≤v.k):Sp C1 19 [eV v] (.int .i64 (chkV v)):=by
 have hv:=valid_sp v.s (by omega)
 refine sp_tree draws (dm:=[]) (fs:=[]) (
  .ite 2009 (Vl.k v==(0:Int))
  (.rw 8027 [] [(9,Vb (Vl.k v==(0:Int)),Vb true)]<|.ite 2026 (!(Vl.k v==Vl.k v&&(Vl.b v==false&&(Vl.n v==(0:Int)&&(ByteArray.toList (Vl.s v)==[]&&true)))))
  (.rw 8002 [] [(10,Vb (Vl.k v==(0:Int)),Vb true),(26,Vb !(Vl.k v==Vl.k v&&(Vl.b v==false&&(Vl.n v==(0:Int)&&(ByteArray.toList (Vl.s v)==[]&&true)))),Vb true)]<|.ret (Fr (Vi (5:Int)) []))
  (.ite 2030 (decide ((↑(ByteArray.size (Vl.s v)):Int)>(256:Int)))
  (.rw 8002 [] [(10,Vb (Vl.k v==(0:Int)),Vb true),(26,Vb !(Vl.k v==Vl.k v&&(Vl.b v==false&&(Vl.n v==(0:Int)&&(ByteArray.toList (Vl.s v)==[]&&true)))),Vb false),(30,Vb (decide ((↑(ByteArray.size (Vl.s v)):Int)>(256:Int))),Vb true)]<|.ret (Fr (Vi (4:Int)) []))
  (.call 38 (51) ([V.str (Vl.s v)]) ([]) (Fr (Vb (validU (Vl.s v))) [])<|.ite 2035 (!validU (Vl.s v))
  (.rw 8002 [] [(10,Vb (Vl.k v==(0:Int)),Vb true),(26,Vb !(Vl.k v==Vl.k v&&(Vl.b v==false&&(Vl.n v==(0:Int)&&(ByteArray.toList (Vl.s v)==[]&&true)))),Vb false),(30,Vb (decide ((↑(ByteArray.size (Vl.s v)):Int)>(256:Int))),Vb false),(35,Vb !validU (Vl.s v),Vb true),(38,Vb (validU (Vl.s v)),Vb false)]<|.ret (Fr (Vi (9:Int)) []))
  (.ret (Fr (Vi (0:Int)) [])))))
  (.ite 2011 (Vl.k v==(1:Int))
  (.rw 8013 [] [(11,Vb (Vl.k v==(1:Int)),Vb true)]<|.ite 2026 (!(Vl.k v==Vl.k v&&(Vl.b v==Vl.b v&&(Vl.n v==(0:Int)&&(ByteArray.toList (Vl.s v)==[]&&true)))))
  (.rw 8002 [] [(12,Vb (Vl.k v==(1:Int)),Vb true),(26,Vb !(Vl.k v==Vl.k v&&(Vl.b v==Vl.b v&&(Vl.n v==(0:Int)&&(ByteArray.toList (Vl.s v)==[]&&true)))),Vb true)]<|.ret (Fr (Vi (5:Int)) []))
  (.ite 2030 (decide ((↑(ByteArray.size (Vl.s v)):Int)>(256:Int)))
  (.rw 8002 [] [(12,Vb (Vl.k v==(1:Int)),Vb true),(26,Vb !(Vl.k v==Vl.k v&&(Vl.b v==Vl.b v&&(Vl.n v==(0:Int)&&(ByteArray.toList (Vl.s v)==[]&&true)))),Vb false)]<|.ret (Fr (Vi (4:Int)) []))
  (.call 38 (51) ([V.str (Vl.s v)]) ([]) (Fr (Vb (validU (Vl.s v))) [])<|.ite 2035 (!validU (Vl.s v))
  (.rw 8002 [] [(9,Vb (Vl.k v==(0:Int)),Vb false),(12,Vb (Vl.k v==(1:Int)),Vb true),(26,Vb !(Vl.k v==Vl.k v&&(Vl.b v==Vl.b v&&(Vl.n v==(0:Int)&&(ByteArray.toList (Vl.s v)==[]&&true)))),Vb false),(30,Vb (decide ((↑(ByteArray.size (Vl.s v)):Int)>(256:Int))),Vb false),(35,Vb !validU (Vl.s v),Vb true),(38,Vb (validU (Vl.s v)),Vb false)]<|.ret (Fr (Vi (9:Int)) []))
  (.ret (Fr (Vi (0:Int)) [])))))
  (.ite 2016 (Vl.k v==(2:Int))
  (.rw 8018 [] [(16,Vb (Vl.k v==(2:Int)),Vb true)]<|.ite 2026 (!(Vl.k v==Vl.k v&&(Vl.b v==false&&(Vl.n v==Vl.n v&&(ByteArray.toList (Vl.s v)==[]&&true)))))
  (.rw 8002 [] [(17,Vb (Vl.k v==(2:Int)),Vb true),(26,Vb !(Vl.k v==Vl.k v&&(Vl.b v==false&&(Vl.n v==Vl.n v&&(ByteArray.toList (Vl.s v)==[]&&true)))),Vb true)]<|.ret (Fr (Vi (5:Int)) []))
  (.ite 2030 (decide ((↑(ByteArray.size (Vl.s v)):Int)>(256:Int)))
  (.rw 8002 [] [(17,Vb (Vl.k v==(2:Int)),Vb true),(26,Vb !(Vl.k v==Vl.k v&&(Vl.b v==false&&(Vl.n v==Vl.n v&&(ByteArray.toList (Vl.s v)==[]&&true)))),Vb false)]<|.ret (Fr (Vi (4:Int)) []))
  (.call 38 (51) ([V.str (Vl.s v)]) ([]) (Fr (Vb (validU (Vl.s v))) [])<|.ite 2035 (!validU (Vl.s v))
  (.rw 8002 [] [(9,Vb (Vl.k v==(0:Int)),Vb false),(11,Vb (Vl.k v==(1:Int)),Vb false),(17,Vb (Vl.k v==(2:Int)),Vb true),(26,Vb !(Vl.k v==Vl.k v&&(Vl.b v==false&&(Vl.n v==Vl.n v&&(ByteArray.toList (Vl.s v)==[]&&true)))),Vb false),(30,Vb (decide ((↑(ByteArray.size (Vl.s v)):Int)>(256:Int))),Vb false),(35,Vb !validU (Vl.s v),Vb true),(38,Vb (validU (Vl.s v)),Vb false)]<|.ret (Fr (Vi (9:Int)) []))
  (.ret (Fr (Vi (0:Int)) [])))))
  (.ite 2021 (Vl.k v==(3:Int))
  (.rw 8023 [] [(21,Vb (Vl.k v==(3:Int)),Vb true)]<|.ite 2026 (!(Vl.k v==Vl.k v&&(Vl.b v==false&&(Vl.n v==(0:Int)&&(ByteArray.toList (Vl.s v)==ByteArray.toList (Vl.s v)&&true)))))
  (.rw 8002 [] [(22,Vb (Vl.k v==(3:Int)),Vb true),(26,Vb !(Vl.k v==Vl.k v&&(Vl.b v==false&&(Vl.n v==(0:Int)&&(ByteArray.toList (Vl.s v)==ByteArray.toList (Vl.s v)&&true)))),Vb true)]<|.ret (Fr (Vi (5:Int)) []))
  (.ite 2030 (decide ((↑(ByteArray.size (Vl.s v)):Int)>(256:Int)))
  (.rw 8002 [] [(22,Vb (Vl.k v==(3:Int)),Vb true),(26,Vb !(Vl.k v==Vl.k v&&(Vl.b v==false&&(Vl.n v==(0:Int)&&(ByteArray.toList (Vl.s v)==ByteArray.toList (Vl.s v)&&true)))),Vb false)]<|.ret (Fr (Vi (4:Int)) []))
  (.call 38 (51) ([V.str (Vl.s v)]) ([]) (Fr (Vb (validU (Vl.s v))) [])<|.ite 2035 (!validU (Vl.s v))
  (.rw 8002 [] [(9,Vb (Vl.k v==(0:Int)),Vb false),(11,Vb (Vl.k v==(1:Int)),Vb false),(16,Vb (Vl.k v==(2:Int)),Vb false),(22,Vb (Vl.k v==(3:Int)),Vb true),(26,Vb !(Vl.k v==Vl.k v&&(Vl.b v==false&&(Vl.n v==(0:Int)&&(ByteArray.toList (Vl.s v)==ByteArray.toList (Vl.s v)&&true)))),Vb false),(30,Vb (decide ((↑(ByteArray.size (Vl.s v)):Int)>(256:Int))),Vb false),(35,Vb !validU (Vl.s v),Vb true),(38,Vb (validU (Vl.s v)),Vb false)]<|.ret (Fr (Vi (9:Int)) []))
  (.ret (Fr (Vi (0:Int)) [])))))
  (.ret (Fr (Vi (5:Int)) [])))))) (by kernel_rfl) ?_
 exact ⟨fun h0=>have h0p:Vl.k v=(0:Int):=(by simpa using h0);⟨⟨tv,cb (h0),tv⟩,fun h1=>have h1p:Vl.b v=true∨¬Vl.n v=(0:Int)∨¬ByteArray.toList (Vl.s v)=[]:=(by simpa using h1);⟨⟨tv,cb (h0),cb (h1),tv⟩,by show _=_;(unfold chkV Bare;grind)⟩,
  fun h1=>have h1p:Vl.b v=false∧Vl.n v=(0:Int)∧ByteArray.toList (Vl.s v)=[]:=(by simpa using h1);⟨fun h2=>have h2p:(256:Int)<(↑(ByteArray.size (Vl.s v)):Int):=(by simpa using h2);⟨⟨tv,cb (h0),cb (h1),cb (h2),tv⟩,by show _=_;(unfold chkV Bare;grind)⟩,
  fun h2=>have h2p:(↑(ByteArray.size (Vl.s v)):Int)≤(256:Int):=(by simpa using h2);⟨(Sp.fact (hv)),fun h3=>have h3p:validU (Vl.s v)=false:=(by simpa using h3);⟨⟨tv,cb (h0),cb (h1),cb (h2),cb (h3),cb (h3p),tv⟩,by show _=_;(unfold chkV Bare;grind)⟩,
  fun h3=>have h3p:validU (Vl.s v)=true:=(by simpa using h3);by show _=_;(unfold chkV Bare;grind)⟩⟩⟩,
  fun h0=>have h0p:¬Vl.k v=(0:Int):=(by simpa using h0);⟨fun h1=>have h1p:Vl.k v=(1:Int):=(by simpa using h1);⟨⟨tv,cb (h1),tv⟩,fun h2=>have h2p:¬Vl.n v=(0:Int)∨¬ByteArray.toList (Vl.s v)=[]:=(by simpa using h2);⟨⟨tv,cb (h1),cb (h2),tv⟩,by show _=_;(unfold chkV Bare;grind)⟩,
  fun h2=>have h2p:Vl.n v=(0:Int)∧ByteArray.toList (Vl.s v)=[]:=(by simpa using h2);⟨fun h3=>have h3p:(256:Int)<(↑(ByteArray.size (Vl.s v)):Int):=(by simpa using h3);⟨⟨tv,cb (h1),cb (h2),tv⟩,by show _=_;(unfold chkV Bare;grind)⟩,
  fun h3=>have h3p:(↑(ByteArray.size (Vl.s v)):Int)≤(256:Int):=(by simpa using h3);⟨(Sp.fact (hv)),fun h4=>have h4p:validU (Vl.s v)=false:=(by simpa using h4);⟨⟨tv,cb (h0),cb (h1),cb (h2),cb (h3),cb (h4),cb (h4p),tv⟩,by show _=_;(unfold chkV Bare;grind)⟩,
  fun h4=>have h4p:validU (Vl.s v)=true:=(by simpa using h4);by show _=_;(unfold chkV Bare;grind)⟩⟩⟩,
  fun h1=>have h1p:¬Vl.k v=(1:Int):=(by simpa using h1);⟨fun h2=>have h2p:Vl.k v=(2:Int):=(by simpa using h2);⟨⟨tv,cb (h2),tv⟩,fun h3=>have h3p:Vl.b v=true∨¬ByteArray.toList (Vl.s v)=[]:=(by simpa using h3);⟨⟨tv,cb (h2),cb (h3),tv⟩,by show _=_;(unfold chkV Bare;grind)⟩,
  fun h3=>have h3p:Vl.b v=false∧ByteArray.toList (Vl.s v)=[]:=(by simpa using h3);⟨fun h4=>have h4p:(256:Int)<(↑(ByteArray.size (Vl.s v)):Int):=(by simpa using h4);⟨⟨tv,cb (h2),cb (h3),tv⟩,by show _=_;(unfold chkV Bare;grind)⟩,
  fun h4=>have h4p:(↑(ByteArray.size (Vl.s v)):Int)≤(256:Int):=(by simpa using h4);⟨(Sp.fact (hv)),fun h5=>have h5p:validU (Vl.s v)=false:=(by simpa using h5);⟨⟨tv,cb (h0),cb (h1),cb (h2),cb (h3),cb (h4),cb (h5),cb (h5p),tv⟩,by show _=_;(unfold chkV Bare;grind)⟩,
  fun h5=>have h5p:validU (Vl.s v)=true:=(by simpa using h5);by show _=_;(unfold chkV Bare;grind)⟩⟩⟩,
  fun h2=>have h2p:¬Vl.k v=(2:Int):=(by simpa using h2);⟨fun h3=>have h3p:Vl.k v=(3:Int):=(by simpa using h3);⟨⟨tv,cb (h3),tv⟩,fun h4=>have h4p:Vl.b v=true∨¬Vl.n v=(0:Int):=(by simpa using h4);⟨⟨tv,cb (h3),cb (h4),tv⟩,by show _=_;(unfold chkV Bare;grind)⟩,
  fun h4=>have h4p:Vl.b v=false∧Vl.n v=(0:Int):=(by simpa using h4);⟨fun h5=>have h5p:(256:Int)<(↑(ByteArray.size (Vl.s v)):Int):=(by simpa using h5);⟨⟨tv,cb (h3),cb (h4),tv⟩,by show _=_;(unfold chkV Bare;grind)⟩,
  fun h5=>have h5p:(↑(ByteArray.size (Vl.s v)):Int)≤(256:Int):=(by simpa using h5);⟨(Sp.fact (hv)),fun h6=>have h6p:validU (Vl.s v)=false:=(by simpa using h6);⟨⟨tv,cb (h0),cb (h1),cb (h2),cb (h3),cb (h4),cb (h5),cb (h6),cb (h6p),tv⟩,by show _=_;(unfold chkV Bare;grind)⟩,
  fun h6=>have h6p:validU (Vl.s v)=true:=(by simpa using h6);by show _=_;(unfold chkV Bare;grind)⟩⟩⟩,
  fun h3=>have h3p:¬Vl.k v=(3:Int):=(by simpa using h3);by show _=_;(unfold chkV Bare;grind)⟩⟩⟩⟩
end Go.Fw
set_option maxHeartbeats 20000000
namespace Go.Fw
open Go.Proofs
abbrev eRow (r:List Vl):V:=.imm false 4 (r.map eV)
abbrev eCols (l:List Cl):V:=.imm false 2 (l.map eC)
abbrev eSteps (l:List Stp):V:=.imm false 3 (l.map eS)
def FineV (v:Vl):Prop:=v.s.size≤2 ^ 47∧0≤v.k∧v.k≤255
theorem checkF_sp (v:Vl) (h:FineV v):Sp C1 19 [eV v] (.int .i64 (chkV v)):=check_sp v h.1 h.2.1
def rowGo:List Vl→List Cl→Int
 | v::r,c::l=>if chkV v≠0 then chkV v else if v.k≠0∧v.k≠c.k then 5 else rowGo r l
 | _,_=>0
def chkRow (r:List Vl) (l:List Cl):Int:=if r.length≠l.length then 3 else rowGo r l
theorem rowGo_at (r:List Vl) (l:List Cl) (i:Nat) (v:Vl) (c:Cl) (hv:r[i]?=some v) (hc:l[i]?=some c):rowGo (r.drop i) (l.drop i)=if chkV v≠0 then chkV v else if v.k≠0∧v.k≠c.k then 5 else rowGo (r.drop (i+1)) (l.drop (i+1)):=by
 obtain ⟨h1,rfl⟩:=List.getElem?_eq_some_iff.1 hv
 obtain ⟨h2,rfl⟩:=List.getElem?_eq_some_iff.1 hc
 rw [List.drop_eq_getElem_cons h1,List.drop_eq_getElem_cons h2]
 rfl
abbrev KR:List (Nat×Fm):=keeps [0,1,13,14,15]
abbrev SR (n:Nat) (r:List Vl) (l:List Cl) (i:Nat):St:=mkSt n [(0,eRow r),(1,eCols l),(13,eRow r),(14,.int .i64 (r.length:Int)),(15,.int .i64 (i:Int))] []
section
variable (r:List Vl) (l:List Cl) (h:r.length=l.length) (hb:r.length≤2 ^ 47) (hf:∀ v∈r,FineV v)
include h hb hf
theorem rowl_ok:∀ k i,i+k=r.length→rowGo (r.drop i) (l.drop i)=0→LoopK C1 25 32 KR (SR 39 r l i) (.exit 0) (mkSt 39 [] [])
 | 0,i,hi,hz=>by
  refine loop_tree draws (rd:=true) (kn:=KR) (ke:=(keeps [])) (
   .rw 8016 [] [(16,Vb (decide ((↑i:Int)<(↑(List.length r):Int))),Vb false)]<|.to 24001 ([.cut 0])<|.ret ((Ex.exit 0,mkSt 39 [] []))) (by kernel_rfl) ?_
  exact ⟨⟨tv,cb (by simp<;>omega),tv⟩,rfl,rfl⟩
 | k+1,i,hi,hz=>by
  have ih0:=rowl_ok k (i+1) (by omega)
  obtain ⟨v,hv⟩:∃ v,r[i]?=some v:=⟨r[i]'(by omega),List.getElem?_eq_getElem (by omega)⟩
  obtain ⟨c,hc⟩:∃ c,l[i]?=some c:=⟨l[i]'(by omega),List.getElem?_eq_getElem (by omega)⟩
  have fv:=hf v (List.mem_of_getElem? hv)
  rw [rowGo_at r l i v c hv hc] at hz
  have h1:chkV v=0:=by
   apply Classical.byContradiction;intro hn;rw [if_pos hn] at hz;exact hn hz
  rw [if_neg (by simp [h1])] at hz
  have h2:v.k=0∨v.k=c.k:=by
   apply Classical.byContradiction;intro hn;rw [if_pos (by omega)] at hz;omega
  rw [if_neg (by omega)] at hz
  have ih:=ih0 hz
  have hsp:=checkF_sp v fv
  rw [h1] at hsp
  rcases h2 with h2 | h2
  ·refine loop_tree draws (rd:=true) (kn:=KR) (ke:=(keeps [])) (
    .rw 8016 [] [(16,Vb (decide ((↑i:Int)<(↑(List.length r):Int))),Vb true)]<|.opt 18 (idx (List.map eV r) (↑i:Int)) (eV v)<|.call 21 (19) ([eV v]) ([]) (Fr (Vi (0:Int)) [])<|.rw 8027 [] [(27,Vb (Vl.k v !=(0:Int)),Vb false)]<|.rw 8038 [] [(38,Vi (IntKind.wrap IntKind.i64 ((↑i:Int)+(1:Int))),Vi (↑(i+1):Int))]<|.to 24000 ([.cut 0])<|.ret (.normal,SR 39 r l (i+1))) (by kernel_rfl) ?_
   exact ⟨⟨tv,cb (by simp<;>omega),tv⟩,(idx_map _ hv),(Sp.fact (hsp)),⟨tv,cb (by simp<;>omega),tv⟩,⟨tv,by simp (disch:=omega) only [cast_succ,wrap_i64],tv⟩,(ih0 hz)⟩
  ·refine loop_tree draws (rd:=true) (kn:=KR) (ke:=(keeps [])) (
    .rw 8016 [] [(16,Vb (decide ((↑i:Int)<(↑(List.length r):Int))),Vb true)]<|.opt 18 (idx (List.map eV r) (↑i:Int)) (eV v)<|.call 21 (19) ([eV v]) ([]) (Fr (Vi (0:Int)) [])<|.ite 1029 ((Vl.k v !=(0:Int))==true)
    (.rw 8029 [] [(27,Vb (Vl.k v !=(0:Int)),Vb true)]<|.tt 1030 ((Vl.k v !=(0:Int))==true)<|.tt 1031 ((Vl.k v !=(0:Int))==true)<|.tt 1032 ((Vl.k v !=(0:Int))==true)<|.tt 1033 ((Vl.k v !=(0:Int))==true)<|.opt 33 (idx (List.map eC l) (↑i:Int)) (eC c)<|.tt 1034 ((Vl.k v !=(0:Int))==true)<|.tt 1035 ((Vl.k v !=(0:Int))==true)<|.tt 1036 ((Vl.k v !=(0:Int))==true)<|.rw 8036 [] [(36,Vb (Vl.k v !=Cl.k c),Vb false)]<|.tt 37 (Vl.k v !=(0:Int))<|.rw 8038 [] [(38,Vi (IntKind.wrap IntKind.i64 ((↑i:Int)+(1:Int))),Vi (↑(i+1):Int))]<|.to 24000 ([.cut 0])<|.ret (.normal,SR 39 r l (i+1)))
    (.ff 1030 ((Vl.k v !=(0:Int))==true)<|.ff 1031 ((Vl.k v !=(0:Int))==true)<|.ff 1032 ((Vl.k v !=(0:Int))==true)<|.ff 1033 ((Vl.k v !=(0:Int))==true)<|.ff 1034 ((Vl.k v !=(0:Int))==true)<|.ff 1035 ((Vl.k v !=(0:Int))==true)<|.ff 1036 ((Vl.k v !=(0:Int))==true)<|.ff 37 (Vl.k v !=(0:Int))<|.rw 8038 [] [(38,Vi (IntKind.wrap IntKind.i64 ((↑i:Int)+(1:Int))),Vi (↑(i+1):Int))]<|.to 24000 ([.cut 0])<|.ret (.normal,SR 39 r l (i+1)))) (by kernel_rfl) ?_
   exact ⟨⟨tv,cb (by simp<;>omega),tv⟩,(idx_map _ hv),(Sp.fact (hsp)),fun h0=>have h0p:¬Vl.k v=(0:Int):=(by simpa using h0);⟨⟨tv,cb (by simp<;>omega),tv⟩,(h0),(h0),(h0),(h0),(idx_map _ hc),(h0),(h0),(h0),⟨tv,cb (by simp<;>omega),tv⟩,by simp<;>omega,⟨tv,by simp (disch:=omega) only [cast_succ,wrap_i64],tv⟩,(ih0 hz)⟩,
    fun h0=>have h0p:Vl.k v=(0:Int):=(by simpa using h0);⟨(h0),(h0),(h0),(h0),(h0),(h0),(h0),by simp<;>omega,⟨tv,by simp (disch:=omega) only [cast_succ,wrap_i64],tv⟩,(ih0 hz)⟩⟩
theorem rowl_bad (e:Int) (he:e≠0):∀ k i,i+k=r.length→rowGo (r.drop i) (l.drop i)=e→LoopK C1 25 32 KR (SR 39 r l i) .ret (mkSt 39 [(4,.int .i64 e)] [])
 | 0,i,hi,hz=>by
  rw [List.drop_eq_nil_of_le (by omega)] at hz
  exact absurd hz.symm he
 | k+1,i,hi,hz=>by
  have ih0:=rowl_bad e he k (i+1) (by omega)
  obtain ⟨v,hv⟩:∃ v,r[i]?=some v:=⟨r[i]'(by omega),List.getElem?_eq_getElem (by omega)⟩
  obtain ⟨c,hc⟩:∃ c,l[i]?=some c:=⟨l[i]'(by omega),List.getElem?_eq_getElem (by omega)⟩
  have fv:=hf v (List.mem_of_getElem? hv)
  rw [rowGo_at r l i v c hv hc] at hz
  have hsp:=checkF_sp v fv
  by_cases h1:chkV v=0
  ·rw [if_neg (by simp [h1])] at hz
   rw [h1] at hsp
   by_cases h2:v.k≠0∧v.k≠c.k
   ·rw [if_pos h2] at hz
    subst hz
    obtain ⟨h3,h4⟩:=h2
    refine loop_tree draws (rd:=true) (kn:=KR) (ke:=(keeps [4])) (
     .rw 8016 [] [(16,Vb (decide ((↑i:Int)<(↑(List.length r):Int))),Vb true)]<|.opt 18 (idx (List.map eV r) (↑i:Int)) (eV v)<|.call 21 (19) ([eV v]) ([]) (Fr (Vi (0:Int)) [])<|.rw 8027 [] [(27,Vb (Vl.k v !=(0:Int)),Vb true)]<|.opt 33 (idx (List.map eC l) (↑i:Int)) (eC c)<|.rw 8036 [] [(36,Vb (Vl.k v !=Cl.k c),Vb true)]<|.to 24001 ([.cut 0])<|.ret ((Ex.ret,mkSt 39 [(4,Vi (5:Int))] []))) (by kernel_rfl) ?_
    exact ⟨⟨tv,cb (by simp<;>omega),tv⟩,(idx_map _ hv),(Sp.fact (hsp)),⟨tv,cb (by simp<;>omega),tv⟩,(idx_map _ hc),⟨tv,cb (by simp<;>omega),tv⟩,rfl,rfl⟩
   ·rw [if_neg h2] at hz
    have ih:=ih0 hz
    have h2:v.k=0∨v.k=c.k:=by omega
    rcases h2 with h2 | h2
    ·refine loop_tree draws (rd:=true) (kn:=KR) (ke:=(keeps [4])) (
      .rw 8016 [] [(16,Vb (decide ((↑i:Int)<(↑(List.length r):Int))),Vb true)]<|.opt 18 (idx (List.map eV r) (↑i:Int)) (eV v)<|.call 21 (19) ([eV v]) ([]) (Fr (Vi (0:Int)) [])<|.rw 8027 [] [(27,Vb (Vl.k v !=(0:Int)),Vb false)]<|.rw 8038 [] [(38,Vi (IntKind.wrap IntKind.i64 ((↑i:Int)+(1:Int))),Vi (↑(i+1):Int))]<|.to 24000 ([.cut 0])<|.ret (.normal,SR 39 r l (i+1))) (by kernel_rfl) ?_
     exact ⟨⟨tv,cb (by simp<;>omega),tv⟩,(idx_map _ hv),(Sp.fact (hsp)),⟨tv,cb (by simp<;>omega),tv⟩,⟨tv,by simp (disch:=omega) only [cast_succ,wrap_i64],tv⟩,(ih0 hz)⟩
    ·refine loop_tree draws (rd:=true) (kn:=KR) (ke:=(keeps [4])) (
      .rw 8016 [] [(16,Vb (decide ((↑i:Int)<(↑(List.length r):Int))),Vb true)]<|.opt 18 (idx (List.map eV r) (↑i:Int)) (eV v)<|.call 21 (19) ([eV v]) ([]) (Fr (Vi (0:Int)) [])<|.ite 1029 ((Vl.k v !=(0:Int))==true)
      (.rw 8029 [] [(27,Vb (Vl.k v !=(0:Int)),Vb true)]<|.tt 1030 ((Vl.k v !=(0:Int))==true)<|.tt 1031 ((Vl.k v !=(0:Int))==true)<|.tt 1032 ((Vl.k v !=(0:Int))==true)<|.tt 1033 ((Vl.k v !=(0:Int))==true)<|.opt 33 (idx (List.map eC l) (↑i:Int)) (eC c)<|.tt 1034 ((Vl.k v !=(0:Int))==true)<|.tt 1035 ((Vl.k v !=(0:Int))==true)<|.tt 1036 ((Vl.k v !=(0:Int))==true)<|.rw 8036 [] [(36,Vb (Vl.k v !=Cl.k c),Vb false)]<|.tt 37 (Vl.k v !=(0:Int))<|.rw 8038 [] [(38,Vi (IntKind.wrap IntKind.i64 ((↑i:Int)+(1:Int))),Vi (↑(i+1):Int))]<|.to 24000 ([.cut 0])<|.ret (.normal,SR 39 r l (i+1)))
      (.ff 1030 ((Vl.k v !=(0:Int))==true)<|.ff 1031 ((Vl.k v !=(0:Int))==true)<|.ff 1032 ((Vl.k v !=(0:Int))==true)<|.ff 1033 ((Vl.k v !=(0:Int))==true)<|.ff 1034 ((Vl.k v !=(0:Int))==true)<|.ff 1035 ((Vl.k v !=(0:Int))==true)<|.ff 1036 ((Vl.k v !=(0:Int))==true)<|.ff 37 (Vl.k v !=(0:Int))<|.rw 8038 [] [(38,Vi (IntKind.wrap IntKind.i64 ((↑i:Int)+(1:Int))),Vi (↑(i+1):Int))]<|.to 24000 ([.cut 0])<|.ret (.normal,SR 39 r l (i+1)))) (by kernel_rfl) ?_
     exact ⟨⟨tv,cb (by simp<;>omega),tv⟩,(idx_map _ hv),(Sp.fact (hsp)),fun h0=>have h0p:¬Vl.k v=(0:Int):=(by simpa using h0);⟨⟨tv,cb (by simp<;>omega),tv⟩,(h0),(h0),(h0),(h0),(idx_map _ hc),(h0),(h0),(h0),⟨tv,cb (by simp<;>omega),tv⟩,by simp<;>omega,⟨tv,by simp (disch:=omega) only [cast_succ,wrap_i64],tv⟩,(ih0 hz)⟩,
      fun h0=>have h0p:Vl.k v=(0:Int):=(by simpa using h0);⟨(h0),(h0),(h0),(h0),(h0),(h0),(h0),by simp<;>omega,⟨tv,by simp (disch:=omega) only [cast_succ,wrap_i64],tv⟩,(ih0 hz)⟩⟩
  ·rw [if_pos h1] at hz
   rw [hz] at hsp
   refine loop_tree draws (rd:=true) (kn:=KR) (ke:=(keeps [4])) (
    .rw 8016 [] [(16,Vb (decide ((↑i:Int)<(↑(List.length r):Int))),Vb true)]<|.opt 18 (idx (List.map eV r) (↑i:Int)) (eV v)<|.call 21 (19) ([eV v]) ([]) (Fr (Vi e) [])<|.rw 8023 [] [(23,Vb (e !=(0:Int)),Vb true)]<|.to 24001 ([.cut 0])<|.ret ((Ex.ret,mkSt 39 [(4,Vi e)] []))) (by kernel_rfl) ?_
   exact ⟨⟨tv,cb (by simp<;>omega),tv⟩,(idx_map _ hv),(Sp.fact (hsp)),⟨tv,cb (by simp<;>omega),tv⟩,rfl,rfl⟩
theorem row_sp:Sp C1 25 [eRow r,eCols l] (.int .i64 (rowGo r l)):=by
 by_cases hz:rowGo r l=0
 ·have hl:=rowl_ok r l h hb hf r.length 0 (by omega) hz
  rw [hz]
  refine sp_tree draws (dm:=[]) (fs:=[]) (
   .rw 8009 [] [(9,Vi (↑(List.length (List.map eV r)):Int),Vi (↑(List.length r):Int))]<|.rw 8011 [] [(11,Vi (↑(List.length (List.map eC l)):Int),Vi (↑(List.length l):Int))]<|.rw 8012 [] [(12,Vb ((↑(List.length r):Int) !=(↑(List.length l):Int)),Vb false)]<|.rw 8014 [] [(14,Vi (↑(List.length (List.map eV r)):Int),Vi (↑(List.length r):Int))]<|.loop 32 false (KR) (SR 39 r l 0) (Ex.exit 0) (mkSt 39 [] [])<|.ret (Fr (Vi (0:Int)) [])) (by kernel_rfl) ?_
  exact ⟨⟨tv,by simp (disch:=omega) only [List.length_map],tv⟩,⟨tv,by simp (disch:=omega) only [List.length_map],tv⟩,⟨tv,cb (by simp<;>omega),tv⟩,⟨tv,by simp (disch:=omega) only [List.length_map],tv⟩,(LoopR.weak (hl)),rfl⟩
 ·have hl:=rowl_bad r l h hb hf (rowGo r l) hz r.length 0 (by omega) rfl
  refine sp_tree draws (dm:=[]) (fs:=[]) (
   .rw 8009 [] [(9,Vi (↑(List.length (List.map eV r)):Int),Vi (↑(List.length r):Int))]<|.rw 8011 [] [(11,Vi (↑(List.length (List.map eC l)):Int),Vi (↑(List.length l):Int))]<|.rw 8012 [] [(12,Vb ((↑(List.length r):Int) !=(↑(List.length l):Int)),Vb false)]<|.rw 8014 [] [(14,Vi (↑(List.length (List.map eV r)):Int),Vi (↑(List.length r):Int))]<|.loop 32 false (KR) (SR 39 r l 0) (Ex.ret) (mkSt 39 [(4,Vi (rowGo r l))] [])<|.ret (Fr (Vi (rowGo r l)) [])) (by kernel_rfl) ?_
  exact ⟨⟨tv,by simp (disch:=omega) only [List.length_map],tv⟩,⟨tv,by simp (disch:=omega) only [List.length_map],tv⟩,⟨tv,cb (by simp<;>omega),tv⟩,⟨tv,by simp (disch:=omega) only [List.length_map],tv⟩,(LoopR.weak (hl)),rfl⟩
end
theorem row_many (r:List Vl) (l:List Cl) (h:r.length≠l.length):Sp C1 25 [eRow r,eCols l] (.int .i64 3):=by
 have h':((r.length:Int)=(l.length:Int))=False:=by simp;omega
 refine sp_tree draws (dm:=[]) (fs:=[]) (
  .rw 8009 [] [(9,Vi (↑(List.length (List.map eV r)):Int),Vi (↑(List.length r):Int))]<|.rw 8011 [] [(11,Vi (↑(List.length (List.map eC l)):Int),Vi (↑(List.length l):Int))]<|.rw 8012 [] [(12,Vb ((↑(List.length r):Int) !=(↑(List.length l):Int)),Vb true)]<|.ret (Fr (Vi (3:Int)) [])) (by kernel_rfl) ?_
 exact ⟨⟨tv,by simp (disch:=omega) only [List.length_map],tv⟩,⟨tv,by simp (disch:=omega) only [List.length_map],tv⟩,⟨tv,cb (by simp<;>omega),tv⟩,rfl⟩
theorem row_all (r:List Vl) (l:List Cl) (hb:r.length≤2 ^ 47) (hf:∀ v∈r,FineV v):Sp C1 25 [eRow r,eCols l] (.int .i64 (chkRow r l)):=by
 unfold chkRow
 by_cases h:r.length=l.length
 ·rw [if_neg (by simp [h])];exact row_sp r l h hb hf
 ·rw [if_pos h];exact row_many r l h
section
variable (r:List Vl) (l:List Cl) (h:r.length=l.length) (hb:r.length≤2 ^ 47) (hf:∀ v∈r,FineV v)
include h hb hf
end
end Go.Fw
set_option maxHeartbeats 20000000
namespace Go.Fw
open Go.Proofs
def FineS (s:Stp):Prop:=s.t.size≤2 ^ 47∧0≤s.k∧s.k≤255
def TkOk (s:Stp):Prop:=1≤s.k∧s.k<22∧(s.k=5∨s.t.toList=[])∧(s.k=4∨s.n=0)∧(s.k=5→s.t.size≤256∧validU s.t=true)
instance (s:Stp):Decidable (TkOk s):=by unfold TkOk;infer_instance
def tkOk (s:Stp):Bool:=decide (TkOk s)
def tkN (s:Stp):Int:=if ¬TkOk s then 0 else if s.k<7 then 0 else if s.k≤10 then 1 else 2
theorem takes_sp (s:Stp) (hs:FineS s) (h6:s.k≠6):Sp C1 63 [eS s] (.tup [.int .i64 (tkN s),.bool (tkOk s)]):=by
 have hv:=valid_sp s.t (by have:=hs.1;omega)
 obtain ⟨h1,h2,h3⟩:=hs
 refine sp_tree draws (dm:=[]) (fs:=[]) (
  .ite 1009 ((ByteArray.toList (Stp.t s)==[])==true)
  (.rw 8009 [] [(7,Vb (ByteArray.toList (Stp.t s)==[]),Vb true)]<|.tt 1010 ((ByteArray.toList (Stp.t s)==[])==true)<|.tt 1011 ((ByteArray.toList (Stp.t s)==[])==true)<|.tt 12 (ByteArray.toList (Stp.t s)==[])<|.ite 2015 (Stp.k s==(1:Int))
  (.tt 2015 (Stp.k s==(1:Int))<|.rw 8019 [] [(8,Vb (ByteArray.toList (Stp.t s)==[]),Vb true),(15,Vb (Stp.k s==(1:Int)),Vb true)]<|.ret (Fr (V.tup [Vi (0:Int),Vb (Stp.n s==(0:Int))]) []))
  (.ite 2015 (Stp.k s==(2:Int))
  (.tt 2015 (Stp.k s==(2:Int))<|.rw 8019 [] [(8,Vb (ByteArray.toList (Stp.t s)==[]),Vb true),(15,Vb (Stp.k s==(2:Int)),Vb true),(16,Vb (Stp.k s==(1:Int)),Vb false)]<|.ret (Fr (V.tup [Vi (0:Int),Vb (Stp.n s==(0:Int))]) []))
  (.ite 2015 (Stp.k s==(3:Int))
  (.rw 8019 [] [(8,Vb (ByteArray.toList (Stp.t s)==[]),Vb true),(15,Vb (Stp.k s==(3:Int)),Vb true),(16,Vb (Stp.k s==(1:Int)),Vb false),(17,Vb (Stp.k s==(2:Int)),Vb false)]<|.ret (Fr (V.tup [Vi (0:Int),Vb (Stp.n s==(0:Int))]) []))
  (.ite 2020 (Stp.k s==(4:Int))
  (.rw 8022 [] [(8,Vb (ByteArray.toList (Stp.t s)==[]),Vb true),(15,Vb (Stp.k s==(3:Int)),Vb false),(16,Vb (Stp.k s==(1:Int)),Vb false),(17,Vb (Stp.k s==(2:Int)),Vb false),(20,Vb (Stp.k s==(4:Int)),Vb true)]<|.ret (Fr (V.tup [Vi (0:Int),Vb (ByteArray.toList (Stp.t s)==[])]) []))
  (.ite 2025 (Stp.k s==(5:Int))
  (.rw 8027 [] [(8,Vb (ByteArray.toList (Stp.t s)==[]),Vb true),(15,Vb (Stp.k s==(3:Int)),Vb false),(16,Vb (Stp.k s==(1:Int)),Vb false),(17,Vb (Stp.k s==(2:Int)),Vb false),(20,Vb (Stp.k s==(4:Int)),Vb false),(25,Vb (Stp.k s==(5:Int)),Vb true)]<|.ite 1031 ((Stp.n s==(0:Int))==true)
  (.rw 8031 [] [(4,Vb (Stp.n s==(0:Int)),Vb true),(18,Vb (Stp.k s==(3:Int)),Vb false),(21,Vb (Stp.k s==(4:Int)),Vb false),(26,Vb (Stp.k s==(5:Int)),Vb true)]<|.tt 1032 ((Stp.n s==(0:Int))==true)<|.tt 1033 ((Stp.n s==(0:Int))==true)<|.tt 1034 ((Stp.n s==(0:Int))==true)<|.tt 35 (Stp.n s==(0:Int))<|.ite 1037 (decide ((↑(ByteArray.size (Stp.t s)):Int)≤(256:Int))==true)
  (.rw 8037 [] [(11,Vb (Stp.n s==(0:Int)),Vb true),(34,Vb (decide ((↑(ByteArray.size (Stp.t s)):Int)≤(256:Int))),Vb true)]<|.tt 1038 (decide ((↑(ByteArray.size (Stp.t s)):Int)≤(256:Int))==true)<|.tt 1039 (decide ((↑(ByteArray.size (Stp.t s)):Int)≤(256:Int))==true)<|.call 39 (51) ([V.str (Stp.t s)]) ([]) (Fr (Vb (validU (Stp.t s))) [])<|.tt 40 (decide ((↑(ByteArray.size (Stp.t s)):Int)≤(256:Int)))<|.ret (Fr (V.tup [Vi (0:Int),Vb (validU (Stp.t s))]) []))
  (.ff 1038 (decide ((↑(ByteArray.size (Stp.t s)):Int)≤(256:Int))==true)<|.ff 1039 (decide ((↑(ByteArray.size (Stp.t s)):Int)≤(256:Int))==true)<|.ff 40 (decide ((↑(ByteArray.size (Stp.t s)):Int)≤(256:Int)))<|.ret (Fr (V.tup [Vi (0:Int),Vb false]) [])))
  (.ff 1032 ((Stp.n s==(0:Int))==true)<|.ff 1033 ((Stp.n s==(0:Int))==true)<|.ff 1034 ((Stp.n s==(0:Int))==true)<|.ff 35 (Stp.n s==(0:Int))<|.ret (Fr (V.tup [Vi (0:Int),Vb false]) [])))
  (.rw 8042 [] [(42,Vb (Stp.k s==(6:Int)),Vb false)]<|.ite 1056 ((Stp.k s==(0:Int))==false)
  (.rw 8056 [] [(8,Vb (ByteArray.toList (Stp.t s)==[]),Vb true),(16,Vb (Stp.k s==(1:Int)),Vb false),(17,Vb (Stp.k s==(2:Int)),Vb false),(54,Vb (Stp.k s==(0:Int)),Vb false)]<|.tt 1057 ((Stp.k s==(0:Int))==false)<|.tt 1058 ((Stp.k s==(0:Int))==false)<|.ff 59 (Stp.k s==(0:Int))<|.ite 1061 (decide (Stp.k s ≥ (22:Int))==false)
  (.rw 8061 [] [(15,Vb (Stp.k s==(3:Int)),Vb false),(20,Vb (Stp.k s==(4:Int)),Vb false),(25,Vb (Stp.k s==(5:Int)),Vb false),(55,Vb (Stp.k s==(0:Int)),Vb false),(58,Vb (decide (Stp.k s ≥ (22:Int))),Vb false)]<|.tt 1062 (decide (Stp.k s ≥ (22:Int))==false)<|.ff 63 (decide (Stp.k s ≥ (22:Int)))<|.ite 2051 (!Stp.n s==(0:Int))
  (.rw 8002 [] [(4,Vb (Stp.n s==(0:Int)),Vb false),(18,Vb (Stp.k s==(3:Int)),Vb false),(21,Vb (Stp.k s==(4:Int)),Vb false),(26,Vb (Stp.k s==(5:Int)),Vb false),(51,Vb !Stp.n s==(0:Int),Vb true),(59,Vb (decide (Stp.k s ≥ (22:Int))),Vb false)]<|.ret (Fr (V.tup [Vi (0:Int),Vb false]) []))
  (.ite 2064 (decide (Stp.k s≤(10:Int)))
  (.rw 8002 [] [(4,Vb (Stp.n s==(0:Int)),Vb true),(18,Vb (Stp.k s==(3:Int)),Vb false),(21,Vb (Stp.k s==(4:Int)),Vb false),(26,Vb (Stp.k s==(5:Int)),Vb false),(51,Vb !Stp.n s==(0:Int),Vb false),(59,Vb (decide (Stp.k s ≥ (22:Int))),Vb false),(64,Vb (decide (Stp.k s≤(10:Int))),Vb true)]<|.ret (Fr (V.tup [Vi (1:Int),Vb true]) []))
  (.ret (Fr (V.tup [Vi (2:Int),Vb true]) []))))
  (.ff 1062 (decide (Stp.k s ≥ (22:Int))==false)<|.tt 63 (decide (Stp.k s ≥ (22:Int)))<|.ret (Fr (V.tup [Vi (0:Int),Vb false]) [])))
  (.ff 1057 ((Stp.k s==(0:Int))==false)<|.ff 1058 ((Stp.k s==(0:Int))==false)<|.tt 59 (Stp.k s==(0:Int))<|.ret (Fr (V.tup [Vi (0:Int),Vb false]) []))))))))
  (.ff 1010 ((ByteArray.toList (Stp.t s)==[])==true)<|.ff 1011 ((ByteArray.toList (Stp.t s)==[])==true)<|.ff 12 (ByteArray.toList (Stp.t s)==[])<|.ite 2015 (Stp.k s==(1:Int))
  (.tt 2015 (Stp.k s==(1:Int))<|.ret (Fr (V.tup [Vi (0:Int),Vb false]) []))
  (.ite 2015 (Stp.k s==(2:Int))
  (.tt 2015 (Stp.k s==(2:Int))<|.ret (Fr (V.tup [Vi (0:Int),Vb false]) []))
  (.ite 2015 (Stp.k s==(3:Int))
  (.ret (Fr (V.tup [Vi (0:Int),Vb false]) []))
  (.ite 2020 (Stp.k s==(4:Int))
  (.ret (Fr (V.tup [Vi (0:Int),Vb (ByteArray.toList (Stp.t s)==[])]) []))
  (.ite 2025 (Stp.k s==(5:Int))
  (.ite 1031 ((Stp.n s==(0:Int))==true)
  (.tt 1032 ((Stp.n s==(0:Int))==true)<|.tt 1033 ((Stp.n s==(0:Int))==true)<|.tt 1034 ((Stp.n s==(0:Int))==true)<|.tt 35 (Stp.n s==(0:Int))<|.ite 1037 (decide ((↑(ByteArray.size (Stp.t s)):Int)≤(256:Int))==true)
  (.rw 8037 [] [(7,Vb (ByteArray.toList (Stp.t s)==[]),Vb false),(16,Vb (Stp.k s==(1:Int)),Vb false),(17,Vb (Stp.k s==(2:Int)),Vb false)]<|.tt 1038 (decide ((↑(ByteArray.size (Stp.t s)):Int)≤(256:Int))==true)<|.tt 1039 (decide ((↑(ByteArray.size (Stp.t s)):Int)≤(256:Int))==true)<|.call 39 (51) ([V.str (Stp.t s)]) ([]) (Fr (Vb (validU (Stp.t s))) [])<|.tt 40 (decide ((↑(ByteArray.size (Stp.t s)):Int)≤(256:Int)))<|.ret (Fr (V.tup [Vi (0:Int),Vb (validU (Stp.t s))]) []))
  (.ff 1038 (decide ((↑(ByteArray.size (Stp.t s)):Int)≤(256:Int))==true)<|.ff 1039 (decide ((↑(ByteArray.size (Stp.t s)):Int)≤(256:Int))==true)<|.ff 40 (decide ((↑(ByteArray.size (Stp.t s)):Int)≤(256:Int)))<|.ret (Fr (V.tup [Vi (0:Int),Vb false]) [])))
  (.ff 1032 ((Stp.n s==(0:Int))==true)<|.ff 1033 ((Stp.n s==(0:Int))==true)<|.ff 1034 ((Stp.n s==(0:Int))==true)<|.ff 35 (Stp.n s==(0:Int))<|.ret (Fr (V.tup [Vi (0:Int),Vb false]) [])))
  (.ff 2041 (Stp.k s==(6:Int))<|.ite 1056 ((Stp.k s==(0:Int))==false)
  (.rw 8056 [] [(41,Vb (Stp.k s==(6:Int)),Vb false)]<|.tt 1057 ((Stp.k s==(0:Int))==false)<|.tt 1058 ((Stp.k s==(0:Int))==false)<|.ff 59 (Stp.k s==(0:Int))<|.ite 1061 (decide (Stp.k s ≥ (22:Int))==false)
  (.rw 8061 [] [(42,Vb (Stp.k s==(6:Int)),Vb false)]<|.tt 1062 (decide (Stp.k s ≥ (22:Int))==false)<|.ff 63 (decide (Stp.k s ≥ (22:Int)))<|.ret (Fr (V.tup [Vi (0:Int),Vb false]) []))
  (.ff 1062 (decide (Stp.k s ≥ (22:Int))==false)<|.tt 63 (decide (Stp.k s ≥ (22:Int)))<|.ret (Fr (V.tup [Vi (0:Int),Vb false]) [])))
  (.ff 1057 ((Stp.k s==(0:Int))==false)<|.ff 1058 ((Stp.k s==(0:Int))==false)<|.tt 59 (Stp.k s==(0:Int))<|.ret (Fr (V.tup [Vi (0:Int),Vb false]) []))))))))) (by kernel_rfl) ?_
 exact ⟨fun h0=>have h0p:ByteArray.toList (Stp.t s)=[]:=(by simpa using h0);⟨⟨tv,cb (by simp<;>omega),tv⟩,(h0),(h0),by simp<;>omega,fun h1=>have h1p:Stp.k s=(1:Int):=(by simpa using h1);⟨(h1),⟨tv,cb (by simp<;>omega),cb (h1),tv⟩,by show _=_;(unfold tkN tkOk TkOk;grind)⟩,
  fun h1=>have h1p:¬Stp.k s=(1:Int):=(by simpa using h1);⟨fun h2=>have h2p:Stp.k s=(2:Int):=(by simpa using h2);⟨(h2),⟨tv,cb (by simp<;>omega),cb (h2),cb (h1),tv⟩,by show _=_;(unfold tkN tkOk TkOk;grind)⟩,
  fun h2=>have h2p:¬Stp.k s=(2:Int):=(by simpa using h2);⟨fun h3=>have h3p:Stp.k s=(3:Int):=(by simpa using h3);⟨⟨tv,cb (by simp<;>omega),cb (h3),cb (h1),cb (h2),tv⟩,by show _=_;(unfold tkN tkOk TkOk;grind)⟩,
  fun h3=>have h3p:¬Stp.k s=(3:Int):=(by simpa using h3);⟨fun h4=>have h4p:Stp.k s=(4:Int):=(by simpa using h4);⟨⟨tv,cb (by simp<;>omega),cb (h3),cb (h1),cb (h2),cb (h4),tv⟩,by show _=_;(unfold tkN tkOk TkOk;grind)⟩,
  fun h4=>have h4p:¬Stp.k s=(4:Int):=(by simpa using h4);⟨fun h5=>have h5p:Stp.k s=(5:Int):=(by simpa using h5);⟨⟨tv,cb (by simp<;>omega),cb (h3),cb (h1),cb (h2),cb (h4),cb (h5),tv⟩,fun h6=>have h6p:Stp.n s=(0:Int):=(by simpa using h6);⟨⟨tv,cb (by simp<;>omega),cb (h3),cb (h4),cb (h5),tv⟩,(h6),(h6),(h6),by simp<;>omega,fun h7=>have h7p:(↑(ByteArray.size (Stp.t s)):Int)≤(256:Int):=(by simpa using h7);⟨⟨tv,cb (by simp<;>omega),cb (by simp<;>omega),tv⟩,(h7),(h7),(Sp.fact (hv)),by simp<;>omega,by show _=_;(unfold tkN tkOk TkOk;grind)⟩,
  fun h7=>have h7p:(256:Int)<(↑(ByteArray.size (Stp.t s)):Int):=(by simpa using h7);⟨(h7),(h7),by simp<;>omega,by show _=_;(unfold tkN tkOk TkOk;grind)⟩⟩,
  fun h6=>have h6p:¬Stp.n s=(0:Int):=(by simpa using h6);⟨(h6),(h6),(h6),by simp<;>omega,by show _=_;(unfold tkN tkOk TkOk;grind)⟩⟩,
  fun h5=>have h5p:¬Stp.k s=(5:Int):=(by simpa using h5);⟨⟨tv,cb (by simp<;>omega),tv⟩,fun h6=>have h6p:¬Stp.k s=(0:Int):=(by simpa using h6);⟨⟨tv,cb (by simp<;>omega),cb (h1),cb (h2),cb (by simp<;>omega),tv⟩,(h6),(h6),by simp<;>omega,fun h7=>have h7p:Stp.k s<(22:Int):=(by simpa using h7);⟨⟨tv,cb (h3),cb (h4),cb (h5),cb (by simp<;>omega),cb (by simp<;>omega),tv⟩,(h7),by simp<;>omega,fun h8=>have h8p:¬Stp.n s=(0:Int):=(by simpa using h8);⟨⟨tv,cb (by simp<;>omega),cb (h3),cb (h4),cb (h5),cb (h8),cb (by simp<;>omega),tv⟩,by show _=_;(unfold tkN tkOk TkOk;grind)⟩,
  fun h8=>have h8p:Stp.n s=(0:Int):=(by simpa using h8);⟨fun h9=>have h9p:Stp.k s≤(10:Int):=(by simpa using h9);⟨⟨tv,cb (by simp<;>omega),cb (h3),cb (h4),cb (h5),cb (h8),cb (by simp<;>omega),cb (h9),tv⟩,by show _=_;(unfold tkN tkOk TkOk;grind)⟩,
  fun h9=>have h9p:(10:Int)<Stp.k s:=(by simpa using h9);by show _=_;(unfold tkN tkOk TkOk;grind)⟩⟩,
  fun h7=>have h7p:(22:Int)≤Stp.k s:=(by simpa using h7);⟨(h7),by simp<;>omega,by show _=_;(unfold tkN tkOk TkOk;grind)⟩⟩,
  fun h6=>have h6p:Stp.k s=(0:Int):=(by simpa using h6);⟨(h6),(h6),by simp<;>omega,by show _=_;(unfold tkN tkOk TkOk;grind)⟩⟩⟩⟩⟩⟩⟩,
  fun h0=>have h0p:¬ByteArray.toList (Stp.t s)=[]:=(by simpa using h0);⟨(h0),(h0),by simp<;>omega,fun h1=>have h1p:Stp.k s=(1:Int):=(by simpa using h1);⟨(h1),by show _=_;(unfold tkN tkOk TkOk;grind)⟩,
  fun h1=>have h1p:¬Stp.k s=(1:Int):=(by simpa using h1);⟨fun h2=>have h2p:Stp.k s=(2:Int):=(by simpa using h2);⟨(h2),by show _=_;(unfold tkN tkOk TkOk;grind)⟩,
  fun h2=>have h2p:¬Stp.k s=(2:Int):=(by simpa using h2);⟨fun h3=>have h3p:Stp.k s=(3:Int):=(by simpa using h3);by show _=_;(unfold tkN tkOk TkOk;grind),
  fun h3=>have h3p:¬Stp.k s=(3:Int):=(by simpa using h3);⟨fun h4=>have h4p:Stp.k s=(4:Int):=(by simpa using h4);by show _=_;(unfold tkN tkOk TkOk;grind),
  fun h4=>have h4p:¬Stp.k s=(4:Int):=(by simpa using h4);⟨fun h5=>have h5p:Stp.k s=(5:Int):=(by simpa using h5);⟨fun h6=>have h6p:Stp.n s=(0:Int):=(by simpa using h6);⟨(h6),(h6),(h6),by simp<;>omega,fun h7=>have h7p:(↑(ByteArray.size (Stp.t s)):Int)≤(256:Int):=(by simpa using h7);⟨⟨tv,cb (by simp<;>omega),cb (h1),cb (h2),tv⟩,(h7),(h7),(Sp.fact (hv)),by simp<;>omega,by show _=_;(unfold tkN tkOk TkOk;grind)⟩,
  fun h7=>have h7p:(256:Int)<(↑(ByteArray.size (Stp.t s)):Int):=(by simpa using h7);⟨(h7),(h7),by simp<;>omega,by show _=_;(unfold tkN tkOk TkOk;grind)⟩⟩,
  fun h6=>have h6p:¬Stp.n s=(0:Int):=(by simpa using h6);⟨(h6),(h6),(h6),by simp<;>omega,by show _=_;(unfold tkN tkOk TkOk;grind)⟩⟩,
  fun h5=>have h5p:¬Stp.k s=(5:Int):=(by simpa using h5);⟨by simp<;>omega,fun h6=>have h6p:¬Stp.k s=(0:Int):=(by simpa using h6);⟨⟨tv,cb (by simp<;>omega),tv⟩,(h6),(h6),by simp<;>omega,fun h7=>have h7p:Stp.k s<(22:Int):=(by simpa using h7);⟨⟨tv,cb (by simp<;>omega),tv⟩,(h7),by simp<;>omega,by show _=_;(unfold tkN tkOk TkOk;grind)⟩,
  fun h7=>have h7p:(22:Int)≤Stp.k s:=(by simpa using h7);⟨(h7),by simp<;>omega,by show _=_;(unfold tkN tkOk TkOk;grind)⟩⟩,
  fun h6=>have h6p:Stp.k s=(0:Int):=(by simpa using h6);⟨(h6),(h6),by simp<;>omega,by show _=_;(unfold tkN tkOk TkOk;grind)⟩⟩⟩⟩⟩⟩⟩⟩
theorem takes2_sp (s:Stp) (hs:FineS s) (h6:s.k≠6):Sp C1 66 [eS s] (.tup [.int .i64 (tkN s),.bool (tkOk s)]):=by
 have hv:=utf_sp s.t (by have:=hs.1;omega)
 obtain ⟨h1,h2,h3⟩:=hs
 refine sp_tree draws (dm:=[]) (fs:=[]) (
  .ite 1010 (decide (Stp.k s<(1:Int))==false)
  (.rw 8010 [] [(8,Vb (decide (Stp.k s<(1:Int))),Vb false)]<|.tt 1011 (decide (Stp.k s<(1:Int))==false)<|.ff 12 (decide (Stp.k s<(1:Int)))<|.ite 1014 (decide (Stp.k s ≥ (22:Int))==false)
  (.rw 8014 [] [(9,Vb (decide (Stp.k s<(1:Int))),Vb false),(11,Vb (decide (Stp.k s ≥ (22:Int))),Vb false)]<|.tt 1015 (decide (Stp.k s ≥ (22:Int))==false)<|.tt 1016 (decide (Stp.k s ≥ (22:Int))==false)<|.ite 1017 ((Stp.k s !=(5:Int))==true)
  (.rw 8017 [] [(12,Vb (decide (Stp.k s ≥ (22:Int))),Vb false),(15,Vb (Stp.k s !=(5:Int)),Vb true)]<|.tt 1018 ((Stp.k s !=(5:Int))==true)<|.rw 8018 [] [(18,Vb (Stp.k s !=(6:Int)),Vb true)]<|.tt 1019 (decide (Stp.k s ≥ (22:Int))==false)<|.tt 19 (Stp.k s !=(5:Int))<|.tt 1020 (decide (Stp.k s ≥ (22:Int))==false)<|.tt 1024 (decide (Stp.k s ≥ (22:Int))==false)<|.ff 25 (decide (Stp.k s ≥ (22:Int)))<|.ite 1027 ((!ByteArray.toList (Stp.t s)==[])==false)
  (.rw 8027 [] [(13,Vb (decide (Stp.k s ≥ (22:Int))),Vb false),(16,Vb (Stp.k s !=(5:Int)),Vb true),(23,Vb !ByteArray.toList (Stp.t s)==[],Vb false)]<|.tt 1028 ((!ByteArray.toList (Stp.t s)==[])==false)<|.tt 1029 ((!ByteArray.toList (Stp.t s)==[])==false)<|.ite 1030 ((Stp.k s !=(4:Int))==true)
  (.rw 8030 [] [(24,Vb !ByteArray.toList (Stp.t s)==[],Vb false),(28,Vb (Stp.k s !=(4:Int)),Vb true)]<|.tt 1031 ((Stp.k s !=(4:Int))==true)<|.tt 1032 ((Stp.k s !=(4:Int))==true)<|.tt 1033 ((!ByteArray.toList (Stp.t s)==[])==false)<|.tt 33 (Stp.k s !=(4:Int))<|.ff 34 (!ByteArray.toList (Stp.t s)==[])<|.ite 2034 (Stp.n s !=(0:Int))
  (.rw 8002 [] [(25,Vb !ByteArray.toList (Stp.t s)==[],Vb false),(29,Vb (Stp.k s !=(4:Int)),Vb true),(32,Vb (Stp.n s !=(0:Int)),Vb true)]<|.ret (Fr (V.tup [Vi (0:Int),Vb false]) []))
  (.rw 8037 [] [(37,Vb (Stp.k s==(5:Int)),Vb false)]<|.rw 8049 [] [(49,Vb (Stp.k s==(6:Int)),Vb false)]<|.ite 2053 (decide (Stp.k s<(7:Int)))
  (.rw 8002 [] [(25,Vb !ByteArray.toList (Stp.t s)==[],Vb false),(29,Vb (Stp.k s !=(4:Int)),Vb true),(32,Vb (Stp.n s !=(0:Int)),Vb false),(53,Vb (decide (Stp.k s<(7:Int))),Vb true)]<|.ret (Fr (V.tup [Vi (0:Int),Vb true]) []))
  (.ite 2056 (decide (Stp.k s≤(10:Int)))
  (.rw 8002 [] [(25,Vb !ByteArray.toList (Stp.t s)==[],Vb false),(29,Vb (Stp.k s !=(4:Int)),Vb true),(32,Vb (Stp.n s !=(0:Int)),Vb false),(53,Vb (decide (Stp.k s<(7:Int))),Vb false),(56,Vb (decide (Stp.k s≤(10:Int))),Vb true)]<|.ret (Fr (V.tup [Vi (1:Int),Vb true]) []))
  (.ret (Fr (V.tup [Vi (2:Int),Vb true]) [])))))
  (.ff 1031 ((Stp.k s !=(4:Int))==true)<|.ff 1032 ((Stp.k s !=(4:Int))==true)<|.tt 1033 ((!ByteArray.toList (Stp.t s)==[])==false)<|.ff 33 (Stp.k s !=(4:Int))<|.ff 34 (!ByteArray.toList (Stp.t s)==[])<|.rw 8037 [] [(37,Vb (Stp.k s==(5:Int)),Vb false)]<|.rw 8049 [] [(49,Vb (Stp.k s==(6:Int)),Vb false)]<|.rw 8055 [] [(55,Vb (decide (Stp.k s<(7:Int))),Vb true)]<|.ret (Fr (V.tup [Vi (0:Int),Vb true]) [])))
  (.ff 1028 ((!ByteArray.toList (Stp.t s)==[])==false)<|.ff 1029 ((!ByteArray.toList (Stp.t s)==[])==false)<|.ff 1033 ((!ByteArray.toList (Stp.t s)==[])==false)<|.tt 34 (!ByteArray.toList (Stp.t s)==[])<|.ret (Fr (V.tup [Vi (0:Int),Vb false]) [])))
  (.ff 1018 ((Stp.k s !=(5:Int))==true)<|.tt 1019 (decide (Stp.k s ≥ (22:Int))==false)<|.ff 19 (Stp.k s !=(5:Int))<|.tt 1020 (decide (Stp.k s ≥ (22:Int))==false)<|.tt 1024 (decide (Stp.k s ≥ (22:Int))==false)<|.ff 25 (decide (Stp.k s ≥ (22:Int)))<|.rw 8028 [] [(28,Vb (Stp.k s !=(4:Int)),Vb true)]<|.ite 2034 (Stp.n s !=(0:Int))
  (.rw 8002 [] [(32,Vb (Stp.n s !=(0:Int)),Vb true)]<|.ret (Fr (V.tup [Vi (0:Int),Vb false]) []))
  (.rw 8037 [] [(37,Vb (Stp.k s==(5:Int)),Vb true)]<|.ite 1043 (decide ((↑(ByteArray.size (Stp.t s)):Int)≤(256:Int))==true)
  (.rw 8043 [] [(12,Vb (decide (Stp.k s ≥ (22:Int))),Vb false),(15,Vb (Stp.k s !=(5:Int)),Vb false),(41,Vb (decide ((↑(ByteArray.size (Stp.t s)):Int)≤(256:Int))),Vb true)]<|.tt 1044 (decide ((↑(ByteArray.size (Stp.t s)):Int)≤(256:Int))==true)<|.tt 1045 (decide ((↑(ByteArray.size (Stp.t s)):Int)≤(256:Int))==true)<|.call 45 (129) ([V.str (Stp.t s)]) ([]) (Fr (Vb (validU (Stp.t s))) [])<|.tt 46 (decide ((↑(ByteArray.size (Stp.t s)):Int)≤(256:Int)))<|.ret (Fr (V.tup [Vi (0:Int),Vb (validU (Stp.t s))]) []))
  (.ff 1044 (decide ((↑(ByteArray.size (Stp.t s)):Int)≤(256:Int))==true)<|.ff 1045 (decide ((↑(ByteArray.size (Stp.t s)):Int)≤(256:Int))==true)<|.ff 46 (decide ((↑(ByteArray.size (Stp.t s)):Int)≤(256:Int)))<|.ret (Fr (V.tup [Vi (0:Int),Vb false]) [])))))
  (.ff 1015 (decide (Stp.k s ≥ (22:Int))==false)<|.ff 1016 (decide (Stp.k s ≥ (22:Int))==false)<|.ff 1019 (decide (Stp.k s ≥ (22:Int))==false)<|.ff 1020 (decide (Stp.k s ≥ (22:Int))==false)<|.ff 1024 (decide (Stp.k s ≥ (22:Int))==false)<|.tt 25 (decide (Stp.k s ≥ (22:Int)))<|.ret (Fr (V.tup [Vi (0:Int),Vb false]) [])))
  (.ff 1011 (decide (Stp.k s<(1:Int))==false)<|.tt 12 (decide (Stp.k s<(1:Int)))<|.ret (Fr (V.tup [Vi (0:Int),Vb false]) []))) (by kernel_rfl) ?_
 exact ⟨fun h0=>have h0p:(1:Int)≤Stp.k s:=(by simpa using h0);⟨⟨tv,cb (by simp<;>omega),tv⟩,(h0),by simp<;>omega,fun h1=>have h1p:Stp.k s<(22:Int):=(by simpa using h1);⟨⟨tv,cb (by simp<;>omega),cb (by simp<;>omega),tv⟩,(h1),(h1),fun h2=>have h2p:¬Stp.k s=(5:Int):=(by simpa using h2);⟨⟨tv,cb (by simp<;>omega),cb (by simp<;>omega),tv⟩,(h2),⟨tv,cb (by simp<;>omega),tv⟩,(h1),by simp<;>omega,(h1),(h1),by simp<;>omega,fun h3=>have h3p:ByteArray.toList (Stp.t s)=[]:=(by simpa using h3);⟨⟨tv,cb (by simp<;>omega),cb (by simp<;>omega),cb (by simp<;>omega),tv⟩,(h3),(h3),fun h4=>have h4p:¬Stp.k s=(4:Int):=(by simpa using h4);⟨⟨tv,cb (by simp<;>omega),cb (by simp<;>omega),tv⟩,(h4),(h4),(h3),by simp<;>omega,by simp<;>omega,fun h5=>have h5p:¬Stp.n s=(0:Int):=(by simpa using h5);⟨⟨tv,cb (by simp<;>omega),cb (by simp<;>omega),cb (h5),tv⟩,by show _=_;(unfold tkN tkOk TkOk;grind)⟩,
  fun h5=>have h5p:Stp.n s=(0:Int):=(by simpa using h5);⟨⟨tv,cb (by simp<;>omega),tv⟩,⟨tv,cb (by simp<;>omega),tv⟩,fun h6=>have h6p:Stp.k s<(7:Int):=(by simpa using h6);⟨⟨tv,cb (by simp<;>omega),cb (by simp<;>omega),cb (h5),cb (h6),tv⟩,by show _=_;(unfold tkN tkOk TkOk;grind)⟩,
  fun h6=>have h6p:(7:Int)≤Stp.k s:=(by simpa using h6);⟨fun h7=>have h7p:Stp.k s≤(10:Int):=(by simpa using h7);⟨⟨tv,cb (by simp<;>omega),cb (by simp<;>omega),cb (h5),cb (h6),cb (h7),tv⟩,by show _=_;(unfold tkN tkOk TkOk;grind)⟩,
  fun h7=>have h7p:(10:Int)<Stp.k s:=(by simpa using h7);by show _=_;(unfold tkN tkOk TkOk;grind)⟩⟩⟩,
  fun h4=>have h4p:Stp.k s=(4:Int):=(by simpa using h4);⟨(h4),(h4),(h3),by simp<;>omega,by simp<;>omega,⟨tv,cb (by simp<;>omega),tv⟩,⟨tv,cb (by simp<;>omega),tv⟩,⟨tv,cb (by simp<;>omega),tv⟩,by show _=_;(unfold tkN tkOk TkOk;grind)⟩⟩,
  fun h3=>have h3p:¬ByteArray.toList (Stp.t s)=[]:=(by simpa using h3);⟨(h3),(h3),(h3),by simp<;>omega,by show _=_;(unfold tkN tkOk TkOk;grind)⟩⟩,
  fun h2=>have h2p:Stp.k s=(5:Int):=(by simpa using h2);⟨(h2),(h1),by simp<;>omega,(h1),(h1),by simp<;>omega,⟨tv,cb (by simp<;>omega),tv⟩,fun h3=>have h3p:¬Stp.n s=(0:Int):=(by simpa using h3);⟨⟨tv,cb (h3),tv⟩,by show _=_;(unfold tkN tkOk TkOk;grind)⟩,
  fun h3=>have h3p:Stp.n s=(0:Int):=(by simpa using h3);⟨⟨tv,cb (by simp<;>omega),tv⟩,fun h4=>have h4p:(↑(ByteArray.size (Stp.t s)):Int)≤(256:Int):=(by simpa using h4);⟨⟨tv,cb (by simp<;>omega),cb (by simp<;>omega),cb (by simp<;>omega),tv⟩,(h4),(h4),(Sp.fact (hv)),by simp<;>omega,by show _=_;(unfold tkN tkOk TkOk;grind)⟩,
  fun h4=>have h4p:(256:Int)<(↑(ByteArray.size (Stp.t s)):Int):=(by simpa using h4);⟨(h4),(h4),by simp<;>omega,by show _=_;(unfold tkN tkOk TkOk;grind)⟩⟩⟩⟩,
  fun h1=>have h1p:(22:Int)≤Stp.k s:=(by simpa using h1);⟨(h1),(h1),(h1),(h1),(h1),by simp<;>omega,by show _=_;(unfold tkN tkOk TkOk;grind)⟩⟩,
  fun h0=>have h0p:Stp.k s<(1:Int):=(by simpa using h0);⟨(h0),by simp<;>omega,by show _=_;(unfold tkN tkOk TkOk;grind)⟩⟩
end Go.Fw
set_option maxHeartbeats 20000000
namespace Go.Fw
open Go.Proofs
def I64 (x:Int):Prop:=-9223372036854775808≤x∧x≤9223372036854775807
def ovN (x:Int):Int:=if x < -9223372036854775808∨9223372036854775807<x then 0 else x
def ovE (x:Int):Int:=if x < -9223372036854775808∨9223372036854775807<x then 16 else 0
theorem add_sp (a b:Int) (ha:I64 a) (hb:I64 b):Sp C1 189 [.int .i64 a,.int .i64 b] (.tup [.int .i64 (ovN (a+b)),.int .i64 (ovE (a+b))]):=by
 unfold I64 at ha hb
 obtain ⟨a1,a2⟩:=ha
 obtain ⟨b1,b2⟩:=hb
 unfold ovN ovE
 by_cases h1:a+b < -9223372036854775808
 ·rw [if_pos (.inl h1),if_pos (.inl h1)]
  refine sp_tree draws (dm:=[]) (fs:=[]) (
   .rw 8007 [] [(7,Vb (decide (b>(0:Int))),Vb false)]<|.rw 8016 [] [(16,Vb (decide (b<(0:Int))),Vb true)]<|.rw 8020 [] [(20,Vi (IntKind.wrap IntKind.i64 ((-9223372036854775808:Int)-b)),Vi ((-9223372036854775808:Int)-b))]<|.rw 8021 [] [(21,Vb (decide (a<(-9223372036854775808:Int)-b)),Vb true)]<|.ret (Fr (V.tup [Vi (0:Int),Vi (16:Int)]) [])) (by kernel_rfl) ?_
  exact ⟨⟨tv,cb (by simp<;>omega),tv⟩,⟨tv,cb (by simp<;>omega),tv⟩,⟨tv,by simp (disch:=omega) only [wrap_i64],tv⟩,⟨tv,cb (by simp<;>omega),tv⟩,rfl⟩
 by_cases h2:9223372036854775807<a+b
 ·rw [if_pos (.inr h2),if_pos (.inr h2)]
  refine sp_tree draws (dm:=[]) (fs:=[]) (
   .rw 8007 [] [(7,Vb (decide (b>(0:Int))),Vb true)]<|.rw 8011 [] [(11,Vi (IntKind.wrap IntKind.i64 ((9223372036854775807:Int)-b)),Vi ((9223372036854775807:Int)-b))]<|.rw 8012 [] [(12,Vb (decide (a>(9223372036854775807:Int)-b)),Vb true)]<|.ret (Fr (V.tup [Vi (0:Int),Vi (16:Int)]) [])) (by kernel_rfl) ?_
  exact ⟨⟨tv,cb (by simp<;>omega),tv⟩,⟨tv,by simp (disch:=omega) only [wrap_i64],tv⟩,⟨tv,cb (by simp<;>omega),tv⟩,rfl⟩
 rw [if_neg (by omega),if_neg (by omega)]
 refine sp_tree draws (dm:=[]) (fs:=[]) (
  .ite 1009 (decide (b>(0:Int))==true)
  (.rw 8009 [] [(7,Vb (decide (b>(0:Int))),Vb true)]<|.tt 1010 (decide (b>(0:Int))==true)<|.tt 1011 (decide (b>(0:Int))==true)<|.rw 8011 [] [(11,Vi (IntKind.wrap IntKind.i64 ((9223372036854775807:Int)-b)),Vi ((9223372036854775807:Int)-b))]<|.tt 1012 (decide (b>(0:Int))==true)<|.rw 8012 [] [(12,Vb (decide (a>(9223372036854775807:Int)-b)),Vb false)]<|.tt 13 (decide (b>(0:Int)))<|.rw 8016 [] [(16,Vb (decide (b<(0:Int))),Vb false)]<|.rw 8026 [] [(26,Vi (IntKind.wrap IntKind.i64 (a+b)),Vi (a+b))]<|.ret (Fr (V.tup [Vi (a+b),Vi (0:Int)]) []))
  (.ff 1010 (decide (b>(0:Int))==true)<|.ff 1011 (decide (b>(0:Int))==true)<|.ff 1012 (decide (b>(0:Int))==true)<|.ff 13 (decide (b>(0:Int)))<|.ite 1018 (decide (b<(0:Int))==true)
  (.rw 8018 [] [(7,Vb (decide (b>(0:Int))),Vb false),(16,Vb (decide (b<(0:Int))),Vb true)]<|.tt 1019 (decide (b<(0:Int))==true)<|.tt 1020 (decide (b<(0:Int))==true)<|.rw 8020 [] [(20,Vi (IntKind.wrap IntKind.i64 ((-9223372036854775808:Int)-b)),Vi ((-9223372036854775808:Int)-b))]<|.tt 1021 (decide (b<(0:Int))==true)<|.rw 8021 [] [(21,Vb (decide (a<(-9223372036854775808:Int)-b)),Vb false)]<|.tt 22 (decide (b<(0:Int)))<|.rw 8026 [] [(26,Vi (IntKind.wrap IntKind.i64 (a+b)),Vi (a+b))]<|.ret (Fr (V.tup [Vi (a+b),Vi (0:Int)]) []))
  (.ff 1019 (decide (b<(0:Int))==true)<|.ff 1020 (decide (b<(0:Int))==true)<|.ff 1021 (decide (b<(0:Int))==true)<|.ff 22 (decide (b<(0:Int)))<|.rw 8026 [] [(26,Vi (IntKind.wrap IntKind.i64 (a+b)),Vi (a+b))]<|.ret (Fr (V.tup [Vi (a+b),Vi (0:Int)]) [])))) (by kernel_rfl) ?_
 exact ⟨fun h0=>have h0p:(0:Int)<b:=(by simpa using h0);⟨⟨tv,cb (by simp<;>omega),tv⟩,(h0),(h0),⟨tv,by simp (disch:=omega) only [wrap_i64],tv⟩,(h0),⟨tv,cb (by simp<;>omega),tv⟩,by simp<;>omega,⟨tv,cb (by simp<;>omega),tv⟩,⟨tv,by simp (disch:=omega) only [wrap_i64],tv⟩,rfl⟩,
  fun h0=>have h0p:b≤(0:Int):=(by simpa using h0);⟨(h0),(h0),(h0),by simp<;>omega,fun h1=>have h1p:b<(0:Int):=(by simpa using h1);⟨⟨tv,cb (by simp<;>omega),cb (by simp<;>omega),tv⟩,(h1),(h1),⟨tv,by simp (disch:=omega) only [wrap_i64],tv⟩,(h1),⟨tv,cb (by simp<;>omega),tv⟩,by simp<;>omega,⟨tv,by simp (disch:=omega) only [wrap_i64],tv⟩,rfl⟩,
  fun h1=>have h1p:(0:Int)≤b:=(by simpa using h1);⟨(h1),(h1),(h1),by simp<;>omega,⟨tv,by simp (disch:=omega) only [wrap_i64],tv⟩,rfl⟩⟩⟩
theorem sub_sp (a b:Int) (ha:I64 a) (hb:I64 b):Sp C1 188 [.int .i64 a,.int .i64 b] (.tup [.int .i64 (ovN (a-b)),.int .i64 (ovE (a-b))]):=by
 unfold I64 at ha hb
 obtain ⟨a1,a2⟩:=ha
 obtain ⟨b1,b2⟩:=hb
 unfold ovN ovE
 by_cases h1:a-b < -9223372036854775808
 ·rw [if_pos (.inl h1),if_pos (.inl h1)]
  refine sp_tree draws (dm:=[]) (fs:=[]) (
   .rw 8007 [] [(7,Vb (decide (b<(0:Int))),Vb false)]<|.rw 8016 [] [(16,Vb (decide (b>(0:Int))),Vb true)]<|.rw 8020 [] [(20,Vi (IntKind.wrap IntKind.i64 ((-9223372036854775808:Int)+b)),Vi ((-9223372036854775808:Int)+b))]<|.rw 8021 [] [(21,Vb (decide (a<(-9223372036854775808:Int)+b)),Vb true)]<|.ret (Fr (V.tup [Vi (0:Int),Vi (16:Int)]) [])) (by kernel_rfl) ?_
  exact ⟨⟨tv,cb (by simp<;>omega),tv⟩,⟨tv,cb (by simp<;>omega),tv⟩,⟨tv,by simp (disch:=omega) only [wrap_i64],tv⟩,⟨tv,cb (by simp<;>omega),tv⟩,rfl⟩
 by_cases h2:9223372036854775807<a-b
 ·rw [if_pos (.inr h2),if_pos (.inr h2)]
  refine sp_tree draws (dm:=[]) (fs:=[]) (
   .rw 8007 [] [(7,Vb (decide (b<(0:Int))),Vb true)]<|.rw 8011 [] [(11,Vi (IntKind.wrap IntKind.i64 ((9223372036854775807:Int)+b)),Vi ((9223372036854775807:Int)+b))]<|.rw 8012 [] [(12,Vb (decide (a>(9223372036854775807:Int)+b)),Vb true)]<|.ret (Fr (V.tup [Vi (0:Int),Vi (16:Int)]) [])) (by kernel_rfl) ?_
  exact ⟨⟨tv,cb (by simp<;>omega),tv⟩,⟨tv,by simp (disch:=omega) only [wrap_i64],tv⟩,⟨tv,cb (by simp<;>omega),tv⟩,rfl⟩
 rw [if_neg (by omega),if_neg (by omega)]
 refine sp_tree draws (dm:=[]) (fs:=[]) (
  .ite 1009 (decide (b<(0:Int))==true)
  (.rw 8009 [] [(7,Vb (decide (b<(0:Int))),Vb true)]<|.tt 1010 (decide (b<(0:Int))==true)<|.tt 1011 (decide (b<(0:Int))==true)<|.rw 8011 [] [(11,Vi (IntKind.wrap IntKind.i64 ((9223372036854775807:Int)+b)),Vi ((9223372036854775807:Int)+b))]<|.tt 1012 (decide (b<(0:Int))==true)<|.rw 8012 [] [(12,Vb (decide (a>(9223372036854775807:Int)+b)),Vb false)]<|.tt 13 (decide (b<(0:Int)))<|.rw 8016 [] [(16,Vb (decide (b>(0:Int))),Vb false)]<|.rw 8026 [] [(26,Vi (IntKind.wrap IntKind.i64 (a-b)),Vi (a-b))]<|.ret (Fr (V.tup [Vi (a-b),Vi (0:Int)]) []))
  (.ff 1010 (decide (b<(0:Int))==true)<|.ff 1011 (decide (b<(0:Int))==true)<|.ff 1012 (decide (b<(0:Int))==true)<|.ff 13 (decide (b<(0:Int)))<|.ite 1018 (decide (b>(0:Int))==true)
  (.rw 8018 [] [(7,Vb (decide (b<(0:Int))),Vb false),(16,Vb (decide (b>(0:Int))),Vb true)]<|.tt 1019 (decide (b>(0:Int))==true)<|.tt 1020 (decide (b>(0:Int))==true)<|.rw 8020 [] [(20,Vi (IntKind.wrap IntKind.i64 ((-9223372036854775808:Int)+b)),Vi ((-9223372036854775808:Int)+b))]<|.tt 1021 (decide (b>(0:Int))==true)<|.rw 8021 [] [(21,Vb (decide (a<(-9223372036854775808:Int)+b)),Vb false)]<|.tt 22 (decide (b>(0:Int)))<|.rw 8026 [] [(26,Vi (IntKind.wrap IntKind.i64 (a-b)),Vi (a-b))]<|.ret (Fr (V.tup [Vi (a-b),Vi (0:Int)]) []))
  (.ff 1019 (decide (b>(0:Int))==true)<|.ff 1020 (decide (b>(0:Int))==true)<|.ff 1021 (decide (b>(0:Int))==true)<|.ff 22 (decide (b>(0:Int)))<|.rw 8026 [] [(26,Vi (IntKind.wrap IntKind.i64 (a-b)),Vi (a-b))]<|.ret (Fr (V.tup [Vi (a-b),Vi (0:Int)]) [])))) (by kernel_rfl) ?_
 exact ⟨fun h0=>have h0p:b<(0:Int):=(by simpa using h0);⟨⟨tv,cb (by simp<;>omega),tv⟩,(h0),(h0),⟨tv,by simp (disch:=omega) only [wrap_i64],tv⟩,(h0),⟨tv,cb (by simp<;>omega),tv⟩,by simp<;>omega,⟨tv,cb (by simp<;>omega),tv⟩,⟨tv,by simp (disch:=omega) only [wrap_i64],tv⟩,rfl⟩,
  fun h0=>have h0p:(0:Int)≤b:=(by simpa using h0);⟨(h0),(h0),(h0),by simp<;>omega,fun h1=>have h1p:(0:Int)<b:=(by simpa using h1);⟨⟨tv,cb (by simp<;>omega),cb (by simp<;>omega),tv⟩,(h1),(h1),⟨tv,by simp (disch:=omega) only [wrap_i64],tv⟩,(h1),⟨tv,cb (by simp<;>omega),tv⟩,by simp<;>omega,⟨tv,by simp (disch:=omega) only [wrap_i64],tv⟩,rfl⟩,
  fun h1=>have h1p:b≤(0:Int):=(by simpa using h1);⟨(h1),(h1),(h1),by simp<;>omega,⟨tv,by simp (disch:=omega) only [wrap_i64],tv⟩,rfl⟩⟩⟩
theorem compared_sp (k c:Int) (hk:14≤k) (hk2:k≤19) (hc:-1≤c∧c≤1):Sp C1 191 [.int .u8 k,.int .i64 c] (.bool (if k=14 then decide (c=0) else if k=15 then decide (c≠0) else if k=16 then decide (c<0) else if k=17 then decide (c<1) else if k=18 then decide (0<c) else decide (-1<c))):=by
 refine sp_tree draws (dm:=[]) (fs:=[]) (
  .ite 2006 (k==(14:Int))
  (.rw 8008 [] [(6,Vb (k==(14:Int)),Vb true)]<|.ret (Fr (Vb (c==(0:Int))) []))
  (.ite 2010 (k==(15:Int))
  (.rw 8012 [] [(6,Vb (k==(14:Int)),Vb false),(10,Vb (k==(15:Int)),Vb true)]<|.ret (Fr (Vb (c !=(0:Int))) []))
  (.ite 2014 (k==(16:Int))
  (.rw 8016 [] [(6,Vb (k==(14:Int)),Vb false),(10,Vb (k==(15:Int)),Vb false),(14,Vb (k==(16:Int)),Vb true)]<|.ret (Fr (Vb (decide (c<(0:Int)))) []))
  (.ite 2018 (k==(17:Int))
  (.rw 8020 [] [(6,Vb (k==(14:Int)),Vb false),(10,Vb (k==(15:Int)),Vb false),(14,Vb (k==(16:Int)),Vb false),(18,Vb (k==(17:Int)),Vb true)]<|.ret (Fr (Vb (decide (c<(1:Int)))) []))
  (.ite 2022 (k==(18:Int))
  (.rw 8024 [] [(6,Vb (k==(14:Int)),Vb false),(10,Vb (k==(15:Int)),Vb false),(14,Vb (k==(16:Int)),Vb false),(18,Vb (k==(17:Int)),Vb false),(22,Vb (k==(18:Int)),Vb true)]<|.ret (Fr (Vb (decide (c>(0:Int)))) []))
  (.ret (Fr (Vb (decide (c>(-1:Int)))) []))))))) (by kernel_rfl) ?_
 exact ⟨fun h0=>have h0p:k=(14:Int):=(by simpa using h0);⟨⟨tv,cb (h0),tv⟩,by show _=_;grind⟩,
  fun h0=>have h0p:¬k=(14:Int):=(by simpa using h0);⟨fun h1=>have h1p:k=(15:Int):=(by simpa using h1);⟨⟨tv,cb (h0),cb (h1),tv⟩,by show _=_;grind⟩,
  fun h1=>have h1p:¬k=(15:Int):=(by simpa using h1);⟨fun h2=>have h2p:k=(16:Int):=(by simpa using h2);⟨⟨tv,cb (h0),cb (h1),cb (h2),tv⟩,by show _=_;grind⟩,
  fun h2=>have h2p:¬k=(16:Int):=(by simpa using h2);⟨fun h3=>have h3p:k=(17:Int):=(by simpa using h3);⟨⟨tv,cb (h0),cb (h1),cb (h2),cb (h3),tv⟩,by show _=_;grind⟩,
  fun h3=>have h3p:¬k=(17:Int):=(by simpa using h3);⟨fun h4=>have h4p:k=(18:Int):=(by simpa using h4);⟨⟨tv,cb (h0),cb (h1),cb (h2),cb (h3),cb (h4),tv⟩,by show _=_;grind⟩,
  fun h4=>have h4p:¬k=(18:Int):=(by simpa using h4);by show _=_;grind⟩⟩⟩⟩⟩
end Go.Fw
set_option maxHeartbeats 20000000
namespace Go.Fw
open Go.Proofs
def cmpI (a b:Int):Int:=if a<b then -1 else if b<a then 1 else 0
theorem nanK_sp (a:Int):Sp C1 114 [.int .u8 a] (.bool false):=by
 refine sp_tree draws (dm:=[]) (fs:=[]) (
  .rw 8005 [] [(5,Vb (a !=a),Vb false)]<|.ret (Fr (Vb false) [])) (by kernel_rfl) ?_
 exact ⟨⟨tv,cb (by simp<;>omega),tv⟩,rfl⟩
theorem cmpK_sp (a b:Int):Sp C1 53 [.int .u8 a,.int .u8 b] (.int .i64 (cmpI a b)):=by
 refine sp_tree draws (dm:=[]) (fs:=[]) (
  .call 8 (114) ([Vu a]) ([]) (Fr (Vb false) [])<|.call 10 (114) ([Vu b]) ([]) (Fr (Vb false) [])<|.ite 2016 (decide (a<b))
  (.rw 8004 [] [(16,Vb (decide (a<b)),Vb true)]<|.ret (Fr (Vi (-1:Int)) []))
  (.ite 2019 (decide (a>b))
  (.rw 8004 [] [(16,Vb (decide (a<b)),Vb false),(19,Vb (decide (a>b)),Vb true)]<|.ret (Fr (Vi (1:Int)) []))
  (.ret (Fr (Vi (0:Int)) [])))) (by kernel_rfl) ?_
 exact ⟨(Sp.fact (nanK_sp _)),(Sp.fact (nanK_sp _)),fun h0=>have h0p:a<b:=(by simpa using h0);⟨⟨tv,cb (h0),tv⟩,by show _=_;(unfold cmpI;grind)⟩,
  fun h0=>have h0p:b≤a:=(by simpa using h0);⟨fun h1=>have h1p:b<a:=(by simpa using h1);⟨⟨tv,cb (h0),cb (h1),tv⟩,by show _=_;(unfold cmpI;grind)⟩,
  fun h1=>have h1p:a≤b:=(by simpa using h1);by show _=_;(unfold cmpI;grind)⟩⟩
theorem nanL_sp (a:Int):Sp C1 115 [.int .i64 a] (.bool false):=by
 refine sp_tree draws (dm:=[]) (fs:=[]) (
  .rw 8005 [] [(5,Vb (a !=a),Vb false)]<|.ret (Fr (Vb false) [])) (by kernel_rfl) ?_
 exact ⟨⟨tv,cb (by simp<;>omega),tv⟩,rfl⟩
theorem cmpL_sp (a b:Int):Sp C1 54 [.int .i64 a,.int .i64 b] (.int .i64 (cmpI a b)):=by
 refine sp_tree draws (dm:=[]) (fs:=[]) (
  .call 8 (115) ([Vi a]) ([]) (Fr (Vb false) [])<|.call 10 (115) ([Vi b]) ([]) (Fr (Vb false) [])<|.ite 2016 (decide (a<b))
  (.rw 8004 [] [(16,Vb (decide (a<b)),Vb true)]<|.ret (Fr (Vi (-1:Int)) []))
  (.ite 2019 (decide (a>b))
  (.rw 8004 [] [(16,Vb (decide (a<b)),Vb false),(19,Vb (decide (a>b)),Vb true)]<|.ret (Fr (Vi (1:Int)) []))
  (.ret (Fr (Vi (0:Int)) [])))) (by kernel_rfl) ?_
 exact ⟨(Sp.fact (nanL_sp _)),(Sp.fact (nanL_sp _)),fun h0=>have h0p:a<b:=(by simpa using h0);⟨⟨tv,cb (h0),tv⟩,by show _=_;(unfold cmpI;grind)⟩,
  fun h0=>have h0p:b≤a:=(by simpa using h0);⟨fun h1=>have h1p:b<a:=(by simpa using h1);⟨⟨tv,cb (h0),cb (h1),tv⟩,by show _=_;(unfold cmpI;grind)⟩,
  fun h1=>have h1p:a≤b:=(by simpa using h1);by show _=_;(unfold cmpI;grind)⟩⟩
theorem nanR_sp (a:Int):Sp C1 170 [.int .i32 a] (.bool false):=by
 refine sp_tree draws (dm:=[]) (fs:=[]) (
  .rw 8005 [] [(5,Vb (a !=a),Vb false)]<|.ret (Fr (Vb false) [])) (by kernel_rfl) ?_
 exact ⟨⟨tv,cb (by simp<;>omega),tv⟩,rfl⟩
theorem cmpR_sp (a b:Int):Sp C1 117 [.int .i32 a,.int .i32 b] (.int .i64 (cmpI a b)):=by
 refine sp_tree draws (dm:=[]) (fs:=[]) (
  .call 8 (170) ([V.int .i32 a]) ([]) (Fr (Vb false) [])<|.call 10 (170) ([V.int .i32 b]) ([]) (Fr (Vb false) [])<|.ite 2016 (decide (a<b))
  (.rw 8004 [] [(16,Vb (decide (a<b)),Vb true)]<|.ret (Fr (Vi (-1:Int)) []))
  (.ite 2019 (decide (a>b))
  (.rw 8004 [] [(16,Vb (decide (a<b)),Vb false),(19,Vb (decide (a>b)),Vb true)]<|.ret (Fr (Vi (1:Int)) []))
  (.ret (Fr (Vi (0:Int)) [])))) (by kernel_rfl) ?_
 exact ⟨(Sp.fact (nanR_sp _)),(Sp.fact (nanR_sp _)),fun h0=>have h0p:a<b:=(by simpa using h0);⟨⟨tv,cb (h0),tv⟩,by show _=_;(unfold cmpI;grind)⟩,
  fun h0=>have h0p:b≤a:=(by simpa using h0);⟨fun h1=>have h1p:b<a:=(by simpa using h1);⟨⟨tv,cb (h0),cb (h1),tv⟩,by show _=_;(unfold cmpI;grind)⟩,
  fun h1=>have h1p:a≤b:=(by simpa using h1);by show _=_;(unfold cmpI;grind)⟩⟩
theorem nanI_sp (a:Int):Sp C1 171 [.int .i64 a] (.bool false):=by
 refine sp_tree draws (dm:=[]) (fs:=[]) (
  .rw 8005 [] [(5,Vb (a !=a),Vb false)]<|.ret (Fr (Vb false) [])) (by kernel_rfl) ?_
 exact ⟨⟨tv,cb (by simp<;>omega),tv⟩,rfl⟩
theorem cmpI_sp (a b:Int):Sp C1 118 [.int .i64 a,.int .i64 b] (.int .i64 (cmpI a b)):=by
 refine sp_tree draws (dm:=[]) (fs:=[]) (
  .call 8 (171) ([Vi a]) ([]) (Fr (Vb false) [])<|.call 10 (171) ([Vi b]) ([]) (Fr (Vb false) [])<|.ite 2016 (decide (a<b))
  (.rw 8004 [] [(16,Vb (decide (a<b)),Vb true)]<|.ret (Fr (Vi (-1:Int)) []))
  (.ite 2019 (decide (a>b))
  (.rw 8004 [] [(16,Vb (decide (a<b)),Vb false),(19,Vb (decide (a>b)),Vb true)]<|.ret (Fr (Vi (1:Int)) []))
  (.ret (Fr (Vi (0:Int)) [])))) (by kernel_rfl) ?_
 exact ⟨(Sp.fact (nanI_sp _)),(Sp.fact (nanI_sp _)),fun h0=>have h0p:a<b:=(by simpa using h0);⟨⟨tv,cb (h0),tv⟩,by show _=_;(unfold cmpI;grind)⟩,
  fun h0=>have h0p:b≤a:=(by simpa using h0);⟨fun h1=>have h1p:b<a:=(by simpa using h1);⟨⟨tv,cb (h0),cb (h1),tv⟩,by show _=_;(unfold cmpI;grind)⟩,
  fun h1=>have h1p:a≤b:=(by simpa using h1);by show _=_;(unfold cmpI;grind)⟩⟩
def rn:Nat→List UInt8→List Int
 | 0,_=>[]
 | f+1,l=>if l=[] then [] else ((Lib.decodeL l).1:Int)::rn f (l.drop (Lib.decodeL l).2)
def runesL (l:List UInt8):List Int:=rn l.length l
theorem rn_fuel:∀ (n m:Nat) (l:List UInt8),l.length≤n→l.length≤m→rn n l=rn m l
 | 0,m,l,hn,_=>by
  obtain rfl:l=[]:=List.eq_nil_of_length_eq_zero (by omega)
  cases m<;>rfl
 | n+1,0,l,_,hm=>by
  obtain rfl:l=[]:=List.eq_nil_of_length_eq_zero (by omega)
  rfl
 | n+1,m+1,l,hn,hm=>by
  unfold rn
  by_cases hne:l=[]
  ·simp [hne]
  ·have hw:=Lib.decodeL_width l
   have hl:0<l.length:=List.length_pos_iff.2 hne
   rw [if_neg hne,if_neg hne,rn_fuel n m _ (by rw [List.length_drop];omega) (by rw [List.length_drop];omega)]
theorem runesL_step (l:List UInt8) (hne:l≠[]):runesL l=((Lib.decodeL l).1:Int)::runesL (l.drop (Lib.decodeL l).2):=by
 have hl:0<l.length:=List.length_pos_iff.2 hne
 have hw:=Lib.decodeL_width l
 obtain ⟨n,hn⟩:∃ n,l.length=n+1:=⟨l.length-1,by omega⟩
 unfold runesL
 rw [hn]
 show (if l=[] then [] else _)=_
 rw [if_neg hne,rn_fuel n (l.drop (Lib.decodeL l).2).length _ (by rw [List.length_drop];omega) (Nat.le_refl _)]
def runesS (s:ByteArray):List Int:=runesL s.data.toList
def cmpR:List Int→List Int→Int
 | [],[]=>0
 | [],_=>-1
 | _,[]=>1
 | x::xs,y::ys=>if x<y then -1 else if y<x then 1 else cmpR xs ys
theorem toList_ne {a:ByteArray} (h:0<a.size):¬a.toList=[]:=by
 intro e
 have:a.size=0:=by rw [Lib.size_eq,←Lib.toList_data,e];rfl
 omega
theorem toList_nil {a:ByteArray} (h:a.size=0):a.toList=[]:=by
 rw [Lib.toList_data]
 exact List.eq_nil_of_length_eq_zero (by rw [←Lib.size_eq];exact h)
theorem runesS_nil {a:ByteArray} (h:a.size=0):runesS a=[]:=by
 unfold runesS
 rw [←Lib.toList_data,toList_nil h]
 rfl
theorem decodeGo_L {a:ByteArray} (h:0<a.size):Lib.decodeGo a=Lib.decodeL a.data.toList:=by
 unfold Lib.decodeGo
 rw [if_neg (by omega),←Lib.decodeL_drop,List.drop_zero]
theorem runesS_step {a:ByteArray} (h:0<a.size):runesS a=((Lib.decodeGo a).1:Int)::runesS (a.extract (Lib.decodeGo a).2 a.size):=by
 unfold runesS
 rw [runesL_step _ (by rw [←Lib.toList_data];exact toList_ne h),Lib.ext_list,decodeGo_L h]
theorem decodeGo_w {a:ByteArray} (h:0<a.size):1≤(Lib.decodeGo a).2∧(Lib.decodeGo a).2≤a.size:=by
 rw [decodeGo_L h]
 exact ⟨Lib.decodeL_width _,by rw [Lib.size_eq];exact Lib.decodeL_le _ (by rw [←Lib.toList_data];exact toList_ne h)⟩
abbrev KT:List (Nat×Fm):=keeps [0,1]
abbrev SX (a b:ByteArray):St:=mkSt 42 [(0,.str a),(1,.str b)] []
theorem cmpR_nil (a b:ByteArray) (h:a.size=0∨b.size=0):cmpR (runesS a) (runesS b)=cmpI (a.size:Int) (b.size:Int):=by
 have e:∀ x:ByteArray,0<x.size→∃ y ys,runesS x=y::ys:=fun x hx=>⟨_,_,runesS_step hx⟩
 unfold cmpI
 by_cases ha:a.size=0
 ·rw [runesS_nil ha]
  by_cases hb:b.size=0
  ·rw [runesS_nil hb,ha,hb];rfl
  ·obtain ⟨y,ys,e1⟩:=e b (by omega)
   rw [e1,if_pos (by omega)];rfl
 ·have hb:b.size=0:=by omega
  obtain ⟨y,ys,e1⟩:=e a (by omega)
  rw [runesS_nil hb,e1,if_neg (by omega),if_pos (by omega)];rfl
theorem textsl:∀ (n:Nat) (a b:ByteArray),a.size+b.size≤n→a.size≤2 ^ 47→b.size≤2 ^ 47 →
  (∃ a' b':ByteArray,a'.size≤2 ^ 47∧b'.size≤2 ^ 47∧cmpR (runesS a) (runesS b)=cmpI (a'.size:Int) (b'.size:Int)∧LoopK C1 55 8 KT (SX a b) (.exit 0) (mkSt 42 [(0,.str a'),(1,.str b')] [])) ∨
  LoopK C1 55 8 KT (SX a b) .ret (mkSt 42 [(4,.int .i64 (cmpR (runesS a) (runesS b)))] []):=by
 intro n
 induction n with
 | zero =>
  intro a b h ha hb
  have ta:=toList_nil (a:=a) (by omega)
  refine .inl ⟨a,b,ha,hb,cmpR_nil a b (by omega),?_⟩
  refine loop_tree draws (rd:=true) (kn:=KT) (ke:=(keeps [0,1])) (
   .rw 8010 [] [(10,Vb !ByteArray.toList a==[],Vb false)]<|.ret ((Ex.exit 0,mkSt 42 [(0,V.str a),(1,V.str b)] []))) (by kernel_rfl) ?_
  exact ⟨⟨tv,cb (by simp [ta]),tv⟩,rfl,rfl⟩
 | succ n ihn =>
  intro a b h ha hb
  by_cases h1:a.size=0
  ·have ta:=toList_nil h1
   refine .inl ⟨a,b,ha,hb,cmpR_nil a b (by omega),?_⟩
   refine loop_tree draws (rd:=true) (kn:=KT) (ke:=(keeps [0,1])) (
    .rw 8010 [] [(10,Vb !ByteArray.toList a==[],Vb false)]<|.ret ((Ex.exit 0,mkSt 42 [(0,V.str a),(1,V.str b)] []))) (by kernel_rfl) ?_
   exact ⟨⟨tv,cb (by simp [ta]),tv⟩,rfl,rfl⟩
  by_cases h2:b.size=0
  ·have ta:=toList_ne (a:=a) (by omega)
   have tb:=toList_nil h2
   refine .inl ⟨a,b,ha,hb,cmpR_nil a b (by omega),?_⟩
   refine loop_tree draws (rd:=true) (kn:=KT) (ke:=(keeps [0,1])) (
    .rw 8010 [] [(10,Vb !ByteArray.toList a==[],Vb true)]<|.rw 8013 [] [(13,Vb !ByteArray.toList b==[],Vb false)]<|.ret ((Ex.exit 0,mkSt 42 [(0,V.str a),(1,V.str b)] []))) (by kernel_rfl) ?_
   exact ⟨⟨tv,cb (by simp [ta,tb]),tv⟩,⟨tv,cb (by simp [ta,tb]),tv⟩,rfl,rfl⟩
  have ta:=toList_ne (a:=a) (by omega)
  have tb:=toList_ne (a:=b) (by omega)
  obtain ⟨wa1,wa2⟩:=decodeGo_w (a:=a) (by omega)
  obtain ⟨wb1,wb2⟩:=decodeGo_w (a:=b) (by omega)
  have da:=decode_sp a
  have db:=decode_sp b
  have dc:=cmpR_sp ((Lib.decodeGo a).1:Int) ((Lib.decodeGo b).1:Int)
  rw [runesS_step (a:=a) (by omega),runesS_step (a:=b) (by omega)]
  by_cases he:((Lib.decodeGo a).1:Int)=(Lib.decodeGo b).1
  ·have e:cmpR (((Lib.decodeGo a).1:Int)::runesS (a.extract (Lib.decodeGo a).2 a.size)) (((Lib.decodeGo b).1:Int)::runesS (b.extract (Lib.decodeGo b).2 b.size))=cmpR (runesS (a.extract (Lib.decodeGo a).2 a.size)) (runesS (b.extract (Lib.decodeGo b).2 b.size)):=by
    rw [cmpR,if_neg (by omega),if_neg (by omega)]
   rw [e]
   rcases ihn (a.extract (Lib.decodeGo a).2 a.size) (b.extract (Lib.decodeGo b).2 b.size) (by rw [Lib.ext_size,Lib.ext_size];omega) (by rw [Lib.ext_size];omega) (by rw [Lib.ext_size];omega) with ⟨a',b',q1,q2,q3,ih⟩ | ih
   ·refine .inl ⟨a',b',q1,q2,q3,?_⟩
    refine loop_tree draws (rd:=true) (kn:=KT) (ke:=(keeps [0,1])) (
     .rw 8010 [] [(10,Vb !ByteArray.toList a==[],Vb true)]<|.rw 8013 [] [(13,Vb !ByteArray.toList b==[],Vb true)]<|.call 17 (116) ([V.str a]) ([]) (Fr (V.tup [V.int .i32 (↑(Prod.fst (Lib.decodeGo a)):Int),Vi (↑(Prod.snd (Lib.decodeGo a)):Int)]) [])<|.call 22 (116) ([V.str b]) ([]) (Fr (V.tup [V.int .i32 (↑(Prod.fst (Lib.decodeGo b)):Int),Vi (↑(Prod.snd (Lib.decodeGo b)):Int)]) [])<|.rw 8027 [] [(27,Vb ((↑(Prod.fst (Lib.decodeGo a)):Int) !=(↑(Prod.fst (Lib.decodeGo b)):Int)),Vb false)]<|.chk 33 (decide ((0:Int)≤(↑(Prod.snd (Lib.decodeGo a)):Int)∧(↑(Prod.snd (Lib.decodeGo a)):Int)≤(↑(ByteArray.size a):Int)∧(↑(ByteArray.size a):Int)≤(↑(ByteArray.size a):Int)))<|.rw 8033 [] [(33,V.str (ByteArray.extract a (Int.toNat (↑(Prod.snd (Lib.decodeGo a)):Int)) (Int.toNat (↑(ByteArray.size a):Int))),V.str (ByteArray.extract a (Prod.snd (Lib.decodeGo a)) (ByteArray.size a)))]<|.chk 36 (decide ((0:Int)≤(↑(Prod.snd (Lib.decodeGo b)):Int)∧(↑(Prod.snd (Lib.decodeGo b)):Int)≤(↑(ByteArray.size b):Int)∧(↑(ByteArray.size b):Int)≤(↑(ByteArray.size b):Int)))<|.rw 8036 [] [(36,V.str (ByteArray.extract b (Int.toNat (↑(Prod.snd (Lib.decodeGo b)):Int)) (Int.toNat (↑(ByteArray.size b):Int))),V.str (ByteArray.extract b (Prod.snd (Lib.decodeGo b)) (ByteArray.size b)))]<|.ret (.normal,SX (ByteArray.extract a (Prod.snd (Lib.decodeGo a)) (ByteArray.size a)) (ByteArray.extract b (Prod.snd (Lib.decodeGo b)) (ByteArray.size b)))) (by kernel_rfl) ?_
    exact ⟨⟨tv,cb (by simp [ta,tb]),tv⟩,⟨tv,cb (by simp [ta,tb]),tv⟩,(Sp.fact (da)),(Sp.fact (db)),⟨tv,cb (by simp<;>omega),tv⟩,by simp<;>omega,⟨tv,by simp (disch:=omega) only [Int.toNat_natCast],tv⟩,by simp<;>omega,⟨tv,by simp (disch:=omega) only [Int.toNat_natCast],tv⟩,(ih)⟩
   ·right
    refine loop_tree draws (rd:=true) (kn:=KT) (ke:=(keeps [4])) (
     .rw 8010 [] [(10,Vb !ByteArray.toList a==[],Vb true)]<|.rw 8013 [] [(13,Vb !ByteArray.toList b==[],Vb true)]<|.call 17 (116) ([V.str a]) ([]) (Fr (V.tup [V.int .i32 (↑(Prod.fst (Lib.decodeGo a)):Int),Vi (↑(Prod.snd (Lib.decodeGo a)):Int)]) [])<|.call 22 (116) ([V.str b]) ([]) (Fr (V.tup [V.int .i32 (↑(Prod.fst (Lib.decodeGo b)):Int),Vi (↑(Prod.snd (Lib.decodeGo b)):Int)]) [])<|.rw 8027 [] [(27,Vb ((↑(Prod.fst (Lib.decodeGo a)):Int) !=(↑(Prod.fst (Lib.decodeGo b)):Int)),Vb false)]<|.chk 33 (decide ((0:Int)≤(↑(Prod.snd (Lib.decodeGo a)):Int)∧(↑(Prod.snd (Lib.decodeGo a)):Int)≤(↑(ByteArray.size a):Int)∧(↑(ByteArray.size a):Int)≤(↑(ByteArray.size a):Int)))<|.rw 8033 [] [(33,V.str (ByteArray.extract a (Int.toNat (↑(Prod.snd (Lib.decodeGo a)):Int)) (Int.toNat (↑(ByteArray.size a):Int))),V.str (ByteArray.extract a (Prod.snd (Lib.decodeGo a)) (ByteArray.size a)))]<|.chk 36 (decide ((0:Int)≤(↑(Prod.snd (Lib.decodeGo b)):Int)∧(↑(Prod.snd (Lib.decodeGo b)):Int)≤(↑(ByteArray.size b):Int)∧(↑(ByteArray.size b):Int)≤(↑(ByteArray.size b):Int)))<|.rw 8036 [] [(36,V.str (ByteArray.extract b (Int.toNat (↑(Prod.snd (Lib.decodeGo b)):Int)) (Int.toNat (↑(ByteArray.size b):Int))),V.str (ByteArray.extract b (Prod.snd (Lib.decodeGo b)) (ByteArray.size b)))]<|.ret (.normal,SX (ByteArray.extract a (Prod.snd (Lib.decodeGo a)) (ByteArray.size a)) (ByteArray.extract b (Prod.snd (Lib.decodeGo b)) (ByteArray.size b)))) (by kernel_rfl) ?_
    exact ⟨⟨tv,cb (by simp [ta,tb]),tv⟩,⟨tv,cb (by simp [ta,tb]),tv⟩,(Sp.fact (da)),(Sp.fact (db)),⟨tv,cb (by simp<;>omega),tv⟩,by simp<;>omega,⟨tv,by simp (disch:=omega) only [Int.toNat_natCast],tv⟩,by simp<;>omega,⟨tv,by simp (disch:=omega) only [Int.toNat_natCast],tv⟩,(ih)⟩
  ·have e:cmpR (((Lib.decodeGo a).1:Int)::runesS (a.extract (Lib.decodeGo a).2 a.size)) (((Lib.decodeGo b).1:Int)::runesS (b.extract (Lib.decodeGo b).2 b.size))=cmpI ((Lib.decodeGo a).1:Int) ((Lib.decodeGo b).1:Int):=by
    rw [cmpR]
    unfold cmpI
    split
    ·rfl
    ·split
     ·rfl
     ·omega
   rw [e]
   right
   refine loop_tree draws (rd:=true) (kn:=KT) (ke:=(keeps [4])) (
    .rw 8010 [] [(10,Vb !ByteArray.toList a==[],Vb true)]<|.rw 8013 [] [(13,Vb !ByteArray.toList b==[],Vb true)]<|.call 17 (116) ([V.str a]) ([]) (Fr (V.tup [V.int .i32 (↑(Prod.fst (Lib.decodeGo a)):Int),Vi (↑(Prod.snd (Lib.decodeGo a)):Int)]) [])<|.call 22 (116) ([V.str b]) ([]) (Fr (V.tup [V.int .i32 (↑(Prod.fst (Lib.decodeGo b)):Int),Vi (↑(Prod.snd (Lib.decodeGo b)):Int)]) [])<|.rw 8027 [] [(27,Vb ((↑(Prod.fst (Lib.decodeGo a)):Int) !=(↑(Prod.fst (Lib.decodeGo b)):Int)),Vb true)]<|.call 30 (117) ([V.int .i32 (↑(Prod.fst (Lib.decodeGo a)):Int),V.int .i32 (↑(Prod.fst (Lib.decodeGo b)):Int)]) ([]) (Fr (Vi (cmpI (↑(Prod.fst (Lib.decodeGo a)):Int) (↑(Prod.fst (Lib.decodeGo b)):Int))) [])<|.ret ((Ex.ret,mkSt 42 [(4,Vi (cmpI (↑(Prod.fst (Lib.decodeGo a)):Int) (↑(Prod.fst (Lib.decodeGo b)):Int)))] []))) (by kernel_rfl) ?_
   exact ⟨⟨tv,cb (by simp [ta,tb]),tv⟩,⟨tv,cb (by simp [ta,tb]),tv⟩,(Sp.fact (da)),(Sp.fact (db)),⟨tv,cb (by simp<;>omega),tv⟩,(Sp.fact (dc)),rfl,rfl⟩
theorem texts_sp (a b:ByteArray) (ha:a.size≤2 ^ 47) (hb:b.size≤2 ^ 47):Sp C1 55 [.str a,.str b] (.int .i64 (cmpR (runesS a) (runesS b))):=by
 rcases textsl (a.size+b.size) a b (Nat.le_refl _) ha hb with ⟨a',b',q1,q2,q3,h⟩ | h
 ·rw [q3]
  refine sp_tree draws (dm:=[]) (fs:=[]) (
   .loop 8 false (KT) (SX a b) (Ex.exit 0) (mkSt 42 [(0,V.str a'),(1,V.str b')] [])<|.call 41 (118) ([Vi (↑(ByteArray.size a'):Int),Vi (↑(ByteArray.size b'):Int)]) ([]) (Fr (Vi (cmpI (↑(ByteArray.size a'):Int) (↑(ByteArray.size b'):Int))) [])<|.ret (Fr (Vi (cmpI (↑(ByteArray.size a'):Int) (↑(ByteArray.size b'):Int))) [])) (by kernel_rfl) ?_
  exact ⟨(LoopR.weak (h)),(Sp.fact (cmpI_sp _ _)),rfl⟩
 ·refine sp_tree draws (dm:=[]) (fs:=[]) (
   .loop 8 false (KT) (SX a b) (Ex.ret) (mkSt 42 [(4,Vi (cmpR (runesS a) (runesS b)))] [])<|.ret (Fr (Vi (cmpR (runesS a) (runesS b))) [])) (by kernel_rfl) ?_
  exact ⟨(LoopR.weak (h)),rfl⟩
end Go.Fw
set_option maxHeartbeats 20000000
namespace Go.Fw
open Go.Proofs
def cmpV (a b:Vl):Int:=if a.k≠b.k then cmpI a.k b.k else if a.k=1 then (if a.b=b.b then 0 else if a.b then 1 else -1) else if a.k=2 then cmpI a.n b.n else if a.k=3 then cmpR (runesS a.s) (runesS b.s) else 0
theorem compare_sp (a b:Vl) (ha:FineV a) (hb:FineV b):Sp C1 23 [eV a,eV b] (.int .i64 (cmpV a b)):=by
 have ht:=texts_sp a.s b.s ha.1 hb.1
 obtain ⟨_,a1,a2⟩:=ha
 obtain ⟨_,b1,b2⟩:=hb
 refine sp_tree draws (dm:=[]) (fs:=[]) (
  .ite 2009 (Vl.k a !=Vl.k b)
  (.rw 8010 [] [(9,Vb (Vl.k a !=Vl.k b),Vb true)]<|.call 14 (53) ([Vu (Vl.k a),Vu (Vl.k b)]) ([]) (Fr (Vi (cmpI (Vl.k a) (Vl.k b))) [])<|.ret (Fr (Vi (cmpI (Vl.k a) (Vl.k b))) []))
  (.ite 1020 ((Vl.k a==(1:Int))==true)
  (.rw 8020 [] [(9,Vb (Vl.k a !=Vl.k b),Vb false),(18,Vb (Vl.k a==(1:Int)),Vb true)]<|.tt 1021 ((Vl.k a==(1:Int))==true)<|.tt 1022 ((Vl.k a==(1:Int))==true)<|.tt 1023 ((Vl.k a==(1:Int))==true)<|.tt 1024 ((Vl.k a==(1:Int))==true)<|.tt 25 (Vl.k a==(1:Int))<|.ite 2015 (!Vl.b a==Vl.b b)
  (.rw 8026 [] [(15,Vb !Vl.b a==Vl.b b,Vb true),(19,Vb (Vl.k a==(1:Int)),Vb true)]<|.ite 2027 (Vl.b a)
  (.rw 8004 [] [(21,Vb (Vl.b a),Vb true),(24,Vb !Vl.b a==Vl.b b,Vb true)]<|.ret (Fr (Vi (1:Int)) []))
  (.ret (Fr (Vi (-1:Int)) [])))
  (.rw 8031 [] [(31,Vb (Vl.k a==(2:Int)),Vb false)]<|.rw 8040 [] [(40,Vb (Vl.k a==(3:Int)),Vb false)]<|.ret (Fr (Vi (0:Int)) [])))
  (.ff 1021 ((Vl.k a==(1:Int))==true)<|.ff 1022 ((Vl.k a==(1:Int))==true)<|.ff 1023 ((Vl.k a==(1:Int))==true)<|.ff 1024 ((Vl.k a==(1:Int))==true)<|.ff 25 (Vl.k a==(1:Int))<|.ite 2028 (Vl.k a==(2:Int))
  (.rw 8032 [] [(9,Vb (Vl.k a !=Vl.k b),Vb false)]<|.call 36 (54) ([Vi (Vl.n a),Vi (Vl.n b)]) ([]) (Fr (Vi (cmpI (Vl.n a) (Vl.n b))) [])<|.ret (Fr (Vi (cmpI (Vl.n a) (Vl.n b))) []))
  (.ite 2037 (Vl.k a==(3:Int))
  (.rw 8041 [] [(9,Vb (Vl.k a !=Vl.k b),Vb false),(18,Vb (Vl.k a==(1:Int)),Vb false),(28,Vb (Vl.k a==(2:Int)),Vb false),(37,Vb (Vl.k a==(3:Int)),Vb true)]<|.call 45 (55) ([V.str (Vl.s a),V.str (Vl.s b)]) ([]) (Fr (Vi (cmpR (runesS (Vl.s a)) (runesS (Vl.s b)))) [])<|.ret (Fr (Vi (cmpR (runesS (Vl.s a)) (runesS (Vl.s b)))) []))
  (.ret (Fr (Vi (0:Int)) [])))))) (by kernel_rfl) ?_
 exact ⟨fun h0=>have h0p:¬Vl.k a=Vl.k b:=(by simpa using h0);⟨⟨tv,cb (h0),tv⟩,(Sp.fact (cmpK_sp _ _)),by show _=_;(unfold cmpV;grind)⟩,
  fun h0=>have h0p:Vl.k a=Vl.k b:=(by simpa using h0);⟨fun h1=>have h1p:Vl.k a=(1:Int):=(by simpa using h1);⟨⟨tv,cb (h0),cb (by simp<;>omega),tv⟩,(h1),(h1),(h1),(h1),by simp<;>omega,fun h2=>have h2p:¬Vl.b a=Vl.b b:=(by simpa using h2);⟨⟨tv,cb (h2),cb (by simp<;>omega),tv⟩,fun h3=>⟨⟨tv,cb (h3),cb (h2),tv⟩,by show _=_;(unfold cmpV;grind)⟩,
  fun h3=>by show _=_;(unfold cmpV;grind)⟩,
  fun h2=>have h2p:Vl.b a=Vl.b b:=(by simpa using h2);⟨⟨tv,cb (by simp<;>omega),tv⟩,⟨tv,cb (by simp<;>omega),tv⟩,by show _=_;(unfold cmpV;grind)⟩⟩,
  fun h1=>have h1p:¬Vl.k a=(1:Int):=(by simpa using h1);⟨(h1),(h1),(h1),(h1),by simp<;>omega,fun h2=>have h2p:Vl.k a=(2:Int):=(by simpa using h2);⟨⟨tv,cb (h0),tv⟩,(Sp.fact (cmpL_sp _ _)),by show _=_;(unfold cmpV;grind)⟩,
  fun h2=>have h2p:¬Vl.k a=(2:Int):=(by simpa using h2);⟨fun h3=>have h3p:Vl.k a=(3:Int):=(by simpa using h3);⟨⟨tv,cb (h0),cb (by simp<;>omega),cb (h2),cb (h3),tv⟩,(Sp.fact (ht)),by show _=_;(unfold cmpV;grind)⟩,
  fun h3=>have h3p:¬Vl.k a=(3:Int):=(by simpa using h3);by show _=_;(unfold cmpV;grind)⟩⟩⟩⟩
def rFrom (s:ByteArray) (p:Nat):List Int:=runesL (s.data.toList.drop p)
theorem rFrom_end (s:ByteArray) (p:Nat) (h:s.size≤p):rFrom s p=[]:=by
 unfold rFrom
 rw [List.drop_eq_nil_of_le (by rw [←Lib.size_eq];exact h)]
 rfl
theorem rFrom_step (s:ByteArray) (p:Nat) (h:p<s.size):rFrom s p=((Utf8.decode s p).1:Int)::rFrom s (p+(Utf8.decode s p).2):=by
 unfold rFrom
 rw [runesL_step _ (by intro e;have:=congrArg List.length e;rw [List.length_drop,←Lib.size_eq] at this;simp at this;omega),Lib.decodeL_drop,List.drop_drop]
abbrev KM:List (Nat×Fm):=keeps [3,5]
abbrev SM (s:ByteArray) (p:Nat) (n:Nat):St:=mkSt 11 [(3,.int .i64 (n:Int)),(5,.ptr 0 0)] [.iter s p]
theorem vrunesl (s:ByteArray) (hs:s.size≤2 ^ 40):∀ k p n,s.size≤p+k→n≤p→LoopK C1 136 24 KM (SM s p n) (.exit 0) (mkSt 11 [(3,.int .i64 ((n+(rFrom s p).length:Nat):Int))] [])
 | 0,p,n,h,ho=>by
  rw [rFrom_end s p (by omega)]
  refine loop_tree draws (rd:=true) (kn:=KM) (ke:=(keeps [3])) (
   .ff 6 (decide (p<ByteArray.size s))<|.to 24001 ([.cut 0])<|.ret ((Ex.exit 0,mkSt 11 [(3,Vi (↑n:Int))] []))) (by kernel_rfl) ?_
  exact ⟨by (simp<;>omega),rfl,rfl⟩
 | k+1,p,n,h,ho=>by
  by_cases hp:p<s.size
  ·have hw:=decode_width s p
   have ih:=vrunesl s hs k (p+(Utf8.decode s p).2) (n+1) (by omega) (by omega)
   rw [rFrom_step s p hp]
   rw [show n+1+(rFrom s (p+(Utf8.decode s p).2)).length=n+(((Utf8.decode s p).1:Int)::rFrom s (p+(Utf8.decode s p).2)).length by simp;omega] at ih
   refine loop_tree draws (rd:=true) (kn:=KM) (ke:=(keeps [3])) (
    .tt 6 (decide (p<ByteArray.size s))<|.rw 8009 [] [(9,Vi (IntKind.wrap IntKind.i64 ((↑n:Int)+(1:Int))),Vi (↑(n+1):Int))]<|.ret (.normal,SM s (p+Prod.snd (Utf8.decode s p)) (n+1))) (by kernel_rfl) ?_
   exact ⟨by simp<;>omega,⟨tv,by simp (disch:=omega) only [cast_succ,wrap_i64],tv⟩,(ih)⟩
  ·rw [rFrom_end s p (by omega)]
   refine loop_tree draws (rd:=true) (kn:=KM) (ke:=(keeps [3])) (
    .ff 6 (decide (p<ByteArray.size s))<|.to 24001 ([.cut 0])<|.ret ((Ex.exit 0,mkSt 11 [(3,Vi (↑n:Int))] []))) (by kernel_rfl) ?_
   exact ⟨by (simp<;>omega),rfl,rfl⟩
theorem vrunes_sp (s:ByteArray) (h:s.size≤2 ^ 40):Sp C1 136 [.str s] (.int .i64 ((runesS s).length:Int)):=by
 have hl:=vrunesl s h s.size 0 0 (by omega) (by omega)
 rw [show 0+(rFrom s 0).length=(runesS s).length by rw [Nat.zero_add];rfl] at hl
 refine sp_tree draws (dm:=[]) (fs:=[]) (
  .loop 24 false (KM) (SM s 0 0) (Ex.exit 0) (mkSt 11 [(3,Vi (↑(List.length (runesS s)):Int))] [])<|.ret (Fr (Vi (↑(List.length (runesS s)):Int)) [])) (by kernel_rfl) ?_
 exact ⟨(LoopR.weak (hl)),rfl⟩
theorem runes_len:∀ (n:Nat) (l:List UInt8),(rn n l).length≤l.length
 | 0,l=>by simp [rn]
 | n+1,l=>by
  unfold rn
  split
  ·simp
  ·rename_i hne
   have hw:=Lib.decodeL_width l
   have:=runes_len n (l.drop (Lib.decodeL l).2)
   have hl:0<l.length:=List.length_pos_iff.2 hne
   rw [List.length_drop] at this
   simp only [List.length_cons]
   omega
theorem runesS_len (s:ByteArray):(runesS s).length≤s.size:=by
 rw [Lib.size_eq];exact runes_len _ _
end Go.Fw
set_option maxHeartbeats 20000000
set_option maxRecDepth 100000
namespace Go.Proofs
open Go.RowKit Go.Shelf Go.Lib
def Tryz.laysMul_ren:Go.Shelf.Ren:=⟨fun | 264=>233 | n=>n,fun | 53=>216 | 46=>154 | n=>n,fun | n=>n⟩
theorem Tryz.laysMul:Go.Proofs.Lays.n264 Tryz.prog Tryz.laysMul_ren:={
 mixed:=by kernel_rfl
 f264:=Tryz.func233.trans (congrArg some (by kernel_rfl))
 t46:=Tryz.underlying154
 a46:=Tryz.isAgg154
 z46:=Tryz.sizeOf154
 v46:=Tryz.zeroValue154
 t53:=Tryz.underlying216
 a53:=Tryz.isAgg216
 z53:=Tryz.sizeOf216
 v53:=Tryz.zeroValue216}
end Go.Proofs
namespace Go.Fw
open Go.Proofs Go.RowKit
theorem argsI_two {m:Mem} {k k':IntKind} {x y:Int} {us:Array Value} (h:ArgsI m [.int k x,.int k' y] us):us=#[.int k x,.int k' y]:=by
 obtain ⟨h1,h2⟩:=h
 obtain ⟨l⟩:=us
 match l,h1,h2 with
 | [u,v],_,h2 =>
  have a:=h2 0 (.int k x) (by simp) rfl
  have b:=h2 1 (.int k' y) (by simp) rfl
  cases a
  cases b
  rfl
theorem mul64_sp (x y:Nat) (hx:x<18446744073709551616) (hy:y<18446744073709551616):Sp C1 233 [.int .u64 (x:Int),.int .u64 (y:Int)] (.tup [.int .u64 ((x*y / 18446744073709551616:Nat):Int),.int .u64 ((x*y % 18446744073709551616:Nat):Int)]):=by
 refine Sp.ofCallsT (hasBody (by kernel_rfl)) (small rfl) (by kernel_rfl) rfl (fun us w m hm ha=>?_)
 rw [argsI_two ha]
 refine (Any.bits_Mul64 Tryz.laysMul x y hx hy w).mono (fun e w' he=>?_)
 obtain ⟨rfl,rfl⟩:=he
 refine ⟨_,rfl,⟨rfl,fun j c hj hc=>?_⟩,Below.refl _ _⟩
 match j,hj with
 | 0,_=>cases hc;exact .int _ _
 | 1,_=>cases hc;exact .int _ _
theorem size_sp (n:Int) (h:I64 n):Sp C1 234 [.int .i64 n] (.int .u64 (n.natAbs:Int)):=by
 obtain ⟨h1,h2⟩:=h
 by_cases hn:n<0
 ·refine sp_tree draws (dm:=[]) (fs:=[]) (
   .rw 8004 [] [(4,Vb (decide (n<(0:Int))),Vb true)]<|.ret (Fr (V.int .u64 (IntKind.wrap IntKind.u64 ((0:Int)-IntKind.wrap IntKind.u64 n))) [])) (by kernel_rfl) ?_
  exact ⟨⟨tv,cb (by simp<;>omega),tv⟩,by show _=_;(rw [IntKind.wrap_u64,IntKind.wrap_u64];congr 2;omega)⟩
 ·refine sp_tree draws (dm:=[]) (fs:=[]) (
   .rw 8004 [] [(4,Vb (decide (n<(0:Int))),Vb false)]<|.rw 8009 [] [(9,V.int .u64 (IntKind.wrap IntKind.u64 n),V.int .u64 n)]<|.ret (Fr (V.int .u64 n) [])) (by kernel_rfl) ?_
  exact ⟨⟨tv,cb (by simp<;>omega),tv⟩,⟨tv,by simp (disch:=omega) only [wrap_u64],tv⟩,by show _=_;(congr 2;omega)⟩
theorem mul_sp (a b:Int) (ha:I64 a) (hb:I64 b):Sp C1 190 [.int .i64 a,.int .i64 b] (.tup [.int .i64 (ovN (a*b)),.int .i64 (ovE (a*b))]):=by
 have s1:=size_sp a ha
 have s2:=size_sp b hb
 obtain ⟨a1,a2⟩:=ha
 obtain ⟨b1,b2⟩:=hb
 have hm:=mul64_sp a.natAbs b.natAbs (by omega) (by omega)
 have hP:a.natAbs*b.natAbs=(a*b).natAbs:=(Int.natAbs_mul a b).symm
 obtain ⟨M,hM⟩:∃ M,a*b=M:=⟨_,rfl⟩
 rw [hP] at hm
 rw [hM] at hm ⊢
 unfold ovN ovE
 have hs1:a<0→b<0→0<M:=fun h1 h2=>by rw [←hM];exact Int.mul_pos_of_neg_of_neg h1 h2
 have hs2:0≤a→0≤b→0≤M:=fun h1 h2=>by rw [←hM];exact Int.mul_nonneg h1 h2
 have hs3:a<0→0≤b→M≤0:=fun h1 h2=>by rw [←hM];exact Int.mul_nonpos_of_nonpos_of_nonneg (by omega) h2
 have hs4:0≤a→b<0→M≤0:=fun h1 h2=>by rw [←hM];exact Int.mul_nonpos_of_nonneg_of_nonpos h1 (by omega)
 refine sp_tree draws (dm:=[]) (fs:=[]) (
  .call 11 (234) ([Vi a]) ([]) (Fr (V.int .u64 (↑(Int.natAbs a):Int)) [])<|.call 13 (234) ([Vi b]) ([]) (Fr (V.int .u64 (↑(Int.natAbs b):Int)) [])<|.call 14 (233) ([V.int .u64 (↑(Int.natAbs a):Int),V.int .u64 (↑(Int.natAbs b):Int)]) ([]) (Fr (V.tup [V.int .u64 (↑(Int.natAbs M / 18446744073709551616):Int),V.int .u64 (↑(Int.natAbs M % 18446744073709551616):Int)]) [])<|.ite 1025 (decide ((↑(Int.natAbs M / 18446744073709551616):Int)>(0:Int))==false)
  (.rw 8025 [] [(23,Vb (decide ((↑(Int.natAbs M / 18446744073709551616):Int)>(0:Int))),Vb false)]<|.tt 1026 (decide ((↑(Int.natAbs M / 18446744073709551616):Int)>(0:Int))==false)<|.ff 27 (decide ((↑(Int.natAbs M / 18446744073709551616):Int)>(0:Int)))<|.ite 1029 (decide ((↑(Int.natAbs M % 18446744073709551616):Int)>(9223372036854775808:Int))==false)
  (.rw 8029 [] [(24,Vb (decide ((↑(Int.natAbs M / 18446744073709551616):Int)>(0:Int))),Vb false),(26,Vb (decide ((↑(Int.natAbs M % 18446744073709551616):Int)>(9223372036854775808:Int))),Vb false)]<|.tt 1030 (decide ((↑(Int.natAbs M % 18446744073709551616):Int)>(9223372036854775808:Int))==false)<|.tt 1031 (decide ((↑(Int.natAbs M % 18446744073709551616):Int)>(9223372036854775808:Int))==false)<|.ite 1032 (((↑(Int.natAbs M % 18446744073709551616):Int)==(9223372036854775808:Int))==true)
  (.rw 8032 [] [(27,Vb (decide ((↑(Int.natAbs M % 18446744073709551616):Int)>(9223372036854775808:Int))),Vb false),(30,Vb ((↑(Int.natAbs M % 18446744073709551616):Int)==(9223372036854775808:Int)),Vb true)]<|.tt 1033 (((↑(Int.natAbs M % 18446744073709551616):Int)==(9223372036854775808:Int))==true)<|.tt 1034 (decide ((↑(Int.natAbs M % 18446744073709551616):Int)>(9223372036854775808:Int))==false)<|.tt 34 ((↑(Int.natAbs M % 18446744073709551616):Int)==(9223372036854775808:Int))<|.ff 35 (decide ((↑(Int.natAbs M % 18446744073709551616):Int)>(9223372036854775808:Int)))<|.ite 2035 (!!decide (a<(0:Int))==decide (b<(0:Int)))
  (.rw 8004 [] [(8,Vb !decide (a<(0:Int))==decide (b<(0:Int)),Vb false),(28,Vb (decide ((↑(Int.natAbs M % 18446744073709551616):Int)>(9223372036854775808:Int))),Vb false),(31,Vb ((↑(Int.natAbs M % 18446744073709551616):Int)==(9223372036854775808:Int)),Vb true),(33,Vb !!decide (a<(0:Int))==decide (b<(0:Int)),Vb true)]<|.ret (Fr (V.tup [Vi (0:Int),Vi (16:Int)]) []))
  (.rw 8038 [] [(38,Vi (IntKind.wrap IntKind.i64 (a*b)),Vi (a*b))]<|.ret (Fr (V.tup [Vi (a*b),Vi (0:Int)]) [])))
  (.ff 1033 (((↑(Int.natAbs M % 18446744073709551616):Int)==(9223372036854775808:Int))==true)<|.tt 1034 (decide ((↑(Int.natAbs M % 18446744073709551616):Int)>(9223372036854775808:Int))==false)<|.ff 34 ((↑(Int.natAbs M % 18446744073709551616):Int)==(9223372036854775808:Int))<|.ff 35 (decide ((↑(Int.natAbs M % 18446744073709551616):Int)>(9223372036854775808:Int)))<|.rw 8038 [] [(38,Vi (IntKind.wrap IntKind.i64 (a*b)),Vi (a*b))]<|.ret (Fr (V.tup [Vi (a*b),Vi (0:Int)]) [])))
  (.ff 1030 (decide ((↑(Int.natAbs M % 18446744073709551616):Int)>(9223372036854775808:Int))==false)<|.ff 1031 (decide ((↑(Int.natAbs M % 18446744073709551616):Int)>(9223372036854775808:Int))==false)<|.ff 1034 (decide ((↑(Int.natAbs M % 18446744073709551616):Int)>(9223372036854775808:Int))==false)<|.tt 35 (decide ((↑(Int.natAbs M % 18446744073709551616):Int)>(9223372036854775808:Int)))<|.ret (Fr (V.tup [Vi (0:Int),Vi (16:Int)]) [])))
  (.ff 1026 (decide ((↑(Int.natAbs M / 18446744073709551616):Int)>(0:Int))==false)<|.tt 27 (decide ((↑(Int.natAbs M / 18446744073709551616):Int)>(0:Int)))<|.ret (Fr (V.tup [Vi (0:Int),Vi (16:Int)]) []))) (by kernel_rfl) ?_
 exact ⟨(Sp.fact (s1)),(Sp.fact (s2)),(Sp.fact (hm)),fun h0=>have h0p:(↑(Int.natAbs M):Int) / (18446744073709551616:Int)≤(0:Int):=(by simpa using h0);⟨⟨tv,cb (by simp<;>omega),tv⟩,(h0),by simp<;>omega,fun h1=>have h1p:(↑(Int.natAbs M):Int) % (18446744073709551616:Int)≤(9223372036854775808:Int):=(by simpa using h1);⟨⟨tv,cb (by simp<;>omega),cb (by simp<;>omega),tv⟩,(h1),(h1),fun h2=>have h2p:(↑(Int.natAbs M):Int) % (18446744073709551616:Int)=(9223372036854775808:Int):=(by simpa using h2);⟨⟨tv,cb (by simp<;>omega),cb (by simp<;>omega),tv⟩,(h2),(h1),by simp<;>omega,by simp<;>omega,fun h3=>have h3p:a<(0:Int)↔b<(0:Int):=(by simpa using h3);⟨⟨tv,cb (by simp<;>omega),cb (by simp<;>omega),cb (by simp<;>omega),cb (h3),tv⟩,by show _=_;(first | (rw [if_pos (by omega),if_pos (by omega)]) | (rw [hM];grind))⟩,
  fun h3=>have h3p:¬(a<(0:Int)↔b<(0:Int)):=(by simpa using h3);⟨⟨tv,by simp (disch:=omega) only [wrap_i64],tv⟩,by show _=_;(first | (rw [if_pos (by omega),if_pos (by omega)]) | (rw [hM];grind))⟩⟩,
  fun h2=>have h2p:¬(↑(Int.natAbs M):Int) % (18446744073709551616:Int)=(9223372036854775808:Int):=(by simpa using h2);⟨(h2),(h1),by simp<;>omega,by simp<;>omega,⟨tv,by simp (disch:=omega) only [wrap_i64],tv⟩,by show _=_;(first | (rw [if_pos (by omega),if_pos (by omega)]) | (rw [hM];grind))⟩⟩,
  fun h1=>have h1p:(9223372036854775808:Int)<(↑(Int.natAbs M):Int) % (18446744073709551616:Int):=(by simpa using h1);⟨(h1),(h1),(h1),by simp<;>omega,by show _=_;(first | (rw [if_pos (by omega),if_pos (by omega)]) | (rw [hM];grind))⟩⟩,
  fun h0=>have h0p:(0:Int)<(↑(Int.natAbs M):Int) / (18446744073709551616:Int):=(by simpa using h0);⟨(h0),by simp<;>omega,by show _=_;(first | (rw [if_pos (by omega),if_pos (by omega)]) | (rw [hM];grind))⟩⟩
end Go.Fw
set_option maxHeartbeats 20000000
namespace Go.Fw
open Go.Proofs
def nV (x:Int):Vl:=if x < -9223372036854775808∨9223372036854775807<x then vNull else vInt x
theorem num_sp (x:Int):Sp C1 125 [.int .i64 (ovN x),.int .i64 (ovE x)] (eV (nV x)):=by
 unfold ovN ovE nV
 by_cases h:x < -9223372036854775808∨9223372036854775807<x
 ·rw [if_pos h,if_pos h,if_pos h]
  refine sp_tree draws (dm:=[]) (fs:=[]) (
   .ret (Fr (V.agg [Vu (0:Int),Vb false,Vi (0:Int),V.str (ByteArray.mk #[])]) [])) (by kernel_rfl) ?_
  exact rfl
 ·rw [if_neg h,if_neg h,if_neg h]
  refine sp_tree draws (dm:=[]) (fs:=[]) (
   .ret (Fr (V.agg [Vu (2:Int),Vb false,Vi x,V.str (ByteArray.mk #[])]) [])) (by kernel_rfl) ?_
  exact rfl
theorem numI_sp (x:Int):Sp C1 125 [.int .i64 x,.int .i64 0] (eV (vInt x)):=by
 refine sp_tree draws (dm:=[]) (fs:=[]) (
  .ret (Fr (V.agg [Vu (2:Int),Vb false,Vi x,V.str (ByteArray.mk #[])]) [])) (by kernel_rfl) ?_
 exact rfl
def isB (v:Vl) (b:Bool):Prop:=v.k=1∧v.b=b∧v.n=0∧v.s.toList=[]
instance (v:Vl) (b:Bool):Decidable (isB v b):=by unfold isB;infer_instance
def logV (by_:Bool) (a b:Vl):Vl:=if isB a by_∨isB b by_ then vBool by_ else if a.k=0∨b.k=0 then vNull else vBool (!by_)
def Fv (v:Vl):Prop:=FineV v∧I64 v.n∧v.s.size≤2 ^ 40
abbrev eVs (l:List Vl):V:=.imm false 4 (l.map eV)
def cmpK (k c:Int):Bool:=if k=14 then decide (c=0) else if k=15 then decide (c≠0) else if k=16 then decide (c<0) else if k=17 then decide (c<1) else if k=18 then decide (0<c) else decide (-1<c)
def op1 (k:Int) (x:Vl):Vl:=if k=7 then nV (0-x.n) else if k=8 then vBool (!x.b) else vInt ((runesS x.s).length:Int)
def op2 (k:Int) (x y:Vl):Vl:=if k=11 then nV (x.n+y.n) else if k=12 then nV (x.n-y.n) else if k=13 then nV (x.n*y.n) else vBool (cmpK k (cmpV x y))
theorem cmpI_range (a b:Int):-1≤cmpI a b∧cmpI a b≤1:=by unfold cmpI;grind
theorem cmpR_range:∀ (xs ys:List Int),-1≤cmpR xs ys∧cmpR xs ys≤1
 | [],[]=>by decide
 | [],_::_=>by simp [cmpR]
 | _::_,[]=>by simp [cmpR]
 | x::xs,y::ys=>by
  have:=cmpR_range xs ys
  rw [cmpR]
  grind
theorem cmpV_range (a b:Vl):-1≤cmpV a b∧cmpV a b≤1:=by
 have h1:=cmpI_range a.k b.k
 have h2:=cmpI_range a.n b.n
 have h3:=cmpR_range (runesS a.s) (runesS b.s)
 unfold cmpV
 grind
theorem i64_0:I64 0:=by unfold I64;omega
end Go.Fw
set_option maxHeartbeats 20000000
namespace Go.Fw
open Go.Proofs
def step0 (s:Stp):Vl:=if s.k=1 then vNull else if s.k=2∨s.k=3 then vBool (decide (s.k=2)) else if s.k=4 then vInt s.n else vText s.t
def step1 (s:Stp) (x:Vl):Vl:=if s.k=9 then vBool (decide (x.k=0)) else if x.k=0 then vNull else op1 s.k x
def step2 (s:Stp) (x y:Vl):Vl:=if s.k=20∨s.k=21 then logV (decide (s.k=21)) x y else if x.k=0∨y.k=0 then vNull else op2 s.k x y
end Go.Fw
set_option maxHeartbeats 20000000
namespace Go.Fw
open Go.Proofs
def mayB (k w:Int):Bool:=decide (k=w∨k=0)
theorem may_sp (k w:Int):Sp C1 99 [.int .u8 k,.int .u8 w] (.bool (mayB k w)):=by
 refine sp_tree draws (dm:=[]) (fs:=[]) (
  .ite 1009 ((k==w)==false)
  (.rw 8009 [] [(7,Vb (k==w),Vb false)]<|.tt 1010 ((k==w)==false)<|.ff 11 (k==w)<|.ret (Fr (Vb (k==(0:Int))) []))
  (.ff 1010 ((k==w)==false)<|.tt 11 (k==w)<|.ret (Fr (Vb true) []))) (by kernel_rfl) ?_
 exact ⟨fun h0=>have h0p:¬k=w:=(by simpa using h0);⟨⟨tv,cb (by simp<;>omega),tv⟩,(h0),by simp<;>omega,by show _=_;(unfold mayB;grind)⟩,
  fun h0=>have h0p:k=w:=(by simpa using h0);⟨(h0),by simp<;>omega,by show _=_;(unfold mayB;grind)⟩⟩
abbrev eKs (l:List Int):V:=.imm false 1 (l.map (V.int .u8))
def kind0 (k:Int):Int:=if k=1 then 0 else if k≤3 then 1 else if k=4 then 2 else 3
def kind1 (k:Int):Int:=if k=8∨k=9 then 1 else 2
def kind1ok (k x:Int):Bool:=if k=9 then true else if k=7 then mayB x 2 else if k=8 then mayB x 1 else mayB x 3
def kind2 (k:Int):Int:=if k≤13 then 2 else 1
def kind2ok (k x y:Int):Bool:=if k≤13 then mayB x 2&&mayB y 2 else if k≤19 then mayB x y||mayB y x else mayB x 1&&mayB y 1
theorem kind20_sp (k:Int) (l:List Int) (h1:1≤k) (h2:k≤5):Sp C1 67 [.int .u8 k,eKs l] (.tup [.int .u8 (kind0 k),.bool true]):=by
 refine sp_tree draws (dm:=[]) (fs:=[]) (
  .ite 2006 (k==(1:Int))
  (.rw 8004 [] [(6,Vb (k==(1:Int)),Vb true)]<|.ret (Fr (V.tup [Vu (0:Int),Vb true]) []))
  (.ite 1013 ((k==(2:Int))==false)
  (.rw 8013 [] [(6,Vb (k==(1:Int)),Vb false),(11,Vb (k==(2:Int)),Vb false)]<|.tt 1014 ((k==(2:Int))==false)<|.ff 15 (k==(2:Int))<|.ite 1017 ((k==(3:Int))==false)
  (.rw 8017 [] [(8,Vb (k==(1:Int)),Vb false),(12,Vb (k==(2:Int)),Vb false),(14,Vb (k==(3:Int)),Vb false)]<|.tt 1018 ((k==(3:Int))==false)<|.rw 8018 [] [(18,Vb (k==(9:Int)),Vb false)]<|.ff 19 (k==(3:Int))<|.ite 2020 (k==(4:Int))
  (.rw 8004 [] [(15,Vb (k==(3:Int)),Vb false),(20,Vb (k==(4:Int)),Vb true)]<|.ret (Fr (V.tup [Vu (2:Int),Vb true]) []))
  (.rw 8025 [] [(25,Vb (k==(5:Int)),Vb true)]<|.ret (Fr (V.tup [Vu (3:Int),Vb true]) [])))
  (.ff 1018 ((k==(3:Int))==false)<|.tt 19 (k==(3:Int))<|.ret (Fr (V.tup [Vu (1:Int),Vb true]) [])))
  (.ff 1014 ((k==(2:Int))==false)<|.tt 15 (k==(2:Int))<|.ret (Fr (V.tup [Vu (1:Int),Vb true]) [])))) (by kernel_rfl) ?_
 exact ⟨fun h0=>have h0p:k=(1:Int):=(by simpa using h0);⟨⟨tv,cb (h0),tv⟩,by show _=_;(unfold kind0;grind)⟩,
  fun h0=>have h0p:¬k=(1:Int):=(by simpa using h0);⟨fun h1=>have h1p:¬k=(2:Int):=(by simpa using h1);⟨⟨tv,cb (h0),cb (by simp<;>omega),tv⟩,(h1),by simp<;>omega,fun h2=>have h2p:¬k=(3:Int):=(by simpa using h2);⟨⟨tv,cb (h0),cb (by simp<;>omega),cb (by simp<;>omega),tv⟩,(h2),⟨tv,cb (by simp<;>omega),tv⟩,by simp<;>omega,fun h3=>have h3p:k=(4:Int):=(by simpa using h3);⟨⟨tv,cb (by simp<;>omega),cb (h3),tv⟩,by show _=_;(unfold kind0;grind)⟩,
  fun h3=>have h3p:¬k=(4:Int):=(by simpa using h3);⟨⟨tv,cb (by simp<;>omega),tv⟩,by show _=_;(unfold kind0;grind)⟩⟩,
  fun h2=>have h2p:k=(3:Int):=(by simpa using h2);⟨(h2),by simp<;>omega,by show _=_;(unfold kind0;grind)⟩⟩,
  fun h1=>have h1p:k=(2:Int):=(by simpa using h1);⟨(h1),by simp<;>omega,by show _=_;(unfold kind0;grind)⟩⟩⟩
theorem kind21_sp (k x:Int) (h1:7≤k) (h2:k≤10):Sp C1 67 [.int .u8 k,eKs [x]] (.tup [.int .u8 (kind1 k),.bool (kind1ok k x)]):=by
 have h3:k=7∨k=8∨k=9∨k=10:=by omega
 rcases h3 with rfl | rfl | rfl | rfl
 ·refine sp_tree draws (dm:=[]) (fs:=[]) (
   .call 32 (99) ([Vu x,Vu (2:Int)]) ([]) (Fr (Vb (mayB x (2:Int))) [])<|.ret (Fr (V.tup [Vu (2:Int),Vb (mayB x (2:Int))]) [])) (by kernel_rfl) ?_
  exact ⟨(Sp.fact (may_sp _ _)),rfl⟩
 ·refine sp_tree draws (dm:=[]) (fs:=[]) (
   .call 39 (99) ([Vu x,Vu (1:Int)]) ([]) (Fr (Vb (mayB x (1:Int))) [])<|.ret (Fr (V.tup [Vu (1:Int),Vb (mayB x (1:Int))]) [])) (by kernel_rfl) ?_
  exact ⟨(Sp.fact (may_sp _ _)),rfl⟩
 ·refine sp_tree draws (dm:=[]) (fs:=[]) (
   .ret (Fr (V.tup [Vu (1:Int),Vb true]) [])) (by kernel_rfl) ?_
  exact rfl
 ·refine sp_tree draws (dm:=[]) (fs:=[]) (
   .call 46 (99) ([Vu x,Vu (3:Int)]) ([]) (Fr (Vb (mayB x (3:Int))) [])<|.ret (Fr (V.tup [Vu (2:Int),Vb (mayB x (3:Int))]) [])) (by kernel_rfl) ?_
  exact ⟨(Sp.fact (may_sp _ _)),rfl⟩
theorem kind22_sp (k x y:Int) (h1:11≤k) (h2:k≤21):Sp C1 67 [.int .u8 k,eKs [x,y]] (.tup [.int .u8 (kind2 k),.bool (kind2ok k x y)]):=by
 have m1:=may_sp x 2
 have m2:=may_sp y 2
 have m3:=may_sp x y
 have m4:=may_sp y x
 have m5:=may_sp x 1
 have m6:=may_sp y 1
 by_cases h3:k≤13
 ·refine sp_tree draws (dm:=[]) (fs:=[]) (
   .rw 8008 [] [(8,Vb (k==(1:Int)),Vb false)]<|.rw 8011 [] [(11,Vb (k==(2:Int)),Vb false)]<|.rw 8014 [] [(14,Vb (k==(3:Int)),Vb false)]<|.rw 8018 [] [(18,Vb (k==(9:Int)),Vb false)]<|.rw 8022 [] [(22,Vb (k==(4:Int)),Vb false)]<|.rw 8025 [] [(25,Vb (k==(5:Int)),Vb false)]<|.rw 8028 [] [(28,Vb (k==(7:Int)),Vb false)]<|.rw 8035 [] [(35,Vb (k==(8:Int)),Vb false)]<|.rw 8042 [] [(42,Vb (k==(10:Int)),Vb false)]<|.rw 8049 [] [(49,Vb (decide (k≤(13:Int))),Vb true)]<|.call 53 (99) ([Vu x,Vu (2:Int)]) ([]) (Fr (Vb (mayB x (2:Int))) [])<|.ite 1055 (mayB x (2:Int)==true)
   (.rw 8055 [] [(53,Vb (mayB x (2:Int)),Vb true)]<|.tt 1056 (mayB x (2:Int)==true)<|.tt 1057 (mayB x (2:Int)==true)<|.tt 1058 (mayB x (2:Int)==true)<|.call 58 (99) ([Vu y,Vu (2:Int)]) ([]) (Fr (Vb (mayB y (2:Int))) [])<|.tt 59 (mayB x (2:Int))<|.ret (Fr (V.tup [Vu (2:Int),Vb (mayB y (2:Int))]) []))
   (.ff 1056 (mayB x (2:Int)==true)<|.ff 1057 (mayB x (2:Int)==true)<|.ff 1058 (mayB x (2:Int)==true)<|.ff 59 (mayB x (2:Int))<|.ret (Fr (V.tup [Vu (2:Int),Vb false]) []))) (by kernel_rfl) ?_
  exact ⟨⟨tv,cb (by simp<;>omega),tv⟩,⟨tv,cb (by simp<;>omega),tv⟩,⟨tv,cb (by simp<;>omega),tv⟩,⟨tv,cb (by simp<;>omega),tv⟩,⟨tv,cb (by simp<;>omega),tv⟩,⟨tv,cb (by simp<;>omega),tv⟩,⟨tv,cb (by simp<;>omega),tv⟩,⟨tv,cb (by simp<;>omega),tv⟩,⟨tv,cb (by simp<;>omega),tv⟩,⟨tv,cb (by simp<;>omega),tv⟩,(Sp.fact (m1)),fun h0=>have h0p:mayB x (2:Int)=true:=(by simpa using h0);⟨⟨tv,cb (h0p),tv⟩,(h0),(h0),(h0),(Sp.fact (m2)),(h0p),by show _=_;(unfold kind2 kind2ok;grind)⟩,
   fun h0=>have h0p:mayB x (2:Int)=false:=(by simpa using h0);⟨(h0),(h0),(h0),(h0p),by show _=_;(unfold kind2 kind2ok;grind)⟩⟩
 by_cases h4:k≤19
 ·refine sp_tree draws (dm:=[]) (fs:=[]) (
   .rw 8008 [] [(8,Vb (k==(1:Int)),Vb false)]<|.rw 8011 [] [(11,Vb (k==(2:Int)),Vb false)]<|.rw 8014 [] [(14,Vb (k==(3:Int)),Vb false)]<|.rw 8018 [] [(18,Vb (k==(9:Int)),Vb false)]<|.rw 8022 [] [(22,Vb (k==(4:Int)),Vb false)]<|.rw 8025 [] [(25,Vb (k==(5:Int)),Vb false)]<|.rw 8028 [] [(28,Vb (k==(7:Int)),Vb false)]<|.rw 8035 [] [(35,Vb (k==(8:Int)),Vb false)]<|.rw 8042 [] [(42,Vb (k==(10:Int)),Vb false)]<|.rw 8049 [] [(49,Vb (decide (k≤(13:Int))),Vb false)]<|.rw 8062 [] [(62,Vb (decide (k≤(19:Int))),Vb true)]<|.call 69 (99) ([Vu x,Vu y]) ([]) (Fr (Vb (mayB x y)) [])<|.ite 1071 (mayB x y==false)
   (.rw 8071 [] [(69,Vb (mayB x y),Vb false)]<|.tt 1072 (mayB x y==false)<|.tt 1073 (mayB x y==false)<|.tt 1074 (mayB x y==false)<|.tt 1075 (mayB x y==false)<|.tt 1076 (mayB x y==false)<|.tt 1077 (mayB x y==false)<|.call 77 (99) ([Vu y,Vu x]) ([]) (Fr (Vb (mayB y x)) [])<|.ff 78 (mayB x y)<|.ret (Fr (V.tup [Vu (1:Int),Vb (mayB y x)]) []))
   (.ff 1072 (mayB x y==false)<|.ff 1073 (mayB x y==false)<|.ff 1074 (mayB x y==false)<|.ff 1075 (mayB x y==false)<|.ff 1076 (mayB x y==false)<|.ff 1077 (mayB x y==false)<|.tt 78 (mayB x y)<|.ret (Fr (V.tup [Vu (1:Int),Vb true]) []))) (by kernel_rfl) ?_
  exact ⟨⟨tv,cb (by simp<;>omega),tv⟩,⟨tv,cb (by simp<;>omega),tv⟩,⟨tv,cb (by simp<;>omega),tv⟩,⟨tv,cb (by simp<;>omega),tv⟩,⟨tv,cb (by simp<;>omega),tv⟩,⟨tv,cb (by simp<;>omega),tv⟩,⟨tv,cb (by simp<;>omega),tv⟩,⟨tv,cb (by simp<;>omega),tv⟩,⟨tv,cb (by simp<;>omega),tv⟩,⟨tv,cb (by simp<;>omega),tv⟩,⟨tv,cb (by simp<;>omega),tv⟩,(Sp.fact (m3)),fun h0=>have h0p:mayB x y=false:=(by simpa using h0);⟨⟨tv,cb (h0p),tv⟩,(h0),(h0),(h0),(h0),(h0),(h0),(Sp.fact (m4)),(h0p),by show _=_;(unfold kind2 kind2ok;grind)⟩,
   fun h0=>have h0p:mayB x y=true:=(by simpa using h0);⟨(h0),(h0),(h0),(h0),(h0),(h0),(h0p),by show _=_;(unfold kind2 kind2ok;grind)⟩⟩
 ·refine sp_tree draws (dm:=[]) (fs:=[]) (
   .rw 8008 [] [(8,Vb (k==(1:Int)),Vb false)]<|.rw 8011 [] [(11,Vb (k==(2:Int)),Vb false)]<|.rw 8014 [] [(14,Vb (k==(3:Int)),Vb false)]<|.rw 8018 [] [(18,Vb (k==(9:Int)),Vb false)]<|.rw 8022 [] [(22,Vb (k==(4:Int)),Vb false)]<|.rw 8025 [] [(25,Vb (k==(5:Int)),Vb false)]<|.rw 8028 [] [(28,Vb (k==(7:Int)),Vb false)]<|.rw 8035 [] [(35,Vb (k==(8:Int)),Vb false)]<|.rw 8042 [] [(42,Vb (k==(10:Int)),Vb false)]<|.rw 8049 [] [(49,Vb (decide (k≤(13:Int))),Vb false)]<|.rw 8062 [] [(62,Vb (decide (k≤(19:Int))),Vb false)]<|.call 82 (99) ([Vu x,Vu (1:Int)]) ([]) (Fr (Vb (mayB x (1:Int))) [])<|.ite 1084 (mayB x (1:Int)==true)
   (.rw 8084 [] [(82,Vb (mayB x (1:Int)),Vb true)]<|.tt 1085 (mayB x (1:Int)==true)<|.tt 1086 (mayB x (1:Int)==true)<|.tt 1087 (mayB x (1:Int)==true)<|.call 87 (99) ([Vu y,Vu (1:Int)]) ([]) (Fr (Vb (mayB y (1:Int))) [])<|.tt 88 (mayB x (1:Int))<|.ret (Fr (V.tup [Vu (1:Int),Vb (mayB y (1:Int))]) []))
   (.ff 1085 (mayB x (1:Int)==true)<|.ff 1086 (mayB x (1:Int)==true)<|.ff 1087 (mayB x (1:Int)==true)<|.ff 88 (mayB x (1:Int))<|.ret (Fr (V.tup [Vu (1:Int),Vb false]) []))) (by kernel_rfl) ?_
  exact ⟨⟨tv,cb (by simp<;>omega),tv⟩,⟨tv,cb (by simp<;>omega),tv⟩,⟨tv,cb (by simp<;>omega),tv⟩,⟨tv,cb (by simp<;>omega),tv⟩,⟨tv,cb (by simp<;>omega),tv⟩,⟨tv,cb (by simp<;>omega),tv⟩,⟨tv,cb (by simp<;>omega),tv⟩,⟨tv,cb (by simp<;>omega),tv⟩,⟨tv,cb (by simp<;>omega),tv⟩,⟨tv,cb (by simp<;>omega),tv⟩,⟨tv,cb (by simp<;>omega),tv⟩,(Sp.fact (m5)),fun h0=>have h0p:mayB x (1:Int)=true:=(by simpa using h0);⟨⟨tv,cb (h0p),tv⟩,(h0),(h0),(h0),(Sp.fact (m6)),(h0p),by show _=_;(unfold kind2 kind2ok;grind)⟩,
   fun h0=>have h0p:mayB x (1:Int)=false:=(by simpa using h0);⟨(h0),(h0),(h0),(h0p),by show _=_;(unfold kind2 kind2ok;grind)⟩⟩
end Go.Fw
set_option maxHeartbeats 20000000
namespace Go.Fw
open Go.Proofs
def tOk (s:Stp):Bool:=if s.k=6 then true else tkOk s
def tN (s:Stp):Int:=if s.k=6 then 0 else tkN s
def rightGo:List Stp→Int→Option Int
 | [],n=>some n
 | s::l,n=>if tOk s=false∨n<tN s then none else rightGo l (n+(1-tN s))
def rightB (l:List Stp):Bool:=match rightGo l 0 with
 | some n=>decide (n=1∧l.length≤64)
 | none=>false
theorem tk_null:tkN ⟨1,eT,0⟩=0∧tkOk ⟨1,eT,0⟩=true:=by
 have:TkOk ⟨1,eT,0⟩:=by unfold TkOk;refine ⟨by decide,by decide,.inr (toList_nil rfl),.inr rfl,fun h=>by simp at h⟩
 unfold tkN tkOk
 rw [if_neg (by simpa using this)]
 exact ⟨rfl,by simpa using this⟩
theorem tkN_range (s:Stp):0≤tkN s∧tkN s≤2:=by unfold tkN;grind
theorem tN_range (s:Stp):0≤tN s∧tN s≤2:=by
 have:=tkN_range s
 unfold tN;grind
theorem rightGo_at (l:List Stp) (i:Nat) (s:Stp) (h:l[i]?=some s) (n:Int):rightGo (l.drop i) n=if tOk s=false∨n<tN s then none else rightGo (l.drop (i+1)) (n+(1-tN s)):=by
 obtain ⟨h1,rfl⟩:=List.getElem?_eq_some_iff.1 h
 rw [List.drop_eq_getElem_cons h1]
 rfl
abbrev K65:List (Nat×Fm):=keeps [0,3,8,9,10]
abbrev S65 (l:List Stp) (n:Int) (i:Nat):St:=mkSt 42 [(0,eSteps l),(3,.int .i64 n),(8,eSteps l),(9,.int .i64 (l.length:Int)),(10,.int .i64 (i:Int))] []
section
variable (l:List Stp) (hb:l.length≤2 ^ 47) (hf:∀ s∈l,FineS s)
include hb hf
theorem rightl_none:∀ k i (n:Int),i+k=l.length→0≤n→n≤i→rightGo (l.drop i) n=none→LoopK C1 65 24 K65 (S65 l n i) .ret (mkSt 42 [(2,.bool false)] [])
 | 0,i,n,hi,h0,h1,hz=>by
  rw [List.drop_eq_nil_of_le (by omega)] at hz
  cases hz
 | k+1,i,n,hi,h0,h1,hz=>by
  obtain ⟨s,hs⟩:∃ s,l[i]?=some s:=⟨l[i]'(by omega),List.getElem?_eq_getElem (by omega)⟩
  have fs:=hf s (List.mem_of_getElem? hs)
  have hr:=tN_range s
  rw [rightGo_at l i s hs n] at hz
  have ih0:=rightl_none k (i+1) (n+(1-tN s)) (by omega)
  by_cases h6:s.k=6
  ·have e1:tN s=0:=by unfold tN;rw [if_pos h6]
   have e2:tOk s=true:=by unfold tOk;rw [if_pos h6]
   rw [if_neg (by rw [e2,e1];simp;omega),e1] at hz
   rw [e1] at ih0
   have ih:=ih0 (by omega) (by omega) hz
   have ht:=takes2_sp ⟨1,eT,0⟩ (by unfold FineS;exact ⟨by decide,by decide,by decide⟩) (by simp)
   rw [tk_null.1,tk_null.2] at ht
   refine loop_tree draws (rd:=true) (kn:=K65) (ke:=(keeps [2])) (
    .rw 8011 [] [(11,Vb (decide ((↑i:Int)<(↑(List.length l):Int))),Vb true)]<|.opt 12 (idx (List.map eS l) (↑i:Int)) (eS s)<|.rw 8016 [] [(16,Vb (Stp.k s==(6:Int)),Vb true)]<|.call 20 (66) ([eS (Stp.mk (1:Int) eT (0:Int))]) ([]) (Fr (V.tup [Vi (0:Int),Vb true]) [])<|.rw 8028 [] [(28,Vb (decide ((0:Int)>n)),Vb false)]<|.rw 8033 [] [(33,Vi (IntKind.wrap IntKind.i64 (n+IntKind.wrap IntKind.i64 ((1:Int)-(0:Int)))),Vi (n+((1:Int)-(0:Int))))]<|.rw 8034 [] [(34,Vi (IntKind.wrap IntKind.i64 ((↑i:Int)+(1:Int))),Vi (↑(i+1):Int))]<|.to 24000 ([.cut 0])<|.ret (.normal,S65 l (n+((1:Int)-(0:Int))) (i+1))) (by kernel_rfl) ?_
   exact ⟨⟨tv,cb (by simp<;>omega),tv⟩,(idx_map _ hs),⟨tv,cb (by simp<;>omega),tv⟩,(Sp.fact (ht)),⟨tv,cb (by simp<;>omega),tv⟩,⟨tv,by simp (disch:=omega) only [wrap_i64],tv⟩,⟨tv,by simp (disch:=omega) only [cast_succ,wrap_i64],tv⟩,(ih0 (by omega) (by omega) hz)⟩
  ·have e1:tN s=tkN s:=by unfold tN;rw [if_neg h6]
   have e2:tOk s=tkOk s:=by unfold tOk;rw [if_neg h6]
   have ht:=takes2_sp s fs h6
   rw [e1,e2] at hz
   rw [e1] at hr ih0
   cases h7:tkOk s with
   | false =>
    rw [h7] at ht
    refine loop_tree draws (rd:=true) (kn:=K65) (ke:=(keeps [2])) (
     .rw 8011 [] [(11,Vb (decide ((↑i:Int)<(↑(List.length l):Int))),Vb true)]<|.opt 12 (idx (List.map eS l) (↑i:Int)) (eS s)<|.rw 8016 [] [(16,Vb (Stp.k s==(6:Int)),Vb false)]<|.call 20 (66) ([eS s]) ([]) (Fr (V.tup [Vi (tkN s),Vb false]) [])<|.to 24001 ([.cut 0])<|.ret ((Ex.ret,mkSt 42 [(2,Vb false)] []))) (by kernel_rfl) ?_
    exact ⟨⟨tv,cb (by simp<;>omega),tv⟩,(idx_map _ hs),⟨tv,cb (by simp<;>omega),tv⟩,(Sp.fact (ht)),rfl,rfl⟩
   | true =>
    rw [h7] at ht hz
    by_cases h8:n<tkN s
    ·refine loop_tree draws (rd:=true) (kn:=K65) (ke:=(keeps [2])) (
      .rw 8011 [] [(11,Vb (decide ((↑i:Int)<(↑(List.length l):Int))),Vb true)]<|.opt 12 (idx (List.map eS l) (↑i:Int)) (eS s)<|.rw 8016 [] [(16,Vb (Stp.k s==(6:Int)),Vb false)]<|.call 20 (66) ([eS s]) ([]) (Fr (V.tup [Vi (tkN s),Vb true]) [])<|.rw 8028 [] [(28,Vb (decide (tkN s>n)),Vb true)]<|.to 24001 ([.cut 0])<|.ret ((Ex.ret,mkSt 42 [(2,Vb false)] []))) (by kernel_rfl) ?_
     exact ⟨⟨tv,cb (by simp<;>omega),tv⟩,(idx_map _ hs),⟨tv,cb (by simp<;>omega),tv⟩,(Sp.fact (ht)),⟨tv,cb (by simp<;>omega),tv⟩,rfl,rfl⟩
    ·rw [if_neg (by simp;omega)] at hz
     have ih:=ih0 (by omega) (by omega) hz
     refine loop_tree draws (rd:=true) (kn:=K65) (ke:=(keeps [2])) (
      .rw 8011 [] [(11,Vb (decide ((↑i:Int)<(↑(List.length l):Int))),Vb true)]<|.opt 12 (idx (List.map eS l) (↑i:Int)) (eS s)<|.rw 8016 [] [(16,Vb (Stp.k s==(6:Int)),Vb false)]<|.call 20 (66) ([eS s]) ([]) (Fr (V.tup [Vi (tkN s),Vb true]) [])<|.rw 8028 [] [(28,Vb (decide (tkN s>n)),Vb false)]<|.rw 8032 [] [(32,Vi (IntKind.wrap IntKind.i64 ((1:Int)-tkN s)),Vi ((1:Int)-tkN s))]<|.rw 8033 [] [(33,Vi (IntKind.wrap IntKind.i64 (n+((1:Int)-tkN s))),Vi (n+((1:Int)-tkN s)))]<|.rw 8034 [] [(34,Vi (IntKind.wrap IntKind.i64 ((↑i:Int)+(1:Int))),Vi (↑(i+1):Int))]<|.to 24000 ([.cut 0])<|.ret (.normal,S65 l (n+((1:Int)-tkN s)) (i+1))) (by kernel_rfl) ?_
     exact ⟨⟨tv,cb (by simp<;>omega),tv⟩,(idx_map _ hs),⟨tv,cb (by simp<;>omega),tv⟩,(Sp.fact (ht)),⟨tv,cb (by simp<;>omega),tv⟩,⟨tv,by simp (disch:=omega) only [wrap_i64],tv⟩,⟨tv,by simp (disch:=omega) only [wrap_i64],tv⟩,⟨tv,by simp (disch:=omega) only [cast_succ,wrap_i64],tv⟩,(ih0 (by omega) (by omega) hz)⟩
theorem rightl_some (m:Int):∀ k i (n:Int),i+k=l.length→0≤n→n≤i→rightGo (l.drop i) n=some m→LoopK C1 65 24 K65 (S65 l n i) (.exit 0) (mkSt 42 [(0,eSteps l),(3,.int .i64 m)] [])
 | 0,i,n,hi,h0,h1,hz=>by
  rw [List.drop_eq_nil_of_le (by omega)] at hz
  cases hz
  refine loop_tree draws (rd:=true) (kn:=K65) (ke:=(keeps [0,3])) (
   .rw 8011 [] [(11,Vb (decide ((↑i:Int)<(↑(List.length l):Int))),Vb false)]<|.ret ((Ex.exit 0,mkSt 42 [(0,V.imm false 3 (List.map eS l)),(3,Vi m)] []))) (by kernel_rfl) ?_
  exact ⟨⟨tv,cb (by simp<;>omega),tv⟩,rfl,rfl⟩
 | k+1,i,n,hi,h0,h1,hz=>by
  obtain ⟨s,hs⟩:∃ s,l[i]?=some s:=⟨l[i]'(by omega),List.getElem?_eq_getElem (by omega)⟩
  have fs:=hf s (List.mem_of_getElem? hs)
  have hr:=tN_range s
  rw [rightGo_at l i s hs n] at hz
  have ih0:=rightl_some m k (i+1) (n+(1-tN s)) (by omega)
  have hc:¬(tOk s=false∨n<tN s):=fun hc=>by rw [if_pos hc] at hz;cases hz
  rw [if_neg hc] at hz
  have ih:=ih0 (by omega) (by omega) hz
  by_cases h6:s.k=6
  ·have e1:tN s=0:=by unfold tN;rw [if_pos h6]
   rw [e1] at ih
   have ht:=takes2_sp ⟨1,eT,0⟩ (by unfold FineS;exact ⟨by decide,by decide,by decide⟩) (by simp)
   rw [tk_null.1,tk_null.2] at ht
   refine loop_tree draws (rd:=true) (kn:=K65) (ke:=(keeps [0,3])) (
    .rw 8011 [] [(11,Vb (decide ((↑i:Int)<(↑(List.length l):Int))),Vb true)]<|.opt 12 (idx (List.map eS l) (↑i:Int)) (eS s)<|.rw 8016 [] [(16,Vb (Stp.k s==(6:Int)),Vb true)]<|.call 20 (66) ([eS (Stp.mk (1:Int) eT (0:Int))]) ([]) (Fr (V.tup [Vi (0:Int),Vb true]) [])<|.rw 8028 [] [(28,Vb (decide ((0:Int)>n)),Vb false)]<|.rw 8033 [] [(33,Vi (IntKind.wrap IntKind.i64 (n+IntKind.wrap IntKind.i64 ((1:Int)-(0:Int)))),Vi (n+((1:Int)-(0:Int))))]<|.rw 8034 [] [(34,Vi (IntKind.wrap IntKind.i64 ((↑i:Int)+(1:Int))),Vi (↑(i+1):Int))]<|.to 24000 ([.cut 0])<|.ret (.normal,S65 l (n+((1:Int)-(0:Int))) (i+1))) (by kernel_rfl) ?_
   exact ⟨⟨tv,cb (by simp<;>omega),tv⟩,(idx_map _ hs),⟨tv,cb (by simp<;>omega),tv⟩,(Sp.fact (ht)),⟨tv,cb (by simp<;>omega),tv⟩,⟨tv,by simp (disch:=omega) only [wrap_i64],tv⟩,⟨tv,by simp (disch:=omega) only [cast_succ,wrap_i64],tv⟩,(ih)⟩
  ·have e1:tN s=tkN s:=by unfold tN;rw [if_neg h6]
   have e2:tOk s=tkOk s:=by unfold tOk;rw [if_neg h6]
   have ht:=takes2_sp s fs h6
   rw [e1,e2] at hc
   rw [e1] at hr ih
   have h7:tkOk s=true:=by
    cases h:tkOk s with
    | true=>rfl
    | false=>exact absurd (.inl h) hc
   have h8:tkN s≤n:=by omega
   rw [h7] at ht
   refine loop_tree draws (rd:=true) (kn:=K65) (ke:=(keeps [0,3])) (
    .rw 8011 [] [(11,Vb (decide ((↑i:Int)<(↑(List.length l):Int))),Vb true)]<|.opt 12 (idx (List.map eS l) (↑i:Int)) (eS s)<|.rw 8016 [] [(16,Vb (Stp.k s==(6:Int)),Vb false)]<|.call 20 (66) ([eS s]) ([]) (Fr (V.tup [Vi (tkN s),Vb true]) [])<|.rw 8028 [] [(28,Vb (decide (tkN s>n)),Vb false)]<|.rw 8032 [] [(32,Vi (IntKind.wrap IntKind.i64 ((1:Int)-tkN s)),Vi ((1:Int)-tkN s))]<|.rw 8033 [] [(33,Vi (IntKind.wrap IntKind.i64 (n+((1:Int)-tkN s))),Vi (n+((1:Int)-tkN s)))]<|.rw 8034 [] [(34,Vi (IntKind.wrap IntKind.i64 ((↑i:Int)+(1:Int))),Vi (↑(i+1):Int))]<|.to 24000 ([.cut 0])<|.ret (.normal,S65 l (n+((1:Int)-tkN s)) (i+1))) (by kernel_rfl) ?_
   exact ⟨⟨tv,cb (by simp<;>omega),tv⟩,(idx_map _ hs),⟨tv,cb (by simp<;>omega),tv⟩,(Sp.fact (ht)),⟨tv,cb (by simp<;>omega),tv⟩,⟨tv,by simp (disch:=omega) only [wrap_i64],tv⟩,⟨tv,by simp (disch:=omega) only [wrap_i64],tv⟩,⟨tv,by simp (disch:=omega) only [cast_succ,wrap_i64],tv⟩,(ih)⟩
theorem right_sp:Sp C1 65 [eSteps l] (.bool (rightB l)):=by
 cases hr:rightGo l 0 with
 | none =>
  have hl:=rightl_none l hb hf l.length 0 0 (by omega) (by omega) (by omega) hr
  have e:rightB l=false:=by unfold rightB;rw [hr]
  rw [e]
  refine sp_tree draws (dm:=[]) (fs:=[]) (
   .rw 8009 [] [(9,Vi (↑(List.length (List.map eS l)):Int),Vi (↑(List.length l):Int))]<|.loop 24 false (K65) (S65 l (0:Int) 0) (Ex.ret) (mkSt 42 [(2,Vb false)] [])<|.ret (Fr (Vb false) [])) (by kernel_rfl) ?_
  exact ⟨⟨tv,by simp (disch:=omega) only [List.length_map],tv⟩,(LoopR.weak (hl)),rfl⟩
 | some m =>
  have hl:=rightl_some l hb hf m l.length 0 0 (by omega) (by omega) (by omega) hr
  have e:rightB l=decide (m=1∧l.length≤64):=by unfold rightB;rw [hr]
  rw [e]
  refine sp_tree draws (dm:=[]) (fs:=[]) (
   .rw 8009 [] [(9,Vi (↑(List.length (List.map eS l)):Int),Vi (↑(List.length l):Int))]<|.loop 24 false (K65) (S65 l (0:Int) 0) (Ex.exit 0) (mkSt 42 [(0,eSteps l),(3,Vi m)] [])<|.ite 1038 ((m==(1:Int))==true)
   (.rw 8038 [] [(36,Vb (m==(1:Int)),Vb true)]<|.tt 1039 ((m==(1:Int))==true)<|.rw 8039 [] [(39,Vi (↑(List.length (List.map eS l)):Int),Vi (↑(List.length l):Int))]<|.tt 1040 ((m==(1:Int))==true)<|.tt 41 (m==(1:Int))<|.ret (Fr (Vb (decide ((↑(List.length l):Int)≤(64:Int)))) []))
   (.ff 1039 ((m==(1:Int))==true)<|.ff 1040 ((m==(1:Int))==true)<|.ff 41 (m==(1:Int))<|.ret (Fr (Vb false) []))) (by kernel_rfl) ?_
  exact ⟨⟨tv,by simp (disch:=omega) only [List.length_map],tv⟩,(LoopR.weak (hl)),fun h0=>have h0p:m=(1:Int):=(by simpa using h0);⟨⟨tv,cb (by simp<;>omega),tv⟩,(h0),⟨tv,by simp (disch:=omega) only [List.length_map],tv⟩,(h0),by simp<;>omega,by show _=_;grind⟩,
   fun h0=>have h0p:¬m=(1:Int):=(by simpa using h0);⟨(h0),(h0),by simp<;>omega,by show _=_;grind⟩⟩
end
end Go.Fw
set_option maxHeartbeats 20000000
namespace Go.Fw
open Go.Proofs
theorem kindS_sp (l:List Stp) (cols:List Cl) (hb:l.length≤2 ^ 47) (hf:∀ s∈l,FineS s) (hr:rightB l=false):Sp C1 27 [eSteps l,eCols cols] (.tup [.int .u8 0,.int .i64 13]):=by
 have hs:=right_sp l hb hf
 rw [hr] at hs
 refine sp_tree draws (dm:=[]) (fs:=[]) (
  .call 17 (65) ([eSteps l]) ([]) (Fr (Vb false) [])<|.ret (Fr (V.tup [Vu (0:Int),Vi (13:Int)]) [])) (by kernel_rfl) ?_
 exact ⟨(Sp.fact (hs)),rfl⟩
theorem kindM_sp (l:List Stp) (cols:List Cl) (hb:l.length≤2 ^ 47) (hf:∀ s∈l,FineS s) (hr:rightB l=true) (hc:16<cols.length):Sp C1 27 [eSteps l,eCols cols] (.tup [.int .u8 0,.int .i64 3]):=by
 have hs:=right_sp l hb hf
 rw [hr] at hs
 refine sp_tree draws (dm:=[]) (fs:=[]) (
  .call 17 (65) ([eSteps l]) ([]) (Fr (Vb true) [])<|.rw 8020 [] [(20,Vi (↑(List.length (List.map eC cols)):Int),Vi (↑(List.length cols):Int))]<|.rw 8021 [] [(21,Vb (decide ((↑(List.length cols):Int)>(16:Int))),Vb true)]<|.ret (Fr (V.tup [Vu (0:Int),Vi (3:Int)]) [])) (by kernel_rfl) ?_
 exact ⟨(Sp.fact (hs)),⟨tv,by simp (disch:=omega) only [List.length_map],tv⟩,⟨tv,cb (by simp<;>omega),tv⟩,rfl⟩
def ColOk (n:Int) (s:Stp):Prop:=s.k=6→s.t.toList=[]∧0≤s.n∧s.n<n
abbrev K27:List (Nat×Fm):=keeps [0,1,22,23,24]
abbrev S27 (l:List Stp) (cols:List Cl) (i:Nat):St:=mkSt 99 [(0,eSteps l),(1,eCols cols),(22,eSteps l),(23,.int .i64 (l.length:Int)),(24,.int .i64 (i:Int))] []
section
variable (l:List Stp) (cols:List Cl) (hb:l.length≤2 ^ 47) (hc:cols.length≤16)
include hb hc
theorem coll_ok:∀ k i,i+k=l.length→(∀ j s,i≤j→l[j]?=some s→ColOk cols.length s)→LoopK C1 27 48 K27 (S27 l cols i) (.exit 0) (mkSt 99 [(0,eSteps l),(1,eCols cols)] [])
 | 0,i,h,hn=>by
  refine loop_tree draws (rd:=true) (kn:=K27) (ke:=(keeps [0,1])) (
   .rw 8025 [] [(25,Vb (decide ((↑i:Int)<(↑(List.length l):Int))),Vb false)]<|.ret ((Ex.exit 0,mkSt 99 [(0,V.imm false 3 (List.map eS l)),(1,V.imm false 2 (List.map eC cols))] []))) (by kernel_rfl) ?_
  exact ⟨⟨tv,cb (by simp<;>omega),tv⟩,rfl,rfl⟩
 | k+1,i,h,hn=>by
  have ih:=coll_ok k (i+1) (by omega) (fun j v hj hv=>hn j v (by omega) hv)
  obtain ⟨s,hs⟩:∃ s,l[i]?=some s:=⟨l[i]'(by omega),List.getElem?_eq_getElem (by omega)⟩
  have hk:=hn i s (Nat.le_refl _) hs
  by_cases h6:s.k=6
  ·obtain ⟨h1,h2,h3⟩:=hk h6
   refine loop_tree draws (rd:=true) (kn:=K27) (ke:=(keeps [0,1])) (
    .rw 8025 [] [(25,Vb (decide ((↑i:Int)<(↑(List.length l):Int))),Vb true)]<|.opt 26 (idx (List.map eS l) (↑i:Int)) (eS s)<|.rw 8030 [] [(30,Vb (Stp.k s==(6:Int)),Vb true)]<|.rw 8034 [] [(34,Vb !ByteArray.toList (Stp.t s)==[],Vb false)]<|.rw 8038 [] [(38,Vb (decide (Stp.n s<(0:Int))),Vb false)]<|.rw 8044 [] [(44,Vi (↑(List.length (List.map eC cols)):Int),Vi (↑(List.length cols):Int))]<|.rw 8045 [] [(45,Vb (decide (Stp.n s ≥ (↑(List.length cols):Int))),Vb false)]<|.rw 8048 [] [(48,Vi (IntKind.wrap IntKind.i64 ((↑i:Int)+(1:Int))),Vi (↑(i+1):Int))]<|.to 24000 ([.cut 0])<|.ret (.normal,S27 l cols (i+1))) (by kernel_rfl) ?_
   exact ⟨⟨tv,cb (by simp<;>omega),tv⟩,(idx_map _ hs),⟨tv,cb (by simp<;>omega),tv⟩,⟨tv,cb (by simp [h1]),tv⟩,⟨tv,cb (by simp<;>omega),tv⟩,⟨tv,by simp (disch:=omega) only [List.length_map],tv⟩,⟨tv,cb (by simp<;>omega),tv⟩,⟨tv,by simp (disch:=omega) only [cast_succ,wrap_i64],tv⟩,(ih)⟩
  ·refine loop_tree draws (rd:=true) (kn:=K27) (ke:=(keeps [0,1])) (
    .rw 8025 [] [(25,Vb (decide ((↑i:Int)<(↑(List.length l):Int))),Vb true)]<|.opt 26 (idx (List.map eS l) (↑i:Int)) (eS s)<|.rw 8030 [] [(30,Vb (Stp.k s==(6:Int)),Vb false)]<|.rw 8048 [] [(48,Vi (IntKind.wrap IntKind.i64 ((↑i:Int)+(1:Int))),Vi (↑(i+1):Int))]<|.to 24000 ([.cut 0])<|.ret (.normal,S27 l cols (i+1))) (by kernel_rfl) ?_
   exact ⟨⟨tv,cb (by simp<;>omega),tv⟩,(idx_map _ hs),⟨tv,cb (by simp<;>omega),tv⟩,⟨tv,by simp (disch:=omega) only [cast_succ,wrap_i64],tv⟩,(ih)⟩
theorem coll_bad:∀ k i,i+k=l.length→(∃ j s,i≤j∧l[j]?=some s∧¬ColOk cols.length s)→LoopK C1 27 48 K27 (S27 l cols i) .ret (mkSt 99 [(4,.int .u8 0),(5,.int .i64 2)] [])
 | 0,i,h,⟨j,s,hj,hs,_⟩=>by
  have:=(List.getElem?_eq_some_iff.1 hs).1
  omega
 | k+1,i,h,hn=>by
  obtain ⟨s,hs⟩:∃ s,l[i]?=some s:=⟨l[i]'(by omega),List.getElem?_eq_getElem (by omega)⟩
  by_cases hk:ColOk cols.length s
  ·have ih:=coll_bad k (i+1) (by omega) (by
    obtain ⟨j,x,q1,q2,q3⟩:=hn
    refine ⟨j,x,?_,q2,q3⟩
    by_cases e:j=i
    ·subst e;rw [hs] at q2;cases q2;exact absurd hk q3
    ·omega)
   by_cases h6:s.k=6
   ·obtain ⟨h1,h2,h3⟩:=hk h6
    refine loop_tree draws (rd:=true) (kn:=K27) (ke:=(keeps [4,5])) (
     .rw 8025 [] [(25,Vb (decide ((↑i:Int)<(↑(List.length l):Int))),Vb true)]<|.opt 26 (idx (List.map eS l) (↑i:Int)) (eS s)<|.rw 8030 [] [(30,Vb (Stp.k s==(6:Int)),Vb true)]<|.rw 8034 [] [(34,Vb !ByteArray.toList (Stp.t s)==[],Vb false)]<|.rw 8038 [] [(38,Vb (decide (Stp.n s<(0:Int))),Vb false)]<|.rw 8044 [] [(44,Vi (↑(List.length (List.map eC cols)):Int),Vi (↑(List.length cols):Int))]<|.rw 8045 [] [(45,Vb (decide (Stp.n s ≥ (↑(List.length cols):Int))),Vb false)]<|.rw 8048 [] [(48,Vi (IntKind.wrap IntKind.i64 ((↑i:Int)+(1:Int))),Vi (↑(i+1):Int))]<|.to 24000 ([.cut 0])<|.ret (.normal,S27 l cols (i+1))) (by kernel_rfl) ?_
    exact ⟨⟨tv,cb (by simp<;>omega),tv⟩,(idx_map _ hs),⟨tv,cb (by simp<;>omega),tv⟩,⟨tv,cb (by simp [h1]),tv⟩,⟨tv,cb (by simp<;>omega),tv⟩,⟨tv,by simp (disch:=omega) only [List.length_map],tv⟩,⟨tv,cb (by simp<;>omega),tv⟩,⟨tv,by simp (disch:=omega) only [cast_succ,wrap_i64],tv⟩,(ih)⟩
   ·refine loop_tree draws (rd:=true) (kn:=K27) (ke:=(keeps [4,5])) (
     .rw 8025 [] [(25,Vb (decide ((↑i:Int)<(↑(List.length l):Int))),Vb true)]<|.opt 26 (idx (List.map eS l) (↑i:Int)) (eS s)<|.rw 8030 [] [(30,Vb (Stp.k s==(6:Int)),Vb false)]<|.rw 8048 [] [(48,Vi (IntKind.wrap IntKind.i64 ((↑i:Int)+(1:Int))),Vi (↑(i+1):Int))]<|.to 24000 ([.cut 0])<|.ret (.normal,S27 l cols (i+1))) (by kernel_rfl) ?_
    exact ⟨⟨tv,cb (by simp<;>omega),tv⟩,(idx_map _ hs),⟨tv,cb (by simp<;>omega),tv⟩,⟨tv,by simp (disch:=omega) only [cast_succ,wrap_i64],tv⟩,(ih)⟩
  ·have h6:s.k=6:=by
    apply Classical.byContradiction;intro h;exact hk (fun e=>absurd e h)
   by_cases h1:s.t.toList=[]
   ·by_cases h2:s.n<0
    ·refine loop_tree draws (rd:=true) (kn:=K27) (ke:=(keeps [4,5])) (
      .rw 8025 [] [(25,Vb (decide ((↑i:Int)<(↑(List.length l):Int))),Vb true)]<|.opt 26 (idx (List.map eS l) (↑i:Int)) (eS s)<|.rw 8030 [] [(30,Vb (Stp.k s==(6:Int)),Vb true)]<|.rw 8034 [] [(34,Vb !ByteArray.toList (Stp.t s)==[],Vb false)]<|.rw 8038 [] [(38,Vb (decide (Stp.n s<(0:Int))),Vb true)]<|.to 24001 ([.cut 0])<|.ret ((Ex.ret,mkSt 99 [(4,Vu (0:Int)),(5,Vi (2:Int))] []))) (by kernel_rfl) ?_
     exact ⟨⟨tv,cb (by simp<;>omega),tv⟩,(idx_map _ hs),⟨tv,cb (by simp<;>omega),tv⟩,⟨tv,cb (by simp [h1]),tv⟩,⟨tv,cb (by simp<;>omega),tv⟩,rfl,rfl⟩
    ·have h3:(cols.length:Int)≤s.n:=by
      apply Classical.byContradiction;intro h;exact hk (fun _=>⟨h1,by omega,by omega⟩)
     refine loop_tree draws (rd:=true) (kn:=K27) (ke:=(keeps [4,5])) (
      .rw 8025 [] [(25,Vb (decide ((↑i:Int)<(↑(List.length l):Int))),Vb true)]<|.opt 26 (idx (List.map eS l) (↑i:Int)) (eS s)<|.rw 8030 [] [(30,Vb (Stp.k s==(6:Int)),Vb true)]<|.rw 8034 [] [(34,Vb !ByteArray.toList (Stp.t s)==[],Vb false)]<|.rw 8038 [] [(38,Vb (decide (Stp.n s<(0:Int))),Vb false)]<|.rw 8044 [] [(44,Vi (↑(List.length (List.map eC cols)):Int),Vi (↑(List.length cols):Int))]<|.rw 8045 [] [(45,Vb (decide (Stp.n s ≥ (↑(List.length cols):Int))),Vb true)]<|.to 24001 ([.cut 0])<|.ret ((Ex.ret,mkSt 99 [(4,Vu (0:Int)),(5,Vi (2:Int))] []))) (by kernel_rfl) ?_
     exact ⟨⟨tv,cb (by simp<;>omega),tv⟩,(idx_map _ hs),⟨tv,cb (by simp<;>omega),tv⟩,⟨tv,cb (by simp [h1]),tv⟩,⟨tv,cb (by simp<;>omega),tv⟩,⟨tv,by simp (disch:=omega) only [List.length_map],tv⟩,⟨tv,cb (by simp<;>omega),tv⟩,rfl,rfl⟩
   ·refine loop_tree draws (rd:=true) (kn:=K27) (ke:=(keeps [4,5])) (
     .rw 8025 [] [(25,Vb (decide ((↑i:Int)<(↑(List.length l):Int))),Vb true)]<|.opt 26 (idx (List.map eS l) (↑i:Int)) (eS s)<|.rw 8030 [] [(30,Vb (Stp.k s==(6:Int)),Vb true)]<|.rw 8034 [] [(34,Vb !ByteArray.toList (Stp.t s)==[],Vb true)]<|.to 24001 ([.cut 0])<|.ret ((Ex.ret,mkSt 99 [(4,Vu (0:Int)),(5,Vi (2:Int))] []))) (by kernel_rfl) ?_
    exact ⟨⟨tv,cb (by simp<;>omega),tv⟩,(idx_map _ hs),⟨tv,cb (by simp<;>omega),tv⟩,⟨tv,cb (by simp [h1]),tv⟩,rfl,rfl⟩
end
theorem kindR_sp (l:List Stp) (cols:List Cl) (hb:l.length≤2 ^ 47) (hf:∀ s∈l,FineS s) (hr:rightB l=true) (hc:cols.length≤16) (hx:∃ s∈l,¬ColOk cols.length s):Sp C1 27 [eSteps l,eCols cols] (.tup [.int .u8 0,.int .i64 2]):=by
 have hs:=right_sp l hb hf
 rw [hr] at hs
 have hl:=coll_bad l cols hb hc l.length 0 (by omega) (by
  obtain ⟨s,h1,h2⟩:=hx
  obtain ⟨j,hj,rfl⟩:=List.mem_iff_getElem.1 h1
  exact ⟨j,_,by omega,List.getElem?_eq_getElem hj,h2⟩)
 refine sp_tree draws (dm:=[]) (fs:=[]) (
  .call 17 (65) ([eSteps l]) ([]) (Fr (Vb true) [])<|.rw 8020 [] [(20,Vi (↑(List.length (List.map eC cols)):Int),Vi (↑(List.length cols):Int))]<|.rw 8021 [] [(21,Vb (decide ((↑(List.length cols):Int)>(16:Int))),Vb false)]<|.rw 8023 [] [(23,Vi (↑(List.length (List.map eS l)):Int),Vi (↑(List.length l):Int))]<|.loop 48 false (K27) (S27 l cols 0) (Ex.ret) (mkSt 99 [(4,Vu (0:Int)),(5,Vi (2:Int))] [])<|.ret (Fr (V.tup [Vu (0:Int),Vi (2:Int)]) [])) (by kernel_rfl) ?_
 exact ⟨(Sp.fact (hs)),⟨tv,by simp (disch:=omega) only [List.length_map],tv⟩,⟨tv,cb (by simp<;>omega),tv⟩,⟨tv,by simp (disch:=omega) only [List.length_map],tv⟩,(LoopR.weak (hl)),rfl⟩
end Go.Fw
set_option maxHeartbeats 20000000
namespace Go.Fw
open Go.Proofs
def kindL (k:Int):List Int→Option Int
 | []=>some (kind0 k)
 | [x]=>if kind1ok k x then some (kind1 k) else none
 | [x,y]=>if kind2ok k x y then some (kind2 k) else none
 | _=>none
def colK (cols:List Cl) (n:Int):Int:=((cols[n.toNat]?).map (·.k)).getD 0
def kindGo (cols:List Cl):List Stp→List Int→Option (List Int)
 | [],st=>some st
 | s::l,st=>if s.k=6 then kindGo cols l (st++[colK cols s.n]) else match kindL s.k (st.drop (st.length-(tkN s).toNat)) with
  | some k=>kindGo cols l (st.take (st.length-(tkN s).toNat)++[k])
  | none=>none
abbrev K104:List (Nat×Fm):=[(1,.of .keep),(8,.of (.lin 26 1)),(49,.of .keep),(50,.of .keep),(51,.of .keep)]
abbrev S104 (l:List Stp) (cols:List Cl) (st:List Int) (i:Nat):St:=mkSt 99 [(1,eCols cols),(8,.lin true 26 1 (st.map (V.int .u8))),(49,eSteps l),(50,.int .i64 (l.length:Int)),(51,.int .i64 (i:Int))] []
theorem tail0 (st:List Int) (f:Int→V):List.drop (Int.toNat ((st.length:Int)-0)) (List.take st.length (st.map f))=[]:=by
 rw [Int.sub_zero,Int.toNat_natCast,List.drop_eq_nil_of_le (by simp)]
theorem take0 (st:List Int) (f:Int→V):List.take (Int.toNat ((st.length:Int)-0)) (st.map f)=st.map f:=by
 rw [Int.sub_zero,Int.toNat_natCast,List.take_of_length_le (by simp)]
theorem tail1 (pre:List Int) (x:Int) (f:Int→V):List.drop (Int.toNat (((pre.length+1:Nat):Int)-1)) (List.take (pre.length+1) (List.map f (pre++[x])))=[f x]:=by
 rw [show (Int.toNat (((pre.length+1:Nat):Int)-1))=pre.length by omega,List.take_of_length_le (by simp),List.map_append,List.drop_append_of_le_length (by simp),List.drop_eq_nil_of_le (by simp)]
 rfl
theorem take1 (pre:List Int) (x:Int) (f:Int→V):List.take (Int.toNat (((pre.length+1:Nat):Int)-1)) (List.map f (pre++[x]))=pre.map f:=by
 rw [show (Int.toNat (((pre.length+1:Nat):Int)-1))=pre.length by omega,List.map_append,List.take_append_of_le_length (by simp),List.take_of_length_le (by simp)]
theorem tail2 (pre:List Int) (x y:Int) (f:Int→V):List.drop (Int.toNat (((pre.length+2:Nat):Int)-2)) (List.take (pre.length+2) (List.map f (pre++[x,y])))=[f x,f y]:=by
 rw [show (Int.toNat (((pre.length+2:Nat):Int)-2))=pre.length by omega,List.take_of_length_le (by simp),List.map_append,List.drop_append_of_le_length (by simp),List.drop_eq_nil_of_le (by simp)]
 rfl
theorem take2 (pre:List Int) (x y:Int) (f:Int→V):List.take (Int.toNat (((pre.length+2:Nat):Int)-2)) (List.map f (pre++[x,y]))=pre.map f:=by
 rw [show (Int.toNat (((pre.length+2:Nat):Int)-2))=pre.length by omega,List.map_append,List.take_append_of_le_length (by simp),List.take_of_length_le (by simp)]
abbrev F104 (fin:List Int):St:=mkSt 99 [(8,.lin true 26 1 (fin.map (V.int .u8)))] []
abbrev R104:St:=mkSt 99 [(4,.int .u8 0),(5,.int .i64 5)] []
theorem k104_cola (l:List Stp) (cols:List Cl) (st fin:List Int) (i:Nat) (s:Stp) (hb:l.length≤64) (hst:st.length≤i) (hs:l[i]?=some s) (h6:s.k=6) (m:Nat) (c:Cl) (hn:s.n=(m:Int)) (hc:cols[m]?=some c)
  (ih:LoopK C1 27 104 K104 (S104 l cols (st++[c.k]) (i+1)) (.exit 2) (F104 fin)):LoopK C1 27 104 K104 (S104 l cols st i) (.exit 2) (F104 fin):=by
 have hi:=(List.getElem?_eq_some_iff.1 hs).1
 have hi2:idx (cols.map eC) s.n=some (eC c):=by rw [hn];exact idx_map eC hc
 refine loop_tree draws (rd:=true) (kn:=K104) (ke:=[(8,.of (.lin 26 1))]) (
  .rw 8052 [] [(52,Vb (decide ((↑i:Int)<(↑(List.length l):Int))),Vb true)]<|.opt 53 (idx (List.map eS l) (↑i:Int)) (eS s)<|.rw 8057 [] [(57,Vb (Stp.k s==(6:Int)),Vb true)]<|.opt 62 (idx (List.map eC cols) (Stp.n s)) (eC c)<|.chk 66 (decide ((List.length (List.map (V.int .u8) st)+1)*1≤140737488355328))<|.rw 8066 [] [(66,V.lin true 26 1 (List.map (V.int .u8) st++[Vu (Cl.k c)]),V.lin true 26 1 (List.map (V.int .u8) (st++[Cl.k c])))]<|.rw 8095 [] [(95,Vi (IntKind.wrap IntKind.i64 ((↑i:Int)+(1:Int))),Vi (↑(i+1):Int))]<|.to 24000 ([.cut 0])<|.ret (.normal,S104 l cols (st++[Cl.k c]) (i+1))) (by kernel_rfl) ?_
 exact ⟨⟨tv,cb (by simp<;>omega),tv⟩,(idx_map _ hs),⟨tv,cb (by simp<;>omega),tv⟩,(hi2),by simp<;>omega,⟨tv,by simp (disch:=omega) only [app_int],tv⟩,⟨tv,by simp (disch:=omega) only [cast_succ,wrap_i64],tv⟩,(ih)⟩
theorem k104_0a (l:List Stp) (cols:List Cl) (st fin:List Int) (i:Nat) (s:Stp) (hb:l.length≤64) (hst:st.length≤i) (hs:l[i]?=some s) (hf:FineS s) (h6:TkOk s) (h7:s.k≤5)
  (ih:LoopK C1 27 104 K104 (S104 l cols (st++[kind0 s.k]) (i+1)) (.exit 2) (F104 fin)):LoopK C1 27 104 K104 (S104 l cols st i) (.exit 2) (F104 fin):=by
 have hi:=(List.getElem?_eq_some_iff.1 hs).1
 have hk:1≤s.k:=h6.1
 have ht:=takes2_sp s hf (by omega)
 have e1:tkN s=0:=by unfold tkN;rw [if_neg (by simpa using h6),if_pos (by omega)]
 have e2:tkOk s=true:=by unfold tkOk;simpa using h6
 rw [e1,e2] at ht
 have hk2:=kind20_sp s.k [] hk h7
 by_cases hne:st=[]
 ·subst hne
  refine loop_tree draws (rd:=true) (kn:=K104) (ke:=[(8,.of (.lin 26 1))]) (
   .rw 8052 [] [(52,Vb (decide ((↑i:Int)<(↑(List.length l):Int))),Vb true)]<|.opt 53 (idx (List.map eS l) (↑i:Int)) (eS s)<|.rw 8057 [] [(57,Vb (Stp.k s==(6:Int)),Vb false)]<|.call 69 (66) ([eS s]) ([]) (Fr (V.tup [Vi (0:Int),Vb true]) [])<|.call 82 (67) ([Vu (Stp.k s),eKs []]) ([]) (Fr (V.tup [Vu (kind0 (Stp.k s)),Vb true]) [])<|.rw 8095 [] [(95,Vi (IntKind.wrap IntKind.i64 ((↑i:Int)+(1:Int))),Vi (↑(i+1):Int))]<|.to 24000 ([.cut 0])<|.ret (.normal,S104 l cols ([]++[kind0 (Stp.k s)]) (i+1))) (by kernel_rfl) ?_
  exact ⟨⟨tv,cb (by simp<;>omega),tv⟩,(idx_map _ hs),⟨tv,cb (by simp<;>omega),tv⟩,(Sp.fact (ht)),(Sp.fact (hk2)),⟨tv,by simp (disch:=omega) only [cast_succ,wrap_i64],tv⟩,(ih)⟩
 ·refine loop_tree draws (rd:=true) (kn:=K104) (ke:=[(8,.of (.lin 26 1))]) (
   .rw 8052 [] [(52,Vb (decide ((↑i:Int)<(↑(List.length l):Int))),Vb true)]<|.opt 53 (idx (List.map eS l) (↑i:Int)) (eS s)<|.rw 8057 [] [(57,Vb (Stp.k s==(6:Int)),Vb false)]<|.call 69 (66) ([eS s]) ([]) (Fr (V.tup [Vi (0:Int),Vb true]) [])<|.rw 8073 [] [(73,Vi (↑(List.length (List.map (V.int .u8) st)):Int),Vi (↑(List.length st):Int))]<|.rw 8075 [] [(75,Vi (IntKind.wrap IntKind.i64 ((↑(List.length st):Int)-(0:Int))),Vi ((↑(List.length st):Int)-(0:Int)))]<|.chk 81 (decide ((0:Int)≤(↑(List.length st):Int)-(0:Int)∧(↑(List.length st):Int)-(0:Int)≤(↑(List.length (List.map (V.int .u8) st)):Int)∧(↑(List.length (List.map (V.int .u8) st)):Int)≤(↑(List.length (List.map (V.int .u8) st)):Int)))<|.rw 8081 [] [(81,V.imm false 1 (List.drop (Int.toNat ((↑(List.length st):Int)-(0:Int))) (List.take (Int.toNat (↑(List.length (List.map (V.int .u8) st)):Int)) (List.map (V.int .u8) st))),V.imm false 1 [])]<|.call 82 (67) ([Vu (Stp.k s),eKs []]) ([]) (Fr (V.tup [Vu (kind0 (Stp.k s)),Vb true]) [])<|.chk 90 (decide ((0:Int)≤(0:Int)∧(0:Int)≤(↑(List.length st):Int)-(0:Int)∧(↑(List.length st):Int)-(0:Int)≤(↑(List.length (List.map (V.int .u8) st)):Int)))<|.rw 8090 [] [(90,V.imm false 1 (List.drop 0 (List.take (Int.toNat ((↑(List.length st):Int)-(0:Int))) (List.map (V.int .u8) st))),V.imm false 1 (List.map (V.int .u8) st))]<|.ff 91 (List.isEmpty (List.map (V.int .u8) st))<|.chk 91 (decide ((0+List.length (List.map (V.int .u8) st))*1≤140737488355328))<|.rw 8091 [] [(91,V.lin true 26 1 ([]++List.map (V.int .u8) st),V.lin true 26 1 (List.map (V.int .u8) st))]<|.chk 94 (decide ((List.length (List.map (V.int .u8) st)+1)*1≤140737488355328))<|.rw 8094 [] [(94,V.lin true 26 1 (List.map (V.int .u8) st++[Vu (kind0 (Stp.k s))]),V.lin true 26 1 (List.map (V.int .u8) (st++[kind0 (Stp.k s)])))]<|.rw 8095 [] [(95,Vi (IntKind.wrap IntKind.i64 ((↑i:Int)+(1:Int))),Vi (↑(i+1):Int))]<|.to 24000 ([.cut 0])<|.ret (.normal,S104 l cols (st++[kind0 (Stp.k s)]) (i+1))) (by kernel_rfl) ?_
  exact ⟨⟨tv,cb (by simp<;>omega),tv⟩,(idx_map _ hs),⟨tv,cb (by simp<;>omega),tv⟩,(Sp.fact (ht)),⟨tv,by simp (disch:=omega) only [List.length_map],tv⟩,⟨tv,by simp (disch:=omega) only [wrap_i64],tv⟩,by simp [hne],⟨tv,by simp (disch:=omega) only [List.length_map,Int.toNat_natCast,tail0],tv⟩,(Sp.fact (hk2)),by simp [hne],⟨tv,by simp (disch:=omega) only [take0,List.drop_zero],tv⟩,by simp [hne],by simp<;>omega,⟨tv,by simp (disch:=omega) only [List.nil_append],tv⟩,by simp<;>omega,⟨tv,by simp (disch:=omega) only [app_int],tv⟩,⟨tv,by simp (disch:=omega) only [cast_succ,wrap_i64],tv⟩,(ih)⟩
theorem k104_1a (l:List Stp) (cols:List Cl) (pre fin:List Int) (x:Int) (i:Nat) (s:Stp) (hb:l.length≤64) (hst:pre.length+1≤i) (hs:l[i]?=some s) (hf:FineS s) (h6:TkOk s) (h7:7≤s.k) (h8:s.k≤10) (hok:kind1ok s.k x=true)
   (ih:LoopK C1 27 104 K104 (S104 l cols (pre++[kind1 s.k]) (i+1)) (.exit 2) (F104 fin)):LoopK C1 27 104 K104 (S104 l cols (pre++[x]) i) (.exit 2) (F104 fin):=by
 have hi:=(List.getElem?_eq_some_iff.1 hs).1
 have ht:=takes2_sp s hf (by omega)
 have e1:tkN s=1:=by unfold tkN;rw [if_neg (by simpa using h6),if_neg (by omega),if_pos (by omega)]
 have e2:tkOk s=true:=by unfold tkOk;simpa using h6
 rw [e1,e2] at ht
 have hk2:=kind21_sp s.k x h7 h8
 rw [hok] at hk2
 by_cases hne:pre=[]
 ·subst hne
  refine loop_tree draws (rd:=true) (kn:=K104) (ke:=[(8,.of (.lin 26 1))]) (
   .rw 8052 [] [(52,Vb (decide ((↑i:Int)<(↑(List.length l):Int))),Vb true)]<|.opt 53 (idx (List.map eS l) (↑i:Int)) (eS s)<|.rw 8057 [] [(57,Vb (Stp.k s==(6:Int)),Vb false)]<|.call 69 (66) ([eS s]) ([]) (Fr (V.tup [Vi (1:Int),Vb true]) [])<|.call 82 (67) ([Vu (Stp.k s),eKs [x]]) ([]) (Fr (V.tup [Vu (kind1 (Stp.k s)),Vb true]) [])<|.rw 8095 [] [(95,Vi (IntKind.wrap IntKind.i64 ((↑i:Int)+(1:Int))),Vi (↑(i+1):Int))]<|.to 24000 ([.cut 0])<|.ret (.normal,S104 l cols ([]++[kind1 (Stp.k s)]) (i+1))) (by kernel_rfl) ?_
  exact ⟨⟨tv,cb (by simp<;>omega),tv⟩,(idx_map _ hs),⟨tv,cb (by simp<;>omega),tv⟩,(Sp.fact (ht)),(Sp.fact (hk2)),⟨tv,by simp (disch:=omega) only [cast_succ,wrap_i64],tv⟩,(ih)⟩
 ·refine loop_tree draws (rd:=true) (kn:=K104) (ke:=[(8,.of (.lin 26 1))]) (
   .rw 8052 [] [(52,Vb (decide ((↑i:Int)<(↑(List.length l):Int))),Vb true)]<|.opt 53 (idx (List.map eS l) (↑i:Int)) (eS s)<|.rw 8057 [] [(57,Vb (Stp.k s==(6:Int)),Vb false)]<|.call 69 (66) ([eS s]) ([]) (Fr (V.tup [Vi (1:Int),Vb true]) [])<|.rw 8073 [] [(73,Vi (↑(List.length (List.map (V.int .u8) (pre++[x]))):Int),Vi (↑(List.length pre+1):Int))]<|.rw 8075 [] [(75,Vi (IntKind.wrap IntKind.i64 ((↑(List.length pre+1):Int)-(1:Int))),Vi ((↑(List.length pre+1):Int)-(1:Int)))]<|.chk 81 (decide ((0:Int)≤(↑(List.length pre+1):Int)-(1:Int)∧(↑(List.length pre+1):Int)-(1:Int)≤(↑(List.length (List.map (V.int .u8) (pre++[x]))):Int)∧(↑(List.length (List.map (V.int .u8) (pre++[x]))):Int)≤(↑(List.length (List.map (V.int .u8) (pre++[x]))):Int)))<|.rw 8081 [] [(81,V.imm false 1 (List.drop (Int.toNat ((↑(List.length pre+1):Int)-(1:Int))) (List.take (Int.toNat (↑(List.length (List.map (V.int .u8) (pre++[x]))):Int)) (List.map (V.int .u8) (pre++[x])))),V.imm false 1 [Vu x])]<|.call 82 (67) ([Vu (Stp.k s),eKs [x]]) ([]) (Fr (V.tup [Vu (kind1 (Stp.k s)),Vb true]) [])<|.chk 90 (decide ((0:Int)≤(0:Int)∧(0:Int)≤(↑(List.length pre+1):Int)-(1:Int)∧(↑(List.length pre+1):Int)-(1:Int)≤(↑(List.length (List.map (V.int .u8) (pre++[x]))):Int)))<|.rw 8090 [] [(90,V.imm false 1 (List.drop 0 (List.take (Int.toNat ((↑(List.length pre+1):Int)-(1:Int))) (List.map (V.int .u8) (pre++[x])))),V.imm false 1 (List.map (V.int .u8) pre))]<|.ff 91 (List.isEmpty (List.map (V.int .u8) pre))<|.chk 91 (decide ((0+List.length (List.map (V.int .u8) pre))*1≤140737488355328))<|.rw 8091 [] [(91,V.lin true 26 1 ([]++List.map (V.int .u8) pre),V.lin true 26 1 (List.map (V.int .u8) pre))]<|.chk 94 (decide ((List.length (List.map (V.int .u8) pre)+1)*1≤140737488355328))<|.rw 8094 [] [(94,V.lin true 26 1 (List.map (V.int .u8) pre++[Vu (kind1 (Stp.k s))]),V.lin true 26 1 (List.map (V.int .u8) (pre++[kind1 (Stp.k s)])))]<|.rw 8095 [] [(95,Vi (IntKind.wrap IntKind.i64 ((↑i:Int)+(1:Int))),Vi (↑(i+1):Int))]<|.to 24000 ([.cut 0])<|.ret (.normal,S104 l cols (pre++[kind1 (Stp.k s)]) (i+1))) (by kernel_rfl) ?_
  exact ⟨⟨tv,cb (by simp<;>omega),tv⟩,(idx_map _ hs),⟨tv,cb (by simp<;>omega),tv⟩,(Sp.fact (ht)),⟨tv,by simp (disch:=omega) only [List.length_map,List.length_append,List.length_cons,List.length_nil,Nat.zero_add],tv⟩,⟨tv,by simp (disch:=omega) only [wrap_i64],tv⟩,by simp<;>omega,⟨tv,by simp (disch:=omega) only [List.length_map,List.length_append,List.length_cons,List.length_nil,Nat.zero_add,Int.toNat_natCast,tail1],tv⟩,(Sp.fact (hk2)),by simp<;>omega,⟨tv,by simp (disch:=omega) only [take1,List.drop_zero],tv⟩,by simp [hne],by simp<;>omega,⟨tv,by simp (disch:=omega) only [List.nil_append],tv⟩,by simp<;>omega,⟨tv,by simp (disch:=omega) only [app_int],tv⟩,⟨tv,by simp (disch:=omega) only [cast_succ,wrap_i64],tv⟩,(ih)⟩
theorem k104_2a (l:List Stp) (cols:List Cl) (pre fin:List Int) (x y:Int) (i:Nat) (s:Stp) (hb:l.length≤64) (hst:pre.length+2≤i) (hs:l[i]?=some s) (hf:FineS s) (h6:TkOk s) (h7:11≤s.k) (h8:s.k≤21) (hok:kind2ok s.k x y=true)
   (ih:LoopK C1 27 104 K104 (S104 l cols (pre++[kind2 s.k]) (i+1)) (.exit 2) (F104 fin)):LoopK C1 27 104 K104 (S104 l cols (pre++[x,y]) i) (.exit 2) (F104 fin):=by
 have hi:=(List.getElem?_eq_some_iff.1 hs).1
 have ht:=takes2_sp s hf (by omega)
 have e1:tkN s=2:=by unfold tkN;rw [if_neg (by simpa using h6),if_neg (by omega),if_neg (by omega)]
 have e2:tkOk s=true:=by unfold tkOk;simpa using h6
 rw [e1,e2] at ht
 have hk2:=kind22_sp s.k x y h7 h8
 rw [hok] at hk2
 by_cases hne:pre=[]
 ·subst hne
  refine loop_tree draws (rd:=true) (kn:=K104) (ke:=[(8,.of (.lin 26 1))]) (
   .rw 8052 [] [(52,Vb (decide ((↑i:Int)<(↑(List.length l):Int))),Vb true)]<|.opt 53 (idx (List.map eS l) (↑i:Int)) (eS s)<|.rw 8057 [] [(57,Vb (Stp.k s==(6:Int)),Vb false)]<|.call 69 (66) ([eS s]) ([]) (Fr (V.tup [Vi (2:Int),Vb true]) [])<|.call 82 (67) ([Vu (Stp.k s),eKs [x,y]]) ([]) (Fr (V.tup [Vu (kind2 (Stp.k s)),Vb true]) [])<|.rw 8095 [] [(95,Vi (IntKind.wrap IntKind.i64 ((↑i:Int)+(1:Int))),Vi (↑(i+1):Int))]<|.to 24000 ([.cut 0])<|.ret (.normal,S104 l cols ([]++[kind2 (Stp.k s)]) (i+1))) (by kernel_rfl) ?_
  exact ⟨⟨tv,cb (by simp<;>omega),tv⟩,(idx_map _ hs),⟨tv,cb (by simp<;>omega),tv⟩,(Sp.fact (ht)),(Sp.fact (hk2)),⟨tv,by simp (disch:=omega) only [cast_succ,wrap_i64],tv⟩,(ih)⟩
 ·refine loop_tree draws (rd:=true) (kn:=K104) (ke:=[(8,.of (.lin 26 1))]) (
   .rw 8052 [] [(52,Vb (decide ((↑i:Int)<(↑(List.length l):Int))),Vb true)]<|.opt 53 (idx (List.map eS l) (↑i:Int)) (eS s)<|.rw 8057 [] [(57,Vb (Stp.k s==(6:Int)),Vb false)]<|.call 69 (66) ([eS s]) ([]) (Fr (V.tup [Vi (2:Int),Vb true]) [])<|.rw 8073 [] [(73,Vi (↑(List.length (List.map (V.int .u8) (pre++[x,y]))):Int),Vi (↑(List.length pre+(1+1)):Int))]<|.rw 8075 [] [(75,Vi (IntKind.wrap IntKind.i64 ((↑(List.length pre+2):Int)-(2:Int))),Vi ((↑(List.length pre+2):Int)-(2:Int)))]<|.chk 81 (decide ((0:Int)≤(↑(List.length pre+2):Int)-(2:Int)∧(↑(List.length pre+2):Int)-(2:Int)≤(↑(List.length (List.map (V.int .u8) (pre++[x,y]))):Int)∧(↑(List.length (List.map (V.int .u8) (pre++[x,y]))):Int)≤(↑(List.length (List.map (V.int .u8) (pre++[x,y]))):Int)))<|.rw 8081 [] [(81,V.imm false 1 (List.drop (Int.toNat ((↑(List.length pre+2):Int)-(2:Int))) (List.take (Int.toNat (↑(List.length (List.map (V.int .u8) (pre++[x,y]))):Int)) (List.map (V.int .u8) (pre++[x,y])))),V.imm false 1 [Vu x,Vu y])]<|.call 82 (67) ([Vu (Stp.k s),eKs [x,y]]) ([]) (Fr (V.tup [Vu (kind2 (Stp.k s)),Vb true]) [])<|.chk 90 (decide ((0:Int)≤(0:Int)∧(0:Int)≤(↑(List.length pre+2):Int)-(2:Int)∧(↑(List.length pre+2):Int)-(2:Int)≤(↑(List.length (List.map (V.int .u8) (pre++[x,y]))):Int)))<|.rw 8090 [] [(90,V.imm false 1 (List.drop 0 (List.take (Int.toNat ((↑(List.length pre+2):Int)-(2:Int))) (List.map (V.int .u8) (pre++[x,y])))),V.imm false 1 (List.map (V.int .u8) pre))]<|.ff 91 (List.isEmpty (List.map (V.int .u8) pre))<|.chk 91 (decide ((0+List.length (List.map (V.int .u8) pre))*1≤140737488355328))<|.rw 8091 [] [(91,V.lin true 26 1 ([]++List.map (V.int .u8) pre),V.lin true 26 1 (List.map (V.int .u8) pre))]<|.chk 94 (decide ((List.length (List.map (V.int .u8) pre)+1)*1≤140737488355328))<|.rw 8094 [] [(94,V.lin true 26 1 (List.map (V.int .u8) pre++[Vu (kind2 (Stp.k s))]),V.lin true 26 1 (List.map (V.int .u8) (pre++[kind2 (Stp.k s)])))]<|.rw 8095 [] [(95,Vi (IntKind.wrap IntKind.i64 ((↑i:Int)+(1:Int))),Vi (↑(i+1):Int))]<|.to 24000 ([.cut 0])<|.ret (.normal,S104 l cols (pre++[kind2 (Stp.k s)]) (i+1))) (by kernel_rfl) ?_
  exact ⟨⟨tv,cb (by simp<;>omega),tv⟩,(idx_map _ hs),⟨tv,cb (by simp<;>omega),tv⟩,(Sp.fact (ht)),⟨tv,by simp (disch:=omega) only [List.length_map,List.length_append,List.length_cons,List.length_nil,Nat.zero_add],tv⟩,⟨tv,by simp (disch:=omega) only [wrap_i64],tv⟩,by simp<;>omega,⟨tv,by simp (disch:=omega) only [List.length_map,List.length_append,List.length_cons,List.length_nil,Nat.zero_add,Int.toNat_natCast,tail2],tv⟩,(Sp.fact (hk2)),by simp<;>omega,⟨tv,by simp (disch:=omega) only [take2,List.drop_zero],tv⟩,by simp [hne],by simp<;>omega,⟨tv,by simp (disch:=omega) only [List.nil_append],tv⟩,by simp<;>omega,⟨tv,by simp (disch:=omega) only [app_int],tv⟩,⟨tv,by simp (disch:=omega) only [cast_succ,wrap_i64],tv⟩,(ih)⟩
theorem k104_colb (l:List Stp) (cols:List Cl) (st fin:List Int) (i:Nat) (s:Stp) (hb:l.length≤64) (hst:st.length≤i) (hs:l[i]?=some s) (h6:s.k=6) (m:Nat) (c:Cl) (hn:s.n=(m:Int)) (hc:cols[m]?=some c)
   (ih:LoopK C1 27 104 K104 (S104 l cols (st++[c.k]) (i+1)) .ret R104):LoopK C1 27 104 K104 (S104 l cols st i) .ret R104:=by
 have hi:=(List.getElem?_eq_some_iff.1 hs).1
 have hi2:idx (cols.map eC) s.n=some (eC c):=by rw [hn];exact idx_map eC hc
 refine loop_tree draws (rd:=true) (kn:=K104) (ke:=(keeps [4,5])) (
  .rw 8052 [] [(52,Vb (decide ((↑i:Int)<(↑(List.length l):Int))),Vb true)]<|.opt 53 (idx (List.map eS l) (↑i:Int)) (eS s)<|.rw 8057 [] [(57,Vb (Stp.k s==(6:Int)),Vb true)]<|.opt 62 (idx (List.map eC cols) (Stp.n s)) (eC c)<|.chk 66 (decide ((List.length (List.map (V.int .u8) st)+1)*1≤140737488355328))<|.rw 8066 [] [(66,V.lin true 26 1 (List.map (V.int .u8) st++[Vu (Cl.k c)]),V.lin true 26 1 (List.map (V.int .u8) (st++[Cl.k c])))]<|.rw 8095 [] [(95,Vi (IntKind.wrap IntKind.i64 ((↑i:Int)+(1:Int))),Vi (↑(i+1):Int))]<|.to 24000 ([.cut 0])<|.ret (.normal,S104 l cols (st++[Cl.k c]) (i+1))) (by kernel_rfl) ?_
 exact ⟨⟨tv,cb (by simp<;>omega),tv⟩,(idx_map _ hs),⟨tv,cb (by simp<;>omega),tv⟩,(hi2),by simp<;>omega,⟨tv,by simp (disch:=omega) only [app_int],tv⟩,⟨tv,by simp (disch:=omega) only [cast_succ,wrap_i64],tv⟩,(ih)⟩
theorem k104_0b (l:List Stp) (cols:List Cl) (st fin:List Int) (i:Nat) (s:Stp) (hb:l.length≤64) (hst:st.length≤i) (hs:l[i]?=some s) (hf:FineS s) (h6:TkOk s) (h7:s.k≤5)
  (ih:LoopK C1 27 104 K104 (S104 l cols (st++[kind0 s.k]) (i+1)) .ret R104):LoopK C1 27 104 K104 (S104 l cols st i) .ret R104:=by
 have hi:=(List.getElem?_eq_some_iff.1 hs).1
 have hk:1≤s.k:=h6.1
 have ht:=takes2_sp s hf (by omega)
 have e1:tkN s=0:=by unfold tkN;rw [if_neg (by simpa using h6),if_pos (by omega)]
 have e2:tkOk s=true:=by unfold tkOk;simpa using h6
 rw [e1,e2] at ht
 have hk2:=kind20_sp s.k [] hk h7
 by_cases hne:st=[]
 ·subst hne
  refine loop_tree draws (rd:=true) (kn:=K104) (ke:=(keeps [4,5])) (
   .rw 8052 [] [(52,Vb (decide ((↑i:Int)<(↑(List.length l):Int))),Vb true)]<|.opt 53 (idx (List.map eS l) (↑i:Int)) (eS s)<|.rw 8057 [] [(57,Vb (Stp.k s==(6:Int)),Vb false)]<|.call 69 (66) ([eS s]) ([]) (Fr (V.tup [Vi (0:Int),Vb true]) [])<|.call 82 (67) ([Vu (Stp.k s),eKs []]) ([]) (Fr (V.tup [Vu (kind0 (Stp.k s)),Vb true]) [])<|.rw 8095 [] [(95,Vi (IntKind.wrap IntKind.i64 ((↑i:Int)+(1:Int))),Vi (↑(i+1):Int))]<|.to 24000 ([.cut 0])<|.ret (.normal,S104 l cols ([]++[kind0 (Stp.k s)]) (i+1))) (by kernel_rfl) ?_
  exact ⟨⟨tv,cb (by simp<;>omega),tv⟩,(idx_map _ hs),⟨tv,cb (by simp<;>omega),tv⟩,(Sp.fact (ht)),(Sp.fact (hk2)),⟨tv,by simp (disch:=omega) only [cast_succ,wrap_i64],tv⟩,(ih)⟩
 ·refine loop_tree draws (rd:=true) (kn:=K104) (ke:=(keeps [4,5])) (
   .rw 8052 [] [(52,Vb (decide ((↑i:Int)<(↑(List.length l):Int))),Vb true)]<|.opt 53 (idx (List.map eS l) (↑i:Int)) (eS s)<|.rw 8057 [] [(57,Vb (Stp.k s==(6:Int)),Vb false)]<|.call 69 (66) ([eS s]) ([]) (Fr (V.tup [Vi (0:Int),Vb true]) [])<|.rw 8073 [] [(73,Vi (↑(List.length (List.map (V.int .u8) st)):Int),Vi (↑(List.length st):Int))]<|.rw 8075 [] [(75,Vi (IntKind.wrap IntKind.i64 ((↑(List.length st):Int)-(0:Int))),Vi ((↑(List.length st):Int)-(0:Int)))]<|.chk 81 (decide ((0:Int)≤(↑(List.length st):Int)-(0:Int)∧(↑(List.length st):Int)-(0:Int)≤(↑(List.length (List.map (V.int .u8) st)):Int)∧(↑(List.length (List.map (V.int .u8) st)):Int)≤(↑(List.length (List.map (V.int .u8) st)):Int)))<|.rw 8081 [] [(81,V.imm false 1 (List.drop (Int.toNat ((↑(List.length st):Int)-(0:Int))) (List.take (Int.toNat (↑(List.length (List.map (V.int .u8) st)):Int)) (List.map (V.int .u8) st))),V.imm false 1 [])]<|.call 82 (67) ([Vu (Stp.k s),eKs []]) ([]) (Fr (V.tup [Vu (kind0 (Stp.k s)),Vb true]) [])<|.chk 90 (decide ((0:Int)≤(0:Int)∧(0:Int)≤(↑(List.length st):Int)-(0:Int)∧(↑(List.length st):Int)-(0:Int)≤(↑(List.length (List.map (V.int .u8) st)):Int)))<|.rw 8090 [] [(90,V.imm false 1 (List.drop 0 (List.take (Int.toNat ((↑(List.length st):Int)-(0:Int))) (List.map (V.int .u8) st))),V.imm false 1 (List.map (V.int .u8) st))]<|.ff 91 (List.isEmpty (List.map (V.int .u8) st))<|.chk 91 (decide ((0+List.length (List.map (V.int .u8) st))*1≤140737488355328))<|.rw 8091 [] [(91,V.lin true 26 1 ([]++List.map (V.int .u8) st),V.lin true 26 1 (List.map (V.int .u8) st))]<|.chk 94 (decide ((List.length (List.map (V.int .u8) st)+1)*1≤140737488355328))<|.rw 8094 [] [(94,V.lin true 26 1 (List.map (V.int .u8) st++[Vu (kind0 (Stp.k s))]),V.lin true 26 1 (List.map (V.int .u8) (st++[kind0 (Stp.k s)])))]<|.rw 8095 [] [(95,Vi (IntKind.wrap IntKind.i64 ((↑i:Int)+(1:Int))),Vi (↑(i+1):Int))]<|.to 24000 ([.cut 0])<|.ret (.normal,S104 l cols (st++[kind0 (Stp.k s)]) (i+1))) (by kernel_rfl) ?_
  exact ⟨⟨tv,cb (by simp<;>omega),tv⟩,(idx_map _ hs),⟨tv,cb (by simp<;>omega),tv⟩,(Sp.fact (ht)),⟨tv,by simp (disch:=omega) only [List.length_map],tv⟩,⟨tv,by simp (disch:=omega) only [wrap_i64],tv⟩,by simp [hne],⟨tv,by simp (disch:=omega) only [List.length_map,Int.toNat_natCast,tail0],tv⟩,(Sp.fact (hk2)),by simp [hne],⟨tv,by simp (disch:=omega) only [take0,List.drop_zero],tv⟩,by simp [hne],by simp<;>omega,⟨tv,by simp (disch:=omega) only [List.nil_append],tv⟩,by simp<;>omega,⟨tv,by simp (disch:=omega) only [app_int],tv⟩,⟨tv,by simp (disch:=omega) only [cast_succ,wrap_i64],tv⟩,(ih)⟩
theorem k104_1b (l:List Stp) (cols:List Cl) (pre fin:List Int) (x:Int) (i:Nat) (s:Stp) (hb:l.length≤64) (hst:pre.length+1≤i) (hs:l[i]?=some s) (hf:FineS s) (h6:TkOk s) (h7:7≤s.k) (h8:s.k≤10) (hok:kind1ok s.k x=true)
   (ih:LoopK C1 27 104 K104 (S104 l cols (pre++[kind1 s.k]) (i+1)) .ret R104):LoopK C1 27 104 K104 (S104 l cols (pre++[x]) i) .ret R104:=by
 have hi:=(List.getElem?_eq_some_iff.1 hs).1
 have ht:=takes2_sp s hf (by omega)
 have e1:tkN s=1:=by unfold tkN;rw [if_neg (by simpa using h6),if_neg (by omega),if_pos (by omega)]
 have e2:tkOk s=true:=by unfold tkOk;simpa using h6
 rw [e1,e2] at ht
 have hk2:=kind21_sp s.k x h7 h8
 rw [hok] at hk2
 by_cases hne:pre=[]
 ·subst hne
  refine loop_tree draws (rd:=true) (kn:=K104) (ke:=(keeps [4,5])) (
   .rw 8052 [] [(52,Vb (decide ((↑i:Int)<(↑(List.length l):Int))),Vb true)]<|.opt 53 (idx (List.map eS l) (↑i:Int)) (eS s)<|.rw 8057 [] [(57,Vb (Stp.k s==(6:Int)),Vb false)]<|.call 69 (66) ([eS s]) ([]) (Fr (V.tup [Vi (1:Int),Vb true]) [])<|.call 82 (67) ([Vu (Stp.k s),eKs [x]]) ([]) (Fr (V.tup [Vu (kind1 (Stp.k s)),Vb true]) [])<|.rw 8095 [] [(95,Vi (IntKind.wrap IntKind.i64 ((↑i:Int)+(1:Int))),Vi (↑(i+1):Int))]<|.to 24000 ([.cut 0])<|.ret (.normal,S104 l cols ([]++[kind1 (Stp.k s)]) (i+1))) (by kernel_rfl) ?_
  exact ⟨⟨tv,cb (by simp<;>omega),tv⟩,(idx_map _ hs),⟨tv,cb (by simp<;>omega),tv⟩,(Sp.fact (ht)),(Sp.fact (hk2)),⟨tv,by simp (disch:=omega) only [cast_succ,wrap_i64],tv⟩,(ih)⟩
 ·refine loop_tree draws (rd:=true) (kn:=K104) (ke:=(keeps [4,5])) (
   .rw 8052 [] [(52,Vb (decide ((↑i:Int)<(↑(List.length l):Int))),Vb true)]<|.opt 53 (idx (List.map eS l) (↑i:Int)) (eS s)<|.rw 8057 [] [(57,Vb (Stp.k s==(6:Int)),Vb false)]<|.call 69 (66) ([eS s]) ([]) (Fr (V.tup [Vi (1:Int),Vb true]) [])<|.rw 8073 [] [(73,Vi (↑(List.length (List.map (V.int .u8) (pre++[x]))):Int),Vi (↑(List.length pre+1):Int))]<|.rw 8075 [] [(75,Vi (IntKind.wrap IntKind.i64 ((↑(List.length pre+1):Int)-(1:Int))),Vi ((↑(List.length pre+1):Int)-(1:Int)))]<|.chk 81 (decide ((0:Int)≤(↑(List.length pre+1):Int)-(1:Int)∧(↑(List.length pre+1):Int)-(1:Int)≤(↑(List.length (List.map (V.int .u8) (pre++[x]))):Int)∧(↑(List.length (List.map (V.int .u8) (pre++[x]))):Int)≤(↑(List.length (List.map (V.int .u8) (pre++[x]))):Int)))<|.rw 8081 [] [(81,V.imm false 1 (List.drop (Int.toNat ((↑(List.length pre+1):Int)-(1:Int))) (List.take (Int.toNat (↑(List.length (List.map (V.int .u8) (pre++[x]))):Int)) (List.map (V.int .u8) (pre++[x])))),V.imm false 1 [Vu x])]<|.call 82 (67) ([Vu (Stp.k s),eKs [x]]) ([]) (Fr (V.tup [Vu (kind1 (Stp.k s)),Vb true]) [])<|.chk 90 (decide ((0:Int)≤(0:Int)∧(0:Int)≤(↑(List.length pre+1):Int)-(1:Int)∧(↑(List.length pre+1):Int)-(1:Int)≤(↑(List.length (List.map (V.int .u8) (pre++[x]))):Int)))<|.rw 8090 [] [(90,V.imm false 1 (List.drop 0 (List.take (Int.toNat ((↑(List.length pre+1):Int)-(1:Int))) (List.map (V.int .u8) (pre++[x])))),V.imm false 1 (List.map (V.int .u8) pre))]<|.ff 91 (List.isEmpty (List.map (V.int .u8) pre))<|.chk 91 (decide ((0+List.length (List.map (V.int .u8) pre))*1≤140737488355328))<|.rw 8091 [] [(91,V.lin true 26 1 ([]++List.map (V.int .u8) pre),V.lin true 26 1 (List.map (V.int .u8) pre))]<|.chk 94 (decide ((List.length (List.map (V.int .u8) pre)+1)*1≤140737488355328))<|.rw 8094 [] [(94,V.lin true 26 1 (List.map (V.int .u8) pre++[Vu (kind1 (Stp.k s))]),V.lin true 26 1 (List.map (V.int .u8) (pre++[kind1 (Stp.k s)])))]<|.rw 8095 [] [(95,Vi (IntKind.wrap IntKind.i64 ((↑i:Int)+(1:Int))),Vi (↑(i+1):Int))]<|.to 24000 ([.cut 0])<|.ret (.normal,S104 l cols (pre++[kind1 (Stp.k s)]) (i+1))) (by kernel_rfl) ?_
  exact ⟨⟨tv,cb (by simp<;>omega),tv⟩,(idx_map _ hs),⟨tv,cb (by simp<;>omega),tv⟩,(Sp.fact (ht)),⟨tv,by simp (disch:=omega) only [List.length_map,List.length_append,List.length_cons,List.length_nil,Nat.zero_add],tv⟩,⟨tv,by simp (disch:=omega) only [wrap_i64],tv⟩,by simp<;>omega,⟨tv,by simp (disch:=omega) only [List.length_map,List.length_append,List.length_cons,List.length_nil,Nat.zero_add,Int.toNat_natCast,tail1],tv⟩,(Sp.fact (hk2)),by simp<;>omega,⟨tv,by simp (disch:=omega) only [take1,List.drop_zero],tv⟩,by simp [hne],by simp<;>omega,⟨tv,by simp (disch:=omega) only [List.nil_append],tv⟩,by simp<;>omega,⟨tv,by simp (disch:=omega) only [app_int],tv⟩,⟨tv,by simp (disch:=omega) only [cast_succ,wrap_i64],tv⟩,(ih)⟩
theorem k104_2b (l:List Stp) (cols:List Cl) (pre fin:List Int) (x y:Int) (i:Nat) (s:Stp) (hb:l.length≤64) (hst:pre.length+2≤i) (hs:l[i]?=some s) (hf:FineS s) (h6:TkOk s) (h7:11≤s.k) (h8:s.k≤21) (hok:kind2ok s.k x y=true)
   (ih:LoopK C1 27 104 K104 (S104 l cols (pre++[kind2 s.k]) (i+1)) .ret R104):LoopK C1 27 104 K104 (S104 l cols (pre++[x,y]) i) .ret R104:=by
 have hi:=(List.getElem?_eq_some_iff.1 hs).1
 have ht:=takes2_sp s hf (by omega)
 have e1:tkN s=2:=by unfold tkN;rw [if_neg (by simpa using h6),if_neg (by omega),if_neg (by omega)]
 have e2:tkOk s=true:=by unfold tkOk;simpa using h6
 rw [e1,e2] at ht
 have hk2:=kind22_sp s.k x y h7 h8
 rw [hok] at hk2
 by_cases hne:pre=[]
 ·subst hne
  refine loop_tree draws (rd:=true) (kn:=K104) (ke:=(keeps [4,5])) (
   .rw 8052 [] [(52,Vb (decide ((↑i:Int)<(↑(List.length l):Int))),Vb true)]<|.opt 53 (idx (List.map eS l) (↑i:Int)) (eS s)<|.rw 8057 [] [(57,Vb (Stp.k s==(6:Int)),Vb false)]<|.call 69 (66) ([eS s]) ([]) (Fr (V.tup [Vi (2:Int),Vb true]) [])<|.call 82 (67) ([Vu (Stp.k s),eKs [x,y]]) ([]) (Fr (V.tup [Vu (kind2 (Stp.k s)),Vb true]) [])<|.rw 8095 [] [(95,Vi (IntKind.wrap IntKind.i64 ((↑i:Int)+(1:Int))),Vi (↑(i+1):Int))]<|.to 24000 ([.cut 0])<|.ret (.normal,S104 l cols ([]++[kind2 (Stp.k s)]) (i+1))) (by kernel_rfl) ?_
  exact ⟨⟨tv,cb (by simp<;>omega),tv⟩,(idx_map _ hs),⟨tv,cb (by simp<;>omega),tv⟩,(Sp.fact (ht)),(Sp.fact (hk2)),⟨tv,by simp (disch:=omega) only [cast_succ,wrap_i64],tv⟩,(ih)⟩
 ·refine loop_tree draws (rd:=true) (kn:=K104) (ke:=(keeps [4,5])) (
   .rw 8052 [] [(52,Vb (decide ((↑i:Int)<(↑(List.length l):Int))),Vb true)]<|.opt 53 (idx (List.map eS l) (↑i:Int)) (eS s)<|.rw 8057 [] [(57,Vb (Stp.k s==(6:Int)),Vb false)]<|.call 69 (66) ([eS s]) ([]) (Fr (V.tup [Vi (2:Int),Vb true]) [])<|.rw 8073 [] [(73,Vi (↑(List.length (List.map (V.int .u8) (pre++[x,y]))):Int),Vi (↑(List.length pre+(1+1)):Int))]<|.rw 8075 [] [(75,Vi (IntKind.wrap IntKind.i64 ((↑(List.length pre+2):Int)-(2:Int))),Vi ((↑(List.length pre+2):Int)-(2:Int)))]<|.chk 81 (decide ((0:Int)≤(↑(List.length pre+2):Int)-(2:Int)∧(↑(List.length pre+2):Int)-(2:Int)≤(↑(List.length (List.map (V.int .u8) (pre++[x,y]))):Int)∧(↑(List.length (List.map (V.int .u8) (pre++[x,y]))):Int)≤(↑(List.length (List.map (V.int .u8) (pre++[x,y]))):Int)))<|.rw 8081 [] [(81,V.imm false 1 (List.drop (Int.toNat ((↑(List.length pre+2):Int)-(2:Int))) (List.take (Int.toNat (↑(List.length (List.map (V.int .u8) (pre++[x,y]))):Int)) (List.map (V.int .u8) (pre++[x,y])))),V.imm false 1 [Vu x,Vu y])]<|.call 82 (67) ([Vu (Stp.k s),eKs [x,y]]) ([]) (Fr (V.tup [Vu (kind2 (Stp.k s)),Vb true]) [])<|.chk 90 (decide ((0:Int)≤(0:Int)∧(0:Int)≤(↑(List.length pre+2):Int)-(2:Int)∧(↑(List.length pre+2):Int)-(2:Int)≤(↑(List.length (List.map (V.int .u8) (pre++[x,y]))):Int)))<|.rw 8090 [] [(90,V.imm false 1 (List.drop 0 (List.take (Int.toNat ((↑(List.length pre+2):Int)-(2:Int))) (List.map (V.int .u8) (pre++[x,y])))),V.imm false 1 (List.map (V.int .u8) pre))]<|.ff 91 (List.isEmpty (List.map (V.int .u8) pre))<|.chk 91 (decide ((0+List.length (List.map (V.int .u8) pre))*1≤140737488355328))<|.rw 8091 [] [(91,V.lin true 26 1 ([]++List.map (V.int .u8) pre),V.lin true 26 1 (List.map (V.int .u8) pre))]<|.chk 94 (decide ((List.length (List.map (V.int .u8) pre)+1)*1≤140737488355328))<|.rw 8094 [] [(94,V.lin true 26 1 (List.map (V.int .u8) pre++[Vu (kind2 (Stp.k s))]),V.lin true 26 1 (List.map (V.int .u8) (pre++[kind2 (Stp.k s)])))]<|.rw 8095 [] [(95,Vi (IntKind.wrap IntKind.i64 ((↑i:Int)+(1:Int))),Vi (↑(i+1):Int))]<|.to 24000 ([.cut 0])<|.ret (.normal,S104 l cols (pre++[kind2 (Stp.k s)]) (i+1))) (by kernel_rfl) ?_
  exact ⟨⟨tv,cb (by simp<;>omega),tv⟩,(idx_map _ hs),⟨tv,cb (by simp<;>omega),tv⟩,(Sp.fact (ht)),⟨tv,by simp (disch:=omega) only [List.length_map,List.length_append,List.length_cons,List.length_nil,Nat.zero_add],tv⟩,⟨tv,by simp (disch:=omega) only [wrap_i64],tv⟩,by simp<;>omega,⟨tv,by simp (disch:=omega) only [List.length_map,List.length_append,List.length_cons,List.length_nil,Nat.zero_add,Int.toNat_natCast,tail2],tv⟩,(Sp.fact (hk2)),by simp<;>omega,⟨tv,by simp (disch:=omega) only [take2,List.drop_zero],tv⟩,by simp [hne],by simp<;>omega,⟨tv,by simp (disch:=omega) only [List.nil_append],tv⟩,by simp<;>omega,⟨tv,by simp (disch:=omega) only [app_int],tv⟩,⟨tv,by simp (disch:=omega) only [cast_succ,wrap_i64],tv⟩,(ih)⟩
end Go.Fw
set_option maxHeartbeats 20000000
namespace Go.Fw
open Go.Proofs
theorem k104_1x (l:List Stp) (cols:List Cl) (pre:List Int) (x:Int) (i:Nat) (s:Stp) (hb:l.length≤64) (hst:pre.length+1≤i) (hs:l[i]?=some s) (hf:FineS s) (h6:TkOk s) (h7:7≤s.k) (h8:s.k≤10) (hok:kind1ok s.k x=false):LoopK C1 27 104 K104 (S104 l cols (pre++[x]) i) .ret R104:=by
 have hi:=(List.getElem?_eq_some_iff.1 hs).1
 have ht:=takes2_sp s hf (by omega)
 have e1:tkN s=1:=by unfold tkN;rw [if_neg (by simpa using h6),if_neg (by omega),if_pos (by omega)]
 have e2:tkOk s=true:=by unfold tkOk;simpa using h6
 rw [e1,e2] at ht
 have hk2:=kind21_sp s.k x h7 h8
 rw [hok] at hk2
 refine loop_tree draws (rd:=true) (kn:=K104) (ke:=(keeps [4,5])) (
  .rw 8052 [] [(52,Vb (decide ((↑i:Int)<(↑(List.length l):Int))),Vb true)]<|.opt 53 (idx (List.map eS l) (↑i:Int)) (eS s)<|.rw 8057 [] [(57,Vb (Stp.k s==(6:Int)),Vb false)]<|.call 69 (66) ([eS s]) ([]) (Fr (V.tup [Vi (1:Int),Vb true]) [])<|.rw 8073 [] [(73,Vi (↑(List.length (List.map (V.int .u8) (pre++[x]))):Int),Vi (↑(List.length pre+1):Int))]<|.rw 8075 [] [(75,Vi (IntKind.wrap IntKind.i64 ((↑(List.length pre+1):Int)-(1:Int))),Vi ((↑(List.length pre+1):Int)-(1:Int)))]<|.chk 81 (decide ((0:Int)≤(↑(List.length pre+1):Int)-(1:Int)∧(↑(List.length pre+1):Int)-(1:Int)≤(↑(List.length (List.map (V.int .u8) (pre++[x]))):Int)∧(↑(List.length (List.map (V.int .u8) (pre++[x]))):Int)≤(↑(List.length (List.map (V.int .u8) (pre++[x]))):Int)))<|.rw 8081 [] [(81,V.imm false 1 (List.drop (Int.toNat ((↑(List.length pre+1):Int)-(1:Int))) (List.take (Int.toNat (↑(List.length (List.map (V.int .u8) (pre++[x]))):Int)) (List.map (V.int .u8) (pre++[x])))),V.imm false 1 [Vu x])]<|.call 82 (67) ([Vu (Stp.k s),eKs [x]]) ([]) (Fr (V.tup [Vu (kind1 (Stp.k s)),Vb false]) [])<|.to 24001 ([.cut 0])<|.ret ((Ex.ret,mkSt 99 [(4,Vu (0:Int)),(5,Vi (5:Int))] []))) (by kernel_rfl) ?_
 exact ⟨⟨tv,cb (by simp<;>omega),tv⟩,(idx_map _ hs),⟨tv,cb (by simp<;>omega),tv⟩,(Sp.fact (ht)),⟨tv,by simp (disch:=omega) only [List.length_map,List.length_append,List.length_cons,List.length_nil,Nat.zero_add],tv⟩,⟨tv,by simp (disch:=omega) only [wrap_i64],tv⟩,by simp<;>omega,⟨tv,by simp (disch:=omega) only [List.length_map,List.length_append,List.length_cons,List.length_nil,Nat.zero_add,Int.toNat_natCast,tail1],tv⟩,(Sp.fact (hk2)),rfl,rfl⟩
theorem k104_2x (l:List Stp) (cols:List Cl) (pre:List Int) (x y:Int) (i:Nat) (s:Stp) (hb:l.length≤64) (hst:pre.length+2≤i) (hs:l[i]?=some s) (hf:FineS s) (h6:TkOk s) (h7:11≤s.k) (h8:s.k≤21) (hok:kind2ok s.k x y=false):LoopK C1 27 104 K104 (S104 l cols (pre++[x,y]) i) .ret R104:=by
 have hi:=(List.getElem?_eq_some_iff.1 hs).1
 have ht:=takes2_sp s hf (by omega)
 have e1:tkN s=2:=by unfold tkN;rw [if_neg (by simpa using h6),if_neg (by omega),if_neg (by omega)]
 have e2:tkOk s=true:=by unfold tkOk;simpa using h6
 rw [e1,e2] at ht
 have hk2:=kind22_sp s.k x y h7 h8
 rw [hok] at hk2
 refine loop_tree draws (rd:=true) (kn:=K104) (ke:=(keeps [4,5])) (
  .rw 8052 [] [(52,Vb (decide ((↑i:Int)<(↑(List.length l):Int))),Vb true)]<|.opt 53 (idx (List.map eS l) (↑i:Int)) (eS s)<|.rw 8057 [] [(57,Vb (Stp.k s==(6:Int)),Vb false)]<|.call 69 (66) ([eS s]) ([]) (Fr (V.tup [Vi (2:Int),Vb true]) [])<|.rw 8073 [] [(73,Vi (↑(List.length (List.map (V.int .u8) (pre++[x,y]))):Int),Vi (↑(List.length pre+(1+1)):Int))]<|.rw 8075 [] [(75,Vi (IntKind.wrap IntKind.i64 ((↑(List.length pre+2):Int)-(2:Int))),Vi ((↑(List.length pre+2):Int)-(2:Int)))]<|.chk 81 (decide ((0:Int)≤(↑(List.length pre+2):Int)-(2:Int)∧(↑(List.length pre+2):Int)-(2:Int)≤(↑(List.length (List.map (V.int .u8) (pre++[x,y]))):Int)∧(↑(List.length (List.map (V.int .u8) (pre++[x,y]))):Int)≤(↑(List.length (List.map (V.int .u8) (pre++[x,y]))):Int)))<|.rw 8081 [] [(81,V.imm false 1 (List.drop (Int.toNat ((↑(List.length pre+2):Int)-(2:Int))) (List.take (Int.toNat (↑(List.length (List.map (V.int .u8) (pre++[x,y]))):Int)) (List.map (V.int .u8) (pre++[x,y])))),V.imm false 1 [Vu x,Vu y])]<|.call 82 (67) ([Vu (Stp.k s),eKs [x,y]]) ([]) (Fr (V.tup [Vu (kind2 (Stp.k s)),Vb false]) [])<|.to 24001 ([.cut 0])<|.ret ((Ex.ret,mkSt 99 [(4,Vu (0:Int)),(5,Vi (5:Int))] []))) (by kernel_rfl) ?_
 exact ⟨⟨tv,cb (by simp<;>omega),tv⟩,(idx_map _ hs),⟨tv,cb (by simp<;>omega),tv⟩,(Sp.fact (ht)),⟨tv,by simp (disch:=omega) only [List.length_map,List.length_append,List.length_cons,List.length_nil,Nat.zero_add],tv⟩,⟨tv,by simp (disch:=omega) only [wrap_i64],tv⟩,by simp<;>omega,⟨tv,by simp (disch:=omega) only [List.length_map,List.length_append,List.length_cons,List.length_nil,Nat.zero_add,Int.toNat_natCast,tail2],tv⟩,(Sp.fact (hk2)),rfl,rfl⟩
theorem k104_end (l:List Stp) (cols:List Cl) (st:List Int) (i:Nat) (hi:i=l.length) (hb:l.length≤64):LoopK C1 27 104 K104 (S104 l cols st i) (.exit 2) (F104 st):=by
 refine loop_tree draws (rd:=true) (kn:=K104) (ke:=[(8,.of (.lin 26 1))]) (
  .rw 8052 [] [(52,Vb (decide ((↑i:Int)<(↑(List.length l):Int))),Vb false)]<|.ret ((Ex.exit 2,mkSt 99 [(8,V.lin true 26 1 (List.map (V.int .u8) st))] []))) (by kernel_rfl) ?_
 exact ⟨⟨tv,cb (by simp<;>omega),tv⟩,rfl,rfl⟩
theorem split1 (st:List Int) (h:1≤st.length):∃ pre x,st=pre++[x]:=by
 have hne:st≠[]:=by intro e;rw [e] at h;simp at h
 exact ⟨st.dropLast,st.getLast hne,(List.dropLast_concat_getLast hne).symm⟩
theorem split2 (st:List Int) (h:2≤st.length):∃ pre x y,st=pre++[x,y]:=by
 obtain ⟨p1,y,rfl⟩:=split1 st (by omega)
 obtain ⟨pre,x,rfl⟩:=split1 p1 (by simp at h;omega)
 exact ⟨pre,x,y,by simp⟩
theorem kindGo_at (cols:List Cl) (l:List Stp) (i:Nat) (s:Stp) (h:l[i]?=some s) (st:List Int):kindGo cols (l.drop i) st=if s.k=6 then kindGo cols (l.drop (i+1)) (st++[colK cols s.n]) else match kindL s.k (st.drop (st.length-(tkN s).toNat)) with
  | some k=>kindGo cols (l.drop (i+1)) (st.take (st.length-(tkN s).toNat)++[k])
  | none=>none:=by
 obtain ⟨h1,rfl⟩:=List.getElem?_eq_some_iff.1 h
 rw [List.drop_eq_getElem_cons h1]
 rfl
theorem drop_pre (pre a:List Int) (n:Nat) (h:a.length=n):(pre++a).drop ((pre++a).length-n)=a∧(pre++a).take ((pre++a).length-n)=pre:=by
 have e:(pre++a).length-n=pre.length:=by simp;omega
 rw [e]
 exact ⟨by simp,by simp⟩
theorem kindl (l:List Stp) (cols:List Cl) (hb:l.length≤64) (hf:∀ s∈l,FineS s) (hx:∀ s∈l,ColOk cols.length s) (m:Int):∀ k i (st:List Int),i+k=l.length→st.length≤i→rightGo (l.drop i) (st.length:Int)=some m →
  (match kindGo cols (l.drop i) st with
   | some fin=>(fin.length:Int)=m∧LoopK C1 27 104 K104 (S104 l cols st i) (.exit 2) (F104 fin)
   | none=>LoopK C1 27 104 K104 (S104 l cols st i) .ret R104)
 | 0,i,st,hi,hst,hr=>by
  rw [List.drop_eq_nil_of_le (by omega)] at hr ⊢
  cases hr
  exact ⟨rfl,k104_end l cols st i (by omega) hb⟩
 | k+1,i,st,hi,hst,hr=>by
  obtain ⟨s,hs⟩:∃ s,l[i]?=some s:=⟨l[i]'(by omega),List.getElem?_eq_getElem (by omega)⟩
  have fs:=hf s (List.mem_of_getElem? hs)
  have cs:=hx s (List.mem_of_getElem? hs)
  rw [rightGo_at l i s hs] at hr
  have hc:¬(tOk s=false∨(st.length:Int)<tN s):=fun hc=>by rw [if_pos hc] at hr;cases hr
  rw [if_neg hc] at hr
  rw [kindGo_at cols l i s hs st]
  by_cases h6:s.k=6
  ·rw [if_pos h6]
   obtain ⟨_,c1,c2⟩:=cs h6
   obtain ⟨q,hq⟩:∃ q:Nat,s.n=(q:Int):=⟨s.n.toNat,by omega⟩
   obtain ⟨c,hcc⟩:∃ c,cols[q]?=some c:=⟨cols[q]'(by omega),List.getElem?_eq_getElem (by omega)⟩
   have e1:tN s=0:=by unfold tN;rw [if_pos h6]
   have e2:colK cols s.n=c.k:=by unfold colK;rw [hq,Int.toNat_natCast,hcc];rfl
   rw [e2]
   have ih:=kindl l cols hb hf hx m k (i+1) (st++[c.k]) (by omega) (by simp;omega) (by rw [e1] at hr;rw [←hr];congr 1;simp)
   cases hg:kindGo cols (l.drop (i+1)) (st++[c.k]) with
   | none=>rw [hg] at ih;exact k104_colb l cols st [] i s hb hst hs h6 q c hq hcc ih
   | some fin=>rw [hg] at ih;exact ⟨ih.1,k104_cola l cols st fin i s hb hst hs h6 q c hq hcc ih.2⟩
  ·rw [if_neg h6]
   have e1:tN s=tkN s:=by unfold tN;rw [if_neg h6]
   have e2:tOk s=tkOk s:=by unfold tOk;rw [if_neg h6]
   rw [e1,e2] at hc
   rw [e1] at hr
   have ho:TkOk s:=by
    cases h:tkOk s with
    | false=>exact absurd (.inl h) hc
    | true=>unfold tkOk at h;simpa using h
   have hn:tkN s≤(st.length:Int):=by omega
   have hk1:1≤s.k:=ho.1
   have hk2:s.k<22:=ho.2.1
   by_cases h7:s.k<7
   ·have t0:tkN s=0:=by unfold tkN;rw [if_neg (by simpa using ho),if_pos h7]
    rw [t0] at hr ⊢
    obtain ⟨d1,d2⟩:=drop_pre st [] 0 rfl
    rw [List.append_nil] at d1 d2
    rw [show (0:Int).toNat=0 from rfl,d1,d2]
    show (match kindGo cols (l.drop (i+1)) (st++[kind0 s.k]) with | some fin=>_ | none=>_)
    have ih:=kindl l cols hb hf hx m k (i+1) (st++[kind0 s.k]) (by omega) (by simp;omega) (by rw [←hr];congr 1;simp)
    cases hg:kindGo cols (l.drop (i+1)) (st++[kind0 s.k]) with
    | none=>rw [hg] at ih;exact k104_0b l cols st [] i s hb hst hs fs ho (by omega) ih
    | some fin=>rw [hg] at ih;exact ⟨ih.1,k104_0a l cols st fin i s hb hst hs fs ho (by omega) ih.2⟩
   by_cases h8:s.k≤10
   ·have t1:tkN s=1:=by unfold tkN;rw [if_neg (by simpa using ho),if_neg h7,if_pos h8]
    rw [t1] at hr hn ⊢
    obtain ⟨pre,x,rfl⟩:=split1 st (by omega)
    obtain ⟨d1,d2⟩:=drop_pre pre [x] 1 rfl
    rw [show (1:Int).toNat=1 from rfl,d1,d2]
    have hst':pre.length+1≤i:=by simpa using hst
    cases hok:kind1ok s.k x with
    | false =>
     have:kindL s.k [x]=none:=by simp [kindL,hok]
     rw [this]
     exact k104_1x l cols pre x i s hb hst' hs fs ho (by omega) h8 hok
    | true =>
     have:kindL s.k [x]=some (kind1 s.k):=by simp [kindL,hok]
     rw [this]
     show (match kindGo cols (l.drop (i+1)) (pre++[kind1 s.k]) with | some fin=>_ | none=>_)
     have ih:=kindl l cols hb hf hx m k (i+1) (pre++[kind1 s.k]) (by omega) (by simp;omega) (by rw [←hr];congr 1;simp)
     cases hg:kindGo cols (l.drop (i+1)) (pre++[kind1 s.k]) with
     | none=>rw [hg] at ih;exact k104_1b l cols pre [] x i s hb hst' hs fs ho (by omega) h8 hok ih
     | some fin=>rw [hg] at ih;exact ⟨ih.1,k104_1a l cols pre fin x i s hb hst' hs fs ho (by omega) h8 hok ih.2⟩
   ·have t2:tkN s=2:=by unfold tkN;rw [if_neg (by simpa using ho),if_neg h7,if_neg h8]
    rw [t2] at hr hn ⊢
    obtain ⟨pre,x,y,rfl⟩:=split2 st (by omega)
    obtain ⟨d1,d2⟩:=drop_pre pre [x,y] 2 rfl
    rw [show (2:Int).toNat=2 from rfl,d1,d2]
    have hst':pre.length+2≤i:=by simpa using hst
    cases hok:kind2ok s.k x y with
    | false =>
     have:kindL s.k [x,y]=none:=by simp [kindL,hok]
     rw [this]
     exact k104_2x l cols pre x y i s hb hst' hs fs ho (by omega) (by omega) hok
    | true =>
     have:kindL s.k [x,y]=some (kind2 s.k):=by simp [kindL,hok]
     rw [this]
     show (match kindGo cols (l.drop (i+1)) (pre++[kind2 s.k]) with | some fin=>_ | none=>_)
     have ih:=kindl l cols hb hf hx m k (i+1) (pre++[kind2 s.k]) (by omega) (by simp;omega) (by rw [←hr];congr 1;simp;omega)
     cases hg:kindGo cols (l.drop (i+1)) (pre++[kind2 s.k]) with
     | none=>rw [hg] at ih;exact k104_2b l cols pre [] x y i s hb hst' hs fs ho (by omega) (by omega) hok ih
     | some fin=>rw [hg] at ih;exact ⟨ih.1,k104_2a l cols pre fin x y i s hb hst' hs fs ho (by omega) (by omega) hok ih.2⟩
theorem kindK_none (l:List Stp) (cols:List Cl) (hb:l.length≤64) (hf:∀ s∈l,FineS s) (hr:rightB l=true) (hc:cols.length≤16) (hx:∀ s∈l,ColOk cols.length s) (hg:kindGo cols l []=none):Sp C1 27 [eSteps l,eCols cols] (.tup [.int .u8 0,.int .i64 5]):=by
 have hs:=right_sp l (by omega) hf
 rw [hr] at hs
 have hl:=coll_ok l cols (by omega) hc l.length 0 (by omega) (fun j s _ h=>hx s (List.mem_of_getElem? h))
 unfold rightB at hr
 cases hm:rightGo l 0 with
 | none=>rw [hm] at hr;cases hr
 | some m =>
  have h:=kindl l cols hb hf hx m l.length 0 [] (by omega) (by simp) hm
  rw [List.drop_zero,hg] at h
  dsimp only at h
  refine sp_tree draws (dm:=[]) (fs:=[]) (
   .call 17 (65) ([eSteps l]) ([]) (Fr (Vb true) [])<|.rw 8020 [] [(20,Vi (↑(List.length (List.map eC cols)):Int),Vi (↑(List.length cols):Int))]<|.rw 8021 [] [(21,Vb (decide ((↑(List.length cols):Int)>(16:Int))),Vb false)]<|.rw 8023 [] [(23,Vi (↑(List.length (List.map eS l)):Int),Vi (↑(List.length l):Int))]<|.loop 48 false (K27) (S27 l cols 0) (Ex.exit 0) (mkSt 99 [(0,eSteps l),(1,eCols cols)] [])<|.rw 8050 [] [(50,Vi (↑(List.length (List.map eS l)):Int),Vi (↑(List.length l):Int))]<|.loop 104 false (K104) (S104 l cols [] 0) (Ex.ret) (R104)<|.ret (Fr (V.tup [Vu (0:Int),Vi (5:Int)]) [])) (by kernel_rfl) ?_
  exact ⟨(Sp.fact (hs)),⟨tv,by simp (disch:=omega) only [List.length_map],tv⟩,⟨tv,cb (by simp<;>omega),tv⟩,⟨tv,by simp (disch:=omega) only [List.length_map],tv⟩,(LoopR.weak (hl)),⟨tv,by simp (disch:=omega) only [List.length_map],tv⟩,(LoopR.weak (h)),rfl⟩
theorem kindK_some (l:List Stp) (cols:List Cl) (hb:l.length≤64) (hf:∀ s∈l,FineS s) (hr:rightB l=true) (hc:cols.length≤16) (hx:∀ s∈l,ColOk cols.length s) (fin:List Int) (hg:kindGo cols l []=some fin):Sp C1 27 [eSteps l,eCols cols] (.tup [.int .u8 (fin.headD 0),.int .i64 0]):=by
 have hs:=right_sp l (by omega) hf
 rw [hr] at hs
 have hl:=coll_ok l cols (by omega) hc l.length 0 (by omega) (fun j s _ h=>hx s (List.mem_of_getElem? h))
 unfold rightB at hr
 cases hm:rightGo l 0 with
 | none=>rw [hm] at hr;cases hr
 | some m =>
  rw [hm] at hr
  have h:=kindl l cols hb hf hx m l.length 0 [] (by omega) (by simp) hm
  rw [List.drop_zero,hg] at h
  obtain ⟨h1,h2⟩:=h
  have hr:m=1∧l.length≤64:=by simpa using hr
  obtain ⟨x,rfl⟩:∃ x,fin=[x]:=List.length_eq_one_iff.1 (by omega)
  clear h1
  refine sp_tree draws (dm:=[]) (fs:=[]) (
   .call 17 (65) ([eSteps l]) ([]) (Fr (Vb true) [])<|.rw 8020 [] [(20,Vi (↑(List.length (List.map eC cols)):Int),Vi (↑(List.length cols):Int))]<|.rw 8021 [] [(21,Vb (decide ((↑(List.length cols):Int)>(16:Int))),Vb false)]<|.rw 8023 [] [(23,Vi (↑(List.length (List.map eS l)):Int),Vi (↑(List.length l):Int))]<|.loop 48 false (K27) (S27 l cols 0) (Ex.exit 0) (mkSt 99 [(0,eSteps l),(1,eCols cols)] [])<|.rw 8050 [] [(50,Vi (↑(List.length (List.map eS l)):Int),Vi (↑(List.length l):Int))]<|.loop 104 false (K104) (S104 l cols [] 0) (Ex.exit 2) (F104 [x])<|.ret (Fr (V.tup [Vu x,Vi (0:Int)]) [])) (by kernel_rfl) ?_
  exact ⟨(Sp.fact (hs)),⟨tv,by simp (disch:=omega) only [List.length_map],tv⟩,⟨tv,cb (by simp<;>omega),tv⟩,⟨tv,by simp (disch:=omega) only [List.length_map],tv⟩,(LoopR.weak (hl)),⟨tv,by simp (disch:=omega) only [List.length_map],tv⟩,(LoopR.weak (h2)),rfl⟩
end Go.Fw
set_option maxHeartbeats 20000000
namespace Go.Fw
open Go.Proofs
section
variable {α:Type}
end
end Go.Fw
