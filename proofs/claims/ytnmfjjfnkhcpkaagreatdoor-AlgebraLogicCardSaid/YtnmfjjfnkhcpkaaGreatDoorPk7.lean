/- Algebra: small functions of values. -/
import Derived.Test.YtnmfjjfnkhcpkaaGreatDoorPk6
set_option linter.all false
set_option maxHeartbeats 20000000
namespace Go.Fw
open Go.Proofs
abbrev eT:ByteArray:=⟨#[]⟩
structure Vl where
 k:Int
 b:Bool
 n:Int
 s:ByteArray
abbrev eV (v:Vl):V:=.agg [.int .u8 v.k,.bool v.b,.int .i64 v.n,.str v.s]
abbrev vNull:Vl:=⟨0,false,0,eT⟩
abbrev vBool (b:Bool):Vl:=⟨1,b,0,eT⟩
abbrev vInt (n:Int):Vl:=⟨2,false,n,eT⟩
abbrev vText (s:ByteArray):Vl:=⟨3,false,0,s⟩
structure Stp where
 k:Int
 t:ByteArray
 n:Int
abbrev eS (s:Stp):V:=.agg [.int .u8 s.k,.str s.t,.int .i64 s.n]
structure Cl where
 c:ByteArray
 k:Int
abbrev eC (c:Cl):V:=.agg [.str c.c,.int .u8 c.k]
theorem truth_sp (b:Bool):Sp C1 87 [.bool b] (eV (vBool b)):=by
 refine sp_tree draws (dm:=[]) (fs:=[]) (
  .ret (Fr (V.agg [Vu (1:Int),Vb b,Vi (0:Int),V.str (ByteArray.mk #[])]) [])) (by kernel_rfl) ?_
 exact rfl
end Go.Fw
