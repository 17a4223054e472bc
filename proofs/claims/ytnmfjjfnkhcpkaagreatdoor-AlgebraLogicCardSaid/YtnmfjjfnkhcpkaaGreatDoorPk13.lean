/- Calls whose results are known are looked up. -/
import Derived.Test.YtnmfjjfnkhcpkaaGreatDoorPk12
set_option linter.all false
namespace Go.Fw
def tabAt (f:FuncId) (args:List V):List (FuncId×List V×V)→Option V
 | []=>none
 | (g,a,v)::r=>match Nat.beq g f with
  | true=>match sameC.sameCs a args with
   | true=>some v
   | false=>tabAt f args r
  | false=>tabAt f args r
def vtab (T:List (FuncId×List V×V)) (vb:FuncId→List V→List Blk→Option FOut) (f:FuncId) (args:List V) (h:List Blk):Option FOut:=match h with
 | []=>match tabAt f args T with
  | some v=>some (.ret v [])
  | none=>vb f args []
 | h=>vb f args h
def TabOk (C:Cx) (T:List (FuncId×List V×V)):Prop:=∀ e∈T,Sp C e.1 e.2.1 e.2.2
theorem TabOk.nil {C:Cx}:TabOk C []:=fun _ h=>by cases h
theorem TabOk.cons {C:Cx} {f:FuncId} {args:List V} {v:V} {T:List (FuncId×List V×V)} (h:Sp C f args v) (k:TabOk C T):TabOk C ((f,args,v)::T):=fun e he=>by
 rcases List.mem_cons.1 he with rfl | he
 ·exact h
 ·exact k e he
theorem tabAt_sp {C:Cx} {f:FuncId} {args:List V} {v:V}:∀ {T:List (FuncId×List V×V)},TabOk C T→tabAt f args T=some v→Sp C f args v
 | [],_,h=>by cases h
 | (g,a,u)::r,hT,h=>by
  have hr:TabOk C r:=fun e he=>hT e (List.mem_cons_of_mem _ he)
  unfold tabAt at h
  split at h
  ·rename_i hg
   split at h
   ·rename_i ha
    cases h
    have h0:=hT (g,a,v) (by simp)
    rw [←Nat.eq_of_beq_eq_true hg,←sameCs_eq _ _ ha]
    exact h0
   ·exact tabAt_sp hr h
  ·exact tabAt_sp hr h
theorem vtab_sound {C:Cx} {T:List (FuncId×List V×V)} (hT:TabOk C T) {vb:FuncId→List V→List Blk→Option FOut} (hvb:VbSound C vb):VbSound C (vtab T vb):=by
 have cases_:∀ {f args h out},vtab T vb f args h=some out→FactO C f args h out∨vb f args h=some out:=by
  intro f args h out hv
  unfold vtab at hv
  split at hv
  ·split at hv
   ·rename_i v hv2
    cases hv
    exact .inl (tabAt_sp hT hv2).fact
   ·exact .inr hv
  ·exact .inr hv
 refine ⟨fun f args h out e hs=>?_,fun f args out e hs hp=>?_,fun f args h out e hs hp=>?_,fun id args h out e=>?_⟩
 ·rcases cases_ e with k | k
  ·exact k.fn _ _ _ _ vb1_self hs
  ·exact hvb.fn _ _ _ _ k hs
 ·rcases cases_ e with k | k
  ·exact k.pure_ _ _ _ vb1_self hs hp
  ·exact hvb.pure_ _ _ _ k hs hp
 ·rcases cases_ e with k | k
  ·exact k.heap _ _ _ _ vb1_self hs hp
  ·exact hvb.heap _ _ _ _ k hs hp
 ·rcases cases_ e with k | k
  ·exact k.round _ _ _ _ vb1_self
  ·exact hvb.round _ _ _ _ k
noncomputable def vcallT (C:Cx) (T:List (FuncId×List V×V)):Nat→FuncId→List V→List Blk→Option FOut
 | 0,_,_,_=>none
 | n+1,f,args,h=>vstep C (vtab T (vcallT C T n)) n f args h
theorem vcallT_sound {C:Cx} (hCP:C.P=theP) (hD:∀ f id ops,RegOf C.P f id ops→DrawSound C f id ops) {T:List (FuncId×List V×V)} (hT:TabOk C T):∀ n,VbSound C (vcallT C T n)
 | 0=>⟨fun _ _ _ _ h=>(by cases h),fun _ _ _ h=>(by cases h),fun _ _ _ _ h=>(by cases h),fun _ _ _ _ h=>(by cases h)⟩
 | n+1=>by
  have ih:=vstep_sound C hCP hD (vtab_sound hT (vcallT_sound hCP hD hT n)) n
  exact ⟨ih.fn,ih.pure_,ih.heap,ih.round⟩
end Go.Fw
