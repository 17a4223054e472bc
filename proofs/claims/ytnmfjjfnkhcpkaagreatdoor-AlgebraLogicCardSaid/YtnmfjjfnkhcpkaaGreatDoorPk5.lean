/- Trees with their choices: what a run over unknown values comes to, and what is to be shown for it. -/
import Derived.Test.YtnmfjjfnkhcpkaaGreatDoorPk4
import Derived.KernelRfl
import Derived.ChangeArms
import Derived.SizedLaws
import Derived.WideShapes
set_option linter.all false
namespace Go.Fw
open Go.RowKit
inductive G (α:Type) where
 | ret (a:α)
 | ite (s:Nat) (b:Bool) (x y:G α)
 | tt (s:Nat) (b:Bool) (x:G α)
 | ff (s:Nat) (b:Bool) (x:G α)
 | chk (s:Nat) (b:Bool) (x:G α)
 | opt (s:Nat) (o:Option V) (v:V) (x:G α)
 | mf (s:Nat) (o:Option (Option (Nat×V))) (v:Option (Nat×V)) (x:G α)
 | call (s:Nat) (g:FuncId) (args:List V) (h:List Blk) (r:FOut) (x:G α)
 | loop (s:Nat) (rd:Bool) (keep:List (Nat×Fm)) (st:St) (e:Ex) (st':St) (x:G α)
 | rw (s:Nat) (hs:List (Nat×List V×List V)) (ts:List (Nat×V×V)) (x:G α)
 | to (s:Nat) (l:List Tell) (x:G α)
 | tob (s:Nat) (b:Bool) (l:List TellB) (x:G α)
def rwH:List (Nat×List V×List V)→List Blk→List (Nat×List V×List V)×List Blk
 | [],h=>([],h)
 | (id,_,c')::r,h=>match h[id]? with
  | some (.cells c e)=>((id,c,c')::(rwH r (h.set id (.cells c' e))).1,(rwH r (h.set id (.cells c' e))).2)
  | _=>rwH r h
def rwT:List (Nat×V×V)→List V→List (Nat×V×V)×List V
 | [],fr=>([],fr)
 | (t,_,v')::r,fr=>((t,getS fr t,v')::(rwT r (fr.set t v')).1,(rwT r (fr.set t v')).2)
def EqH:List (Nat×List V×List V)→Prop
 | []=>True
 | (_,c,c')::r=>c=c'∧EqH r
def EqT:List (Nat×V×V)→Prop
 | []=>True
 | (_,v,v')::r=>v=v'∧EqT r
theorem rwH_eq:∀ (l:List (Nat×List V×List V)) (h:List Blk),EqH (rwH l h).1→(rwH l h).2=h
 | [],h,_=>rfl
 | (id,c0,c')::r,h,he=>by
  unfold rwH at he ⊢
  split
  ·rename_i c e hc
   rw [hc] at he
   dsimp only at he ⊢
   obtain ⟨h1,h2⟩:=he
   rw [rwH_eq r _ h2,←h1]
   obtain ⟨hlt,hg⟩:=List.getElem?_eq_some_iff.1 hc
   rw [←hg]
   exact List.set_getElem_self hlt
  ·rename_i hc
   split at he
   ·rename_i c e hc';exact absurd hc' (hc c e)
   ·exact rwH_eq r h he
theorem rwT_eq:∀ (l:List (Nat×V×V)) (fr:List V),EqT (rwT l fr).1→(rwT l fr).2=fr
 | [],fr,_=>rfl
 | (t,v0,v')::r,fr,he=>by
  unfold rwT at he ⊢
  dsimp only at he ⊢
  obtain ⟨h1,h2⟩:=he
  rw [rwT_eq r _ h2,←h1]
  by_cases ht:t<fr.length
  ·rw [getS_eq (List.getElem?_eq_getElem ht)]
   exact List.set_getElem_self ht
  ·exact List.set_eq_of_length_le (by omega)
def follow (P:Program) (N:Nat) {α:Type}:T α→G α→Option (G α)
 | .ret a,_=>some (.ret a)
 | .fail,_=>none
 | .ite s b t u,g=>match g with
  | .ite s' _ x y=>match s'==s with
   | true=>match follow P N t x,follow P N u y with
    | some x,some y=>some (.ite s b x y)
    | _,_=>none
   | false=>match b with
    | true=>follow P N t g
    | false=>follow P N u g
  | .tt s' _ x=>match s'==s with
   | true=>(follow P N t x).map (.tt s b)
   | false=>match b with
    | true=>follow P N t g
    | false=>follow P N u g
  | .ff s' _ x=>match s'==s with
   | true=>(follow P N u x).map (.ff s b)
   | false=>match b with
    | true=>follow P N t g
    | false=>follow P N u g
  | g=>match b with
   | true=>follow P N t g
   | false=>follow P N u g
 | .chk s b t,g=>match g with
  | .chk s' _ x=>match s'==s with
   | true=>(follow P N t x).map (.chk s b)
   | false=>match b with
    | true=>follow P N t g
    | false=>none
  | g=>match b with
   | true=>follow P N t g
   | false=>none
 | .opt s o k,g=>match g with
  | .opt s' _ v x=>match s'==s with
   | true=>(follow P N (k v) x).map (.opt s o v)
   | false=>match o with
    | some v=>follow P N (k v) g
    | none=>none
  | g=>match o with
   | some v=>follow P N (k v) g
   | none=>none
 | .mf s o k,g=>match g with
  | .mf s' _ v x=>match s'==s with
   | true=>(follow P N (k v) x).map (.mf s o v)
   | false=>match o with
    | some v=>follow P N (k v) g
    | none=>none
  | g=>match o with
   | some v=>follow P N (k v) g
   | none=>none
 | .call s f args h k,g=>match g with
  | .call s' _ _ _ r x=>match s'==s with
   | true=>(follow P N (k r) x).map (.call s f args h r)
   | false=>none
  | _=>none
 | .loop s rd _ st k,g=>match g with
  | .loop s' _ keep _ e st' x=>match s'==s with
   | true=>(follow P N (k e st') x).map (.loop s rd keep (relax keep st) e st')
   | false=>none
  | _=>none
 | .norm s st k,g=>match g with
  | .rw s' hs ts x=>match s'==s with
   | true=>(follow P N (k ⟨(rwT ts st.fr).2,(rwH hs st.h).2,st.df⟩) x).map (.rw s (rwH hs st.h).1 (rwT ts st.fr).1)
   | false=>follow P N (k st) g
  | g=>follow P N (k st) g
 | .open s st k,g=>match g with
  | .rw s' hs ts x=>match s'==s with
   | true=>match x with
    | .to s2 l y=>match s2==s with
     | true=>match tell P N l ⟨(rwT ts st.fr).2,(rwH hs st.h).2,st.df⟩ with
      | some st'=>(follow P N (k st') y).map fun y=>.rw s (rwH hs st.h).1 (rwT ts st.fr).1 (.to s l y)
      | none=>none
     | false=>(follow P N (k ⟨(rwT ts st.fr).2,(rwH hs st.h).2,st.df⟩) x).map (.rw s (rwH hs st.h).1 (rwT ts st.fr).1)
    | .tob s2 _ l y=>match s2==s with
     | true=>match tellB P N l ⟨(rwT ts st.fr).2,(rwH hs st.h).2,st.df⟩ with
      | some (b,st')=>(follow P N (k st') y).map fun y=>.rw s (rwH hs st.h).1 (rwT ts st.fr).1 (.tob s b l y)
      | none=>none
     | false=>(follow P N (k ⟨(rwT ts st.fr).2,(rwH hs st.h).2,st.df⟩) x).map (.rw s (rwH hs st.h).1 (rwT ts st.fr).1)
    | x=>(follow P N (k ⟨(rwT ts st.fr).2,(rwH hs st.h).2,st.df⟩) x).map (.rw s (rwH hs st.h).1 (rwT ts st.fr).1)
   | false=>follow P N (k st) g
  | .to s' l x=>match s'==s with
   | true=>match tell P N l st with
    | some st'=>(follow P N (k st') x).map (.to s l)
    | none=>none
   | false=>follow P N (k st) g
  | .tob s' _ l x=>match s'==s with
   | true=>match tellB P N l st with
    | some (b,st')=>(follow P N (k st') x).map (.tob s b l)
    | none=>none
   | false=>follow P N (k st) g
  | g=>follow P N (k st) g
def LoopR (C:Cx) (f:FuncId) (N:Nat) (rd:Bool) (s:Nat) (st:St) (e:Ex) (st1:St):Prop:=∃ b,loopAt C f s=some b∧LoopTo C N rd b e st1 st
def BodyRuns (C:Cx) (f:FuncId) (N:Nat) (rd:Bool) (s:Nat) (st:St) (e:Ex) (st1:St):Prop:=∃ b,loopAt C f s=some b∧Runs C N rd b st e st1
theorem LoopR.weak {C:Cx} {f:FuncId} {N:Nat} {rd:Bool} {s:Nat} {st st1:St} {e:Ex} (h:LoopR C f N true s st e st1):LoopR C f N rd s st e st1:=by
 obtain ⟨b,h1,h2⟩:=h
 exact ⟨b,h1,h2.weak⟩
def Holds (C:Cx) (f:FuncId) (N:Nat) {α:Type}:G α→(α→Prop)→Prop
 | .ret a,Q=>Q a
 | .ite _ b x y,Q=>(b=true→Holds C f N x Q)∧(b=false→Holds C f N y Q)
 | .tt _ b x,Q=>b=true∧Holds C f N x Q
 | .ff _ b x,Q=>b=false∧Holds C f N x Q
 | .chk _ b x,Q=>b=true∧Holds C f N x Q
 | .opt _ o v x,Q=>o=some v∧Holds C f N x Q
 | .mf _ o v x,Q=>o=some v∧Holds C f N x Q
 | .call _ g args h r x,Q=>FactO C g args h r∧Holds C f N x Q
 | .loop s rd _ st e st' x,Q=>LoopR C f N rd s st e st'∧Holds C f N x Q
 | .rw _ hs ts x,Q=>(EqH hs∧EqT ts)∧Holds C f N x Q
 | .to _ _ x,Q=>Holds C f N x Q
 | .tob _ b _ x,Q=>b=true∧Holds C f N x Q
section
variable {C:Cx} {f:FuncId} {N:Nat}
theorem follow_ok {α:Type} {Q:α→Prop}:∀ (t:T α) (g g':G α),follow C.P N t g=some g'→Holds C f N g' Q→∃ a,Hits C f N t a∧Q a
 | .ret a,g,g',h,hh=>by
  unfold follow at h
  cases h
  exact ⟨a,rfl,hh⟩
 | .fail,g,g',h,hh=>by unfold follow at h;cases h
 | .ite s b t u,g,g',h,hh=>by
  have conc:∀ g,(match b with | true=>follow C.P N t g | false=>follow C.P N u g)=some g'→∃ a,Hits C f N (.ite s b t u) a∧Q a:=by
   intro g h
   cases b with
   | true=>obtain ⟨a,h1,h2⟩:=follow_ok t g g' h hh;exact ⟨a,.inl ⟨rfl,h1⟩,h2⟩
   | false=>obtain ⟨a,h1,h2⟩:=follow_ok u g g' h hh;exact ⟨a,.inr ⟨rfl,h1⟩,h2⟩
  unfold follow at h
  cases g<;>dsimp only at h<;>try exact conc _ h
  case ite s' b' x y =>
   split at h
   ·split at h
    ·rename_i x' y' hx hy
     cases h
     cases hb:b with
     | true=>obtain ⟨a,h1,h2⟩:=follow_ok t _ _ hx (hh.1 hb);exact ⟨a,.inl ⟨rfl,h1⟩,h2⟩
     | false=>obtain ⟨a,h1,h2⟩:=follow_ok u _ _ hy (hh.2 hb);exact ⟨a,.inr ⟨rfl,h1⟩,h2⟩
    ·cases h
   ·exact conc _ h
  case tt s' b' x =>
   split at h
   ·obtain ⟨x',hx,rfl⟩:=Option.map_eq_some_iff.1 h
    obtain ⟨a,h1,h2⟩:=follow_ok t _ _ hx hh.2
    exact ⟨a,.inl ⟨hh.1,h1⟩,h2⟩
   ·exact conc _ h
  case ff s' b' x =>
   split at h
   ·obtain ⟨x',hx,rfl⟩:=Option.map_eq_some_iff.1 h
    obtain ⟨a,h1,h2⟩:=follow_ok u _ _ hx hh.2
    exact ⟨a,.inr ⟨hh.1,h1⟩,h2⟩
   ·exact conc _ h
 | .chk s b t,g,g',h,hh=>by
  have conc:∀ g,(match b with | true=>follow C.P N t g | false=>none)=some g'→∃ a,Hits C f N (.chk s b t) a∧Q a:=by
   intro g h
   cases b with
   | true=>obtain ⟨a,h1,h2⟩:=follow_ok t g g' h hh;exact ⟨a,⟨rfl,h1⟩,h2⟩
   | false=>cases h
  unfold follow at h
  cases g<;>dsimp only at h<;>try exact conc _ h
  case chk s' b' x =>
   split at h
   ·obtain ⟨x',hx,rfl⟩:=Option.map_eq_some_iff.1 h
    obtain ⟨a,h1,h2⟩:=follow_ok t _ _ hx hh.2
    exact ⟨a,⟨hh.1,h1⟩,h2⟩
   ·exact conc _ h
 | .opt s o k,g,g',h,hh=>by
  have conc:∀ g,(match o with | some v=>follow C.P N (k v) g | none=>none)=some g'→∃ a,Hits C f N (.opt s o k) a∧Q a:=by
   intro g h
   cases o with
   | some v=>obtain ⟨a,h1,h2⟩:=follow_ok (k v) g g' h hh;exact ⟨a,⟨v,rfl,h1⟩,h2⟩
   | none=>cases h
  unfold follow at h
  cases g<;>dsimp only at h<;>try exact conc _ h
  case opt s' o' v x =>
   split at h
   ·obtain ⟨x',hx,rfl⟩:=Option.map_eq_some_iff.1 h
    obtain ⟨a,h1,h2⟩:=follow_ok (k v) _ _ hx hh.2
    exact ⟨a,⟨v,hh.1,h1⟩,h2⟩
   ·exact conc _ h
 | .mf s o k,g,g',h,hh=>by
  have conc:∀ g,(match o with | some v=>follow C.P N (k v) g | none=>none)=some g'→∃ a,Hits C f N (.mf s o k) a∧Q a:=by
   intro g h
   cases o with
   | some v=>obtain ⟨a,h1,h2⟩:=follow_ok (k v) g g' h hh;exact ⟨a,⟨v,rfl,h1⟩,h2⟩
   | none=>cases h
  unfold follow at h
  cases g<;>dsimp only at h<;>try exact conc _ h
  case mf s' o' v x =>
   split at h
   ·obtain ⟨x',hx,rfl⟩:=Option.map_eq_some_iff.1 h
    obtain ⟨a,h1,h2⟩:=follow_ok (k v) _ _ hx hh.2
    exact ⟨a,⟨v,hh.1,h1⟩,h2⟩
   ·exact conc _ h
 | .call s gf args hp k,g,g',h,hh=>by
  unfold follow at h
  cases g<;>dsimp only at h<;>try (cases h;done)
  case call s' a b c r x =>
   split at h
   ·obtain ⟨x',hx,rfl⟩:=Option.map_eq_some_iff.1 h
    obtain ⟨a,h1,h2⟩:=follow_ok (k r) _ _ hx hh.2
    exact ⟨a,⟨r,hh.1,h1⟩,h2⟩
   ·cases h
 | .loop s rd b st k,g,g',h,hh=>by
  unfold follow at h
  cases g<;>dsimp only at h<;>try (cases h;done)
  case loop s' rd' keep st0 e st' x =>
   split at h
   ·obtain ⟨x',hx,rfl⟩:=Option.map_eq_some_iff.1 h
    obtain ⟨a,h1,h2⟩:=follow_ok (k e st') _ _ hx hh.2
    refine ⟨a,⟨e,st',fun hb=>?_,h1⟩,h2⟩
    obtain ⟨b',h3,h4⟩:=hh.1
    rw [hb] at h3
    cases h3
    exact Runs.pre keep (Runs.loop h4)
   ·cases h
 | .norm s st k,g,g',h,hh=>by
  have conc:∀ g,follow C.P N (k st) g=some g'→∃ a,Hits C f N (.norm s st k) a∧Q a:=by
   intro g h
   obtain ⟨a,h1,h2⟩:=follow_ok (k st) g g' h hh
   exact ⟨a,h1,h2⟩
  unfold follow at h
  cases g<;>dsimp only at h<;>try exact conc _ h
  case rw s' hs ts x =>
   split at h
   ·obtain ⟨x',hx,rfl⟩:=Option.map_eq_some_iff.1 h
    obtain ⟨⟨e1,e2⟩,h3⟩:=hh
    obtain ⟨a,h1,h2⟩:=follow_ok _ x x' hx h3
    rw [rwH_eq _ _ e1,rwT_eq _ _ e2] at h1
    exact ⟨a,h1,h2⟩
   ·exact conc _ h
 | .open s st k,g,g',h,hh=>by
  have conc:∀ g,follow C.P N (k st) g=some g'→∃ a,Hits C f N (.open s st k) a∧Q a:=by
   intro g h
   obtain ⟨a,h1,h2⟩:=follow_ok (k st) g g' h hh
   exact ⟨a,⟨st,StTo.refl _,h1⟩,h2⟩
  unfold follow at h
  cases g<;>dsimp only at h<;>try exact conc _ h
  case rw s' hs ts x =>
   have plain:∀ x,(follow C.P N (k ⟨(rwT ts st.fr).2,(rwH hs st.h).2,st.df⟩) x).map (.rw s (rwH hs st.h).1 (rwT ts st.fr).1)=some g'→∃ a,Hits C f N (.open s st k) a∧Q a:=by
    intro x h
    obtain ⟨x',hx,rfl⟩:=Option.map_eq_some_iff.1 h
    obtain ⟨⟨e1,e2⟩,h3⟩:=hh
    obtain ⟨a,h1,h2⟩:=follow_ok _ x x' hx h3
    rw [rwH_eq _ _ e1,rwT_eq _ _ e2] at h1
    exact ⟨a,⟨st,StTo.refl _,h1⟩,h2⟩
   split at h
   ·split at h
    ·split at h
     ·split at h
      ·rename_i s2 l y _ _ _ st' hst
       obtain ⟨x',hx,rfl⟩:=Option.map_eq_some_iff.1 h
       obtain ⟨⟨e1,e2⟩,h3⟩:=hh
       obtain ⟨a,h1,h2⟩:=follow_ok _ y x' hx h3
       rw [rwH_eq _ _ e1,rwT_eq _ _ e2] at hst
       exact ⟨a,⟨st',tell_ok C.isP hst,h1⟩,h2⟩
      ·cases h
     ·exact plain _ h
    ·split at h
     ·split at h
      ·rename_i s2 _ l y _ _ _ b st' hst
       obtain ⟨x',hx,rfl⟩:=Option.map_eq_some_iff.1 h
       obtain ⟨⟨e1,e2⟩,hb,h3⟩:=hh
       subst hb
       obtain ⟨a,h1,h2⟩:=follow_ok _ y x' hx h3
       rw [rwH_eq _ _ e1,rwT_eq _ _ e2] at hst
       exact ⟨a,⟨st',tellB_ok C.isP hst,h1⟩,h2⟩
      ·cases h
     ·exact plain _ h
    ·exact plain _ h
   ·exact conc _ h
  case to s' l x =>
   split at h
   ·split at h
    ·rename_i st' hst
     obtain ⟨x',hx,rfl⟩:=Option.map_eq_some_iff.1 h
     obtain ⟨a,h1,h2⟩:=follow_ok _ x x' hx hh
     exact ⟨a,⟨st',tell_ok C.isP hst,h1⟩,h2⟩
    ·cases h
   ·exact conc _ h
  case tob s' b' l x =>
   split at h
   ·split at h
    ·rename_i b st' hst
     obtain ⟨x',hx,rfl⟩:=Option.map_eq_some_iff.1 h
     obtain ⟨hb,hh⟩:=hh
     subst hb
     obtain ⟨a,h1,h2⟩:=follow_ok _ x x' hx hh
     exact ⟨a,⟨st',tellB_ok C.isP hst,h1⟩,h2⟩
    ·cases h
   ·exact conc _ h
theorem BodyRuns.loop {rd:Bool} {s:Nat} {st st1:St} {e:Ex} (h:BodyRuns C f N rd s st e st1) (hn:e≠.normal):LoopR C f N rd s st e st1:=by
 obtain ⟨b,h1,h2⟩:=h
 exact ⟨b,h1,.done h2 hn⟩
theorem BodyRuns.step {rd:Bool} {s:Nat} {st st1 st2:St} {e:Ex} (h:BodyRuns C f N rd s st .normal st1) (k:LoopR C f N rd s st1 e st2):LoopR C f N rd s st e st2:=by
 obtain ⟨b,h1,h2⟩:=h
 obtain ⟨b',h3,h4⟩:=k
 rw [h1] at h3
 cases h3
 exact ⟨b,h1,.step h2 h4⟩
end
/-! ### whole calls,rounds of loops -/
def xall {α β:Type} (m:α→T β):List α→T (List β)
 | []=>xp []
 | x::xs=>xb (m x) fun y=>xb (xall m xs) fun ys=>xp (y::ys)
def xesc1 (P:Program) (h:List Blk):V→T V
 | .own id off n _=>match h[id]? with
  | some (.cells cs e)=>match isAggT P e,sizeT P e with
   | some false,some 1=>xb (xchk (4000+id) (decide (off+n≤cs.length)&&((cs.drop off).take n).all flat1)) fun _=>xp (.imm false 1 ((cs.drop off).take n))
   | some true,some (m+1)=>xb (xchk (4000+id) (decide (off+n*(m+1)≤cs.length)&&((cs.drop off).take (n*(m+1))).all flat1)) fun _=>xp (.imm false (m+1) (chunk (m+1) n (cs.drop off)))
   | _,_=>xf
  | _=>xf
 | .lin p e n xs=>xp (.lin p e n xs)
 | v=>if flat1 v then xp v else xf
def xesc2 (P:Program) (h:List Blk):V→T V
 | .agg vs=>xb (xall (xesc1 P h) vs) fun vs=>xp (.agg vs)
 | v=>xesc1 P h v
noncomputable def vdT (C:Cx):FuncId→List V→Md→List Blk→Option (Md×List Blk):=vdcall C (fun _ _ _=>none) 1000
def xvfin (C:Cx) (fn:Func) (pure:Bool):Md→St→T FOut
 | .ret,st=>xb (xlift (optAll (resultV C st) fn.results.toList)) fun vs=>match pure with
  | true=>if distinct (fn.results.toList.map (resultKey st)) then xb (xall (xesc2 C.P st.h) vs) fun vs=>xp (.ret (one vs) []) else xf
  | false=>if vs.all fun v=>!isLin2 v&&okV v then xp (.ret (one vs) st.h) else xf
 | .pan v,st=>match pure with
  | true=>if flat2 v then xp (.pan v []) else xf
  | false=>xp (.pan v st.h)
noncomputable def xfin (C:Cx) (fn:Func) (pure:Bool) (q:Ex×St):T FOut:=match q.1 with
 | .normal | .ret=>match vleave (vdT C) q.2.df .ret q.2.h with
  | some (u,h)=>xvfin C fn pure u {q.2 with h:=h,df:=[]}
  | none=>xf
 | .pan v=>match vleave (vdT C) q.2.df (.pan v) q.2.h with
  | some (u,h)=>xvfin C fn pure u {q.2 with h:=h,df:=[]}
  | none=>xf
 | .exit _=>xf
def mapOut (dm:List Nat) (fs:List Fm):FOut→FOut
 | .ret v h=>.ret (outR dm fs v) h
 | .pan v h=>.pan v h
def opn {α:Type} (s:Nat) (e:Ex) (st:St) (k:St→T α):T α:=match e with
 | .pan _=>k st
 | _=>.open s st k
noncomputable def xcall (C:Cx) (f:FuncId) (pure:Bool) (dm:List Nat) (fs:List Fm) (args:List V) (h:List Blk):T FOut:=match C.P.funcs[f]? with
 | some fn=>match fn.body with
  | some c=>if fn.name == "runtime.NumGoroutine"||!loopsOk c||(pureOf C f args !=pure)||decide (yBase≤f)||(pure&&!h.isEmpty) then xf else
   xb (xexec C f false 1000 c ⟨args++List.replicate (fn.ntmps-args.length) .undef,h,[]⟩) fun q=>opn 23000 q.1 q.2 fun st=>xb (xfin C fn pure (q.1,st)) fun out=>xp (match pure with | true=>mapOut dm fs out | false=>out)
  | none=>xf
 | none=>xf
noncomputable def xbody (C:Cx) (f:FuncId) (rd:Bool) (s:Nat) (kn ke:List (Nat×Fm)) (st:St):T (Ex×St):=match C.P.funcs[f]? with
 | some fn=>match fn.body with
  | some c=>if !loopsOk c then xf else match loopAt C f s with
   | some b=>xb (xexec C f rd 1000 b st) fun q=>match q.1 with
    | .normal=>.open 24000 q.2 fun st=>xp (.normal,relax kn st)
    | .pan v=>xp (.pan v,relax ke q.2)
    | e=>.open 24001 q.2 fun st=>xp (e,relax ke st)
   | none=>xf
  | none=>xf
 | none=>xf
noncomputable def xround (C:Cx) (id:Nat) (f:FuncId) (ps:Array Tmp) (asg body:Code) (fr:List V) (args:List V) (h:List Blk):T FOut:=match C.P.funcs[f]? with
 | some fn=>match fn.body with
  | some c=>if !loopsOk c||!(args.length==ps.size) then xf else
   xb (xexec C f true 1000 asg ⟨setPs ps.toList args fr,h,[]⟩) fun q=>match q.1 with
    | .normal=>match q.2.h[id]? with
     | some (.loop l2)=>match l2.state with
      | .ready=>xb (xexec C f true 1000 body {q.2 with h:=q.2.h.set id (.loop {l2 with state:=.busy})}) fun q=>match q.1 with
       | .normal=>.open 22000 q.2 fun st=>xlift (roundEnd id none st.h)
       | .ret=>.open 22000 q.2 fun st=>xlift (roundEnd id (some .ret) st.h)
       | .exit i=>.open 22000 q.2 fun st=>xlift (roundEnd id (some (.exit i)) st.h)
       | .pan _=>xf
      | _=>xf
     | _=>xf
    | _=>xf
  | none=>xf
 | none=>xf
structure Draws (C:Cx):Prop where
 prog:C.P=theP
 d:∀ f id ops,RegOf C.P f id ops→DrawSound C f id ops
 ok:∀ f id ops un,RegOf C.P f id ops→C.un f id=some un→okUn ops un=true
theorem draws_of {C:Cx} (hP:C.P=theP) (hD:∀ f,(∃ id,C.un f id≠none)→drawsOk C f=true):Draws C:=by
 have key:∀ f id ops un,RegOf C.P f id ops→C.un f id=some un→okUn ops un=true:=fun f id ops un ⟨fn,c,hf,hc,hp⟩ hun=>by
  have:=hD f ⟨id,by rw [hun];simp⟩
  unfold drawsOk at this
  rw [hf] at this
  dsimp only at this
  rw [hc] at this
  dsimp only at this
  rw [List.all_eq_true] at this
  have:=this (id,ops) hp
  rw [hun] at this
  exact this
 exact ⟨hP,fun f id ops hr=>draw_sound (fun un hun=>key f id ops un hr hun),key⟩
section
variable {C:Cx} {f:FuncId} {N:Nat}
theorem snd_xall {α β:Type} {m:α→T β} {g:α→Option β} (h:∀ x,Snd C f N (m x) (fun y=>g x=some y)):∀ {xs:List α},Snd C f N (xall m xs) (fun ys=>optAll g xs=some ys)
 | []=>snd_xp rfl
 | x::xs=>by
  unfold xall
  refine snd_xb (h x) (fun y hy=>snd_xb (snd_xall h) (fun ys hys=>snd_xp ?_))
  unfold optAll
  rw [hy,bindO_some,hys,bindO_some]
theorem snd_xesc1 {P:Program} {h:List Blk} {v:V}:Snd C f N (xesc1 P h v) (fun y=>escape1 P h v=some y):=by
 unfold xesc1
 split
 ·rename_i id off n
  split
  ·rename_i cs e hcs
   split
   ·rename_i ha hz
    refine snd_xb snd_xchk (fun _ hc=>snd_xp ?_)
    unfold escape1
    try dsimp only
    rw [hcs]
    try dsimp only
    rw [ha,hz]
    try dsimp only
    rw [hc,condB_true]
    rfl
   ·rename_i m ha hz
    refine snd_xb snd_xchk (fun _ hc=>snd_xp ?_)
    unfold escape1
    try dsimp only
    rw [hcs]
    try dsimp only
    rw [ha,hz]
    try dsimp only
    rw [hc,condB_true]
   ·exact snd_xf
  ·exact snd_xf
 ·exact snd_xp rfl
 ·rename_i v h1 h2
  split
  ·rename_i hf
   refine snd_xp ?_
   unfold escape1
   split
   ·exact absurd rfl (h1 _ _ _ _)
   ·exact absurd rfl (h2 _ _ _ _)
   ·rw [hf,condB_true]
  ·exact snd_xf
theorem snd_xesc2 {P:Program} {h:List Blk} {v:V}:Snd C f N (xesc2 P h v) (fun y=>escape2 P h v=some y):=by
 by_cases ha:∃ vs,v=.agg vs
 ·obtain ⟨vs,rfl⟩:=ha
  refine snd_xb (snd_xall (fun x=>snd_xesc1)) (fun ys hys=>snd_xp ?_)
  unfold escape2
  dsimp only
  rw [hys,bindO_some]
 ·have e1:escape2 P h v=escape1 P h v:=by cases v<;>first | rfl | exact absurd ⟨_,rfl⟩ ha
  have e2:xesc2 P h v=xesc1 P h v:=by cases v<;>first | rfl | exact absurd ⟨_,rfl⟩ ha
  rw [e1,e2]
  exact snd_xesc1
theorem snd_xvfin {fn:Func} {pure:Bool} {u:Md} {st:St}:Snd C f N (xvfin C fn pure u st) (fun out=>vfin C fn pure u st=some out):=by
 cases u with
 | ret =>
  refine snd_xb snd_xlift (fun vs hvs=>?_)
  cases pure with
  | true =>
   dsimp only
   split
   ·rename_i hd
    refine snd_xb (snd_xall (fun x=>snd_xesc2)) (fun ys hys=>snd_xp ?_)
    unfold vfin
    dsimp only
    rw [hvs,bindO_some,if_pos rfl,if_pos hd,hys,bindO_some]
   ·exact snd_xf
  | false =>
   dsimp only
   split
   ·rename_i ha
    refine snd_xp ?_
    unfold vfin
    dsimp only
    rw [hvs,bindO_some,if_neg (by simp),ha,condB_true]
   ·exact snd_xf
 | pan v =>
  cases pure with
  | true =>
   unfold xvfin
   dsimp only
   split
   ·rename_i hf
    refine snd_xp ?_
    unfold vfin
    dsimp only
    rw [if_pos rfl,hf,condB_true]
   ·exact snd_xf
  | false =>
   refine snd_xp ?_
   unfold vfin
   dsimp only
   rw [if_neg (by simp)]
theorem snd_xfin {fn:Func} {pure:Bool} {q:Ex×St}:Snd C f N (xfin C fn pure q) (fun out=>vfinal C (vdT C) fn pure q.1 q.2=some out):=by
 obtain ⟨e,st⟩:=q
 cases e with
 | exit i=>exact snd_xf
 | normal =>
  unfold xfin vfinal
  dsimp only
  split
  ·rename_i u h hvl
   simp only [hvl]
   exact snd_xvfin
  ·exact snd_xf
 | ret =>
  unfold xfin vfinal
  dsimp only
  split
  ·rename_i u h hvl
   simp only [hvl]
   exact snd_xvfin
  ·exact snd_xf
 | pan v =>
  unfold xfin vfinal
  dsimp only
  split
  ·rename_i u h hvl
   simp only [hvl]
   exact snd_xvfin
  ·exact snd_xf
theorem vdT_sound (hD:Draws C):VdSound C (vdT C):=vd_sound hD.prog hD.d vb0_sound 1000
theorem loops_in {c:Code} {fn:Func} (hf:C.P.funcs[f]?=some fn) (hb:fn.body=some c) (hl:loopsOk c=true):∀ b∈subloops c,loopAt C f (lkey b)=some b:=by
 intro b h
 unfold loopAt
 rw [hf]
 dsimp only
 rw [hb]
 exact findLoop_of hl h
theorem subloops_sub:∀ {c b:Code},b∈subloops c→∀ b'∈subloops b,b'∈subloops c
 | .seq x y,b,h,b',h'=>by
  simp only [subloops,List.mem_append] at h ⊢
  rcases h with h | h
  ·exact .inl (subloops_sub h b' h')
  ·exact .inr (subloops_sub h b' h')
 | .cond _ x y,b,h,b',h'=>by
  simp only [subloops,List.mem_append] at h ⊢
  rcases h with h | h
  ·exact .inl (subloops_sub h b' h')
  ·exact .inr (subloops_sub h b' h')
 | .block _ x,b,h,b',h'=>subloops_sub (c:=x) h b' h'
 | .loop x,b,h,b',h'=>by
  rcases List.mem_cons.1 h with rfl | h
  ·exact List.mem_cons_of_mem _ h'
  ·exact List.mem_cons_of_mem _ (subloops_sub h b' h')
 | .rangeFunc _ _ x y,b,h,b',h'=>by
  simp only [subloops,List.mem_append] at h ⊢
  rcases h with h | h
  ·exact .inl (subloops_sub h b' h')
  ·exact .inr (subloops_sub h b' h')
 | .skip,b,h,_,_=>by cases h
 | .label _,b,h,_,_=>by cases h
 | .region ..,b,h,_,_=>by cases h
 | .exit _,b,h,_,_=>by cases h
 | .ret,b,h,_,_=>by cases h
 | .goto _,b,h,_,_=>by cases h
theorem subloops_draw:∀ {c b:Code},b∈subloops c→∀ p∈drawRegs b,p∈drawRegs c
 | .seq x y,b,h,p,h'=>by
  simp only [subloops,drawRegs,List.mem_append] at h ⊢
  rcases h with h | h
  ·exact .inl (subloops_draw h p h')
  ·exact .inr (subloops_draw h p h')
 | .cond _ x y,b,h,p,h'=>by
  simp only [subloops,drawRegs,List.mem_append] at h ⊢
  rcases h with h | h
  ·exact .inl (subloops_draw h p h')
  ·exact .inr (subloops_draw h p h')
 | .block _ x,b,h,p,h'=>subloops_draw (c:=x) h p h'
 | .loop x,b,h,p,h'=>by
  rcases List.mem_cons.1 h with rfl | h
  ·exact h'
  ·exact subloops_draw (c:=x) h p h'
 | .rangeFunc _ _ x y,b,h,p,h'=>by
  simp only [subloops,drawRegs,List.mem_append] at h ⊢
  rcases h with h | h
  ·exact .inl (subloops_draw h p h')
  ·exact .inr (subloops_draw h p h')
 | .skip,b,h,_,_=>by cases h
 | .label _,b,h,_,_=>by cases h
 | .region ..,b,h,_,_=>by cases h
 | .exit _,b,h,_,_=>by cases h
 | .ret,b,h,_,_=>by cases h
 | .goto _,b,h,_,_=>by cases h
theorem subRf_sub:∀ {c:Code} {x:Array Tmp×Code×Code},x∈subRf c→(∀ b∈subloops x.2.1++subloops x.2.2,b∈subloops c)∧(∀ p∈drawRegs x.2.1++drawRegs x.2.2,p∈drawRegs c)
 | .seq a b,x,h=>by
  simp only [subRf,List.mem_append] at h
  rcases h with h | h
  ·obtain ⟨h1,h2⟩:=subRf_sub h
   exact ⟨fun b hb=>by simp only [subloops,List.mem_append];exact .inl (h1 b hb),fun p hp=>by simp only [drawRegs,List.mem_append];exact .inl (h2 p hp)⟩
  ·obtain ⟨h1,h2⟩:=subRf_sub h
   exact ⟨fun b hb=>by simp only [subloops,List.mem_append];exact .inr (h1 b hb),fun p hp=>by simp only [drawRegs,List.mem_append];exact .inr (h2 p hp)⟩
 | .cond _ a b,x,h=>by
  simp only [subRf,List.mem_append] at h
  rcases h with h | h
  ·obtain ⟨h1,h2⟩:=subRf_sub h
   exact ⟨fun b hb=>by simp only [subloops,List.mem_append];exact .inl (h1 b hb),fun p hp=>by simp only [drawRegs,List.mem_append];exact .inl (h2 p hp)⟩
  ·obtain ⟨h1,h2⟩:=subRf_sub h
   exact ⟨fun b hb=>by simp only [subloops,List.mem_append];exact .inr (h1 b hb),fun p hp=>by simp only [drawRegs,List.mem_append];exact .inr (h2 p hp)⟩
 | .block _ b,x,h=>by
  obtain ⟨h1,h2⟩:=subRf_sub (c:=b) h
  exact ⟨h1,h2⟩
 | .loop b,x,h=>by
  obtain ⟨h1,h2⟩:=subRf_sub (c:=b) h
  exact ⟨fun b' hb=>List.mem_cons_of_mem _ (h1 b' hb),h2⟩
 | .rangeFunc _ ps a b,x,h=>by
  simp only [subRf,List.mem_cons,List.mem_append] at h
  rcases h with rfl | h | h
  ·exact ⟨fun b hb=>hb,fun p hp=>hp⟩
  ·obtain ⟨h1,h2⟩:=subRf_sub h
   exact ⟨fun b hb=>by simp only [subloops,List.mem_append];exact .inl (h1 b hb),fun p hp=>by simp only [drawRegs,List.mem_append];exact .inl (h2 p hp)⟩
  ·obtain ⟨h1,h2⟩:=subRf_sub h
   exact ⟨fun b hb=>by simp only [subloops,List.mem_append];exact .inr (h1 b hb),fun p hp=>by simp only [drawRegs,List.mem_append];exact .inr (h2 p hp)⟩
 | .skip,x,h=>by cases h
 | .label _,x,h=>by cases h
 | .region ..,x,h=>by cases h
 | .exit _,x,h=>by cases h
 | .ret,x,h=>by cases h
 | .goto _,x,h=>by cases h
theorem findRf_mem:∀ {l:List (Array Tmp×Code×Code)} {s:Nat} {x:Array Tmp×Code×Code},findRf s l=some x→x∈l
 | [],s,b,h=>by cases h
 | x::r,s,b,h=>by
  unfold findRf at h
  split at h
  ·cases h;simp
  ·exact List.mem_cons_of_mem _ (findRf_mem h)
theorem findLoop_mem:∀ {l:List Code} {s:Nat} {b:Code},findLoop s l=some b→b∈l
 | [],s,b,h=>by cases h
 | x::r,s,b,h=>by
  unfold findLoop at h
  split at h
  ·cases h;simp
  ·exact List.mem_cons_of_mem _ (findLoop_mem h)
theorem Runs.to {rd:Bool} {c:Code} {st st1 st2:St} {e:Ex} (hne:∀ v,e≠.pan v) (h:Runs C N rd c st e st1) (k:StTo N st1 st2):Runs C N rd c st e st2:=fun ρ n B τ g a w Q hρ hR hQ =>
 h ρ n B τ g a w Q hρ hR (fun g' e' a' w' hl hR' he=>by
  obtain ⟨g2,l2,r2⟩:=k B τ g' a' w' hR'
  refine hQ g2 e' a' w' (hl.trans l2) r2 ?_
  cases e with
  | pan v=>exact absurd rfl (hne v)
  | _=>cases e'<;>first | exact he.elim | exact he)
theorem opn_runs {rd:Bool} {c:Code} {st st1:St} {s:Nat} {e:Ex} {α:Type} {k:St→T α} {a:α} (h:Runs C N rd c st e st1) (hk:Hits C f N (opn s e st1 k) a):∃ st2,Runs C N rd c st e st2∧Hits C f N (k st2) a:=by
 cases e with
 | pan v=>exact ⟨st1,h,hk⟩
 | _ =>
  obtain ⟨st2,hto,hk⟩:=hk
  exact ⟨st2,h.to (fun v e=>by cases e) hto,hk⟩
theorem xcall_ok (hD:Draws C) {pure:Bool} {dm:List Nat} {fs:List Fm} {args:List V} {h0:List Blk} {out:FOut} (h:Hits C f h0.length (xcall C f pure dm fs args h0) out):FactO C f args h0 out∧f<yBase∧pureOf C f args=pure∧(pure=true→h0=[]):=by
 unfold xcall at h
 split at h
 ·rename_i fn hf
  split at h
  ·rename_i c hc
   split at h
   ·exact h.elim
   ·rename_i hn
    simp only [Bool.or_eq_true,Bool.not_eq_true',not_or,bne_iff_ne,ne_eq,Decidable.not_not,decide_eq_true_eq,Bool.and_eq_true,not_and] at hn
    obtain ⟨⟨⟨⟨hn,hl⟩,hfl⟩,hyb⟩,hem⟩:=hn
    have hyb:f<yBase:=Nat.lt_of_not_le hyb
    obtain ⟨q,hq,h⟩:=reach_xb h
    obtain ⟨st2,r,h⟩:=opn_runs (xexec_reach hD.prog (hD.d f) (hD.ok f) (fun p hp=>⟨fn,c,hf,hc,hp⟩) (loops_in hf hc (by simpa using hl)) hq) h
    obtain ⟨out0,hv,h⟩:=reach_xb h
    have h:out=(match (generalizing:=false) pure with | true=>mapOut dm fs out0 | false=>out0):=by
     cases pure<;>exact h
    have hvf:=snd_xfin out0 hv
    have hn:(fn.name == "runtime.NumGoroutine")=false:=by simpa using hn
    cases pure with
    | true =>
     have he:h0=[]:=by
      have:=hem rfl
      cases h0 with
      | nil=>rfl
      | cons x xs=>simp at this
     subst he
     have F:=FactO.ofRuns (vdT_sound hD) hf hc hn hyb hfl r hvf
     dsimp only at h
     subst h
     cases out0 with
     | pan v h1=>exact ⟨F,hyb,hfl,fun _=>rfl⟩
     | ret v h1 =>
      have hh1:h1=[]:=by
       have hv:=hvf
       dsimp only at hv
       unfold vfinal at hv
       split at hv
       all_goals first | (cases hv;done) | skip
       all_goals
        split at hv
        ·rename_i u h2 hvl
         unfold vfin at hv
         split at hv
         ·obtain ⟨vs,_,hv⟩:=bindO_eq hv
          rw [if_pos rfl] at hv
          split at hv
          ·obtain ⟨ys,_,hv⟩:=bindO_eq hv
           cases hv;rfl
          ·cases hv
         ·rw [if_pos rfl] at hv
          rcases condB_cases hv with ⟨_,hv⟩ | ⟨_,hv⟩<;>cases hv
        ·cases hv
      subst hh1
      exact ⟨((F.sp hyb hfl).outR dm fs).fact,hyb,hfl,fun _=>rfl⟩
    | false =>
     dsimp only at h
     subst h
     exact ⟨FactO.ofRunsH (vdT_sound hD) hf hc hn hyb hfl r hvf,hyb,hfl,fun h=>(by cases h)⟩
  ·exact h.elim
 ·exact h.elim
theorem xbody_ok (hD:Draws C) {rd:Bool} {s:Nat} {kn ke:List (Nat×Fm)} {st:St} {q:Ex×St} (h:Hits C f N (xbody C f rd s kn ke st) q):BodyRuns C f N rd s st q.1 q.2:=by
 unfold xbody at h
 split at h
 ·rename_i fn hf
  split at h
  ·rename_i c hc
   split at h
   ·exact h.elim
   ·rename_i hl
    split at h
    ·rename_i b hb
     obtain ⟨⟨e,s1⟩,hq,h⟩:=reach_xb h
     have hmem:b∈subloops c:=by
      unfold loopAt at hb
      rw [hf] at hb
      dsimp only at hb
      rw [hc] at hb
      exact findLoop_mem hb
     have hl:=loops_in hf hc (by simpa using hl)
     have r:=xexec_reach hD.prog (hD.d f) (hD.ok f) (fun p hp=>⟨fn,c,hf,hc,subloops_draw hmem p hp⟩) (fun b' hb'=>hl b' (subloops_sub hmem b' hb')) hq
     refine ⟨b,hb,?_⟩
     cases e with
     | normal=>obtain ⟨s2,hto,h⟩:=h;have h:q=(.normal,relax kn s2):=h;subst h;exact Runs.post kn (r.to (fun _ e=>by cases e) hto)
     | exit i=>obtain ⟨s2,hto,h⟩:=h;have h:q=(.exit i,relax ke s2):=h;subst h;exact Runs.post ke (r.to (fun _ e=>by cases e) hto)
     | ret=>obtain ⟨s2,hto,h⟩:=h;have h:q=(.ret,relax ke s2):=h;subst h;exact Runs.post ke (r.to (fun _ e=>by cases e) hto)
     | pan v=>have h:q=(.pan v,relax ke s1):=h;subst h;exact Runs.post ke r
    ·exact h.elim
  ·exact h.elim
 ·exact h.elim
theorem xround_ok (hD:Draws C) {s id:Nat} {fr args:List V} {h0:List Blk} {pd:Option Code} {out:FOut} (hL:h0[id]?=some (.loop ⟨.ready,pd,f,fr,rfP C f s,rfA C f s,rfB C f s⟩)) (hs:(rfAt C f s).isSome=true)
  (h:Hits C f h0.length (xround C id f (rfP C f s) (rfA C f s) (rfB C f s) fr args h0) out):FactO C (yBase+id) args h0 out:=by
 have hno:∀ {f'},f'<yBase→yBase+id=f'→False:=fun h1 h2=>by omega
 refine ⟨fun f' args' h' out' e hs=>?_,fun f' args' out' e hs=>?_,fun f' args' h' out' e hs=>?_,fun id' args' h' out' e ρ n us w B g l hho hmo hlo hB ha hl=>?_⟩
 ·exact (hno hs (vb1_inv e).1.symm).elim
 ·exact (hno hs (vb1_inv e).1.symm).elim
 ·exact (hno hs (vb1_inv e).1.symm).elim
 obtain ⟨hid,rfl,rfl,rfl⟩:=vb1_inv e
 obtain rfl:id'=id:=Nat.add_left_cancel hid
 unfold xround at h
 split at h
 ·rename_i fn0 hf
  split at h
  ·rename_i c hc
   split at h
   ·exact h.elim
   rename_i hn
   simp only [Bool.or_eq_true,Bool.not_eq_true',not_or,Bool.not_eq_false,beq_iff_eq] at hn
   obtain ⟨hlok,hlen⟩:=hn
   have hmem:(rfP C f s,rfA C f s,rfB C f s)∈subRf c:=by
    have:rfAt C f s=some (rfP C f s,rfA C f s,rfB C f s):=by
     obtain ⟨x,hx⟩:=Option.isSome_iff_exists.1 hs
     unfold rfP rfA rfB rfGet
     rw [hx]
     rfl
    unfold rfAt at this
    rw [hf] at this
    dsimp only at this
    rw [hc] at this
    exact findRf_mem this
   obtain ⟨hsub,hdr⟩:=subRf_sub hmem
   have hloops:=loops_in hf hc hlok
   have hreg:∀ p∈drawRegs (rfA C f s)++drawRegs (rfB C f s),RegOf C.P f p.1 p.2:=fun p hp=>⟨fn0,c,hf,hc,hdr p hp⟩
   obtain ⟨o,ho,hgood,tmps,D,fn,rfl,hsz,hfr⟩:=hho.blkO id' l _ hl hL
   have hus:us.size=(rfP C f s).size:=by rw [←ha.1];exact hlen
   refine ⟨_,_,_,_,run_yield ho hus,roundIn_of_wpIn (F:=FW ρ) trivial ?_⟩
   obtain ⟨τ,hτ⟩:=free_tau hlo
   have hbd:id'<h'.length:=(List.getElem?_eq_some_iff.1 hL).1
   have hfold:((rfP C f s).zip us).foldl (fun tmps (x:Tmp×Value)=>tmps.setIfInBounds x.1 x.2) tmps=((rfP C f s).toList.zip us.toList).foldl (fun t (p:Tmp×Value)=>t.setIfInBounds p.1 p.2) tmps:=by
    rw [←Array.foldl_toList,Array.toList_zip]
   have hR:R B τ g ⟨setPs (rfP C f s).toList args' fr,h',[]⟩ {tmps:=((rfP C f s).zip us).foldl (fun tmps (x:Tmp×Value)=>tmps.setIfInBounds x.1 x.2) tmps,defers:=[]} w:=by
    rw [hfold]
    have hsize:∀ (l:List (Tmp×Value)) (t:Array Value),(l.foldl (fun t (p:Tmp×Value)=>t.setIfInBounds p.1 p.2) t).size=t.size:=by
     intro l
     induction l with
     | nil=>intro t;rfl
     | cons x l ih=>intro t;rw [List.foldl_cons,ih];simp
    refine ⟨by rw [setPs_length,hsize];exact hsz,?_,hho,hmo,hlo,hB,rfl⟩
    exact setPs_rep _ _ _ _ _ (by simpa using ha.1) hsz (fun i v hi hv=>(hfr i v hi hv).2 τ i) (fun j c u hc hu d=>by
     have hj:j<us.size:=by have:=(List.getElem?_eq_some_iff.1 hu).1;simpa using this
     have e:us[j]=u:=by
      rw [Array.getElem?_toList,Array.getElem?_eq_getElem hj] at hu
      cases hu;rfl
     rw [←e]
     exact (ha.2 j c hj hc).2 τ d)
   obtain ⟨q,hq,h⟩:=reach_xb h
   have r1:=xexec_reach hD.prog (hD.d f) (hD.ok f) (fun p hp=>hreg p (List.mem_append_left _ hp)) (fun b hb=>hloops b (hsub b (List.mem_append_left _ hb))) hq
   refine r1 (some l) n B τ g _ w _ (fun h=>by cases h) hR (fun g1 e' a1 w1 hl1 hR1 he=>?_)
   obtain ⟨e,st'⟩:=q
   cases e<;>cases e'<;>first | exact he.elim | exact h.elim | skip
   dsimp only at h hR1
   show ∃ w₂,_∧_
   split at h
   ·rename_i L2 hL2
    split at h
    ·rename_i hst2
     have hloc1:=hl1.loc _ _ hbd hl
     obtain ⟨o2,ho2,hgood2,tmps2,D2,fn2,rfl,hsz2,hfr2⟩:=hR1.heap.blkO id' l _ hloc1 hL2
     have hlt:=(hR1.heap.fresh id' l hloc1).2.1
     have hBl:=(hR1.heap.fresh id' l hloc1).1
     obtain ⟨l2,R2⟩:=write_obj (x':=.loop {L2 with state:=.busy}) (o':=.loop {state:=.busy,pending:=L2.pending,fn:=fn2,tmps:=tmps2,params:=L2.ps,assign:=L2.asg,body:=L2.body,defers:=D2}) (w':=w1.putObj l (.loop {state:=.busy,pending:=L2.pending,fn:=fn2,tmps:=tmps2,params:=L2.ps,assign:=L2.asg,body:=L2.body,defers:=D2})) hR1 hloc1 hL2 rfl rfl
      (World.putObj_heap_same hlt) ⟨rfl,rfl,rfl,by simp,fun k hk=>World.putObj_heap_other (by omega)⟩ (fun c hc=>World.putObj_heap_other hc) World.putObj_size ⟨hgood2,tmps2,D2,fn2,rfl,hsz2,hfr2⟩ (fun cur e fr h0=>by rw [ho2] at h0;cases h0)
     refine ⟨_,run_beginRound ho2 hst2,?_⟩
     obtain ⟨q,hq,h⟩:=reach_xb h
     have r2:=xexec_reach hD.prog (hD.d f) (hD.ok f) (fun p hp=>hreg p (List.mem_append_right _ hp)) (fun b hb=>hloops b (hsub b (List.mem_append_right _ hb))) hq
     have fin:∀ (jump:Option Code) (ex:Ex) (e3:Exit) (st3:St),Runs C h'.length true (rfB C f s) {st' with h:=st'.h.set id' (.loop {L2 with state:=.busy})} ex st3→∀ (g3:Gh) (a3:Act) (w3:World),LaterN h'.length B τ g1 g3 (w1.putObj l (.loop {state:=.busy,pending:=L2.pending,fn:=fn2,tmps:=tmps2,params:=L2.ps,assign:=L2.asg,body:=L2.body,defers:=D2})) w3→R B τ g3 st3 a3 w3 →
       (∃ st4,StTo h'.length st3 st4∧roundEnd id' jump st4.h=some out')→∃ v w',(Instr.endRound l jump).run C.P w3=.ok v w'∧HeapOut B g w out' (.returned v) w':=by
      intro jump ex e3 st3 _ g3 a3 w3 hl3 hR3 ⟨st4,hto,hend⟩
      obtain ⟨g4,hl4,hR4⟩:=hto B τ g3 a3 w3 hR3
      have lall:=((hl1.trans (.of l2)).trans hl3).trans hl4
      unfold roundEnd at hend
      split at hend
      ·rename_i L3 hL3
       cases hend
       have hloc3:=lall.loc _ _ hbd hl
       obtain ⟨o3,ho3,hgood3,tmps3,D3,fn3,rfl,hsz3,hfr3⟩:=hR4.heap.blkO id' l _ hloc3 hL3
       have hlt3:=(hR4.heap.fresh id' l hloc3).2.1
       refine ⟨_,_,run_endRound jump ho3,?_⟩
       obtain ⟨c1,c2,c3⟩:=write_core (x':=.loop {L3 with state:=if jump.isNone then .ready else .done,pending:=jump})
        (o':=.loop {state:=if jump.isNone then .ready else .done,pending:=jump,fn:=fn3,tmps:=tmps3,params:=L3.ps,assign:=L3.asg,body:=L3.body,defers:=D3})
        (w':=w3.putObj l (.loop {state:=if jump.isNone then .ready else .done,pending:=jump,fn:=fn3,tmps:=tmps3,params:=L3.ps,assign:=L3.asg,body:=L3.body,defers:=D3}))
        hR4.heap hR4.mem hR4.lin hloc3 hL3 rfl (World.putObj_heap_same hlt3) (fun c hc=>World.putObj_heap_other hc) World.putObj_size ⟨hgood3,tmps3,D3,fn3,rfl,hsz3,hfr3⟩ (fun cur e fr h0=>by rw [ho3] at h0;cases h0)
       refine ⟨g4,⟨_,rfl,RepI.bool _⟩,rfl,lall.below.trans ⟨rfl,rfl,rfl,by simp,fun k hk=>World.putObj_heap_other (by have:=(hR4.heap.fresh id' l hloc3).1;omega)⟩,lall.mem,lall.old,fun id b hb=>lall.loc id b (hho.bound id b hb) hb,fun b i hi ⟨τ',x,j,k,hp⟩=>lall.lin b i hi ⟨τ',x,j,k,hp,hτ b i hi τ' x j k hp⟩,c1,c2,c3⟩
      ·cases hend
     refine r2 (some l) n B τ g1 _ _ _ (fun h=>by cases h) R2 (fun g3 e' a3 w3 hl3 hR3 he=>?_)
     obtain ⟨e,st3⟩:=q
     cases e<;>cases e'<;>first | exact he.elim | exact h.elim | skip
     ·obtain ⟨st4,hto,h⟩:=h
      exact fin none .normal .normal st3 r2 g3 a3 w3 hl3 hR3 ⟨st4,hto,snd_xlift out' h⟩
     ·obtain rfl:_=_:=he
      obtain ⟨st4,hto,h⟩:=h
      exact fin (some (.exit _)) _ .normal st3 r2 g3 a3 w3 hl3 hR3 ⟨st4,hto,snd_xlift out' h⟩
     ·obtain ⟨st4,hto,h⟩:=h
      exact fin (some .ret) _ .normal st3 r2 g3 a3 w3 hl3 hR3 ⟨st4,hto,snd_xlift out' h⟩
    ·exact h.elim
   ·exact h.elim
  ·exact h.elim
 ·exact h.elim
theorem sp_tree (hD:Draws C) {dm:List Nat} {fs:List Fm} {args:List V} {v:V} (g:G FOut) (h:follow C.P 0 (xcall C f true dm fs args []) g=some g) (hh:Holds C f 0 g (fun x=>x=.ret v [])):Sp C f args v:=by
 obtain ⟨a,h1,rfl⟩:=follow_ok _ _ _ h hh
 obtain ⟨h1,h2,h3,_⟩:=xcall_ok hD (h0:=[]) h1
 exact h1.sp h2 h3
theorem spH_tree (hD:Draws C) {args:List V} {h0:List Blk} {v:V} {h':List Blk} (g:G FOut) (h:follow C.P h0.length (xcall C f false [] [] args h0) g=some g) (hh:Holds C f h0.length g (fun x=>x=.ret v h')):SpH C f args h0 v h':=by
 obtain ⟨a,h1,rfl⟩:=follow_ok _ _ _ h hh
 obtain ⟨h1,h2,h3,_⟩:=xcall_ok hD h1
 exact h1.spH h2 h3
theorem fact_tree (hD:Draws C) {pure:Bool} {args:List V} {h0:List Blk} {out:FOut} (g:G FOut) (h:follow C.P h0.length (xcall C f pure [] [] args h0) g=some g) (hh:Holds C f h0.length g (fun x=>x=out)):FactO C f args h0 out:=by
 obtain ⟨a,h1,rfl⟩:=follow_ok _ _ _ h hh
 exact (xcall_ok hD h1).1
theorem round_tree (hD:Draws C) {s id:Nat} {fr args:List V} {h0:List Blk} {pd:Option Code} {out:FOut} (hL:h0[id]?=some (.loop ⟨.ready,pd,f,fr,rfP C f s,rfA C f s,rfB C f s⟩)) (hs:(rfAt C f s).isSome=true)
  (g:G FOut) (h:follow C.P h0.length (xround C id f (rfP C f s) (rfA C f s) (rfB C f s) fr args h0) g=some g) (hh:Holds C f h0.length g (fun x=>x=out)):FactO C (yBase+id) args h0 out:=by
 obtain ⟨a,h1,rfl⟩:=follow_ok _ _ _ h hh
 exact xround_ok hD hL hs h1
theorem loop_tree (hD:Draws C) {rd:Bool} {s:Nat} {kn ke:List (Nat×Fm)} {st st2:St} {e:Ex} (g:G (Ex×St)) (h:follow C.P N (xbody C f rd s kn ke st) g=some g)
  (hh:Holds C f N g (fun q=>match q.1 with | .normal=>LoopR C f N rd s q.2 e st2 | e'=>e'=e∧q.2=st2)):LoopR C f N rd s st e st2:=by
 obtain ⟨⟨e1,s1⟩,h1,h2⟩:=follow_ok _ _ _ h hh
 have hb:=xbody_ok hD h1
 cases e1 with
 | normal=>exact hb.step h2
 | exit i=>obtain ⟨rfl,rfl⟩:=h2;exact hb.loop (fun e=>by cases e)
 | ret=>obtain ⟨rfl,rfl⟩:=h2;exact hb.loop (fun e=>by cases e)
 | pan v=>obtain ⟨rfl,rfl⟩:=h2;exact hb.loop (fun e=>by cases e)
def LoopK (C:Cx) (f:FuncId) (s:Nat) (_keep:List (Nat×Fm)) (st:St) (e:Ex) (st':St):Prop:=LoopR C f 0 true s st e st'
def LoopKN (C:Cx) (f:FuncId) (N:Nat) (s:Nat) (_keep:List (Nat×Fm)) (st:St) (e:Ex) (st':St):Prop:=LoopR C f N true s st e st'
def LoopKF (C:Cx) (f:FuncId) (N:Nat) (s:Nat) (_keep:List (Nat×Fm)) (st:St) (e:Ex) (st':St):Prop:=LoopR C f N false s st e st'
theorem Sp.imm0 {pre post:List V} {n:Nat} {v:V} (h1:Sp C f (pre++.nils::post) v) (h2:Sp C f (pre++.nne::post) v):Sp C f (pre++.imm false n []::post) v:=by
 refine ⟨h1.fn,h1.small,?_,fun k us w m hm ha=>?_⟩
 ·have:=h1.flat
  unfold pureOf at this ⊢
  simp only [List.all_append,List.all_cons,Bool.and_eq_true] at this ⊢
  exact ⟨⟨this.1.1,rfl,this.1.2.2⟩,this.2⟩
 ·obtain ⟨hl,ha⟩:=ha
  have hlen:pre.length<us.size:=by rw [←hl];simp
  have hr:=ha pre.length (.imm false n []) hlen (by simp)
  have put:∀ x,RepI m x us[pre.length]→ArgsI m (pre++x::post) us:=by
   intro x hx
   refine ⟨by rw [←hl];simp,fun j c hj hc=>?_⟩
   by_cases e:j=pre.length
   ·subst e
    rw [List.getElem?_append_right (Nat.le_refl _)] at hc
    simp at hc
    exact hc ▸ hx
   ·refine ha j c hj ?_
    by_cases hlt:j<pre.length
    ·rw [List.getElem?_append_left hlt] at hc ⊢;exact hc
    ·rw [List.getElem?_append_right (by omega)] at hc ⊢
     obtain ⟨i,hi⟩:∃ i,j-pre.length=i+1:=⟨j-pre.length-1,by omega⟩
     rw [hi] at hc ⊢
     exact hc
  generalize hu:us[pre.length]=u at hr put
  cases hr with
  | none0=>exact h1.run k us w m hm (put .nils .nils)
  | imm _ _ b off cap _ _ _ _ hmx _ _ _ _ sp hp=>exact h2.run k us w m hm (put .nne (.nne ⟨b,off,sp⟩ cap hmx hp))
end
end Go.Fw
namespace Go.Fw
open Go.RowKit
def memOf (w:World):Mem:=⟨fun b=>match w.heap[b]? with
 | some (.cells cur _ _)=>some cur.toList
 | _=>none,fun _=>none⟩
def GlobOk (w:World):Prop:=∀ (b:Nat) (cs:List Value),theGlob b=some cs→∃ cur e fr,w.heap[b]?=some (.cells cur e fr)∧cs <+: cur.toList
theorem memOf_ok {w:World} (hw:GlobOk w):MemOk (memOf w) w:=by
 refine ⟨fun b cs h=>?_,fun b cs h=>?_,fun b n e h=>by cases h⟩
 ·unfold memOf at h
  dsimp only at h
  split at h
  ·rename_i cur e fr hc
   cases h
   exact ⟨cur,e,fr,hc,List.prefix_refl _⟩
  ·cases h
 ·obtain ⟨cur,e,fr,h1,h2⟩:=hw b cs h
  refine ⟨cur.toList,?_,h2⟩
  unfold memOf
  dsimp only
  rw [h1]
theorem memOf_cell {w:World} {a:Addr} {v:Value} (h:w.cell? a=some v):a.spot=none∧stAt (memOf w) a.block a.off=some v:=by
 unfold World.cell? at h
 unfold stAt memOf
 dsimp only
 split at h
 ·rename_i c e fr hc
  split at h
  ·cases h
  ·rename_i hs
   rw [hc]
   refine ⟨by cases hh:a.spot with | none=>rfl | some x=>rw [hh] at hs;simp at hs,?_⟩
   simp only [Option.bind_some]
   rw [Array.getElem?_toList]
   exact h
 ·cases h
def flatT (P:Program):Nat→TypeId→Option (List TypeId)
 | 0,_=>none
 | n+1,t=>match P.underlying t with
  | some (.struct fs)=>flatF (fun t=>flatT P n t) P.cellsOf 0 fs.toList
  | some (.array _ _)=>none
  | some _=>some [t]
  | none=>none
where
 flatF (r:TypeId→Option (List TypeId)) (sz:TypeId→Nat):Nat→List Field→Option (List TypeId)
  | _,[]=>some []
  | off,f::fs=>match r f.type,flatF r sz (off+sz f.type) fs with
   | some ts,some us=>if f.offset=off∧ts.length=sz f.type then some (ts++us) else none
   | _,_=>none
def TypE (P:Program) (r:TypeId→V→Prop) (e:TypeId) (x:V):Prop:=match isAggT P e with
 | some true=>∃ ts cs,flatT P 20 e=some ts∧x=.agg cs∧cs.length=ts.length∧∀ (j:Nat) (c:V) (t:TypeId),cs[j]?=some c→ts[j]?=some t→r t c
 | some false=>r e x
 | none=>False
def TypC (P:Program):Nat→TypeId→V→Prop
 | 0,_,_=>False
 | n+1,t,c=>match P.underlying t with
  | some .bool=>∃ b,c=.bool b
  | some (.int k)=>∃ z,c=.int k z∧(Lit.int k z).wf=true
  | some .string=>∃ s,c=.str s∧s.size≤reachBytes
  | some (.slice e)=>∃ xs,c=.imm false (P.cellsOf e) xs∧xs.length*P.bytesOf e≤reachBytes∧∀ x∈xs,TypE P (TypC P n) e x
  | _=>False
def goodT (P:Program):Nat→TypeId→Bool
 | 0,_=>false
 | n+1,t=>match P.underlying t with
  | some .bool | some (.int _) | some .string=>P.cellsOf t==1
  | some (.slice e)=>P.cellsOf t==1&&decide (0<P.cellsOf e)&&(match flatT P 20 e,isAggT P e with
   | some ts,some a=>ts.length==P.cellsOf e&&(a||ts==[e])&&ts.all (goodT P n)
   | _,_=>false)
  | _=>false
theorem TypC.flat {P:Program} {n:Nat} {t:TypeId} {c:V} (h:TypC P n t c):flat0 c=true∧isCell c=true:=by
 cases n with
 | zero=>exact h.elim
 | succ n =>
  unfold TypC at h
  split at h
  ·obtain ⟨b,rfl⟩:=h;exact ⟨rfl,rfl⟩
  ·obtain ⟨b,rfl,_⟩:=h;exact ⟨rfl,rfl⟩
  ·obtain ⟨b,rfl,_⟩:=h;exact ⟨rfl,rfl⟩
  ·obtain ⟨xs,rfl,_⟩:=h;exact ⟨rfl,rfl⟩
  ·exact h.elim
section
variable {H:Type} {enc:TypeId×Value→H} {P:Program} {w:World} {base:Nat} {spare:Nat→Bool} {held:Bool}
theorem cells_get {n:Nat} {a:Addr} {cs:List Value} (h:w.cells? base a n=some cs):cs.length=n∧∀ (j:Nat) (u:Value),cs[j]?=some u→w.cell? (a.add j)=some u:=by
 unfold World.cells? at h
 split at h
 ·have hl:=mapM_some_length h
  refine ⟨by simpa using hl,fun j u hu=>?_⟩
  have hj:j<n:=by have:=(List.getElem?_eq_some_iff.1 hu).1;simp at hl;omega
  have:=mapM_some_get h j j (by simp [hj])
  rw [this];exact hu
 ·cases h
theorem flatF_at {r:TypeId→Option (List TypeId)} {sz:TypeId→Nat}:∀ {fs:List Field} {off:Nat} {ts:List TypeId},flatT.flatF r sz off fs=some ts→∀ (j:Nat) (t:TypeId),ts[j]?=some t →
  ∃ (i:Nat) (f:Field) (us:List TypeId) (j':Nat),fs[i]?=some f∧r f.type=some us∧us.length=sz f.type∧us[j']?=some t∧off+j=f.offset+j'∧f.offset+us.length≤off+ts.length
 | [],off,ts,h,j,t,ht=>by cases h;simp at ht
 | f::fs,off,ts,h,j,t,ht=>by
  unfold flatT.flatF at h
  split at h
  ·rename_i us vs h1 h2
   split at h
   ·rename_i hc
    cases h
    by_cases hj:j<us.length
    ·rw [List.getElem?_append_left hj] at ht
     exact ⟨0,f,us,j,rfl,h1,hc.2,ht,by rw [hc.1],by rw [hc.1,List.length_append];omega⟩
    ·rw [List.getElem?_append_right (by omega)] at ht
     obtain ⟨i,g,ws,j',q1,q2,q3,q4,q5,q6⟩:=flatF_at h2 _ t ht
     have:=hc.2
     exact ⟨i+1,g,ws,j',by simpa using q1,q2,q3,q4,by rw [←q5];omega,by rw [List.length_append];omega⟩
   ·cases h
  ·cases h
theorem flat_trod:∀ (n:Nat) {fuel:Nat} {t:TypeId} {ts:List TypeId} {us:List Value} {x:DataW H×List MemPlace},flatT P n t=some ts→DataW.trod enc P w base spare held fuel t us=some x→(∀ m∈x.1.weights P t,m≤reachBytes)→us.length=ts.length →
  ∀ (j:Nat) (u:Value) (t':TypeId),us[j]?=some u→ts[j]?=some t'→∃ fuel' x',DataW.trod enc P w base spare held fuel' t' [u]=some x'∧∀ m∈x'.1.weights P t',m≤reachBytes
 | 0,fuel,t,ts,us,x,h,_,_,_,_,_,_,_,_=>by simp [flatT] at h
 | n+1,fuel,t,ts,us,x,h,hr,hw,hlen,j,u,t',hu,ht=>by
  unfold flatT at h
  split at h
  ·rename_i fs hfs
   obtain ⟨xs,n',rfl,hx,hl,hxl,hat⟩:=DataW.trod_struct hfs hr
   obtain ⟨i,f,vs,j',q1,q2,q3,q4,q5,q6⟩:=flatF_at h j t' ht
   have hj':=(List.getElem?_eq_some_iff.1 q4).1
   have hf:=hat i f (by rw [←Array.getElem?_toList];exact q1)
   have hi:i<xs.length:=by have:=(List.getElem?_eq_some_iff.1 q1).1;simp at this;omega
   rw [List.getElem?_eq_getElem hi] at hf
   have hju:((us.drop f.offset).take (P.cellsOf f.type))[j']?=some u:=by
    rw [takeDrop_get,if_pos (by rw [←q3];exact hj'),←q5,Nat.zero_add]
    exact hu
   have hdl:((us.drop f.offset).take (P.cellsOf f.type)).length=vs.length:=by
    simp only [List.length_take,List.length_drop]
    omega
   refine flat_trod n q2 hf (fun m hm=>hw m ?_) hdl j' u t' hju q4
   rw [hx]
   unfold DataW.weights
   rw [hfs]
   dsimp only
   refine DataW.weights_mem_each (j:=i) (t:=f.type) (d:=xs[i].1) ?_ ?_ m hm
   ·rw [List.getElem?_map,q1];rfl
   ·rw [List.getElem?_map,List.getElem?_eq_getElem hi];rfl
  ·cases h
  ·rename_i d hd1 hd2 hd
   cases h
   match us,hlen with
   | [u0],_ =>
    cases j with
    | zero =>
     cases hu;cases ht
     exact ⟨fuel,x,hr,hw⟩
    | succ j=>simp at hu
  ·cases h
theorem weightsAll_mem {e:TypeId}:∀ {ds:List (DataW H)} {i:Nat} {d:DataW H},ds[i]?=some d→∀ m∈d.weights P e,m∈DataW.weightsAll P e ds
 | d0::ds,0,d,h,m,hm=>by
  cases h
  unfold DataW.weightsAll
  exact List.mem_append_left _ hm
 | d0::ds,i+1,d,h,m,hm=>by
  unfold DataW.weightsAll
  exact List.mem_append_right _ (weightsAll_mem (by simpa using h) m hm)
theorem open_cell:∀ (n:Nat) {fuel:Nat} {t:TypeId} {u:Value} {x:DataW H×List MemPlace},goodT P n t=true→DataW.trod enc P w base (fun _=>true) held fuel t [u]=some x→(∀ m∈x.1.weights P t,m≤reachBytes) →
  ∃ c,TypC P n t c∧RepI (memOf w) c u
 | 0,fuel,t,u,x,hg,_,_=>by simp [goodT] at hg
 | n+1,0,t,u,x,hg,h,_=>by simp [DataW.trod] at h
 | n+1,fuel+1,t,u,x,hg,h,hw=>by
  unfold goodT at hg
  split at hg
  ·rename_i ht
   unfold DataW.trod at h
   rw [ht] at h
   cases u<;>simp at h
   rename_i b
   exact ⟨.bool b,by unfold TypC;rw [ht];exact ⟨b,rfl⟩,.bool b⟩
  ·rename_i k ht
   unfold DataW.trod at h
   rw [ht] at h
   cases u<;>simp at h
   rename_i k' z
   obtain ⟨⟨rfl,hwf⟩,_⟩:=h
   exact ⟨.int k' z,by unfold TypC;rw [ht];exact ⟨z,rfl,hwf⟩,.int k' z⟩
  ·rename_i ht
   unfold DataW.trod at h
   rw [ht] at h
   cases u<;>simp at h
   rename_i s
   obtain ⟨_,rfl⟩:=h
   refine ⟨.str s,?_,.str s⟩
   unfold TypC
   rw [ht]
   refine ⟨s,rfl,?_⟩
   have:=hw s.data.toList.length (by unfold DataW.weights;exact List.mem_singleton.2 rfl)
   rw [Array.length_toList] at this
   exact this
  ·rename_i e ht
   simp only [Bool.and_eq_true,beq_iff_eq,decide_eq_true_eq] at hg
   obtain ⟨⟨hc1,hsz⟩,hg⟩:=hg
   split at hg
   ·rename_i ts a hts hag
    simp only [Bool.and_eq_true,beq_iff_eq,Bool.or_eq_true,List.all_eq_true] at hg
    obtain ⟨⟨htl,hone⟩,hall⟩:=hg
    rcases DataW.trod_slice ht h with ⟨h0,_⟩ | ⟨ad,len,cap,elems,rest,m,hfu,hcs,hx,hb,hl,hm,hlen,hel,hsp,_⟩
    ·cases h0
     exact ⟨.imm false (P.cellsOf e) [],by unfold TypC;rw [ht];exact ⟨[],rfl,by simp,fun x hx=>by cases hx⟩,.none0 false _ hsz⟩
    ·simp only [List.cons.injEq,and_true] at hcs
     subst hcs
     have hwt:∀ (y:Nat),y∈x.1.weights P t→y≤reachBytes:=hw
     rw [hx] at hwt
     unfold DataW.weights at hwt
     rw [ht] at hwt
     dsimp only at hwt
     have hbytes:len*P.bytesOf e≤reachBytes:=by
      have:=hwt _ (List.mem_cons_self ..)
      rw [List.length_map,hlen,Nat.add_mul] at this
      omega
     have each:∀ (i j:Nat),i<len→j<P.cellsOf e→∃ c v t',ts[j]?=some t'∧TypC P n t' c∧w.cell? ((ad.add (i*P.cellsOf e)).add j)=some v∧RepI (memOf w) c v:=by
      intro i j hi hj
      have hie:i<elems.length:=by omega
      have hei:=hel i hi
      rw [List.getElem?_eq_getElem hie] at hei
      obtain ⟨cs,hcs,htr⟩:=Option.bind_eq_some_iff.1 hei
      obtain ⟨hcl,hcg⟩:=cells_get hcs
      have hjc:j<cs.length:=by omega
      have hjt:j<ts.length:=by omega
      obtain ⟨fu,y,hy,hyw⟩:=flat_trod 20 hts htr (fun m hm=>hwt m (List.mem_cons_of_mem _ (List.mem_append_left _ (weightsAll_mem (i:=i) (by rw [List.getElem?_map,List.getElem?_eq_getElem hie];rfl) m hm)))) (by omega) j _ _ (List.getElem?_eq_getElem hjc) (List.getElem?_eq_getElem hjt)
      obtain ⟨c,hc,hr⟩:=open_cell n (hall _ (List.getElem_mem hjt)) hy hyw
      exact ⟨c,_,_,List.getElem?_eq_getElem hjt,hc,hcg j _ (List.getElem?_eq_getElem hjc),hr⟩
     have hspot:ad.spot=none∨cap=0:=by
      by_cases hcap:cap=0
      ·exact .inr hcap
      ·left
       by_cases hl0:len=0
       ·obtain ⟨hr1,hr2⟩:=hsp rfl
        have hr3:=hr2 0 (by omega)
        have:0<rest.length:=by omega
        rw [List.getElem?_eq_getElem this] at hr3
        obtain ⟨cs,hcs,_⟩:=Option.bind_eq_some_iff.1 hr3
        obtain ⟨hcl,hcg⟩:=cells_get hcs
        have h0c:0<cs.length:=by omega
        have:=hcg 0 _ (List.getElem?_eq_getElem h0c)
        rw [hl0] at this
        simpa [Addr.add] using (memOf_cell this).1
       ·obtain ⟨c,v,t',_,_,hcell,_⟩:=each 0 0 (by omega) hsz
        simpa [Addr.add] using (memOf_cell hcell).1
     classical
     let cf:Nat→Nat→V:=fun i j=>if h:i<len∧j<P.cellsOf e then Classical.choose (each i j h.1 h.2) else .undef
     let vf:Nat→Nat→Value:=fun i j=>if h:i<len∧j<P.cellsOf e then Classical.choose (Classical.choose_spec (each i j h.1 h.2)) else default
     have hcf:∀ i j,i<len→j<P.cellsOf e→∃ t',ts[j]?=some t'∧TypC P n t' (cf i j)∧w.cell? ((ad.add (i*P.cellsOf e)).add j)=some (vf i j)∧RepI (memOf w) (cf i j) (vf i j):=by
      intro i j hi hj
      have h:=Classical.choose_spec (Classical.choose_spec (each i j hi hj))
      simp only [cf,vf,dif_pos (show i<len∧j<P.cellsOf e from ⟨hi,hj⟩)]
      exact h
     let mk:Nat→V:=fun i=>if a then .agg ((List.range (P.cellsOf e)).map (cf i)) else cf i 0
     have hmk:∀ i,i<len→(mk i).cells=(List.range (P.cellsOf e)).map (cf i):=by
      intro i hi
      cases a with
      | true=>rfl
      | false =>
       have h1:P.cellsOf e=1:=by
        rcases hone with h | h
        ·cases h
        ·rw [←htl,h];rfl
       obtain ⟨t',_,ht',_⟩:=hcf i 0 hi (by omega)
       have:=ht'.flat.2
       simp only [mk,Bool.false_eq_true,if_false,h1]
       generalize hg:cf i 0=c at this
       have:c.cells=[c]:=by cases c<;>first | rfl | cases this
       rw [this]
       simp [hg]
     refine ⟨.imm false (P.cellsOf e) ((List.range len).map mk),?_,?_⟩
     ·unfold TypC
      rw [ht]
      refine ⟨_,rfl,by simpa using hbytes,fun x hx=>?_⟩
      obtain ⟨i,hi,rfl⟩:=List.mem_map.1 hx
      have hi:=List.mem_range.1 hi
      unfold TypE
      rw [hag]
      cases a with
      | true =>
       refine ⟨ts,(List.range (P.cellsOf e)).map (cf i),hts,rfl,by simp [htl],fun j c t' hc ht'=>?_⟩
       have hj:j<P.cellsOf e:=by have:=(List.getElem?_eq_some_iff.1 hc).1;simpa using this
       obtain ⟨t2,ht2,hty,_⟩:=hcf i j hi hj
       rw [List.getElem?_map,List.getElem?_range hj] at hc
       cases hc
       rw [ht'] at ht2
       cases ht2
       exact hty
      | false =>
       have h1:ts=[e]:=by
        rcases hone with h | h
        ·cases h
        ·exact h
       obtain ⟨t2,ht2,hty,_⟩:=hcf i 0 hi hsz
       rw [h1] at ht2
       cases ht2
       exact hty
     ·have hlenx:((List.range len).map mk).length=len:=by simp
      have hget:∀ (i:Nat) (x:V) (j:Nat) (c:V),((List.range len).map mk)[i]?=some x→x.cells[j]?=some c→i<len∧j<P.cellsOf e∧c=cf i j:=by
       intro i x j c hx hc
       have hi:i<len:=by have:=(List.getElem?_eq_some_iff.1 hx).1;simpa using this
       rw [List.getElem?_map,List.getElem?_range hi] at hx
       cases hx
       rw [hmk i hi] at hc
       have hj:j<P.cellsOf e:=by have:=(List.getElem?_eq_some_iff.1 hc).1;simpa using this
       rw [List.getElem?_map,List.getElem?_range hj] at hc
       cases hc
       exact ⟨hi,hj,rfl⟩
      have hr:=RepI.imm (m:=memOf w) false ((List.range len).map mk) ad.block ad.off cap (P.cellsOf e) vf (by rw [hlenx];exact hl) (fun h=>by cases h) hm hsz
       (fun i x hx=>by
        have hi:i<len:=by have:=(List.getElem?_eq_some_iff.1 hx).1;simpa using this
        rw [List.getElem?_map,List.getElem?_range hi] at hx
        cases hx
        rw [hmk i hi];simp)
       (fun i x j c hx hc=>by
        obtain ⟨hi,hj,rfl⟩:=hget i x j c hx hc
        obtain ⟨t',_,hty,hcell,_⟩:=hcf i j hi hj
        refine ⟨hty.flat.2,?_⟩
        have hsn:ad.spot=none:=by
         rcases hspot with h | h
         ·exact h
         ·omega
        have hm2:=(memOf_cell hcell).2
        have hadd:(ad.add (i*P.cellsOf e)).add j=⟨ad.block,ad.off+i*P.cellsOf e+j,none⟩:=by
         obtain ⟨b,o,sp⟩:=ad
         simp only at hsn
         subst hsn
         rw [addr_add,addr_add]
        rw [hadd] at hm2
        exact hm2)
       (fun i x j c hx hc=>by
        obtain ⟨hi,hj,rfl⟩:=hget i x j c hx hc
        exact (hcf i j hi hj).choose_spec.2.2.2)
       ad.spot hspot
      rw [hlenx] at hr
      exact hr
   ·cases hg
  ·cases hg
end
end Go.Fw
namespace Go.Fw
open Go.RowKit Go.WideShapes
def goodV (P:Program) (n:Nat) (t:TypeId):Bool:=match flatT P 20 t,isAggT P t with
 | some ts,some a=>ts.length==P.cellsOf t&&(a||ts==[t])&&ts.all (goodT P n)
 | _,_=>false
theorem TypE.flat {P:Program} {n:Nat} {t:TypeId} {x:V} (h:TypE P (TypC P n) t x):flat2 x=true:=by
 have up:∀ c,flat0 c=true→flat1 c=true:=by
  intro c hc
  cases c<;>simp only [flat0,Bool.false_eq_true] at hc<;>try rfl
  rename_i f a b
  simp only [Bool.and_eq_true,List.isEmpty_iff] at hc
  obtain ⟨rfl,rfl⟩:=hc
  rfl
 unfold TypE at h
 split at h
 ·obtain ⟨ts,cs,_,rfl,hl,hc⟩:=h
  simp only [flat2,List.all_eq_true]
  intro c hcm
  obtain ⟨j,hj,rfl⟩:=List.mem_iff_getElem.1 hcm
  have hjt:j<ts.length:=by omega
  exact up _ (hc j _ _ (List.getElem?_eq_getElem hj) (List.getElem?_eq_getElem hjt)).flat.1
 ·have:=h.flat
  have h1:=up _ this.1
  cases x<;>first | exact h1 | (simp [isCell] at this;done)
 ·exact h.elim
section
variable {H:Type} {enc:TypeId×Value→H} {P:Program} {w:World}
theorem open_val {n:Nat} {t:TypeId} {v:Value} {d:DataW H} {p:List MemPlace} {r:Reach} {base:Nat} (hg:goodV P n t=true) (hok:Value.okWide P w r base t v) (h:DataW.Trod enc P w 0 (fun _=>true) true t v d p) (hw:∀ m∈d.weights P t,m≤reachBytes) :
  ∃ x,TypE P (TypC P n) t x∧RepI (memOf w) x v:=by
 obtain ⟨fuel,h⟩:=h
 unfold goodV at hg
 split at hg
 ·rename_i ts a hts hag
  simp only [Bool.and_eq_true,beq_iff_eq,Bool.or_eq_true,List.all_eq_true] at hg
  obtain ⟨⟨htl,hone⟩,hall⟩:=hg
  cases a with
  | true =>
   have hagg:∃ cs,v=.agg cs∧cs.size=P.cellsOf t:=by
    unfold Value.okWide at hok
    unfold isAggT at hag
    split at hok
    ·obtain ⟨cs,h1,h2,_⟩:=hok;exact ⟨cs,h1,h2⟩
    ·obtain ⟨cs,h1,h2,_⟩:=hok;exact ⟨cs,h1,h2⟩
    ·rename_i h1 h2
     exfalso
     split at hag
     ·rename_i fs hfs;exact h1 fs hfs
     ·rename_i q1 q2 hfs;exact h2 q1 q2 hfs
     ·cases hag
     ·cases hag
   obtain ⟨cs,rfl,hsz⟩:=hagg
   have hlen:(Value.agg cs).cells.toList.length=ts.length:=by simp [Value.cells,hsz,htl]
   have each:∀ j (hj:j<cs.size),∃ c t',ts[j]?=some t'∧TypC P n t' c∧RepI (memOf w) c cs[j]:=by
    intro j hj
    have hjt:j<ts.length:=by omega
    have hjc:(Value.agg cs).cells.toList[j]?=some cs[j]:=by simp [Value.cells,hj]
    obtain ⟨fu,y,hy,hyw⟩:=flat_trod 20 hts h hw hlen j _ _ hjc (List.getElem?_eq_getElem hjt)
    obtain ⟨c,hc,hr⟩:=open_cell n (hall _ (List.getElem_mem hjt)) hy hyw
    exact ⟨c,_,List.getElem?_eq_getElem hjt,hc,hr⟩
   classical
   let cf:Nat→V:=fun j=>if h:j<cs.size then Classical.choose (each j h) else .undef
   have hcf:∀ j (hj:j<cs.size),∃ t',ts[j]?=some t'∧TypC P n t' (cf j)∧RepI (memOf w) (cf j) cs[j]:=by
    intro j hj
    have:=Classical.choose_spec (each j hj)
    simp only [cf,dif_pos hj]
    exact this
   refine ⟨.agg ((List.range cs.size).map cf),?_,.agg _ cs (by simp) (fun j c hc=>?_) (fun j c hj hc=>?_)⟩
   ·unfold TypE
    rw [hag]
    refine ⟨ts,_,hts,rfl,by simp [hsz,htl],fun j c t' hc ht'=>?_⟩
    have hj:j<cs.size:=by have:=(List.getElem?_eq_some_iff.1 hc).1;simpa using this
    rw [List.getElem?_map,List.getElem?_range hj] at hc
    cases hc
    obtain ⟨t2,ht2,hty,_⟩:=hcf j hj
    rw [ht'] at ht2;cases ht2
    exact hty
   ·have hj:j<cs.size:=by have:=(List.getElem?_eq_some_iff.1 hc).1;simpa using this
    rw [List.getElem?_map,List.getElem?_range hj] at hc
    cases hc
    obtain ⟨t2,_,hty,_⟩:=hcf j hj
    exact hty.flat.2
   ·rw [List.getElem?_map,List.getElem?_range hj] at hc
    cases hc
    obtain ⟨t2,_,_,hr⟩:=hcf j hj
    exact hr
  | false =>
   have h1:ts=[t]:=by
    rcases hone with h | h
    ·cases h
    ·exact h
   subst h1
   have hgt:=hall t (by simp)
   have hcell:v.cells.toList=[v]:=by
    cases n with
    | zero=>simp [goodT] at hgt
    | succ n =>
     unfold goodT at hgt
     split at hgt
     ·rename_i ht
      simp only [Value.okWide,ht,Cell.okWide] at hok
      cases v<;>first | rfl | simp_all [Cell.ok]
     ·rename_i k ht
      obtain ⟨z,rfl⟩:=okWide_int ht hok;rfl
     ·rename_i ht
      obtain ⟨z,rfl⟩:=okWide_string ht hok;rfl
     ·rename_i e ht
      obtain ⟨a,l,c,rfl⟩:=okWide_slice ht hok;rfl
     ·cases hgt
   rw [hcell] at h
   obtain ⟨c,hc,hr⟩:=open_cell n hgt h hw
   refine ⟨c,?_,hr⟩
   unfold TypE
   rw [hag]
   exact hc
 ·cases hg
end
theorem calls_true {C:Cx} {n:Nat} {f:FuncId} {vs:List V} {us:Array Value} {w:World} {h:List Blk} (hw:GlobOk w) (hs:VbSound C (vcall C n)) (ha:ArgsI (memOf w) vs us) (hsm:f<yBase) (hf:pureOf C f vs=true) (hv:vcall C n f vs []=some (.ret (.bool true) h)) :
  Calls C.P f us w fun e w'=>e=.returned (.bool true)∧Below w.heap.size w w':=by
 have:=hs.pure_ f vs _ hv hsm hf 0 us w (memOf w) (memOf_ok hw) ha
 rw [callsIn_wide] at this
 refine this.mono (fun e w' he=>?_)
 obtain ⟨g',⟨u,rfl,hr⟩,_,hb,_⟩:=he
 have:u=.bool true:=by simp only [RepS,RepA,RepC] at hr;cases hr;rfl
 exact ⟨by rw [this],hb⟩
theorem calls_sp {C:Cx} {f:FuncId} {vs:List V} {us:Array Value} {w:World} (hw:GlobOk w) (h:Sp C f vs (.bool true)) (ha:ArgsI (memOf w) vs us) :
  Calls C.P f us w fun e w'=>e=.returned (.bool true)∧Below w.heap.size w w':=by
 have:=h.run 0 us w (memOf w) (memOf_ok hw) ha
 rw [callsIn_wide] at this
 refine this.mono (fun e w' he=>?_)
 obtain ⟨g',⟨u,rfl,hr⟩,_,hb,_⟩:=he
 have:u=.bool true:=by simp only [RepS,RepA,RepC] at hr;cases hr;rfl
 exact ⟨by rw [this],hb⟩
end Go.Fw
namespace Go.Fw
@[simp] theorem cells_int (k:IntKind) (n:Int):(V.int k n).cells=[V.int k n]:=rfl
@[simp] theorem cells_bool (b:Bool):(V.bool b).cells=[V.bool b]:=rfl
@[simp] theorem cells_str (s:ByteArray):(V.str s).cells=[V.str s]:=rfl
@[simp] theorem cells_agg (vs:List V):(V.agg vs).cells=vs:=rfl
@[simp] theorem flat1_int (k:IntKind) (n:Int):flat1 (V.int k n)=true:=rfl
@[simp] theorem flat1_bool (b:Bool):flat1 (V.bool b)=true:=rfl
@[simp] theorem flat1_str (s:ByteArray):flat1 (V.str s)=true:=rfl
@[simp] theorem flat1_imm (f:Bool) (n:Nat) (xs:List V):flat1 (V.imm f n xs)=true:=rfl
@[simp] theorem demote_int (k:IntKind) (n:Int):demote1 (V.int k n)=V.int k n:=rfl
@[simp] theorem demote_bool (b:Bool):demote1 (V.bool b)=V.bool b:=rfl
@[simp] theorem demote_str (s:ByteArray):demote1 (V.str s)=V.str s:=rfl
@[simp] theorem demote_imm (f:Bool) (n:Nat) (xs:List V):demote1 (V.imm f n xs)=V.imm f n xs:=rfl
@[simp] theorem isLin1_int (k:IntKind) (n:Int):isLin1 (V.int k n)=false:=rfl
@[simp] theorem isLin1_bool (b:Bool):isLin1 (V.bool b)=false:=rfl
@[simp] theorem isLin1_str (s:ByteArray):isLin1 (V.str s)=false:=rfl
@[simp] theorem isLin1_imm (f:Bool) (n:Nat) (xs:List V):isLin1 (V.imm f n xs)=false:=rfl
theorem flatMap_one {α:Type} (f:α→V) (h:∀ x,(f x).cells=[f x]) (xs:List α):(xs.map f).flatMap V.cells=xs.map f:=by
 induction xs with
 | nil=>rfl
 | cons x xs ih=>simp only [List.map_cons,List.flatMap_cons,h,ih];rfl
theorem flatMap_int (k:IntKind) (xs:List Int):(xs.map (V.int k)).flatMap V.cells=xs.map (V.int k):=flatMap_one _ (fun _=>rfl) xs
theorem flatMap_bool (xs:List Bool):(xs.map V.bool).flatMap V.cells=xs.map V.bool:=flatMap_one _ (fun _=>rfl) xs
theorem flatten_one (n:Nat) (v:V):(List.replicate n [v]).flatten=List.replicate n v:=by
 induction n with
 | zero=>rfl
 | succ n ih=>rw [List.replicate_succ,List.flatten_cons,ih];rfl
theorem flatten_int (n:Nat) (k:IntKind) (x:Int):(List.replicate n [V.int k x]).flatten=(List.replicate n x).map (V.int k):=by rw [flatten_one,List.map_replicate]
theorem flatten_bool (n:Nat) (x:Bool):(List.replicate n [V.bool x]).flatten=(List.replicate n x).map V.bool:=by rw [flatten_one,List.map_replicate]
theorem app_int (k:IntKind) (xs:List Int) (x:Int):xs.map (V.int k)++[V.int k x]=(xs++[x]).map (V.int k):=by simp
theorem app_bool (xs:List Bool) (x:Bool):xs.map V.bool++[V.bool x]=(xs++[x]).map V.bool:=by simp
theorem app2_int (k:IntKind) (xs ys:List Int):xs.map (V.int k)++ys.map (V.int k)=(xs++ys).map (V.int k):=by simp
theorem set_int (k:IntKind) (xs:List Int) (i:Nat) (x:Int):setAt (xs.map (V.int k)) i [V.int k x]=(xs.set i x).map (V.int k):=by simp [setAt,List.map_set]
theorem set_bool (xs:List Bool) (i:Nat) (x:Bool):setAt (xs.map V.bool) i [V.bool x]=(xs.set i x).map V.bool:=by simp [setAt,List.map_set]
theorem flat_map {α:Type} (f:α→V) (h:∀ x,flat1 (f x)=true) (xs:List α) (o n:Nat):(((xs.map f).drop o).take n).all flat1=true:=by
 rw [List.all_eq_true]
 intro x hx
 obtain ⟨y,_,rfl⟩:=List.mem_map.1 (List.mem_of_mem_drop (List.mem_of_mem_take hx))
 exact h y
theorem nolin_map {α:Type} (f:α→V) (h:∀ x,isLin1 (f x)=false) {xs:List α} {o n:Nat}:(((xs.map f).drop o).take n).any isLin1=false:=by
 rw [List.any_eq_false]
 intro x hx
 obtain ⟨y,_,rfl⟩:=List.mem_map.1 (List.mem_of_mem_drop (List.mem_of_mem_take hx))
 simp [h y]
theorem esc_all {α:Type} (f:α→V) (h:∀ x,flat1 (f x)=true) {xs:List α} {n:Nat} (hn:n=xs.length):(decide (0+n≤(xs.map f).length)&&(((xs.map f).drop 0).take n).all flat1)=true:=by
 rw [flat_map f h,hn];simp
@[simp] theorem setAt_nil (cs:List V) (o:Nat):setAt cs o []=cs:=rfl
@[simp] theorem setAt_cons (cs:List V) (o:Nat) (v:V) (vs:List V):setAt cs o (v::vs)=setAt (cs.set o v) (o+1) vs:=rfl
@[simp] theorem setAt_length (cs:List V):∀ (vs:List V) (o:Nat),(setAt cs o vs).length=cs.length:=by
 intro vs
 induction vs generalizing cs with
 | nil=>intro o;rfl
 | cons v vs ih=>intro o;simp [ih]
@[simp] theorem ofCells_one (v:V):ofCells false [v]=some v:=rfl
@[simp] theorem ofCells_agg (cs:List V):ofCells true cs=some (.agg cs):=rfl
theorem take_one_drop {α:Type} {xs:List α} {k:Nat} {x:α} (h:xs[k]?=some x):(xs.drop k).take 1=[x]:=by
 have hlt:=(List.getElem?_eq_some_iff.1 h).1
 rw [List.take_one,List.head?_drop,h]
 rfl
theorem own_get {α:Type} (f:α→V) (hd:∀ x,demote1 (f x)=f x) {xs:List α} {k o:Nat} {x:α} (h:xs[k]?=some x) (ho:o=k):ofCells false ((((xs.map f).drop o).take 1).map demote1)=some (f x):=by
 subst ho
 rw [←List.map_drop,←List.map_take,take_one_drop h]
 simp [hd]
theorem idx_map {α β:Type} (f:α→β) {xs:List α} {k:Nat} {x:α} (h:xs[k]?=some x):idx (xs.map f) (k:Int)=some (f x):=by
 unfold idx
 rw [if_pos (by omega),Int.toNat_natCast,List.getElem?_map,h]
 rfl
theorem idx_map0 {α β:Type} (f:α→β) {xs:List α} {x:α} (h:xs[0]?=some x):idx (xs.map f) 0=some (f x):=idx_map f (k:=0) h
theorem idx_map1 {α β:Type} (f:α→β) {xs:List α} {x:α} (h:xs[1]?=some x):idx (xs.map f) 1=some (f x):=idx_map f (k:=1) h
theorem idx_map2 {α β:Type} (f:α→β) {xs:List α} {x:α} (h:xs[2]?=some x):idx (xs.map f) 2=some (f x):=idx_map f (k:=2) h
theorem setAt_eq (vs cs:List V) (o:Nat) (h:o+vs.length≤cs.length):setAt cs o vs=cs.take o++vs++cs.drop (o+vs.length) :=
 List.ext_getElem? (fun j=>by rw [getElem?_setAt _ _ _ _ h,splice_get _ _ _ _ h])
/-! ### whole numbers -/
theorem max_cast (a b:Nat):max (a:Int) (b:Int)=((max a b:Nat):Int):=by omega
theorem wrap_i64 (x:Int) (h1:-9223372036854775808≤x) (h2:x≤9223372036854775807):IntKind.wrap .i64 x=x:=by
 have e:IntKind.wrap .i64 x=if x % 18446744073709551616 ≥ 9223372036854775808 then x % 18446744073709551616-18446744073709551616 else x % 18446744073709551616:=by
  unfold IntKind.wrap IntKind.bits IntKind.signed
  simp
 rw [e]
 split<;>omega
theorem wrap_i32 (x:Int) (h1:-2147483648≤x) (h2:x≤2147483647):IntKind.wrap .i32 x=x:=by
 have e:IntKind.wrap .i32 x=if x % 4294967296 ≥ 2147483648 then x % 4294967296-4294967296 else x % 4294967296:=by
  unfold IntKind.wrap IntKind.bits IntKind.signed
  simp
 rw [e]
 split<;>omega
theorem wrap_u64 (x:Int) (h1:0≤x) (h2:x≤18446744073709551615):IntKind.wrap .u64 x=x:=by
 simp only [IntKind.wrap,IntKind.bits,IntKind.signed,Bool.false_and,Bool.false_eq_true,if_false]
 omega
theorem wrap_u32 (x:Int) (h1:0≤x) (h2:x≤4294967295):IntKind.wrap .u32 x=x:=by
 simp only [IntKind.wrap,IntKind.bits,IntKind.signed,Bool.false_and,Bool.false_eq_true,if_false]
 omega
theorem wrap_u8 (x:Int) (h1:0≤x) (h2:x≤255):IntKind.wrap .u8 x=x:=by
 simp only [IntKind.wrap,IntKind.bits,IntKind.signed,Bool.false_and,Bool.false_eq_true,if_false]
 omega
theorem cast_succ (i:Nat):((i:Int)+1)=((i+1:Nat):Int):=rfl
/-! ### states of loops -/
def mkFr:Nat→Nat→List (Nat×V)→List V
 | 0,_,_=>[]
 | n+1,i,[]=>.undef::mkFr n (i+1) []
 | n+1,i,(j,v)::r=>match i==j with
  | true=>v::mkFr n (i+1) r
  | false=>.undef::mkFr n (i+1) ((j,v)::r)
abbrev mkSt (n:Nat) (live:List (Nat×V)) (h:List Blk):St:=⟨mkFr n 0 live,h,[]⟩
abbrev keeps (l:List Nat):List (Nat×Fm):=l.map fun i=>(i,.of .keep)
def fillGo {α:Type} (f:Nat→α):Nat→Nat→List α→List α
 | 0,_,os=>os
 | k+1,i,os=>fillGo f k (i+1) (os.set i (f i))
theorem fillGo_length {α:Type} (f:Nat→α):∀ (k i:Nat) (os:List α),(fillGo f k i os).length=os.length
 | 0,_,_=>rfl
 | k+1,i,os=>by rw [fillGo,fillGo_length f k];simp
theorem fillGo_at {α:Type} (f:Nat→α):∀ (k i:Nat) (os:List α) (j:Nat),i+k≤os.length→(fillGo f k i os)[j]?=if i≤j∧j<i+k then some (f j) else os[j]?
 | 0,i,os,j,_=>by rw [fillGo,if_neg (by omega)]
 | k+1,i,os,j,h=>by
  rw [fillGo,fillGo_at f k (i+1) _ j (by simp;omega)]
  by_cases hj:j=i
  ·subst hj
   rw [if_neg (by omega),if_pos (by omega),List.getElem?_set_self (by omega)]
  ·rw [List.getElem?_set_ne (fun e=>hj e.symm)]
   by_cases h1:i≤j∧j<i+(k+1)
   ·rw [if_pos h1,if_pos (by omega)]
   ·rw [if_neg h1,if_neg (by omega)]
theorem fillGo_all {α:Type} (f:Nat→α) (os:List α):fillGo f os.length 0 os=(List.range os.length).map f:=by
 apply List.ext_getElem?
 intro j
 rw [fillGo_at f _ _ _ _ (by omega)]
 by_cases h:j<os.length
 ·rw [if_pos (by omega),List.getElem?_map,List.getElem?_range h];rfl
 ·rw [if_neg (by omega),List.getElem?_eq_none (by omega),List.getElem?_eq_none (by simp;omega)]
/-! short words for printed trees -/
abbrev Vb:Bool→V:=V.bool
abbrev Vi (n:Int):V:=V.int .i64 n
abbrev Vu (n:Int):V:=V.int .u8 n
abbrev Fr:V→List Blk→FOut:=FOut.ret
theorem cb {a b:Bool} (h:a=b):V.bool a=V.bool b:=congrArg V.bool h
theorem tv:True:=trivial
end Go.Fw
