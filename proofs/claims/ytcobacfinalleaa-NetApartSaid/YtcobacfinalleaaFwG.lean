/- Trees with their choices: what a run over unknown values comes to, and what is to be shown for it. -/
import Derived.Test.YtcobacfinalleaaFwT2
import Derived.KernelRfl
set_option linter.all false
namespace Go.Fw
open Go.RowKit

inductive G (α : Type) where
  | ret (a : α)
  | ite (s : Nat) (b : Bool) (x y : G α)
  | tt (s : Nat) (b : Bool) (x : G α)
  | ff (s : Nat) (b : Bool) (x : G α)
  | chk (s : Nat) (b : Bool) (x : G α)
  | opt (s : Nat) (o : Option V) (v : V) (x : G α)
  | call (s : Nat) (g : FuncId) (args : List V) (v : V) (x : G α)
  | callH (s : Nat) (g : FuncId) (args : List V) (h : List Blk) (v : V) (h' : List Blk) (x : G α)
  | loop (s : Nat) (keep : List (Nat × Fm)) (st : St) (e : Ex) (st' : St) (x : G α)
  | rw (s : Nat) (hs : List (Nat × List V × List V)) (ts : List (Nat × V × V)) (x : G α)
  | to (s : Nat) (l : List Tell) (x : G α)

/-- Parts of a state that are written otherwise. -/
def rwH : List (Nat × List V × List V) → List Blk → List (Nat × List V × List V) × List Blk
  | [], h => ([], h)
  | (id, _, c') :: r, h => match h[id]? with
    | some (.cells c e) => ((id, c, c') :: (rwH r (h.set id (.cells c' e))).1, (rwH r (h.set id (.cells c' e))).2)
    | _ => rwH r h
def rwT : List (Nat × V × V) → List V → List (Nat × V × V) × List V
  | [], fr => ([], fr)
  | (t, _, v') :: r, fr => ((t, getS fr t, v') :: (rwT r (fr.set t v')).1, (rwT r (fr.set t v')).2)
def EqH : List (Nat × List V × List V) → Prop
  | [] => True
  | (_, c, c') :: r => c = c' ∧ EqH r
def EqT : List (Nat × V × V) → Prop
  | [] => True
  | (_, v, v') :: r => v = v' ∧ EqT r
theorem rwH_eq : ∀ (l : List (Nat × List V × List V)) (h : List Blk), EqH (rwH l h).1 → (rwH l h).2 = h
  | [], h, _ => rfl
  | (id, c0, c') :: r, h, he => by
    unfold rwH at he ⊢
    split
    · rename_i c e hc
      rw [hc] at he
      dsimp only at he ⊢
      obtain ⟨h1, h2⟩ := he
      rw [rwH_eq r _ h2, ← h1]
      obtain ⟨hlt, hg⟩ := List.getElem?_eq_some_iff.1 hc
      rw [← hg]
      exact List.set_getElem_self hlt
    · rename_i hc
      split at he
      · rename_i c e hc'; exact absurd hc' (hc c e)
      · exact rwH_eq r h he
theorem rwT_eq : ∀ (l : List (Nat × V × V)) (fr : List V), EqT (rwT l fr).1 → (rwT l fr).2 = fr
  | [], fr, _ => rfl
  | (t, v0, v') :: r, fr, he => by
    unfold rwT at he ⊢
    dsimp only at he ⊢
    obtain ⟨h1, h2⟩ := he
    rw [rwT_eq r _ h2, ← h1]
    by_cases ht : t < fr.length
    · rw [getS_eq (List.getElem?_eq_getElem ht)]
      exact List.set_getElem_self ht
    · exact List.set_eq_of_length_le (by omega)

def follow (N : Nat) {α : Type} : T α → G α → Option (G α)
  | .ret a, _ => some (.ret a)
  | .fail, _ => none
  | .ite s b t u, g => match g with
    | .ite s' _ x y => match s' == s with
      | true => match follow N t x, follow N u y with
        | some x, some y => some (.ite s b x y)
        | _, _ => none
      | false => match b with
        | true => follow N t g
        | false => follow N u g
    | .tt s' _ x => match s' == s with
      | true => (follow N t x).map (.tt s b)
      | false => match b with
        | true => follow N t g
        | false => follow N u g
    | .ff s' _ x => match s' == s with
      | true => (follow N u x).map (.ff s b)
      | false => match b with
        | true => follow N t g
        | false => follow N u g
    | g => match b with
      | true => follow N t g
      | false => follow N u g
  | .chk s b t, g => match g with
    | .chk s' _ x => match s' == s with
      | true => (follow N t x).map (.chk s b)
      | false => match b with
        | true => follow N t g
        | false => none
    | g => match b with
      | true => follow N t g
      | false => none
  | .opt s o k, g => match g with
    | .opt s' _ v x => match s' == s with
      | true => (follow N (k v) x).map (.opt s o v)
      | false => match o with
        | some v => follow N (k v) g
        | none => none
    | g => match o with
      | some v => follow N (k v) g
      | none => none
  | .call s f args k, g => match g with
    | .call s' _ _ v x => match s' == s with
      | true => (follow N (k v) x).map (.call s f args v)
      | false => none
    | _ => none
  | .callH s f args h k, g => match g with
    | .callH s' _ _ _ v h' x => match s' == s with
      | true => (follow N (k v h') x).map (.callH s f args h v h')
      | false => none
    | _ => none
  | .loop s _ st k, g => match g with
    | .loop s' keep _ e st' x => match s' == s with
      | true => (follow N (k e st') x).map (.loop s keep (relax keep st) e st')
      | false => none
    | _ => none
  | .norm s st k, g => match g with
    | .rw s' hs ts x => match s' == s with
      | true => (follow N (k ⟨(rwT ts st.fr).2, (rwH hs st.h).2⟩) x).map (.rw s (rwH hs st.h).1 (rwT ts st.fr).1)
      | false => follow N (k st) g
    | g => follow N (k st) g
  | .open s st k, g => match g with
    | .rw s' hs ts x => match s' == s with
      | true => match x with
        | .to s2 l y => match s2 == s with
          | true => match tell N l ⟨(rwT ts st.fr).2, (rwH hs st.h).2⟩ with
            | some st' => (follow N (k st') y).map fun y => .rw s (rwH hs st.h).1 (rwT ts st.fr).1 (.to s l y)
            | none => none
          | false => (follow N (k ⟨(rwT ts st.fr).2, (rwH hs st.h).2⟩) x).map (.rw s (rwH hs st.h).1 (rwT ts st.fr).1)
        | x => (follow N (k ⟨(rwT ts st.fr).2, (rwH hs st.h).2⟩) x).map (.rw s (rwH hs st.h).1 (rwT ts st.fr).1)
      | false => follow N (k st) g
    | .to s' l x => match s' == s with
      | true => match tell N l st with
        | some st' => (follow N (k st') x).map (.to s l)
        | none => none
      | false => follow N (k st) g
    | g => follow N (k st) g

/-- A loop, named by its function and its key, leads from a state to a state; so does one round of it. -/
def LoopRuns (C : Cx) (f : FuncId) (N : Nat) (s : Nat) (st : St) (e : Ex) (st1 : St) : Prop := ∃ b, loopAt C f s = some b ∧ LoopTo C N b e st1 st
def BodyRuns (C : Cx) (f : FuncId) (N : Nat) (s : Nat) (st : St) (e : Ex) (st1 : St) : Prop := ∃ b, loopAt C f s = some b ∧ Runs C N b st e st1

def Holds (C : Cx) (f : FuncId) (N : Nat) {α : Type} : G α → (α → Prop) → Prop
  | .ret a, Q => Q a
  | .ite _ b x y, Q => (b = true → Holds C f N x Q) ∧ (b = false → Holds C f N y Q)
  | .tt _ b x, Q => b = true ∧ Holds C f N x Q
  | .ff _ b x, Q => b = false ∧ Holds C f N x Q
  | .chk _ b x, Q => b = true ∧ Holds C f N x Q
  | .opt _ o v x, Q => o = some v ∧ Holds C f N x Q
  | .call _ g args v x, Q => Sp C g args v ∧ Holds C f N x Q
  | .callH _ g args h v h' x, Q => SpH C g args h v h' ∧ Holds C f N x Q
  | .loop s _ st e st' x, Q => LoopRuns C f N s st e st' ∧ Holds C f N x Q
  | .rw _ hs ts x, Q => (EqH hs ∧ EqT ts) ∧ Holds C f N x Q
  | .to _ _ x, Q => Holds C f N x Q

section
variable {C : Cx} {f : FuncId} {N : Nat}
theorem follow_ok {α : Type} {Q : α → Prop} : ∀ (t : T α) (g g' : G α), follow N t g = some g' → Holds C f N g' Q → ∃ a, Hits C f N t a ∧ Q a
  | .ret a, g, g', h, hh => by
    unfold follow at h
    cases h
    exact ⟨a, rfl, hh⟩
  | .fail, g, g', h, hh => by unfold follow at h; cases h
  | .ite s b t u, g, g', h, hh => by
    have conc : ∀ g, (match b with | true => follow N t g | false => follow N u g) = some g' → ∃ a, Hits C f N (.ite s b t u) a ∧ Q a := by
      intro g h
      cases b with
      | true => obtain ⟨a, h1, h2⟩ := follow_ok t g g' h hh; exact ⟨a, .inl ⟨rfl, h1⟩, h2⟩
      | false => obtain ⟨a, h1, h2⟩ := follow_ok u g g' h hh; exact ⟨a, .inr ⟨rfl, h1⟩, h2⟩
    unfold follow at h
    cases g <;> dsimp only at h <;> try exact conc _ h
    case ite s' b' x y =>
      split at h
      · split at h
        · rename_i x' y' hx hy
          cases h
          cases hb : b with
          | true => obtain ⟨a, h1, h2⟩ := follow_ok t _ _ hx (hh.1 hb); exact ⟨a, .inl ⟨rfl, h1⟩, h2⟩
          | false => obtain ⟨a, h1, h2⟩ := follow_ok u _ _ hy (hh.2 hb); exact ⟨a, .inr ⟨rfl, h1⟩, h2⟩
        · cases h
      · exact conc _ h
    case tt s' b' x =>
      split at h
      · obtain ⟨x', hx, rfl⟩ := Option.map_eq_some_iff.1 h
        obtain ⟨a, h1, h2⟩ := follow_ok t _ _ hx hh.2
        exact ⟨a, .inl ⟨hh.1, h1⟩, h2⟩
      · exact conc _ h
    case ff s' b' x =>
      split at h
      · obtain ⟨x', hx, rfl⟩ := Option.map_eq_some_iff.1 h
        obtain ⟨a, h1, h2⟩ := follow_ok u _ _ hx hh.2
        exact ⟨a, .inr ⟨hh.1, h1⟩, h2⟩
      · exact conc _ h
  | .chk s b t, g, g', h, hh => by
    have conc : ∀ g, (match b with | true => follow N t g | false => none) = some g' → ∃ a, Hits C f N (.chk s b t) a ∧ Q a := by
      intro g h
      cases b with
      | true => obtain ⟨a, h1, h2⟩ := follow_ok t g g' h hh; exact ⟨a, ⟨rfl, h1⟩, h2⟩
      | false => cases h
    unfold follow at h
    cases g <;> dsimp only at h <;> try exact conc _ h
    case chk s' b' x =>
      split at h
      · obtain ⟨x', hx, rfl⟩ := Option.map_eq_some_iff.1 h
        obtain ⟨a, h1, h2⟩ := follow_ok t _ _ hx hh.2
        exact ⟨a, ⟨hh.1, h1⟩, h2⟩
      · exact conc _ h
  | .opt s o k, g, g', h, hh => by
    have conc : ∀ g, (match o with | some v => follow N (k v) g | none => none) = some g' → ∃ a, Hits C f N (.opt s o k) a ∧ Q a := by
      intro g h
      cases o with
      | some v => obtain ⟨a, h1, h2⟩ := follow_ok (k v) g g' h hh; exact ⟨a, ⟨v, rfl, h1⟩, h2⟩
      | none => cases h
    unfold follow at h
    cases g <;> dsimp only at h <;> try exact conc _ h
    case opt s' o' v x =>
      split at h
      · obtain ⟨x', hx, rfl⟩ := Option.map_eq_some_iff.1 h
        obtain ⟨a, h1, h2⟩ := follow_ok (k v) _ _ hx hh.2
        exact ⟨a, ⟨v, hh.1, h1⟩, h2⟩
      · exact conc _ h
  | .call s gf args k, g, g', h, hh => by
    unfold follow at h
    cases g <;> dsimp only at h <;> try (cases h; done)
    case call s' a b v x =>
      split at h
      · obtain ⟨x', hx, rfl⟩ := Option.map_eq_some_iff.1 h
        obtain ⟨a, h1, h2⟩ := follow_ok (k v) _ _ hx hh.2
        exact ⟨a, ⟨v, hh.1, h1⟩, h2⟩
      · cases h
  | .callH s gf args hp k, g, g', h, hh => by
    unfold follow at h
    cases g <;> dsimp only at h <;> try (cases h; done)
    case callH s' a b c v h' x =>
      split at h
      · obtain ⟨x', hx, rfl⟩ := Option.map_eq_some_iff.1 h
        obtain ⟨a, h1, h2⟩ := follow_ok (k v h') _ _ hx hh.2
        exact ⟨a, ⟨v, h', hh.1, h1⟩, h2⟩
      · cases h
  | .loop s b st k, g, g', h, hh => by
    unfold follow at h
    cases g <;> dsimp only at h <;> try (cases h; done)
    case loop s' keep st0 e st' x =>
      split at h
      · obtain ⟨x', hx, rfl⟩ := Option.map_eq_some_iff.1 h
        obtain ⟨a, h1, h2⟩ := follow_ok (k e st') _ _ hx hh.2
        refine ⟨a, ⟨e, st', fun hb => ?_, h1⟩, h2⟩
        obtain ⟨b', h3, h4⟩ := hh.1
        rw [hb] at h3
        cases h3
        exact Runs.pre keep (Runs.loop h4)
      · cases h
  | .norm s st k, g, g', h, hh => by
    have conc : ∀ g, follow N (k st) g = some g' → ∃ a, Hits C f N (.norm s st k) a ∧ Q a := by
      intro g h
      obtain ⟨a, h1, h2⟩ := follow_ok (k st) g g' h hh
      exact ⟨a, h1, h2⟩
    unfold follow at h
    cases g <;> dsimp only at h <;> try exact conc _ h
    case rw s' hs ts x =>
      split at h
      · obtain ⟨x', hx, rfl⟩ := Option.map_eq_some_iff.1 h
        obtain ⟨⟨e1, e2⟩, h3⟩ := hh
        obtain ⟨a, h1, h2⟩ := follow_ok _ x x' hx h3
        rw [rwH_eq _ _ e1, rwT_eq _ _ e2] at h1
        exact ⟨a, h1, h2⟩
      · exact conc _ h
  | .open s st k, g, g', h, hh => by
    have conc : ∀ g, follow N (k st) g = some g' → ∃ a, Hits C f N (.open s st k) a ∧ Q a := by
      intro g h
      obtain ⟨a, h1, h2⟩ := follow_ok (k st) g g' h hh
      exact ⟨a, ⟨st, StTo.refl _, h1⟩, h2⟩
    unfold follow at h
    cases g <;> dsimp only at h <;> try exact conc _ h
    case rw s' hs ts x =>
      have plain : ∀ x, (follow N (k ⟨(rwT ts st.fr).2, (rwH hs st.h).2⟩) x).map (.rw s (rwH hs st.h).1 (rwT ts st.fr).1) = some g' → ∃ a, Hits C f N (.open s st k) a ∧ Q a := by
        intro x h
        obtain ⟨x', hx, rfl⟩ := Option.map_eq_some_iff.1 h
        obtain ⟨⟨e1, e2⟩, h3⟩ := hh
        obtain ⟨a, h1, h2⟩ := follow_ok _ x x' hx h3
        rw [rwH_eq _ _ e1, rwT_eq _ _ e2] at h1
        exact ⟨a, ⟨st, StTo.refl _, h1⟩, h2⟩
      split at h
      · split at h
        · split at h
          · split at h
            · rename_i s2 l y _ _ _ st' hst
              obtain ⟨x', hx, rfl⟩ := Option.map_eq_some_iff.1 h
              obtain ⟨⟨e1, e2⟩, h3⟩ := hh
              obtain ⟨a, h1, h2⟩ := follow_ok _ y x' hx h3
              rw [rwH_eq _ _ e1, rwT_eq _ _ e2] at hst
              exact ⟨a, ⟨st', tell_ok hst, h1⟩, h2⟩
            · cases h
          · exact plain _ h
        · exact plain _ h
      · exact conc _ h
    case to s' l x =>
      split at h
      · split at h
        · rename_i st' hst
          obtain ⟨x', hx, rfl⟩ := Option.map_eq_some_iff.1 h
          obtain ⟨a, h1, h2⟩ := follow_ok _ x x' hx hh
          exact ⟨a, ⟨st', tell_ok hst, h1⟩, h2⟩
        · cases h
      · exact conc _ h

theorem BodyRuns.loop {s : Nat} {st st1 : St} {e : Ex} (h : BodyRuns C f N s st e st1) (hn : e ≠ .normal) : LoopRuns C f N s st e st1 := by
  obtain ⟨b, h1, h2⟩ := h
  exact ⟨b, h1, .done h2 hn⟩
theorem BodyRuns.step {s : Nat} {st st1 st2 : St} {e : Ex} (h : BodyRuns C f N s st .normal st1) (k : LoopRuns C f N s st1 e st2) : LoopRuns C f N s st e st2 := by
  obtain ⟨b, h1, h2⟩ := h
  obtain ⟨b', h3, h4⟩ := k
  rw [h1] at h3
  cases h3
  exact ⟨b, h1, .step h2 h4⟩
end

/-! ### whole calls, rounds of loops -/
def xall {α β : Type} (m : α → T β) : List α → T (List β)
  | [] => xp []
  | x :: xs => xb (m x) fun y => xb (xall m xs) fun ys => xp (y :: ys)
def xesc1 (P : Program) (h : List Blk) : V → T V
  | .own id off n _ => match h[id]? with
    | some (.cells cs e) => match isAggT P e, sizeT P e with
      | some false, some 1 => xb (xchk (4000 + id) (decide (off + n ≤ cs.length) && ((cs.drop off).take n).all flat1)) fun _ => xp (.imm false 1 ((cs.drop off).take n))
      | some true, some (m + 1) => xb (xchk (4000 + id) (decide (off + n * (m + 1) ≤ cs.length) && ((cs.drop off).take (n * (m + 1))).all flat1)) fun _ => xp (.imm false (m + 1) (chunk (m + 1) n (cs.drop off)))
      | _, _ => xf
    | _ => xf
  | .lin p e n xs => xp (.lin p e n xs)
  | v => if flat1 v then xp v else xf
def xesc2 (P : Program) (h : List Blk) : V → T V
  | .agg vs => xb (xall (xesc1 P h) vs) fun vs => xp (.agg vs)
  | v => xesc1 P h v
def xfin (C : Cx) (fn : Func) (q : Ex × St) : T V := match q.1 with
  | .normal | .ret => xb (xlift (optAll (resultV C q.2) fn.results.toList)) fun vs =>
    if distinct (fn.results.toList.map (resultKey q.2)) then xb (xall (xesc2 C.P q.2.h) vs) fun vs => xp (one vs) else xf
  | _ => xf
def xfinH (C : Cx) (fn : Func) (q : Ex × St) : T (V × List Blk) := match q.1 with
  | .normal | .ret => xb (xlift (optAll (resultV C q.2) fn.results.toList)) fun vs =>
    if vs.all fun v => !isLin2 v && okV v then xp (one vs, q.2.h) else xf
  | _ => xf
/-- A call whose arguments lie in no heap of its caller's. -/
def xcall (C : Cx) (f : FuncId) (dm : List Nat) (fs : List Fm) (args : List V) : T V := match C.P.funcs[f]? with
  | some fn => match fn.body with
    | some c => if fn.name == "runtime.NumGoroutine" || !loopsOk c || !args.all flat2 then xf else
      xb (xexec C f 1000 c ⟨args ++ List.replicate (fn.ntmps - args.length) .undef, []⟩) fun q => xb (xfin C fn q) fun v => xp (outR dm fs v)
    | none => xf
  | none => xf
/-- A call whose arguments do. -/
def xcallH (C : Cx) (f : FuncId) (args : List V) (h : List Blk) : T (V × List Blk) := match C.P.funcs[f]? with
  | some fn => match fn.body with
    | some c => if fn.name == "runtime.NumGoroutine" || !loopsOk c || args.all flat2 then xf else
      xb (xexec C f 1000 c ⟨args ++ List.replicate (fn.ntmps - args.length) .undef, h⟩) fun q => xfinH C fn q
    | none => xf
  | none => xf
/-- A round of a loop; 'kn', 'ke': what is kept where the round goes on, where it leaves. -/
def xbody (C : Cx) (f : FuncId) (s : Nat) (kn ke : List (Nat × Fm)) (st : St) : T (Ex × St) := match C.P.funcs[f]? with
  | some fn => match fn.body with
    | some c => if !loopsOk c then xf else match loopAt C f s with
      | some b => xb (xexec C f 1000 b st) fun q => match q.1 with
        | .normal => xp (.normal, relax kn q.2)
        | e => xp (e, relax ke q.2)
      | none => xf
    | none => xf
  | none => xf

/-- The regions whose order is drawn are given rightly. -/
def Draws (C : Cx) : Prop := ∀ f fn c, C.P.funcs[f]? = some fn → fn.body = some c → ∀ p ∈ drawRegs c, DrawSound C f p.1 p.2
theorem draws_of {C : Cx} (hD : ∀ f, (∃ id, C.un f id ≠ none) → drawsOk C f = true) : Draws C := fun f fn c hf hc p hp => draw_sound (fun un hun => by
  have := hD f ⟨p.1, by rw [hun]; simp⟩
  unfold drawsOk at this
  rw [hf] at this
  dsimp only at this
  rw [hc] at this
  dsimp only at this
  rw [List.all_eq_true] at this
  have := this p hp
  rw [hun] at this
  exact this)

section
variable {C : Cx} {f : FuncId} {N : Nat}
theorem snd_xall {α β : Type} {m : α → T β} {g : α → Option β} (h : ∀ x, Snd C f N (m x) (fun y => g x = some y)) : ∀ {xs : List α}, Snd C f N (xall m xs) (fun ys => optAll g xs = some ys)
  | [] => snd_xp rfl
  | x :: xs => by
    unfold xall
    refine snd_xb (h x) (fun y hy => snd_xb (snd_xall h) (fun ys hys => snd_xp ?_))
    unfold optAll
    rw [hy, bindO_some, hys, bindO_some]
theorem snd_xesc1 {P : Program} {h : List Blk} {v : V} : Snd C f N (xesc1 P h v) (fun y => escape1 P h v = some y) := by
  unfold xesc1
  split
  · rename_i id off n
    split
    · rename_i cs e hcs
      split
      · rename_i ha hz
        refine snd_xb snd_xchk (fun _ hc => snd_xp ?_)
        unfold escape1
        try dsimp only
        rw [hcs]
        try dsimp only
        rw [ha, hz]
        try dsimp only
        rw [hc, condB_true]
        rfl
      · rename_i m ha hz
        refine snd_xb snd_xchk (fun _ hc => snd_xp ?_)
        unfold escape1
        try dsimp only
        rw [hcs]
        try dsimp only
        rw [ha, hz]
        try dsimp only
        rw [hc, condB_true]
      · exact snd_xf
    · exact snd_xf
  · exact snd_xp rfl
  · rename_i v h1 h2
    split
    · rename_i hf
      refine snd_xp ?_
      unfold escape1
      split
      · exact absurd rfl (h1 _ _ _ _)
      · exact absurd rfl (h2 _ _ _ _)
      · rw [hf, condB_true]
    · exact snd_xf
theorem snd_xesc2 {P : Program} {h : List Blk} {v : V} : Snd C f N (xesc2 P h v) (fun y => escape2 P h v = some y) := by
  by_cases ha : ∃ vs, v = .agg vs
  · obtain ⟨vs, rfl⟩ := ha
    refine snd_xb (snd_xall (fun x => snd_xesc1)) (fun ys hys => snd_xp ?_)
    unfold escape2
    dsimp only
    rw [hys, bindO_some]
  · have e1 : escape2 P h v = escape1 P h v := by cases v <;> first | rfl | exact absurd ⟨_, rfl⟩ ha
    have e2 : xesc2 P h v = xesc1 P h v := by cases v <;> first | rfl | exact absurd ⟨_, rfl⟩ ha
    rw [e1, e2]
    exact snd_xesc1
theorem snd_xfin {fn : Func} {q : Ex × St} : Snd C f N (xfin C fn q) (fun v => vfinal C fn true q.1 q.2 = some (.ret v [])) := by
  obtain ⟨e, st⟩ := q
  have key : Snd C f N (xb (xlift (optAll (resultV C st) fn.results.toList)) fun vs =>
    if distinct (fn.results.toList.map (resultKey st)) then xb (xall (xesc2 C.P st.h) vs) fun vs => xp (one vs) else xf) (fun v => vfinal C fn true .ret st = some (.ret v [])) := by
    refine snd_xb snd_xlift (fun vs hvs => ?_)
    split
    · rename_i hd
      refine snd_xb (snd_xall (fun x => snd_xesc2)) (fun ys hys => snd_xp ?_)
      unfold vfinal
      dsimp only
      rw [hvs, bindO_some, if_pos rfl, if_pos hd, hys, bindO_some]
    · exact snd_xf
  unfold xfin
  cases e with
  | normal => exact key
  | ret => exact key
  | _ => exact snd_xf
theorem snd_xfinH {fn : Func} {q : Ex × St} : Snd C f N (xfinH C fn q) (fun r => vfinal C fn false q.1 q.2 = some (.ret r.1 r.2)) := by
  obtain ⟨e, st⟩ := q
  have key : Snd C f N (xb (xlift (optAll (resultV C st) fn.results.toList)) fun vs =>
    if vs.all fun v => !isLin2 v && okV v then xp (one vs, st.h) else xf) (fun r => vfinal C fn false .ret st = some (.ret r.1 r.2)) := by
    refine snd_xb snd_xlift (fun vs hvs => ?_)
    split
    · rename_i ha
      refine snd_xp ?_
      unfold vfinal
      dsimp only
      rw [hvs, bindO_some, if_neg (by simp), ha, condB_true]
    · exact snd_xf
  unfold xfinH
  cases e with
  | normal => exact key
  | ret => exact key
  | _ => exact snd_xf

theorem loops_in {c : Code} {fn : Func} (hf : C.P.funcs[f]? = some fn) (hb : fn.body = some c) (hl : loopsOk c = true) : ∀ b ∈ subloops c, loopAt C f (lkey b) = some b := by
  intro b h
  unfold loopAt
  rw [hf]
  dsimp only
  rw [hb]
  exact findLoop_of hl h
theorem subloops_sub : ∀ {c b : Code}, b ∈ subloops c → ∀ b' ∈ subloops b, b' ∈ subloops c
  | .seq x y, b, h, b', h' => by
    simp only [subloops, List.mem_append] at h ⊢
    rcases h with h | h
    · exact .inl (subloops_sub h b' h')
    · exact .inr (subloops_sub h b' h')
  | .cond _ x y, b, h, b', h' => by
    simp only [subloops, List.mem_append] at h ⊢
    rcases h with h | h
    · exact .inl (subloops_sub h b' h')
    · exact .inr (subloops_sub h b' h')
  | .block _ x, b, h, b', h' => subloops_sub (c := x) h b' h'
  | .loop x, b, h, b', h' => by
    rcases List.mem_cons.1 h with rfl | h
    · exact List.mem_cons_of_mem _ h'
    · exact List.mem_cons_of_mem _ (subloops_sub h b' h')
  | .skip, b, h, _, _ => by cases h
  | .label _, b, h, _, _ => by cases h
  | .region .., b, h, _, _ => by cases h
  | .exit _, b, h, _, _ => by cases h
  | .ret, b, h, _, _ => by cases h
  | .goto _, b, h, _, _ => by cases h
theorem subloops_draw : ∀ {c b : Code}, b ∈ subloops c → ∀ p ∈ drawRegs b, p ∈ drawRegs c
  | .seq x y, b, h, p, h' => by
    simp only [subloops, drawRegs, List.mem_append] at h ⊢
    rcases h with h | h
    · exact .inl (subloops_draw h p h')
    · exact .inr (subloops_draw h p h')
  | .cond _ x y, b, h, p, h' => by
    simp only [subloops, drawRegs, List.mem_append] at h ⊢
    rcases h with h | h
    · exact .inl (subloops_draw h p h')
    · exact .inr (subloops_draw h p h')
  | .block _ x, b, h, p, h' => subloops_draw (c := x) h p h'
  | .loop x, b, h, p, h' => by
    rcases List.mem_cons.1 h with rfl | h
    · exact h'
    · exact subloops_draw (c := x) h p h'
  | .skip, b, h, _, _ => by cases h
  | .label _, b, h, _, _ => by cases h
  | .region .., b, h, _, _ => by cases h
  | .exit _, b, h, _, _ => by cases h
  | .ret, b, h, _, _ => by cases h
  | .goto _, b, h, _, _ => by cases h

theorem findLoop_mem : ∀ {l : List Code} {s : Nat} {b : Code}, findLoop s l = some b → b ∈ l
  | [], s, b, h => by cases h
  | x :: r, s, b, h => by
    unfold findLoop at h
    split at h
    · cases h; simp
    · exact List.mem_cons_of_mem _ (findLoop_mem h)

theorem xcall_ok (hD : Draws C) {dm : List Nat} {fs : List Fm} {args : List V} {v : V} (h : Hits C f 0 (xcall C f dm fs args) v) : Sp C f args v := by
  unfold xcall at h
  split at h
  · rename_i fn hf
    split at h
    · rename_i c hc
      split at h
      · exact h.elim
      · rename_i hn
        simp only [Bool.or_eq_true, Bool.not_eq_true', not_or] at hn
        obtain ⟨⟨hn, hl⟩, hfl⟩ := hn
        obtain ⟨q, hq, h⟩ := reach_xb h
        obtain ⟨v0, hv, h⟩ := reach_xb h
        have h : v = outR dm fs v0 := h
        subst h
        have r := xexec_reach (hD f fn c hf hc) (loops_in hf hc (by simpa using hl)) hq
        exact (Sp.ofRuns hf hc (by simpa using hn) (by simpa using hfl) r (snd_xfin v0 hv)).outR dm fs
    · exact h.elim
  · exact h.elim
theorem xcallH_ok (hD : Draws C) {args : List V} {h0 : List Blk} {r : V × List Blk} (h : Hits C f h0.length (xcallH C f args h0) r) : SpH C f args h0 r.1 r.2 := by
  unfold xcallH at h
  split at h
  · rename_i fn hf
    split at h
    · rename_i c hc
      split at h
      · exact h.elim
      · rename_i hn
        simp only [Bool.or_eq_true, Bool.not_eq_true', not_or] at hn
        obtain ⟨⟨hn, hl⟩, hfl⟩ := hn
        obtain ⟨q, hq, h⟩ := reach_xb h
        have r := xexec_reach (hD f fn c hf hc) (loops_in hf hc (by simpa using hl)) hq
        exact SpH.ofRuns hf hc (by simpa using hn) (by simpa using hfl) r (snd_xfinH _ h)
    · exact h.elim
  · exact h.elim
theorem xbody_ok (hD : Draws C) {s : Nat} {kn ke : List (Nat × Fm)} {st : St} {q : Ex × St} (h : Hits C f N (xbody C f s kn ke st) q) : BodyRuns C f N s st q.1 q.2 := by
  unfold xbody at h
  split at h
  · rename_i fn hf
    split at h
    · rename_i c hc
      split at h
      · exact h.elim
      · rename_i hl
        split at h
        · rename_i b hb
          obtain ⟨⟨e, s1⟩, hq, h⟩ := reach_xb h
          have hmem : b ∈ subloops c := by
            unfold loopAt at hb
            rw [hf] at hb
            dsimp only at hb
            rw [hc] at hb
            exact findLoop_mem hb
          have hl := loops_in hf hc (by simpa using hl)
          have r := xexec_reach (fun p hp => hD f fn c hf hc p (subloops_draw hmem p hp)) (fun b' hb' => hl b' (subloops_sub hmem b' hb')) hq
          refine ⟨b, hb, ?_⟩
          cases e with
          | normal => have h : q = (.normal, relax kn s1) := h; subst h; exact Runs.post kn r
          | exit i => have h : q = (.exit i, relax ke s1) := h; subst h; exact Runs.post ke r
          | ret => have h : q = (.ret, relax ke s1) := h; subst h; exact Runs.post ke r
          | pan v => have h : q = (.pan v, relax ke s1) := h; subst h; exact Runs.post ke r
        · exact h.elim
    · exact h.elim
  · exact h.elim

/-- A call, by its tree. -/
theorem sp_tree (hD : Draws C) {dm : List Nat} {fs : List Fm} {args : List V} {v : V} (g : G V) (h : follow 0 (xcall C f dm fs args) g = some g) (hh : Holds C f 0 g (fun x => x = v)) : Sp C f args v := by
  obtain ⟨a, h1, rfl⟩ := follow_ok _ _ _ h hh
  exact xcall_ok hD h1
theorem spH_tree (hD : Draws C) {args : List V} {h0 : List Blk} {v : V} {h' : List Blk} (g : G (V × List Blk)) (h : follow h0.length (xcallH C f args h0) g = some g) (hh : Holds C f h0.length g (fun x => x = (v, h'))) : SpH C f args h0 v h' := by
  obtain ⟨a, h1, rfl⟩ := follow_ok _ _ _ h hh
  exact xcallH_ok hD h1
/-- A loop, by the tree of its next round. -/
theorem loop_tree (hD : Draws C) {s : Nat} {kn ke : List (Nat × Fm)} {st st2 : St} {e : Ex} (g : G (Ex × St)) (h : follow N (xbody C f s kn ke st) g = some g)
    (hh : Holds C f N g (fun q => match q.1 with | .normal => LoopRuns C f N s q.2 e st2 | e' => e' = e ∧ q.2 = st2)) : LoopRuns C f N s st e st2 := by
  obtain ⟨⟨e1, s1⟩, h1, h2⟩ := follow_ok _ _ _ h hh
  have hb := xbody_ok hD h1
  cases e1 with
  | normal => exact hb.step h2
  | exit i => obtain ⟨rfl, rfl⟩ := h2; exact hb.loop (fun e => by cases e)
  | ret => obtain ⟨rfl, rfl⟩ := h2; exact hb.loop (fun e => by cases e)
  | pan v => obtain ⟨rfl, rfl⟩ := h2; exact hb.loop (fun e => by cases e)
/-- The same, with what is kept ahead of the loop. -/
def LoopK (C : Cx) (f : FuncId) (s : Nat) (_keep : List (Nat × Fm)) (st : St) (e : Ex) (st' : St) : Prop := LoopRuns C f 0 s st e st'
/-- .. in a call that may not forget its caller's boxes. -/
def LoopKN (C : Cx) (f : FuncId) (N : Nat) (s : Nat) (_keep : List (Nat × Fm)) (st : St) (e : Ex) (st' : St) : Prop := LoopRuns C f N s st e st'
/-- An argument that may be nil, or empty, or neither. -/
theorem Sp.imm0 {pre post : List V} {n : Nat} {v : V} (h1 : Sp C f (pre ++ .nils :: post) v) (h2 : Sp C f (pre ++ .nne :: post) v) : Sp C f (pre ++ .imm false n [] :: post) v := by
  refine ⟨h1.fn, ?_, fun k us w m hm ha => ?_⟩
  · have := h1.flat
    simp only [List.all_append, List.all_cons, Bool.and_eq_true] at this ⊢
    exact ⟨this.1, rfl, this.2.2⟩
  · obtain ⟨hl, ha⟩ := ha
    have hlen : pre.length < us.size := by rw [← hl]; simp
    have hr := ha pre.length (.imm false n []) hlen (by simp)
    have put : ∀ x, RepI m x us[pre.length] → ArgsI m (pre ++ x :: post) us := by
      intro x hx
      refine ⟨by rw [← hl]; simp, fun j c hj hc => ?_⟩
      by_cases e : j = pre.length
      · subst e
        rw [List.getElem?_append_right (Nat.le_refl _)] at hc
        simp at hc
        exact hc ▸ hx
      · refine ha j c hj ?_
        by_cases hlt : j < pre.length
        · rw [List.getElem?_append_left hlt] at hc ⊢; exact hc
        · rw [List.getElem?_append_right (by omega)] at hc ⊢
          obtain ⟨i, hi⟩ : ∃ i, j - pre.length = i + 1 := ⟨j - pre.length - 1, by omega⟩
          rw [hi] at hc ⊢
          exact hc
    generalize hu : us[pre.length] = u at hr put
    cases hr with
    | none0 => exact h1.run k us w m hm (put .nils .nils)
    | imm _ _ b off cap _ _ _ _ hmx _ _ _ _ sp hp => exact h2.run k us w m hm (put .nne (.nne ⟨b, off, sp⟩ cap hmx hp))
end
end Go.Fw
