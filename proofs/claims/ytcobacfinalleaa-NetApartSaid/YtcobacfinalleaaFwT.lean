/- Runs over unknown values as trees: each choice, each check, each call is a node; what a tree reaches the machine does. -/
import Derived.Test.YtcobacfinalleaaFwThaw
set_option linter.all false
namespace Go.Fw

inductive T (α : Type) where
  | ret (a : α)
  | fail
  | ite (s : Nat) (b : Bool) (x y : T α)
  | chk (s : Nat) (b : Bool) (x : T α)
  | opt (s : Nat) (o : Option V) (k : V → T α)
  | call (s : Nat) (f : FuncId) (args : List V) (k : V → T α)
  | callH (s : Nat) (f : FuncId) (args : List V) (h : List Blk) (k : V → List Blk → T α)
  | loop (s : Nat) (b : Code) (st : St) (k : Ex → St → T α)
  | norm (s : Nat) (st : St) (k : St → T α)
  | «open» (s : Nat) (st : St) (k : St → T α)

def xp {α : Type} (a : α) : T α := .ret a
def xf {α : Type} : T α := .fail
def xb {α β : Type} (m : T α) (f : α → T β) : T β := match m with
  | .ret a => f a
  | .fail => .fail
  | .ite s b x y => .ite s b (xb x f) (xb y f)
  | .chk s b x => .chk s b (xb x f)
  | .opt s o k => .opt s o (fun v => xb (k v) f)
  | .call s g args k => .call s g args (fun v => xb (k v) f)
  | .callH s g args h k => .callH s g args h (fun v h => xb (k v h) f)
  | .loop s b st k => .loop s b st (fun e st => xb (k e st) f)
  | .norm s st k => .norm s st (fun st => xb (k st) f)
  | .open s st k => .open s st (fun st => xb (k st) f)
def xchk (s : Nat) (b : Bool) : T Unit := .chk s b (.ret ())
def xcond (s : Nat) (b : Bool) : T Bool := .ite s b (.ret true) (.ret false)
def xlift {α : Type} (o : Option α) : T α := match o with
  | some a => .ret a
  | none => .fail
def xopt (s : Nat) (o : Option V) : T V := .opt s o .ret

/-- The first region of a loop, and how deep loops stand in it: its name. -/
def firstReg : Code → Nat
  | .region id _ _ => id
  | .seq a _ => firstReg a
  | .block _ a => firstReg a
  | .loop a => firstReg a
  | .cond _ a _ => firstReg a
  | _ => 9999
def loopHeight : Code → Nat
  | .seq a b => max (loopHeight a) (loopHeight b)
  | .cond _ a b => max (loopHeight a) (loopHeight b)
  | .block _ b => loopHeight b
  | .loop b => loopHeight b + 1
  | _ => 0
def lkey (b : Code) : Nat := firstReg b * 8 + loopHeight b

/-- The bodies of the loops of a code. -/
def subloops : Code → List Code
  | .seq a b => subloops a ++ subloops b
  | .cond _ a b => subloops a ++ subloops b
  | .block _ b => subloops b
  | .loop b => b :: subloops b
  | _ => []
def findLoop (s : Nat) : List Code → Option Code
  | [] => none
  | b :: r => match lkey b == s with
    | true => some b
    | false => findLoop s r
def loopAt (C : Cx) (f : FuncId) (s : Nat) : Option Code := match C.P.funcs[f]? with
  | some fn => match fn.body with
    | some c => findLoop s (subloops c)
    | none => none
  | none => none
def noTwin : List Nat → Bool
  | [] => true
  | x :: r => r.all (· != x) && noTwin r
def loopsOk (c : Code) : Bool := noTwin ((subloops c).map lkey)
theorem findLoop_of : ∀ {l : List Code} {b : Code}, noTwin (l.map lkey) = true → b ∈ l → findLoop (lkey b) l = some b
  | [], b, _, h => by cases h
  | x :: r, b, hn, h => by
    simp only [List.map_cons, noTwin, Bool.and_eq_true] at hn
    unfold findLoop
    rcases List.mem_cons.1 h with rfl | h
    · simp
    · have hne : (lkey x == lkey b) = false := by
        have := List.all_eq_true.1 hn.1 (lkey b) (List.mem_map.2 ⟨b, h, rfl⟩)
        simp only [bne_iff_ne, ne_eq] at this
        simp only [beq_eq_false_iff_ne, ne_eq]
        exact fun e => this e.symm
      rw [hne]
      exact findLoop_of hn.2 h

/-- What a tree reaches. -/
def Hits (C : Cx) (f : FuncId) (N : Nat) {α : Type} : T α → α → Prop
  | .ret a, x => x = a
  | .fail, _ => False
  | .ite _ b t u, x => (b = true ∧ Hits C f N t x) ∨ (b = false ∧ Hits C f N u x)
  | .chk _ b t, x => b = true ∧ Hits C f N t x
  | .opt _ o k, x => ∃ v, o = some v ∧ Hits C f N (k v) x
  | .call _ g args k, x => ∃ v, Sp C g args v ∧ Hits C f N (k v) x
  | .callH _ g args h k, x => ∃ v h', SpH C g args h v h' ∧ Hits C f N (k v h') x
  | .loop s b st k, x => ∃ e st', (loopAt C f s = some b → Runs C N (.loop b) st e st') ∧ Hits C f N (k e st') x
  | .norm _ st k, x => Hits C f N (k st) x
  | .open _ st k, x => ∃ st', StTo N st st' ∧ Hits C f N (k st') x

def Snd {α : Type} (C : Cx) (f : FuncId) (N : Nat) (m : T α) (U : α → Prop) : Prop := ∀ a, Hits C f N m a → U a

section
variable {C : Cx} {f : FuncId} {N : Nat}
theorem snd_xp {α : Type} {a : α} {U : α → Prop} (h : U a) : Snd C f N (xp a) U := by
  intro x hx
  have hx : x = a := hx
  exact hx ▸ h
theorem snd_xf {α : Type} {U : α → Prop} : Snd C f N (xf : T α) U := fun x hx => hx.elim
theorem reach_xb {α β : Type} {k : α → T β} {x : β} : ∀ {m : T α}, Hits C f N (xb m k) x → ∃ a, Hits C f N m a ∧ Hits C f N (k a) x
  | .ret a, h => ⟨a, rfl, h⟩
  | .fail, h => h.elim
  | .ite s b t u, h => by
    rcases h with ⟨hb, h⟩ | ⟨hb, h⟩
    · obtain ⟨a, h1, h2⟩ := reach_xb h; exact ⟨a, .inl ⟨hb, h1⟩, h2⟩
    · obtain ⟨a, h1, h2⟩ := reach_xb h; exact ⟨a, .inr ⟨hb, h1⟩, h2⟩
  | .chk s b t, h => by
    obtain ⟨hb, h⟩ := h
    obtain ⟨a, h1, h2⟩ := reach_xb h
    exact ⟨a, ⟨hb, h1⟩, h2⟩
  | .opt s o k, h => by
    obtain ⟨v, hv, h⟩ := h
    obtain ⟨a, h1, h2⟩ := reach_xb h
    exact ⟨a, ⟨v, hv, h1⟩, h2⟩
  | .call s g args k, h => by
    obtain ⟨v, hv, h⟩ := h
    obtain ⟨a, h1, h2⟩ := reach_xb h
    exact ⟨a, ⟨v, hv, h1⟩, h2⟩
  | .callH s g args hh k, h => by
    obtain ⟨v, h', hv, h⟩ := h
    obtain ⟨a, h1, h2⟩ := reach_xb h
    exact ⟨a, ⟨v, h', hv, h1⟩, h2⟩
  | .loop s b st k, h => by
    obtain ⟨e, st', hv, h⟩ := h
    obtain ⟨a, h1, h2⟩ := reach_xb h
    exact ⟨a, ⟨e, st', hv, h1⟩, h2⟩
  | .norm s st k, h => by
    obtain ⟨a, h1, h2⟩ := reach_xb (m := k st) h
    exact ⟨a, h1, h2⟩
  | .open s st k, h => by
    obtain ⟨st', hto, h⟩ := h
    obtain ⟨a, h1, h2⟩ := reach_xb (m := k st') h
    exact ⟨a, ⟨st', hto, h1⟩, h2⟩
theorem snd_xb {α β : Type} {m : T α} {k0 : α → T β} {U : α → Prop} {W : β → Prop} (h : Snd C f N m U) (k : ∀ a, U a → Snd C f N (k0 a) W) : Snd C f N (xb m k0) W := by
  intro x hx
  obtain ⟨a, h1, h2⟩ := reach_xb hx
  exact k a (h a h1) x h2
theorem snd_xlift {α : Type} {o : Option α} : Snd C f N (xlift o) (fun x => o = some x) := by
  intro x hx
  cases o with
  | some a => have hx : x = a := hx; rw [hx]
  | none => exact hx.elim
theorem snd_xchk {s : Nat} {b : Bool} : Snd C f N (xchk s b) (fun _ => b = true) := fun x hx => hx.1
theorem snd_xcond {s : Nat} {b : Bool} : Snd C f N (xcond s b) (fun x => b = x) := by
  intro x hx
  rcases hx with ⟨h1, h2⟩ | ⟨h1, h2⟩
  · have h2 : x = true := h2; rw [h1, h2]
  · have h2 : x = false := h2; rw [h1, h2]
theorem snd_xopt {s : Nat} {o : Option V} : Snd C f N (xopt s o) (fun x => o = some x) := by
  intro x hx
  obtain ⟨v, h1, h2⟩ := hx
  have h2 : x = v := h2
  rw [h1, h2]
theorem snd_xcall {s : Nat} {g : FuncId} {args : List V} : Snd C f N (.call s g args .ret) (fun v => Sp C g args v) := by
  intro x hx
  obtain ⟨v, h1, h2⟩ := hx
  have h2 : x = v := h2
  rw [h2]; exact h1
theorem snd_xcallH {s : Nat} {g : FuncId} {args : List V} {h : List Blk} : Snd C f N (.callH s g args h (fun v h' => .ret (v, h'))) (fun q => SpH C g args h q.1 q.2) := by
  intro x hx
  obtain ⟨v, h', h1, h2⟩ := hx
  have h2 : x = (v, h') := h2
  rw [h2]; exact h1
end

/-- What is appended, told apart. -/
def xapp (si : Nat) (e : TypeId) (sz : Nat) (s : V) (ys : List V) : T (Nat × V) :=
  match s with
  | .nils => xb (xcond si ys.isEmpty) fun t => if t then xp (0, .nils) else xp (ys.length, .lin true e sz ys)
  | .imm true n xs => xb (xcond si ys.isEmpty) fun t => if t then xp (xs.length, .imm true n xs) else if n = sz then xp (xs.length + ys.length, .lin true e sz (xs ++ ys)) else xf
  | .lin p e' n xs => if n = sz ∧ e' = e then xp (xs.length + ys.length, .lin p e sz (xs ++ ys)) else xf
  | _ => xf

theorem snd_xapp {C : Cx} {f : FuncId} {N : Nat} {si : Nat} {e : TypeId} {sz : Nat} {s : V} {ys : List V} : Snd C f N (xapp si e sz s ys) (fun r => vappend e sz s ys = some r) := by
  unfold xapp
  split
  · refine snd_xb snd_xcond (fun t ht => ?_)
    cases ys with
    | nil => cases ht; exact snd_xp rfl
    | cons y ys => cases ht; exact snd_xp rfl
  · refine snd_xb snd_xcond (fun t ht => ?_)
    cases ys with
    | nil => cases ht; exact snd_xp rfl
    | cons y ys =>
      cases ht
      rw [if_neg (by simp)]
      split
      · rename_i h
        exact snd_xp (by unfold vappend; dsimp only; rw [if_pos h])
      · exact snd_xf
  · split
    · rename_i h
      exact snd_xp (by unfold vappend; dsimp only; rw [if_pos h])
    · exact snd_xf
  · exact snd_xf

/-- The place of an operation. -/
def site (o : Oper) : Nat := match o.dst, o.op with
  | some d, _ => d
  | none, .store _ (.tmp t) _ => 3000 + t
  | _, _ => 999
/-- One operation. -/
def xop (C : Cx) (f : FuncId) (o : Oper) (st : St) : T (V × St) :=
  match o.op with
  | .pick c a b => match st.peek c with
    | .bool t => xb (xcond (site o) t) fun t => match t with
      | true => xp (st.useV a, st.useS a)
      | false => xp (st.useV b, st.useS b)
    | _ => xf
  | .load t a => match isAggT C.P t, sizeT C.P t with
    | some g, some n => match st.peek a with
      | .ptr id off => match st.h[id]? with
        | some (.cells cs e) => xb (xchk (site o) (decide (off + n ≤ cs.length))) fun _ =>
            let c := (cs.drop off).take n
            match o.dst with
            | some d =>
              if (C.tr f).contains d then xb (xlift (ofCells g c)) fun v => xp (v, { st with h := st.h.set id (.cells (setAt cs off (c.map drop1)) e) })
              else xb (xopt (site o) (ofCells g (c.map demote1))) fun v => xb (xcond (site o) (c.any isLin1)) fun t => match t with
                | true => xp (v, { st with h := st.h.set id (.cells (setAt cs off (c.map mark1)) e) })
                | false => xp (v, st)
            | none => xf
        | _ => xf
      | .iptr x off => if off + n ≤ x.cells.length then xb (xlift (ofCells g ((x.cells.drop off).take n))) fun v => xp (v, st) else xf
      | _ => xf
    | _, _ => xf
  | .store t a x => match (if o.dst = none then sizeT C.P t else none) with
    | some n => match st.peek a with
      | .ptr id off => match st.h[id]? with
        | some (.cells cs e) => if okV (st.peek x) ∧ (st.peek x).cells.length = n then xb (xchk (site o) (decide (off + n ≤ cs.length))) fun _ =>
            let st' := st.takeS x
            xp (.undef, { st' with h := st'.h.set id (.cells (setAt cs off (st.peek x).cells) e) })
          else xf
        | _ => xf
      | _ => xf
    | none => xf
  | .binOp op t x y _ => xb (xopt (site o) (vbin C.P op t (st.peek x) (st.peek y))) fun v => xp (v, st)
  | .unOp op _ x => xb (xopt (site o) (vun C.P op (st.peek x))) fun v => xp (v, st)
  | .convert src dst x => xb (xopt (site o) (vconv C.P src dst (st.peek x))) fun v => xp (v, st)
  | .makeSlice t l c => match elemT C.P t with
    | some e => match sizeT C.P e, bytesT C.P e, zeroT C.P e, st.peek l, st.peek c with
      | some sz, some by_, some z, .int _ n, .int _ m =>
        xb (xchk (site o) (decide (0 ≤ n ∧ n ≤ m ∧ m * by_ ≤ 2 ^ 47 ∧ m ≤ 2 ^ 47 ∧ z.cells.length = sz ∧ 0 < sz ∧ okV z = true))) fun _ =>
          if flat2 z ∧ !((C.thaw f).contains (o.dst.getD 0)) then xb (xchk (7000 + site o) (decide (n = m))) fun _ => xp (.imm true sz (List.replicate n.toNat z), st)
          else xp (.own st.h.length 0 n.toNat m.toNat, { st with h := st.h ++ [.cells ((List.replicate m.toNat z.cells).flatten) e] })
      | _, _, _, _, _ => xf
    | none => xf
  | .slice t x lo hi mx => match st.peek x with
    | .own bid off len room => match optInt id (lo.map st.peek), optInt id (hi.map st.peek), optInt id (mx.map st.peek), (elemT C.P t).bind (sizeT C.P) with
      | some l, some h, some m, some sz => if mx.isSome && hi.isNone then xf else xb (xchk (site o) (decide (0 ≤ l.getD 0 ∧ l.getD 0 ≤ h.getD len ∧ h.getD len ≤ m.getD (max len room) ∧ m.getD (max len room) ≤ (max len room : Nat)))) fun _ =>
          xp (.own bid (off + (l.getD 0).toNat * sz) ((h.getD len).toNat - (l.getD 0).toNat) ((m.getD (max len room)).toNat - (l.getD 0).toNat), st)
      | _, _, _, _ => xf
    | _ => match optInt id (lo.map st.peek), optInt id (hi.map st.peek), optInt id (mx.map st.peek) with
    | some l, some h, some m => xb (xlift (vslice C.P t (st.peek x) l h m)) fun q => match m with
        | none => xb (xchk (site o) (decide (0 ≤ q.1 ∧ q.1 ≤ q.2.1 ∧ q.2.1 ≤ q.2.2.1))) fun _ => xp (q.2.2.2, st.useS x)
        | some m => xb (xchk (site o) (decide (0 ≤ q.1 ∧ q.1 ≤ q.2.1 ∧ q.2.1 ≤ q.2.2.1 ∧ m = q.2.1))) fun _ => xp (q.2.2.2, st.useS x)
    | _, _, _ => xf
  | .indexAddr t x i => match st.peek i with
    | .int _ n => match st.peek x with
      | .imm _ m xs => if (elemT C.P t).bind (sizeT C.P) = some m then xb (xopt (site o) (idx xs n)) fun e => xp (.iptr e 0, st) else xf
      | .lin _ _ m xs => if (elemT C.P t).bind (sizeT C.P) = some m then xb (xopt (site o) (idx xs n)) fun e => xp (.iptr e 0, st.useS x) else xf
      | .own id off len _ => match (elemT C.P t).bind (sizeT C.P) with
        | some sz => xb (xchk (site o) (decide (0 ≤ n ∧ n < len))) fun _ => xp (.ptr id (off + n.toNat * sz), st)
        | none => xf
      | _ => xf
    | _ => xf
  | .index t x i => match C.P.underlying t with
    | some .string => match st.peek x, st.peek i with
      | .str s, .int _ n => xb (xopt (site o) ((idx s.data.toList n).map fun b => .int .u8 b.toNat)) fun v => xp (v, st)
      | _, _ => xf
    | _ => xf
  | .call c => match c.callee with
    | .builtin .append => match c.args.toList, c.argTypes.toList with
      | [s, x], [t, tx] => match elemT C.P t, elemT C.P tx with
        | some e, some _ => match st.peek s with
          | .own bid off len room => match sizeT C.P e, st.h[bid]? with
            | some sz, some (.cells cs e') => match ownSrc st.h sz (st.peek x) with
              | some (m, ys) => xb (xchk (6000 + site o) (decide (t = tx ∧ 0 < sz ∧ ys.length = m * sz ∧ len + m ≤ room ∧ off + (len + m) * sz ≤ cs.length) && ys.all fun c => !isLin1 c && okV c)) fun _ =>
                  xp (.own bid off (len + m) room, { st with h := st.h.set bid (.cells (setAt cs (off + len * sz) ys) e') })
              | none => xf
            | _, _ => xf
          | _ => match bytesT C.P e, sizeT C.P e, zeroT C.P e, elems (st.peek x) with
          | some by_, some sz, some z, some (m, ys) => xb (xchk (6000 + site o) (decide (t = tx) && (decide (m = sz) || ys.isEmpty) && decide (0 < sz) && decide (0 < by_) && okV z && decide (z.cells.length = sz))) fun _ =>
            let st1 := st.useS x
            xb (xapp (site o) e sz (st1.peek s) ys) fun q =>
            xb (xchk (site o) (decide (q.1 * by_ ≤ 2 ^ 47))) fun _ => if isLin3 (getS (st1.takeS s).fr (o.dst.getD 0)) then xf else xp (q.2, st1.takeS s)
          | _, _, _, _ => xf
        | _, _ => xf
      | _, _ => xf
    | .builtin .clear => match c.args.toList, c.argTypes.toList with
      | [x], [t] => match elemT C.P t, st.peek x with
        | some e, .own bid off len _ => match sizeT C.P e, zeroT C.P e, st.h[bid]? with
          | some sz, some z, some (.cells cs e') => xb (xchk (site o) (decide (0 < sz ∧ z.cells.length = sz ∧ okV z = true ∧ flat2 z = true ∧ o.dst.isNone = true ∧ off + len * sz ≤ cs.length))) fun _ =>
              xp (.undef, { st with h := st.h.set bid (.cells (setAt cs off (List.replicate len z.cells).flatten) e') })
          | _, _, _ => xf
        | _, _ => xf
      | _, _ => xf
    | .value g => match st.peek g with
      | .fn (.func g) first caps =>
        let args := first ++ (c.args.toList.map st.useV) ++ caps
        let st' := st.useAll c.args.toList
        if args.all flat2 then
          xb (.call (site o) g args .ret) fun v => match o.dst with
              | some d => if (C.thaw f).contains d then match thaw1 st'.h ((elemT C.P o.type).getD 0) v with
                  | some (v, h) => if isLin3 (getS st'.fr d) then xf else xp (v, { st' with h := h })
                  | none => xf
                else xp (v, st')
              | none => xp (.undef, st')
        else xb (.callH (site o) g args st'.h (fun v h => .ret (v, h))) fun q => xp (q.1, { st' with h := q.2 })
      | _ => xf
    | _ => xlift (vop C (fun _ _ _ => none) f o st (fun v s => some (v, s)) (fun _ _ => none))
  | _ => xlift (vop C (fun _ _ _ => none) f o st (fun v s => some (v, s)) (fun _ _ => none))

/-- The operations of a region, in the text's order, with their guards. -/
def xops (C : Cx) (f : FuncId) (all : List Oper) : List Oper → St → T St
  | [], st => xp st
  | o :: r, st =>
    match o.guard with
    | none => xb (xop C f o st) fun q => .open (8000 + site o) (put q.2 o.dst q.1) fun st => xops C f all r st
    | some (j, want) => xb (xlift (wantedV all st.fr j want)) fun b => xb (xcond (1000 + site o) b) fun b => match b with
      | true => xb (xop C f o st) fun q => .open (8000 + site o) (put q.2 o.dst q.1) fun st => xops C f all r st
      | false => .norm (9000 + site o) (put st o.dst (.tup [])) fun st => xops C f all r st

def xkind (C : Cx) (f : FuncId) (o : Oper) (st : St) : T Kd := match o.op with
  | .load t a => if (C.tr f).contains (o.dst.getD 0) then xf else match st.peek a with
    | .ptr id off => match st.h[id]?, sizeT C.P t with
      | some (.cells cs _), some n => xb (xcond (5000 + site o) (((cs.drop off).take n).any isLin1)) fun b => xp (match b with | true => .any | false => .rd id)
      | _, _ => xf
    | .iptr .. => xp .none
    | _ => xf
  | _ => xp (kindV C f o st)

def xdraw (C : Cx) (f : FuncId) (un : List Nat) (h0 : Nat) (ops : List Oper) : List Nat → List (Nat × Kd) → St → T St
  | [], _, st => xp st
  | i :: r, acc, st => match ops[i]? with
    | none => xf
    | some o => if !involved un i || decide (h0 ≤ st.h.length) then
      xb (xlift (guardV ops o st)) fun b => xb (xcond (1000 + site o) b) fun b => match b with
      | true => if involved un i then xb (xkind C f o st) fun kd =>
            if calm un ops i o st && notAny kd && acc.all fun p => !unAt un p.1 i || compatK h0 p.2 kd then
              xb (xop C f o st) fun q => .norm (8000 + site o) (put q.2 o.dst q.1) fun st => xdraw C f un h0 ops r ((i, kd) :: acc) st
            else xf
          else xb (xop C f o st) fun q => .norm (8000 + site o) (put q.2 o.dst q.1) fun st => xdraw C f un h0 ops r acc st
      | false => .norm (9000 + site o) (put st o.dst (.tup [])) fun st => xdraw C f un h0 ops r acc st
      else xf

/-- The code of a function: 'n': nesting. -/
def xexec (C : Cx) (f : FuncId) : Nat → Code → St → T (Ex × St)
  | 0, _, _ => xf
  | n + 1, c, st =>
    match c with
    | .skip | .label _ => xp (.normal, st)
    | .region _ ops false => xb (xops C f ops.toList ops.toList st) fun st => xp (.normal, st)
    | .region id ops true => match C.un f id with
      | some un => xb (xdraw C f un st.h.length ops.toList (List.range ops.size) [] st) fun st => xp (.normal, st)
      | none => xf
    | .seq a b => xb (xexec C f n a st) fun q => match q.1 with
      | .normal => xexec C f n b q.2
      | e => xp (e, q.2)
    | .cond x a b => match st.peek x with
      | .bool t => xb (xcond (2000 + (match x with | .tmp t => t | _ => 0)) t) fun t => match t with
        | true => xexec C f n a st
        | false => xexec C f n b st
      | _ => xf
    | .block id b => xb (xexec C f n b st) fun q => xp (inBlk id q.1, q.2)
    | .loop b => .loop (lkey b) b st (fun e st' => .ret (e, st'))
    | .exit id => xp (.exit id, st)
    | .ret => xp (.ret, st)
    | _ => xf
end Go.Fw
