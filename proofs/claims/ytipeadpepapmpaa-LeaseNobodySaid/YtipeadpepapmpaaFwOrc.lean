/- A second evaluator, for runs over unknown values: what it cannot decide it is told, and it keeps what is to be shown. -/
import Derived.Test.YtipeadpepapmpaaFwDraw4
set_option linter.all false
namespace Go.Fw

/-- What is told, each for a place in the code. -/
inductive D where
  | b (site : Nat) (x : Bool) | dyn (site : Nat) | v (site : Nat) (x : V) | call (site : Nat) (r : FOut) | loop (site : Nat) (e : Ex) (st : St)

def W (α : Type) : Type := List D → Option (α × List D × List Prop)
def All : List Prop → Prop
  | [] => True
  | c :: cs => c ∧ All cs
theorem all_append : ∀ {as bs : List Prop}, All (as ++ bs) ↔ All as ∧ All bs
  | [], bs => by simp [All]
  | a :: as, bs => by simp [All, all_append (as := as) (bs := bs), and_assoc]

def wp {α : Type} (a : α) : W α := fun ds => some (a, ds, [])
def wf {α : Type} : W α := fun _ => none
def wb {α β : Type} (m : W α) (f : α → W β) : W β := fun ds => match m ds with
  | some (a, ds, ps) => match f a ds with
    | some (b, ds, qs) => some (b, ds, ps ++ qs)
    | none => none
  | none => none
/-- A truth that is wanted. -/
def chk0 (b : Bool) : W Unit := fun ds => match b with
  | true => some ((), ds, [])
  | false => none
def chk (s : Nat) (b : Bool) : W Unit := fun ds => match ds with
  | .dyn s' :: r => match s' == s with
    | true => some ((), r, [b = true])
    | false => chk0 b ds
  | ds => chk0 b ds
/-- A choice. -/
def cond (s : Nat) (b : Bool) : W Bool := fun ds => match ds with
  | .b s' x :: r => match s' == s with
    | true => some (x, r, [b = x])
    | false => some (b, ds, [])
  | ds => some (b, ds, [])
def lift {α : Type} (o : Option α) : W α := fun ds => match o with
  | some a => some (a, ds, [])
  | none => none
/-- A value. -/
def optV (s : Nat) (o : Option V) : W V := fun ds => match ds with
  | .v s' x :: r => match s' == s with
    | true => some (x, r, [o = some x])
    | false => lift o ds
  | ds => lift o ds
def optR (s : Nat) (o : Option FOut) : W FOut := fun ds => match ds with
  | .call s' x :: r => match s' == s with
    | true => some (x, r, [o = some x])
    | false => lift o ds
  | ds => lift o ds

def Snd {α : Type} (m : W α) (T : α → Prop) : Prop := ∀ ds a ds' ps, m ds = some (a, ds', ps) → All ps → T a

theorem snd_wp {α : Type} {a : α} {T : α → Prop} (h : T a) : Snd (wp a) T := by
  intro ds a' ds' ps e hp
  cases e
  exact h
theorem snd_wf {α : Type} {T : α → Prop} : Snd (wf : W α) T := by
  intro ds a' ds' ps e hp
  cases e
theorem snd_wb {α β : Type} {m : W α} {f : α → W β} {T : α → Prop} {U : β → Prop} (h : Snd m T) (k : ∀ a, T a → Snd (f a) U) : Snd (wb m f) U := by
  intro ds b ds' ps e hp
  unfold wb at e
  split at e
  · rename_i a ds1 ps1 h1
    split at e
    · rename_i b' ds2 qs h2
      cases e
      obtain ⟨q1, q2⟩ := all_append.1 hp
      exact k a (h _ _ _ _ h1 q1) _ _ _ _ h2 q2
    · cases e
  · cases e
theorem snd_lift {α : Type} {o : Option α} : Snd (lift o) (fun x => o = some x) := by
  intro ds a ds' ps e hp
  unfold lift at e
  cases o with
  | some x => cases e; rfl
  | none => cases e
theorem snd_chk {s : Nat} {b : Bool} : Snd (chk s b) (fun _ => b = true) := by
  intro ds a ds' ps e hp
  have h0 : ∀ ds, chk0 b ds = some (a, ds', ps) → b = true := by
    intro ds e
    unfold chk0 at e
    cases b with
    | true => rfl
    | false => cases e
  unfold chk at e
  split at e
  · split at e
    · cases e; exact hp.1
    · exact h0 _ e
  · exact h0 _ e
theorem snd_cond {s : Nat} {b : Bool} : Snd (cond s b) (fun x => b = x) := by
  intro ds a ds' ps e hp
  unfold cond at e
  split at e
  · split at e
    · cases e; exact hp.1
    · cases e; rfl
  · cases e; rfl
theorem snd_optV {s : Nat} {o : Option V} : Snd (optV s o) (fun x => o = some x) := by
  intro ds a ds' ps e hp
  unfold optV at e
  split at e
  · split at e
    · cases e; exact hp.1
    · exact snd_lift _ _ _ _ e hp
  · exact snd_lift _ _ _ _ e hp
theorem snd_optR {s : Nat} {o : Option FOut} : Snd (optR s o) (fun x => o = some x) := by
  intro ds a ds' ps e hp
  unfold optR at e
  split at e
  · split at e
    · cases e; exact hp.1
    · exact snd_lift _ _ _ _ e hp
  · exact snd_lift _ _ _ _ e hp

/-- What is appended, told apart. -/
def wapp (si : Nat) (e : TypeId) (sz : Nat) (s : V) (ys : List V) : W (Nat × V) :=
  match s with
  | .nils => wb (cond si ys.isEmpty) fun t => if t then wp (0, .nils) else wp (ys.length, .lin true e sz ys)
  | .imm true n xs => wb (cond si ys.isEmpty) fun t => if t then wp (xs.length, .imm true n xs) else if n = sz then wp (xs.length + ys.length, .lin true e sz (xs ++ ys)) else wf
  | .lin p e' n xs => if n = sz ∧ e' = e then wp (xs.length + ys.length, .lin p e sz (xs ++ ys)) else wf
  | _ => wf

theorem snd_wapp {si : Nat} {e : TypeId} {sz : Nat} {s : V} {ys : List V} : Snd (wapp si e sz s ys) (fun r => vappend e sz s ys = some r) := by
  unfold wapp
  split
  · refine snd_wb snd_cond (fun t ht => ?_)
    cases ys with
    | nil => cases ht; exact snd_wp rfl
    | cons y ys => cases ht; exact snd_wp rfl
  · refine snd_wb snd_cond (fun t ht => ?_)
    cases ys with
    | nil => cases ht; exact snd_wp rfl
    | cons y ys =>
      cases ht
      rw [if_neg (by simp)]
      split
      · rename_i h
        exact snd_wp (by unfold vappend; dsimp only; rw [if_pos h])
      · exact snd_wf
  · split
    · rename_i h
      exact snd_wp (by unfold vappend; dsimp only; rw [if_pos h])
    · exact snd_wf
  · exact snd_wf

/-- The place of an operation. -/
def site (o : Oper) : Nat := match o.dst, o.op with
  | some d, _ => d
  | none, .store _ (.tmp t) _ => 3000 + t
  | _, _ => 999
/-- One operation. -/
def wop (C : Cx) (vb : FuncId → List V → List Blk → Option FOut) (f : FuncId) (o : Oper) (st : St) : W (V × St) :=
  match o.op with
  | .pick c a b => match st.peek c with
    | .bool t => wb (cond (site o) t) fun t => match t with
      | true => wp (st.useV a, st.useS a)
      | false => wp (st.useV b, st.useS b)
    | _ => wf
  | .load t a => match isAggT C.P t, sizeT C.P t with
    | some g, some n => match st.peek a with
      | .ptr id off => match st.h[id]? with
        | some (.cells cs e) => wb (chk (site o) (decide (off + n ≤ cs.length))) fun _ =>
            let c := (cs.drop off).take n
            match o.dst with
            | some d =>
              if (C.tr f).contains d then wb (lift (ofCells g c)) fun v => wp (v, { st with h := st.h.set id (.cells (setAt cs off (c.map drop1)) e) })
              else wb (optV (site o) (ofCells g (c.map demote1))) fun v => wb (cond (site o) (c.any isLin1)) fun t => match t with
                | true => wp (v, { st with h := st.h.set id (.cells (setAt cs off (c.map mark1)) e) })
                | false => wp (v, st)
            | none => wf
        | _ => wf
      | .iptr x off => if off + n ≤ x.cells.length then wb (lift (ofCells g ((x.cells.drop off).take n))) fun v => wp (v, st) else wf
      | _ => wf
    | _, _ => wf
  | .store t a x => match (if o.dst = none then sizeT C.P t else none) with
    | some n => match st.peek a with
      | .ptr id off => match st.h[id]? with
        | some (.cells cs e) => if okV (st.peek x) ∧ (st.peek x).cells.length = n then wb (chk (site o) (decide (off + n ≤ cs.length))) fun _ =>
            let st' := st.takeS x
            wp (.undef, { st' with h := st'.h.set id (.cells (setAt cs off (st.peek x).cells) e) })
          else wf
        | _ => wf
      | _ => wf
    | none => wf
  | .binOp op t x y _ => wb (optV (site o) (vbin C.P op t (st.peek x) (st.peek y))) fun v => wp (v, st)
  | .unOp op _ x => wb (optV (site o) (vun C.P op (st.peek x))) fun v => wp (v, st)
  | .convert src dst x => wb (optV (site o) (vconv C.P src dst (st.peek x))) fun v => wp (v, st)
  | .makeSlice t l c => match elemT C.P t with
    | some e => match sizeT C.P e, bytesT C.P e, zeroT C.P e, st.peek l, st.peek c with
      | some sz, some by_, some z, .int _ n, .int _ m =>
        wb (chk (site o) (decide (0 ≤ n ∧ n ≤ m ∧ m * by_ ≤ 2 ^ 47 ∧ m ≤ 2 ^ 47 ∧ z.cells.length = sz ∧ 0 < sz ∧ okV z = true))) fun _ =>
          if flat2 z ∧ !((C.thaw f).contains (o.dst.getD 0)) then wb (chk (site o) (decide (n = m))) fun _ => wp (.imm true sz (List.replicate n.toNat z), st)
          else wp (.own st.h.length 0 n.toNat, { st with h := st.h ++ [.cells ((List.replicate m.toNat z.cells).flatten) e] })
      | _, _, _, _, _ => wf
    | none => wf
  | .slice t x lo hi mx =>
    match optInt id (lo.map st.peek), optInt id (hi.map st.peek), optInt id (mx.map st.peek) with
    | some l, some h, some m => wb (lift (vslice C.P t (st.peek x) l h m)) fun q => match m with
        | none => wb (chk (site o) (decide (0 ≤ q.1 ∧ q.1 ≤ q.2.1 ∧ q.2.1 ≤ q.2.2.1))) fun _ => wp (q.2.2.2, st.useS x)
        | some m => wb (chk (site o) (decide (0 ≤ q.1 ∧ q.1 ≤ q.2.1 ∧ q.2.1 ≤ q.2.2.1 ∧ m = q.2.1))) fun _ => wp (q.2.2.2, st.useS x)
    | _, _, _ => wf
  | .indexAddr t x i => match st.peek i with
    | .int _ n => match st.peek x with
      | .imm _ m xs => if (elemT C.P t).bind (sizeT C.P) = some m then wb (optV (site o) (idx xs n)) fun e => wp (.iptr e 0, st) else wf
      | .lin _ _ m xs => if (elemT C.P t).bind (sizeT C.P) = some m then wb (optV (site o) (idx xs n)) fun e => wp (.iptr e 0, st.useS x) else wf
      | .own id off len => match (elemT C.P t).bind (sizeT C.P) with
        | some sz => wb (chk (site o) (decide (0 ≤ n ∧ n < len))) fun _ => wp (.ptr id (off + n.toNat * sz), st)
        | none => wf
      | _ => wf
    | _ => wf
  | .index t x i => match C.P.underlying t with
    | some .string => match st.peek x, st.peek i with
      | .str s, .int _ n => wb (optV (site o) ((idx s.data.toList n).map fun b => .int .u8 b.toNat)) fun v => wp (v, st)
      | _, _ => wf
    | _ => wf
  | .call c => match c.callee with
    | .builtin .append => match c.args.toList, c.argTypes.toList with
      | [s, x], [t, tx] => match elemT C.P t, elemT C.P tx with
        | some e, some _ => match bytesT C.P e, sizeT C.P e, zeroT C.P e, elems (st.peek x) with
          | some by_, some sz, some z, some (m, ys) => wb (chk (site o) (decide (t = tx) && (decide (m = sz) || ys.isEmpty) && decide (0 < sz) && decide (0 < by_) && okV z && decide (z.cells.length = sz))) fun _ =>
            let st1 := st.useS x
            wb (wapp (site o) e sz (st1.peek s) ys) fun q =>
            wb (chk (site o) (decide (q.1 * by_ ≤ 2 ^ 47))) fun _ => if isLin3 (getS (st1.takeS s).fr (o.dst.getD 0)) then wf else wp (q.2, st1.takeS s)
          | _, _, _, _ => wf
        | _, _ => wf
      | _, _ => wf
    | .value g => match st.peek g with
      | .fn (.func g) first caps =>
        let args := first ++ (c.args.toList.map st.useV) ++ caps
        let st' := st.useAll c.args.toList
        if args.all flat2 then
          wb (optR (site o) (vb g args [])) fun r => match r with
            | .ret v _ => match o.dst with
              | some d => if (C.thaw f).contains d then match thaw1 st'.h ((elemT C.P o.type).getD 0) v with
                  | some (v, h) => if isLin3 (getS st'.fr d) then wf else wp (v, { st' with h := h })
                  | none => wf
                else wp (v, st')
              | none => wp (.undef, st')
            | .pan _ _ => wf
        else wb (optR (site o) (vb g args st'.h)) fun r => match r with
            | .ret v h => wp (v, { st' with h := h })
            | .pan _ _ => wf
      | _ => wf
    | _ => lift (vop C vb f o st (fun v s => some (v, s)) (fun _ _ => none))
  | _ => lift (vop C vb f o st (fun v s => some (v, s)) (fun _ _ => none))

/-- The operations of a region, in the text's order, with their guards. -/
def wops (C : Cx) (vb : FuncId → List V → List Blk → Option FOut) (f : FuncId) (all : List Oper) : List Oper → St → W St
  | [], st => wp st
  | o :: r, st =>
    match o.guard with
    | none => wb (wop C vb f o st) fun q => wops C vb f all r (put q.2 o.dst q.1)
    | some (j, want) => wb (lift (wantedV all st.fr j want)) fun b => wb (cond (1000 + site o) b) fun b => match b with
      | true => wb (wop C vb f o st) fun q => wops C vb f all r (put q.2 o.dst q.1)
      | false => wops C vb f all r (put st o.dst (.tup []))

def wkind (C : Cx) (f : FuncId) (o : Oper) (st : St) : W Kd := match o.op with
  | .load t a => if (C.tr f).contains (o.dst.getD 0) then wf else match st.peek a with
    | .ptr id off => match st.h[id]?, sizeT C.P t with
      | some (.cells cs _), some n => wb (cond (5000 + site o) (((cs.drop off).take n).any isLin1)) fun b => wp (match b with | true => .any | false => .rd id)
      | _, _ => wf
    | .iptr .. => wp .none
    | _ => wf
  | _ => wp (kindV C f o st)

def wdraw (C : Cx) (vb : FuncId → List V → List Blk → Option FOut) (f : FuncId) (un : List Nat) (h0 : Nat) (ops : List Oper) : List Nat → List (Nat × Kd) → St → W St
  | [], _, st => wp st
  | i :: r, acc, st => match ops[i]? with
    | none => wf
    | some o => if !involved un i || decide (h0 ≤ st.h.length) then
      wb (lift (guardV ops o st)) fun b => wb (cond (1000 + site o) b) fun b => match b with
      | true => if involved un i then wb (wkind C f o st) fun kd =>
            if nonlin o st && notAny kd && acc.all fun p => !unAt un p.1 i || compatK h0 p.2 kd then
              wb (wop C vb f o st) fun q => wdraw C vb f un h0 ops r ((i, kd) :: acc) (put q.2 o.dst q.1)
            else wf
          else wb (wop C vb f o st) fun q => wdraw C vb f un h0 ops r acc (put q.2 o.dst q.1)
      | false => wdraw C vb f un h0 ops r acc (put st o.dst (.tup []))
      else wf

/-- The first region of a loop: its place. -/
def firstReg : Code → Nat
  | .region id _ _ => id
  | .seq a _ => firstReg a
  | .block _ a => firstReg a
  | .loop a => firstReg a
  | _ => 9999

/-- The code of a function: 'n': rounds and nesting. -/
def wexec (C : Cx) (vb : FuncId → List V → List Blk → Option FOut) (f : FuncId) : Nat → Code → St → W (Ex × St)
  | 0, _, _ => wf
  | n + 1, c, st =>
    match c with
    | .skip | .label _ => wp (.normal, st)
    | .region _ ops false => wb (wops C vb f ops.toList ops.toList st) fun st => wp (.normal, st)
    | .region id ops true => match C.un f id with
      | some un => wb (wdraw C vb f un st.h.length ops.toList (List.range ops.size) [] st) fun st => wp (.normal, st)
      | none => wf
    | .seq a b => wb (wexec C vb f n a st) fun q => match q.1 with
      | .normal => wexec C vb f n b q.2
      | e => wp (e, q.2)
    | .cond x a b => match st.peek x with
      | .bool t => wb (cond (2000 + (match x with | .tmp t => t | _ => 0)) t) fun t => match t with
        | true => wexec C vb f n a st
        | false => wexec C vb f n b st
      | _ => wf
    | .block id b => wb (wexec C vb f n b st) fun q => match q.1 with
      | .exit i => if i = id then wp (.normal, q.2) else wp (.exit i, q.2)
      | e => wp (e, q.2)
    | .loop b => fun ds => match ds with
      | .loop s e st' :: r => match s == firstReg b with
        | true => some ((e, st'), r, [∀ K, vexec C vb f (n + 1) (.loop b) st K = K e st'])
        | false => (wb (wexec C vb f n b st) fun q => match q.1 with
          | .normal => wexec C vb f n (.loop b) q.2
          | e => wp (e, q.2)) ds
      | ds => (wb (wexec C vb f n b st) fun q => match q.1 with
          | .normal => wexec C vb f n (.loop b) q.2
          | e => wp (e, q.2)) ds
    | .exit id => wp (.exit id, st)
    | .ret => wp (.ret, st)
    | _ => wf
end Go.Fw
