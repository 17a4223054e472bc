/- Regions whose order is drawn (1): what an operation depends on. -/
import Derived.Test.YtcobacfinalleaaFwSound
set_option linter.all false
namespace Go.Fw
open Go.RowKit

def vopc (C : Cx) (vb : FuncId → List V → List Blk → Option FOut) (f : FuncId) (o : Oper) (st : St) : Option (V × St) := vop C vb f o st (fun v s => some (v, s)) (fun _ _ => none)

def eff (K : Kd) (b : Blk) (st : St) : St := match K with
  | .wr id => { st with h := st.h.set id b }
  | .al => { st with h := st.h ++ [b] }
  | _ => st
def HC (K : Kd) (st st2 : St) : Prop := match K with
  | .none => True
  | .rd id | .wr id => st2.h[id]? = st.h[id]?
  | .al => st2.h.length = st.h.length
  | .any => False
structure SameOn (o : Oper) (st st2 : St) : Prop where
  peek : ∀ x ∈ o.op.operands.toList, st2.peek x = st.peek x
  dst : ∀ d, o.dst = some d → getS st2.fr d = getS st.fr d
theorem SameOn.refl (o : Oper) (st : St) : SameOn o st st := ⟨fun _ _ => rfl, fun _ _ => rfl⟩

theorem use_id {st : St} {x : Operand} (h : isLin3 (st.peek x) = false) : st.useS x = st ∧ st.takeS x = st ∧ st.useV x = st.peek x := by
  refine ⟨?_, ?_, map3_of (fun _ h => demote1_of h) h⟩
  · cases x with
    | tmp t => unfold St.useS; dsimp only; rw [show isLin3 (getS st.fr t) = false from h, condB_false]
    | _ => rfl
  · cases x with
    | tmp t => unfold St.takeS; dsimp only; rw [show isLin3 (getS st.fr t) = false from h, condB_false]
    | _ => rfl

theorem useAll_id {st : St} : ∀ {xs : List Operand}, (∀ x ∈ xs, isLin3 (st.peek x) = false) → st.useAll xs = st
  | [], _ => rfl
  | x :: xs, h => by
    unfold St.useAll
    rw [(use_id (h x (by simp))).1]
    exact useAll_id (fun y hy => h y (by simp [hy]))

theorem map_condB {α β : Type} {f : α → β} {b : Bool} {x y : Option α} : Option.map f (condB b x y) = condB b (Option.map f x) (Option.map f y) := by
  cases b
  · rw [condB_false, condB_false]
  · rw [condB_true, condB_true]
theorem map_bindO {α β γ : Type} {f : β → γ} {o : Option α} {k : α → Option β} : Option.map f (bindO o k) = bindO o fun a => Option.map f (k a) := by
  cases o
  · rw [bindO_none, bindO_none]; rfl
  · rw [bindO_some, bindO_some]

section
variable {C : Cx} {vb : FuncId → List V → List Blk → Option FOut} {f : FuncId} {o : Oper} {st : St}

/-- A state that looks to the operation as this one does. -/
def Like (o : Oper) (st st' : St) : Prop := SameOn o st st' ∧ ∀ x ∈ o.op.operands.toList, isLin3 (st.peek x) = false
theorem Like.peek {st' : St} (h : Like o st st') {x : Operand} (hx : x ∈ o.op.operands.toList) : st'.peek x = st.peek x ∧ st'.useS x = st' ∧ st'.takeS x = st' ∧ st'.useV x = st.peek x := by
  have e := h.1.peek x hx
  have := use_id (st := st') (x := x) (by rw [e]; exact h.2 x hx)
  exact ⟨e, this.1, this.2.1, this.2.2.trans e⟩

def vval (C : Cx) (vb : FuncId → List V → List Blk → Option FOut) (f : FuncId) (o : Oper) (st : St) : Option V := vop C vb f o st (fun v _ => some v) (fun _ _ => none)

theorem dep_move {x : Operand} (ho : o.op = .move x) {st' : St} (h : Like o st st') : vopc C vb f o st' = (vval C vb f o st).map (·, st') := by
  have hx := h.peek (x := x) (by simp [ho, Op.operands])
  have l : Like o st st := ⟨SameOn.refl o st, h.2⟩
  have hy := l.peek (x := x) (by simp [ho, Op.operands])
  have hd : map3 demote1 (st.peek x) = st.peek x := hy.2.2.2
  unfold vopc vval vop
  rw [ho]
  dsimp only
  rw [hx.1, hx.2.1, hx.2.2.1]
  cases o.dst with
  | none => rfl
  | some d =>
    dsimp only
    generalize st.peek x = v at hd
    cases v <;> first | rfl | (dsimp only; rw [hd]; split <;> rfl)
theorem dep_assign {x : Operand} (ho : o.op = .assign x) {st' : St} (h : Like o st st') : vopc C vb f o st' = (vval C vb f o st).map (·, st') := by
  have hx := h.peek (x := x) (by simp [ho, Op.operands])
  have l : Like o st st := ⟨SameOn.refl o st, h.2⟩
  have hy := l.peek (x := x) (by simp [ho, Op.operands])
  unfold vopc vval vop
  rw [ho]
  dsimp only
  rw [hx.1, hx.2.2.1]
  rfl
theorem dep_pick {c x y : Operand} (ho : o.op = .pick c x y) {st' : St} (h : Like o st st') : vopc C vb f o st' = (vval C vb f o st).map (·, st') := by
  have hc := h.peek (x := c) (by simp [ho, Op.operands])
  have hx := h.peek (x := x) (by simp [ho, Op.operands])
  have hy := h.peek (x := y) (by simp [ho, Op.operands])
  have l : Like o st st := ⟨SameOn.refl o st, h.2⟩
  have hx' := l.peek (x := x) (by simp [ho, Op.operands])
  have hy' := l.peek (x := y) (by simp [ho, Op.operands])
  unfold vopc vval vop
  rw [ho]
  dsimp only
  rw [hc.1, hx.2.1, hx.2.2.2, hy.2.1, hy.2.2.2, hx'.2.2.2, hy'.2.2.2]
  generalize st.peek c = v
  cases v <;> first | rfl | simp only [map_condB, Option.map_some]
theorem dep_nilCheck {x : Operand} (ho : o.op = .nilCheck x) {st' : St} (h : Like o st st') : vopc C vb f o st' = (vval C vb f o st).map (·, st') := by
  have hx := h.peek (x := x) (by simp [ho, Op.operands])
  unfold vopc vval vop
  rw [ho]
  dsimp only
  rw [hx.1]
  generalize st.peek x = v
  split <;> rfl
theorem dep_binOp {op : BinOp} {t t' : TypeId} {x y : Operand} (ho : o.op = .binOp op t x y t') {st' : St} (h : Like o st st') : vopc C vb f o st' = (vval C vb f o st).map (·, st') := by
  have hx := h.peek (x := x) (by simp [ho, Op.operands])
  have hy := h.peek (x := y) (by simp [ho, Op.operands])
  unfold vopc vval vop
  rw [ho]
  dsimp only
  rw [hx.1, hy.1]
  cases vbin C.P op t (st.peek x) (st.peek y) <;> rfl
theorem dep_unOp {op : UnOp} {t : TypeId} {x : Operand} (ho : o.op = .unOp op t x) {st' : St} (h : Like o st st') : vopc C vb f o st' = (vval C vb f o st).map (·, st') := by
  have hx := h.peek (x := x) (by simp [ho, Op.operands])
  unfold vopc vval vop
  rw [ho]
  dsimp only
  rw [hx.1]
  cases vun C.P op (st.peek x) <;> rfl
theorem dep_convert {s t : TypeId} {x : Operand} (ho : o.op = .convert s t x) {st' : St} (h : Like o st st') : vopc C vb f o st' = (vval C vb f o st).map (·, st') := by
  have hx := h.peek (x := x) (by simp [ho, Op.operands])
  unfold vopc vval vop
  rw [ho]
  dsimp only
  rw [hx.1]
  cases vconv C.P s t (st.peek x) <;> rfl

theorem map_useV {st' : St} {xs : List Operand} (h : ∀ x ∈ xs, st'.useV x = st.useV x) : xs.map st'.useV = xs.map st.useV := List.map_congr_left h

theorem dep_makeFunc {g : Fn} {x y : Array Operand} (ho : o.op = .makeFunc g x y) {st' : St} (h : Like o st st') : vopc C vb f o st' = (vval C vb f o st).map (·, st') := by
  have l : Like o st st := ⟨SameOn.refl o st, h.2⟩
  have hin : ∀ z ∈ x.toList ++ y.toList, z ∈ o.op.operands.toList := by intro z hz; simp only [ho, Op.operands, Array.toList_append]; exact hz
  have e1 : ∀ z ∈ x.toList ++ y.toList, st'.useV z = st.useV z := fun z hz => (h.peek (hin z hz)).2.2.2.trans (l.peek (hin z hz)).2.2.2.symm
  have e2 : st'.useAll (x.toList ++ y.toList) = st' := useAll_id (fun z hz => by rw [(h.peek (hin z hz)).1]; exact h.2 z (hin z hz))
  have e3 : st.useAll (x.toList ++ y.toList) = st := useAll_id (fun z hz => h.2 z (hin z hz))
  unfold vopc vval vop
  rw [ho]
  dsimp only
  rw [e2, map_useV (st := st) (fun z hz => e1 z (by simp [hz])), map_useV (st := st) (fun z hz => e1 z (by simp [hz]))]
  split <;> rfl
theorem dep_slice {t : TypeId} {x : Operand} {lo hi mx : Option Operand} (ho : o.op = .slice t x lo hi mx) {st' : St} (h : Like o st st') : vopc C vb f o st' = (vval C vb f o st).map (·, st') := by
  have l : Like o st st := ⟨SameOn.refl o st, h.2⟩
  have hx := h.peek (x := x) (by simp [ho, Op.operands])
  have hx' := l.peek (x := x) (by simp [ho, Op.operands])
  have e1 : lo.map st'.peek = lo.map st.peek := by
    cases lo with
    | none => rfl
    | some y => exact congrArg some (h.peek (x := y) (by simp [ho, Op.operands])).1
  have e2 : hi.map st'.peek = hi.map st.peek := by
    cases hi with
    | none => rfl
    | some y => exact congrArg some (h.peek (x := y) (by simp [ho, Op.operands])).1
  have e3 : mx.map st'.peek = mx.map st.peek := by
    cases mx with
    | none => rfl
    | some y => exact congrArg some (h.peek (x := y) (by simp [ho, Op.operands])).1
  unfold vopc vval vop
  rw [ho]
  dsimp only
  rw [e1, e2, e3, hx.1, hx.2.1]
  split
  · split
    · split
      · rfl
      · simp only [map_condB, Option.map_some, Option.map_none]
    · rfl
  split
  · split
    · split <;> simp only [map_condB, Option.map_some, Option.map_none]
    · rfl
  · rfl
theorem dep_fieldAddr {s : TypeId} {x : Operand} {j : Nat} (ho : o.op = .fieldAddr s x j) {st' : St} (h : Like o st st') : vopc C vb f o st' = (vval C vb f o st).map (·, st') := by
  have hx := h.peek (x := x) (by simp [ho, Op.operands])
  unfold vopc vval vop
  rw [ho]
  dsimp only
  rw [hx.1]
  split
  · split
    · split <;> rfl
    · rfl
  · rfl
theorem dep_field {s : TypeId} {x : Operand} {j : Nat} (ho : o.op = .field s x j) {st' : St} (h : Like o st st') : vopc C vb f o st' = (vval C vb f o st).map (·, st') := by
  have l : Like o st st := ⟨SameOn.refl o st, h.2⟩
  have hx := h.peek (x := x) (by simp [ho, Op.operands])
  have hx' := l.peek (x := x) (by simp [ho, Op.operands])
  unfold vopc vval vop
  rw [ho]
  dsimp only
  rw [hx.1, hx.2.1]
  split
  · split
    · split
      · split
        · split <;> rfl
        · rfl
      · rfl
    · rfl
  · rfl
theorem dep_indexAddr {t : TypeId} {x i : Operand} (ho : o.op = .indexAddr t x i) {st' : St} (h : Like o st st') : vopc C vb f o st' = (vval C vb f o st).map (·, st') := by
  have l : Like o st st := ⟨SameOn.refl o st, h.2⟩
  have hx := h.peek (x := x) (by simp [ho, Op.operands])
  have hx' := l.peek (x := x) (by simp [ho, Op.operands])
  have hi := h.peek (x := i) (by simp [ho, Op.operands])
  unfold vopc vval vop
  rw [ho]
  dsimp only
  rw [hx.1, hx.2.1, hi.1]
  split
  · split
    · split
      · rw [map_bindO]; rfl
      · rfl
    · split
      · rw [map_bindO]; rfl
      · rfl
    · split
      · rw [map_condB]; rfl
      · rfl
    · rfl
  · rfl
theorem dep_index {t : TypeId} {x i : Operand} (ho : o.op = .index t x i) {st' : St} (h : Like o st st') : vopc C vb f o st' = (vval C vb f o st).map (·, st') := by
  have hx := h.peek (x := x) (by simp [ho, Op.operands])
  have hi := h.peek (x := i) (by simp [ho, Op.operands])
  unfold vopc vval vop
  rw [ho]
  dsimp only
  rw [hx.1, hi.1]
  split
  · split
    · rw [map_bindO]; rfl
    · rfl
  · rfl

theorem call_args {c : Call} (ho : o.op = .call c) {x : Operand} (hx : x ∈ c.args.toList) : x ∈ o.op.operands.toList := by
  simp only [ho, Op.operands, Call.operands]
  cases c.callee <;> simp_all

theorem dep_len {c : Call} (ho : o.op = .call c) (hb : c.callee = .builtin .len) {st' : St} (h : Like o st st') : vopc C vb f o st' = (vval C vb f o st).map (·, st') := by
  unfold vopc vval vop
  rw [ho]
  dsimp only
  rw [hb]
  dsimp only
  split
  · rename_i x t hx ht
    have hx := h.peek (x := x) (call_args ho (by rw [hx]; simp))
    rw [hx.1]
    split
    · rfl
    · rfl
    · split <;> rfl
    · rfl
  · rfl

theorem dep_append {c : Call} (ho : o.op = .call c) (hb : c.callee = .builtin .append) (hk : kindV C f o st = .none) {st' : St} (h : Like o st st') : vopc C vb f o st' = (vval C vb f o st).map (·, st') := by
  have l : Like o st st := ⟨SameOn.refl o st, h.2⟩
  have hkk : ∃ d, o.dst = some d ∧ ∀ s x, c.args.toList = [s, x] → ∀ i j l r, st.peek s ≠ .own i j l r := by
    unfold kindV at hk
    rw [ho] at hk
    dsimp only at hk
    rw [hb] at hk
    dsimp only at hk
    split at hk
    · rename_i s r hs
      split at hk
      · cases hk
      · rename_i hno
        split at hk
        · rename_i hd
          obtain ⟨d, hd⟩ := Option.isSome_iff_exists.1 hd
          refine ⟨d, hd, fun s' x hsx i j l r e => ?_⟩
          rw [hsx] at hs
          injection hs with h1 h2
          subst h1
          exact hno i j l r e
        · cases hk
    · cases hk
  obtain ⟨d, hd, hno⟩ := hkk
  unfold vopc vval vop
  rw [ho]
  dsimp only
  rw [hb]
  dsimp only
  split
  · rename_i s x t tx hsx htt
    have hx := h.peek (x := x) (call_args ho (by rw [hsx]; simp))
    have hs := h.peek (x := s) (call_args ho (by rw [hsx]; simp))
    have hx' := l.peek (x := x) (call_args ho (by rw [hsx]; simp))
    have hs' := l.peek (x := s) (call_args ho (by rw [hsx]; simp))
    rw [hx.1, hx.2.1, hs.1, hs.2.2.1, hx'.2.1, hs'.2.2.1, hd]
    simp only [Option.getD_some]
    rw [h.1.dst d hd]
    split
    · split
      · rename_i hp
        exact absurd hp (hno s x hsx _ _ _ _)
      split
      · split
        · split
          · rw [map_condB]; rfl
          · rfl
        · rfl
      · rfl
    · rfl
  · rfl

theorem buildV_id {P : Program} {t : TypeId} {st' : St} : ∀ {parts : List (Nat × Operand)} {cs : List V}, (∀ p ∈ parts, st'.peek p.2 = st.peek p.2 ∧ st'.takeS p.2 = st' ∧ st.takeS p.2 = st) →
    (buildV P t st' cs parts = (buildV P t st cs parts).map fun q => (q.1, st')) ∧ ∀ q, buildV P t st cs parts = some q → q.2 = st
  | [], cs, _ => ⟨rfl, fun q h => by cases h; rfl⟩
  | (i, x) :: r, cs, h => by
    obtain ⟨h1, h2, h3⟩ := h (i, x) (by simp)
    dsimp only at h1 h2 h3
    unfold buildV
    rw [h1, h2, h3]
    cases fieldT P t i with
    | none => exact ⟨rfl, fun q h => by cases h⟩
    | some g =>
      dsimp only
      cases sizeT P g.type with
      | none => exact ⟨rfl, fun q h => by cases h⟩
      | some n =>
        dsimp only
        split
        · exact buildV_id (fun p hp => h p (by simp [hp]))
        · exact ⟨rfl, fun q h => by cases h⟩

theorem dep_build {t : TypeId} {parts : Array (Nat × Operand)} (ho : o.op = .build t parts) {st' : St} (h : Like o st st') : vopc C vb f o st' = (vval C vb f o st).map (·, st') := by
  have l : Like o st st := ⟨SameOn.refl o st, h.2⟩
  have hin : ∀ p ∈ parts.toList, p.2 ∈ o.op.operands.toList := by
    intro p hp
    simp only [ho, Op.operands]
    exact List.mem_map.2 ⟨p, hp, rfl⟩
  unfold vopc vval vop
  rw [ho]
  dsimp only
  split
  · rename_i zs hz
    split
    · have hb := buildV_id (P := C.P) (t := t) (st := st) (st' := st') (parts := parts.toList) (cs := zs) (fun p hp => ⟨(h.peek (hin p hp)).1, (h.peek (hin p hp)).2.2.1, (l.peek (hin p hp)).2.2.1⟩)
      rw [hb.1]
      cases buildV C.P t st zs parts.toList <;> rfl
    · rfl
  · rfl

theorem dep_bslice {t : TypeId} {m : Nat} {parts : Array (Nat × Operand)} (ho : o.op = .buildSlice t m parts) (hf : (parts.toList.map fun p => st.useV p.2).all flat2 = true) {st' : St} (h : Like o st st') : vopc C vb f o st' = (vval C vb f o st).map (·, st') := by
  have l : Like o st st := ⟨SameOn.refl o st, h.2⟩
  have hin : ∀ p ∈ parts.toList, p.2 ∈ o.op.operands.toList := by
    intro p hp
    simp only [ho, Op.operands]
    exact List.mem_map.2 ⟨p, hp, rfl⟩
  have e1 : (parts.toList.map fun p => st'.useV p.2) = parts.toList.map fun p => st.useV p.2 := List.map_congr_left fun p hp => (h.peek (hin p hp)).2.2.2.trans (l.peek (hin p hp)).2.2.2.symm
  have e2 : st'.useAll (parts.toList.map (·.2)) = st' := useAll_id (fun z hz => by
    obtain ⟨p, hp, rfl⟩ := List.mem_map.1 hz
    rw [(h.peek (hin p hp)).1]; exact h.2 _ (hin p hp))
  unfold vopc vval vop
  rw [ho]
  dsimp only
  split
  · split
    · split
      · rw [e1, e2]
        (repeat' split) <;> first | rfl | (rename_i hn; exact absurd hf hn) | contradiction
      · rfl
    · rfl
  · rfl
theorem dep_make {t : TypeId} {x y : Operand} (ho : o.op = .makeSlice t x y) (hk : kindV C f o st = .none) {st' : St} (h : Like o st st') : vopc C vb f o st' = (vval C vb f o st).map (·, st') := by
  have hx := h.peek (x := x) (by simp [ho, Op.operands])
  have hy := h.peek (x := y) (by simp [ho, Op.operands])
  unfold kindV at hk
  rw [ho] at hk
  dsimp only at hk
  split at hk
  · cases hk
  · rename_i hth
    unfold vopc vval vop
    rw [ho]
    dsimp only
    rw [hx.1, hy.1]
    split
    · rename_i e he
      rw [he] at hk
      simp only [Option.bind_some] at hk
      split
      · rename_i sz by_ z k1 n k2 m hsz hby hz _ _
        rw [hz] at hk
        dsimp only at hk
        split at hk
        · rename_i hfl
          rw [map_condB]
          congr 1
          rw [if_pos ⟨hfl, by simpa using hth⟩, if_pos ⟨hfl, by simpa using hth⟩, map_condB]
          rfl
        · cases hk
      · rfl
    · rfl
theorem call_fn {c : Call} {g : Operand} (ho : o.op = .call c) (hb : c.callee = .value g) : g ∈ o.op.operands.toList := by
  simp [ho, Op.operands, Call.operands, hb]
theorem dep_call {c : Call} {g : Operand} (ho : o.op = .call c) (hb : c.callee = .value g) (hk : kindV C f o st = .none) {st' : St} (h : Like o st st') : vopc C vb f o st' = (vval C vb f o st).map (·, st') := by
  have l : Like o st st := ⟨SameOn.refl o st, h.2⟩
  have hg := h.peek (x := g) (call_fn ho hb)
  have e1 : c.args.toList.map st'.useV = c.args.toList.map st.useV := map_useV (fun z hz => (h.peek (call_args ho hz)).2.2.2.trans (l.peek (call_args ho hz)).2.2.2.symm)
  have e2 : st'.useAll c.args.toList = st' := useAll_id (fun z hz => by rw [(h.peek (call_args ho hz)).1]; exact h.2 _ (call_args ho hz))
  unfold kindV at hk
  rw [ho] at hk
  dsimp only at hk
  rw [hb] at hk
  dsimp only at hk
  unfold vopc vval vop
  rw [ho]
  dsimp only
  rw [hb]
  dsimp only
  rw [hg.1]
  split
  · rename_i gf first caps hgp
    rw [hgp] at hk
    dsimp only at hk
    rcases condB_cases hk with ⟨hfl, hk⟩ | ⟨_, hk⟩
    · rw [e1, e2, if_pos hfl, if_pos hfl, map_bindO]
      congr 1
      funext r
      cases r with
      | ret v hh =>
        dsimp only
        cases hd : o.dst with
        | none => rfl
        | some d =>
          rw [hd] at hk
          dsimp only at hk ⊢
          split at hk
          · cases hk
          · rename_i hth
            rw [if_neg hth, if_neg hth]
            rfl
      | pan v hh => rfl
    · cases hk
  · rfl
end
end Go.Fw
