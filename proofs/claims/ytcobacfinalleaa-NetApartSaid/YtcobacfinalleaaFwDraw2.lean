/- Regions whose order is drawn (2): the normal form of an operation; two that change places. -/
import Derived.Test.YtcobacfinalleaaFwDraw
set_option linter.all false
namespace Go.Fw
open Go.RowKit

section
variable {C : Cx} {vb : FuncId → List V → List Blk → Option FOut} {f : FuncId} {o : Oper} {st : St}

theorem dep_extract {x : Operand} {i : Nat} (ho : o.op = .extract x i) {st' : St} (h : Like o st st') : vopc C vb f o st' = (vval C vb f o st).map (·, st') := by
  have hx := h.peek (x := x) (by simp [ho, Op.operands])
  have hn := h.2 x (by simp [ho, Op.operands])
  unfold vopc vval vop
  rw [ho]
  dsimp only
  cases x with
  | tmp t =>
    have e : getS st'.fr t = getS st.fr t := hx.1
    have hn : isLin3 (getS st.fr t) = false := hn
    dsimp only
    rw [e]
    split
    · rename_i vs hvs
      split
      · rename_i v hv
        have hd : map2 drop1 v = v := by
          apply map2_of (fun _ h => drop1_of h)
          rw [hvs] at hn
          simp only [isLin3] at hn
          rw [List.any_eq_false] at hn
          exact Bool.eq_false_iff.2 (hn v (List.mem_of_getElem? hv))
        have h1 : vs.set i v = vs := by
          obtain ⟨hlt, rfl⟩ := List.getElem?_eq_some_iff.1 hv
          exact List.set_getElem_self hlt
        have h2 : st'.fr.set t (V.tup vs) = st'.fr := by
          by_cases ht : t < st'.fr.length
          · have : V.tup vs = st'.fr[t] := by rw [← hvs, ← e, getS_eq (List.getElem?_eq_getElem ht)]
            rw [this]
            exact List.set_getElem_self ht
          · exact List.set_eq_of_length_le (Nat.le_of_not_lt ht)
        rw [hd, h1, h2]
        rfl
      · rfl
    · rfl
  | _ => rfl

theorem dep_loadI {t : TypeId} {x : Operand} (ho : o.op = .load t x) (hk : kindV C f o st = .none) {st' : St} (h : Like o st st') : vopc C vb f o st' = (vval C vb f o st).map (·, st') := by
  have hx := h.peek (x := x) (by simp [ho, Op.operands])
  unfold kindV at hk
  rw [ho] at hk
  dsimp only at hk
  split at hk
  · cases hk
  · split at hk
    · split at hk
      · rcases condB_cases hk with ⟨_, hk⟩ | ⟨_, hk⟩ <;> cases hk
      · cases hk
    · rename_i e off hp
      unfold vopc vval vop
      rw [ho]
      dsimp only
      rw [hx.1, hp]
      split
      · dsimp only
        split
        · split <;> rfl
        · rfl
      · rfl
    · cases hk

theorem like_of (hl : nonlin o st = true) {st' : St} (h : SameOn o st st') : Like o st st' := by
  refine ⟨h, fun x hx => ?_⟩
  unfold nonlin at hl
  rw [List.all_eq_true] at hl
  simpa using hl x hx
theorem nonlin_like {st' : St} (h : Like o st st') : nonlin o st' = true := by
  unfold nonlin
  rw [List.all_eq_true]
  intro x hx
  rw [(h.peek hx).1, h.2 x hx]
  rfl

theorem kind_like {st' : St} (h : Like o st st') (hc : HC (kindV C f o st) st st') : kindV C f o st' = kindV C f o st := by
  have l : Like o st st := ⟨SameOn.refl o st, h.2⟩
  cases ho : o.op with
  | load t x =>
    have hx := h.peek (x := x) (by simp [ho, Op.operands])
    unfold kindV at hc ⊢
    rw [ho] at hc ⊢
    dsimp only at hc ⊢
    rw [hx.1]
    split
    · rfl
    · rename_i htr
      rw [if_neg htr] at hc
      split
      · rename_i id off hp
        rw [hp] at hc
        dsimp only at hc
        split at hc
        · rename_i cs e n hcs hsz
          cases hb : ((cs.drop off).take n).any isLin1 with
          | true => rw [hb, condB_true] at hc; exact hc.elim
          | false =>
            rw [hb, condB_false] at hc
            have hc : st'.h[id]? = st.h[id]? := hc
            rw [hc, hcs, hsz]
            dsimp only
            rw [hb]
        · exact hc.elim
      · rfl
      · rfl
  | store t a x =>
    have hx := h.peek (x := a) (by simp [ho, Op.operands])
    unfold kindV
    rw [ho]
    dsimp only
    rw [hx.1]
  | buildSlice t m parts =>
    have hin : ∀ p ∈ parts.toList, p.2 ∈ o.op.operands.toList := by
      intro p hp
      simp only [ho, Op.operands]
      exact List.mem_map.2 ⟨p, hp, rfl⟩
    have e1 : (parts.toList.map fun p => st'.useV p.2) = parts.toList.map fun p => st.useV p.2 := List.map_congr_left fun p hp => (h.peek (hin p hp)).2.2.2.trans (l.peek (hin p hp)).2.2.2.symm
    unfold kindV
    rw [ho]
    dsimp only
    rw [e1]
  | call c =>
    unfold kindV
    rw [ho]
    dsimp only
    cases hb : c.callee with
    | value g =>
      have hg := h.peek (x := g) (call_fn ho hb)
      have e1 : c.args.toList.map st'.useV = c.args.toList.map st.useV := map_useV (fun z hz => (h.peek (call_args ho hz)).2.2.2.trans (l.peek (call_args ho hz)).2.2.2.symm)
      dsimp only
      rw [hg.1, e1]
    | builtin b =>
      cases b
      case append =>
        dsimp only
        cases hargs : c.args.toList with
        | nil => rfl
        | cons s r =>
          dsimp only
          rw [(h.peek (call_args ho (by rw [hargs]; simp))).1]
      all_goals rfl
    | invoke r m => rfl
  | _ => unfold kindV; rw [ho]

theorem nf_none {v : V} {s : St} (hk : kindV C f o st = .none) (hl : nonlin o st = true) (h : vopc C vb f o st = some (v, s)) (dep : ∀ st', Like o st st' → vopc C vb f o st' = (vval C vb f o st).map (·, st')) :
    ∃ b, s = eff (kindV C f o st) b st ∧ ∀ st2, SameOn o st st2 → HC (kindV C f o st) st st2 → vopc C vb f o st2 = some (v, eff (kindV C f o st) b st2) := by
  rw [hk]
  rw [dep st (like_of hl (SameOn.refl o st))] at h
  obtain ⟨v', hv, e⟩ := Option.map_eq_some_iff.1 h
  cases e
  refine ⟨.dead, rfl, fun st2 hs _ => ?_⟩
  rw [dep st2 (like_of hl hs), hv]
  rfl

theorem nf_load {t : TypeId} {x : Operand} (ho : o.op = .load t x) {v : V} {s : St} {id : Nat} (hk : kindV C f o st = .rd id) (hl : nonlin o st = true) (h : vopc C vb f o st = some (v, s)) :
    ∃ b, s = eff (kindV C f o st) b st ∧ ∀ st2, SameOn o st st2 → HC (kindV C f o st) st st2 → vopc C vb f o st2 = some (v, eff (kindV C f o st) b st2) := by
  rw [hk]
  refine ⟨.dead, ?_⟩
  have hx0 := (like_of hl (SameOn.refl o st)).peek (x := x) (by simp [ho, Op.operands])
  unfold kindV at hk
  rw [ho] at hk
  dsimp only at hk
  split at hk
  · cases hk
  · rename_i htr
    split at hk
    · rename_i id' off hp
      split at hk
      · rename_i cs e n hcs hsz
        rcases condB_cases hk with ⟨_, hk⟩ | ⟨hnl, hk⟩
        · cases hk
        · cases hk
          have hdm : ((cs.drop off).take n).map demote1 = (cs.drop off).take n := map_of (fun _ h => demote1_of h) hnl
          have comp : ∀ st2 : St, st2.peek x = .ptr id off → st2.h[id]? = some (.cells cs e) → vopc C vb f o st2 = (vopc C vb f o st).map fun q => (q.1, st2) := by
            intro st2 h1 h2
            unfold vopc vop
            rw [ho]
            dsimp only
            rw [h1, hp, hsz]
            split
            · rename_i g n' hg hn
              cases hn
              dsimp only
              rw [h2, hcs]
              dsimp only
              split
              · cases hd : o.dst with
                | none => rfl
                | some d =>
                  dsimp only
                  rw [hd] at htr
                  simp only [Option.getD_some] at htr
                  rw [if_neg htr, if_neg htr, hdm, hnl]
                  simp only [condB_false]
                  split <;> rfl
              · rfl
            · rfl
          have h0 := comp st hp hcs
          rw [h] at h0
          simp only [Option.map_some, Option.some.injEq, Prod.mk.injEq, true_and] at h0
          refine ⟨h0, fun st2 hs hc => ?_⟩
          have hc : st2.h[id]? = st.h[id]? := hc
          rw [comp st2 ((hs.peek x (by simp [ho, Op.operands])).trans hp) (hc.trans hcs), h]
          rfl
      · cases hk
    · cases hk
    · cases hk

theorem nf_store {t : TypeId} {p x : Operand} (ho : o.op = .store t p x) {v : V} {s : St} (hk : kindV C f o st ≠ .any) (hl : nonlin o st = true) (h : vopc C vb f o st = some (v, s)) :
    ∃ b, s = eff (kindV C f o st) b st ∧ ∀ st2, SameOn o st st2 → HC (kindV C f o st) st st2 → vopc C vb f o st2 = some (v, eff (kindV C f o st) b st2) := by
  have hkk : kindV C f o st = match st.peek p with | .ptr id _ => .wr id | _ => .any := by unfold kindV; rw [ho]; rfl
  have hx0 := (like_of hl (SameOn.refl o st)).peek (x := x) (by simp [ho, Op.operands])
  have h' := h
  unfold vopc vop at h
  rw [ho] at h
  dsimp only at h
  split at h
  · rename_i n hn
    split at h
    · rename_i id off hp
      rw [hp] at hkk
      dsimp only at hkk
      rw [hkk]
      split at h
      · rename_i cs e hcs
        split at h
        · rename_i hcond
          simp only [Option.some.injEq, Prod.mk.injEq] at h
          obtain ⟨rfl, rfl⟩ := h
          refine ⟨.cells (setAt cs off (st.peek x).cells) e, by rw [hx0.2.2.1]; rfl, fun st2 hs hc => ?_⟩
          have hc : st2.h[id]? = st.h[id]? := hc
          have hx2 := (like_of hl hs).peek (x := x) (by simp [ho, Op.operands])
          have hp2 := (like_of hl hs).peek (x := p) (by simp [ho, Op.operands])
          unfold vopc vop
          rw [ho]
          dsimp only
          rw [hn]
          dsimp only
          rw [hp2.1, hp]
          dsimp only
          rw [hc, hcs]
          dsimp only
          rw [hx2.1, if_pos hcond, hx2.2.2.1]
          rfl
        · cases h
      · cases h
    · cases h
  · cases h

theorem nf_alloc {t : TypeId} (ho : o.op = .alloc t) {v : V} {s : St} (h : vopc C vb f o st = some (v, s)) :
    ∃ b, s = eff (kindV C f o st) b st ∧ ∀ st2, SameOn o st st2 → HC (kindV C f o st) st st2 → vopc C vb f o st2 = some (v, eff (kindV C f o st) b st2) := by
  have hk : kindV C f o st = .al := by unfold kindV; rw [ho]
  rw [hk]
  unfold vopc vop at h ⊢
  rw [ho] at h ⊢
  dsimp only at h ⊢
  split at h
  · rename_i z hz
    split at h
    · rename_i hz2
      simp only [Option.some.injEq, Prod.mk.injEq] at h
      obtain ⟨rfl, rfl⟩ := h
      refine ⟨_, rfl, fun st2 hs hc => ?_⟩
      have hc : st2.h.length = st.h.length := hc
      rw [if_pos hz2, hc]
      rfl
    · cases h
  · cases h
theorem nf_box {t : TypeId} {x : Operand} (ho : o.op = .box t x) {v : V} {s : St} (hl : nonlin o st = true) (h : vopc C vb f o st = some (v, s)) :
    ∃ b, s = eff (kindV C f o st) b st ∧ ∀ st2, SameOn o st st2 → HC (kindV C f o st) st st2 → vopc C vb f o st2 = some (v, eff (kindV C f o st) b st2) := by
  have hk : kindV C f o st = .al := by unfold kindV; rw [ho]
  have hx0 := (like_of hl (SameOn.refl o st)).peek (x := x) (by simp [ho, Op.operands])
  rw [hk]
  unfold vopc vop at h ⊢
  rw [ho] at h ⊢
  dsimp only at h ⊢
  rw [hx0.2.2.1] at h
  split at h
  · rename_i hz2
    simp only [Option.some.injEq, Prod.mk.injEq] at h
    obtain ⟨rfl, rfl⟩ := h
    refine ⟨_, rfl, fun st2 hs hc => ?_⟩
    have hx2 := (like_of hl hs).peek (x := x) (by simp [ho, Op.operands])
    have hc : st2.h.length = st.h.length := hc
    rw [hx2.1, if_pos hz2, hx2.2.2.1, hc]
    rfl
  · cases h
theorem nf_bslice {t : TypeId} {m : Nat} {parts : Array (Nat × Operand)} (ho : o.op = .buildSlice t m parts) {v : V} {s : St} (hl : nonlin o st = true) (h : vopc C vb f o st = some (v, s)) :
    ∃ b, s = eff (kindV C f o st) b st ∧ ∀ st2, SameOn o st st2 → HC (kindV C f o st) st st2 → vopc C vb f o st2 = some (v, eff (kindV C f o st) b st2) := by
  have hkk : kindV C f o st = condB ((parts.toList.map fun p => st.useV p.2).all flat2) .none .al := by unfold kindV; rw [ho]
  cases hf : (parts.toList.map fun p => st.useV p.2).all flat2 with
  | true =>
    rw [hf, condB_true] at hkk
    exact nf_none hkk hl h (fun st' hlk => dep_bslice ho hf hlk)
  | false =>
    rw [hf, condB_false] at hkk
    rw [hkk]
    have hin : ∀ p ∈ parts.toList, p.2 ∈ o.op.operands.toList := by
      intro p hp
      simp only [ho, Op.operands]
      exact List.mem_map.2 ⟨p, hp, rfl⟩
    have l0 := like_of hl (SameOn.refl o st)
    have e2 : ∀ st', Like o st st' → st'.useAll (parts.toList.map (·.2)) = st' := fun st' h => useAll_id (fun z hz => by
      obtain ⟨p, hp, rfl⟩ := List.mem_map.1 hz
      rw [(h.peek (hin p hp)).1]; exact h.2 _ (hin p hp))
    unfold vopc vop at h ⊢
    rw [ho] at h ⊢
    dsimp only at h ⊢
    split at h
    · split at h
      · split at h
        · rename_i hc1
          split at h
          · rename_i hc2
            rw [e2 st l0] at h
            split at h
            · rename_i hc3; rw [hf] at hc3; cases hc3
            · rename_i hc3
              simp only [Option.some.injEq, Prod.mk.injEq] at h
              obtain ⟨rfl, rfl⟩ := h
              refine ⟨_, rfl, fun st2 hs hc => ?_⟩
              have hc : st2.h.length = st.h.length := hc
              have h := like_of hl hs
              have e1 : (parts.toList.map fun p => st2.useV p.2) = parts.toList.map fun p => st.useV p.2 := List.map_congr_left fun p hp => (h.peek (hin p hp)).2.2.2.trans (l0.peek (hin p hp)).2.2.2.symm
              rw [if_pos hc1, e1, if_pos hc2, if_neg hc3, e2 st2 h, hc]
              rfl
          · cases h
        · cases h
      · cases h
    · cases h
theorem nf_make {t : TypeId} {x y : Operand} (ho : o.op = .makeSlice t x y) {v : V} {s : St} (hk : kindV C f o st ≠ .any) (hl : nonlin o st = true) (h : vopc C vb f o st = some (v, s)) :
    ∃ b, s = eff (kindV C f o st) b st ∧ ∀ st2, SameOn o st st2 → HC (kindV C f o st) st st2 → vopc C vb f o st2 = some (v, eff (kindV C f o st) b st2) := by
  by_cases hn : kindV C f o st = .none
  · exact nf_none hn hl h (fun st' hlk => dep_make ho hn hlk)
  · have hkk : kindV C f o st = .al ∧ ∀ z, (elemT C.P t).bind (zeroT C.P) = some z → ¬ (flat2 z = true ∧ (!((C.thaw f).contains (o.dst.getD 0))) = true) := by
      unfold kindV at hn hk ⊢
      rw [ho] at hn hk ⊢
      dsimp only at hn hk ⊢
      split at hn
      · rename_i hth
        rw [if_pos hth]
        exact ⟨rfl, fun z _ hh => by rw [hth] at hh; simp at hh⟩
      · rename_i hth
        rw [if_neg hth] at hk ⊢
        split at hn
        · rename_i z hz
          rw [hz] at hk ⊢
          dsimp only at hk ⊢
          split at hn
          · exact absurd rfl hn
          · rename_i hfl
            rw [if_neg hfl] at hk ⊢
            exact ⟨rfl, fun z' hz' hh => by cases hz'; exact hfl hh.1⟩
        · rename_i hz
          rw [hz] at hk
          exact absurd rfl hk
    obtain ⟨hkk, hnf⟩ := hkk
    rw [hkk]
    have hx0 := (like_of hl (SameOn.refl o st)).peek (x := x) (by simp [ho, Op.operands])
    unfold vopc vop at h ⊢
    rw [ho] at h ⊢
    dsimp only at h ⊢
    split at h
    · rename_i e he
      split at h
      · rename_i sz by_ z k1 n k2 m hsz hby hz hpx hpy
        rcases condB_cases h with ⟨hcond, h⟩ | ⟨_, h⟩
        · have hnf := hnf z (by rw [he]; exact hz)
          rw [if_neg hnf] at h
          simp only [Option.some.injEq, Prod.mk.injEq] at h
          obtain ⟨rfl, rfl⟩ := h
          refine ⟨_, rfl, fun st2 hs hc => ?_⟩
          have hc : st2.h.length = st.h.length := hc
          have hx2 := (like_of hl hs).peek (x := x) (by simp [ho, Op.operands])
          have hy2 := (like_of hl hs).peek (x := y) (by simp [ho, Op.operands])
          rw [hsz, hby, hz, hx2.1, hy2.1, hpx, hpy]
          dsimp only
          rw [hcond, condB_true, if_neg hnf, hc]
          rfl
        · cases h
      · cases h
    · cases h
theorem nf_call {c : Call} {g : Operand} (ho : o.op = .call c) (hb : c.callee = .value g) {v : V} {s : St} (hk : kindV C f o st ≠ .any) (hl : nonlin o st = true) (h : vopc C vb f o st = some (v, s)) :
    ∃ b, s = eff (kindV C f o st) b st ∧ ∀ st2, SameOn o st st2 → HC (kindV C f o st) st st2 → vopc C vb f o st2 = some (v, eff (kindV C f o st) b st2) := by
  by_cases hn : kindV C f o st = .none
  · exact nf_none hn hl h (fun st' hlk => dep_call ho hb hn hlk)
  · have l0 := like_of hl (SameOn.refl o st)
    have e2 : ∀ st', Like o st st' → st'.useAll c.args.toList = st' := fun st' h => useAll_id (fun z hz => by rw [(h.peek (call_args ho hz)).1]; exact h.2 _ (call_args ho hz))
    have hkk : ∃ gf first caps d, st.peek g = .fn (.func gf) first caps ∧ ((first ++ c.args.toList.map st.useV ++ caps).all flat2) = true ∧ o.dst = some d ∧ (C.thaw f).contains d = true ∧ kindV C f o st = .al := by
      cases hkd : kindV C f o st with
      | none => exact absurd hkd hn
      | any => exact absurd hkd hk
      | rd id =>
        exfalso
        unfold kindV at hkd; rw [ho] at hkd; dsimp only at hkd; rw [hb] at hkd; dsimp only at hkd
        split at hkd
        · rcases condB_cases hkd with ⟨_, hkd⟩ | ⟨_, hkd⟩
          · split at hkd
            · split at hkd <;> cases hkd
            · cases hkd
          · cases hkd
        · cases hkd
      | wr id =>
        exfalso
        unfold kindV at hkd; rw [ho] at hkd; dsimp only at hkd; rw [hb] at hkd; dsimp only at hkd
        split at hkd
        · rcases condB_cases hkd with ⟨_, hkd⟩ | ⟨_, hkd⟩
          · split at hkd
            · split at hkd <;> cases hkd
            · cases hkd
          · cases hkd
        · cases hkd
      | al =>
        unfold kindV at hkd; rw [ho] at hkd; dsimp only at hkd; rw [hb] at hkd; dsimp only at hkd
        split at hkd
        · rename_i gf first caps hg
          rcases condB_cases hkd with ⟨hfl, hkd⟩ | ⟨_, hkd⟩
          · split at hkd
            · rename_i d hd
              split at hkd
              · rename_i hth
                exact ⟨gf, first, caps, d, hg, hfl, hd, hth, rfl⟩
              · cases hkd
            · cases hkd
          · cases hkd
        · cases hkd
    obtain ⟨gf, first, caps, d, hg, hfl, hd, hth', hkk⟩ := hkk
    rw [hkk]
    unfold vopc vop at h ⊢
    rw [ho] at h ⊢
    dsimp only at h ⊢
    rw [hb] at h ⊢
    dsimp only at h ⊢
    rw [hg] at h
    dsimp only at h
    rw [if_pos hfl] at h
    obtain ⟨r, hr, h⟩ := bindO_eq h
    cases r with
    | pan v hh => cases h
    | ret v' hh =>
      dsimp only at h
      rw [hd] at h
      dsimp only at h
      rw [if_pos hth', e2 st l0] at h
      split at h
      · rename_i v2 h2 hth2
        rcases condB_cases h with ⟨_, h⟩ | ⟨hfree, h⟩
        · cases h
        · simp only [Option.some.injEq, Prod.mk.injEq] at h
          obtain ⟨rfl, rfl⟩ := h
          unfold thaw1 at hth2
          split at hth2
          · rename_i e' n' xs
            split at hth2
            · rename_i hty
              simp only [Option.some.injEq, Prod.mk.injEq] at hth2
              obtain ⟨rfl, rfl⟩ := hth2
              refine ⟨_, rfl, fun st2 hs hc => ?_⟩
              have hc : st2.h.length = st.h.length := hc
              have l2 := like_of hl hs
              have hg2 := (l2.peek (call_fn ho hb)).1
              have e1 : c.args.toList.map st2.useV = c.args.toList.map st.useV := map_useV (fun z hz => (l2.peek (call_args ho hz)).2.2.2.trans (l0.peek (call_args ho hz)).2.2.2.symm)
              rw [hg2, hg]
              dsimp only
              rw [e1, if_pos hfl, hr, bindO_some]
              dsimp only
              rw [hd]
              dsimp only
              rw [if_pos hth', e2 st2 l2]
              unfold thaw1
              dsimp only
              rw [if_pos hty]
              dsimp only
              rw [hs.dst d hd, hfree, condB_false, hc]
              rfl
            · cases hth2
          · cases hth2
      · cases h

/-- The normal form. -/
theorem nf {v : V} {s : St} (hk : kindV C f o st ≠ .any) (hl : nonlin o st = true) (h : vopc C vb f o st = some (v, s)) :
    ∃ b, s = eff (kindV C f o st) b st ∧ ∀ st2, SameOn o st st2 → HC (kindV C f o st) st st2 → vopc C vb f o st2 = some (v, eff (kindV C f o st) b st2) := by
  have kn : ∀ {K : Kd}, kindV C f o st = K → K = .none → kindV C f o st = .none := fun h e => h.trans e
  cases ho : o.op with
  | move x => exact nf_none (by unfold kindV; rw [ho]) hl h (fun _ hlk => dep_move ho hlk)
  | assign x => exact nf_none (by unfold kindV; rw [ho]) hl h (fun _ hlk => dep_assign ho hlk)
  | pick c x y => exact nf_none (by unfold kindV; rw [ho]) hl h (fun _ hlk => dep_pick ho hlk)
  | nilCheck x => exact nf_none (by unfold kindV; rw [ho]) hl h (fun _ hlk => dep_nilCheck ho hlk)
  | binOp op t x y t' => exact nf_none (by unfold kindV; rw [ho]) hl h (fun _ hlk => dep_binOp ho hlk)
  | unOp op t x => exact nf_none (by unfold kindV; rw [ho]) hl h (fun _ hlk => dep_unOp ho hlk)
  | convert s t x => exact nf_none (by unfold kindV; rw [ho]) hl h (fun _ hlk => dep_convert ho hlk)
  | makeFunc g x y => exact nf_none (by unfold kindV; rw [ho]) hl h (fun _ hlk => dep_makeFunc ho hlk)
  | slice t x l m c => exact nf_none (by unfold kindV; rw [ho]) hl h (fun _ hlk => dep_slice ho hlk)
  | fieldAddr s x j => exact nf_none (by unfold kindV; rw [ho]) hl h (fun _ hlk => dep_fieldAddr ho hlk)
  | field s x j => exact nf_none (by unfold kindV; rw [ho]) hl h (fun _ hlk => dep_field ho hlk)
  | indexAddr t x i => exact nf_none (by unfold kindV; rw [ho]) hl h (fun _ hlk => dep_indexAddr ho hlk)
  | index t x i => exact nf_none (by unfold kindV; rw [ho]) hl h (fun _ hlk => dep_index ho hlk)
  | build t p => exact nf_none (by unfold kindV; rw [ho]) hl h (fun _ hlk => dep_build ho hlk)
  | extract x i => exact nf_none (by unfold kindV; rw [ho]) hl h (fun _ hlk => dep_extract ho hlk)
  | alloc t => exact nf_alloc ho h
  | box t x => exact nf_box ho hl h
  | buildSlice t m p => exact nf_bslice ho hl h
  | makeSlice t x y => exact nf_make ho hk hl h
  | store t p x => exact nf_store ho hk hl h
  | load t x =>
    cases hkk : kindV C f o st with
    | none => rw [← hkk]; exact nf_none hkk hl h (fun _ hlk => dep_loadI ho hkk hlk)
    | rd id => rw [← hkk]; exact nf_load ho hkk hl h
    | wr id => exfalso; unfold kindV at hkk; rw [ho] at hkk; dsimp only at hkk; split at hkk
               · cases hkk
               · split at hkk
                 · split at hkk
                   · rcases condB_cases hkk with ⟨_, hkk⟩ | ⟨_, hkk⟩ <;> cases hkk
                   · cases hkk
                 · cases hkk
                 · cases hkk
    | al => exfalso; unfold kindV at hkk; rw [ho] at hkk; dsimp only at hkk; split at hkk
            · cases hkk
            · split at hkk
              · split at hkk
                · rcases condB_cases hkk with ⟨_, hkk⟩ | ⟨_, hkk⟩ <;> cases hkk
                · cases hkk
              · cases hkk
              · cases hkk
    | any => exact absurd hkk hk
  | call c =>
    cases hb : c.callee with
    | value g => exact nf_call ho hb hk hl h
    | invoke r m => exfalso; apply hk; unfold kindV; rw [ho]; dsimp only; rw [hb]
    | builtin b =>
      cases b <;> first
        | exact nf_none (by unfold kindV; rw [ho]; dsimp only; rw [hb]) hl h (fun _ hlk => dep_len ho hb hlk)
        | (exfalso; apply hk; unfold kindV; rw [ho]; dsimp only; rw [hb]; done)
        | (have hk0 : kindV C f o st = .none := by
             unfold kindV at hk ⊢
             rw [ho] at hk ⊢
             dsimp only at hk ⊢
             rw [hb] at hk ⊢
             dsimp only at hk ⊢
             split
             · rename_i s r hs
               rw [hs] at hk
               dsimp only at hk
               split
               · rename_i hp
                 rw [hp] at hk
                 exact absurd rfl hk
               · rename_i hno
                 split
                 · rfl
                 · rename_i hd
                   exfalso; apply hk
                   split
                   · rfl
                   · rw [if_neg hd]
             · rename_i hno
               exfalso; apply hk
               split
               · rename_i s r hs; exact absurd hs (hno s r)
               · rfl
           exact nf_none hk0 hl h (fun _ hlk => dep_append ho hb hk0 hlk))
  | _ => exfalso; apply hk; unfold kindV; rw [ho]
end
end Go.Fw
