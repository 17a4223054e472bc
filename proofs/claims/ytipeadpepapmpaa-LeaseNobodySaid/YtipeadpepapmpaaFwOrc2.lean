/- The second evaluator says what the first says. -/
import Derived.Test.YtipeadpepapmpaaFwOrc
set_option linter.all false
namespace Go.Fw

section
variable {C : Cx} {vb : FuncId → List V → List Blk → Option FOut} {f : FuncId} {o : Oper} {st : St} {α : Type} {k kp : V → St → Option α}

abbrev Nat_ (C : Cx) (vb : FuncId → List V → List Blk → Option FOut) (f : FuncId) (o : Oper) (st : St) : Prop :=
  ∀ (α : Type) (k kp : V → St → Option α), vop C vb f o st k kp = (vop C vb f o st (fun v s => some (v, s)) (fun _ _ => none)).bind fun q => k q.1 q.2

theorem nat_move {x : Operand} (ho : o.op = .move x) : Nat_ C vb f o st := by
  intro α k kp
  unfold vop
  rw [ho]
  dsimp only
  cases o.dst with
  | none => rfl
  | some d =>
    dsimp only
    generalize st.peek x = v
    cases v <;> first | rfl | (dsimp only; split <;> rfl)
theorem nat_assign {x : Operand} (ho : o.op = .assign x) : Nat_ C vb f o st := by
  intro α k kp
  unfold vop
  rw [ho]
  rfl
theorem nat_alloc {t : TypeId} (ho : o.op = .alloc t) : Nat_ C vb f o st := by
  intro α k kp
  unfold vop
  rw [ho]
  dsimp only
  split
  · split <;> rfl
  · rfl
theorem nat_box {t : TypeId} {x : Operand} (ho : o.op = .box t x) : Nat_ C vb f o st := by
  intro α k kp
  unfold vop
  rw [ho]
  dsimp only
  split <;> rfl
theorem nat_build {t : TypeId} {p : Array (Nat × Operand)} (ho : o.op = .build t p) : Nat_ C vb f o st := by
  intro α k kp
  unfold vop
  rw [ho]
  dsimp only
  split
  · split
    · split <;> rfl
    · rfl
  · rfl
theorem nat_buildSlice {t : TypeId} {m : Nat} {p : Array (Nat × Operand)} (ho : o.op = .buildSlice t m p) : Nat_ C vb f o st := by
  intro α k kp
  unfold vop
  rw [ho]
  dsimp only
  split
  · split
    · split
      · split
        · split <;> rfl
        · rfl
      · rfl
    · rfl
  · rfl
theorem nat_nilCheck {x : Operand} (ho : o.op = .nilCheck x) : Nat_ C vb f o st := by
  intro α k kp
  unfold vop
  rw [ho]
  dsimp only
  split <;> rfl
theorem nat_makeFunc {g : Fn} {x y : Array Operand} (ho : o.op = .makeFunc g x y) : Nat_ C vb f o st := by
  intro α k kp
  unfold vop
  rw [ho]
  dsimp only
  split <;> rfl
theorem nat_fieldAddr {s : TypeId} {x : Operand} {j : Nat} (ho : o.op = .fieldAddr s x j) : Nat_ C vb f o st := by
  intro α k kp
  unfold vop
  rw [ho]
  dsimp only
  split
  · split
    · split <;> rfl
    · rfl
  · rfl
theorem nat_field {s : TypeId} {x : Operand} {j : Nat} (ho : o.op = .field s x j) : Nat_ C vb f o st := by
  intro α k kp
  unfold vop
  rw [ho]
  dsimp only
  split
  · split
    · split
      · split
        · split <;> rfl
        · rfl
      · rfl
    · rfl
  · rfl
theorem nat_extract {x : Operand} {i : Nat} (ho : o.op = .extract x i) : Nat_ C vb f o st := by
  intro α k kp
  unfold vop
  rw [ho]
  dsimp only
  split
  · split
    · split <;> rfl
    · rfl
  · rfl
theorem nat_len {c : Call} (ho : o.op = .call c) (hb : c.callee = .builtin .len) : Nat_ C vb f o st := by
  intro α k kp
  unfold vop
  rw [ho]
  dsimp only
  rw [hb]
  dsimp only
  split
  · split
    · rfl
    · rfl
    · split <;> rfl
    · rfl
  · rfl

theorem snd_nat (h : Nat_ C vb f o st) : Snd (lift (vop C vb f o st (fun v s => some (v, s)) (fun _ _ => none))) (fun q : V × St => ∀ (α : Type) (k kp : V → St → Option α), vop C vb f o st k kp = k q.1 q.2) := by
  intro ds a ds' ps e hp α k kp
  have := snd_lift ds a ds' ps e hp
  rw [h α k kp, this]
  rfl

abbrev Does (C : Cx) (vb : FuncId → List V → List Blk → Option FOut) (f : FuncId) (o : Oper) (st : St) (q : V × St) : Prop := ∀ (α : Type) (k kp : V → St → Option α), vop C vb f o st k kp = k q.1 q.2

theorem snd_wop : Snd (wop C vb f o st) (Does C vb f o st) := by
  cases ho : o.op with
  | move x => unfold wop; rw [ho]; exact snd_nat (nat_move ho)
  | assign x => unfold wop; rw [ho]; exact snd_nat (nat_assign ho)
  | alloc t => unfold wop; rw [ho]; exact snd_nat (nat_alloc ho)
  | box t x => unfold wop; rw [ho]; exact snd_nat (nat_box ho)
  | build t p => unfold wop; rw [ho]; exact snd_nat (nat_build ho)
  | buildSlice t m p => unfold wop; rw [ho]; exact snd_nat (nat_buildSlice ho)
  | nilCheck x => unfold wop; rw [ho]; exact snd_nat (nat_nilCheck ho)
  | makeFunc g x y => unfold wop; rw [ho]; exact snd_nat (nat_makeFunc ho)
  | fieldAddr s x j => unfold wop; rw [ho]; exact snd_nat (nat_fieldAddr ho)
  | field s x j => unfold wop; rw [ho]; exact snd_nat (nat_field ho)
  | extract x i => unfold wop; rw [ho]; exact snd_nat (nat_extract ho)
  | pick c x y =>
    unfold wop
    rw [ho]
    dsimp only
    split
    · rename_i t ht
      refine snd_wb snd_cond (fun b hb => ?_)
      subst hb
      cases t with
      | true =>
        refine snd_wp (fun α k kp => ?_)
        unfold vop
        rw [ho]
        dsimp only
        rw [ht]
        dsimp only
        rw [condB_true]
      | false =>
        refine snd_wp (fun α k kp => ?_)
        unfold vop
        rw [ho]
        dsimp only
        rw [ht]
        dsimp only
        rw [condB_false]
    · exact snd_wf
  | binOp op t x y t' =>
    unfold wop
    rw [ho]
    refine snd_wb snd_optV (fun v hv => snd_wp (fun α k kp => ?_))
    unfold vop
    rw [ho]
    dsimp only
    rw [hv]
  | unOp op t x =>
    unfold wop
    rw [ho]
    refine snd_wb snd_optV (fun v hv => snd_wp (fun α k kp => ?_))
    unfold vop
    rw [ho]
    dsimp only
    rw [hv]
  | convert s t x =>
    unfold wop
    rw [ho]
    refine snd_wb snd_optV (fun v hv => snd_wp (fun α k kp => ?_))
    unfold vop
    rw [ho]
    dsimp only
    rw [hv]
  | load t x =>
    unfold wop
    rw [ho]
    dsimp only
    split
    · rename_i g n hg hn
      split
      · rename_i id off hp
        split
        · rename_i cs e hcs
          refine snd_wb snd_chk (fun _ hle => ?_)
          have hle : off + n ≤ cs.length := by simpa using hle
          split
          · rename_i d hd
            split
            · rename_i htr
              refine snd_wb snd_lift (fun v hv => snd_wp (fun α k kp => ?_))
              unfold vop
              rw [ho]
              dsimp only
              rw [hg, hn, hp, hd]
              dsimp only
              rw [hcs]
              dsimp only
              rw [if_pos hle, if_pos htr, hv]
            · rename_i htr
              refine snd_wb snd_optV (fun v hv => snd_wb snd_cond (fun b hb => ?_))
              subst hb
              cases hl : ((cs.drop off).take n).any isLin1 with
              | true =>
                refine snd_wp (fun α k kp => ?_)
                unfold vop
                rw [ho]
                dsimp only
                rw [hg, hn, hp, hd]
                dsimp only
                rw [hcs]
                dsimp only
                rw [if_pos hle, if_neg htr, hv]
                dsimp only
                rw [hl, condB_true]
              | false =>
                refine snd_wp (fun α k kp => ?_)
                unfold vop
                rw [ho]
                dsimp only
                rw [hg, hn, hp, hd]
                dsimp only
                rw [hcs]
                dsimp only
                rw [if_pos hle, if_neg htr, hv]
                dsimp only
                rw [hl, condB_false]
          · exact snd_wf
        · exact snd_wf
      · rename_i e off hp
        split
        · rename_i hle
          refine snd_wb snd_lift (fun v hv => snd_wp (fun α k kp => ?_))
          unfold vop
          rw [ho]
          dsimp only
          rw [hg, hn, hp]
          dsimp only
          rw [if_pos hle, hv]
        · exact snd_wf
      · exact snd_wf
    · exact snd_wf
  | store t p x =>
    unfold wop
    rw [ho]
    dsimp only
    split
    · rename_i n hn
      split
      · rename_i id off hp
        split
        · rename_i cs e hcs
          split
          · rename_i hok
            refine snd_wb snd_chk (fun _ hle => snd_wp (fun α k kp => ?_))
            have hle : off + n ≤ cs.length := by simpa using hle
            unfold vop
            rw [ho]
            dsimp only
            rw [hn]
            dsimp only
            rw [hp]
            dsimp only
            rw [hcs]
            dsimp only
            rw [if_pos ⟨hok.1, hok.2, hle⟩]
          · exact snd_wf
        · exact snd_wf
      · exact snd_wf
    · exact snd_wf
  | makeSlice t l c =>
    unfold wop
    rw [ho]
    dsimp only
    split
    · rename_i e he
      split
      · rename_i sz by_ z k1 n k2 m hsz hby hz hpl hpc
        refine snd_wb snd_chk (fun _ hc => ?_)
        split
        · rename_i hfl
          refine snd_wb snd_chk (fun _ hnm => snd_wp (fun α k kp => ?_))
          unfold vop
          rw [ho]
          dsimp only
          rw [he]
          dsimp only
          rw [hsz, hby, hz, hpl, hpc]
          dsimp only
          rw [hc, condB_true, if_pos hfl, hnm, condB_true]
        · rename_i hfl
          refine snd_wp (fun α k kp => ?_)
          unfold vop
          rw [ho]
          dsimp only
          rw [he]
          dsimp only
          rw [hsz, hby, hz, hpl, hpc]
          dsimp only
          rw [hc, condB_true, if_neg hfl]
      · exact snd_wf
    · exact snd_wf
  | slice t x lo hi mx =>
    unfold wop
    rw [ho]
    dsimp only
    split
    · rename_i l h m hl hh hm
      refine snd_wb snd_lift (fun q hq => ?_)
      obtain ⟨l', h', n', v⟩ := q
      cases m with
      | none =>
        refine snd_wb snd_chk (fun _ hc => snd_wp (fun α k kp => ?_))
        unfold vop
        rw [ho]
        dsimp only
        rw [hl, hh, hm]
        dsimp only
        rw [hq]
        dsimp only
        rw [hc, condB_true]
      | some m =>
        refine snd_wb snd_chk (fun _ hc => snd_wp (fun α k kp => ?_))
        unfold vop
        rw [ho]
        dsimp only
        rw [hl, hh, hm]
        dsimp only
        rw [hq]
        dsimp only
        rw [hc, condB_true]
    · exact snd_wf
  | indexAddr t x i =>
    unfold wop
    rw [ho]
    dsimp only
    split
    · rename_i kk n hi
      split
      · rename_i q m xs hx
        split
        · rename_i hm
          refine snd_wb snd_optV (fun e he => snd_wp (fun α k kp => ?_))
          unfold vop
          rw [ho]
          dsimp only
          rw [hi]
          dsimp only
          rw [hx]
          dsimp only
          rw [if_pos hm, he, bindO_some]
        · exact snd_wf
      · rename_i q q2 m xs hx
        split
        · rename_i hm
          refine snd_wb snd_optV (fun e he => snd_wp (fun α k kp => ?_))
          unfold vop
          rw [ho]
          dsimp only
          rw [hi]
          dsimp only
          rw [hx]
          dsimp only
          rw [if_pos hm, he, bindO_some]
        · exact snd_wf
      · rename_i id off len hx
        split
        · rename_i sz hsz
          refine snd_wb snd_chk (fun _ hc => snd_wp (fun α k kp => ?_))
          unfold vop
          rw [ho]
          dsimp only
          rw [hi]
          dsimp only
          rw [hx]
          dsimp only
          rw [hsz]
          dsimp only
          rw [hc, condB_true]
        · exact snd_wf
      · exact snd_wf
    · exact snd_wf
  | index t x i =>
    unfold wop
    rw [ho]
    dsimp only
    split
    · rename_i ht
      split
      · rename_i s kk n hx hi
        refine snd_wb snd_optV (fun v hv => snd_wp (fun α k kp => ?_))
        obtain ⟨b, hb, rfl⟩ := Option.map_eq_some_iff.1 hv
        unfold vop
        rw [ho]
        dsimp only
        rw [ht]
        dsimp only
        rw [hx, hi]
        dsimp only
        rw [hb, bindO_some]
      · exact snd_wf
    · exact snd_wf
  | call c =>
    cases hb : c.callee with
    | invoke r m =>
      unfold wop; rw [ho]; dsimp only; rw [hb]
      refine snd_nat (fun α k kp => ?_)
      unfold vop; rw [ho]; dsimp only; rw [hb]; rfl
    | value g0 =>
      unfold wop
      rw [ho]
      dsimp only
      rw [hb]
      dsimp only
      split
      · rename_i gf first caps hg
        split
        · rename_i hfl
          refine snd_wb snd_optR (fun r hr => ?_)
          cases r with
          | pan v h => exact snd_wf
          | ret v h =>
            dsimp only
            split
            · rename_i d hd
              split
              · rename_i hth
                split
                · rename_i v2 h2 h3
                  split
                  · exact snd_wf
                  · rename_i hfree
                    refine snd_wp (fun α k kp => ?_)
                    unfold vop
                    rw [ho]
                    dsimp only
                    rw [hb]
                    dsimp only
                    rw [hg]
                    dsimp only
                    rw [if_pos hfl, hr, bindO_some]
                    dsimp only
                    rw [hd]
                    dsimp only
                    rw [if_pos hth, h3]
                    dsimp only
                    rw [Bool.eq_false_iff.2 hfree, condB_false]
                · exact snd_wf
              · rename_i hth
                refine snd_wp (fun α k kp => ?_)
                unfold vop
                rw [ho]
                dsimp only
                rw [hb]
                dsimp only
                rw [hg]
                dsimp only
                rw [if_pos hfl, hr, bindO_some]
                dsimp only
                rw [hd]
                dsimp only
                rw [if_neg hth]
            · rename_i hd
              refine snd_wp (fun α k kp => ?_)
              unfold vop
              rw [ho]
              dsimp only
              rw [hb]
              dsimp only
              rw [hg]
              dsimp only
              rw [if_pos hfl, hr, bindO_some]
              dsimp only
              rw [hd]
        · rename_i hfl
          refine snd_wb snd_optR (fun r hr => ?_)
          cases r with
          | pan v h => exact snd_wf
          | ret v h =>
            refine snd_wp (fun α k kp => ?_)
            unfold vop
            rw [ho]
            dsimp only
            rw [hb]
            dsimp only
            rw [hg]
            dsimp only
            rw [if_neg hfl, hr, bindO_some]
      · exact snd_wf
    | builtin b =>
      cases b
      case len => unfold wop; rw [ho]; dsimp only; rw [hb]; exact snd_nat (nat_len ho hb)
      case append =>
        unfold wop
        rw [ho]
        dsimp only
        rw [hb]
        dsimp only
        split
        · rename_i s x t tx hsx htt
          split
          · rename_i e e2 he he2
            split
            · rename_i by_ sz z m ys hby hsz hz hel
              refine snd_wb snd_chk (fun _ hc => snd_wb snd_wapp (fun q hq => snd_wb snd_chk (fun _ hle => ?_)))
              split
              · exact snd_wf
              · rename_i hfree
                refine snd_wp (fun α k kp => ?_)
                simp only [Bool.and_eq_true, decide_eq_true_eq, Bool.or_eq_true] at hc
                obtain ⟨⟨⟨⟨⟨c1, c2⟩, c3⟩, c4⟩, c5⟩, c6⟩ := hc
                unfold vop
                rw [ho]
                dsimp only
                rw [hb]
                dsimp only
                rw [hsx, htt]
                dsimp only
                rw [he, he2]
                dsimp only
                rw [hby, hsz, hz, hel]
                dsimp only
                rw [if_pos ⟨c1, c2.symm, c3, c4, c5, c6⟩, hq]
                dsimp only
                rw [hle, Bool.eq_false_iff.2 hfree]
                exact condB_true _ _
            · exact snd_wf
          · exact snd_wf
        · exact snd_wf
      all_goals
        unfold wop; rw [ho]; dsimp only; rw [hb]
        refine snd_nat (fun α k kp => ?_)
        unfold vop; rw [ho]; dsimp only; rw [hb]; rfl
  | _ =>
    unfold wop; rw [ho]
    refine snd_nat (fun α k kp => ?_)
    unfold vop; rw [ho]; rfl

theorem snd_wops {all : List Oper} : ∀ {l : List Oper} {st : St}, Snd (wops C vb f all l st) (fun st' => ∀ (ks : St → Option FOut) (kps : V → St → Option FOut), vops C vb f all l st ks kps = ks st')
  | [], st => snd_wp (fun ks kps => rfl)
  | o :: r, st => by
    have run : ∀ {st : St}, Snd (wb (wop C vb f o st) fun q => wops C vb f all r (put q.2 o.dst q.1)) (fun st' => ∀ (ks : St → Option FOut) (kps : V → St → Option FOut), vop C vb f o st (fun v st => vops C vb f all r (put st o.dst v) ks kps) kps = ks st') := by
      intro st
      refine snd_wb snd_wop (fun q hq => ?_)
      intro ds a ds' ps e hp ks kps
      rw [hq]
      exact snd_wops ds a ds' ps e hp ks kps
    unfold wops
    split
    · rename_i hg
      intro ds a ds' ps e hp ks kps
      unfold vops
      rw [hg]
      exact run ds a ds' ps e hp ks kps
    · rename_i j want hg
      refine snd_wb snd_lift (fun b hb => snd_wb snd_cond (fun b' hb' => ?_))
      subst hb'
      cases b with
      | true =>
        intro ds a ds' ps e hp ks kps
        unfold vops
        rw [hg]
        dsimp only
        rw [hb]
        dsimp only
        rw [condB_true]
        exact run ds a ds' ps e hp ks kps
      | false =>
        intro ds a ds' ps e hp ks kps
        unfold vops
        rw [hg]
        dsimp only
        rw [hb]
        dsimp only
        rw [condB_false]
        exact snd_wops ds a ds' ps e hp ks kps

theorem snd_wkind : Snd (wkind C f o st) (fun kd => kindV C f o st = kd) := by
  unfold wkind
  split
  · rename_i t a ho
    have hk : kindV C f o st = if (C.tr f).contains (o.dst.getD 0) then .any else match st.peek a with
      | .ptr id off => (match st.h[id]?, sizeT C.P t with
        | some (.cells cs _), some n => condB (((cs.drop off).take n).any isLin1) .any (.rd id)
        | _, _ => .any)
      | .iptr .. => .none
      | _ => .any := by unfold kindV; rw [ho]; rfl
    split
    · exact snd_wf
    · rename_i htr
      rw [if_neg htr] at hk
      split
      · rename_i id off hp
        rw [hp] at hk
        dsimp only at hk
        split
        · rename_i cs e n hcs hn
          rw [hcs, hn] at hk
          dsimp only at hk
          refine snd_wb snd_cond (fun b hb => snd_wp ?_)
          rw [hb] at hk
          rw [hk]
          cases b
          · rw [condB_false]
          · rw [condB_true]
        · exact snd_wf
      · rename_i e off hp
        rw [hp] at hk
        exact snd_wp hk
      · exact snd_wf
  · exact snd_wp rfl

theorem snd_wdraw {un : List Nat} {h0 : Nat} {ops : List Oper} : ∀ {l : List Nat} {acc : List (Nat × Kd)} {st : St}, Snd (wdraw C vb f un h0 ops l acc st) (fun st' => ∀ (ks : St → Option FOut), vdraw C vb f un h0 ops l acc st ks = ks st')
  | [], acc, st => snd_wp (fun ks => rfl)
  | i :: r, acc, st => by
    unfold wdraw
    split
    · exact snd_wf
    · rename_i o ho
      split
      · rename_i hlen
        refine snd_wb snd_lift (fun b hb => snd_wb snd_cond (fun b' hb' => ?_))
        subst hb'
        cases b with
        | true =>
          dsimp only
          split
          · rename_i hi
            refine snd_wb snd_wkind (fun kd hkd => ?_)
            split
            · rename_i hc
              refine snd_wb snd_wop (fun q hq => ?_)
              intro ds a ds' ps e hp ks
              unfold vdraw
              rw [ho]
              dsimp only
              rw [hlen, condB_true, hb, bindO_some, condB_true, hi, condB_true, hkd, hc, condB_true, hq, bindO_some]
              exact snd_wdraw ds a ds' ps e hp ks
            · exact snd_wf
          · rename_i hi
            refine snd_wb snd_wop (fun q hq => ?_)
            intro ds a ds' ps e hp ks
            unfold vdraw
            rw [ho]
            dsimp only
            rw [hlen, condB_true, hb, bindO_some, condB_true, Bool.eq_false_iff.2 hi, condB_false, hq, bindO_some]
            exact snd_wdraw ds a ds' ps e hp ks
        | false =>
          intro ds a ds' ps e hp ks
          unfold vdraw
          rw [ho]
          dsimp only
          rw [hlen, condB_true, hb, bindO_some, condB_false]
          exact snd_wdraw ds a ds' ps e hp ks
      · exact snd_wf

theorem snd_wexec : ∀ {n : Nat} {c : Code} {st : St}, Snd (wexec C vb f n c st) (fun q => ∀ (K : Ex → St → Option FOut), vexec C vb f n c st K = K q.1 q.2)
  | 0, c, st => snd_wf
  | n + 1, c, st => by
    have loop : ∀ b, Snd (wb (wexec C vb f n b st) fun q => match q.1 with
          | .normal => wexec C vb f n (.loop b) q.2
          | e => wp (e, q.2)) (fun q => ∀ (K : Ex → St → Option FOut), vexec C vb f (n + 1) (.loop b) st K = K q.1 q.2) := by
      intro b
      refine snd_wb snd_wexec (fun q hq => ?_)
      obtain ⟨e, s⟩ := q
      cases e with
      | normal =>
        intro ds a ds' ps e hp K
        unfold vexec
        dsimp only
        rw [hq]
        exact snd_wexec ds a ds' ps e hp K
      | _ =>
        refine snd_wp (fun K => ?_)
        unfold vexec
        dsimp only
        rw [hq]
    cases c with
    | skip => exact snd_wp (fun K => rfl)
    | label l => exact snd_wp (fun K => rfl)
    | exit i => exact snd_wp (fun K => rfl)
    | ret => exact snd_wp (fun K => rfl)
    | region id ops draw =>
      cases draw with
      | false =>
        unfold wexec
        refine snd_wb snd_wops (fun q hq => snd_wp (fun K => ?_))
        unfold vexec
        exact hq _ _
      | true =>
        unfold wexec
        dsimp only
        split
        · rename_i un hun
          refine snd_wb snd_wdraw (fun q hq => snd_wp (fun K => ?_))
          unfold vexec
          dsimp only
          rw [hun]
          exact hq _
        · exact snd_wf
    | seq x y =>
      unfold wexec
      refine snd_wb snd_wexec (fun q hq => ?_)
      obtain ⟨e, s⟩ := q
      cases e with
      | normal =>
        intro ds a ds' ps e hp K
        unfold vexec
        dsimp only
        rw [hq]
        exact snd_wexec ds a ds' ps e hp K
      | _ =>
        refine snd_wp (fun K => ?_)
        unfold vexec
        dsimp only
        rw [hq]
    | cond x y z =>
      unfold wexec
      dsimp only
      split
      · rename_i t ht
        refine snd_wb snd_cond (fun b hb => ?_)
        subst hb
        cases t with
        | true =>
          intro ds a ds' ps e hp K
          unfold vexec
          dsimp only
          rw [ht]
          dsimp only
          rw [condB_true]
          exact snd_wexec ds a ds' ps e hp K
        | false =>
          intro ds a ds' ps e hp K
          unfold vexec
          dsimp only
          rw [ht]
          dsimp only
          rw [condB_false]
          exact snd_wexec ds a ds' ps e hp K
      · exact snd_wf
    | block id b =>
      unfold wexec
      refine snd_wb snd_wexec (fun q hq => ?_)
      obtain ⟨e, s⟩ := q
      cases e with
      | exit i =>
        dsimp only
        split
        · rename_i hi
          refine snd_wp (fun K => ?_)
          unfold vexec
          dsimp only
          rw [hq]
          dsimp only
          rw [if_pos hi]
        · rename_i hi
          refine snd_wp (fun K => ?_)
          unfold vexec
          dsimp only
          rw [hq]
          dsimp only
          rw [if_neg hi]
      | _ =>
        refine snd_wp (fun K => ?_)
        unfold vexec
        dsimp only
        rw [hq]
    | loop b =>
      intro ds a ds' ps e hp
      unfold wexec at e
      dsimp only at e
      split at e
      · split at e
        · cases e
          exact hp.1
        · exact loop b _ _ _ _ e hp
      · exact loop b _ _ _ _ e hp
    | _ => exact snd_wf
end

/-- A run over unknown values. -/
theorem wexec_ok {C : Cx} {vb : FuncId → List V → List Blk → Option FOut} {f : FuncId} {n : Nat} {c : Code} {st st' : St} {e : Ex} (ds : List D) {ds' : List D} {ps : List Prop} (h : wexec C vb f n c st ds = some ((e, st'), ds', ps)) (hp : All ps) (K : Ex → St → Option FOut) : vexec C vb f n c st K = K e st' :=
  snd_wexec ds _ ds' ps h hp K
end Go.Fw
