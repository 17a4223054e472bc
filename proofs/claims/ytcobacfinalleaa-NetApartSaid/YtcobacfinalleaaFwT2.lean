/- What a tree of a code reaches the machine does. -/
import Derived.Test.YtcobacfinalleaaFwT
set_option linter.all false
namespace Go.Fw
open Go.RowKit

section
variable {C : Cx} {N : Nat} {vb : FuncId → List V → List Blk → Option FOut} {f : FuncId} {o : Oper} {st : St} {α : Type} {k kp : V → St → Option α}

abbrev Nat_ (C : Cx) (vb : FuncId → List V → List Blk → Option FOut) (f : FuncId) (o : Oper) (st : St) : Prop :=
  ∀ (α : Type) (k kp : V → St → Option α), vop C vb f o st k kp = (vop C vb f o st (fun v s => some (v, s)) (fun _ _ => none)).bind fun q => k q.1 q.2

theorem nat_move {x : Operand} (ho : o.op = .move x) : Nat_ C vb f o st := by
  intro α k kp
  unfold vop
  rw [ho]
  dsimp only
  cases o.dst with
  | none => rfl
  | some d =>
    dsimp only
    generalize st.peek x = v
    cases v <;> first | rfl | (dsimp only; split <;> rfl)
theorem nat_assign {x : Operand} (ho : o.op = .assign x) : Nat_ C vb f o st := by
  intro α k kp
  unfold vop
  rw [ho]
  rfl
theorem nat_alloc {t : TypeId} (ho : o.op = .alloc t) : Nat_ C vb f o st := by
  intro α k kp
  unfold vop
  rw [ho]
  dsimp only
  split
  · split <;> rfl
  · rfl
theorem nat_box {t : TypeId} {x : Operand} (ho : o.op = .box t x) : Nat_ C vb f o st := by
  intro α k kp
  unfold vop
  rw [ho]
  dsimp only
  split <;> rfl
theorem nat_build {t : TypeId} {p : Array (Nat × Operand)} (ho : o.op = .build t p) : Nat_ C vb f o st := by
  intro α k kp
  unfold vop
  rw [ho]
  dsimp only
  split
  · split
    · split <;> rfl
    · rfl
  · rfl
theorem nat_buildSlice {t : TypeId} {m : Nat} {p : Array (Nat × Operand)} (ho : o.op = .buildSlice t m p) : Nat_ C vb f o st := by
  intro α k kp
  unfold vop
  rw [ho]
  dsimp only
  split
  · split
    · split
      · split
        · split <;> rfl
        · rfl
      · rfl
    · rfl
  · rfl
theorem nat_nilCheck {x : Operand} (ho : o.op = .nilCheck x) : Nat_ C vb f o st := by
  intro α k kp
  unfold vop
  rw [ho]
  dsimp only
  split <;> rfl
theorem nat_makeFunc {g : Fn} {x y : Array Operand} (ho : o.op = .makeFunc g x y) : Nat_ C vb f o st := by
  intro α k kp
  unfold vop
  rw [ho]
  dsimp only
  split <;> rfl
theorem nat_fieldAddr {s : TypeId} {x : Operand} {j : Nat} (ho : o.op = .fieldAddr s x j) : Nat_ C vb f o st := by
  intro α k kp
  unfold vop
  rw [ho]
  dsimp only
  split
  · split
    · split <;> rfl
    · rfl
  · rfl
theorem nat_field {s : TypeId} {x : Operand} {j : Nat} (ho : o.op = .field s x j) : Nat_ C vb f o st := by
  intro α k kp
  unfold vop
  rw [ho]
  dsimp only
  split
  · split
    · split
      · split
        · split <;> rfl
        · rfl
      · rfl
    · rfl
  · rfl
theorem nat_extract {x : Operand} {i : Nat} (ho : o.op = .extract x i) : Nat_ C vb f o st := by
  intro α k kp
  unfold vop
  rw [ho]
  dsimp only
  split
  · split
    · split <;> rfl
    · rfl
  · rfl
theorem nat_len {c : Call} (ho : o.op = .call c) (hb : c.callee = .builtin .len) : Nat_ C vb f o st := by
  intro α k kp
  unfold vop
  rw [ho]
  dsimp only
  rw [hb]
  dsimp only
  split
  · split
    · rfl
    · rfl
    · split <;> rfl
    · rfl
  · rfl

abbrev Does (C : Cx) (vb : FuncId → List V → List Blk → Option FOut) (f : FuncId) (o : Oper) (st : St) (q : V × St) : Prop := ∀ (α : Type) (k kp : V → St → Option α), vop C vb f o st k kp = k q.1 q.2

theorem snd_nat (h : Nat_ C (fun _ _ _ => none) f o st) : Snd C f N (xlift (vop C (fun _ _ _ => none) f o st (fun v s => some (v, s)) (fun _ _ => none))) (fun q : V × St => ∃ vb, VbSound C vb ∧ Does C vb f o st q) := by
  intro q hq
  have := snd_xlift q hq
  refine ⟨_, vb0_sound, fun α k kp => ?_⟩
  rw [h α k kp, this]
  rfl


theorem snd_xop : Snd C f N (xop C f o st) (fun q => ∃ vb, VbSound C vb ∧ Does C vb f o st q) := by
  cases ho : o.op with
  | move x => unfold xop; rw [ho]; exact snd_nat (nat_move ho)
  | assign x => unfold xop; rw [ho]; exact snd_nat (nat_assign ho)
  | alloc t => unfold xop; rw [ho]; exact snd_nat (nat_alloc ho)
  | box t x => unfold xop; rw [ho]; exact snd_nat (nat_box ho)
  | build t p => unfold xop; rw [ho]; exact snd_nat (nat_build ho)
  | buildSlice t m p => unfold xop; rw [ho]; exact snd_nat (nat_buildSlice ho)
  | nilCheck x => unfold xop; rw [ho]; exact snd_nat (nat_nilCheck ho)
  | makeFunc g x y => unfold xop; rw [ho]; exact snd_nat (nat_makeFunc ho)
  | fieldAddr s x j => unfold xop; rw [ho]; exact snd_nat (nat_fieldAddr ho)
  | field s x j => unfold xop; rw [ho]; exact snd_nat (nat_field ho)
  | extract x i => unfold xop; rw [ho]; exact snd_nat (nat_extract ho)
  | pick c x y =>
    unfold xop
    rw [ho]
    dsimp only
    split
    · rename_i t ht
      refine snd_xb snd_xcond (fun b hb => ?_)
      subst hb
      cases t with
      | true =>
        refine snd_xp ⟨_, vb0_sound, fun α k kp => ?_⟩
        unfold vop
        rw [ho]
        dsimp only
        rw [ht]
        dsimp only
        rw [condB_true]
      | false =>
        refine snd_xp ⟨_, vb0_sound, fun α k kp => ?_⟩
        unfold vop
        rw [ho]
        dsimp only
        rw [ht]
        dsimp only
        rw [condB_false]
    · exact snd_xf
  | binOp op t x y t' =>
    unfold xop
    rw [ho]
    refine snd_xb snd_xopt (fun v hv => snd_xp ⟨_, vb0_sound, fun α k kp => ?_⟩)
    unfold vop
    rw [ho]
    dsimp only
    rw [hv]
  | unOp op t x =>
    unfold xop
    rw [ho]
    refine snd_xb snd_xopt (fun v hv => snd_xp ⟨_, vb0_sound, fun α k kp => ?_⟩)
    unfold vop
    rw [ho]
    dsimp only
    rw [hv]
  | convert s t x =>
    unfold xop
    rw [ho]
    refine snd_xb snd_xopt (fun v hv => snd_xp ⟨_, vb0_sound, fun α k kp => ?_⟩)
    unfold vop
    rw [ho]
    dsimp only
    rw [hv]
  | load t x =>
    unfold xop
    rw [ho]
    dsimp only
    split
    · rename_i g n hg hn
      split
      · rename_i id off hp
        split
        · rename_i cs e hcs
          refine snd_xb snd_xchk (fun _ hle => ?_)
          have hle : off + n ≤ cs.length := by simpa using hle
          split
          · rename_i d hd
            split
            · rename_i htr
              refine snd_xb snd_xlift (fun v hv => snd_xp ⟨_, vb0_sound, fun α k kp => ?_⟩)
              unfold vop
              rw [ho]
              dsimp only
              rw [hg, hn, hp, hd]
              dsimp only
              rw [hcs]
              dsimp only
              rw [if_pos hle, if_pos htr, hv]
            · rename_i htr
              refine snd_xb snd_xopt (fun v hv => snd_xb snd_xcond (fun b hb => ?_))
              subst hb
              cases hl : ((cs.drop off).take n).any isLin1 with
              | true =>
                refine snd_xp ⟨_, vb0_sound, fun α k kp => ?_⟩
                unfold vop
                rw [ho]
                dsimp only
                rw [hg, hn, hp, hd]
                dsimp only
                rw [hcs]
                dsimp only
                rw [if_pos hle, if_neg htr, hv]
                dsimp only
                rw [hl, condB_true]
              | false =>
                refine snd_xp ⟨_, vb0_sound, fun α k kp => ?_⟩
                unfold vop
                rw [ho]
                dsimp only
                rw [hg, hn, hp, hd]
                dsimp only
                rw [hcs]
                dsimp only
                rw [if_pos hle, if_neg htr, hv]
                dsimp only
                rw [hl, condB_false]
          · exact snd_xf
        · exact snd_xf
      · rename_i e off hp
        split
        · rename_i hle
          refine snd_xb snd_xlift (fun v hv => snd_xp ⟨_, vb0_sound, fun α k kp => ?_⟩)
          unfold vop
          rw [ho]
          dsimp only
          rw [hg, hn, hp]
          dsimp only
          rw [if_pos hle, hv]
        · exact snd_xf
      · exact snd_xf
    · exact snd_xf
  | store t p x =>
    unfold xop
    rw [ho]
    dsimp only
    split
    · rename_i n hn
      split
      · rename_i id off hp
        split
        · rename_i cs e hcs
          split
          · rename_i hok
            refine snd_xb snd_xchk (fun _ hle => snd_xp ⟨_, vb0_sound, fun α k kp => ?_⟩)
            have hle : off + n ≤ cs.length := by simpa using hle
            unfold vop
            rw [ho]
            dsimp only
            rw [hn]
            dsimp only
            rw [hp]
            dsimp only
            rw [hcs]
            dsimp only
            rw [if_pos ⟨hok.1, hok.2, hle⟩]
          · exact snd_xf
        · exact snd_xf
      · exact snd_xf
    · exact snd_xf
  | makeSlice t l c =>
    unfold xop
    rw [ho]
    dsimp only
    split
    · rename_i e he
      split
      · rename_i sz by_ z k1 n k2 m hsz hby hz hpl hpc
        refine snd_xb snd_xchk (fun _ hc => ?_)
        split
        · rename_i hfl
          refine snd_xb snd_xchk (fun _ hnm => snd_xp ⟨_, vb0_sound, fun α k kp => ?_⟩)
          unfold vop
          rw [ho]
          dsimp only
          rw [he]
          dsimp only
          rw [hsz, hby, hz, hpl, hpc]
          dsimp only
          rw [hc, condB_true, if_pos hfl, hnm, condB_true]
        · rename_i hfl
          refine snd_xp ⟨_, vb0_sound, fun α k kp => ?_⟩
          unfold vop
          rw [ho]
          dsimp only
          rw [he]
          dsimp only
          rw [hsz, hby, hz, hpl, hpc]
          dsimp only
          rw [hc, condB_true, if_neg hfl]
      · exact snd_xf
    · exact snd_xf
  | slice t x lo hi mx =>
    unfold xop
    rw [ho]
    dsimp only
    split
    · rename_i bid off len room hp
      split
      · rename_i l h m sz hl hh hm hsz
        split
        · exact snd_xf
        · rename_i hmh
          refine snd_xb snd_xchk (fun _ hc => snd_xp ⟨_, vb0_sound, fun α k kp => ?_⟩)
          unfold vop
          rw [ho]
          dsimp only
          rw [hp]
          dsimp only
          rw [hl, hh, hm, hsz]
          dsimp only
          rw [if_neg hmh, hc, condB_true]
      · exact snd_xf
    rename_i hno
    split
    · rename_i l h m hl hh hm
      refine snd_xb snd_xlift (fun q hq => ?_)
      obtain ⟨l', h', n', v⟩ := q
      cases m with
      | none =>
        refine snd_xb snd_xchk (fun _ hc => snd_xp ⟨_, vb0_sound, fun α k kp => ?_⟩)
        unfold vop
        rw [ho]
        dsimp only
        split
        · rename_i hp; exact absurd hp (hno _ _ _ _)
        rw [hl, hh, hm]
        dsimp only
        rw [hq]
        dsimp only
        rw [hc, condB_true]
      | some m =>
        refine snd_xb snd_xchk (fun _ hc => snd_xp ⟨_, vb0_sound, fun α k kp => ?_⟩)
        unfold vop
        rw [ho]
        dsimp only
        split
        · rename_i hp; exact absurd hp (hno _ _ _ _)
        rw [hl, hh, hm]
        dsimp only
        rw [hq]
        dsimp only
        rw [hc, condB_true]
    · exact snd_xf
  | indexAddr t x i =>
    unfold xop
    rw [ho]
    dsimp only
    split
    · rename_i kk n hi
      split
      · rename_i q m xs hx
        split
        · rename_i hm
          refine snd_xb snd_xopt (fun e he => snd_xp ⟨_, vb0_sound, fun α k kp => ?_⟩)
          unfold vop
          rw [ho]
          dsimp only
          rw [hi]
          dsimp only
          rw [hx]
          dsimp only
          rw [if_pos hm, he, bindO_some]
        · exact snd_xf
      · rename_i q q2 m xs hx
        split
        · rename_i hm
          refine snd_xb snd_xopt (fun e he => snd_xp ⟨_, vb0_sound, fun α k kp => ?_⟩)
          unfold vop
          rw [ho]
          dsimp only
          rw [hi]
          dsimp only
          rw [hx]
          dsimp only
          rw [if_pos hm, he, bindO_some]
        · exact snd_xf
      · rename_i id off len hx
        split
        · rename_i sz hsz
          refine snd_xb snd_xchk (fun _ hc => snd_xp ⟨_, vb0_sound, fun α k kp => ?_⟩)
          unfold vop
          rw [ho]
          dsimp only
          rw [hi]
          dsimp only
          rw [hx]
          dsimp only
          rw [hsz]
          dsimp only
          rw [hc, condB_true]
        · exact snd_xf
      · exact snd_xf
    · exact snd_xf
  | index t x i =>
    unfold xop
    rw [ho]
    dsimp only
    split
    · rename_i ht
      split
      · rename_i s kk n hx hi
        refine snd_xb snd_xopt (fun v hv => snd_xp ⟨_, vb0_sound, fun α k kp => ?_⟩)
        obtain ⟨b, hb, rfl⟩ := Option.map_eq_some_iff.1 hv
        unfold vop
        rw [ho]
        dsimp only
        rw [ht]
        dsimp only
        rw [hx, hi]
        dsimp only
        rw [hb, bindO_some]
      · exact snd_xf
    · exact snd_xf
  | call c =>
    cases hb : c.callee with
    | invoke r m =>
      unfold xop; rw [ho]; dsimp only; rw [hb]
      refine snd_nat (fun α k kp => ?_)
      unfold vop; rw [ho]; dsimp only; rw [hb]; rfl
    | value g0 =>
      unfold xop
      rw [ho]
      dsimp only
      rw [hb]
      dsimp only
      split
      · rename_i gf first caps hg
        split
        · rename_i hfl
          refine snd_xb snd_xcall (fun v hr => ?_)
          try dsimp only
          split
          · rename_i d hd
            split
            · rename_i hth
              split
              · rename_i v2 h2 h3
                split
                · exact snd_xf
                · rename_i hfree
                  refine snd_xp ⟨_, vb1_sp hr, fun α k kp => ?_⟩
                  unfold vop
                  rw [ho]
                  dsimp only
                  rw [hb]
                  dsimp only
                  rw [hg]
                  dsimp only
                  rw [if_pos hfl, vb1_self, bindO_some]
                  dsimp only
                  rw [hd]
                  dsimp only
                  rw [if_pos hth, h3]
                  dsimp only
                  rw [Bool.eq_false_iff.2 hfree, condB_false]
              · exact snd_xf
            · rename_i hth
              refine snd_xp ⟨_, vb1_sp hr, fun α k kp => ?_⟩
              unfold vop
              rw [ho]
              dsimp only
              rw [hb]
              dsimp only
              rw [hg]
              dsimp only
              rw [if_pos hfl, vb1_self, bindO_some]
              dsimp only
              rw [hd]
              dsimp only
              rw [if_neg hth]
          · rename_i hd
            refine snd_xp ⟨_, vb1_sp hr, fun α k kp => ?_⟩
            unfold vop
            rw [ho]
            dsimp only
            rw [hb]
            dsimp only
            rw [hg]
            dsimp only
            rw [if_pos hfl, vb1_self, bindO_some]
            dsimp only
            rw [hd]
        · rename_i hfl
          refine snd_xb snd_xcallH (fun q hr => snd_xp ⟨_, vb1_spH hr, fun α k kp => ?_⟩)
          unfold vop
          rw [ho]
          dsimp only
          rw [hb]
          dsimp only
          rw [hg]
          dsimp only
          rw [if_neg hfl, vb1_self, bindO_some]
      · exact snd_xf
    | builtin b =>
      cases b
      case len => unfold xop; rw [ho]; dsimp only; rw [hb]; exact snd_nat (nat_len ho hb)
      case append =>
        unfold xop
        rw [ho]
        dsimp only
        rw [hb]
        dsimp only
        split
        · rename_i s x t tx hsx htt
          split
          · rename_i e e2 he he2
            split
            · rename_i bid off len room hp
              split
              · rename_i sz cs e' hsz hcs
                split
                · rename_i m ys hsrc
                  refine snd_xb snd_xchk (fun _ hc => snd_xp ⟨_, vb0_sound, fun α k kp => ?_⟩)
                  unfold vop
                  rw [ho]
                  dsimp only
                  rw [hb]
                  dsimp only
                  rw [hsx, htt]
                  dsimp only
                  rw [he, he2]
                  dsimp only
                  rw [hp]
                  dsimp only
                  rw [hsz, hcs]
                  dsimp only
                  rw [hsrc]
                  dsimp only
                  rw [hc, condB_true]
                · exact snd_xf
              · exact snd_xf
            rename_i hno
            split
            · rename_i by_ sz z m ys hby hsz hz hel
              refine snd_xb snd_xchk (fun _ hc => snd_xb snd_xapp (fun q hq => snd_xb snd_xchk (fun _ hle => ?_)))
              split
              · exact snd_xf
              · rename_i hfree
                refine snd_xp ⟨_, vb0_sound, fun α k kp => ?_⟩
                simp only [Bool.and_eq_true, decide_eq_true_eq, Bool.or_eq_true] at hc
                obtain ⟨⟨⟨⟨⟨c1, c2⟩, c3⟩, c4⟩, c5⟩, c6⟩ := hc
                unfold vop
                rw [ho]
                dsimp only
                rw [hb]
                dsimp only
                rw [hsx, htt]
                dsimp only
                rw [he, he2]
                dsimp only
                split
                · rename_i hp; exact absurd hp (hno _ _ _ _)
                rw [hby, hsz, hz, hel]
                dsimp only
                rw [if_pos ⟨c1, c2.symm, c3, c4, c5, c6⟩, hq]
                dsimp only
                rw [hle, Bool.eq_false_iff.2 hfree]
                exact condB_true _ _
            · exact snd_xf
          · exact snd_xf
        · exact snd_xf
      case clear =>
        unfold xop
        rw [ho]
        dsimp only
        rw [hb]
        dsimp only
        split
        · rename_i x t hsx htt
          split
          · rename_i e bid off len room he hp
            split
            · rename_i sz z cs e' hsz hz hcs
              refine snd_xb snd_xchk (fun _ hc => snd_xp ⟨_, vb0_sound, fun α k kp => ?_⟩)
              unfold vop
              rw [ho]
              dsimp only
              rw [hb]
              dsimp only
              rw [hsx, htt]
              dsimp only
              rw [he, hp]
              dsimp only
              rw [hsz, hz, hcs]
              dsimp only
              rw [hc, condB_true]
            · exact snd_xf
          · exact snd_xf
        · exact snd_xf
      all_goals
        unfold xop; rw [ho]; dsimp only; rw [hb]
        refine snd_nat (fun α k kp => ?_)
        unfold vop; rw [ho]; dsimp only; rw [hb]; rfl
  | _ =>
    unfold xop; rw [ho]
    refine snd_nat (fun α k kp => ?_)
    unfold vop; rw [ho]; rfl

theorem snd_xkind : Snd C f N (xkind C f o st) (fun kd => kindV C f o st = kd) := by
  unfold xkind
  split
  · rename_i t a ho
    have hk : kindV C f o st = if (C.tr f).contains (o.dst.getD 0) then .any else match st.peek a with
      | .ptr id off => (match st.h[id]?, sizeT C.P t with
        | some (.cells cs _), some n => condB (((cs.drop off).take n).any isLin1) .any (.rd id)
        | _, _ => .any)
      | .iptr .. => .none
      | _ => .any := by unfold kindV; rw [ho]; rfl
    split
    · exact snd_xf
    · rename_i htr
      rw [if_neg htr] at hk
      split
      · rename_i id off hp
        rw [hp] at hk
        dsimp only at hk
        split
        · rename_i cs e n hcs hn
          rw [hcs, hn] at hk
          dsimp only at hk
          refine snd_xb snd_xcond (fun b hb => snd_xp ?_)
          rw [hb] at hk
          rw [hk]
          cases b
          · rw [condB_false]
          · rw [condB_true]
        · exact snd_xf
      · rename_i e off hp
        rw [hp] at hk
        exact snd_xp hk
      · exact snd_xf
  · exact snd_xp rfl


theorem xops_sound {ρ : Option Nat} {n B τ : Nat} {g : Gh} {w : World} {Q : Exit → Act → World → Prop} {ops : Array Oper} {st1 : St} (hn : ∀ g' a' w', LaterN N B τ g g' w w' → R B τ g' st1 a' w' → Q .normal a' w') :
    ∀ (l : List Nat) (st : St) (g1 : Gh) (a1 : Act) (w1 : World), Hits C f N (xops C f ops.toList (l.filterMap (ops[·]?)) st) st1 → LaterN N B τ g g1 w w1 → R B τ g1 st a1 w1 → wpOpsIn (FW ρ) n C.P ops Q l a1 w1
  | [], st, g1, a1, w1, h, hl, hR => by
    have h : st1 = st := h
    subst h
    exact hn g1 a1 w1 hl hR
  | i :: l, st, g1, a1, w1, h, hl, hR => by
    unfold wpOpsIn
    cases ho : ops[i]? with
    | none =>
      rw [List.filterMap_cons, ho] at h
      exact xops_sound hn l st g1 a1 w1 h hl hR
    | some o =>
      rw [List.filterMap_cons, ho] at h
      dsimp only at h ⊢
      unfold xops at h
      have run : ∀ st, Hits C f N (xb (xop C f o st) fun q => .open (8000 + site o) (put q.2 o.dst q.1) fun st => xops C f ops.toList (l.filterMap (ops[·]?)) st) st1 → R B τ g1 st a1 w1 → o.wpIn (FW ρ) n C.P a1 w1 (wpOpsIn (FW ρ) n C.P ops Q l) Q := by
        intro st h hR
        obtain ⟨q, h1, h2⟩ := reach_xb h
        obtain ⟨st2, hto, h2⟩ := h2
        obtain ⟨vb, hvb, hdo⟩ := snd_xop q h1
        classical
        have hv := hdo Unit (fun v s => if v = q.1 ∧ s = q.2 then some () else none) (fun _ _ => none)
        rw [if_pos ⟨rfl, rfl⟩] at hv
        refine vop_sound hvb hv hR (fun v st' g' u w' hl' hR' hv hkk => ?_) (fun v st' g' u w' d hl' hR' hnl hv hkk => by cases hkk)
        try dsimp only at hkk
        split at hkk
        · rename_i hq
          obtain ⟨rfl, rfl⟩ := hq
          obtain ⟨g2, l2, R2⟩ := hto B τ g' _ w' (put_sound hR' hv)
          exact xops_sound hn l _ g2 _ w' h2 ((hl.trans (.of hl')).trans l2) R2
        · cases hkk
      split at h
      · rename_i hg
        rw [if_pos (wanted_none hg)]
        exact run st h hR
      · rename_i j want hg
        obtain ⟨b, hb, h⟩ := reach_xb h
        have hb := snd_xlift b hb
        obtain ⟨b', hb', h⟩ := reach_xb h
        have hb' := snd_xcond b' hb'
        subst hb'
        have hws := wanted_sound hR hg hb
        cases b with
        | true => rw [if_pos hws]; exact run st h hR
        | false =>
          rw [if_neg (by rw [hws]; simp)]
          exact ⟨fun _ _ => trivial, xops_sound hn l _ g1 _ w1 h hl (skip_sound hR _)⟩

theorem vdraw_congr {vb vb' : Nat → FuncId → List V → List Blk → Option FOut} {un : List Nat} {h0 : Nat} {ops : List Oper} {ks : St → Option FOut} : ∀ {l : List Nat} {acc : List (Nat × Kd)} {st : St}, (∀ j ∈ l, vb j = vb' j) → vdraw C vb f un h0 ops l acc st ks = vdraw C vb' f un h0 ops l acc st ks
  | [], acc, st, _ => rfl
  | i :: r, acc, st, h => by
    have e := h i (by simp)
    have ih : ∀ acc st, vdraw C vb f un h0 ops r acc st ks = vdraw C vb' f un h0 ops r acc st ks := fun acc st => vdraw_congr (fun j hj => h j (by simp [hj]))
    unfold vdraw
    simp only [e, ih]

theorem xdraw_reach {un : List Nat} {h0 : Nat} {ops : List Oper} {st1 : St} : ∀ {l : List Nat} {acc : List (Nat × Kd)} {st : St}, l.Nodup → Hits C f N (xdraw C f un h0 ops l acc st) st1 → ∃ vb : Nat → FuncId → List V → List Blk → Option FOut, (∀ i, VbSound C (vb i)) ∧ ∀ ks : St → Option FOut, vdraw C vb f un h0 ops l acc st ks = ks st1
  | [], acc, st, _, h => by
    have h : st1 = st := h
    subst h
    exact ⟨fun _ _ _ _ => none, fun _ => vb0_sound, fun ks => rfl⟩
  | i :: r, acc, st, hnd, h => by
    unfold xdraw at h
    obtain ⟨hir, hndr⟩ := List.nodup_cons.1 hnd
    split at h
    · exact h.elim
    · rename_i o ho
      split at h
      · rename_i hlen
        obtain ⟨b, hb, h⟩ := reach_xb h
        have hb := snd_xlift b hb
        obtain ⟨b', hb', h⟩ := reach_xb h
        have hb' := snd_xcond b' hb'
        subst hb'
        have mix : ∀ {vbi : FuncId → List V → List Blk → Option FOut} {vbr : Nat → FuncId → List V → List Blk → Option FOut} {acc : List (Nat × Kd)} {st : St} {ks : St → Option FOut}, vdraw C (fun j => if j = i then vbi else vbr j) f un h0 ops r acc st ks = vdraw C vbr f un h0 ops r acc st ks :=
          fun {vbi vbr acc st ks} => vdraw_congr (fun j hj => if_neg (by rintro rfl; exact hir hj))
        have sound : ∀ {vbi : FuncId → List V → List Blk → Option FOut} {vbr : Nat → FuncId → List V → List Blk → Option FOut}, VbSound C vbi → (∀ i, VbSound C (vbr i)) → ∀ j, VbSound C (if j = i then vbi else vbr j) := by
          intro vbi vbr h1 h2 j
          split
          · exact h1
          · exact h2 j
        cases b with
        | true =>
          dsimp only at h
          split at h
          · rename_i hi
            obtain ⟨kd, hkd, h⟩ := reach_xb h
            have hkd := snd_xkind kd hkd
            split at h
            · rename_i hc
              obtain ⟨q, hq, h⟩ := reach_xb h
              obtain ⟨vbi, hvbi, hdo⟩ := snd_xop q hq
              obtain ⟨vbr, hvbr, hks⟩ := xdraw_reach hndr h
              refine ⟨fun j => if j = i then vbi else vbr j, sound hvbi hvbr, fun ks => ?_⟩
              unfold vdraw
              rw [ho]
              dsimp only
              rw [if_pos rfl, hlen, condB_true, hb, bindO_some, condB_true, hi, condB_true, hkd, hc, condB_true, hdo, bindO_some, mix]
              exact hks ks
            · exact h.elim
          · rename_i hi
            obtain ⟨q, hq, h⟩ := reach_xb h
            obtain ⟨vbi, hvbi, hdo⟩ := snd_xop q hq
            obtain ⟨vbr, hvbr, hks⟩ := xdraw_reach hndr h
            refine ⟨fun j => if j = i then vbi else vbr j, sound hvbi hvbr, fun ks => ?_⟩
            unfold vdraw
            rw [ho]
            dsimp only
            rw [if_pos rfl, hlen, condB_true, hb, bindO_some, condB_true, Bool.eq_false_iff.2 hi, condB_false, hdo, bindO_some, mix]
            exact hks ks
        | false =>
          obtain ⟨vbr, hvbr, hks⟩ := xdraw_reach hndr h
          refine ⟨vbr, hvbr, fun ks => ?_⟩
          unfold vdraw
          rw [ho]
          dsimp only
          rw [hlen, condB_true, hb, bindO_some, condB_false]
          exact hks ks
      · exact h.elim

theorem xexec_reach : ∀ {n : Nat} {c : Code} {st : St} {q : Ex × St}, (∀ p ∈ drawRegs c, DrawSound C f p.1 p.2) → (∀ b ∈ subloops c, loopAt C f (lkey b) = some b) → Hits C f N (xexec C f n c st) q → Runs C N c st q.1 q.2
  | 0, c, st, q, _, _, h => h.elim
  | n + 1, c, st, q, hd, hlp, h => by
    cases c with
    | skip => have h : q = (.normal, st) := h; subst h; exact Runs.skip
    | label l => have h : q = (.normal, st) := h; subst h; exact Runs.label
    | exit i => have h : q = (.exit i, st) := h; subst h; exact Runs.exit
    | ret => have h : q = (.ret, st) := h; subst h; exact Runs.ret
    | region id ops draw =>
      cases draw with
      | false =>
        unfold xexec at h
        obtain ⟨s, h1, h⟩ := reach_xb h
        have h : q = (.normal, s) := h
        subst h
        refine Runs.region (f := f) (fun ρ n B τ g a w Q hR hQ => ?_)
        refine xops_sound (f := f) (g := g) (w := w) hQ (List.range ops.size) st g a w ?_ (LaterN.refl ..) hR
        rw [filterMap_range]
        exact h1
      | true =>
        unfold xexec at h
        dsimp only at h
        split at h
        · rename_i un hun
          obtain ⟨s, h1, h⟩ := reach_xb h
          have h : q = (.normal, s) := h
          subst h
          obtain ⟨vb, hvb, hks⟩ := xdraw_reach List.nodup_range h1
          intro ρ k B τ g a w Q hR hQ
          classical
          refine hd (id, ops) (by simp [drawRegs]) un hun vb st st hvb (fun st' => if st' = s then some (.ret .undef []) else none) (.ret .undef []) (by rw [hks]; exact if_pos rfl) ρ k B τ g a w Q hR (fun st' g' a' w' hl hR' hk => ?_)
          try dsimp only at hk
          split at hk
          · rename_i e
            subst e
            exact hQ g' .normal a' w' (.of hl) hR' trivial
          · cases hk
        · exact h.elim
    | seq x y =>
      unfold xexec at h
      obtain ⟨⟨e, s⟩, h1, h⟩ := reach_xb h
      have r1 := xexec_reach (fun p hp => hd p (by simp [drawRegs, hp])) (fun b hb => hlp b (by simp [subloops, hb])) h1
      cases e with
      | normal => exact Runs.seq r1 (xexec_reach (fun p hp => hd p (by simp [drawRegs, hp])) (fun b hb => hlp b (by simp [subloops, hb])) h)
      | exit i => have h : q = (.exit i, s) := h; subst h; exact Runs.seq_left r1 (fun e => by cases e)
      | ret => have h : q = (.ret, s) := h; subst h; exact Runs.seq_left r1 (fun e => by cases e)
      | pan v => have h : q = (.pan v, s) := h; subst h; exact Runs.seq_left r1 (fun e => by cases e)
    | cond x y z =>
      unfold xexec at h
      dsimp only at h
      split at h
      · rename_i t ht
        obtain ⟨b, hb, h⟩ := reach_xb h
        have hb := snd_xcond b hb
        subst hb
        refine Runs.cond ht ?_
        cases t with
        | true => exact xexec_reach (fun p hp => hd p (by simp [drawRegs, hp])) (fun b hb => hlp b (by simp [subloops, hb])) h
        | false => exact xexec_reach (fun p hp => hd p (by simp [drawRegs, hp])) (fun b hb => hlp b (by simp [subloops, hb])) h
      · exact h.elim
    | block id b =>
      unfold xexec at h
      obtain ⟨⟨e, s⟩, h1, h⟩ := reach_xb h
      have h : q = (inBlk id e, s) := h
      subst h
      exact Runs.block (xexec_reach (fun p hp => hd p (by simp [drawRegs, hp])) (fun b hb => hlp b (by simp [subloops, hb])) h1)
    | loop b =>
      obtain ⟨e, s, h1, h⟩ := h
      have h : q = (e, s) := h
      subst h
      exact h1 (hlp b (by simp [subloops]))
    | _ => exact h.elim
end
end Go.Fw
