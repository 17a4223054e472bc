/- The operations, one by one: what the evaluator says of each is what the model does (1: copies, numbers, boxes, loads, stores). -/
import Derived.Test.YtcobacfinalleaaFwUse
import Derived.Laws.Cells
import Derived.Laws.CopyRow
import Derived.Laws.Tables
import Derived.ChangeKeysEq
import Derived.Laws.Entries
set_option linter.all false
namespace Go.Fw
open Go.RowKit

abbrev FW (ρ : Option Nat) : Fence := { Fence.wide with round := ρ }

section
variable {P : Program} {ρ : Option Nat} {n : Nat} {o : Oper} {a : Act} {w : World} {next : Act → World → Prop} {Q : Exit → Act → World → Prop}

theorem wp_value (hd : ∀ c, o.op ≠ .defer c) {v : Value} {w' : World} (h : (execOp a.eval o).run P w = .ok (.value v) w') (k : next (a.put o.dst v) w') : o.wpIn (FW ρ) n P a w next Q := by
  refine ⟨fun _ _ => trivial, ?_⟩
  rw [Oper.semAt_eq _ _ _ hd, h]
  exact k
theorem wp_skip_ (hd : ∀ c, o.op ≠ .defer c) {w' : World} (h : (execOp a.eval o).run P w = .ok .skip w') (k : next (a.put o.dst undef) w') : o.wpIn (FW ρ) n P a w next Q := by
  refine ⟨fun _ _ => trivial, ?_⟩
  rw [Oper.semAt_eq _ _ _ hd, h]
  exact k
theorem run_v {s : Sem Value} {v : Value} {w' : World} (h : s.run P w = .ok v w') : ((s >>= fun x => Pure.pure (Next.value x)) : Sem Next).run P w = .ok (.value v) w' := by
  simp [h]
end

/-! ### a copy, a taking, a look -/
section
variable {B τ : Nat} {g : Gh} {st : St} {a : Act} {w : World}

theorem ofVal_rep (g : Gh) (τ d : Nat) (v : Value) : RepS g τ d (ofVal v) v := by
  unfold ofVal
  split
  · split
    · rename_i cs h
      refine ⟨cs, rfl, by simp, fun j c hj hc => ?_⟩
      rw [List.getElem?_map] at hc
      obtain ⟨c0, hc0, rfl⟩ := Option.map_eq_some_iff.1 hc
      have e : c0 = cs[j] := by
        rw [Array.getElem?_toList, Array.getElem?_eq_getElem hj] at hc0
        exact (Option.some.inj hc0).symm
      subst e
      exact ofVal1_rep g _ _ (by rw [List.all_eq_true] at h; exact h _ (by simp))
    · exact trivial
  · exact trivial
  · rename_i h1 h2
    have h0 : v.oneCell' = true := by cases v <;> first | rfl | exact absurd rfl (h1 _) | exact absurd rfl (h2 _)
    have hc := ofVal1_rep g (.slot τ d 0 0) v h0
    have hn := hc.notAgg
    rw [repS_notTup (by intro vs e; rw [e] at hn; cases hn)]
    exact repA_cell hc

theorem isLin_ofVal1 (v : Value) : isLin1 (ofVal1 v) = false := by unfold ofVal1; split <;> rfl
theorem isLin_ofVal (v : Value) : isLin3 (ofVal v) = false := by
  unfold ofVal
  split
  · split
    · simp only [isLin3, isLin2]
      rw [List.any_eq_false]
      intro x hx
      obtain ⟨y, _, rfl⟩ := List.mem_map.1 hx
      simp [isLin_ofVal1]
    · rfl
  · rfl
  · rename_i v h1 h2
    unfold ofVal1
    split <;> rfl

theorem peek_rep (h : R B τ g st a w) (x : Operand) : ∃ d, RepS g τ d (st.peek x) (a.eval x) := by
  cases x with
  | tmp t => exact ⟨t, slot_of h t⟩
  | const v => exact ⟨0, ofVal_rep g τ 0 v⟩
  | global b => exact ⟨0, trivial⟩
  | func f => exact ⟨0, #[], #[], rfl, rfl, rfl, fun j c hj => absurd hj (by simp), fun j c hj => absurd hj (by simp)⟩

theorem use_sound (h : R B τ g st a w) (x : Operand) : ∃ g', Later B τ g g' w w ∧ R B τ g' (st.useS x) a w ∧ ∀ τ' d, RepS g' τ' d (st.useV x) (a.eval x) := by
  cases x with
  | tmp t =>
    have hs := RepS.shared (q := qSlot τ t) h.lin (fun j k => by simp [qSlot]) (slot_of h t)
    have hm := h.mark t
    refine ⟨_, later_share h t, ?_, hs.2⟩
    unfold St.useS
    dsimp only
    cases hl : isLin3 (getS st.fr t) with
    | true => rw [condB_true]; exact hm
    | false => rw [condB_false]; exact R.setSame hm (map3_of (fun _ h => mark1_of h) hl)
  | const v =>
    refine ⟨g, Later.refl .., h, fun τ' d => ?_⟩
    unfold St.useV St.peek
    rw [map3_of (fun _ h => demote1_of h) (isLin_ofVal v)]
    exact ofVal_rep g τ' d v
  | global b => exact ⟨g, Later.refl .., h, fun _ _ => trivial⟩
  | func f => exact ⟨g, Later.refl .., h, fun _ _ => ⟨#[], #[], rfl, rfl, rfl, fun j c hj => absurd hj (by simp), fun j c hj => absurd hj (by simp)⟩⟩

theorem take_sound (h : R B τ g st a w) (x : Operand) (d : Nat) : ∃ g', Later B τ g g' w w ∧ R B τ g' (st.takeS x) a w ∧ RepS g' τ d (st.peek x) (a.eval x) := by
  cases x with
  | tmp t =>
    have hf : ∀ p, (∀ j k, p ≠ .slot τ t j k) → fSlot τ t d p = p := by
      intro p hp
      cases p with
      | cell => rfl
      | slot τ' x j k =>
        have hn : ¬ (τ' = τ ∧ x = t) := by
          rintro ⟨rfl, rfl⟩
          exact hp j k rfl
        simp only [fSlot, if_neg hn]
    have hs := RepS.moved (f := fSlot τ t d) (d := d) (fun j k => by simp [fSlot]) (slot_of h t)
    have hm := h.drop t (fSlot τ t d) hf
    refine ⟨_, ren_later (fun τ' x j k hne => ?_), ?_, hs.1⟩
    · exact hf _ (by intro j' k' e; injection e with e _; exact hne e)
    · unfold St.takeS
      dsimp only
      cases hl : isLin3 (getS st.fr t) with
      | true => rw [condB_true]; exact hm
      | false => rw [condB_false]; exact R.setSame hm (map3_of (fun _ h => drop1_of h) hl)
  | const v => exact ⟨g, Later.refl .., h, ofVal_rep g τ d v⟩
  | global b => exact ⟨g, Later.refl .., h, trivial⟩
  | func f => exact ⟨g, Later.refl .., h, ⟨#[], #[], rfl, rfl, rfl, fun j c hj => absurd hj (by simp), fun j c hj => absurd hj (by simp)⟩⟩

/-- What is plain is what it stands for. -/
theorem toVal1_eq {g : Gh} {τ d : Nat} {v : V} {u x : Value} (h : RepS g τ d v u) (hx : toVal1 v = some x) : u = x := by
  unfold toVal1 at hx
  split at hx <;> first | (cases hx; simp only [RepS, RepA, RepC] at h; cases h; rfl) | cases hx

theorem put_sound (h : R B τ g st a w) {d : Option Tmp} {v : V} {u : Value} (hv : RepS g τ (d.getD 0) v u) : R B τ g (put st d v) (a.put d u) w := by
  cases d with
  | none => exact h
  | some d =>
    refine ⟨by simp [put, Act.put, h.size], fun i x hi hx => ?_, h.heap, h.mem, h.lin, h.base, h.defers⟩
    simp only [put, Act.put] at hx hi ⊢
    have hi' : i < a.tmps.size := by simpa using hi
    by_cases hid : i = d
    · subst hid
      rw [List.getElem?_set_self (by rw [h.size]; exact hi')] at hx
      cases hx
      simpa [Array.getElem_setIfInBounds, hi'] using hv
    · rw [List.getElem?_set_ne (fun e => hid e.symm)] at hx
      have := h.slots i x hi' hx
      have hdi : ¬ d = i := fun e => hid e.symm
      have e : (a.tmps.setIfInBounds d u)[i]'hi = a.tmps[i] := by rw [Array.getElem_setIfInBounds]; exact if_neg hdi
      rw [e]; exact this
end

/-! ### the operations -/
section
variable {C : Cx} {vb : FuncId → List V → List Blk → Option FOut} {f : FuncId} {ρ : Option Nat} {n : Nat} {o : Oper} {st : St} {α : Type} {k kp : V → St → Option α} {out : α}
  {B τ : Nat} {g : Gh} {a : Act} {w : World} {next : Act → World → Prop} {Q : Exit → Act → World → Prop}

/-- What is known behind an operation, where the evaluator goes on. -/
def Goes {α : Type} (B τ : Nat) (g : Gh) (a : Act) (w : World) (d : Option Tmp) (k : V → St → Option α) (out : α) (next : Act → World → Prop) : Prop :=
  ∀ v st' g' u w', Later B τ g g' w w' → R B τ g' st' a w' → RepS g' τ (d.getD 0) v u → k v st' = some out → next (a.put d u) w'

theorem op_move {x : Operand} (ho : o.op = .move x) (h : vop C vb f o st k kp = some out) (hR : R B τ g st a w) (hk : Goes B τ g a w o.dst k out next) : o.wpIn (FW ρ) n C.P a w next Q := by
  have hrun : (execOp a.eval o).run C.P w = .ok (.value (a.eval x)) w := by simp [execOp, ho]
  unfold vop at h
  rw [ho] at h
  dsimp only at h
  split at h
  · rename_i d hd
    split at h
    · rename_i vs hvs
      obtain ⟨g', h1, h2, h3⟩ := take_sound hR x d
      exact wp_value (by simp [ho]) hrun (hk _ _ g' _ w h1 h2 (by rw [hd]; rw [hvs] at h3; exact h3) h)
    · split at h
      · obtain ⟨g', h1, h2, h3⟩ := take_sound hR x d
        exact wp_value (by simp [ho]) hrun (hk _ _ g' _ w h1 h2 (by rw [hd]; exact h3) h)
      · obtain ⟨g', h1, h2, h3⟩ := use_sound hR x
        exact wp_value (by simp [ho]) hrun (hk _ _ g' _ w h1 h2 (h3 _ _) h)
  · cases h
theorem op_assign {x : Operand} (ho : o.op = .assign x) (h : vop C vb f o st k kp = some out) (hR : R B τ g st a w) (hk : Goes B τ g a w o.dst k out next) : o.wpIn (FW ρ) n C.P a w next Q := by
  have hrun : (execOp a.eval o).run C.P w = .ok (.value (a.eval x)) w := by simp [execOp, ho]
  unfold vop at h
  rw [ho] at h
  obtain ⟨g', h1, h2, h3⟩ := take_sound hR x (o.dst.getD 0)
  exact wp_value (by simp [ho]) hrun (hk _ _ g' _ w h1 h2 h3 h)

theorem rep_bool {g : Gh} {τ d : Nat} {b : Bool} {u : Value} (h : RepS g τ d (.bool b) u) : u = .bool b := by
  simp only [RepS, RepA, RepC] at h; cases h; rfl
theorem rep_int {g : Gh} {τ d : Nat} {k : IntKind} {b : Int} {u : Value} (h : RepS g τ d (.int k b) u) : u = .int k b := by
  simp only [RepS, RepA, RepC] at h; cases h; rfl
theorem rep_str {g : Gh} {τ d : Nat} {b : ByteArray} {u : Value} (h : RepS g τ d (.str b) u) : u = .string b := by
  simp only [RepS, RepA, RepC] at h; cases h; rfl

theorem op_pick {c x y : Operand} (ho : o.op = .pick c x y) (h : vop C vb f o st k kp = some out) (hR : R B τ g st a w) (hk : Goes B τ g a w o.dst k out next) : o.wpIn (FW ρ) n C.P a w next Q := by
  unfold vop at h
  rw [ho] at h
  dsimp only at h
  split at h
  · rename_i t ht
    obtain ⟨dc, hc⟩ := peek_rep hR c
    rw [ht] at hc
    have hc' := rep_bool hc
    rcases condB_cases h with ⟨e, h⟩ | ⟨e, h⟩
    · obtain ⟨g', h1, h2, h3⟩ := use_sound hR x
      exact wp_value (by simp [ho]) (by simp [execOp, ho, hc', e, asBool]) (hk _ _ g' _ w h1 h2 (h3 _ _) h)
    · obtain ⟨g', h1, h2, h3⟩ := use_sound hR y
      exact wp_value (by simp [ho]) (by simp [execOp, ho, hc', e, asBool]) (hk _ _ g' _ w h1 h2 (h3 _ _) h)
  · cases h

theorem rep_ptr {g : Gh} {τ d : Nat} {id off : Nat} {u : Value} (h : RepS g τ d (.ptr id off) u) : ∃ b, g.loc id = some b ∧ u = .pointer (some ⟨b, off, none⟩) := h
theorem rep_iptr {g : Gh} {τ d : Nat} {e : V} {off : Nat} {u : Value} (h : RepS g τ d (.iptr e off) u) : RepI g.mem (.iptr e off) u := h

theorem op_nilCheck {x : Operand} (ho : o.op = .nilCheck x) (h : vop C vb f o st k kp = some out) (hR : R B τ g st a w) (hk : Goes B τ g a w o.dst k out next) : o.wpIn (FW ρ) n C.P a w next Q := by
  obtain ⟨dx, hx⟩ := peek_rep hR x
  unfold vop at h
  rw [ho] at h
  dsimp only at h
  split at h
  · rename_i id off hp
    rw [hp] at hx
    obtain ⟨b, hb, hu⟩ := rep_ptr hx
    exact wp_value (by simp [ho]) (by simp [execOp, ho, hu]) (hk (.ptr id off) st g _ w (Later.refl ..) hR ⟨b, hb, rfl⟩ h)
  · rename_i e off hp
    rw [hp] at hx
    have hi := rep_iptr hx
    have hu : ∃ ad, a.eval x = .pointer (some ad) := by generalize a.eval x = u at hi; cases hi; exact ⟨_, rfl⟩
    obtain ⟨ad, hu⟩ := hu
    rw [hu] at hi
    exact wp_value (by simp [ho]) (by simp [execOp, ho, hu]) (hk (.iptr e off) st g _ w (Later.refl ..) hR hi h)
  · rename_i fn' a1 c1 hp
    rw [hp] at hx
    obtain ⟨x1, x2, hu, h1, h2, h3, h4⟩ := hx
    exact wp_value (by simp [ho]) (by simp [execOp, ho, hu]) (hk (.fn (.func fn') a1 c1) st g _ w (Later.refl ..) hR ⟨x1, x2, rfl, h1, h2, h3, h4⟩ h)
  · cases h

theorem ofVal1_repS {g : Gh} {τ d : Nat} {v : Value} (h : v.oneCell' = true) : RepS g τ d (ofVal1 v) v := by
  have hc := ofVal1_rep g (.slot τ d 0 0) v h
  have hn := hc.notAgg
  rw [repS_notTup (by intro vs e; rw [e] at hn; cases hn)]
  exact repA_cell hc
theorem ofVal1_repS' {g : Gh} {τ d : Nat} {v : Value} : RepS g τ d (ofVal1 v) v := by
  by_cases h : v.oneCell' = true
  · exact ofVal1_repS h
  · cases v <;> first | exact absurd rfl h | exact trivial

theorem op_unOp {op : UnOp} {t : TypeId} {x : Operand} (ho : o.op = .unOp op t x) (h : vop C vb f o st k kp = some out) (hR : R B τ g st a w) (hk : Goes B τ g a w o.dst k out next) : o.wpIn (FW ρ) n C.P a w next Q := by
  obtain ⟨dx, hx⟩ := peek_rep hR x
  unfold vop at h
  rw [ho] at h
  dsimp only at h
  split at h
  · rename_i v hv
    unfold vun at hv
    split at hv
    · rename_i x' hx'
      have e := toVal1_eq hx hx'
      obtain ⟨r, hr, rfl⟩ := Option.map_eq_some_iff.1 hv
      exact wp_value (by simp [ho]) (by simp [execOp, ho, e, quiet_run hr w]) (hk _ _ g _ w (Later.refl ..) hR ofVal1_repS' h)
    · cases hv
  · cases h
theorem op_convert {s t : TypeId} {x : Operand} (ho : o.op = .convert s t x) (h : vop C vb f o st k kp = some out) (hR : R B τ g st a w) (hk : Goes B τ g a w o.dst k out next) : o.wpIn (FW ρ) n C.P a w next Q := by
  obtain ⟨dx, hx⟩ := peek_rep hR x
  unfold vop at h
  rw [ho] at h
  dsimp only at h
  split at h
  · rename_i v hv
    unfold vconv at hv
    split at hv
    · rename_i x' hx'
      have e := toVal1_eq hx hx'
      obtain ⟨r, hr, rfl⟩ := Option.map_eq_some_iff.1 hv
      exact wp_value (by simp [ho]) (by simp [execOp, ho, e, quiet_run hr w]) (hk _ _ g _ w (Later.refl ..) hR ofVal1_repS' h)
    · cases hv
  · cases h
end
end Go.Fw
