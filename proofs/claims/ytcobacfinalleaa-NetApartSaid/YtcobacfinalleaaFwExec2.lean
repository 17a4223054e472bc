/- The code of a function. -/
import Derived.Test.YtcobacfinalleaaFwExec
set_option linter.all false
namespace Go.Fw
open Go.RowKit

/-- The regions of a code whose order is drawn. -/
def drawRegs : Code → List (Nat × Array Oper)
  | .region id ops true => [(id, ops)]
  | .seq a b => drawRegs a ++ drawRegs b
  | .cond _ a b => drawRegs a ++ drawRegs b
  | .block _ b => drawRegs b
  | .loop b => drawRegs b
  | _ => []

/-- What is to be known of a region whose order is drawn. -/
def DrawSound (C : Cx) (f : FuncId) (id : Nat) (ops : Array Oper) : Prop :=
  ∀ (un : List Nat), C.un f id = some un → ∀ (vb : Nat → FuncId → List V → List Blk → Option FOut) (st stf : St), (∀ i, VbSound C (vb i)) →
    ∀ (ks : St → Option FOut) (out : FOut), vdraw C vb f un st.h.length ops.toList (List.range ops.size) [] st ks = some out →
    ∀ (ρ : Option Nat) (n B τ : Nat) (g : Gh) (a : Act) (w : World) (Q : Exit → Act → World → Prop), R B τ g st a w →
    (∀ st' g' a' w', Later B τ g g' w w' → R B τ g' st' a' w' → ks st' = some out → Q .normal a' w') → (Code.region id ops true).wpIn (FW ρ) n C.P Q a w

section
variable {C : Cx} {vb : FuncId → List V → List Blk → Option FOut} {f : FuncId} {ρ : Option Nat} {n : Nat} {B τ : Nat}

theorem filterMap_range' {α : Type} : ∀ (l : List α) (k : Nat) (pre : List α), pre.length = k → (List.range' k l.length).filterMap (fun i => (pre ++ l)[i]?) = l
  | [], _, _, _ => rfl
  | x :: l, k, pre, h => by
    rw [List.length_cons, List.range'_succ, List.filterMap_cons]
    have : (pre ++ x :: l)[k]? = some x := by rw [List.getElem?_append_right (by omega), h]; simp
    rw [this]
    have ih := filterMap_range' l (k + 1) (pre ++ [x]) (by simp [h])
    rw [List.append_assoc] at ih
    exact congrArg (x :: ·) ih
theorem filterMap_range (ops : Array Oper) : (List.range ops.size).filterMap (ops[·]?) = ops.toList := by
  have := filterMap_range' ops.toList 0 [] rfl
  rw [List.range_eq_range']
  simpa using this

theorem vexec_sound (hvb : VbSound C vb) : ∀ (fuel : Nat) (c : Code) (st : St) (K : Ex → St → Option FOut) (out : FOut), (∀ p ∈ drawRegs c, DrawSound C f p.1 p.2) → vexec C vb f fuel c st K = some out →
    ∀ (g : Gh) (a : Act) (w : World) (Q : Exit → Act → World → Prop), R B τ g st a w →
    (∀ e st' g' e' a' w', Later B τ g g' w w' → R B τ g' st' a' w' → ExIs g' τ e e' → K e st' = some out → Q e' a' w') → c.wpIn (FW ρ) n C.P Q a w
  | 0, c, st, K, out, _, h, g, a, w, Q, hR, hQ => by cases h
  | fuel + 1, c, st, K, out, hd, h, g, a, w, Q, hR, hQ => by
    unfold vexec at h
    cases c with
    | skip => exact wpIn_skip (hQ .normal st g .normal a w (Later.refl ..) hR trivial h)
    | label l => exact wpIn_label (hQ .normal st g .normal a w (Later.refl ..) hR trivial h)
    | region id ops draw =>
      cases draw with
      | false =>
        refine wpIn_region (vops_sound (f := f) hvb (g := g) (w := w) (ks := K .normal) (kps := fun v st => K (.pan v) st) (out := out) (fun st' g' a' w' hl hR' hk => hQ .normal st' g' .normal a' w' hl hR' trivial hk)
          (fun v st' g' u a' w' d hl hR' hnl hv hk => hQ (.pan v) st' g' _ a' w' hl hR' ⟨u, d, rfl, hnl, hv⟩ hk) _ st g a w ?_ (Later.refl ..) hR)
        rw [filterMap_range]
        exact h
      | true =>
        dsimp only at h
        split at h
        · rename_i un hun
          exact hd (id, ops) (by simp [drawRegs]) un hun (fun _ => vb) st st (fun _ => hvb) _ out h ρ n B τ g a w Q hR (fun st' g' a' w' hl hR' hk => hQ .normal st' g' .normal a' w' hl hR' trivial hk)
        · cases h
    | seq x y =>
      refine wpIn_seq ?_
      refine vexec_sound hvb fuel x st _ out (fun p hp => hd p (by simp [drawRegs, hp])) h g a w _ hR (fun e st' g' e' a' w' hl hR' he hk => ?_)
      cases e <;> cases e' <;> first | exact he.elim | skip
      · exact vexec_sound hvb fuel y st' K out (fun p hp => hd p (by simp [drawRegs, hp])) hk g' a' w' Q hR' (fun e st2 g2 e2 a2 w2 hl2 hR2 he2 hk2 => hQ e st2 g2 e2 a2 w2 (hl.trans hl2) hR2 he2 hk2)
      · exact hQ _ st' g' _ a' w' hl hR' he hk
      · exact hQ _ st' g' _ a' w' hl hR' he hk
      · exact hQ _ st' g' _ a' w' hl hR' he hk
    | cond x y z =>
      dsimp only at h
      split at h
      · rename_i t ht
        obtain ⟨dx, hx⟩ := peek_rep hR x
        rw [ht] at hx
        have hx := rep_bool hx
        rcases condB_cases h with ⟨e, h'⟩ | ⟨e, h'⟩
        · exact wpIn_cond_true (by rw [hx, e]) (vexec_sound hvb fuel y st K out (fun p hp => hd p (by simp [drawRegs, hp])) h' g a w Q hR hQ)
        · exact wpIn_cond_false (by rw [hx, e]) (vexec_sound hvb fuel z st K out (fun p hp => hd p (by simp [drawRegs, hp])) h' g a w Q hR hQ)
      · cases h
    | block id b =>
      refine wpIn_block ?_
      refine vexec_sound hvb fuel b st _ out (fun p hp => hd p (by simp [drawRegs, hp])) h g a w _ hR (fun e st' g' e' a' w' hl hR' he hk => ?_)
      cases e <;> cases e' <;> first | exact he.elim | skip
      · exact hQ _ st' g' _ a' w' hl hR' he hk
      · rename_i i j
        have he : i = j := he
        subst he
        dsimp only at hk
        unfold Exit.inBlock
        dsimp only
        split at hk
        · rename_i hi
          rw [if_pos hi]
          exact hQ .normal st' g' .normal a' w' hl hR' trivial hk
        · rename_i hi
          rw [if_neg hi]
          exact hQ (.exit i) st' g' (.exit i) a' w' hl hR' rfl hk
      · exact hQ _ st' g' _ a' w' hl hR' he hk
      · exact hQ _ st' g' _ a' w' hl hR' he hk
    | loop b =>
      refine loop_rounds (Rn := fun j a' w' => j ≤ fuel + 1 ∧ ∃ st g1, Later B τ g g1 w w' ∧ R B τ g1 st a' w' ∧ vexec C vb f j (.loop b) st K = some out) (fun a w h => ?_) (fun j a1 w1 h1 => ?_) (j := fuel + 1) ⟨Nat.le_refl _, st, g, Later.refl .., hR, by unfold vexec; exact h⟩
      · obtain ⟨_, st, g1, _, _, h⟩ := h
        unfold vexec at h
        cases h
      · obtain ⟨hj, st1, g1, l1, R1, h1⟩ := h1
        unfold vexec at h1
        dsimp only at h1
        refine vexec_sound hvb j b st1 _ out (fun p hp => hd p (by simp [drawRegs, hp])) h1 g1 a1 w1 _ R1 (fun e st' g' e' a' w' hl hR' he hk => ?_)
        cases e <;> cases e' <;> first | exact he.elim | skip
        · exact ⟨by omega, st', g', l1.trans hl, hR', hk⟩
        · exact hQ _ st' g' _ a' w' (l1.trans hl) hR' he hk
        · exact hQ _ st' g' _ a' w' (l1.trans hl) hR' he hk
        · exact hQ _ st' g' _ a' w' (l1.trans hl) hR' he hk
    | exit id => exact wpIn_exit (hQ (.exit id) st g (.exit id) a w (Later.refl ..) hR rfl h)
    | ret => exact wpIn_ret (hQ .ret st g .ret a w (Later.refl ..) hR trivial h)
    | _ => cases h
termination_by fuel => fuel
decreasing_by all_goals omega
end
end Go.Fw
