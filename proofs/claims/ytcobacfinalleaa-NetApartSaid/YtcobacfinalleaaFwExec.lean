/- All operations; a list of them with their guards; the code of a function. -/
import Derived.Test.YtcobacfinalleaaFwCall2
set_option linter.all false
namespace Go.Fw
open Go.RowKit

section
variable {C : Cx} {vb : FuncId → List V → List Blk → Option FOut} {f : FuncId} {ρ : Option Nat} {n : Nat} {o : Oper} {st : St} {α : Type} {k kp : V → St → Option α} {out : α}
  {B τ : Nat} {g : Gh} {a : Act} {w : World} {next : Act → World → Prop} {Q : Exit → Act → World → Prop}

theorem vop_sound (hvb : VbSound C vb) (h : vop C vb f o st k kp = some out) (hR : R B τ g st a w) (hk : Goes B τ g a w o.dst k out next) (hp : Pans B τ g a w kp out Q) : o.wpIn (FW ρ) n C.P a w next Q := by
  cases ho : o.op with
  | move x => exact op_move ho h hR hk
  | assign x => exact op_assign ho h hR hk
  | pick c x y => exact op_pick ho h hR hk
  | alloc t => exact op_alloc ho h hR hk
  | box t x => exact op_box ho h hR hk
  | build t p => exact op_build ho h hR hk
  | buildSlice t m p => exact op_buildSlice ho h hR hk
  | load t x => exact op_load ho h hR hk
  | store t p x => exact op_store ho h hR hk
  | nilCheck x => exact op_nilCheck ho h hR hk
  | binOp op t x y t' => exact op_binOp ho h hR hk
  | unOp op t x => exact op_unOp ho h hR hk
  | convert s t x => exact op_convert ho h hR hk
  | makeFunc g x y => exact op_makeFunc ho h hR hk
  | makeSlice t l c => exact op_makeSlice ho h hR hk
  | slice t x l m c => exact op_slice ho h hR hk
  | fieldAddr s x j => exact op_fieldAddr ho h hR hk
  | field s x j => exact op_field ho h hR hk
  | indexAddr t x i => exact op_indexAddr ho h hR hk
  | index t x i => exact op_index ho h hR hk
  | extract x i => exact op_extract ho h hR hk
  | call c =>
    cases hb : c.callee with
    | value g0 => exact op_call hvb ho hb h hR hk hp
    | invoke r m => exfalso; unfold vop at h; rw [ho] at h; dsimp only at h; rw [hb] at h; cases h
    | builtin b => cases b <;> first | exact op_len ho hb h hR hk | exact op_append ho hb h hR hk | exact op_clear ho hb h hR hk | (exfalso; unfold vop at h; rw [ho] at h; dsimp only at h; rw [hb] at h; cases h)
  | _ => exfalso; unfold vop at h; rw [ho] at h; cases h

theorem wanted_none {o : Oper} {y : Nat → Option Bool} (h : o.guard = none) : Region.wanted o y = true := by unfold Region.wanted; rw [h]

/-- The guards, as they are read. -/
theorem wanted_sound {ops : Array Oper} (hR : R B τ g st a w) {j : Nat} {want b : Bool} (hg : o.guard = some (j, want)) (h : wantedV ops.toList st.fr j want = some b) : Region.wanted o (yielded ops a.tmps) = b := by
  unfold Region.wanted
  rw [hg]
  dsimp only
  unfold wantedV at h
  unfold yielded
  rw [Array.getElem?_toList] at h
  split at h
  · rename_i hd
    rw [hd]
    cases h
    rfl
  · rename_i d hd
    rw [hd]
    have hs := slot_of hR d
    simp only [Option.bind_some]
    split at h
    · rename_i x hx
      rw [hx] at hs
      have := rep_bool hs
      rw [Array.getD_eq_getD_getElem?] at this
      cases hh : a.tmps[d]? with
      | none => rw [hh] at this; simp [undef] at this
      | some u =>
        rw [hh] at this
        simp only [Option.getD_some] at this
        subst this
        cases h
        cases x <;> cases want <;> rfl
    · rename_i hx
      rw [hx] at hs
      obtain ⟨cs, e, h1, _⟩ := hs
      have hz : cs = #[] := by apply Array.eq_empty_of_size_eq_zero; rw [← h1]; rfl
      subst hz
      cases h
      rw [Array.getD_eq_getD_getElem?] at e
      cases hh : a.tmps[d]? with
      | none => rfl
      | some u =>
        rw [hh] at e
        simp only [Option.getD_some] at e
        subst e
        rfl
    · cases h

/-- Behind an operation that is not carried out. -/
theorem skip_sound (hR : R B τ g st a w) (d : Option Tmp) : R B τ g (put st d (.tup [])) (a.put d undef) w :=
  put_sound hR (v := .tup []) ⟨#[], rfl, rfl, fun k c hk => absurd hk (by simp)⟩

theorem vops_sound (hvb : VbSound C vb) {ops : Array Oper} {ks : St → Option FOut} {kps : V → St → Option FOut} {out : FOut}
    (hn : ∀ st' g' a' w', Later B τ g g' w w' → R B τ g' st' a' w' → ks st' = some out → Q .normal a' w')
    (hpn : ∀ v st' g' u a' w' d, Later B τ g g' w w' → R B τ g' st' a' w' → isLin3 v = false → RepS g' τ d v u → kps v st' = some out → Q (.panic [{ v := u, recovered := false }]) a' w') :
    ∀ (l : List Nat) (st : St) (g1 : Gh) (a1 : Act) (w1 : World), vops C vb f ops.toList (l.filterMap (ops[·]?)) st ks kps = some out → Later B τ g g1 w w1 → R B τ g1 st a1 w1 → wpOpsIn (FW ρ) n C.P ops Q l a1 w1
  | [], st, g1, a1, w1, h, hl, hR => hn st g1 a1 w1 hl hR h
  | i :: l, st, g1, a1, w1, h, hl, hR => by
    unfold wpOpsIn
    cases ho : ops[i]? with
    | none =>
      rw [List.filterMap_cons, ho] at h
      exact vops_sound hvb hn hpn l st g1 a1 w1 h hl hR
    | some o =>
      rw [List.filterMap_cons, ho] at h
      dsimp only at h ⊢
      unfold vops at h
      have run : ∀ st, vop C vb f o st (fun v st => vops C vb f ops.toList (l.filterMap (ops[·]?)) (put st o.dst v) ks kps) kps = some out → R B τ g1 st a1 w1 → o.wpIn (FW ρ) n C.P a1 w1 (wpOpsIn (FW ρ) n C.P ops Q l) Q := by
        intro st h hR
        refine vop_sound hvb h hR (fun v st' g' u w' hl' hR' hv hkk => ?_) (fun v st' g' u w' d hl' hR' hnl hv hkk => ?_)
        · exact vops_sound hvb hn hpn l _ g' _ w' hkk (hl.trans hl') (put_sound hR' hv)
        · exact hpn v st' g' u a1 w' d (hl.trans hl') hR' hnl hv hkk
      split at h
      · rename_i hg
        rw [if_pos (wanted_none hg)]
        exact run st h hR
      · rename_i j want hg
        split at h
        · rename_i b hw
          have hws := wanted_sound hR hg hw
          rcases condB_cases h with ⟨e, h'⟩ | ⟨e, h'⟩
          · rw [e] at hws
            rw [if_pos hws]
            exact run st h' hR
          · rw [e] at hws
            rw [if_neg (by rw [hws]; simp)]
            exact ⟨fun _ _ => trivial, vops_sound hvb hn hpn l _ g1 _ w1 h' hl (skip_sound hR _)⟩
        · cases h

/-- How the code is left, in both. -/
def ExIs (g : Gh) (τ : Nat) : Ex → Exit → Prop
  | .normal, .normal => True
  | .exit i, .exit j => i = j
  | .ret, .ret => True
  | .pan v, .panic ch => ∃ u d, ch = [{ v := u, recovered := false }] ∧ isLin3 v = false ∧ RepS g τ d v u
  | _, _ => False

theorem least {p : Nat → Prop} : ∀ (n j : Nat), j ≤ n → p j → ∃ m, p m ∧ ∀ k, p k → m ≤ k
  | 0, j, hj, h => ⟨0, by have : j = 0 := by omega
                          exact this ▸ h, fun k _ => Nat.zero_le k⟩
  | n + 1, j, hj, h => by
    by_cases hk : ∃ k, k ≤ n ∧ p k
    · obtain ⟨k, h1, h2⟩ := hk
      exact least n k h1 h2
    · refine ⟨j, h, fun k hp => ?_⟩
      have : ¬ k ≤ n := fun h => hk ⟨k, h, hp⟩
      omega

theorem loop_rounds {F : Fence} {P : Program} {c : Code} {Rn : Nat → Act → World → Prop} (h0 : ∀ a w, ¬ Rn 0 a w) (hs : ∀ j a w, Rn (j + 1) a w → c.wpIn F n P (Exit.then (Rn j) Q) a w) {j : Nat} (h : Rn j a w) : (Code.loop c).wpIn F n P Q a w := by
  classical
  have lst : ∀ a w, (∃ j, Rn j a w) → ∃ m, Rn m a w ∧ ∀ k, Rn k a w → m ≤ k := fun a w ⟨j, hj⟩ => least (p := fun j => Rn j a w) j j (Nat.le_refl _) hj
  refine wpIn_loop (fun a w => ∃ j, Rn j a w) (fun a w => if h : ∃ j, Rn j a w then Classical.choose (lst a w h) else 0) ⟨j, h⟩ (fun a w hI => ?_)
  have hf := Classical.choose_spec (lst a w hI)
  obtain ⟨m, hm⟩ : ∃ m, Classical.choose (lst a w hI) = m + 1 := by
    cases hh : Classical.choose (lst a w hI) with
    | zero => rw [hh] at hf; exact absurd hf.1 (h0 a w)
    | succ m => exact ⟨m, rfl⟩
  have hf1 := hf.1
  rw [hm] at hf1
  refine wpIn_mono (hs m a w hf1) (fun e a' w' he => ?_)
  cases e <;> try exact he
  have hI' : ∃ j, Rn j a' w' := ⟨m, he⟩
  refine ⟨hI', ?_⟩
  rw [dif_pos hI, dif_pos hI', hm]
  exact Nat.lt_succ_of_le ((Classical.choose_spec (lst a' w' hI')).2 m he)
end
end Go.Fw
