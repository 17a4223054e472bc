/- The operations (9): parts of slices and texts. -/
import Derived.Test.YtcobacfinalleaaFwOps8
set_option linter.all false
namespace Go.Fw
open Go.RowKit

section
variable {C : Cx} {vb : FuncId → List V → List Blk → Option FOut} {f : FuncId} {ρ : Option Nat} {n : Nat} {o : Oper} {st : St} {α : Type} {k kp : V → St → Option α} {out : α}
  {B τ : Nat} {g : Gh} {a : Act} {w : World} {next : Act → World → Prop} {Q : Exit → Act → World → Prop}

theorem optInt_sound (h : R B τ g st a w) {y : Option Operand} {r : Option Int} (hr : optInt id (y.map st.peek) = some r) : (y = none ∧ r = none) ∨ ∃ x i kk, y = some x ∧ r = some i ∧ a.eval x = .int kk i := by
  cases y with
  | none => simp only [optInt, Option.map_none] at hr; cases hr; exact .inl ⟨rfl, rfl⟩
  | some x =>
    simp only [optInt, Option.map_some, id] at hr
    obtain ⟨i, hi, rfl⟩ := Option.map_eq_some_iff.1 hr
    obtain ⟨d, hd⟩ := peek_rep h x
    generalize st.peek x = v at hi hd
    cases v <;> simp only [intOf?] at hi <;> cases hi
    exact .inr ⟨x, _, _, rfl, rfl, rep_int hd⟩

theorem run_slice_str {P : Program} {t : TypeId} (ht : P.underlying t = some .string) (s : ByteArray) (l h : Nat) (hl : l ≤ h) (hh : h ≤ s.size)
    (lo hi : Option Value) (h1 : (lo = none ∧ l = 0) ∨ ∃ kk, lo = some (.int kk l)) (h2 : (hi = none ∧ h = s.size) ∨ ∃ kk, hi = some (.int kk h)) (w : World) :
    (Instr.sliceAt t (.string s) lo hi none).run P w = .ok (.string (s.extract l h)) w := by
  rw [run_sliceAt_string w t _ _ _ _ ht]
  simp only [Instr.slice, Sem.run_bind, run_underlying ht, Result.andThen_ok]
  simp only [Instr.sliceBounds]
  rcases h1 with ⟨rfl, rfl⟩ | ⟨k1, rfl⟩ <;> rcases h2 with ⟨rfl, rfl⟩ | ⟨k2, rfl⟩ <;>
    simp [run_sliceBound, hl, hh, Int.ofNat_le]

theorem op_slice_own {t : TypeId} {x : Operand} {lo hi mx : Option Operand} {bid off len room : Nat} (ho : o.op = .slice t x lo hi mx) (hp : st.peek x = .own bid off len room)
    (h : (match optInt id (lo.map st.peek), optInt id (hi.map st.peek), optInt id (mx.map st.peek), (elemT C.P t).bind (sizeT C.P) with
      | some l, some h, some m, some sz => if mx.isSome && hi.isNone then none else condB (decide (0 ≤ l.getD 0 ∧ l.getD 0 ≤ h.getD len ∧ h.getD len ≤ m.getD (max len room) ∧ m.getD (max len room) ≤ (max len room : Nat)))
          (k (.own bid (off + (l.getD 0).toNat * sz) ((h.getD len).toNat - (l.getD 0).toNat) ((m.getD (max len room)).toNat - (l.getD 0).toNat)) st) none
      | _, _, _, _ => none) = some out) (hR : R B τ g st a w) (hk : Goes B τ g a w o.dst k out next) : o.wpIn (FW ρ) n C.P a w next Q := by
  split at h
  · rename_i l0 h0 m0 sz hl0 hh0 hm0 hsz
    have sl := optInt_sound hR hl0
    have sh := optInt_sound hR hh0
    have sm := optInt_sound hR hm0
    split at h
    · cases h
    · rename_i hmh
      rcases condB_cases h with ⟨hc, h⟩ | ⟨_, h⟩
      · simp only [decide_eq_true_eq] at hc
        obtain ⟨c0, c1, c2, c3⟩ := hc
        obtain ⟨e, ht, hm⟩ := bindT hsz
        obtain ⟨L, eL⟩ := Int.eq_ofNat_of_zero_le c0
        obtain ⟨H, eH⟩ := Int.eq_ofNat_of_zero_le (Int.le_trans c0 c1)
        obtain ⟨M, eM⟩ := Int.eq_ofNat_of_zero_le (Int.le_trans (Int.le_trans c0 c1) c2)
        rw [eL, eH, eM] at h
        rw [eL, eH] at c1
        rw [eH, eM] at c2
        rw [eM] at c3
        simp only [Int.toNat_natCast] at h
        have hLH : L ≤ H := by omega
        have hHM : H ≤ M := by omega
        have hMc : M ≤ max len room := by omega
        have e1 : (lo.map a.eval = none ∧ L = 0) ∨ ∃ kk, lo.map a.eval = some (.int kk L) := by
          rcases sl with ⟨rfl, rfl⟩ | ⟨y, i, kk, rfl, rfl, ey⟩
          · left; simp at eL ⊢; omega
          · right; simp at eL; subst eL; exact ⟨kk, by simp [ey]⟩
        have e2 : (hi.map a.eval = none ∧ H = len ∧ mx.map a.eval = none) ∨ ∃ kk, hi.map a.eval = some (.int kk H) := by
          rcases sh with ⟨rfl, rfl⟩ | ⟨y, i, kk, rfl, rfl, ey⟩
          · left
            simp at eH
            refine ⟨rfl, by omega, ?_⟩
            cases mx with
            | none => rfl
            | some z => simp at hmh
          · right; simp at eH; subst eH; exact ⟨kk, by simp [ey]⟩
        obtain ⟨dx, hx⟩ := peek_rep hR x
        rw [hp] at hx
        have fin : ∀ (ad : Option Addr) (cap Mr : Nat), a.eval x = .slice ad len cap → H ≤ Mr → Mr ≤ cap → ((mx.map a.eval = none ∧ Mr = cap) ∨ ∃ kk, mx.map a.eval = some (.int kk Mr)) → RepS g τ (o.dst.getD 0) (.own bid (off + L * sz) (H - L) (M - L)) (sliced ad L H Mr sz) → o.wpIn (FW ρ) n C.P a w next Q := by
          intro ad cap Mr eu q1 q2 q3 hr
          refine wp_value (by simp [ho]) (v := sliced ad L H Mr sz) (w' := w) ?_ (hk _ st g _ w (Later.refl ..) hR hr h)
          have hrun := run_slice_gen (P := C.P) ht hm ad len cap L H Mr hLH q1 q2 _ _ _ e1 e2 q3 w
          rw [← eu] at hrun
          simp [execOp, ho, hrun]
        rcases hx with ⟨b, cap, hl, eu, hlc, hcm, hrm⟩ | ⟨rfl, rfl, ad, eu⟩
        · have hcap : max len room ≤ cap := by omega
          obtain ⟨Mr, r1, r2, r3, r4⟩ : ∃ Mr, H ≤ Mr ∧ Mr ≤ cap ∧ ((mx.map a.eval = none ∧ Mr = cap) ∨ ∃ kk, mx.map a.eval = some (.int kk Mr)) ∧ M ≤ Mr := by
            rcases sm with ⟨rfl, rfl⟩ | ⟨y, i, kk, rfl, rfl, ey⟩
            · exact ⟨cap, by omega, Nat.le_refl _, .inl ⟨rfl, rfl⟩, by omega⟩
            · simp at eM; subst eM; exact ⟨M, hHM, by omega, .inr ⟨kk, by simp [ey]⟩, Nat.le_refl _⟩
          refine fin _ cap Mr eu r1 r2 r3 ?_
          unfold sliced
          by_cases hml : Mr = L
          · rw [if_pos hml]
            exact .inr ⟨by omega, by omega, _, by rw [show H - L = 0 by omega, show Mr - L = 0 by omega]⟩
          · rw [if_neg hml]
            simp only [Option.map_some, addr_add]
            exact .inl ⟨b, Mr - L, hl, rfl, by omega, by omega, by omega⟩
        · have hM0 : M = 0 := by simpa using hMc
          obtain rfl : H = 0 := by omega
          obtain rfl : L = 0 := by omega
          subst hM0
          obtain ⟨Mr, r1, r3⟩ : ∃ Mr : Nat, Mr = 0 ∧ ((mx.map a.eval = none ∧ Mr = 0) ∨ ∃ kk, mx.map a.eval = some (.int kk Mr)) := by
            rcases sm with ⟨rfl, rfl⟩ | ⟨y, i, kk, rfl, rfl, ey⟩
            · exact ⟨0, rfl, .inl ⟨rfl, rfl⟩⟩
            · simp at eM; subst eM; exact ⟨0, rfl, .inr ⟨kk, by simp [ey]⟩⟩
          subst r1
          refine fin ad 0 0 eu (Nat.le_refl _) (Nat.le_refl _) r3 ?_
          exact .inr ⟨rfl, rfl, ad, by simp [sliced]⟩
      · cases h
  · cases h

theorem op_slice {t : TypeId} {x : Operand} {lo hi mx : Option Operand} (ho : o.op = .slice t x lo hi mx) (h : vop C vb f o st k kp = some out) (hR : R B τ g st a w) (hk : Goes B τ g a w o.dst k out next) : o.wpIn (FW ρ) n C.P a w next Q := by
  unfold vop at h
  rw [ho] at h
  dsimp only at h
  split at h
  · rename_i bid off len room hp
    exact op_slice_own ho hp h hR hk
  rename_i hnown
  split at h
  · rename_i l0 h0 m0 hl0 hh0 hm0
    have sl := optInt_sound hR hl0
    have sh := optInt_sound hR hh0
    have sm := optInt_sound hR hm0
    split at h
    · rename_i r l hh nn v hv
      -- what is asked of the places
      have hcond : ∃ (_ : 0 ≤ l ∧ l ≤ hh ∧ hh ≤ nn) (_ : ∀ m, m0 = some m → m = hh), k v (st.useS x) = some out := by
        split at h
        · rcases condB_cases h with ⟨hc, h⟩ | ⟨_, h⟩
          · simp only [decide_eq_true_eq] at hc
            exact ⟨hc, (fun m hm => by cases hm), h⟩
          · cases h
        · rcases condB_cases h with ⟨hc, h⟩ | ⟨_, h⟩
          · simp only [decide_eq_true_eq] at hc
            exact ⟨⟨hc.1, hc.2.1, hc.2.2.1⟩, (fun m hm => by cases hm; exact hc.2.2.2), h⟩
          · cases h
      obtain ⟨⟨c0, c1, c2⟩, cm, h'⟩ := hcond
      obtain ⟨L, rfl⟩ := Int.eq_ofNat_of_zero_le c0
      obtain ⟨H, rfl⟩ := Int.eq_ofNat_of_zero_le (by omega : 0 ≤ hh)
      have hLH : L ≤ H := by omega
      have hHn : H ≤ nn := by omega
      obtain ⟨g', l1, hR', hrep⟩ := use_sound hR x
      have hx := hrep 0 0
      have hrun : ∀ u, (Instr.sliceAt t (a.eval x) (lo.map a.eval) (hi.map a.eval) (mx.map a.eval)).run C.P w = .ok u w → RepS g' τ (o.dst.getD 0) v u → o.wpIn (FW ρ) n C.P a w next Q := by
        intro u hr hu
        exact wp_value (by simp [ho]) (v := u) (w' := w) (by simp [execOp, ho, hr]) (hk v _ g' u w l1 hR' hu h')
      have e1 : l0.getD 0 = (L : Int) → (lo.map a.eval = none ∧ L = 0) ∨ ∃ kk, lo.map a.eval = some (.int kk L) := by
        intro e
        rcases sl with ⟨rfl, rfl⟩ | ⟨y, i, kk, rfl, rfl, ey⟩
        · left; simp at e ⊢; omega
        · right; simp at e; subst e; exact ⟨kk, by simp [ey]⟩
      unfold vslice at hv
      split at hv
      · cases hv
      · rename_i hmh
        have hmh' : mx ≠ none → hi ≠ none := by
          intro h1 h2
          subst h2
          rcases sh with ⟨_, rfl⟩ | ⟨y, i, kk, e, _⟩
          · rcases sm with ⟨e, _⟩ | ⟨y, i, kk, rfl, rfl, _⟩
            · exact h1 e
            · simp at hmh
          · cases e
        have e2 : ∀ len : Nat, h0.getD len = (H : Int) → (hi.map a.eval = none ∧ H = len ∧ mx.map a.eval = none) ∨ ∃ kk, hi.map a.eval = some (.int kk H) := by
          intro len e
          rcases sh with ⟨rfl, rfl⟩ | ⟨y, i, kk, rfl, rfl, ey⟩
          · left
            simp at e
            refine ⟨rfl, by omega, ?_⟩
            cases mx with
            | none => rfl
            | some z => exact absurd rfl (hmh' (by simp))
          · right; simp at e; subst e; exact ⟨kk, by simp [ey]⟩
        have e3 : ∀ cap : Nat, H ≤ cap → ∃ M : Nat, H ≤ M ∧ M ≤ cap ∧ ((mx.map a.eval = none ∧ M = cap) ∨ ∃ kk, mx.map a.eval = some (.int kk M)) ∧ (m0.isSome = true → M = H) ∧ (m0 = none → M = cap) := by
          intro cap hc
          rcases sm with ⟨rfl, rfl⟩ | ⟨y, i, kk, rfl, rfl, ey⟩
          · exact ⟨cap, hc, Nat.le_refl _, .inl ⟨rfl, rfl⟩, (fun h => by cases h), fun _ => rfl⟩
          · have := cm i rfl
            subst this
            exact ⟨H, Nat.le_refl _, hc, .inr ⟨kk, by simp [ey]⟩, (fun _ => rfl), (fun h => by cases h)⟩
        split at hv
        · -- nil
          rename_i e ht hp
          split at hv
          · rename_i hsz
            simp only [Option.some.injEq, Prod.mk.injEq] at hv
            obtain ⟨v1, v2, rfl, rfl⟩ := hv
            obtain ⟨m, hm⟩ := Option.isSome_iff_exists.1 hsz
            have hH : H = 0 := by omega
            subst hH
            have hL : L = 0 := by omega
            subst hL
            have hux : a.eval x = .slice none 0 0 := by
              obtain ⟨d, hd⟩ := peek_rep hR x
              rw [hp] at hd
              exact rep_nils hd
            obtain ⟨M, m1, m2, m3, _, _⟩ := e3 0 (Nat.le_refl _)
            have hM : M = 0 := by omega
            subst hM
            refine hrun (.slice none 0 0) ?_ (RepI.nils)
            rw [hux, run_slice_gen (P := C.P) ht hm none 0 0 0 0 0 (Nat.le_refl _) (Nat.le_refl _) (Nat.le_refl _) (lo.map a.eval) (hi.map a.eval) (mx.map a.eval) (e1 v1) (e2 0 (by cases h0 <;> simp_all)) m3 w]
            rfl
          · cases hv
        · rename_i e full m xs ht hp
          split at hv
          · rename_i hm
            simp only [Option.some.injEq, Prod.mk.injEq] at hv
            obtain ⟨v1, v2, rfl, ev⟩ := hv
            rw [show st.useV x = .imm full m xs by unfold St.useV; rw [hp]; rfl] at hx
            have hi' := rep_imm hx
            obtain ⟨ad, cap, eu, hcl, hfl⟩ : ∃ ad cap, a.eval x = .slice ad xs.length cap ∧ xs.length ≤ cap ∧ (full = true → cap = xs.length) := by
              generalize a.eval x = u at hi'
              cases hi' with
              | imm _ _ b off cap _ val hc hf => exact ⟨_, cap, rfl, hc, hf⟩
              | none0 => exact ⟨none, 0, rfl, Nat.le_refl _, fun _ => rfl⟩
            obtain ⟨M, m1, m2, m3, m4, m5⟩ := e3 cap (by omega)
            have hres := rep_part (full' := m0.isSome || (full && h0.isNone)) hi' eu hLH hHn m1 m2 (by
              intro hff
              simp only [Bool.or_eq_true, Bool.and_eq_true] at hff
              rcases hff with hff | ⟨hff, hn⟩
              · exact m4 hff
              · cases m0 with
                | some z => exact m4 rfl
                | none =>
                  have hnn : h0 = none := by cases h0 <;> simp_all
                  subst hnn
                  simp at v2
                  rw [m5 rfl, hfl hff]; omega)
            refine hrun (sliced ad L H M m) ?_ ?_
            · rw [eu]
              exact run_slice_gen (P := C.P) ht hm _ xs.length cap L H M hLH m1 m2 _ _ _ (e1 v1) (e2 xs.length v2) m3 w
            · rw [← ev, v1, v2, Int.toNat_natCast, Int.toNat_natCast]
              exact hres.1
          · cases hv
        · rename_i e pr et m xs ht hp
          split at hv
          · rename_i hm
            simp only [Option.some.injEq, Prod.mk.injEq] at hv
            obtain ⟨v1, v2, rfl, ev⟩ := hv
            rw [show st.useV x = .imm false m xs by unfold St.useV; rw [hp]; rfl] at hx
            have hi' := rep_imm hx
            obtain ⟨ad, cap, eu, hcl, hfl⟩ : ∃ ad cap, a.eval x = .slice ad xs.length cap ∧ xs.length ≤ cap ∧ (false = true → cap = xs.length) := by
              generalize a.eval x = u at hi'
              cases hi' with
              | imm _ _ b off cap _ val hc hf => exact ⟨_, cap, rfl, hc, hf⟩
              | none0 => exact ⟨none, 0, rfl, Nat.le_refl _, fun _ => rfl⟩
            obtain ⟨M, m1, m2, m3, m4, m5⟩ := e3 cap (by omega)
            have hres := rep_part (full' := m0.isSome) hi' eu hLH hHn m1 m2 (by
              intro hff; exact m4 hff)
            refine hrun (sliced ad L H M m) ?_ ?_
            · rw [eu]
              exact run_slice_gen (P := C.P) ht hm _ xs.length cap L H M hLH m1 m2 _ _ _ (e1 v1) (e2 xs.length v2) m3 w
            · rw [← ev, v1, v2, Int.toNat_natCast, Int.toNat_natCast]
              exact hres.1
          · cases hv
        · rename_i s ht hp
          split at hv
          · rename_i hmn
            simp only [Option.some.injEq, Prod.mk.injEq] at hv
            obtain ⟨v1, v2, rfl, ev⟩ := hv
            have hux : a.eval x = .string s := by
              obtain ⟨d, hd⟩ := peek_rep hR x
              rw [hp] at hd
              exact rep_str hd
            have hmx : mx = none := by
              rcases sm with ⟨e, _⟩ | ⟨y, i, kk, _, e, _⟩
              · exact e
              · subst e; cases hmn
            subst hmx
            refine hrun (.string (s.extract L H)) ?_ ?_
            · rw [hux]
              refine run_slice_str (P := C.P) ht s L H hLH hHn (lo.map a.eval) (hi.map a.eval) (e1 v1) ?_ w
              rcases e2 s.size v2 with ⟨h1, h2, _⟩ | h1
              · exact .inl ⟨h1, h2⟩
              · exact .inr h1
            · rw [← ev, v1, v2, Int.toNat_natCast, Int.toNat_natCast]
              exact RepI.str _
          · cases hv
        · cases hv
    · cases h
  · cases h
end
end Go.Fw
