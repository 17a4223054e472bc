/- The operations (5): tests, lengths, letters, closures. -/
import Derived.Test.YtcobacfinalleaaFwOps4
import Derived.Laws.StructEq
set_option linter.all false
namespace Go.Fw
open Go.RowKit

def valT (b : Bool) (us : List Value) : Value := if b then .agg us.toArray else us.headD undef

def Cells (g : Gh) (xs : List V) (us : List Value) : Prop := xs.length = us.length ∧ ∀ (j : Nat) (c : V) (u : Value), xs[j]? = some c → us[j]? = some u → ∃ p, RepC g p c u
theorem Cells.part {g : Gh} {xs : List V} {us : List Value} (h : Cells g xs us) (off n : Nat) : Cells g ((xs.drop off).take n) ((us.drop off).take n) := by
  refine ⟨by simp [h.1], fun j c u hc hu => ?_⟩
  rw [takeDrop_get] at hc hu
  split at hc
  · rename_i hj
    rw [if_pos hj] at hu
    exact h.2 _ c u hc hu
  · cases hc
theorem Cells.one {g : Gh} {x : V} {us : List Value} (h : Cells g [x] us) : ∃ u p, us = [u] ∧ RepC g p x u := by
  match us, h.1 with
  | [u], _ =>
    obtain ⟨p, hp⟩ := h.2 0 x u rfl rfl
    exact ⟨u, p, rfl, hp⟩

theorem run_part {P : Program} {t : TypeId} {b : Bool} {n : Nat} (hb : isAggT P t = some b) (hn : sizeT P t = some n) (us : List Value) (off : Nat) (h1 : b = false → off < us.length ∧ 0 < n) (w : World) :
    (part t us.toArray off).run P w = .ok (valT b ((us.drop off).take n)) w := by
  unfold part valT
  simp only [Sem.run_bind, isAggT_some hb w, Result.andThen_ok]
  cases b with
  | true =>
    simp only [if_true, Sem.run_bind, sizeT_some hn w, Result.andThen_ok, Sem.run_pure]
    congr 2
    rw [← Array.toList_inj]
    simp [List.extract_eq_take_drop]
  | false =>
    obtain ⟨hlt, hn0⟩ := h1 rfl
    obtain ⟨m, rfl⟩ : ∃ m, n = m + 1 := ⟨n - 1, by omega⟩
    have : (us.drop off).take (m + 1) = us[off] :: (us.drop (off + 1)).take m := by
      rw [List.drop_eq_getElem_cons hlt]; rfl
    rw [this]
    simp [List.getElem?_eq_getElem hlt]

theorem eqPlain_run {P : Program} {g : Gh} : ∀ (d : Nat) (t : TypeId) (xs ys : List V) (r : Bool) (us vs : List Value), eqPlain P d t xs ys = some r → Cells g xs us → Cells g ys vs → ∀ (e : Nat), d ≤ e → ∀ (w : World),
    ∃ b, isAggT P t = some b ∧ (b = false → xs.length = 1 ∧ ys.length = 1) ∧ (Op.equalIn e t (valT b us) (valT b vs)).run P w = .ok r w := by
  intro d
  induction d with
  | zero => intro t xs ys r us vs h; cases h
  | succ d ih =>
    intro t xs ys r us vs h hx hy e he w
    obtain ⟨e, rfl⟩ : ∃ m, e = m + 1 := ⟨e - 1, by omega⟩
    simp only [eqPlain] at h
    split at h
    · rename_i a b ht
      cases h
      obtain ⟨u, p, rfl, hu⟩ := hx.one
      obtain ⟨v, q, rfl, hv⟩ := hy.one
      simp only [RepC] at hu hv
      cases hu; cases hv
      exact ⟨false, by simp [isAggT, ht], fun _ => ⟨rfl, rfl⟩, run_equalIn_bool' w e t a b ht⟩
    · rename_i k0 k a k' b ht
      split at h
      · rename_i hkk
        subst hkk
        cases h
        obtain ⟨u, p, rfl, hu⟩ := hx.one
        obtain ⟨v, q, rfl, hv⟩ := hy.one
        simp only [RepC] at hu hv
        cases hu; cases hv
        exact ⟨false, by simp [isAggT, ht], fun _ => ⟨rfl, rfl⟩, run_equalIn_int w e t _ _ a b ht⟩
      · cases h
    · rename_i a b ht
      cases h
      obtain ⟨u, p, rfl, hu⟩ := hx.one
      obtain ⟨v, q, rfl, hv⟩ := hy.one
      simp only [RepC] at hu hv
      cases hu; cases hv
      exact ⟨false, by simp [isAggT, ht], fun _ => ⟨rfl, rfl⟩, run_equalIn_string w e t a b ht⟩
    · rename_i fs ht
      split at h
      · cases h
      · rename_i hst
        refine ⟨true, by simp [isAggT, ht], (fun h => by cases h), ?_⟩
        have hf : P.fieldsOf t = fs := by simp [Program.fieldsOf, ht]
        show (Op.equalIn (e + 1) t (.agg us.toArray) (.agg vs.toArray)).run P w = _
        rw [run_equalIn_struct (P := P) w e t us.toArray vs.toArray (by rw [hf]; exact ht) (by simpa using hst), hf]
        clear ht hf hst
        generalize fs.toList = fl at h
        induction fl generalizing r with
        | nil => simp only [eqFs] at h; cases h; simp [Op.eqFields]
        | cons fd fl ihf =>
          simp only [eqFs] at h
          rw [Op.eqFields]
          by_cases hn : fd.name = "_"
          · rw [if_pos hn] at h
            rw [if_neg (by simp [hn])]
            exact ihf r h
          · rw [if_neg hn] at h
            rw [if_pos hn]
            split at h
            · rename_i n hsz
              split at h
              · rename_i ra rb hra hrb
                cases h
                obtain ⟨b, hb, h1, hrun⟩ := ih fd.type _ _ ra _ _ hra (hx.part fd.offset n) (hy.part fd.offset n) e (by omega) w
                have hb1 := hb
                have hx1 : b = false → fd.offset < us.length ∧ 0 < n := fun hbf => by
                  have h1' := (h1 hbf).1
                  rw [List.length_take, List.length_drop] at h1'
                  have := hx.1
                  omega
                have hy1 : b = false → fd.offset < vs.length ∧ 0 < n := fun hbf => by
                  have h1' := (h1 hbf).2
                  rw [List.length_take, List.length_drop] at h1'
                  have := hy.1
                  omega
                simp only [Sem.run_bind, run_part hb hsz us fd.offset hx1 w, run_part hb hsz vs fd.offset hy1 w, hrun, Result.andThen_ok]
                cases ra
                · simp
                · simpa using ihf rb hrb
              · cases h
            · cases h
    · cases h

section
variable {C : Cx} {vb : FuncId → List V → List Blk → Option FOut} {f : FuncId} {ρ : Option Nat} {n : Nat} {o : Oper} {st : St} {α : Type} {k kp : V → St → Option α} {out : α}
  {B τ : Nat} {g : Gh} {a : Act} {w : World} {next : Act → World → Prop} {Q : Exit → Act → World → Prop}

theorem cellsS {g : Gh} {τ d : Nat} {xs : List V} {u : Value} (h : RepS g τ d (.agg xs) u) : ∃ us : List Value, u = .agg us.toArray ∧ Cells g xs us := by
  obtain ⟨cs, rfl, h1, h2⟩ := h
  refine ⟨cs.toList, rfl, by simpa using h1, fun j c x hc hx => ?_⟩
  rw [Array.getElem?_toList] at hx
  obtain ⟨hj, rfl⟩ := Array.getElem?_eq_some_iff.1 hx
  exact ⟨_, h2 j c hj hc⟩

theorem guard_agg {P : Program} {op : BinOp} {t : TypeId} {x y : Operand} {us vs : Array Value} (hg : P.eqGuardType P.depth t = false) (w : World) : (eqGuard op t x y (.agg us) (.agg vs)).run P w = .ok () w := by
  unfold eqGuard
  cases op <;> simp [hg]
theorem guard_plain {P : Program} {op : BinOp} {t : TypeId} {x y : Operand} {u v : Value} (h1 : u.oneCell' = true) (h2 : u ≠ .nilIface ∨ v ≠ .nilIface) (w : World) : (eqGuard op t x y u v).run P w = .ok () w := by
  unfold eqGuard
  cases op <;> cases u <;> cases v <;> first | rfl | (simp at h1; done) | (cases h1; done) | (exfalso; rcases h2 with h2 | h2 <;> exact h2 rfl)
theorem equal_nil {P : Program} {t e : TypeId} (he : elemT P t = some e) (w : World) (d : Nat) (ad : Addr) (l c : Nat) : (Op.equalIn (d + 1) t (.slice none 0 0) (.slice (some ad) l c)).run P w = .ok false w ∧ (Op.equalIn (d + 1) t (.slice (some ad) l c) (.slice none 0 0)).run P w = .ok false w := by
  have : P.underlying t = some (.slice e) := by
    unfold elemT at he
    split at he
    · cases he; assumption
    · cases he
  exact ⟨by simp [Op.equalIn, run_underlying this], by simp [Op.equalIn, run_underlying this]⟩
theorem equal_eq (t : TypeId) (x y : Value) : Op.equal t x y = Op.equalIn (9999 + 1) t x y := rfl

theorem rep_slice {g : Gh} {τ d : Nat} {v : V} {u : Value} (h : RepS g τ d v u) (hv : v = .nne ∨ (∃ b n x xs, v = .imm b n (x :: xs)) ∨ (∃ b e n x xs, v = .lin b e n (x :: xs)) ∨ ∃ i j l r, v = .own i j (l + 1) r) : ∃ ad l c, u = .slice (some ad) l c := by
  rcases hv with rfl | ⟨b, n, x, xs, rfl⟩ | ⟨b, e, n, x, xs, rfl⟩ | ⟨i, j, l, r, rfl⟩ <;> simp only [RepS, RepA, RepC] at h
  · cases h; exact ⟨_, _, _, rfl⟩
  · cases h; exact ⟨_, _, _, rfl⟩
  · rcases h with ⟨_, _, _, _, _, _, rfl, _⟩ | ⟨h, _⟩
    · exact ⟨_, _, _, rfl⟩
    · cases h
  · rcases h with ⟨_, _, _, rfl, _⟩ | ⟨h, _⟩
    · exact ⟨_, _, _, rfl⟩
    · cases h

theorem rep_nils {g : Gh} {τ d : Nat} {u : Value} (h : RepS g τ d .nils u) : u = .slice none 0 0 := by
  simp only [RepS, RepA, RepC] at h; cases h; rfl

theorem sliceT {P : Program} {t : TypeId} {e : TypeId} (h : elemT P t = some e) : P.underlying t = some (.slice e) := by
  unfold elemT at h
  split at h
  · cases h; assumption
  · cases h

theorem op_binOp {op : BinOp} {t t' : TypeId} {x y : Operand} (ho : o.op = .binOp op t x y t') (h : vop C vb f o st k kp = some out) (hR : R B τ g st a w) (hk : Goes B τ g a w o.dst k out next) : o.wpIn (FW ρ) n C.P a w next Q := by
  obtain ⟨dx, hx⟩ := peek_rep hR x
  obtain ⟨dy, hy⟩ := peek_rep hR y
  unfold vop at h
  rw [ho] at h
  dsimp only at h
  split at h
  · rename_i v hv
    unfold vbin at hv
    have fin : ∀ (u : Value), RepS g τ (o.dst.getD 0) v u → ((do eqGuard op t x y (a.eval x) (a.eval y); binOp op t (a.eval x) (a.eval y)) : Sem Value).run C.P w = .ok u w → o.wpIn (FW ρ) n C.P a w next Q := by
      intro u hu hr
      refine wp_value (by simp [ho]) (v := u) (w' := w) ?_ (hk v st g u w (Later.refl ..) hR hu h)
      simp only [execOp, ho]
      exact run_v hr
    have agg : ∀ (xs ys : List V) (r : Bool), st.peek x = .agg xs → st.peek y = .agg ys → ¬ (C.P.eqGuardType C.P.depth t = true ∨ isAggT C.P t ≠ some true) → eqPlain C.P 40 t xs ys = some r →
        ∃ us vs : Array Value, a.eval x = .agg us ∧ a.eval y = .agg vs ∧ (eqGuard op t x y (.agg us) (.agg vs)).run C.P w = .ok () w ∧ (Op.equal t (.agg us) (.agg vs)).run C.P w = .ok r w := by
      intro xs ys r hxs hys hg hr
      rw [hxs] at hx; rw [hys] at hy
      obtain ⟨us, eu, cu⟩ := cellsS hx
      obtain ⟨vs, ev, cv⟩ := cellsS hy
      obtain ⟨b, hb, _, hrun⟩ := eqPlain_run 40 t xs ys r us vs hr cu cv (9999 + 1) (by omega) w
      have h1 : isAggT C.P t = some true := by
        cases hh : isAggT C.P t with
        | none => exact absurd (.inr (by simp [hh])) hg
        | some z => cases z with
          | true => rfl
          | false => exact absurd (.inr (by simp [hh])) hg
      rw [h1] at hb
      cases hb
      exact ⟨_, _, eu, ev, guard_agg (by cases hh : C.P.eqGuardType C.P.depth t with | true => exact absurd (.inl hh) hg | false => rfl) w, by rw [equal_eq]; exact hrun⟩
    split at hv
    · rename_i xs ys hxs hys
      split at hv
      · cases hv
      · rename_i hg
        obtain ⟨r, hr, rfl⟩ := Option.map_eq_some_iff.1 hv
        obtain ⟨us, vs, eu, ev, g1, g2⟩ := agg xs ys r hxs hys hg hr
        refine fin (.bool r) (RepI.bool r) ?_
        rw [eu, ev]
        simp only [Sem.run_bind, g1, Result.andThen_ok, binOp, g2]
        rfl
    · rename_i xs ys hxs hys
      split at hv
      · cases hv
      · rename_i hg
        obtain ⟨r, hr, rfl⟩ := Option.map_eq_some_iff.1 hv
        obtain ⟨us, vs, eu, ev, g1, g2⟩ := agg xs ys r hxs hys hg hr
        refine fin (.bool !r) (RepI.bool (!r)) ?_
        rw [eu, ev]
        simp only [Sem.run_bind, g1, Result.andThen_ok, binOp, g2]
        rfl
    · split at hv
      · rename_i b hb
        split at hv
        · rename_i hes
          obtain ⟨e, he⟩ := Option.isSome_iff_exists.1 hes
          have hcase : b = false ∧ ((a.eval x = .slice none 0 0 ∧ ∃ ad l c, a.eval y = .slice (some ad) l c) ∨ (a.eval y = .slice none 0 0 ∧ ∃ ad l c, a.eval x = .slice (some ad) l c)) := by
            unfold nilEq at hb
            split at hb <;> cases hb <;> refine ⟨rfl, ?_⟩ <;> rename_i e1 e2 <;> rw [e1] at hx <;> rw [e2] at hy
            · exact .inl ⟨rep_nils hx, rep_slice hy (.inl rfl)⟩
            · exact .inr ⟨rep_nils hy, rep_slice hx (.inl rfl)⟩
            · exact .inl ⟨rep_nils hx, rep_slice hy (.inr (.inl ⟨_, _, _, _, rfl⟩))⟩
            · exact .inl ⟨rep_nils hx, rep_slice hy (.inr (.inr (.inl ⟨_, _, _, _, _, rfl⟩)))⟩
            · exact .inl ⟨rep_nils hx, rep_slice hy (.inr (.inr (.inr ⟨_, _, _, _, rfl⟩)))⟩
            · exact .inr ⟨rep_nils hy, rep_slice hx (.inr (.inl ⟨_, _, _, _, rfl⟩))⟩
            · exact .inr ⟨rep_nils hy, rep_slice hx (.inr (.inr (.inl ⟨_, _, _, _, _, rfl⟩)))⟩
            · exact .inr ⟨rep_nils hy, rep_slice hx (.inr (.inr (.inr ⟨_, _, _, _, rfl⟩)))⟩
          obtain ⟨rfl, hcase⟩ := hcase
          split at hv
          · rcases hcase with ⟨e1, ad, l, c, e2⟩ | ⟨e1, ad, l, c, e2⟩ <;> rw [e1, e2] at fin <;> cases hv <;> refine fin (.bool false) (RepI.bool false) ?_
            · simp only [Sem.run_bind, guard_plain (P := C.P) (t := t) (x := x) (y := y) (u := .slice none 0 0) (v := .slice (some ad) l c) rfl (.inl (by intro e; cases e)) w, Result.andThen_ok, binOp, equal_eq, (equal_nil he w 9999 ad l c).1]; rfl
            · simp only [Sem.run_bind, guard_plain (P := C.P) (t := t) (x := x) (y := y) (u := .slice (some ad) l c) (v := .slice none 0 0) rfl (.inl (by intro e; cases e)) w, Result.andThen_ok, binOp, equal_eq, (equal_nil he w 9999 ad l c).2]; rfl
          · rcases hcase with ⟨e1, ad, l, c, e2⟩ | ⟨e1, ad, l, c, e2⟩ <;> rw [e1, e2] at fin <;> cases hv <;> refine fin (.bool true) (RepI.bool true) ?_
            · simp only [Sem.run_bind, guard_plain (P := C.P) (t := t) (x := x) (y := y) (u := .slice none 0 0) (v := .slice (some ad) l c) rfl (.inl (by intro e; cases e)) w, Result.andThen_ok, binOp, equal_eq, (equal_nil he w 9999 ad l c).1]; rfl
            · simp only [Sem.run_bind, guard_plain (P := C.P) (t := t) (x := x) (y := y) (u := .slice (some ad) l c) (v := .slice none 0 0) rfl (.inl (by intro e; cases e)) w, Result.andThen_ok, binOp, equal_eq, (equal_nil he w 9999 ad l c).2]; rfl
          · cases hv
        · cases hv
      · split at hv
        · cases hv
        · cases hv
        · rename_i u1 u2 n1 n2 h1 h2
          have e1 := toVal1_eq hx h1
          have e2 := toVal1_eq hy h2
          obtain ⟨r, hr, rfl⟩ := Option.map_eq_some_iff.1 hv
          have one : u1.oneCell' = true := by
            unfold toVal1 at h1
            split at h1 <;> cases h1 <;> rfl
          refine fin r ofVal1_repS' ?_
          rw [e1, e2]
          simp only [Sem.run_bind, guard_plain (P := C.P) (t := t) (x := x) (y := y) one (.inl (fun e => by subst e; exact n1 rfl)) w, Result.andThen_ok, quiet_run hr w]
        · cases hv
  · cases h
end
end Go.Fw
