/- The operations (4): stores, addresses, parts, tests. -/
import Derived.Test.YtcobacfinalleaaFwOps3
set_option linter.all false
namespace Go.Fw
open Go.RowKit

theorem splice_get {α : Type} (l vs : List α) (off j : Nat) (h : off + vs.length ≤ l.length) : (l.take off ++ vs ++ l.drop (off + vs.length))[j]? = if off ≤ j ∧ j < off + vs.length then vs[j - off]? else l[j]? := by
  by_cases h1 : j < off
  · rw [if_neg (by omega), List.append_assoc, List.getElem?_append_left (by simp; omega), List.getElem?_take, if_pos h1]
  · by_cases h2 : j < off + vs.length
    · rw [if_pos (by omega), List.append_assoc, List.getElem?_append_right (by simp; omega), List.getElem?_append_left (by simp; omega)]
      congr 1; simp; omega
    · rw [if_neg (by omega), List.getElem?_append_right (by simp; omega), List.getElem?_drop]
      congr 1; simp; omega

section
variable {B τ : Nat} {g : Gh} {st : St} {a : Act} {w : World}

theorem write_blk (h : R B τ g st a w) {id b : Nat} {cs cs' : List V} {e : TypeId} {cur cur' : Array Value} (hb : g.loc id = some b) (hcs : st.h[id]? = some (.cells cs e)) (hcur : w.heap[b]? = some (.cells cur e (0, 0)))
    (hl : cs'.length ≤ cur'.size) (hrep : ∀ (j : Nat) (c : V) (hj : j < cur'.size), cs'[j]? = some c → RepC g (.cell id j) c cur'[j]) :
    Later B τ g g w (w.setRow b cur') ∧ R B τ g { st with h := st.h.set id (.cells cs' e) } a (w.setRow b cur') := by
  obtain ⟨f1, f2, f3, f4⟩ := h.heap.fresh id b hb
  have hne : ∀ x, (g.mem x).isSome = true ∨ (g.lin x).isSome = true → x ≠ b := by
    intro x hx e
    subst e
    rw [f3, f4] at hx
    simp at hx
  refine ⟨⟨below_setRow (Below.refl _ _) f1 _, MemLe.refl _, fun _ _ => rfl, fun _ _ h => h, fun _ _ h _ => h⟩, h.size, h.slots, ⟨?_, h.heap.inj, ?_, ?_⟩, ⟨?_⟩, ⟨?_⟩, by simpa using h.base, h.defers⟩
  · intro id' b' hb'; have := h.heap.bound id' b' hb'; simpa using this
  · intro id' b' hb'
    obtain ⟨h1, h2, h3, h4⟩ := h.heap.fresh id' b' hb'
    exact ⟨h1, by simpa using h2, h3, h4⟩
  · intro id' b' cs0 e0 hb' he
    by_cases hid : id' = id
    · subst hid
      rw [hb] at hb'; cases hb'
      have hlt := h.heap.bound id' b hb
      rw [List.getElem?_set_self hlt] at he
      cases he
      exact ⟨cur', setRow_heap w b cur cur' e (0, 0) hcur, hl, hrep⟩
    · rw [List.getElem?_set_ne (fun e => hid e.symm)] at he
      obtain ⟨cur0, h1, h2, h3⟩ := h.heap.blk id' b' cs0 e0 hb' he
      refine ⟨cur0, ?_, h2, h3⟩
      rw [setRow_other w b b' cur' (fun e => hid (h.heap.inj id' id b (e ▸ hb') hb))]
      exact h1
  · intro x xs hx
    obtain ⟨cur0, e0, fr, h1, h2⟩ := h.mem.at_ x xs hx
    exact ⟨cur0, e0, fr, by rw [setRow_other w b x cur' (hne x (.inl (by simp [hx])))]; exact h1, h2⟩
  · intro x i hx
    obtain ⟨h1, ⟨cur0, h2, h3, h4⟩, h5⟩ := h.lin.at_ x i hx
    exact ⟨h1, ⟨cur0, by rw [setRow_other w b x cur' (hne x (.inr (by simp [hx])))]; exact h2, h3, h4⟩, h5⟩

theorem takeS_h (st : St) (x : Operand) : (st.takeS x).h = st.h := by
  cases x <;> first | rfl | skip
  simp only [St.takeS]
  cases isLin3 (getS st.fr _) <;> simp [condB_true, condB_false]
theorem useS_h (st : St) (x : Operand) : (st.useS x).h = st.h := by
  cases x <;> first | rfl | skip
  simp only [St.useS]
  cases isLin3 (getS st.fr _) <;> simp [condB_true, condB_false]
end

section
variable {C : Cx} {vb : FuncId → List V → List Blk → Option FOut} {f : FuncId} {ρ : Option Nat} {n : Nat} {o : Oper} {st : St} {α : Type} {k kp : V → St → Option α} {out : α}
  {B τ : Nat} {g : Gh} {a : Act} {w : World} {next : Act → World → Prop} {Q : Exit → Act → World → Prop}

theorem op_store {t : TypeId} {p x : Operand} (ho : o.op = .store t p x) (h : vop C vb f o st k kp = some out) (hR : R B τ g st a w) (hk : Goes B τ g a w o.dst k out next) : o.wpIn (FW ρ) n C.P a w next Q := by
  obtain ⟨dx, hx⟩ := peek_rep hR p
  unfold vop at h
  rw [ho] at h
  dsimp only at h
  split at h
  · rename_i m hm
    have hdst : o.dst = none := by
      by_cases hd : o.dst = none
      · exact hd
      · rw [if_neg hd] at hm; cases hm
    rw [if_pos hdst] at hm
    split at h
    · rename_i id off hp
      rw [hp] at hx
      obtain ⟨b, hb, hu⟩ := rep_ptr hx
      split at h
      · rename_i cs e hcs
        split at h
        · rename_i hcond
          obtain ⟨hok, hvl, hle⟩ := hcond
          obtain ⟨g', l1, hR', hloc, hcl, hrep⟩ := take_cells hR x id off hok
          have hb' : g'.loc id = some b := by rw [hloc]; exact hb
          have hcs' : (st.takeS x).h[id]? = some (.cells cs e) := by rw [takeS_h]; exact hcs
          obtain ⟨cur, hcur, hlc, hrep0⟩ := hR'.heap.blk id b cs e hb' hcs'
          have hul : (a.eval x).cells.toList.length = m := by rw [Array.length_toList, ← hcl]; exact hvl
          have hone : ∀ v ∈ (a.eval x).cells.toList, v.oneCell' = true := by
            intro v hv
            obtain ⟨j, hj, rfl⟩ := List.mem_iff_getElem.1 hv
            have hj' : j < (a.eval x).cells.size := by simpa using hj
            have := hrep j ((st.peek x).cells[j]'(by rw [hcl]; exact hj')) hj' (List.getElem?_eq_getElem _)
            simpa using this.one
          have hst := run_storeCells_at (P := C.P) b off e (a.eval x).cells.toList 0 cur w hcur (by omega) hone
          simp only [Nat.add_zero] at hst
          generalize hcur' : (cur.toList.take off ++ (a.eval x).cells.toList ++ cur.toList.drop (off + (a.eval x).cells.toList.length)).toArray = cur' at hst
          have hsz : cur'.size = cur.size := by rw [← hcur']; simp; omega
          have hat : ∀ (j : Nat) (hj : j < cur'.size), (∃ h1 : j - off < (a.eval x).cells.size, off ≤ j ∧ j < off + m ∧ cur'[j] = (a.eval x).cells[j - off]) ∨ ((j < off ∨ off + m ≤ j) ∧ cur'[j] = cur[j]'(by omega)) := by
            intro j hj
            have hsz' : (a.eval x).cells.size = m := by simpa using hul
            have hg : cur'[j]? = if off ≤ j ∧ j < off + m then (a.eval x).cells.toList[j - off]? else cur.toList[j]? := by
              rw [← hcur', ← hul]
              simpa using splice_get cur.toList (a.eval x).cells.toList off j (by rw [hul, Array.length_toList]; omega)
            rw [Array.getElem?_eq_getElem hj] at hg
            by_cases h1 : off ≤ j ∧ j < off + m
            · rw [if_pos h1, Array.getElem?_toList, Array.getElem?_eq_getElem (by omega)] at hg
              exact .inl ⟨by omega, h1.1, h1.2, Option.some.inj hg⟩
            · rw [if_neg h1, Array.getElem?_toList, Array.getElem?_eq_getElem (by omega)] at hg
              exact .inr ⟨by omega, Option.some.inj hg⟩
          obtain ⟨l2, hR''⟩ := write_blk hR' (cs' := setAt cs off (st.peek x).cells) (cur' := cur') hb' hcs' hcur (by rw [length_setAt, hsz]; exact hlc) (fun j c hj hc => by
            rw [getElem?_setAt _ _ _ _ (by rw [hvl]; exact hle), hvl] at hc
            rcases hat j hj with ⟨h1, h2, h3, h4⟩ | ⟨h1, h2⟩
            · rw [if_pos ⟨h2, h3⟩] at hc
              rw [h4]
              have := hrep (j - off) c h1 hc
              rwa [show off + (j - off) = j by omega] at this
            · rw [if_neg (by omega)] at hc
              rw [h2]
              exact hrep0 j c (by omega) hc)
          refine wp_skip_ (by simp [ho]) (w' := w.setRow b cur') ?_ (hk .undef _ g' _ _ (l1.trans l2) hR'' trivial h)
          simp [execOp, ho, hu, Instr.storeAt, Instr.sureAddr, storeVar, sizeT_some hm w, hst]
          simpa using hul
        · cases h
      · cases h
    · cases h
  · cases h

theorem fieldT_some {P : Program} {t : TypeId} {j : Nat} {x : Field} (h : fieldT P t j = some x) : ∃ fs, P.underlying t = some (.struct fs) ∧ fs[j]? = some x := by
  unfold fieldT at h
  split at h
  · exact ⟨_, by assumption, h⟩
  · cases h

theorem fieldPlace_run {P : Program} (b off : Nat) (x : Field) {m : Nat} (hm : sizeT P x.type = some (m + 1)) (w : World) : (fieldPlace ⟨b, off, none⟩ x).run P w = .ok ⟨b, off + x.offset, none⟩ w := by
  simp [fieldPlace, sizeT_some hm w, addr_add]

theorem op_fieldAddr {s : TypeId} {x : Operand} {j : Nat} (ho : o.op = .fieldAddr s x j) (h : vop C vb f o st k kp = some out) (hR : R B τ g st a w) (hk : Goes B τ g a w o.dst k out next) : o.wpIn (FW ρ) n C.P a w next Q := by
  obtain ⟨dx, hx⟩ := peek_rep hR x
  unfold vop at h
  rw [ho] at h
  dsimp only at h
  split at h
  · rename_i fl hfl
    obtain ⟨fs, hu, hfs⟩ := fieldT_some hfl
    split at h
    · rename_i m hm
      split at h
      · rename_i id off hp
        rw [hp] at hx
        obtain ⟨b, hb, hux⟩ := rep_ptr hx
        exact wp_value (by simp [ho]) (v := .pointer (some ⟨b, off + fl.offset, none⟩)) (w' := w) (by simp [execOp, ho, Instr.fieldAt, run_underlying hu, hfs, hux, Instr.sureAddr, fieldPlace_run b off fl hm w])
          (hk (.ptr id (off + fl.offset)) st g _ w (Later.refl ..) hR ⟨b, hb, rfl⟩ h)
      · rename_i e off hp
        rw [hp] at hx
        have hi := rep_iptr hx
        generalize hux : a.eval x = u at hi
        cases hi with
        | iptr _ _ b base val hs hv =>
          exact wp_value (by simp [ho]) (v := .pointer (some ⟨b, base + off + fl.offset, none⟩)) (w' := w) (by simp [execOp, ho, Instr.fieldAt, run_underlying hu, hfs, hux, Instr.sureAddr, fieldPlace_run b (base + off) fl hm w])
            (hk (.iptr e (off + fl.offset)) st g _ w (Later.refl ..) hR (by rw [Nat.add_assoc]; exact RepI.iptr e (off + fl.offset) b base val hs hv) h)
      · cases h
    · cases h
  · cases h

theorem op_extract {x : Operand} {i : Nat} (ho : o.op = .extract x i) (h : vop C vb f o st k kp = some out) (hR : R B τ g st a w) (hk : Goes B τ g a w o.dst k out next) : o.wpIn (FW ρ) n C.P a w next Q := by
  unfold vop at h
  rw [ho] at h
  dsimp only at h
  split at h
  · rename_i t
    split at h
    · rename_i vs hvs
      split at h
      · rename_i v hv
        have hs := slot_of hR t
        rw [hvs] at hs
        obtain ⟨cs, hcs, hl, hrep⟩ := hs
        have hi : i < cs.size := by rw [← hl]; exact (List.getElem?_eq_some_iff.1 hv).1
        -- it is taken out of its place
        let d := o.dst.getD 0
        let fm : Place → Place := fun p => match p with
          | .slot τ' y j kk => if τ' = τ ∧ y = t ∧ kk = i + 1 then .slot τ d j 0 else .slot τ' y j kk
          | p => p
        have hf : ∀ p, (∀ j kk, p ≠ .slot τ t j kk) → fm p = p := by
          intro p hp
          cases p with
          | cell => rfl
          | slot τ' y j kk =>
            have hn : ¬ (τ' = τ ∧ y = t ∧ kk = i + 1) := by
              rintro ⟨rfl, rfl, rfl⟩
              exact hp j _ rfl
            show (if _ then _ else _) = _
            rw [if_neg hn]
        have hmv := (hrep i v hi hv).moved (f := fm) (pl' := fun j => .slot τ d j 0) (fun j => by show (if _ then _ else _) = _; rw [if_pos ⟨rfl, rfl, rfl⟩])
        have htt : t < a.tmps.size := by
          rcases Nat.lt_or_ge t a.tmps.size with h1 | h1
          · exact h1
          · rw [getS_out (by rw [hR.size]; exact h1)] at hvs; cases hvs
        have hR' : R B τ (g.ren fm) { st with fr := st.fr.set t (.tup (vs.set i (map2 drop1 v))) } a w := by
          refine ⟨by simpa using hR.size, fun i' v' hi' hv' => ?_, ren_heap (fun _ _ => rfl) hR.heap, hR.mem, ren_lin hR.lin, hR.base, hR.defers⟩
          by_cases hit : i' = t
          · subst hit
            rw [List.getElem?_set_self (by rw [hR.size]; exact hi')] at hv'
            cases hv'
            have hcs' : a.tmps[i'] = .tuple cs := by simpa [Array.getD, hi'] using hcs
            refine ⟨cs, hcs', by simpa using hl, fun kk c hkk hc => ?_⟩
            by_cases hki : kk = i
            · subst hki
              rw [List.getElem?_set_self (by rw [hl]; exact hi)] at hc
              cases hc
              exact hmv.2
            · rw [List.getElem?_set_ne (fun e => hki e.symm)] at hc
              refine RepA.mono (g := g) (g' := g.ren fm) (MemLe.refl _) (fun _ _ h => h) (fun j b x hx hp => lin_ren_of hx ?_) (hrep kk c hkk hc)
              rw [hp]
              show (if _ then _ else _) = _
              rw [if_neg (by rintro ⟨_, _, e⟩; omega)]
          · rw [List.getElem?_set_ne (fun e => hit e.symm)] at hv'
            refine RepS.mono (g := g) (g' := g.ren fm) (MemLe.refl _) (fun _ _ h => h) (fun j kk b x hx hp => lin_ren_of hx ?_) (hR.slots i' v' hi' hv')
            rw [hp]
            exact hf (.slot τ i' j kk) (by intro j' k' e; injection e with _ e; exact hit e)
        have hval : (execOp a.eval o).run C.P w = .ok (.value cs[i]) w := by
          have : a.eval (.tmp t) = .tuple cs := hcs
          simp [execOp, ho, this, Instr.extract, hi]
        by_cases htup : ∃ ws, v = .tup ws
        · obtain ⟨ws, rfl⟩ := htup
          exact (hrep i _ hi hv).elim
        · refine wp_value (by simp [ho]) hval (hk v _ (g.ren fm) _ w (ren_later (fun τ' y j kk hne => hf (.slot τ' y j kk) (by intro j' k' e; injection e with e _; exact hne e))) hR' ?_ h)
          rw [repS_notTup (fun ws e => htup ⟨ws, e⟩)]
          exact hmv.1
      · cases h
    · cases h
  · cases h

theorem slen_rep {g : Gh} {τ d : Nat} {v : V} {u : Value} {m : Nat} (h : RepS g τ d v u) (hm : slen v = some m) : (∃ a c, u = .slice a m c) ∨ (∃ s, u = .string s ∧ s.size = m) := by
  unfold slen at hm
  split at hm <;> cases hm <;> simp only [RepS, RepA, RepC] at h
  · cases h; exact .inl ⟨_, _, rfl⟩
  · cases h; exact .inl ⟨_, _, rfl⟩
  · cases h <;> exact .inl ⟨_, _, rfl⟩
  · rcases h with ⟨b, i, _, _, _, _, rfl, _⟩ | ⟨rfl, _, ad, rfl⟩ <;> exact .inl ⟨_, _, rfl⟩
  · rcases h with ⟨b, c, _, rfl, _⟩ | ⟨rfl, _, ad, rfl⟩ <;> exact .inl ⟨_, _, rfl⟩
  · cases h; exact .inr ⟨_, rfl, rfl⟩
end
end Go.Fw
