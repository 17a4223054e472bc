/- The operations (11): a slice that is written out; append. -/
import Derived.Test.YtcobacfinalleaaFwOps10
set_option linter.all false
namespace Go.Fw
open Go.RowKit

theorem flat1_repI {g : Gh} {p : Place} {v : V} {u : Value} (h : RepC g p v u) (hf : flat1 v = true) : RepI g.mem v u := by
  cases v <;> simp only [flat1, flat0] at hf <;> first | exact h | cases hf | skip
  simp only [Bool.and_eq_true, List.all_eq_true] at hf
  obtain ⟨x, y, rfl, h1, h2, h3, h4⟩ := h
  have key : ∀ c w', flat0 c = true → RepP g c w' → RepI g.mem c w' := by
    intro c w' hc hr
    cases c <;> first | exact hr | (simp [flat0] at hc; done)
  exact RepI.fn _ _ _ _ _ h1 h2 (fun j c hj hc => key c _ (hf.1 c (List.mem_of_getElem? hc)) (h3 j c hj hc)) (fun j c hj hc => key c _ (hf.2 c (List.mem_of_getElem? hc)) (h4 j c hj hc))

/-- The cells of a flat value. -/
theorem flat_cells {g : Gh} {τ d : Nat} {v : V} {u : Value} (h : RepS g τ d v u) (hok : okV v = true) (hf : flat2 v = true) : v.cells.length = u.cells.size ∧ ∀ (j : Nat) (c : V) (hj : j < u.cells.size), v.cells[j]? = some c → isCell c = true ∧ RepI g.mem c u.cells[j] := by
  have hnt : ∀ vs, v ≠ .tup vs := fun vs e => by rw [e] at hok; cases hok
  have hnu : v ≠ .undef := fun e => by rw [e] at hok; cases hok
  rw [repS_notTup hnt] at h
  obtain ⟨c1, c2⟩ := cellsA hnu h
  refine ⟨c1, fun j c hj hc => ?_⟩
  obtain ⟨j', e, hr⟩ := c2 j c hj hc
  refine ⟨hr.notAgg, flat1_repI hr ?_⟩
  have hin := List.mem_of_getElem? hc
  cases v <;> simp only [V.cells, List.mem_singleton] at hin <;> try (subst hin; exact hf)
  simp only [flat2, List.all_eq_true] at hf
  exact hf c hin

section
variable {B τ : Nat} {g : Gh} {st : St} {a : Act} {w : World}

theorem free_mem (h : R B τ g st a w) : g.mem w.heap.size = none := by
  cases hm : g.mem w.heap.size with
  | none => rfl
  | some cs =>
    obtain ⟨cur, e, fr, h1, _⟩ := h.mem.at_ _ cs hm
    have := (Array.getElem?_eq_some_iff.1 h1).1; omega
theorem free_lin (h : R B τ g st a w) : g.lin w.heap.size = none := by
  cases hm : g.lin w.heap.size with
  | none => rfl
  | some i =>
    obtain ⟨_, ⟨cur, h1, _⟩, _⟩ := h.lin.at_ _ i hm
    have := (Array.getElem?_eq_some_iff.1 h1).1; omega

def Gh.addMem (g : Gh) (b : Nat) (cs : List Value) : Gh := { g with mem := fun x => if x = b then some cs else g.mem x }
/-- New memory that nobody will write. -/
theorem new_mem (h : R B τ g st a w) (cur : Array Value) (t : TypeId) : Later B τ g (g.addMem w.heap.size cur.toList) w (w.alloc (.cells cur t)) ∧ R B τ (g.addMem w.heap.size cur.toList) st a (w.alloc (.cells cur t)) := by
  have hfm := free_mem h
  have hfl := free_lin h
  have hle : MemLe g.mem (g.addMem w.heap.size cur.toList).mem := by
    intro b cs hb
    unfold Gh.addMem
    dsimp only
    split
    · rename_i e; subst e; rw [hfm] at hb; cases hb
    · exact ⟨cs, hb, List.prefix_refl _⟩
  have hne : ∀ b, (g.lin b).isSome = true ∨ (∃ id, g.loc id = some b) → b ≠ w.heap.size := by
    rintro b (hb | ⟨id, hb⟩) e
    · subst e; rw [hfl] at hb; cases hb
    · have := (h.heap.fresh id b hb).2.1; omega
  refine ⟨⟨(Below.refl _ _).alloc h.base _, hle, fun b hb => ?_, fun _ _ h => h, fun _ _ h _ => h⟩, ⟨h.size, fun i v hi hv => RepS.mono (g := g) (g' := g.addMem w.heap.size cur.toList) hle (fun _ _ h => h) (fun _ _ _ _ h _ => h) (h.slots i v hi hv), ⟨h.heap.bound, h.heap.inj, ?_, ?_⟩, ⟨?_⟩, ⟨?_⟩, by have := h.base; simp; omega, h.defers⟩⟩
  · unfold Gh.addMem; dsimp only
    rw [if_neg (by have := h.base; omega)]
  · intro id b hb
    obtain ⟨h1, h2, h3, h4⟩ := h.heap.fresh id b hb
    refine ⟨h1, by simp; omega, ?_, h4⟩
    unfold Gh.addMem; dsimp only
    rw [if_neg (hne b (.inr ⟨id, hb⟩))]; exact h3
  · intro id b cs e hb he
    obtain ⟨cur', h1, h2, h3⟩ := h.heap.blk id b cs e hb he
    exact ⟨cur', heap_alloc_old w _ h1, h2, fun j c hj hc => RepC.mono (g := g) (g' := g.addMem w.heap.size cur.toList) hle (fun _ _ h => h) (fun _ _ h _ => h) (h3 j c hj hc)⟩
  · intro b cs hb
    unfold Gh.addMem at hb
    dsimp only at hb
    split at hb
    · rename_i e; subst e; cases hb; exact ⟨cur, t, (0, 0), heap_alloc_at w _, List.prefix_refl _⟩
    · exact (memOk_alloc h.mem _).at_ b cs hb
  · intro b i hi
    have hb := hne b (.inl (by rw [show g.lin b = some i from hi]; rfl))
    have := (linOk_alloc h.lin (.cells cur t)).at_ b i hi
    unfold Gh.addMem
    dsimp only
    rw [if_neg hb]
    exact this
end

/-! ### the model's 'fill' over parts in a row -/
theorem fill_seq (sz : Nat) : ∀ (vs : List Value) (i0 : Nat) (cells : Array Value), (∀ v ∈ vs, v.cells.size = sz) → (i0 + vs.length) * sz ≤ cells.size →
    ∃ r, Instr.fill (fun i => some (i * sz, sz)) cells (vs.zipIdx i0 |>.map fun p => (p.2, p.1)) = some r ∧ r.size = cells.size ∧ (∀ p, p < i0 * sz → r[p]? = cells[p]?) ∧ ∀ (k : Nat) (v : Value) (j : Nat), vs[k]? = some v → j < sz → r[(i0 + k) * sz + j]? = v.cells[j]?
  | [], i0, cells, _, _ => ⟨cells, rfl, rfl, fun _ _ => rfl, fun k v j h => by cases h⟩
  | v :: vs, i0, cells, hv, hl => by
    have hvs := hv v (List.mem_cons_self ..)
    simp only [List.length_cons] at hl
    have h1 : i0 * sz + sz ≤ cells.size := by
      have : (i0 + 1) * sz ≤ (i0 + (vs.length + 1)) * sz := Nat.mul_le_mul_right _ (by omega)
      rw [Nat.add_mul, Nat.one_mul] at this
      omega
    obtain ⟨f1, f2⟩ := fill_one cells (i0 * sz) v (by rw [hvs]; exact h1)
    dsimp only at f1 f2
    generalize hc1 : v.cells.zipIdx.foldl (fun cs (c, j) => cs.setIfInBounds (i0 * sz + j) c) cells = cells1 at f1 f2
    obtain ⟨r, e1, e2, e3, e4⟩ := fill_seq sz vs (i0 + 1) cells1 (fun x hx => hv x (List.mem_cons_of_mem _ hx)) (by rw [f1, show i0 + 1 + vs.length = i0 + (vs.length + 1) by omega]; exact hl)
    refine ⟨r, ?_, by rw [e2, f1], fun p hp => ?_, fun k x j hk hj => ?_⟩
    · simp only [List.zipIdx_cons, List.map_cons, Instr.fill]
      rw [if_neg (by simp only [hvs, ne_eq, not_true_eq_false, decide_false, Bool.false_or, decide_eq_true_eq]; omega), hc1]
      exact e1
    · rw [e3 p (by rw [Nat.add_mul]; omega), f2 p, if_neg (by omega)]
    · cases k with
      | zero =>
        cases hk
        rw [Nat.add_zero, e3 _ (by rw [Nat.add_mul, Nat.one_mul]; omega), f2, if_pos (by rw [hvs]; omega)]
        congr 1; omega
      | succ k =>
        have := e4 k x j (by simpa using hk) hj
        rwa [show i0 + 1 + k = i0 + (k + 1) by omega] at this

section
variable {C : Cx} {vb : FuncId → List V → List Blk → Option FOut} {f : FuncId} {ρ : Option Nat} {n : Nat} {o : Oper} {st : St} {α : Type} {k kp : V → St → Option α} {out : α}
  {B τ : Nat} {g : Gh} {a : Act} {w : World} {next : Act → World → Prop} {Q : Exit → Act → World → Prop}

theorem useAll_h : ∀ (xs : List Operand) (st : St), (st.useAll xs).h = st.h
  | [], _ => rfl
  | x :: xs, st => by
    show ((st.useS x).useAll xs).h = _
    rw [useAll_h xs, useS_h]

theorem flatMap_get (sz : Nat) (h0 : 0 < sz) : ∀ (vs : List V), (∀ v ∈ vs, v.cells.length = sz) → (vs.flatMap V.cells).length = vs.length * sz ∧ ∀ (p : Nat) (c : V), (vs.flatMap V.cells)[p]? = some c → ∃ v, vs[p / sz]? = some v ∧ v.cells[p % sz]? = some c
  | [], _ => ⟨by simp, fun p c h => by simp at h⟩
  | v :: vs, hv => by
    have h1 := hv v (List.mem_cons_self ..)
    obtain ⟨i1, i2⟩ := flatMap_get sz h0 vs (fun x hx => hv x (List.mem_cons_of_mem _ hx))
    refine ⟨by simp only [List.flatMap_cons, List.length_append, h1, i1, List.length_cons, Nat.add_mul, Nat.one_mul]; omega, fun p c hc => ?_⟩
    rw [List.flatMap_cons] at hc
    by_cases hp : p < sz
    · rw [List.getElem?_append_left (by omega)] at hc
      exact ⟨v, by rw [Nat.div_eq_of_lt hp]; rfl, by rw [Nat.mod_eq_of_lt hp]; exact hc⟩
    · rw [List.getElem?_append_right (by omega), h1] at hc
      obtain ⟨x, hx, hxc⟩ := i2 _ c hc
      have e1 : p / sz = (p - sz) / sz + 1 := by
        rw [Nat.div_eq_sub_div h0 (by omega)]
      exact ⟨x, by rw [e1]; simpa using hx, by rw [Nat.mod_eq_sub_mod (by omega)]; exact hxc⟩

theorem op_buildSlice {t : TypeId} {m : Nat} {parts : Array (Nat × Operand)} (ho : o.op = .buildSlice t m parts) (h : vop C vb f o st k kp = some out) (hR : R B τ g st a w) (hk : Goes B τ g a w o.dst k out next) : o.wpIn (FW ρ) n C.P a w next Q := by
  unfold vop at h
  rw [ho] at h
  dsimp only at h
  split at h
  · rename_i e he
    have ht := sliceT he
    split at h
    · rename_i ag sz hag hsz
      split at h
      · rename_i hcond
        obtain ⟨hsmall, h0, hidx, hzs⟩ := hcond
        split at h
        · rename_i hvs
          rw [List.all_eq_true] at hvs
          obtain ⟨z, hz⟩ := Option.isSome_iff_exists.1 hzs
          obtain ⟨it, zv, hit, hzv, _⟩ := zeroT_eq hz
          obtain ⟨g1, l1, hR1, hrep⟩ := uses_sound (parts.toList.map (·.2)) hR
          have hval : ∀ (i : Nat) (x : Operand), (parts.toList.map (·.2))[i]? = some x → okV (st.useV x) = true ∧ (st.useV x).cells.length = sz := by
            intro i x hx
            have hin : st.useV x ∈ parts.toList.map (fun p => st.useV p.2) := by
              obtain ⟨p, hp, rfl⟩ := List.mem_map.1 (List.mem_of_getElem? hx)
              exact List.mem_map.2 ⟨p, hp, rfl⟩
            have := hvs _ hin
            simp only [Bool.and_eq_true, beq_iff_eq] at this
            exact ⟨this.1.1, this.1.2⟩
          have hlen : parts.toList.length = m := by have := congrArg List.length hidx; simpa using this
          -- the values of the model
          let us := parts.toList.map fun p => a.eval p.2
          have hus : us.length = m := by simp [us, hlen]
          have husz : ∀ u ∈ us, u.cells.size = sz := by
            intro u hu
            obtain ⟨i, hi, rfl⟩ := List.mem_iff_getElem.1 hu
            have hi' : i < parts.toList.length := by simpa [us] using hi
            have hx : (parts.toList.map (·.2))[i]? = some parts.toList[i].2 := by rw [List.getElem?_map, List.getElem?_eq_getElem hi']; rfl
            obtain ⟨k1, k2⟩ := hval i _ hx
            have hr := hrep i _ hx 0 0
            have hnt : ∀ vs, st.useV parts.toList[i].2 ≠ .tup vs := fun vs e => by rw [e] at k1; cases k1
            have hnu : st.useV parts.toList[i].2 ≠ .undef := fun e => by rw [e] at k1; cases k1
            rw [repS_notTup hnt] at hr
            have := (cellsA hnu hr).1
            simp only [us, List.getElem_map]
            rw [← this]; exact k2
          let zc : Array Value := if m * sz = 0 then #[] else zv.cells
          obtain ⟨cur, e1, e2, _, e4⟩ := fill_seq sz us 0 ((Array.range (m * sz)).map (zc[· % zc.size]!)) husz (by simp [hus])
          have hparts : us.zipIdx.map (fun p => (p.2, p.1)) = parts.toList.map fun p => (p.1, a.eval p.2) := by
            apply List.ext_getElem?
            intro i
            simp only [List.getElem?_map, List.getElem?_zipIdx, us]
            cases hp : parts.toList[i]? with
            | none => rfl
            | some p =>
              have : (parts.toList.map (·.1))[i]? = some p.1 := by rw [List.getElem?_map, hp]; rfl
              rw [hidx] at this
              have hi : i < m := by have := (List.getElem?_eq_some_iff.1 hp).1; omega
              rw [List.getElem?_range hi] at this
              simp at this
              simp [this]
          have hcsz : cur.size = m * sz := by rw [e2]; simp
          have hrun : (execOp a.eval o).run C.P w = .ok (.value (.slice (some ⟨w.heap.size, 0, none⟩) m m)) (w.alloc (.cells cur e)) := by
            simp only [execOp, ho]
            refine run_v ?_
            have hfill : Instr.fill (fun i => some (i * sz, sz)) ((Array.range (m * sz)).map (zc[· % zc.size]!)) (parts.map (fun p => (p.1, a.eval p.2))).toList = some cur := by
              rw [Array.toList_map, ← hparts]; exact e1
            have hsm : ¬ m * sz > 2 ^ 24 := by omega
            by_cases hz0 : m * sz = 0
            · have hzc : zc = #[] := by simp [zc, hz0]
              rw [hzc] at hfill
              simp only [Instr.buildSlice, Sem.run_bind, run_underlying ht, Result.andThen_ok, sizeT_some hsz w, Sem.run_ite, gt_iff_lt, Nat.not_lt_zero, if_false, hz0, if_true, Sem.run_pure]
              rw [hz0] at hfill
              simp only [hfill, Sem.run_bind, run_newRow', Result.andThen_ok, Sem.run_pure]
            · have hzc : zc = zv.cells := by simp [zc, hz0]
              rw [hzc] at hfill
              simp only [Instr.buildSlice, Sem.run_bind, run_underlying ht, Result.andThen_ok, sizeT_some hsz w, Sem.run_ite, if_neg hsm, if_neg hz0, run_zero hit hzv, Sem.run_pure]
              simp only [hfill, Sem.run_bind, run_newRow', Result.andThen_ok, Sem.run_pure]
          have hel : ∀ (i : Nat) (v : V), (parts.toList.map fun p => st.useV p.2)[i]? = some v → ∃ x, (parts.toList.map (·.2))[i]? = some x ∧ v = st.useV x ∧ us[i]? = some (a.eval x) := by
            intro i v hv
            rw [List.getElem?_map] at hv
            obtain ⟨p, hp, rfl⟩ := Option.map_eq_some_iff.1 hv
            exact ⟨p.2, by rw [List.getElem?_map, hp]; rfl, rfl, by simp only [us]; rw [List.getElem?_map, hp]; rfl⟩
          split at h
          · rename_i hfl
            rw [List.all_eq_true] at hfl
            obtain ⟨l2, hR2⟩ := new_mem hR1 cur e
            refine wp_value (by simp [ho]) hrun (hk _ _ _ _ _ (l1.trans l2) hR2 ?_ h)
            have hvl : (parts.toList.map fun p => st.useV p.2).length = m := by simp [hlen]
            have hcell : ∀ (i : Nat) (v : V) (j : Nat) (c : V), (parts.toList.map fun p => st.useV p.2)[i]? = some v → v.cells[j]? = some c → isCell c = true ∧ ∃ u, cur.toList[i * sz + j]? = some u ∧ RepI g1.mem c u := by
              intro i v j c hv hc
              obtain ⟨x, hx, rfl, hux⟩ := hel i v hv
              obtain ⟨k1, k2⟩ := hval i x hx
              have hf2 := hfl _ (List.mem_of_getElem? hv)
              obtain ⟨q1, q2⟩ := flat_cells (hrep i x hx 0 0) k1 hf2
              have hj : j < (a.eval x).cells.size := by rw [← q1]; exact (List.getElem?_eq_some_iff.1 hc).1
              obtain ⟨r1, r2⟩ := q2 j c hj hc
              have := e4 i _ j hux (by have := husz _ (List.mem_of_getElem? hux); omega)
              rw [Nat.zero_add, Array.getElem?_eq_getElem hj] at this
              exact ⟨r1, _, by rw [Array.getElem?_toList]; exact this, r2⟩
            have hmem : ∀ p, stAt (g1.addMem w.heap.size cur.toList).mem w.heap.size p = cur.toList[p]? := by intro p; simp [stAt, Gh.addMem]
            have himm := RepI.imm (m := (g1.addMem w.heap.size cur.toList).mem) true (parts.toList.map fun p => st.useV p.2) w.heap.size 0 m sz (fun i j => (cur.toList[i * sz + j]?).getD default) (by rw [hvl]; exact Nat.le_refl _) (fun _ => by rw [hvl]) (by
                simp only [maxLen]
                have : m ≤ m * sz := Nat.le_mul_of_pos_right _ h0
                omega) h0
              (fun i v hv => by
                obtain ⟨x, hx, rfl, _⟩ := hel i v hv
                exact (hval i x hx).2)
              (fun i v j c hv hc => by
                obtain ⟨r1, u, r2, _⟩ := hcell i v j c hv hc
                refine ⟨r1, ?_⟩
                rw [Nat.zero_add, hmem, r2]; rfl)
              (fun i v j c hv hc => by
                obtain ⟨_, u, r2, r3⟩ := hcell i v j c hv hc
                rw [r2]
                exact r3.mono l2.mem)
            rw [hvl] at himm
            exact himm
          · -- it is laid into the heap
            have hh : (st.useAll (parts.toList.map (·.2))).h = st.h := useAll_h _ _
            obtain ⟨fm1, fm2⟩ := flatMap_get sz h0 (parts.toList.map fun p => st.useV p.2) (fun v hv => by
              obtain ⟨i, hi, rfl⟩ := List.mem_iff_getElem.1 hv
              obtain ⟨x, hx, e, _⟩ := hel i _ (List.getElem?_eq_getElem hi)
              rw [e]; exact (hval i x hx).2)
            obtain ⟨g2, q1, q2, q3, _, _, _⟩ := new_block hR1 ((parts.toList.map fun p => st.useV p.2).flatMap V.cells) cur e (by rw [fm1, hcsz]; simp [hlen]) (fun j c hj hc => by
              obtain ⟨v, hv, hvc⟩ := fm2 j c hc
              obtain ⟨x, hx, rfl, hux⟩ := hel _ v hv
              obtain ⟨k1, k2⟩ := hval _ x hx
              have hr := hrep _ x hx 0 0
              have hnt : ∀ vs, st.useV x ≠ .tup vs := fun vs e => by rw [e] at k1; cases k1
              have hnu : st.useV x ≠ .undef := fun e => by rw [e] at k1; cases k1
              rw [repS_notTup hnt] at hr
              obtain ⟨c1, c2⟩ := cellsA hnu hr
              have hjm : j % sz < (a.eval x).cells.size := by rw [← c1, k2]; exact Nat.mod_lt _ h0
              obtain ⟨j', _, hrc⟩ := c2 (j % sz) c hjm hvc
              have := e4 (j / sz) _ (j % sz) hux (Nat.mod_lt _ h0)
              rw [Nat.zero_add, Nat.mul_comm, Nat.div_add_mod, Array.getElem?_eq_getElem hjm, Array.getElem?_eq_getElem hj] at this
              rw [Option.some.inj this]
              refine hrc.any ?_
              have hin := List.mem_of_getElem? hvc
              have hl3 := isLin3_demote (st.peek x)
              generalize hg : map3 demote1 (st.peek x) = vv at hl3
              have hg' : st.useV x = vv := hg
              rw [hg'] at hin k1
              cases vv <;> simp only [V.cells, List.mem_singleton] at hin <;> try (subst hin; first | exact hl3 | rfl | (cases k1; done))
              simp only [isLin3, isLin2] at hl3
              rw [List.any_eq_false] at hl3
              exact Bool.eq_false_iff.2 (hl3 c hin))
            refine wp_value (by simp [ho]) hrun (hk _ _ g2 _ _ (l1.trans q1) q2 ?_ h)
            exact .inl ⟨_, m, q3, rfl, Nat.le_refl _, by
              have : m ≤ m * sz := Nat.le_mul_of_pos_right _ h0
              simp only [maxLen]; omega, Nat.le_refl _⟩
        · cases h
      · cases h
    · cases h
  · cases h
end
end Go.Fw
