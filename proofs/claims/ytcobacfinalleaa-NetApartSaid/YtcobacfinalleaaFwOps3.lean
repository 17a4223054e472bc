/- The operations (3): loads, stores, parts of values, lengths. -/
import Derived.Test.YtcobacfinalleaaFwOps2
import Derived.Laws.CopyOwn
set_option linter.all false
namespace Go.Fw
open Go.RowKit

theorem getElem?_setAt : ∀ (vs cs : List V) (off j : Nat), off + vs.length ≤ cs.length → (setAt cs off vs)[j]? = if off ≤ j ∧ j < off + vs.length then vs[j - off]? else cs[j]?
  | [], cs, off, j, _ => by
    simp only [setAt]
    rw [if_neg (by simp only [List.length_nil]; omega)]
  | v :: vs, cs, off, j, h => by
    simp only [setAt, List.length_cons] at h ⊢
    rw [getElem?_setAt vs (cs.set off v) (off + 1) j (by simp; omega)]
    by_cases h1 : off + 1 ≤ j ∧ j < off + 1 + vs.length
    · rw [if_pos h1, if_pos (by omega)]
      obtain ⟨m, rfl⟩ : ∃ m, j = off + 1 + m := ⟨j - (off + 1), by omega⟩
      rw [show off + 1 + m - (off + 1) = m by omega, show off + 1 + m - off = m + 1 by omega]
      simp
    · rw [if_neg h1]
      by_cases h2 : j = off
      · subst h2
        rw [if_pos (by omega), List.getElem?_set_self (by omega)]
        simp
      · rw [if_neg (by omega), List.getElem?_set_ne (by omega)]
theorem length_setAt : ∀ (vs cs : List V) (off : Nat), (setAt cs off vs).length = cs.length
  | [], _, _ => rfl
  | v :: vs, cs, off => by simp only [setAt]; rw [length_setAt vs]; simp
theorem takeDrop_get {α : Type} (cs : List α) (off n j : Nat) : ((cs.drop off).take n)[j]? = if j < n then cs[off + j]? else none := by
  rw [List.getElem?_take]
  split
  · rw [List.getElem?_drop]
  · rfl

section
variable {B τ : Nat} {g : Gh} {st : St} {a : Act} {w : World}

/-- Where a row of cells lies. -/
def qCell (id off n : Nat) : Place → Bool
  | .cell i j => i == id && (decide (off ≤ j) && decide (j < off + n))
  | _ => false

theorem heap_share (h : R B τ g st a w) {id off n : Nat} {cs : List V} {e : TypeId} (hc : st.h[id]? = some (.cells cs e)) (hn : off + n ≤ cs.length) :
    R B τ (g.share (qCell id off n)) { st with h := st.h.set id (.cells (setAt cs off (((cs.drop off).take n).map mark1)) e) } a w := by
  have hlen : (((cs.drop off).take n).map mark1).length = n := by simp; omega
  refine ⟨h.size, fun i v hi hv => ?_, ⟨?_, h.heap.inj, ?_, ?_⟩, share_mem h.lin h.mem, share_lin h.lin, h.base, h.defers⟩
  · exact (h.slots i v hi hv).mono (share_memLe h.lin) (fun _ _ h => h) (fun j k b x hx hp => lin_share_of hx (by rw [hp]; rfl))
  · intro id' b hb; have := h.heap.bound id' b hb; simpa using this
  · intro id' b hb
    obtain ⟨h1, h2, h3, h4⟩ := h.heap.fresh id' b hb
    refine ⟨h1, h2, ?_, ?_⟩
    · unfold Gh.share; dsimp only; rw [h4]; exact h3
    · unfold Gh.share; dsimp only; rw [h4]; rfl
  · intro id' b cs' e' hb he
    by_cases hid : id' = id
    · subst hid
      have hlt := h.heap.bound id' b hb
      rw [List.getElem?_set_self hlt] at he
      cases he
      obtain ⟨cur, h1, h2, h3⟩ := h.heap.blk id' b cs e hb hc
      refine ⟨cur, h1, by rw [length_setAt]; exact h2, fun j c hj hcj => ?_⟩
      rw [getElem?_setAt _ _ _ _ (by rw [hlen]; exact hn), hlen] at hcj
      by_cases hr : off ≤ j ∧ j < off + n
      · rw [if_pos hr, List.getElem?_map, takeDrop_get, if_pos (by omega), show off + (j - off) = j by omega] at hcj
        obtain ⟨c0, hc0, rfl⟩ := Option.map_eq_some_iff.1 hcj
        exact ((h3 j c0 hj hc0).shared h.lin (by simp [qCell, hr])).1
      · rw [if_neg hr] at hcj
        refine (h3 j c hj hcj).mono (share_memLe h.lin) (fun _ _ h => h) (fun b i hi hp => lin_share_of hi ?_)
        rw [hp]
        simp only [qCell, beq_self_eq_true, Bool.true_and]
        rcases Nat.lt_or_ge j off with h' | h'
        · simp; omega
        · simp; omega
    · rw [List.getElem?_set_ne (fun e => hid e.symm)] at he
      obtain ⟨cur, h1, h2, h3⟩ := h.heap.blk id' b cs' e' hb he
      refine ⟨cur, h1, h2, fun j c hj hcj => (h3 j c hj hcj).mono (share_memLe h.lin) (fun _ _ h => h) (fun b i hi hp => lin_share_of hi ?_)⟩
      rw [hp]; simp [qCell, hid]

/-- Cells that are taken out of the heap. -/
theorem heap_take (h : R B τ g st a w) {id off n : Nat} {cs : List V} {e : TypeId} (hc : st.h[id]? = some (.cells cs e)) (hn : off + n ≤ cs.length) (f : Place → Place) (hf : ∀ p, (∀ j, off ≤ j → j < off + n → p ≠ .cell id j) → f p = p) :
    R B τ (g.ren f) { st with h := st.h.set id (.cells (setAt cs off (((cs.drop off).take n).map drop1)) e) } a w := by
  have hlen : (((cs.drop off).take n).map drop1).length = n := by simp; omega
  refine ⟨h.size, fun i v hi hv => ?_, ⟨?_, h.heap.inj, ?_, ?_⟩, h.mem, ren_lin h.lin, h.base, h.defers⟩
  · exact RepS.mono (g := g) (g' := g.ren f) (MemLe.refl _) (fun _ _ h => h) (fun j k b x hx hp => lin_ren_of hx (by rw [hp]; exact hf _ (by intro j _ _ e; cases e))) (h.slots i v hi hv)
  · intro id' b hb; have := h.heap.bound id' b hb; simpa using this
  · intro id' b hb
    obtain ⟨h1, h2, h3, h4⟩ := h.heap.fresh id' b hb
    refine ⟨h1, h2, h3, ?_⟩
    unfold Gh.ren; dsimp only; rw [h4]; rfl
  · intro id' b cs' e' hb he
    by_cases hid : id' = id
    · subst hid
      have hlt := h.heap.bound id' b hb
      rw [List.getElem?_set_self hlt] at he
      cases he
      obtain ⟨cur, h1, h2, h3⟩ := h.heap.blk id' b cs e hb hc
      refine ⟨cur, h1, by rw [length_setAt]; exact h2, fun j c hj hcj => ?_⟩
      rw [getElem?_setAt _ _ _ _ (by rw [hlen]; exact hn), hlen] at hcj
      by_cases hr : off ≤ j ∧ j < off + n
      · rw [if_pos hr, List.getElem?_map, takeDrop_get, if_pos (by omega), show off + (j - off) = j by omega] at hcj
        obtain ⟨c0, hc0, rfl⟩ := Option.map_eq_some_iff.1 hcj
        exact ((h3 j c0 hj hc0).moved (p' := f (.cell id' j)) rfl).2
      · rw [if_neg hr] at hcj
        refine RepC.mono (g := g) (g' := g.ren f) (MemLe.refl _) (fun _ _ h => h) (fun b i hi hp => lin_ren_of hi ?_) (h3 j c hj hcj)
        rw [hp]
        exact hf _ (by intro j' h1 h2 e; injection e with _ e; omega)
    · rw [List.getElem?_set_ne (fun e => hid e.symm)] at he
      obtain ⟨cur, h1, h2, h3⟩ := h.heap.blk id' b cs' e' hb he
      refine ⟨cur, h1, h2, fun j c hj hcj => RepC.mono (g := g) (g' := g.ren f) (MemLe.refl _) (fun _ _ h => h) (fun b i hi hp => lin_ren_of hi ?_) (h3 j c hj hcj)⟩
      rw [hp]
      exact hf _ (by intro j' h1 h2 e; injection e with e _; exact hid e)

theorem R.setBlkSame {id : Nat} {cs cs' : List V} {e : TypeId} (h : R B τ g { st with h := st.h.set id (.cells cs' e) } a w) (hc : st.h[id]? = some (.cells cs e)) (he : cs' = cs) : R B τ g st a w := by
  subst he
  have hlt := (List.getElem?_eq_some_iff.1 hc).1
  have e2 : st.h.set id (.cells cs' e) = st.h := by
    apply List.ext_getElem?
    intro j
    by_cases hj : id = j
    · subst hj; rw [List.getElem?_set_self hlt, hc]
    · rw [List.getElem?_set_ne hj]
  rw [e2] at h
  exact h

theorem setAt_self {cs : List V} {off n : Nat} (hn : off + n ≤ cs.length) : setAt cs off ((cs.drop off).take n) = cs := by
  have hlen : ((cs.drop off).take n).length = n := by simp; omega
  apply List.ext_getElem?
  intro j
  rw [getElem?_setAt _ _ _ _ (by rw [hlen]; exact hn), hlen]
  split
  · rename_i h
    rw [takeDrop_get, if_pos (by omega), show off + (j - off) = j by omega]
  · rfl
end

section
variable {P : Program}
theorem isAggT_some {t : TypeId} {b : Bool} (h : isAggT P t = some b) (w : World) : (isAgg t).run P w = .ok b w := by
  unfold isAggT at h
  split at h
  · rename_i d hd; cases h; simp [isAgg, run_underlying hd]
  · rename_i d n hd; cases h; simp [isAgg, run_underlying hd]
  · rename_i d h1 h2 hd
    cases h
    simp only [isAgg, Sem.run_bind, run_underlying hd, Result.andThen_ok]
    cases d <;> first | rfl | exact absurd rfl (h1 _) | exact absurd rfl (h2 _ _)
  · cases h
theorem sizeT_some {t : TypeId} {n : Nat} (h : sizeT P t = some n) (w : World) : (sizeOf t).run P w = .ok n w := by
  unfold sizeT at h
  obtain ⟨i, hi, rfl⟩ := Option.map_eq_some_iff.1 h
  rw [run_sizeOf w hi]
  simp [Program.cellsOf, hi]

theorem ofCells_some {g : Bool} {cs : List V} {v : V} (h : ofCells g cs = some v) : (g = true ∧ v = .agg cs) ∨ (g = false ∧ cs = [v]) := by
  unfold ofCells at h
  split at h
  · cases h; exact .inl ⟨rfl, rfl⟩
  · cases h; exact .inr ⟨rfl, rfl⟩
  · cases h

theorem addr_add (b off j : Nat) : (⟨b, off, none⟩ : Addr).add j = ⟨b, off + j, none⟩ := by unfold Addr.add; split <;> simp_all

/-- A variable is read: its cells are there. -/
theorem run_loadVar_cells {t : TypeId} {gg : Bool} {n : Nat} {w : World} {b off : Nat} (hg : isAggT P t = some gg) (hn : sizeT P t = some n) (vals : List Value) (hl : vals.length = n) (hc : ∀ (j : Nat) (v : Value), vals[j]? = some v → w.cell? ⟨b, off + j, none⟩ = some v) (h1 : gg = false → n = 1) :
    (loadVar t ⟨b, off, none⟩).run P w = .ok (if gg then .agg vals.toArray else vals.headD undef) w := by
  unfold loadVar
  simp only [Sem.run_bind, isAggT_some hg w, Result.andThen_ok]
  cases gg with
  | true =>
    simp only [if_true, Sem.run_bind, sizeT_some hn w, Result.andThen_ok]
    rw [← hl, run_loadCells_list w ⟨b, off, none⟩ vals (fun j v hv => by rw [addr_add]; exact hc j v hv)]
    rfl
  | false =>
    have := h1 rfl
    subst this
    match vals, hl with
    | [v], _ =>
      have hv := hc 0 v rfl
      simp only [Nat.add_zero] at hv
      simp [run_load, hv]
end

section
variable {C : Cx} {vb : FuncId → List V → List Blk → Option FOut} {f : FuncId} {ρ : Option Nat} {n : Nat} {o : Oper} {st : St} {α : Type} {k kp : V → St → Option α} {out : α}
  {B τ : Nat} {g : Gh} {a : Act} {w : World} {next : Act → World → Prop} {Q : Exit → Act → World → Prop}

theorem cell_of_heap {w : World} {b : Nat} {cur : Array Value} {e : TypeId} {fr : Nat × Nat} (h : w.heap[b]? = some (.cells cur e fr)) (j : Nat) : w.cell? ⟨b, j, none⟩ = cur[j]? := by
  simp [World.cell?, h]

theorem RepI.repP {g : Gh} {v : V} {u : Value} (h : RepI g.mem v u) : RepP g v u := by
  cases v <;> first | exact h | cases h
theorem RepI.repC {g : Gh} {p : Place} {v : V} {u : Value} (h : RepI g.mem v u) (hc : isCell v = true) : RepC g p v u := by
  cases v <;> first | exact h | (cases h; done) | (simp [isCell] at hc; done) | skip
  cases h with
  | fn _ _ _ first' caps' h1 h2 v1 v2 => exact ⟨first', caps', rfl, h1, h2, fun j c hj hc => (v1 j c hj hc).repP, fun j c hj hc => (v2 j c hj hc).repP⟩

/-- Cells that stand for values, put together to one of a type. -/
theorem rep_ofCells {g : Gh} {τ d : Nat} {gg : Bool} {c : List V} {v : V} {vals : List Value} (h : ofCells gg c = some v) (hl : c.length = vals.length) (hc : ∀ (j : Nat) (x : V) (u : Value), c[j]? = some x → vals[j]? = some u → RepC g (.slot τ d (if gg then j + 1 else 0) 0) x u) :
    RepS g τ d v (if gg then .agg vals.toArray else vals.headD undef) := by
  rcases ofCells_some h with ⟨rfl, rfl⟩ | ⟨rfl, rfl⟩
  · refine ⟨vals.toArray, rfl, by simpa using hl, fun j x hj hx => ?_⟩
    have := hc j x (vals.toArray[j]) hx (by simp at hj; simp [hj])
    simpa using this
  · match vals, hl with
    | [u], _ =>
      have := hc 0 v u rfl rfl
      have hn := this.notAgg
      show RepS g τ d v u
      rw [repS_notTup (by intro vs e; rw [e] at hn; cases hn)]
      exact repA_cell (by simpa using this)

def fLoad (τ d id off n : Nat) (gg : Bool) : Place → Place
  | .cell i j => if i = id ∧ off ≤ j ∧ j < off + n then .slot τ d (if gg then j - off + 1 else 0) 0 else .cell i j
  | p => p

theorem op_load {t : TypeId} {x : Operand} (ho : o.op = .load t x) (h : vop C vb f o st k kp = some out) (hR : R B τ g st a w) (hk : Goes B τ g a w o.dst k out next) : o.wpIn (FW ρ) n C.P a w next Q := by
  obtain ⟨dx, hx⟩ := peek_rep hR x
  unfold vop at h
  rw [ho] at h
  dsimp only at h
  split at h
  · rename_i gg m hg hm
    split at h
    · rename_i id off hp
      rw [hp] at hx
      obtain ⟨b, hb, hu⟩ := rep_ptr hx
      split at h
      · rename_i cs e hcs
        split at h
        · rename_i hle
          obtain ⟨cur, hcur, hlc, hrep⟩ := hR.heap.blk id b cs e hb hcs
          have hlen : ((cs.drop off).take m).length = m := by simp; omega
          have hvl : ((cur.toList.drop off).take m).length = m := by simp; omega
          have h1 : ∀ (c : List V) (v : V), c.length = m → ofCells gg c = some v → gg = false → m = 1 := by
            intro c v hc hv hgf
            rcases ofCells_some hv with ⟨e1, _⟩ | ⟨_, e1⟩
            · rw [hgf] at e1; cases e1
            · rw [← hc, e1]; rfl
          have hrun : ∀ (c : List V) (v : V), c.length = m → ofCells gg c = some v → (execOp a.eval o).run C.P w = .ok (.value (if gg then .agg ((cur.toList.drop off).take m).toArray else ((cur.toList.drop off).take m).headD undef)) w := by
            intro c v hc hv
            have hl := run_loadVar_cells (P := C.P) (w := w) (b := b) (off := off) hg hm _ hvl (fun j u hj => by
              rw [cell_of_heap hcur]
              rw [takeDrop_get] at hj
              split at hj
              · simpa using hj
              · cases hj) (h1 c v hc hv)
            simp [execOp, ho, hu, Instr.loadAt, Instr.sureAddr, hl]
          have hval : ∀ (j : Nat) (u : Value), ((cur.toList.drop off).take m)[j]? = some u → ∃ hj : off + j < cur.size, u = cur[off + j] ∧ j < m := by
            intro j u hj
            rw [takeDrop_get] at hj
            split at hj
            · rename_i hjm
              have hlt := (List.getElem?_eq_some_iff.1 hj).1
              simp at hlt
              refine ⟨hlt, ?_, hjm⟩
              have := (List.getElem?_eq_some_iff.1 hj).2
              rw [← this]; simp
            · cases hj
          split at h
          · rename_i d hd
            split at h
            · -- it is taken
              split at h
              · rename_i v hv
                have hf : ∀ p, (∀ j, off ≤ j → j < off + m → p ≠ .cell id j) → fLoad τ d id off m gg p = p := by
                  intro p hp
                  cases p with
                  | slot => rfl
                  | cell i j =>
                    have hn : ¬ (i = id ∧ off ≤ j ∧ j < off + m) := by
                      rintro ⟨rfl, h1, h2⟩
                      exact hp j h1 h2 rfl
                    simp only [fLoad, if_neg hn]
                have hR' := heap_take hR hcs hle (fLoad τ d id off m gg) hf
                refine wp_value (by simp [ho]) (hrun _ v hlen hv) (hk v _ _ _ w (ren_later (fun τ' x j k _ => hf _ (by intro j _ _ e; cases e))) hR' ?_ h)
                rw [hd]
                refine rep_ofCells hv (by rw [hlen, hvl]) (fun j x u hj hu' => ?_)
                obtain ⟨hjc, rfl, hjm⟩ := hval j u hu'
                rw [takeDrop_get, if_pos hjm] at hj
                refine ((hrep (off + j) x hjc hj).moved (f := fLoad τ d id off m gg) (p' := .slot τ d (if gg then j + 1 else 0) 0) ?_).1
                simp [fLoad, hjm]
              · cases h
            · split at h
              · rename_i v hv
                have hR' := heap_share hR hcs hle
                have hrepS : RepS (g.share (qCell id off m)) τ (o.dst.getD 0) v (if gg then .agg ((cur.toList.drop off).take m).toArray else ((cur.toList.drop off).take m).headD undef) := by
                  refine rep_ofCells hv (by rw [List.length_map, hlen, hvl]) (fun j x u hj hu' => ?_)
                  obtain ⟨hjc, rfl, hjm⟩ := hval j u hu'
                  rw [List.getElem?_map, takeDrop_get, if_pos hjm] at hj
                  obtain ⟨c0, hc0, rfl⟩ := Option.map_eq_some_iff.1 hj
                  exact ((hrep (off + j) c0 hjc hc0).shared (q := qCell id off m) hR.lin (by simp [qCell, hjm])).2 _
                have hlat : Later B τ g (g.share (qCell id off m)) w w := share_later hR.lin (fun τ' x j k hq => by simp [qCell] at hq)
                refine wp_value (by simp [ho]) (hrun _ v (by rw [List.length_map, hlen]) hv) ?_
                rcases condB_cases h with ⟨hl, h⟩ | ⟨hl, h⟩
                · exact hk v _ _ _ w hlat hR' hrepS h
                · refine hk v _ _ _ w hlat (hR'.setBlkSame hcs ?_) hrepS h
                  rw [map_of (fun _ h => mark1_of h) hl]
                  exact setAt_self hle
              · cases h
          · cases h
        · cases h
      · cases h
    · rename_i e off hp
      rw [hp] at hx
      have hi := rep_iptr hx
      split at h
      · rename_i hle
        split at h
        · rename_i v hv
          generalize hu : a.eval x = u at hi
          cases hi with
          | iptr _ _ b base val hs hvv =>
            have hlen : ((e.cells.drop off).take m).length = m := by simp; omega
            have h1 : gg = false → m = 1 := by
              intro hgf
              rcases ofCells_some hv with ⟨e1, _⟩ | ⟨_, e1⟩
              · rw [hgf] at e1; cases e1
              · rw [← hlen, e1]; rfl
            have hvl : ((List.range m).map fun j => val (off + j)).length = m := by simp
            have hget : ∀ (j : Nat) (u : Value), ((List.range m).map fun j => val (off + j))[j]? = some u → j < m ∧ u = val (off + j) := by
              intro j u hj
              have hjm := (List.getElem?_eq_some_iff.1 hj).1
              simp at hjm
              refine ⟨hjm, ?_⟩
              have := (List.getElem?_eq_some_iff.1 hj).2
              rw [← this]; simp
            have hl := run_loadVar_cells (P := C.P) (w := w) (b := b) (off := base + off) hg hm ((List.range m).map fun j => val (off + j)) hvl (fun j u hj => by
              obtain ⟨hjm, rfl⟩ := hget j u hj
              have hlt : off + j < e.cells.length := by omega
              obtain ⟨_, hst⟩ := hs (off + j) _ (List.getElem?_eq_getElem hlt)
              unfold stAt at hst
              obtain ⟨cs, hcs, hci⟩ := Option.bind_eq_some_iff.1 hst
              obtain ⟨cur, e', fr, hh, tl, htl⟩ := hR.mem.at_ b cs hcs
              rw [cell_of_heap hh, ← Array.getElem?_toList, ← htl, Nat.add_assoc]
              rw [List.getElem?_append_left (List.getElem?_eq_some_iff.1 hci).1]
              exact hci) h1
            generalize ((List.range m).map fun j => val (off + j)) = vals at hvl hget hl
            refine wp_value (by simp [ho]) (v := if gg then .agg vals.toArray else vals.headD undef) (w' := w) (by simp [execOp, ho, hu, Instr.loadAt, Instr.sureAddr, hl]) (hk v st g _ w (Later.refl ..) hR ?_ h)
            refine rep_ofCells hv (by rw [hlen, hvl]) (fun j x u hj hu' => ?_)
            obtain ⟨hjm, rfl⟩ := hget j u hu'
            rw [takeDrop_get, if_pos hjm] at hj
            have hci := (hs (off + j) x hj).1
            have hri := hvv (off + j) x hj
            exact hri.repC hci
        · cases h
      · cases h
    · cases h
  · cases h
end
end Go.Fw
