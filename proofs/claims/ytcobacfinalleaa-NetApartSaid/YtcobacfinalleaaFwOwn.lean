/- Arrays of the evaluator's heap: appending in place, clearing. -/
import Derived.Test.YtcobacfinalleaaFwOps12
import Derived.ArgAppend
set_option linter.all false
namespace Go.Fw
open Go.RowKit

theorem run_append_zero {P : Program} (w : World) (t ty e : TypeId) (i : TypeInfo) (ht : P.underlying t = some (.slice e)) (hi : P.info? e = some i) (b c : Option Addr) (n m k : Nat) (hn : n ≤ m) (hz : b = none → n = 0 ∧ m = 0) :
    (Builtin.append_ #[t, t] ty #[.slice b n m, .slice c 0 k]).run P w = .ok (.slice b n m) w := by
  cases b with
  | none =>
    obtain ⟨rfl, rfl⟩ := hz rfl
    cases c <;> simp [Builtin.append_, run_underlying ht, sizeOf, typeInfo, hi, Builtin.lenOf, Builtin.firstCells, loadCells, loadCellsFrom]
  | some b => cases c <;> simp [Builtin.append_, run_underlying ht, sizeOf, typeInfo, hi, Builtin.lenOf, hn, Builtin.firstCells, loadCells, loadCellsFrom, storeCells]
theorem run_append_at {P : Program} (w : World) (t ty e : TypeId) (i : TypeInfo) (ht : P.underlying t = some (.slice e)) (hi : P.info? e = some i) (b off n cap : Nat) (cur : Array Value) (t0 : TypeId) (hcur : w.heap[b]? = some (.cells cur t0 (0, 0)))
    (a : Addr) (m c : Nat) (news : List Value) (hl : news.length = m * i.size) (hnews : ∀ j u, news[j]? = some u → w.cell? (a.add j) = some u) (h1 : ∀ u ∈ news, u.oneCell' = true) (hroom : n + m ≤ cap) (hfit : off + n * i.size + news.length ≤ cur.size) :
    (Builtin.append_ #[t, t] ty #[.slice (some ⟨b, off, none⟩) n cap, .slice (some a) m c]).run P w = .ok (.slice (some ⟨b, off, none⟩) (n + m) cap)
      (w.setRow b (cur.toList.take (off + n * i.size) ++ news ++ cur.toList.drop (off + n * i.size + news.length)).toArray) := by
  have hfc := run_firstCells_some (P := P) w i.size m a m c news hl hnews
  have hst := run_storeCells_at (P := P) b (off + n * i.size) t0 news 0 cur w hcur (by omega) h1
  simp only [Nat.add_zero] at hst
  simp [Builtin.append_, run_underlying ht, sizeOf, typeInfo, hi, Builtin.lenOf, hroom, hfc, Addr.add_lit, hst]
theorem run_clear_at {P : Program} (w : World) (t e ty : TypeId) (z : Value) (ht : P.underlying t = some (.slice e)) (hv : ∀ w, (zeroValue e).run P w = .ok z w) (b off n c : Nat) (cur : Array Value) (t0 : TypeId) (hcur : w.heap[b]? = some (.cells cur t0 (0, 0)))
    (hn : 0 < n) (h1 : ∀ v ∈ (Builtin.zeroCells z.cells n).toList, v.oneCell' = true) (hfit : off + (Builtin.zeroCells z.cells n).toList.length ≤ cur.size) :
    (Builtin.clear_ #[t] ty #[.slice (some ⟨b, off, none⟩) n c]).run P w = .ok (.tuple #[]) (w.setRow b (cur.toList.take off ++ (Builtin.zeroCells z.cells n).toList ++ cur.toList.drop (off + (Builtin.zeroCells z.cells n).toList.length)).toArray) := by
  have hst := run_storeCells_at (P := P) b off t0 (Builtin.zeroCells z.cells n).toList 0 cur w hcur (by omega) h1
  simp only [Nat.add_zero] at hst
  obtain ⟨m, rfl⟩ : ∃ m, n = m + 1 := ⟨n - 1, by omega⟩
  simp only [Builtin.clear_]
  simp [run_underlying ht, hv, hst]
theorem run_clear_zero {P : Program} (w : World) (t e ty : TypeId) (ht : P.underlying t = some (.slice e)) (b : Option Addr) (c : Nat) : (Builtin.clear_ #[t] ty #[.slice b 0 c]).run P w = .ok (.tuple #[]) w := by
  cases b <;> simp [Builtin.clear_, run_underlying ht]

theorem flatMap_at {sz : Nat} : ∀ {xs : List V} {j : Nat} {c : V}, (∀ (i : Nat) (x : V), xs[i]? = some x → x.cells.length = sz) → 0 < sz → (xs.flatMap V.cells)[j]? = some c → ∃ x, xs[j / sz]? = some x ∧ x.cells[j % sz]? = some c
  | [], j, c, _, _, h => by simp at h
  | x :: xs, j, c, hl, h0, h => by
    rw [List.flatMap_cons] at h
    have hx := hl 0 x rfl
    by_cases hj : j < sz
    · rw [List.getElem?_append_left (by omega)] at h
      rw [Nat.div_eq_of_lt hj, Nat.mod_eq_of_lt hj]
      exact ⟨x, rfl, h⟩
    · rw [List.getElem?_append_right (by omega), hx] at h
      obtain ⟨y, h1, h2⟩ := flatMap_at (fun i y hy => hl (i + 1) y (by simpa using hy)) h0 h
      refine ⟨y, ?_, ?_⟩
      · rw [Nat.div_eq_sub_div h0 (by omega)]
        simpa using h1
      · rwa [Nat.mod_eq_sub_mod (by omega)]
theorem flatMap_len {sz : Nat} : ∀ {xs : List V}, (∀ (i : Nat) (x : V), xs[i]? = some x → x.cells.length = sz) → (xs.flatMap V.cells).length = xs.length * sz
  | [], _ => by simp
  | x :: xs, hl => by
    rw [List.flatMap_cons, List.length_append, flatMap_len (sz := sz) (fun i y hy => hl (i + 1) y (by simpa using hy)), hl 0 x rfl, List.length_cons, Nat.add_mul]
    omega

theorem cell_flat {g : Gh} {p : Place} {v : V} {u : Value} (hc : isCell v = true) (h : RepI g.mem v u) : RepC g p v u := by
  cases v <;> try exact h
  case undef => cases h
  case ptr => cases h
  case own => cases h
  case lin => cases h
  case agg => cases hc
  case tup => cases hc
  case fn f first caps =>
    cases h with
    | fn _ _ _ first' caps' h1 h2 v1 v2 =>
      have key : ∀ v u, RepI g.mem v u → RepP g v u := fun v u h => by
        cases v <;> first | exact h | cases h
      exact ⟨first', caps', rfl, h1, h2, fun j c hj hc => key _ _ (v1 j c hj hc), fun j c hj hc => key _ _ (v2 j c hj hc)⟩


section
variable {C : Cx} {vb : FuncId → List V → List Blk → Option FOut} {f : FuncId} {ρ : Option Nat} {n : Nat} {o : Oper} {st : St} {α : Type} {k kp : V → St → Option α} {out : α}
  {B τ : Nat} {g : Gh} {a : Act} {w : World} {next : Act → World → Prop} {Q : Exit → Act → World → Prop}

/-- Cells of an array are written. -/
theorem splice_sound (hR : R B τ g st a w) {id b o : Nat} {cs ys : List V} {e : TypeId} {cur : Array Value} {news : List Value} (hb : g.loc id = some b) (hcs : st.h[id]? = some (.cells cs e)) (hcur : w.heap[b]? = some (.cells cur e (0, 0)))
    (hl : ys.length = news.length) (hfit : o + ys.length ≤ cs.length) (hrep : ∀ (j : Nat) (c : V) (v : Value), ys[j]? = some c → news[j]? = some v → RepC g (.cell id (o + j)) c v) :
    Later B τ g g w (w.setRow b (cur.toList.take o ++ news ++ cur.toList.drop (o + news.length)).toArray) ∧
      R B τ g { st with h := st.h.set id (.cells (setAt cs o ys) e) } a (w.setRow b (cur.toList.take o ++ news ++ cur.toList.drop (o + news.length)).toArray) := by
  obtain ⟨cur0, hcur0, hlc, hrep0⟩ := hR.heap.blk id b cs e hb hcs
  rw [hcur] at hcur0
  cases hcur0
  have hcl : cur.toList.length = cur.size := Array.length_toList
  have hfit' : o + news.length ≤ cur.toList.length := by omega
  generalize hc' : (cur.toList.take o ++ news ++ cur.toList.drop (o + news.length)).toArray = cur'
  have hsz : cur'.size = cur.size := by
    rw [← hc', List.size_toArray, List.length_append, List.length_append, List.length_take, List.length_drop]
    omega
  refine write_blk hR hb hcs hcur (by rw [length_setAt, hsz]; exact hlc) (fun j c hj hc => ?_)
  rw [getElem?_setAt _ _ _ _ hfit] at hc
  have hg : cur'[j]? = if o ≤ j ∧ j < o + news.length then news[j - o]? else cur.toList[j]? := by
    rw [← hc']
    simpa using splice_get cur.toList news o j hfit'
  rw [Array.getElem?_eq_getElem hj] at hg
  by_cases h1 : o ≤ j ∧ j < o + news.length
  · rw [if_pos h1] at hg
    rw [if_pos (by omega)] at hc
    have := hrep (j - o) c _ hc hg.symm
    rwa [show o + (j - o) = j by omega] at this
  · rw [if_neg h1, Array.getElem?_toList, Array.getElem?_eq_getElem (by omega)] at hg
    rw [if_neg (by omega)] at hc
    rw [Option.some.inj hg]
    exact hrep0 j c (by omega) hc

/-- What is appended to an array: its cells, in the world. -/
theorem ownSrc_sound (hR : R B τ g st a w) {x : Operand} {sz m : Nat} {ys : List V} (hs : ownSrc st.h sz (st.peek x) = some (m, ys)) (hlen : ys.length = m * sz) (h0 : 0 < sz) (hnl : ys.all (fun c => !isLin1 c && okV c) = true) (hm : m ≠ 0) :
    ∃ (ad : Addr) (c : Nat) (news : List Value), a.eval x = .slice (some ad) m c ∧ news.length = m * sz ∧ (∀ (j : Nat) (v : Value), news[j]? = some v → w.cell? (ad.add j) = some v) ∧ (∀ v ∈ news, v.oneCell' = true) ∧ ∀ (p : Place) (j : Nat) (c : V) (v : Value), ys[j]? = some c → news[j]? = some v → RepC g p c v := by
  obtain ⟨dx, hx⟩ := peek_rep hR x
  unfold ownSrc at hs
  split at hs
  · rename_i id off len room hp
    rw [hp] at hx
    split at hs
    · rename_i cs e hcs
      cases hs
      rcases hx with ⟨b, cap, hl, eu, hlc, hcm, hrm⟩ | ⟨e0, _⟩
      · obtain ⟨cur, hcur, hlcur, hrep⟩ := hR.heap.blk id b cs e hl hcs
        have hle : off + m * sz ≤ cs.length := by
          have : ((cs.drop off).take (m * sz)).length = min (m * sz) (cs.length - off) := by simp
          rw [this] at hlen
          have : 0 < m * sz := Nat.mul_pos (by omega) h0
          omega
        have hnl' : ((cur.toList.drop off).take (m * sz)).length = m * sz := by simp; omega
        have key : ∀ (p : Place) (j : Nat) (c : V) (v : Value), ((cs.drop off).take (m * sz))[j]? = some c → ((cur.toList.drop off).take (m * sz))[j]? = some v → RepC g p c v := by
          intro p j c v hc hv
          have hmem := List.mem_of_getElem? hc
          rw [List.all_eq_true] at hnl
          have := hnl c hmem
          simp only [Bool.and_eq_true, Bool.not_eq_true'] at this
          rw [takeDrop_get] at hc hv
          split at hc
          · rename_i hj
            rw [if_pos hj, Array.getElem?_toList] at hv
            obtain ⟨hlt, rfl⟩ := Array.getElem?_eq_some_iff.1 hv
            exact RepC.any this.1 (hrep _ c hlt hc)
          · cases hc
        refine ⟨⟨b, off, none⟩, cap, (cur.toList.drop off).take (m * sz), eu, hnl', fun j v hv => ?_, fun v hv => ?_, key⟩
        · rw [takeDrop_get] at hv
          split at hv
          · rw [addr_add, cell_of_heap hcur, ← Array.getElem?_toList]; exact hv
          · cases hv
        · obtain ⟨j, hj, rfl⟩ := List.mem_iff_getElem.1 hv
          have hj2 : j < ((cs.drop off).take (m * sz)).length := by rw [hlen]; rw [hnl'] at hj; exact hj
          exact (key (.cell 0 0) j _ _ (List.getElem?_eq_getElem hj2) (List.getElem?_eq_getElem hj)).one
      · exact absurd e0 hm
    · cases hs
  · rename_i fl q xs hp
    split at hs
    · rename_i hq
      subst hq
      cases hs
      rw [hp] at hx
      have hxs : xs ≠ [] := fun e => hm (by rw [e]; rfl)
      have hx : RepI g.mem (.imm fl q xs) (a.eval x) := hx
      obtain ⟨ad, c, news, eu, hnl', hcell, hone, hel⟩ := imm_news hx hR.mem hxs
      refine ⟨ad, c, news, eu, hnl', hcell, hone, fun p j c v hc hv => ?_⟩
      obtain ⟨x1, h1, h2⟩ := flatMap_at hel.2.2.1 h0 hc
      obtain ⟨q1, v', q2, q3⟩ := hel.2.2.2 _ x1 _ c h1 h2
      have hjj : j / q * q + j % q = j := by rw [Nat.mul_comm]; exact Nat.div_add_mod _ _
      rw [hjj, hv] at q2
      cases q2
      exact cell_flat q1 q3
    · cases hs
  · cases hs

theorem op_append_own {c : Call} {s x : Operand} {t tx e : TypeId} {id off len room : Nat} (ho : o.op = .call c) (hb : c.callee = .builtin .append) (ea : c.args = #[s, x]) (et : c.argTypes = #[t, tx]) (ht : C.P.underlying t = some (.slice e)) (hp : st.peek s = .own id off len room)
    (h : (match sizeT C.P e, st.h[id]? with
      | some sz, some (.cells cs e') => match ownSrc st.h sz (st.peek x) with
        | some (m, ys) => condB (decide (t = tx ∧ 0 < sz ∧ ys.length = m * sz ∧ len + m ≤ room ∧ off + (len + m) * sz ≤ cs.length) && ys.all fun c => !isLin1 c && okV c)
            (k (.own id off (len + m) room) { st with h := st.h.set id (.cells (setAt cs (off + len * sz) ys) e') }) none
        | none => none
      | _, _ => none) = some out) (hR : R B τ g st a w) (hk : Goes B τ g a w o.dst k out next) : o.wpIn (FW ρ) n C.P a w next Q := by
  split at h
  · rename_i sz cs e' hsz hcs
    split at h
    · rename_i m ys hsrc
      rcases condB_cases h with ⟨hc, hgo⟩ | ⟨_, h⟩
      · simp only [Bool.and_eq_true, decide_eq_true_eq] at hc
        obtain ⟨⟨rfl, h0, hlen, hroom, hfit⟩, hnl⟩ := hc
        obtain ⟨it, hit, hits⟩ : ∃ it, C.P.info? e = some it ∧ it.size = sz := by
          unfold sizeT at hsz
          cases hi : C.P.info? e with
          | none => rw [hi] at hsz; cases hsz
          | some it => rw [hi] at hsz; exact ⟨it, rfl, by simpa using hsz⟩
        subst hits
        obtain ⟨ds, hs⟩ := peek_rep hR s
        rw [hp] at hs
        have fin : ∀ (r : Value) (w' : World), (Builtin.append_ #[t, t] o.type #[a.eval s, a.eval x]).run C.P w = .ok r w' → Later B τ g g w w' → R B τ g { st with h := st.h.set id (.cells (setAt cs (off + len * it.size) ys) e') } a w' → RepS g τ (o.dst.getD 0) (.own id off (len + m) room) r → o.wpIn (FW ρ) n C.P a w next Q := by
          intro r w' hrun l3 R3 hr
          refine wp_value (by simp [ho]) (v := r) (w' := w') ?_ (hk _ _ g _ w' l3 R3 hr hgo)
          simp [execOp, ho, resolve, hb, ea, et, invoke, builtin, hrun]
        by_cases hm : m = 0
        · subst hm
          have hys : ys = [] := by apply List.eq_nil_of_length_eq_zero; rw [hlen]; simp
          subst hys
          have hset : st.h.set id (.cells (setAt cs (off + len * it.size) []) e') = st.h := by
            obtain ⟨hlt, hg⟩ := List.getElem?_eq_some_iff.1 hcs
            show st.h.set id (.cells cs e') = st.h
            rw [← hg]; exact List.set_getElem_self hlt
          have hx0 : ∃ c' k, a.eval x = .slice c' 0 k := by
            obtain ⟨dx, hx⟩ := peek_rep hR x
            unfold ownSrc at hsrc
            split at hsrc
            · rename_i id2 off2 len2 room2 hpx
              split at hsrc
              · injection hsrc with hsrc
                injection hsrc with h1 h2
                subst h1
                rw [hpx] at hx
                rcases hx with ⟨b, cap, _, eu, _⟩ | ⟨_, _, ad, eu⟩
                · exact ⟨_, _, eu⟩
                · exact ⟨_, _, eu⟩
              · cases hsrc
            · rename_i fl q xs hpx
              split at hsrc
              · injection hsrc with hsrc
                injection hsrc with h1 h2
                have : xs = [] := List.eq_nil_of_length_eq_zero h1
                subst this
                rw [hpx] at hx
                have hx : RepI g.mem (.imm fl q []) (a.eval x) := hx
                generalize a.eval x = u at hx ⊢
                cases hx <;> exact ⟨_, _, rfl⟩
              · cases hsrc
            · cases hsrc
          obtain ⟨c', k', hx0⟩ := hx0
          rcases hs with ⟨b, cap, hl, eu, hlc, hcm, hrm⟩ | ⟨rfl, rfl, ad, eu⟩
          · refine fin (a.eval s) w ?_ (Later.refl ..) (by rw [hset]; exact hR) (by rw [eu]; exact .inl ⟨b, cap, hl, rfl, hlc, hcm, hrm⟩)
            rw [eu, hx0]
            exact run_append_zero w t _ e it ht hit _ c' len cap k' hlc (fun h => by cases h)
          · refine fin (a.eval s) w ?_ (Later.refl ..) (by rw [hset]; exact hR) (by rw [eu]; exact .inr ⟨rfl, rfl, ad, rfl⟩)
            rw [eu, hx0]
            exact run_append_zero w t _ e it ht hit ad c' 0 0 k' (Nat.le_refl _) (fun _ => ⟨rfl, rfl⟩)
        · rcases hs with ⟨b, cap, hl, eu, hlc, hcm, hrm⟩ | ⟨rfl, rfl, ad, eu⟩
          · obtain ⟨ad, cx, news, hxe, hnl', hcell, hone, hrep⟩ := ownSrc_sound hR hsrc hlen h0 hnl hm
            obtain ⟨cur, hcur, hlcur, _⟩ := hR.heap.blk id b cs e' hl hcs
            have hadd : (len + m) * it.size = len * it.size + m * it.size := Nat.add_mul ..
            obtain ⟨l3, R3⟩ := splice_sound hR (o := off + len * it.size) (ys := ys) (news := news) hl hcs hcur (by rw [hlen, hnl']) (by rw [hlen]; omega) (fun j c v hc hv => hrep _ j c v hc hv)
            refine fin _ _ ?_ l3 R3 (.inl ⟨b, cap, hl, rfl, by omega, hcm, hrm⟩)
            rw [eu, hxe]
            exact run_append_at (P := C.P) w t o.type e it ht hit b off len cap cur e' hcur ad m cx news hnl' hcell hone (by omega) (by rw [hnl']; omega)
          · omega
      · cases h
    · cases h
  · cases h

theorem op_clear {c : Call} (ho : o.op = .call c) (hb : c.callee = .builtin .clear) (h : vop C vb f o st k kp = some out) (hR : R B τ g st a w) (hk : Goes B τ g a w o.dst k out next) : o.wpIn (FW ρ) n C.P a w next Q := by
  unfold vop at h
  rw [ho] at h
  dsimp only at h
  rw [hb] at h
  dsimp only at h
  split at h
  · rename_i x t hx' htt
    have ea : c.args = #[x] := by rw [← Array.toList_inj]; exact hx'
    have et : c.argTypes = #[t] := by rw [← Array.toList_inj]; exact htt
    split at h
    · rename_i e id off len room he hp
      have ht := sliceT he
      split at h
      · rename_i sz z cs e' hsz hz hcs
        rcases condB_cases h with ⟨hc, h⟩ | ⟨_, h⟩
        · simp only [decide_eq_true_eq] at hc
          obtain ⟨h0, hzl, hokz, hfz, hdst, hfit⟩ := hc
          obtain ⟨it, zv, hit, hzv, ez⟩ := zeroT_eq hz
          subst ez
          obtain ⟨c1, c2⟩ := ofVal_cells (g := g) hokz
          have hzsz : zv.cells.size = sz := by rw [← c1]; exact hzl
          obtain ⟨dx, hx⟩ := peek_rep hR x
          rw [hp] at hx
          have hzr : ∀ w, (zeroValue e).run C.P w = .ok zv w := by intro w; simp [zeroValue, typeInfo, hit, hzv]
          have fin : ∀ (w' : World), (Builtin.clear_ #[t] o.type #[a.eval x]).run C.P w = .ok (.tuple #[]) w' → Later B τ g g w w' → R B τ g { st with h := st.h.set id (.cells (setAt cs off (List.replicate len (ofVal zv).cells).flatten) e') } a w' → o.wpIn (FW ρ) n C.P a w next Q := by
            intro w' hrun l3 R3
            refine wp_value (by simp [ho]) (v := .tuple #[]) (w' := w') ?_ (hk .undef _ g _ w' l3 R3 trivial h)
            simp [execOp, ho, resolve, hb, ea, et, invoke, builtin, hrun]
          have zero : len = 0 → (∃ ad c, a.eval x = .slice ad 0 c) → o.wpIn (FW ρ) n C.P a w next Q := by
            rintro rfl ⟨ad, cc, eu⟩
            refine fin w (by rw [eu]; exact run_clear_zero w t e o.type ht ad cc) (Later.refl ..) ?_
            have hset : st.h.set id (.cells (setAt cs off (List.replicate 0 (ofVal zv).cells).flatten) e') = st.h := by
              obtain ⟨hlt, hg⟩ := List.getElem?_eq_some_iff.1 hcs
              show st.h.set id (.cells cs e') = st.h
              rw [← hg]; exact List.set_getElem_self hlt
            rw [hset]; exact hR
          rcases hx with ⟨b, cap, hl, eu, hlc, hcm, hrm⟩ | ⟨e0, _, ad, eu⟩
          · by_cases hlen : len = 0
            · exact zero hlen ⟨_, cap, by rw [eu, hlen]⟩
            · obtain ⟨cur, hcur, hlcur, _⟩ := hR.heap.blk id b cs e' hl hcs
              have hfl : ((List.replicate len (ofVal zv).cells).flatten).length = len * sz := by simp [hzl]
              have hzc : (Builtin.zeroCells zv.cells len).toList.length = len * sz := by simp [size_zeroCells, hzsz]
              have hat : ∀ (j : Nat) (v : Value), (Builtin.zeroCells zv.cells len).toList[j]? = some v → ∃ hj : j % sz < zv.cells.size, v = zv.cells[j % sz] := by
                intro j v hv
                have hj := (List.getElem?_eq_some_iff.1 hv).1
                have hjm : j % sz < zv.cells.size := by rw [hzsz]; exact Nat.mod_lt _ h0
                refine ⟨hjm, ?_⟩
                have := (List.getElem?_eq_some_iff.1 hv).2
                rw [← this]
                simp only [Builtin.zeroCells, Array.getElem_toList, Array.getElem_map, Array.getElem_range]
                rw [getElem!_pos zv.cells (j % zv.cells.size) (by rw [hzsz]; exact Nat.mod_lt _ h0)]
                congr 1; rw [hzsz]
              obtain ⟨l3, R3⟩ := splice_sound hR (o := off) (ys := (List.replicate len (ofVal zv).cells).flatten) (news := (Builtin.zeroCells zv.cells len).toList) hl hcs hcur (by rw [hfl, hzc]) (by rw [hfl]; exact hfit) (fun j c v hc hv => by
                obtain ⟨hj, rfl⟩ := hat j v hv
                exact c2 _ (j % sz) c hj (flat_get len (ofVal zv).cells sz hzl h0 j c hc))
              refine fin _ ?_ l3 R3
              rw [eu]
              exact run_clear_at (P := C.P) w t e o.type zv ht hzr b off len cap cur e' hcur (by omega) (fun v hv => by
                obtain ⟨j, hj, rfl⟩ := List.mem_iff_getElem.1 hv
                obtain ⟨hj', e1⟩ := hat j _ (List.getElem?_eq_getElem hj)
                rw [e1]
                exact (c2 (.cell 0 0) (j % sz) _ hj' (List.getElem?_eq_getElem (by rw [c1]; exact hj'))).one) (by rw [hzc]; omega)
          · exact zero e0 ⟨ad, 0, by rw [eu]⟩
        · cases h
      · cases h
    · cases h
  · cases h
end
end Go.Fw
