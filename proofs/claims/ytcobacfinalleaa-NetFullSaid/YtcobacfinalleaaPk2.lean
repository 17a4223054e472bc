/- Arrays of the evaluator's heap: appending in place, clearing. -/
import Derived.Test.YtcobacfinalleaaPk1
import Derived.ArgAppend
import Derived.Orders
set_option linter.all false
namespace Go.Fw
open Go.RowKit

theorem run_append_zero {P : Program} (w : World) (t ty e : TypeId) (i : TypeInfo) (ht : P.underlying t = some (.slice e)) (hi : P.info? e = some i) (b c : Option Addr) (n m k : Nat) (hn : n ≤ m) (hz : b = none → n = 0 ∧ m = 0) :
    (Builtin.append_ #[t, t] ty #[.slice b n m, .slice c 0 k]).run P w = .ok (.slice b n m) w := by
  cases b with
  | none =>
    obtain ⟨rfl, rfl⟩ := hz rfl
    cases c <;> simp [Builtin.append_, run_underlying ht, sizeOf, typeInfo, hi, Builtin.lenOf, Builtin.firstCells, loadCells, loadCellsFrom]
  | some b => cases c <;> simp [Builtin.append_, run_underlying ht, sizeOf, typeInfo, hi, Builtin.lenOf, hn, Builtin.firstCells, loadCells, loadCellsFrom, storeCells]
theorem run_append_at {P : Program} (w : World) (t ty e : TypeId) (i : TypeInfo) (ht : P.underlying t = some (.slice e)) (hi : P.info? e = some i) (b off n cap : Nat) (cur : Array Value) (t0 : TypeId) (hcur : w.heap[b]? = some (.cells cur t0 (0, 0)))
    (a : Addr) (m c : Nat) (news : List Value) (hl : news.length = m * i.size) (hnews : ∀ j u, news[j]? = some u → w.cell? (a.add j) = some u) (h1 : ∀ u ∈ news, u.oneCell' = true) (hroom : n + m ≤ cap) (hfit : off + n * i.size + news.length ≤ cur.size) :
    (Builtin.append_ #[t, t] ty #[.slice (some ⟨b, off, none⟩) n cap, .slice (some a) m c]).run P w = .ok (.slice (some ⟨b, off, none⟩) (n + m) cap)
      (w.setRow b (cur.toList.take (off + n * i.size) ++ news ++ cur.toList.drop (off + n * i.size + news.length)).toArray) := by
  have hfc := run_firstCells_some (P := P) w i.size m a m c news hl hnews
  have hst := run_storeCells_at (P := P) b (off + n * i.size) t0 news 0 cur w hcur (by omega) h1
  simp only [Nat.add_zero] at hst
  simp [Builtin.append_, run_underlying ht, sizeOf, typeInfo, hi, Builtin.lenOf, hroom, hfc, Addr.add_lit, hst]
theorem run_clear_at {P : Program} (w : World) (t e ty : TypeId) (z : Value) (ht : P.underlying t = some (.slice e)) (hv : ∀ w, (zeroValue e).run P w = .ok z w) (b off n c : Nat) (cur : Array Value) (t0 : TypeId) (hcur : w.heap[b]? = some (.cells cur t0 (0, 0)))
    (hn : 0 < n) (h1 : ∀ v ∈ (Builtin.zeroCells z.cells n).toList, v.oneCell' = true) (hfit : off + (Builtin.zeroCells z.cells n).toList.length ≤ cur.size) :
    (Builtin.clear_ #[t] ty #[.slice (some ⟨b, off, none⟩) n c]).run P w = .ok (.tuple #[]) (w.setRow b (cur.toList.take off ++ (Builtin.zeroCells z.cells n).toList ++ cur.toList.drop (off + (Builtin.zeroCells z.cells n).toList.length)).toArray) := by
  have hst := run_storeCells_at (P := P) b off t0 (Builtin.zeroCells z.cells n).toList 0 cur w hcur (by omega) h1
  simp only [Nat.add_zero] at hst
  obtain ⟨m, rfl⟩ : ∃ m, n = m + 1 := ⟨n - 1, by omega⟩
  simp only [Builtin.clear_]
  simp [run_underlying ht, hv, hst]
theorem run_clear_zero {P : Program} (w : World) (t e ty : TypeId) (ht : P.underlying t = some (.slice e)) (b : Option Addr) (c : Nat) : (Builtin.clear_ #[t] ty #[.slice b 0 c]).run P w = .ok (.tuple #[]) w := by
  cases b <;> simp [Builtin.clear_, run_underlying ht]

theorem flatMap_at {sz : Nat} : ∀ {xs : List V} {j : Nat} {c : V}, (∀ (i : Nat) (x : V), xs[i]? = some x → x.cells.length = sz) → 0 < sz → (xs.flatMap V.cells)[j]? = some c → ∃ x, xs[j / sz]? = some x ∧ x.cells[j % sz]? = some c
  | [], j, c, _, _, h => by simp at h
  | x :: xs, j, c, hl, h0, h => by
    rw [List.flatMap_cons] at h
    have hx := hl 0 x rfl
    by_cases hj : j < sz
    · rw [List.getElem?_append_left (by omega)] at h
      rw [Nat.div_eq_of_lt hj, Nat.mod_eq_of_lt hj]
      exact ⟨x, rfl, h⟩
    · rw [List.getElem?_append_right (by omega), hx] at h
      obtain ⟨y, h1, h2⟩ := flatMap_at (fun i y hy => hl (i + 1) y (by simpa using hy)) h0 h
      refine ⟨y, ?_, ?_⟩
      · rw [Nat.div_eq_sub_div h0 (by omega)]
        simpa using h1
      · rwa [Nat.mod_eq_sub_mod (by omega)]
theorem flatMap_len {sz : Nat} : ∀ {xs : List V}, (∀ (i : Nat) (x : V), xs[i]? = some x → x.cells.length = sz) → (xs.flatMap V.cells).length = xs.length * sz
  | [], _ => by simp
  | x :: xs, hl => by
    rw [List.flatMap_cons, List.length_append, flatMap_len (sz := sz) (fun i y hy => hl (i + 1) y (by simpa using hy)), hl 0 x rfl, List.length_cons, Nat.add_mul]
    omega

theorem cell_flat {g : Gh} {p : Place} {v : V} {u : Value} (hc : isCell v = true) (h : RepI g.mem v u) : RepC g p v u := by
  cases v <;> try exact h
  case undef => cases h
  case ptr => cases h
  case own => cases h
  case lin => cases h
  case agg => cases hc
  case tup => cases hc
  case fn f first caps =>
    cases h with
    | fn _ _ _ first' caps' h1 h2 v1 v2 =>
      have key : ∀ v u, RepI g.mem v u → RepP g v u := fun v u h => by
        cases v <;> first | exact h | cases h
      exact ⟨first', caps', rfl, h1, h2, fun j c hj hc => key _ _ (v1 j c hj hc), fun j c hj hc => key _ _ (v2 j c hj hc)⟩


section
variable {C : Cx} {vb : FuncId → List V → List Blk → Option FOut} {f : FuncId} {ρ : Option Nat} {n : Nat} {o : Oper} {st : St} {α : Type} {k kp : V → St → Option α} {out : α}
  {B τ : Nat} {g : Gh} {a : Act} {w : World} {next : Act → World → Prop} {Q : Exit → Act → World → Prop}

/-- Cells of an array are written. -/
theorem splice_sound (hR : R B τ g st a w) {id b o : Nat} {cs ys : List V} {e : TypeId} {cur : Array Value} {news : List Value} (hb : g.loc id = some b) (hcs : st.h[id]? = some (.cells cs e)) (hcur : w.heap[b]? = some (.cells cur e (0, 0)))
    (hl : ys.length = news.length) (hfit : o + ys.length ≤ cs.length) (hrep : ∀ (j : Nat) (c : V) (v : Value), ys[j]? = some c → news[j]? = some v → RepC g (.cell id (o + j)) c v) :
    Later B τ g g w (w.setRow b (cur.toList.take o ++ news ++ cur.toList.drop (o + news.length)).toArray) ∧
      R B τ g { st with h := st.h.set id (.cells (setAt cs o ys) e) } a (w.setRow b (cur.toList.take o ++ news ++ cur.toList.drop (o + news.length)).toArray) := by
  obtain ⟨cur0, hcur0, hlc, hrep0⟩ := hR.heap.blk id b cs e hb hcs
  rw [hcur] at hcur0
  cases hcur0
  have hcl : cur.toList.length = cur.size := Array.length_toList
  have hfit' : o + news.length ≤ cur.toList.length := by omega
  generalize hc' : (cur.toList.take o ++ news ++ cur.toList.drop (o + news.length)).toArray = cur'
  have hsz : cur'.size = cur.size := by
    rw [← hc', List.size_toArray, List.length_append, List.length_append, List.length_take, List.length_drop]
    omega
  refine write_blk hR hb hcs hcur (by rw [length_setAt, hsz]; exact hlc) (fun j c hj hc => ?_)
  rw [getElem?_setAt _ _ _ _ hfit] at hc
  have hg : cur'[j]? = if o ≤ j ∧ j < o + news.length then news[j - o]? else cur.toList[j]? := by
    rw [← hc']
    simpa using splice_get cur.toList news o j hfit'
  rw [Array.getElem?_eq_getElem hj] at hg
  by_cases h1 : o ≤ j ∧ j < o + news.length
  · rw [if_pos h1] at hg
    rw [if_pos (by omega)] at hc
    have := hrep (j - o) c _ hc hg.symm
    rwa [show o + (j - o) = j by omega] at this
  · rw [if_neg h1, Array.getElem?_toList, Array.getElem?_eq_getElem (by omega)] at hg
    rw [if_neg (by omega)] at hc
    rw [Option.some.inj hg]
    exact hrep0 j c (by omega) hc

/-- What is appended to an array: its cells, in the world. -/
theorem ownSrc_sound (hR : R B τ g st a w) {x : Operand} {sz m : Nat} {ys : List V} (hs : ownSrc st.h sz (st.peek x) = some (m, ys)) (hlen : ys.length = m * sz) (h0 : 0 < sz) (hnl : ys.all (fun c => !isLin1 c && okV c) = true) (hm : m ≠ 0) :
    ∃ (ad : Addr) (c : Nat) (news : List Value), a.eval x = .slice (some ad) m c ∧ news.length = m * sz ∧ (∀ (j : Nat) (v : Value), news[j]? = some v → w.cell? (ad.add j) = some v) ∧ (∀ v ∈ news, v.oneCell' = true) ∧ ∀ (p : Place) (j : Nat) (c : V) (v : Value), ys[j]? = some c → news[j]? = some v → RepC g p c v := by
  obtain ⟨dx, hx⟩ := peek_rep hR x
  unfold ownSrc at hs
  split at hs
  · rename_i id off len room hp
    rw [hp] at hx
    split at hs
    · rename_i cs e hcs
      cases hs
      rcases hx with ⟨b, cap, hl, eu, hlc, hcm, hrm⟩ | ⟨e0, _⟩
      · obtain ⟨cur, hcur, hlcur, hrep⟩ := hR.heap.blk id b cs e hl hcs
        have hle : off + m * sz ≤ cs.length := by
          have : ((cs.drop off).take (m * sz)).length = min (m * sz) (cs.length - off) := by simp
          rw [this] at hlen
          have : 0 < m * sz := Nat.mul_pos (by omega) h0
          omega
        have hnl' : ((cur.toList.drop off).take (m * sz)).length = m * sz := by simp; omega
        have key : ∀ (p : Place) (j : Nat) (c : V) (v : Value), ((cs.drop off).take (m * sz))[j]? = some c → ((cur.toList.drop off).take (m * sz))[j]? = some v → RepC g p c v := by
          intro p j c v hc hv
          have hmem := List.mem_of_getElem? hc
          rw [List.all_eq_true] at hnl
          have := hnl c hmem
          simp only [Bool.and_eq_true, Bool.not_eq_true'] at this
          rw [takeDrop_get] at hc hv
          split at hc
          · rename_i hj
            rw [if_pos hj, Array.getElem?_toList] at hv
            obtain ⟨hlt, rfl⟩ := Array.getElem?_eq_some_iff.1 hv
            exact RepC.any this.1 (hrep _ c hlt hc)
          · cases hc
        refine ⟨⟨b, off, none⟩, cap, (cur.toList.drop off).take (m * sz), eu, hnl', fun j v hv => ?_, fun v hv => ?_, key⟩
        · rw [takeDrop_get] at hv
          split at hv
          · rw [addr_add, cell_of_heap hcur, ← Array.getElem?_toList]; exact hv
          · cases hv
        · obtain ⟨j, hj, rfl⟩ := List.mem_iff_getElem.1 hv
          have hj2 : j < ((cs.drop off).take (m * sz)).length := by rw [hlen]; rw [hnl'] at hj; exact hj
          exact (key (.cell 0 0) j _ _ (List.getElem?_eq_getElem hj2) (List.getElem?_eq_getElem hj)).one
      · exact absurd e0 hm
    · cases hs
  · rename_i fl q xs hp
    split at hs
    · rename_i hq
      subst hq
      cases hs
      rw [hp] at hx
      have hxs : xs ≠ [] := fun e => hm (by rw [e]; rfl)
      have hx : RepI g.mem (.imm fl q xs) (a.eval x) := hx
      obtain ⟨ad, c, news, eu, hnl', hcell, hone, hel⟩ := imm_news hx hR.mem hxs
      refine ⟨ad, c, news, eu, hnl', hcell, hone, fun p j c v hc hv => ?_⟩
      obtain ⟨x1, h1, h2⟩ := flatMap_at hel.2.2.1 h0 hc
      obtain ⟨q1, v', q2, q3⟩ := hel.2.2.2 _ x1 _ c h1 h2
      have hjj : j / q * q + j % q = j := by rw [Nat.mul_comm]; exact Nat.div_add_mod _ _
      rw [hjj, hv] at q2
      cases q2
      exact cell_flat q1 q3
    · cases hs
  · cases hs

theorem op_append_own {c : Call} {s x : Operand} {t tx e : TypeId} {id off len room : Nat} (ho : o.op = .call c) (hb : c.callee = .builtin .append) (ea : c.args = #[s, x]) (et : c.argTypes = #[t, tx]) (ht : C.P.underlying t = some (.slice e)) (hp : st.peek s = .own id off len room)
    (h : (match sizeT C.P e, st.h[id]? with
      | some sz, some (.cells cs e') => match ownSrc st.h sz (st.peek x) with
        | some (m, ys) => condB (decide (t = tx ∧ 0 < sz ∧ ys.length = m * sz ∧ len + m ≤ room ∧ off + (len + m) * sz ≤ cs.length) && ys.all fun c => !isLin1 c && okV c)
            (k (.own id off (len + m) room) { st with h := st.h.set id (.cells (setAt cs (off + len * sz) ys) e') }) none
        | none => none
      | _, _ => none) = some out) (hR : R B τ g st a w) (hk : Goes B τ g a w o.dst k out next) : o.wpIn (FW ρ) n C.P a w next Q := by
  split at h
  · rename_i sz cs e' hsz hcs
    split at h
    · rename_i m ys hsrc
      rcases condB_cases h with ⟨hc, hgo⟩ | ⟨_, h⟩
      · simp only [Bool.and_eq_true, decide_eq_true_eq] at hc
        obtain ⟨⟨rfl, h0, hlen, hroom, hfit⟩, hnl⟩ := hc
        obtain ⟨it, hit, hits⟩ : ∃ it, C.P.info? e = some it ∧ it.size = sz := by
          unfold sizeT at hsz
          cases hi : C.P.info? e with
          | none => rw [hi] at hsz; cases hsz
          | some it => rw [hi] at hsz; exact ⟨it, rfl, by simpa using hsz⟩
        subst hits
        obtain ⟨ds, hs⟩ := peek_rep hR s
        rw [hp] at hs
        have fin : ∀ (r : Value) (w' : World), (Builtin.append_ #[t, t] o.type #[a.eval s, a.eval x]).run C.P w = .ok r w' → Later B τ g g w w' → R B τ g { st with h := st.h.set id (.cells (setAt cs (off + len * it.size) ys) e') } a w' → RepS g τ (o.dst.getD 0) (.own id off (len + m) room) r → o.wpIn (FW ρ) n C.P a w next Q := by
          intro r w' hrun l3 R3 hr
          refine wp_value (by simp [ho]) (v := r) (w' := w') ?_ (hk _ _ g _ w' l3 R3 hr hgo)
          simp [execOp, ho, resolve, hb, ea, et, invoke, builtin, hrun]
        by_cases hm : m = 0
        · subst hm
          have hys : ys = [] := by apply List.eq_nil_of_length_eq_zero; rw [hlen]; simp
          subst hys
          have hset : st.h.set id (.cells (setAt cs (off + len * it.size) []) e') = st.h := by
            obtain ⟨hlt, hg⟩ := List.getElem?_eq_some_iff.1 hcs
            show st.h.set id (.cells cs e') = st.h
            rw [← hg]; exact List.set_getElem_self hlt
          have hx0 : ∃ c' k, a.eval x = .slice c' 0 k := by
            obtain ⟨dx, hx⟩ := peek_rep hR x
            unfold ownSrc at hsrc
            split at hsrc
            · rename_i id2 off2 len2 room2 hpx
              split at hsrc
              · injection hsrc with hsrc
                injection hsrc with h1 h2
                subst h1
                rw [hpx] at hx
                rcases hx with ⟨b, cap, _, eu, _⟩ | ⟨_, _, ad, eu⟩
                · exact ⟨_, _, eu⟩
                · exact ⟨_, _, eu⟩
              · cases hsrc
            · rename_i fl q xs hpx
              split at hsrc
              · injection hsrc with hsrc
                injection hsrc with h1 h2
                have : xs = [] := List.eq_nil_of_length_eq_zero h1
                subst this
                rw [hpx] at hx
                have hx : RepI g.mem (.imm fl q []) (a.eval x) := hx
                generalize a.eval x = u at hx ⊢
                cases hx <;> exact ⟨_, _, rfl⟩
              · cases hsrc
            · cases hsrc
          obtain ⟨c', k', hx0⟩ := hx0
          rcases hs with ⟨b, cap, hl, eu, hlc, hcm, hrm⟩ | ⟨rfl, rfl, ad, eu⟩
          · refine fin (a.eval s) w ?_ (Later.refl ..) (by rw [hset]; exact hR) (by rw [eu]; exact .inl ⟨b, cap, hl, rfl, hlc, hcm, hrm⟩)
            rw [eu, hx0]
            exact run_append_zero w t _ e it ht hit _ c' len cap k' hlc (fun h => by cases h)
          · refine fin (a.eval s) w ?_ (Later.refl ..) (by rw [hset]; exact hR) (by rw [eu]; exact .inr ⟨rfl, rfl, ad, rfl⟩)
            rw [eu, hx0]
            exact run_append_zero w t _ e it ht hit ad c' 0 0 k' (Nat.le_refl _) (fun _ => ⟨rfl, rfl⟩)
        · rcases hs with ⟨b, cap, hl, eu, hlc, hcm, hrm⟩ | ⟨rfl, rfl, ad, eu⟩
          · obtain ⟨ad, cx, news, hxe, hnl', hcell, hone, hrep⟩ := ownSrc_sound hR hsrc hlen h0 hnl hm
            obtain ⟨cur, hcur, hlcur, _⟩ := hR.heap.blk id b cs e' hl hcs
            have hadd : (len + m) * it.size = len * it.size + m * it.size := Nat.add_mul ..
            obtain ⟨l3, R3⟩ := splice_sound hR (o := off + len * it.size) (ys := ys) (news := news) hl hcs hcur (by rw [hlen, hnl']) (by rw [hlen]; omega) (fun j c v hc hv => hrep _ j c v hc hv)
            refine fin _ _ ?_ l3 R3 (.inl ⟨b, cap, hl, rfl, by omega, hcm, hrm⟩)
            rw [eu, hxe]
            exact run_append_at (P := C.P) w t o.type e it ht hit b off len cap cur e' hcur ad m cx news hnl' hcell hone (by omega) (by rw [hnl']; omega)
          · omega
      · cases h
    · cases h
  · cases h

theorem op_clear {c : Call} (ho : o.op = .call c) (hb : c.callee = .builtin .clear) (h : vop C vb f o st k kp = some out) (hR : R B τ g st a w) (hk : Goes B τ g a w o.dst k out next) : o.wpIn (FW ρ) n C.P a w next Q := by
  unfold vop at h
  rw [ho] at h
  dsimp only at h
  rw [hb] at h
  dsimp only at h
  split at h
  · rename_i x t hx' htt
    have ea : c.args = #[x] := by rw [← Array.toList_inj]; exact hx'
    have et : c.argTypes = #[t] := by rw [← Array.toList_inj]; exact htt
    split at h
    · rename_i e id off len room he hp
      have ht := sliceT he
      split at h
      · rename_i sz z cs e' hsz hz hcs
        rcases condB_cases h with ⟨hc, h⟩ | ⟨_, h⟩
        · simp only [decide_eq_true_eq] at hc
          obtain ⟨h0, hzl, hokz, hfz, hdst, hfit⟩ := hc
          obtain ⟨it, zv, hit, hzv, ez⟩ := zeroT_eq hz
          subst ez
          obtain ⟨c1, c2⟩ := ofVal_cells (g := g) hokz
          have hzsz : zv.cells.size = sz := by rw [← c1]; exact hzl
          obtain ⟨dx, hx⟩ := peek_rep hR x
          rw [hp] at hx
          have hzr : ∀ w, (zeroValue e).run C.P w = .ok zv w := by intro w; simp [zeroValue, typeInfo, hit, hzv]
          have fin : ∀ (w' : World), (Builtin.clear_ #[t] o.type #[a.eval x]).run C.P w = .ok (.tuple #[]) w' → Later B τ g g w w' → R B τ g { st with h := st.h.set id (.cells (setAt cs off (List.replicate len (ofVal zv).cells).flatten) e') } a w' → o.wpIn (FW ρ) n C.P a w next Q := by
            intro w' hrun l3 R3
            refine wp_value (by simp [ho]) (v := .tuple #[]) (w' := w') ?_ (hk .undef _ g _ w' l3 R3 trivial h)
            simp [execOp, ho, resolve, hb, ea, et, invoke, builtin, hrun]
          have zero : len = 0 → (∃ ad c, a.eval x = .slice ad 0 c) → o.wpIn (FW ρ) n C.P a w next Q := by
            rintro rfl ⟨ad, cc, eu⟩
            refine fin w (by rw [eu]; exact run_clear_zero w t e o.type ht ad cc) (Later.refl ..) ?_
            have hset : st.h.set id (.cells (setAt cs off (List.replicate 0 (ofVal zv).cells).flatten) e') = st.h := by
              obtain ⟨hlt, hg⟩ := List.getElem?_eq_some_iff.1 hcs
              show st.h.set id (.cells cs e') = st.h
              rw [← hg]; exact List.set_getElem_self hlt
            rw [hset]; exact hR
          rcases hx with ⟨b, cap, hl, eu, hlc, hcm, hrm⟩ | ⟨e0, _, ad, eu⟩
          · by_cases hlen : len = 0
            · exact zero hlen ⟨_, cap, by rw [eu, hlen]⟩
            · obtain ⟨cur, hcur, hlcur, _⟩ := hR.heap.blk id b cs e' hl hcs
              have hfl : ((List.replicate len (ofVal zv).cells).flatten).length = len * sz := by simp [hzl]
              have hzc : (Builtin.zeroCells zv.cells len).toList.length = len * sz := by simp [size_zeroCells, hzsz]
              have hat : ∀ (j : Nat) (v : Value), (Builtin.zeroCells zv.cells len).toList[j]? = some v → ∃ hj : j % sz < zv.cells.size, v = zv.cells[j % sz] := by
                intro j v hv
                have hj := (List.getElem?_eq_some_iff.1 hv).1
                have hjm : j % sz < zv.cells.size := by rw [hzsz]; exact Nat.mod_lt _ h0
                refine ⟨hjm, ?_⟩
                have := (List.getElem?_eq_some_iff.1 hv).2
                rw [← this]
                simp only [Builtin.zeroCells, Array.getElem_toList, Array.getElem_map, Array.getElem_range]
                rw [getElem!_pos zv.cells (j % zv.cells.size) (by rw [hzsz]; exact Nat.mod_lt _ h0)]
                congr 1; rw [hzsz]
              obtain ⟨l3, R3⟩ := splice_sound hR (o := off) (ys := (List.replicate len (ofVal zv).cells).flatten) (news := (Builtin.zeroCells zv.cells len).toList) hl hcs hcur (by rw [hfl, hzc]) (by rw [hfl]; exact hfit) (fun j c v hc hv => by
                obtain ⟨hj, rfl⟩ := hat j v hv
                exact c2 _ (j % sz) c hj (flat_get len (ofVal zv).cells sz hzl h0 j c hc))
              refine fin _ ?_ l3 R3
              rw [eu]
              exact run_clear_at (P := C.P) w t e o.type zv ht hzr b off len cap cur e' hcur (by omega) (fun v hv => by
                obtain ⟨j, hj, rfl⟩ := List.mem_iff_getElem.1 hv
                obtain ⟨hj', e1⟩ := hat j _ (List.getElem?_eq_getElem hj)
                rw [e1]
                exact (c2 (.cell 0 0) (j % sz) _ hj' (List.getElem?_eq_getElem (by rw [c1]; exact hj'))).one) (by rw [hzc]; omega)
          · exact zero e0 ⟨ad, 0, by rw [eu]⟩
        · cases h
      · cases h
    · cases h
  · cases h
end
end Go.Fw
/- The operations (13): append, the operation. -/
namespace Go.Fw
open Go.RowKit

section
variable {C : Cx} {vb : FuncId → List V → List Blk → Option FOut} {f : FuncId} {ρ : Option Nat} {n : Nat} {o : Oper} {st : St} {α : Type} {k kp : V → St → Option α} {out : α}
  {B τ : Nat} {g : Gh} {a : Act} {w : World} {next : Act → World → Prop} {Q : Exit → Act → World → Prop}

theorem grow_new (p : Bool) (h : R B τ g st a w) {d : Nat} {e : TypeId} {sz cap : Nat} {zs : List V} {all : List Value} (rest : Array Value) (hel : Elems g.mem sz zs all) (hc : zs.length ≤ cap) (hm : cap ≤ maxLen)
    (hr : all.length + rest.size = cap * sz) (hfree : ∀ v, st.fr[d]? = some v → isLin3 v = false) :
    ∃ g', Later B τ g g' w (w.drew.alloc (.cells (all.toArray ++ rest) e)) ∧ R B τ g' st a (w.drew.alloc (.cells (all.toArray ++ rest) e)) ∧
      RepS g' τ d (.lin p e sz zs) (.slice (some ⟨w.heap.size, 0, none⟩) zs.length cap) := by
  have hfm := free_mem h
  have hfl := free_lin h
  let i : LinI := ⟨.slot τ d 0 0, p, all, e, sz, cap⟩
  have hle : all.length ≤ cap * sz := by rw [hel.1]; exact Nat.mul_le_mul_right _ hc
  obtain ⟨l1, r1⟩ := grow_sound (b := w.heap.size) (d := d) (i := i) (row := none) (w' := w.drew.alloc (.cells (all.toArray ++ rest) e)) h
    ⟨rfl, rfl, rfl, by simp, fun k hk _ => Go.heap_alloc_old w.drew _ k hk⟩ (fun k hk => by cases hk) h.base rfl (.inr ⟨hfl, hfm, Nat.le_refl _⟩)
    ⟨_, heap_alloc_new w.drew _, by simp [i], by simp [i, hr]⟩ hle hm hel.2.1 hfree
  refine ⟨_, l1, r1, ?_⟩
  exact .inl ⟨w.heap.size, i, by simp [Gh.grown], rfl, rfl, ⟨rfl, rfl⟩, rfl, hel.mono l1.mem⟩

theorem grow_room (h : R B τ g st a w) {d b : Nat} {e : TypeId} {sz : Nat} {zs : List V} {news : List Value} {p : Bool} {i : LinI} {cur : Array Value} (hb : g.lin b = some i) (hp : i.place = .slot τ d 0 0) (hpr : i.priv = p) (he : i.ety = e) (hz : i.esz = sz)
    (hcur : w.heap[b]? = some (.cells cur e (0, 0))) (hel : Elems g.mem sz zs (i.cs ++ news)) (hroom : zs.length ≤ i.cap) (hfree : ∀ v, st.fr[d]? = some v → isLin3 v = false) :
    ∃ g', Later B τ g g' w (w.setRow b (cur.toList.take i.cs.length ++ news ++ cur.toList.drop (i.cs.length + news.length)).toArray) ∧
      R B τ g' st a (w.setRow b (cur.toList.take i.cs.length ++ news ++ cur.toList.drop (i.cs.length + news.length)).toArray) ∧
      RepS g' τ d (.lin p e sz zs) (.slice (some ⟨b, 0, none⟩) zs.length i.cap) := by
  subst hpr; subst he; subst hz
  obtain ⟨k1, ⟨cur', k2, k3, k4⟩, k5, k6, k7, _, _⟩ := h.lin.at_ b i hb
  rw [hcur] at k2
  cases k2
  have hcs := isPre_take k3
  have hle : (i.cs ++ news).length ≤ i.cap * i.esz := by rw [hel.1]; exact Nat.mul_le_mul_right _ hroom
  have hlen : i.cs.length + news.length ≤ cur.size := by rw [k4]; simpa using hle
  rw [hcs]
  let i' : LinI := { i with cs := i.cs ++ news }
  obtain ⟨l1, r1⟩ := grow_sound (b := b) (d := d) (i := i') (row := some b) (w' := w.setRow b (i.cs ++ news ++ cur.toList.drop (i.cs.length + news.length)).toArray) h
    ⟨rfl, rfl, rfl, by simp, fun k _ hk => setRow_other w b k _ (fun e => hk (by simp [e]))⟩ (fun k hk => by cases hk; exact ⟨rfl, k1⟩) k1 hp (.inl ⟨i, hb, hp, rfl, List.prefix_append _ _⟩)
    ⟨_, setRow_heap w b cur _ _ _ hcur, by simp [i'], by
      simp only [List.size_toArray, List.length_append, List.length_drop, Array.length_toList, i']; omega⟩ hle k6 k7 hfree
  exact ⟨_, l1, r1, .inl ⟨b, i', by simp [Gh.grown], hp, rfl, ⟨rfl, rfl⟩, rfl, hel.mono l1.mem⟩⟩

theorem mem_of_prefix {α : Type} {l : List α} {c : Array α} {j : Nat} {u : α} (h : l <+: c.toList) (hj : l[j]? = some u) : c[j]? = some u := by
  obtain ⟨t, ht⟩ := h
  rw [← Array.getElem?_toList, ← ht, List.getElem?_append_left (List.getElem?_eq_some_iff.1 hj).1]
  exact hj

theorem op_append {c : Call} (ho : o.op = .call c) (hb : c.callee = .builtin .append) (h : vop C vb f o st k kp = some out) (hR : R B τ g st a w) (hk : Goes B τ g a w o.dst k out next) : o.wpIn (FW ρ) n C.P a w next Q := by
  unfold vop at h
  rw [ho] at h
  dsimp only at h
  rw [hb] at h
  dsimp only at h
  split at h
  · rename_i s x t tx hsx htt
    have ea : c.args = #[s, x] := by rw [← Array.toList_inj]; exact hsx
    have et : c.argTypes = #[t, tx] := by rw [← Array.toList_inj]; exact htt
    split at h
    · rename_i e e2 he he2
      have ht := sliceT he
      split at h
      · rename_i id off len room hps
        exact op_append_own ho hb ea et ht hps h hR hk
      rename_i hnown
      split at h
      · rename_i by_ sz z m ys hby hsz hz hel
        split at h
        · rename_i hcond
          obtain ⟨rfl, hsame, h0, hb0, hokz, hzl⟩ := hcond
          obtain ⟨it, zv, hit, hzv, ez⟩ := zeroT_eq hz
          subst ez
          obtain ⟨c1, _⟩ := ofVal_cells (g := g) hokz
          have hszi : it.size = sz := by unfold sizeT at hsz; rw [hit] at hsz; simpa using hsz
          have hbyi : it.bytes = by_ := by unfold bytesT at hby; rw [hit] at hby; simpa using hby
          have hzsz : zv.cells.size = sz := by rw [← c1]; exact hzl
          subst hszi; subst hbyi
          split at h
          · rename_i nn v hva
            rcases condB_cases h with ⟨hc2, h⟩ | ⟨_, h⟩
            · simp only [Bool.and_eq_true, decide_eq_true_eq, Bool.not_eq_true'] at hc2
              obtain ⟨hbytes, hdst⟩ := hc2
              obtain ⟨g1, l1, R1, hx1⟩ := use_sound hR x
              obtain ⟨g2, l2, R2, hs2⟩ := take_sound R1 s (o.dst.getD 0)
              have hfree : ∀ v, ((st.useS x).takeS s).fr[o.dst.getD 0]? = some v → isLin3 v = false := fun v hv => by rw [getS_eq hv] at hdst; exact hdst
              -- what is appended
              have hx2 : (ys = [] ∧ a.eval x = .slice none 0 0) ∨ ∃ fl, RepI g2.mem (.imm fl it.size ys) (a.eval x) := by
                have hx := hx1 τ 0
                unfold St.useV at hx
                unfold elems at hel
                split at hel
                · rename_i hp; cases hel
                  rw [hp] at hx
                  refine .inl ⟨rfl, ?_⟩
                  simp only [map3, map2, demote1, RepS, RepA, RepC] at hx
                  generalize a.eval x = u at hx ⊢; cases hx; rfl
                · rename_i hp; cases hel
                  rw [hp] at hx
                  refine .inr ⟨false, ?_⟩
                  simp only [map3, map2, demote1, RepS, RepA, RepC] at hx
                  generalize a.eval x = u at hx ⊢
                  cases hx with
                  | nne ad cap q3 hsp => exact .imm false [] ad.block ad.off cap it.size (fun _ _ => default) (Nat.zero_le _) (fun h => by cases h) q3 h0 (fun i x h => by simp at h) (fun i x j c h => by simp at h) (fun i x j c h => by simp at h) ad.spot hsp
                · rename_i fl q ws hp; cases hel
                  rw [hp] at hx
                  simp only [map3, map2, demote1, RepS, RepA, RepC] at hx
                  have hx := hx.mono l2.mem
                  rcases hsame with hsame | hsame
                  · have hys : ys = [] := by simpa using hsame
                    subst hys
                    generalize a.eval x = u at hx ⊢
                    cases hx with
                    | none0 => exact .inr ⟨fl, .none0 fl it.size h0⟩
                    | imm _ _ b off cap esz val q1 q2 q3 q4 q5 q6 q7 sp hsp => exact .inr ⟨fl, .imm fl [] b off cap it.size (fun _ _ => default) q1 q2 q3 h0 (fun i x h => by simp at h) (fun i x j c h => by simp at h) (fun i x j c h => by simp at h) sp hsp⟩
                  · exact .inr ⟨fl, hsame ▸ hx⟩
                · rename_i q1 q2 q ws hp; cases hel
                  rw [hp] at hx
                  simp only [map3, map2, demote1, RepS, RepA, RepC] at hx
                  have hx := hx.mono l2.mem
                  rcases hsame with hsame | hsame
                  · have hys : ys = [] := by simpa using hsame
                    subst hys
                    generalize a.eval x = u at hx ⊢
                    cases hx with
                    | none0 => exact .inr ⟨false, .none0 false it.size h0⟩
                    | imm _ _ b off cap esz val q1 q2 q3 q4 q5 q6 q7 sp hsp => exact .inr ⟨false, .imm false [] b off cap it.size (fun _ _ => default) q1 q2 q3 h0 (fun i x h => by simp at h) (fun i x j c h => by simp at h) (fun i x j c h => by simp at h) sp hsp⟩
                  · exact .inr ⟨false, hsame ▸ hx⟩
                · cases hel
              have fin : ∀ (r : Value) (w' : World) (g3 : Gh), (Builtin.append_ #[t, t] o.type #[a.eval s, a.eval x]).run C.P w = .ok r w' → Later B τ g2 g3 w w' → R B τ g3 ((st.useS x).takeS s) a w' → RepS g3 τ (o.dst.getD 0) v r → o.wpIn (FW ρ) n C.P a w next Q := by
                intro r w' g3 hrun l3 R3 hr
                refine wp_value (by simp [ho]) (v := r) (w' := w') ?_ (hk v _ g3 _ w' ((l1.trans l2).trans l3) R3 hr h)
                simp [execOp, ho, resolve, hb, ea, et, invoke, builtin, hrun]
              -- nothing is appended
              have fin0 : ∀ (b : Option Addr) (l m : Nat), ys = [] → a.eval s = .slice b l m → l ≤ m → (b = none → l = 0 ∧ m = 0) → RepS g2 τ (o.dst.getD 0) v (a.eval s) → o.wpIn (FW ρ) n C.P a w next Q := by
                intro b l m hys hs hlm hbz hr
                have hx0 : ∃ c' k, a.eval x = .slice c' 0 k := by
                  rcases hx2 with ⟨_, e⟩ | ⟨fl, e⟩
                  · exact ⟨none, 0, e⟩
                  · rw [hys] at e
                    generalize a.eval x = u at e ⊢
                    cases e <;> exact ⟨_, _, rfl⟩
                obtain ⟨c', k', hx0⟩ := hx0
                refine fin (a.eval s) w g2 ?_ (Later.refl ..) R2 hr
                rw [hs, hx0]
                exact run_append_zero w t _ e it ht hit b c' l m k' hlm hbz
              -- something is
              have news : ys ≠ [] → ∃ ad c news, a.eval x = .slice (some ad) ys.length c ∧ news.length = ys.length * it.size ∧ (∀ (j : Nat) (v : Value), news[j]? = some v → w.cell? (ad.add j) = some v) ∧ (∀ v ∈ news, v.oneCell' = true) ∧ Elems g2.mem it.size ys news := by
                intro hys
                rcases hx2 with ⟨e, _⟩ | ⟨fl, e⟩
                · exact absurd e hys
                · exact imm_news e R2.mem hys
              have hmaxl : ∀ q : Nat, q * it.bytes ≤ 2 ^ 47 → q ≤ maxLen ∧ (q : Int) ≤ 9223372036854775807 := by
                intro q hq
                have : q ≤ q * it.bytes := Nat.le_mul_of_pos_right _ hb0
                simp only [maxLen]
                omega
              -- something to what is empty
              have empty : ∀ (p : Bool) (ad0 : Option Addr), ys ≠ [] → a.eval s = .slice ad0 0 0 → v = .lin p e it.size ys → ys.length * it.bytes ≤ 2 ^ 47 → o.wpIn (FW ρ) n C.P a w next Q := by
                intro p ad0 hys hs' hve hb47
                obtain ⟨ad, cp, nw, hxe, hnl, hcell, hone, helm⟩ := news hys
                have hpos : 0 < ys.length := List.length_pos_iff.2 hys
                have hge := grownCap_ge w ys.length 0 e
                obtain ⟨g3, l3, R3, hr3⟩ := grow_new p R2 (d := o.dst.getD 0) (e := e) (sz := it.size) (cap := grownCap w ys.length 0 e) (zs := ys) (all := nw) (Builtin.zeroCells zv.cells (grownCap w ys.length 0 e - ys.length)) helm hge (grownCap_le_maxLen w _ _ e (hmaxl _ hb47).1) (by
                  rw [size_zeroCells, hzsz, hnl, ← Nat.add_mul]; congr 1; omega) hfree
                have hrun : (Builtin.append_ #[t, t] o.type #[.slice ad0 0 0, .slice (some ad) ys.length cp]).run C.P w = .ok (.slice (some ⟨w.heap.size, 0, none⟩) ys.length (grownCap w ys.length 0 e)) (w.drew.alloc (.cells (nw.toArray ++ Builtin.zeroCells zv.cells (grownCap w ys.length 0 e - ys.length)) e)) := by
                  cases ad0 with
                  | none => exact run_append_nil (P := C.P) w t o.type e it zv ht hit hzv ad ys.length cp nw hnl hcell hpos (hmaxl _ hb47).2 (by omega)
                  | some b0 =>
                    have := run_append_grow (P := C.P) w t o.type e it zv ht hit hzv b0 0 0 [] (by simp) (fun j v h => by simp at h) ad ys.length cp nw hnl hcell (by omega) (by have := (hmaxl _ hb47).2; omega) (growslice_fits (by omega) (by rw [Nat.zero_add]; omega))
                    simpa using this
                rw [hve] at fin
                exact fin _ _ g3 (by rw [hs', hxe]; exact hrun) l3 R3 hr3
              unfold vappend at hva
              split at hva
              · -- nil, and nothing
                rename_i hs0
                cases hva
                rw [hs0] at hs2
                have hs' : a.eval s = .slice none 0 0 := by simp only [RepS, RepA, RepC] at hs2; generalize a.eval s = u at hs2 ⊢; cases hs2; rfl
                exact fin0 none 0 0 rfl hs' (Nat.le_refl _) (fun _ => ⟨rfl, rfl⟩) hs2
              · rename_i ys _ _ hs0 hne
                cases hva
                rw [hs0] at hs2
                have hs' : a.eval s = .slice none 0 0 := by simp only [RepS, RepA, RepC] at hs2; generalize a.eval s = u at hs2 ⊢; cases hs2; rfl
                have hys : ys ≠ [] := fun e => hne e
                obtain ⟨ad, cp, nw, hxe, hnl, hcell, hone, helm⟩ := news hys
                have hpos : 0 < ys.length := List.length_pos_iff.2 hys
                have hrun := run_append_nil (P := C.P) w t o.type e it zv ht hit hzv ad ys.length cp nw hnl hcell hpos (hmaxl _ hbytes).2 (by omega)
                have hge := grownCap_ge w ys.length 0 e
                obtain ⟨g3, l3, R3, hr3⟩ := grow_new true R2 (d := o.dst.getD 0) (e := e) (sz := it.size) (cap := grownCap w ys.length 0 e) (zs := ys) (all := nw) (Builtin.zeroCells zv.cells (grownCap w ys.length 0 e - ys.length)) helm hge (grownCap_le_maxLen w _ _ e (hmaxl _ hbytes).1) (by
                  rw [size_zeroCells, hzsz, hnl, ← Nat.add_mul]; congr 1; omega) hfree
                exact fin _ _ g3 (by rw [hs', hxe]; exact hrun) l3 R3 hr3
              · rename_i q ws hs0
                cases hva
                rw [hs0] at hs2
                have hs2' := hs2
                simp only [RepS, RepA, RepC] at hs2'
                generalize hsv : a.eval s = sv at hs2 hs2'
                cases hs2' with
                | none0 => exact fin0 none 0 0 rfl hsv (Nat.le_refl _) (fun _ => ⟨rfl, rfl⟩) (by rw [hsv]; exact hs2)
                | imm _ _ b off cap esz val q1 q2 q3 q4 q5 q6 q7 => exact fin0 _ _ _ rfl hsv q1 (fun h => by cases h) (by rw [hsv]; exact hs2)
              · rename_i ys _ _ q ws hs0 hne
                split at hva
                · rename_i hq
                  subst hq
                  cases hva
                  have hys : ys ≠ [] := fun e => hne e
                  rw [hs0] at hs2
                  simp only [RepS, RepA, RepC] at hs2
                  obtain ⟨ad, cp, nw, hxe, hnl, hcell, hone, helm⟩ := news hys
                  have hpos : 0 < ys.length := List.length_pos_iff.2 hys
                  by_cases hws : ws = []
                  · subst hws
                    have : ∃ ad0, a.eval s = .slice ad0 0 0 := by
                      generalize a.eval s = u at hs2 ⊢
                      cases hs2 with
                      | none0 => exact ⟨_, rfl⟩
                      | imm _ _ b off cap esz val q1 q2 => have := q2 rfl; simp at this; subst this; exact ⟨_, rfl⟩
                    obtain ⟨ad0, hs'⟩ := this
                    exact empty true ad0 hys hs' (by rw [List.nil_append]) (by simpa using hbytes)
                  obtain ⟨ad', cp', ol, hse, hol, hcell', _, helm'⟩ := imm_news hs2 R2.mem hws
                  have hcp : cp' = ws.length := by
                    rw [hse] at hs2
                    cases hs2 with
                    | imm _ _ b off cap esz val q1 q2 q3 q4 q5 q6 q7 => exact q2 rfl
                  subst hcp
                  have hrun := run_append_grow (P := C.P) w t o.type e it zv ht hit hzv ad' ws.length ws.length ol hol hcell' ad ys.length cp nw hnl hcell (by omega) (hmaxl _ hbytes).2 (growslice_fits (by omega) (by omega))
                  have hge := grownCap_ge w (ws.length + ys.length) ws.length e
                  obtain ⟨g3, l3, R3, hr3⟩ := grow_new true R2 (d := o.dst.getD 0) (e := e) (sz := it.size) (cap := grownCap w (ws.length + ys.length) ws.length e) (zs := ws ++ ys) (all := ol ++ nw)
                    (Builtin.zeroCells zv.cells (grownCap w (ws.length + ys.length) ws.length e - (ws.length + ys.length))) (helm'.append helm) (by rw [List.length_append]; exact hge) (grownCap_le_maxLen w _ _ e (hmaxl _ hbytes).1) (by
                    rw [size_zeroCells, hzsz, List.length_append, hnl, hol, ← Nat.add_mul, ← Nat.add_mul]; congr 1; omega) hfree
                  rw [List.length_append] at hr3
                  simp only [List.append_toArray] at hrun
                  exact fin _ _ g3 (by rw [hse, hxe]; exact hrun) l3 R3 hr3
                · cases hva
              · rename_i ys _ _ p e' q ws hs0
                split at hva
                · rename_i hq
                  obtain ⟨rfl, rfl⟩ := hq
                  cases hva
                  rw [hs0] at hs2
                  have hs2' := hs2
                  simp only [RepS, RepA, RepC] at hs2'
                  rcases hs2' with ⟨b, i, hlb, hpl, hpr, ⟨hety, hesz⟩, hse, helm'⟩ | ⟨rfl, hz0, ad0, hse⟩
                  rotate_left
                  · by_cases hys : ys = []
                    · subst hys
                      exact fin0 _ _ _ rfl hse (Nat.le_refl _) (fun h => ⟨rfl, rfl⟩) (by rw [List.append_nil]; exact hs2)
                    · exact empty p ad0 hys hse (by rw [List.nil_append]) (by simpa using hbytes)
                  obtain ⟨k1, ⟨cur, k2, k3, k4⟩, k5, k6, k7, _, _⟩ := R2.lin.at_ b i hlb
                  have hwl : ws.length ≤ i.cap := by rw [helm'.1] at k5; exact Nat.le_of_mul_le_mul_right k5 k7
                  by_cases hys : ys = []
                  · subst hys
                    exact fin0 _ _ _ rfl hse hwl (fun h => by cases h) (by rw [List.append_nil]; exact hs2)
                  · obtain ⟨ad, cp, nw, hxe, hnl, hcell, hone, helm⟩ := news hys
                    have hpos : 0 < ys.length := List.length_pos_iff.2 hys
                    rw [hety] at k2
                    have hol : i.cs.length = ws.length * it.size := by rw [helm'.1, hesz]
                    rw [hesz] at helm' k4 k5
                    have happ := helm'.append helm
                    by_cases hroom : ws.length + ys.length ≤ i.cap
                    · have hfit : ws.length * it.size + nw.length ≤ cur.size := by rw [hnl, k4, ← Nat.add_mul]; exact Nat.mul_le_mul_right _ hroom
                      have hrun := run_append_room (P := C.P) w t o.type _ it ht hit b ws.length i.cap cur k2 ad ys.length cp nw hnl hcell hone hroom hfit
                      obtain ⟨g3, l3, R3, hr3⟩ := grow_room R2 hlb hpl hpr hety hesz k2 happ (by rw [List.length_append]; exact hroom) hfree
                      rw [List.length_append] at hr3
                      rw [hol] at l3 R3
                      exact fin _ _ g3 (by rw [hse, hxe]; exact hrun) l3 R3 hr3
                    · have hcell' : ∀ j u, i.cs[j]? = some u → w.cell? ((⟨b, 0, none⟩ : Addr).add j) = some u := by
                        intro j u hj
                        rw [addr_add, cell_of_heap k2, Nat.zero_add]
                        exact mem_of_prefix k3 hj
                      have hrun := run_append_grow (P := C.P) w t o.type _ it zv ht hit hzv ⟨b, 0, none⟩ ws.length i.cap i.cs hol hcell' ad ys.length cp nw hnl hcell (by omega) (hmaxl _ hbytes).2 (growslice_fits (by omega) (by omega))
                      have hge := grownCap_ge w (ws.length + ys.length) i.cap e'
                      obtain ⟨g3, l3, R3, hr3⟩ := grow_new p R2 (d := o.dst.getD 0) (e := e') (sz := it.size) (cap := grownCap w (ws.length + ys.length) i.cap e') (zs := ws ++ ys) (all := i.cs ++ nw)
                        (Builtin.zeroCells zv.cells (grownCap w (ws.length + ys.length) i.cap e' - (ws.length + ys.length))) happ (by rw [List.length_append]; exact hge) (grownCap_le_maxLen w _ _ _ (hmaxl _ hbytes).1) (by
                        rw [size_zeroCells, hzsz, List.length_append, hnl, hol, ← Nat.add_mul, ← Nat.add_mul]; congr 1; omega) hfree
                      rw [List.length_append] at hr3
                      simp only [List.append_toArray] at hrun
                      exact fin _ _ g3 (by rw [hse, hxe]; exact hrun) l3 R3 hr3
                · cases hva
              · cases hva
            · cases h
          · cases h
        · cases h
      · cases h
    · cases h
  · cases h
end
end Go.Fw
/- The operations (14): make. -/
namespace Go.Fw
open Go.RowKit

theorem repl_get {α : Type} {n i : Nat} {z x : α} (h : (List.replicate n z)[i]? = some x) : x = z ∧ i < n := by
  have hi := (List.getElem?_eq_some_iff.1 h).1
  have h2 := (List.getElem?_eq_some_iff.1 h).2
  simp at h2 hi
  exact ⟨h2.symm, hi⟩

section
variable {C : Cx} {vb : FuncId → List V → List Blk → Option FOut} {f : FuncId} {ρ : Option Nat} {n : Nat} {o : Oper} {st : St} {α : Type} {k kp : V → St → Option α} {out : α}
  {B τ : Nat} {g : Gh} {a : Act} {w : World} {next : Act → World → Prop} {Q : Exit → Act → World → Prop}

theorem op_makeSlice {t : TypeId} {l c : Operand} (ho : o.op = .makeSlice t l c) (h : vop C vb f o st k kp = some out) (hR : R B τ g st a w) (hk : Goes B τ g a w o.dst k out next) : o.wpIn (FW ρ) n C.P a w next Q := by
  unfold vop at h
  rw [ho] at h
  dsimp only at h
  split at h
  · rename_i e he
    have ht := sliceT he
    split at h
    · rename_i sz by_ z k1 nl k2 nc hsz hby hz hl hc
      rcases condB_cases h with ⟨hcond, h⟩ | ⟨_, h⟩
      · simp only [decide_eq_true_eq] at hcond
        obtain ⟨h0, h1, h2, h3, h4, h5, h6⟩ := hcond
        obtain ⟨dl, hdl⟩ := peek_rep hR l
        obtain ⟨dc, hdc⟩ := peek_rep hR c
        rw [hl] at hdl; rw [hc] at hdc
        have el := rep_int hdl
        have ec := rep_int hdc
        obtain ⟨it, zv, hit, hzv, ez⟩ := zeroT_eq hz
        subst ez
        obtain ⟨c1, c2⟩ := ofVal_cells (g := g) h6
        have hszi : it.size = sz := by unfold sizeT at hsz; rw [hit] at hsz; simpa using hsz
        have hbyi : it.bytes = by_ := by unfold bytesT at hby; rw [hit] at hby; simpa using hby
        have hrun := run_make (P := C.P) w t e it zv ht hit hzv k1 k2 nl nc h0 h1 (by rw [hbyi]; rw [Int.mul_comm]; omega) (by omega)
        obtain ⟨N, rfl⟩ := Int.eq_ofNat_of_zero_le h0
        obtain ⟨M, rfl⟩ := Int.eq_ofNat_of_zero_le (by omega : 0 ≤ nc)
        simp only [Int.toNat_natCast] at hrun h
        rw [hszi] at hrun
        have hzsz : zv.cells.size = sz := by rw [← c1]; exact h4
        split at h
        · rename_i hcnd
          obtain ⟨hfl2, _⟩ := hcnd
          rcases condB_cases h with ⟨hNM, h2'⟩ | ⟨_, h2'⟩
          · simp only [decide_eq_true_eq] at hNM
            have hNM : N = M := by omega
            subst hNM
            let cur := madeCells zv.cells (N * sz)
            obtain ⟨l2, hR2⟩ := new_mem hR cur e
            refine wp_value (by simp [ho]) (v := .slice (some ⟨w.heap.size, 0, none⟩) N N) (w' := w.alloc (.cells cur e)) (by simp only [execOp, ho, el, ec]; exact run_v hrun) (hk _ _ _ _ _ l2 hR2 ?_ h2')
            have hmem : ∀ p, stAt (g.addMem w.heap.size cur.toList).mem w.heap.size p = cur.toList[p]? := by intro p; simp [stAt, Gh.addMem]
            have hz5 : okV (ofVal zv) = true := h6
            obtain ⟨q1, q2⟩ := flat_cells (ofVal_rep g 0 0 zv) hz5 hfl2
            have hcur : ∀ (i j : Nat) (hi : i < N) (hj : j < zv.cells.size), cur.toList[i * sz + j]? = some zv.cells[j] := by
              intro i j hi hj
              have hlt : i * sz + j < N * sz := by
                have : (i + 1) * sz ≤ N * sz := Nat.mul_le_mul_right _ hi
                rw [Nat.add_mul, Nat.one_mul] at this
                omega
              have hmod : (i * sz + j) % zv.cells.size = j := by
                rw [hzsz, Nat.mul_comm, Nat.mul_add_mod]
                exact Nat.mod_eq_of_lt (by omega)
              rw [Array.getElem?_toList]
              simp only [cur, madeCells]
              rw [Array.getElem?_map, Array.getElem?_range]
              rw [if_pos hlt]
              simp only [Option.map_some, hmod]
              rw [getElem!_pos zv.cells j hj]
            have himm := RepI.imm (m := (g.addMem w.heap.size cur.toList).mem) true (List.replicate N (ofVal zv)) w.heap.size 0 N sz (fun i j => (cur.toList[i * sz + j]?).getD default) (by simp) (fun _ => by simp) (by simp only [maxLen]; omega) h5
              (fun i v hv => by obtain ⟨rfl, _⟩ := repl_get hv; exact h4)
              (fun i v j c hv hc => by
                obtain ⟨rfl, hi⟩ := repl_get hv
                have hj : j < zv.cells.size := by rw [← q1]; exact (List.getElem?_eq_some_iff.1 hc).1
                refine ⟨(q2 j c hj hc).1, ?_⟩
                rw [Nat.zero_add, hmem, hcur i j hi hj]; rfl)
              (fun i v j c hv hc => by
                obtain ⟨rfl, hi⟩ := repl_get hv
                have hj : j < zv.cells.size := by rw [← q1]; exact (List.getElem?_eq_some_iff.1 hc).1
                rw [hcur i j hi hj]
                exact (q2 j c hj hc).2.mono l2.mem)
            rw [List.length_replicate] at himm
            exact himm
          · cases h2'
        · have hfl : ((List.replicate M (ofVal zv).cells).flatten).length = M * sz := by simp [h4]
          have hget : ∀ (j : Nat) (x : V), ((List.replicate M (ofVal zv).cells).flatten)[j]? = some x → (ofVal zv).cells[j % sz]? = some x := by
            intro j x hx
            have hj := (List.getElem?_eq_some_iff.1 hx).1
            rw [hfl] at hj
            exact flat_get M (ofVal zv).cells sz h4 h5 j x hx
          obtain ⟨g'', q1, q2, q3, q4, q5, q6⟩ := new_block hR ((List.replicate M (ofVal zv).cells).flatten) (madeCells zv.cells (M * sz)) e (by rw [hfl, size_madeCells]; exact Nat.le_refl _) (fun j x hj hx => by
            have hx' := hget j x hx
            have hjm : j % sz < zv.cells.size := by rw [hzsz]; exact Nat.mod_lt _ h5
            have hv := c2 (.cell st.h.length j) (j % sz) x hjm hx'
            have : (madeCells zv.cells (M * sz))[j] = zv.cells[j % sz] := by
              simp only [madeCells, Array.getElem_map, Array.getElem_range]
              rw [getElem!_pos zv.cells (j % zv.cells.size) (by rw [hzsz]; exact Nat.mod_lt _ h5)]
              congr 1; rw [hzsz]
            rw [this]; exact hv)
          refine wp_value (by simp [ho]) (v := .slice (some ⟨w.heap.size, 0, none⟩) N M) (w' := w.alloc (.cells (madeCells zv.cells (M * sz)) e)) ?_ (hk (.own st.h.length 0 N M) _ g'' _ _ q1 q2 (.inl ⟨_, M, q3, rfl, by omega, by simp only [maxLen]; omega, Nat.le_refl _⟩) h)
          simp only [execOp, ho, el, ec]
          exact run_v hrun
      · cases h
    · cases h
  · cases h
end
end Go.Fw
/- Calls of the program's own functions: what a call's evaluation means; the operation. -/
namespace Go.Fw
open Go.RowKit

def ArgsI (m : Mem) (vs : List V) (us : Array Value) : Prop := vs.length = us.size ∧ ∀ (j : Nat) (c : V) (h : j < us.size), vs[j]? = some c → RepI m c us[j]
def ArgsS (g : Gh) (vs : List V) (us : Array Value) : Prop := vs.length = us.size ∧ ∀ (j : Nat) (c : V) (h : j < us.size), vs[j]? = some c → isLin3 c = false ∧ ∀ τ d, RepS g τ d c us[j]

def OutIs (g : Gh) (out : FOut) (e : Ending) : Prop := match out with
  | .ret v _ => ∃ u, e = .returned u ∧ RepS g 0 0 v u
  | .pan v _ => ∃ u, e = .panicked [{ v := u, recovered := false }] ∧ isLin3 v = false ∧ RepS g 0 0 v u
def FOut.heap : FOut → List Blk
  | .ret _ h => h
  | .pan _ h => h

def FOut.plain : FOut → Prop
  | .ret v _ => isLin3 v = false
  | .pan _ _ => True

/-- A call that has nothing to do with the caller's heap. -/
def PureOut (m : Mem) (w : World) (out : FOut) (e : Ending) (w' : World) : Prop :=
  ∃ g', OutIs g' out e ∧ g'.loc = (fun _ => none) ∧ Below w.heap.size w w' ∧ MemLe m g'.mem ∧ (∀ b, b < w.heap.size → g'.mem b = m b) ∧ MemOk g'.mem w' ∧ LinOk g' w.heap.size w'
/-- A call that has. -/
def HeapOut (B : Nat) (g : Gh) (w : World) (out : FOut) (e : Ending) (w' : World) : Prop :=
  ∃ g', OutIs g' out e ∧ out.plain ∧ Below B w w' ∧ MemLe g.mem g'.mem ∧ (∀ b, b < B → g'.mem b = g.mem b) ∧ (∀ id b, g.loc id = some b → g'.loc id = some b) ∧
    (∀ b i, g.lin b = some i → (∃ τ x j k, i.place = .slot τ x j k) → g'.lin b = some i) ∧ HeapOk g' out.heap B w' ∧ MemOk g'.mem w' ∧ LinOk g' B w'

structure VbSound (C : Cx) (vb : FuncId → List V → List Blk → Option FOut) : Prop where
  fn : ∀ f args h out, vb f args h = some out → ∃ fn c, C.P.funcs[f]? = some fn ∧ fn.body = some c ∧ (fn.name == "runtime.NumGoroutine") = false
  pure_ : ∀ f args out, vb f args [] = some out → args.all flat2 = true → ∀ (n : Nat) (us : Array Value) (w : World) (m : Mem), MemOk m w → ArgsI m args us → CallsIn Fence.wide n C.P f us w (PureOut m w out)
  heap : ∀ f args h out, vb f args h = some out → args.all flat2 = false → ∀ (n : Nat) (us : Array Value) (w : World) (B : Nat) (g : Gh), HeapOk g h B w → MemOk g.mem w → LinOk g B w → B ≤ w.heap.size → ArgsS g args us → CallsIn Fence.wide n C.P f us w (HeapOut B g w out)

/-! ### flat values -/
theorem flat0_repI {g : Gh} {v : V} {u : Value} (hv : flat0 v = true) (h : RepP g v u) : RepI g.mem v u := by
  cases v <;> first | exact h | simp [flat0] at hv
theorem flat0_repP {g : Gh} {v : V} {u : Value} (hv : flat0 v = true) (h : RepI g.mem v u) : RepP g v u := by
  cases v <;> first | exact h | simp [flat0] at hv
theorem flat0_cell {v : V} (hv : flat0 v = true) : isCell v = true ∧ isLin1 v = false ∧ v ≠ .undef := by
  cases v <;> first | (simp [flat0] at hv; done) | exact ⟨rfl, rfl, by simp⟩

theorem flat1_repC {g : Gh} {p : Place} {v : V} {u : Value} (hv : flat1 v = true) (h : RepI g.mem v u) : RepC g p v u := by
  cases v <;> simp only [flat1, flat0, Bool.false_eq_true] at hv <;> try exact h
  case fn f first caps =>
    cases h with
    | fn _ _ _ first' caps' h1 h2 v1 v2 =>
      simp only [Bool.and_eq_true, List.all_eq_true] at hv
      exact ⟨first', caps', rfl, h1, h2, fun j c hj hc => flat0_repP (hv.1 _ (List.mem_of_getElem? hc)) (v1 j c hj hc), fun j c hj hc => flat0_repP (hv.2 _ (List.mem_of_getElem? hc)) (v2 j c hj hc)⟩
theorem flat1_cell {v : V} (hv : flat1 v = true) : isCell v = true ∧ isLin1 v = false ∧ v ≠ .undef := by
  cases v <;> first | (simp [flat1, flat0] at hv; done) | exact ⟨rfl, rfl, by simp⟩
theorem repC_flat1 {g : Gh} {p : Place} {v : V} {u : Value} (hv : flat1 v = true) (h : RepC g p v u) : RepI g.mem v u := by
  cases v <;> simp only [flat1, flat0, Bool.false_eq_true] at hv <;> try exact h
  case fn f first caps =>
    obtain ⟨first', caps', rfl, h1, h2, h3, h4⟩ := h
    simp only [Bool.and_eq_true, List.all_eq_true] at hv
    exact .fn f first caps first' caps' h1 h2 (fun j c hj hc => flat0_repI (hv.1 _ (List.mem_of_getElem? hc)) (h3 j c hj hc)) (fun j c hj hc => flat0_repI (hv.2 _ (List.mem_of_getElem? hc)) (h4 j c hj hc))

theorem flat2_notTup {v : V} (hv : flat2 v = true) : (∀ vs, v ≠ .tup vs) ∧ v ≠ .undef := by
  constructor
  · intro vs e; rw [e] at hv; simp [flat2, flat1, flat0] at hv
  · intro e; rw [e] at hv; simp [flat2, flat1, flat0] at hv
theorem flat2_lin {v : V} (hv : flat2 v = true) : isLin3 v = false := by
  cases v <;> first | rfl | simp [flat2, flat1, flat0] at hv
  case agg vs =>
    simp only [isLin3, isLin2]
    rw [List.any_eq_false]
    intro x hx
    simp [(flat1_cell (hv x hx)).2.1]

theorem flat2_repS {g : Gh} {τ d : Nat} {v : V} {u : Value} (hv : flat2 v = true) (h : RepI g.mem v u) : RepS g τ d v u := by
  rw [repS_notTup (flat2_notTup hv).1]
  by_cases ha : ∃ vs, v = .agg vs
  · obtain ⟨vs, rfl⟩ := ha
    simp only [flat2, List.all_eq_true] at hv
    cases h with
    | agg _ cs hn hs hv' => exact ⟨cs, rfl, hn, fun j c hj hc => flat1_repC (hv _ (List.mem_of_getElem? hc)) (hv' j c hj hc)⟩
  · have hf : flat1 v = true := by cases v <;> first | exact hv | exact absurd ⟨_, rfl⟩ ha
    exact repA_cell (flat1_repC hf h)
theorem repS_flat2 {g : Gh} {τ d : Nat} {v : V} {u : Value} (hv : flat2 v = true) (h : RepS g τ d v u) : RepI g.mem v u := by
  rw [repS_notTup (flat2_notTup hv).1] at h
  by_cases ha : ∃ vs, v = .agg vs
  · obtain ⟨vs, rfl⟩ := ha
    simp only [flat2, List.all_eq_true] at hv
    obtain ⟨cs, rfl, h1, h2⟩ := h
    exact .agg vs cs h1 (fun j c hc => (flat1_cell (hv _ (List.mem_of_getElem? hc))).1) (fun j c hj hc => repC_flat1 (hv _ (List.mem_of_getElem? hc)) (h2 j c hj hc))
  · have hf : flat1 v = true := by cases v <;> first | exact hv | exact absurd ⟨_, rfl⟩ ha
    rcases repA_inv h with e | h | h
    · exact absurd e (flat2_notTup hv).2
    · exact repC_flat1 hf h
    · exact absurd h ha

theorem demote_lin {v : V} : isLin3 (map3 demote1 v) = false := by
  have h1 : ∀ v, isLin1 (demote1 v) = false := fun v => by cases v <;> rfl
  have h2 : ∀ v, isLin2 (map2 demote1 v) = false := by
    intro v
    cases v <;> try rfl
    simp only [map2, isLin2]
    rw [List.any_eq_false]
    intro x hx
    obtain ⟨y, _, rfl⟩ := List.mem_map.1 hx
    simp [h1]
  cases v <;> try rfl
  case agg vs => exact h2 (.agg vs)
  simp only [map3, isLin3]
  rw [List.any_eq_false]
  intro x hx
  obtain ⟨y, _, rfl⟩ := List.mem_map.1 hx
  simp [h2]

/-! ### what the caller knows behind a call -/
section
variable {B τ : Nat} {g : Gh} {st : St} {a : Act} {w : World}

def renTo (τ d : Nat) : Place → Place
  | .slot _ _ j k => .slot τ d j k
  | p => p
def Gh.merge (g g' : Gh) (N τ d : Nat) : Gh where
  mem := g'.mem
  loc := g.loc
  lin := fun b => if b < N then g.lin b else (g'.lin b).map fun i => { i with place := renTo τ d i.place }

theorem RepP.loc {g g' : Gh} (hl : g.loc = fun _ => none) (hm : g'.mem = g.mem) {v : V} {u : Value} (h : RepP g v u) : RepP g' v u := by
  unfold RepP at *
  split at h
  · obtain ⟨b, h1, _⟩ := h; rw [hl] at h1; cases h1
  · rw [hm]; exact h
theorem RepC.merge {g g' : Gh} {p p' : Place} (hl : g.loc = fun _ => none) (hm : g'.mem = g.mem) (hn : ∀ b i, g.lin b = some i → i.place = p → g'.lin b = some { i with place := p' }) {v : V} {u : Value} (h : RepC g p v u) : RepC g' p' v u := by
  cases v <;> simp only [RepC] at h ⊢ <;> try (rw [hm]; exact h)
  case undef => exact h
  case ptr id off => obtain ⟨b, h1, _⟩ := h; rw [hl] at h1; cases h1
  case own id off len room =>
    rcases h with ⟨b, cap, h1, _⟩ | h
    · rw [hl] at h1; cases h1
    · exact .inr h
  case lin priv e n xs =>
    rcases h with ⟨b, i, h1, h2, h3, h0, h4, h5⟩ | h
    · exact .inl ⟨b, _, hn b i h1 h2, rfl, h3, h0, h4, by rw [hm]; exact h5⟩
    · exact .inr h
  case fn f first caps =>
    obtain ⟨a, c, h1, h2, h3, h4, h5⟩ := h
    exact ⟨a, c, h1, h2, h3, fun j x hj hx => (h4 j x hj hx).loc hl hm, fun j x hj hx => (h5 j x hj hx).loc hl hm⟩
theorem RepA.merge {g g' : Gh} {pl pl' : Nat → Place} (hl : g.loc = fun _ => none) (hm : g'.mem = g.mem) (hn : ∀ j b i, g.lin b = some i → i.place = pl j → g'.lin b = some { i with place := pl' j }) {v : V} {u : Value} (h : RepA g pl v u) : RepA g' pl' v u := by
  unfold RepA at *
  split at h
  · obtain ⟨cs, h1, h2, h3⟩ := h
    exact ⟨cs, h1, h2, fun j c hj hc => (h3 j c hj hc).merge hl hm (hn _)⟩
  · trivial
  · exact h.merge hl hm (hn _)
theorem RepS.merge {g g' : Gh} {τ i τ' i' : Nat} (hl : g.loc = fun _ => none) (hm : g'.mem = g.mem) (hn : ∀ j k b x, g.lin b = some x → x.place = .slot τ i j k → g'.lin b = some { x with place := .slot τ' i' j k }) {v : V} {u : Value} (h : RepS g τ i v u) : RepS g' τ' i' v u := by
  unfold RepS at *
  split at h
  · obtain ⟨cs, h1, h2, h3⟩ := h
    exact ⟨cs, h1, h2, fun k c hk hc => (h3 k c hk hc).merge (pl' := fun j => .slot τ' i' j (k + 1)) hl hm (fun j => hn j _)⟩
  · exact h.merge (pl' := fun j => .slot τ' i' j 0) hl hm (fun j => hn j _)

theorem merge_sound (h : R B τ g st a w) {g' : Gh} {w' : World} (d : Nat) (hb : Below w.heap.size w w') (hm : MemLe g.mem g'.mem) (ho : ∀ b, b < w.heap.size → g'.mem b = g.mem b) (hmo : MemOk g'.mem w') (hlo : LinOk g' w.heap.size w') :
    Later B τ g (g.merge g' w.heap.size τ d) w w' ∧ R B τ (g.merge g' w.heap.size τ d) st a w' := by
  have hlt : ∀ b i, g.lin b = some i → b < w.heap.size := by
    intro b i hi
    obtain ⟨_, ⟨cur, h2, _⟩, _⟩ := h.lin.at_ b i hi
    exact (Array.getElem?_eq_some_iff.1 h2).1
  have hl : ∀ b i, g.lin b = some i → (g.merge g' w.heap.size τ d).lin b = some i := by
    intro b i hi
    unfold Gh.merge; dsimp only; rw [if_pos (hlt b i hi)]; exact hi
  refine ⟨⟨hb.mono h.base, hm, fun b hB => ho b (Nat.lt_of_lt_of_le hB h.base), fun _ _ h => h, fun b i hi _ => hl b i hi⟩, ⟨h.size, fun i v hi hv => ?_, ⟨h.heap.bound, h.heap.inj, ?_, ?_⟩, hmo, ⟨?_⟩, Nat.le_trans h.base hb.size, h.defers⟩⟩
  · exact RepS.mono (g := g) (g' := g.merge g' w.heap.size τ d) hm (fun _ _ h => h) (fun j k b x hx _ => hl b x hx) (h.slots i v hi hv)
  · intro id b hid
    obtain ⟨h1, h2, h3, h4⟩ := h.heap.fresh id b hid
    refine ⟨h1, Nat.lt_of_lt_of_le h2 hb.size, by show g'.mem b = none; rw [ho b h2]; exact h3, ?_⟩
    unfold Gh.merge; dsimp only; rw [if_pos h2]; exact h4
  · intro id b cs e hid he
    obtain ⟨cur, h1, h2, h3⟩ := h.heap.blk id b cs e hid he
    refine ⟨cur, by rw [hb.block b (h.heap.fresh id b hid).2.1]; exact h1, h2, fun j c hj hc => RepC.mono (g := g) (g' := g.merge g' w.heap.size τ d) hm (fun _ _ h => h) (fun b i hi _ => hl b i hi) (h3 j c hj hc)⟩
  · intro b i hi
    unfold Gh.merge at hi
    dsimp only at hi
    split at hi
    · rename_i hb'
      obtain ⟨h1, ⟨cur, h2, h3⟩, h4, h5, h6, h7, h8⟩ := h.lin.at_ b i hi
      refine ⟨h1, ⟨cur, by rw [hb.block b hb']; exact h2, h3⟩, h4, h5, h6, fun hp => ?_, fun hp => ?_⟩
      · show g'.mem b = none; rw [ho b hb']; exact h7 hp
      · show g'.mem b = some i.cs; rw [ho b hb']; exact h8 hp
    · cases hl' : g'.lin b with
      | none => rw [hl'] at hi; cases hi
      | some i0 =>
        rw [hl'] at hi
        simp only [Option.map_some, Option.some.injEq] at hi
        subst hi
        obtain ⟨h1, h2, h3, h4, h5, h6, h7⟩ := hlo.at_ b i0 hl'
        exact ⟨Nat.le_trans h.base h1, h2, h3, h4, h5, h6, h7⟩

theorem merge_val {g' : Gh} {w' : World} {N d : Nat} (hl : g'.loc = fun _ => none) (hlo : LinOk g' N w') {v : V} {u : Value} (h : RepS g' 0 0 v u) : RepS (g.merge g' N τ d) τ d v u := by
  refine RepS.merge (g' := g.merge g' N τ d) hl rfl (fun j k b x hx hp => ?_) h
  have hge := (hlo.at_ b x hx).1
  unfold Gh.merge; dsimp only
  rw [if_neg (by omega), hx]
  simp [hp, renTo]

/-! ### laid into the heap -/
def Gh.thaw (g : Gh) (id b : Nat) : Gh where
  mem := g.mem
  loc := fun x => if x = id then some b else g.loc x
  lin := fun x => if x = b then none else g.lin x

theorem thaw_sound (h : R B τ g st a w) {d : Nat} {e : TypeId} {sz : Nat} {xs : List V} {u : Value} (hu : RepS g τ d (.lin true e sz xs) u) (hfree : ∀ v, st.fr[d]? = some v → isLin3 v = false) :
    ∃ g', Later B τ g g' w w ∧ R B τ g' { st with h := st.h ++ [.cells (xs.flatMap V.cells) e] } a w ∧ RepS g' τ d (.own st.h.length 0 xs.length xs.length) u := by
  simp only [RepS, RepA, RepC] at hu
  rcases hu with ⟨b, i, hb, hp, hpr, ⟨rfl, rfl⟩, rfl, hel⟩ | ⟨rfl, hz0, ad, rfl⟩
  rotate_left
  · refine ⟨g, Later.refl .., ⟨h.size, h.slots, ⟨fun id x hx => ?_, h.heap.inj, h.heap.fresh, fun id x cs e hx he => ?_⟩, h.mem, h.lin, h.base, h.defers⟩, .inr ⟨rfl, rfl, ad, rfl⟩⟩
    · have := h.heap.bound _ _ hx; simp; omega
    · have hlt := h.heap.bound _ _ hx
      rw [List.getElem?_append_left hlt] at he
      exact h.heap.blk id x cs e hx he
  obtain ⟨k1, ⟨cur, k2, k3, k4⟩, k5, k6, k7, k8, _⟩ := h.lin.at_ b i hb
  have hmb := k8 hpr
  have hnl : ∀ id, g.loc id ≠ some b := by
    intro id hid
    obtain ⟨_, _, _, h4⟩ := h.heap.fresh id b hid
    rw [hb] at h4; cases h4
  have hno : g.loc st.h.length = none := by
    cases hh : g.loc st.h.length with
    | none => rfl
    | some x => have := h.heap.bound _ _ hh; omega
  have hloc : ∀ id x, g.loc id = some x → (g.thaw st.h.length b).loc id = some x := by
    intro id x hx
    unfold Gh.thaw; dsimp only
    rw [if_neg (by rintro rfl; rw [hno] at hx; cases hx)]
    exact hx
  have hlin : ∀ x i', g.lin x = some i' → i'.place ≠ .slot τ d 0 0 → (g.thaw st.h.length b).lin x = some i' := by
    intro x i' hx hne
    unfold Gh.thaw; dsimp only
    rw [if_neg (by rintro rfl; rw [hb] at hx; cases hx; exact hne hp)]
    exact hx
  have hwl : xs.length ≤ i.cap := by rw [hel.1] at k5; exact Nat.le_of_mul_le_mul_right k5 k7
  refine ⟨g.thaw st.h.length b, ⟨Below.refl _ _, MemLe.refl _, fun _ _ => rfl, hloc, fun x i' hx ⟨τ', y, j, k, hq, hne⟩ => hlin x i' hx (by rw [hq]; intro e; injection e with e _; exact hne e)⟩,
    ⟨h.size, fun s v hs hv => ?_, ⟨fun id x hx => ?_, fun id id' x h1 h2 => ?_, fun id x hx => ?_, fun id x cs e hx he => ?_⟩, h.mem, ⟨fun x i' hx => ?_⟩, h.base, h.defers⟩, ?_⟩
  · by_cases hsd : s = d
    · subst hsd
      have h2 : RepS g (τ + 1) s v a.tmps[s] := (h.slots s v hs hv).any (hfree v hv)
      have h3 := RepS.mono (g := g) (g' := g.thaw st.h.length b) (MemLe.refl _) hloc (fun j k x i0 hx hp => hlin x i0 hx (by rw [hp]; intro e; injection e with e _; omega)) h2
      exact h3.any (hfree v hv)
    · exact RepS.mono (g := g) (g' := g.thaw st.h.length b) (MemLe.refl _) hloc (fun j k x i0 hx hp => hlin x i0 hx (by rw [hp]; intro e; injection e with _ e _; exact hsd e)) (h.slots s v hs hv)
  · unfold Gh.thaw at hx; dsimp only at hx
    rw [List.length_append]
    split at hx
    · rename_i e; subst e; simp
    · have := h.heap.bound _ _ hx; simp; omega
  · unfold Gh.thaw at h1 h2; dsimp only at h1 h2
    split at h1 <;> split at h2
    · rename_i e1 e2; rw [e1, e2]
    · cases h1; exact absurd h2 (hnl _)
    · cases h2; exact absurd h1 (hnl _)
    · exact h.heap.inj _ _ _ h1 h2
  · unfold Gh.thaw at hx; dsimp only at hx
    split at hx
    · cases hx
      refine ⟨k1, (Array.getElem?_eq_some_iff.1 k2).1, hmb, ?_⟩
      unfold Gh.thaw; dsimp only; rw [if_pos rfl]
    · obtain ⟨h1, h2, h3, h4⟩ := h.heap.fresh id x hx
      refine ⟨h1, h2, h3, ?_⟩
      unfold Gh.thaw; dsimp only
      rw [if_neg (by rintro rfl; exact hnl _ hx)]; exact h4
  · unfold Gh.thaw at hx; dsimp only at hx
    split at hx
    · rename_i e'
      subst e'
      cases hx
      rw [List.getElem?_append_right (Nat.le_refl _)] at he
      simp at he
      obtain ⟨rfl, rfl⟩ := he
      have hfl := flatMap_len hel.2.2.1
      refine ⟨cur, k2, by rw [hfl, k4]; exact Nat.mul_le_mul_right _ hwl, fun j c hj hc => ?_⟩
      obtain ⟨x, h1, h2⟩ := flatMap_at hel.2.2.1 k7 hc
      obtain ⟨q1, q, q2, q3⟩ := hel.2.2.2 _ x _ c h1 h2
      have hjj : j / i.esz * i.esz + j % i.esz = j := by rw [Nat.mul_comm]; exact Nat.div_add_mod _ _
      rw [hjj] at q2
      have := mem_of_prefix k3 q2
      rw [Array.getElem?_eq_getElem hj] at this
      cases this
      exact cell_flat q1 q3
    · rename_i hne
      have hlt := h.heap.bound _ _ hx
      rw [List.getElem?_append_left hlt] at he
      obtain ⟨cur', h1, h2, h3⟩ := h.heap.blk id x cs e hx he
      exact ⟨cur', h1, h2, fun j c hj hc => RepC.mono (g := g) (g' := g.thaw st.h.length b) (MemLe.refl _) hloc (fun y i0 hy hp => hlin y i0 hy (by rw [hp]; intro e; cases e)) (h3 j c hj hc)⟩
  · unfold Gh.thaw at hx; dsimp only at hx
    split at hx
    · cases hx
    · exact h.lin.at_ x i' hx
  · refine .inl ⟨b, i.cap, ?_, rfl, hwl, k6, hwl⟩
    unfold Gh.thaw; dsimp only; rw [if_pos rfl]
end
end Go.Fw
/- Calls (2): the operation. -/
namespace Go.Fw
open Go.RowKit

def Al (T : V → Value → Prop) (vs : List V) (us : List Value) : Prop := vs.length = us.length ∧ ∀ (j : Nat) (c : V) (u : Value), vs[j]? = some c → us[j]? = some u → T c u
theorem Al.append {T : V → Value → Prop} {vs vs' : List V} {us us' : List Value} (h : Al T vs us) (k : Al T vs' us') : Al T (vs ++ vs') (us ++ us') := by
  refine ⟨by rw [List.length_append, List.length_append, h.1, k.1], fun j c u hc hu => ?_⟩
  by_cases hj : j < vs.length
  · rw [List.getElem?_append_left hj] at hc
    rw [List.getElem?_append_left (by rw [← h.1]; exact hj)] at hu
    exact h.2 j c u hc hu
  · rw [List.getElem?_append_right (by omega)] at hc
    rw [List.getElem?_append_right (by rw [← h.1]; omega), ← h.1] at hu
    exact k.2 _ c u hc hu
theorem Al.argsI {m : Mem} {vs : List V} {us : List Value} (h : Al (RepI m) vs us) : ArgsI m vs us.toArray :=
  ⟨by simpa using h.1, fun j c hj hc => h.2 j c _ hc (by simpa using List.getElem?_eq_getElem (by simpa using hj))⟩
theorem Al.argsS {g : Gh} {vs : List V} {us : List Value} (h : Al (fun c u => isLin3 c = false ∧ ∀ τ d, RepS g τ d c u) vs us) : ArgsS g vs us.toArray :=
  ⟨by simpa using h.1, fun j c hj hc => h.2 j c _ hc (by simpa using List.getElem?_eq_getElem (by simpa using hj))⟩
theorem Al.mono {T T' : V → Value → Prop} {vs : List V} {us : List Value} (h : Al T vs us) (k : ∀ c u, c ∈ vs → T c u → T' c u) : Al T' vs us :=
  ⟨h.1, fun j c u hc hu => k c u (List.mem_of_getElem? hc) (h.2 j c u hc hu)⟩

theorem repP_repS {g : Gh} {τ d : Nat} {v : V} {u : Value} (h : RepP g v u) : isLin3 v = false ∧ RepS g τ d v u := by
  cases v <;> try exact ⟨rfl, h⟩
  case undef => exact ⟨rfl, trivial⟩
  case own => cases h
  case lin => cases h
  case agg vs =>
    cases h with
    | agg _ cs hn hs hv =>
      refine ⟨?_, cs, rfl, hn, fun j c hj hc => cell_flat (hs j c hc) (hv j c hj hc)⟩
      simp only [isLin3, isLin2]
      rw [List.any_eq_false]
      intro x hx
      obtain ⟨j, hj, rfl⟩ := List.mem_iff_getElem.1 hx
      have := hv j _ (by rw [← hn]; exact hj) (List.getElem?_eq_getElem hj)
      intro hl
      generalize vs[j] = y at this hl
      cases y <;> simp [isLin1] at hl
      cases this
  case tup => cases h
  case fn f a c => exact ⟨rfl, cell_flat (p := .slot τ d 0 0) rfl h⟩

section
variable {C : Cx} {vb : FuncId → List V → List Blk → Option FOut} {f : FuncId} {ρ : Option Nat} {n : Nat} {o : Oper} {st : St} {α : Type} {k kp : V → St → Option α} {out : α}
  {B τ : Nat} {g : Gh} {a : Act} {w : World} {next : Act → World → Prop} {Q : Exit → Act → World → Prop}

def Pans {α : Type} (B τ : Nat) (g : Gh) (a : Act) (w : World) (kp : V → St → Option α) (out : α) (Q : Exit → Act → World → Prop) : Prop :=
  ∀ v st' g' u w' d, Later B τ g g' w w' → R B τ g' st' a w' → isLin3 v = false → RepS g' τ d v u → kp v st' = some out → Q (.panic [{ v := u, recovered := false }]) a w'

theorem getS_free {fr : List V} {d : Nat} (h : isLin3 (getS fr d) = false) : ∀ v, fr[d]? = some v → isLin3 v = false := fun v hv => by rw [getS_eq hv] at h; exact h

theorem wp_enter {fn : Func} {c : Code} {gf : FuncId} {us : Array Value} {w' : World} (hd : ∀ c, o.op ≠ .defer c) (h : (execOp a.eval o).run C.P w = .ok (.enter gf us) w') {T : Ending → World → Prop} (hc : ∀ n, CallsIn Fence.wide n C.P gf us w' T)
    (hT : ∀ e w'', T e w'' → match e with | .returned v => next (a.put o.dst v) w'' | .panicked ch => Q (.panic ch) a w'' | .outgrown => False) : o.wpIn (FW ρ) n C.P a w next Q := by
  refine ⟨fun _ _ => trivial, ?_⟩
  rw [Oper.semAt_eq _ _ _ hd, h, Oper.uponIn_enter]
  refine ⟨fun h => (by simp [FW, Fence.wide] at h), ?_⟩
  refine CallsIn.mono (R := T) (hc (n - 1)) (fun e w'' he => ?_)
  have := hT e w'' he
  cases e with
  | returned v => exact this
  | panicked ch => exact this
  | outgrown => exact this.elim

theorem run_call {P : Program} {ρ' : Operand → Value} {c : Call} {g0 : Operand} {gf : FuncId} {first caps : Array Value} {fn : Func} {cd : Code} {t : TypeId} (hb : c.callee = .value g0) (hg : ρ' g0 = .func (.func gf) first caps) (hf : P.funcs[gf]? = some fn) (hcd : fn.body = some cd) (hnn : (fn.name == "runtime.NumGoroutine") = false) (w : World) :
    ((resolve ρ' c t >>= fun d => invoke d.target d.args) : Sem Next).run P w = .ok (.enter gf (first ++ c.args.map ρ' ++ caps)) w := by
  have hne : ¬ fn.name = "runtime.NumGoroutine" := by simpa using hnn
  simp [resolve, hb, hg, Deferred.ofValue, invoke, callFunc, hf, hcd, hne]

theorem op_call {c : Call} {g0 : Operand} (hvb : VbSound C vb) (ho : o.op = .call c) (hb : c.callee = .value g0) (h : vop C vb f o st k kp = some out) (hR : R B τ g st a w) (hk : Goes B τ g a w o.dst k out next) (hp : Pans B τ g a w kp out Q) : o.wpIn (FW ρ) n C.P a w next Q := by
  unfold vop at h
  rw [ho] at h
  dsimp only at h
  rw [hb] at h
  dsimp only at h
  split at h
  · rename_i gf first caps hg0
    obtain ⟨dx, hx⟩ := peek_rep hR g0
    rw [hg0] at hx
    obtain ⟨first', caps', hge, hfl, hcl, hfr, hcr⟩ := hx
    obtain ⟨g1, l1, R1, hrep⟩ := uses_sound c.args.toList hR
    have hall : Al (fun c u => isLin3 c = false ∧ ∀ τ d, RepS g1 τ d c u) (first ++ c.args.toList.map st.useV ++ caps) (first'.toList ++ c.args.toList.map a.eval ++ caps'.toList) := by
      refine Al.append (Al.append ⟨by simpa using hfl, fun j v u hv hu => ?_⟩ ⟨by simp, fun j v u hv hu => ?_⟩) ⟨by simpa using hcl, fun j v u hv hu => ?_⟩
      · rw [Array.getElem?_toList] at hu
        obtain ⟨hj, rfl⟩ := Array.getElem?_eq_some_iff.1 hu
        have := (hfr j v hj hv).mono l1.mem l1.loc
        exact ⟨(repP_repS (τ := 0) (d := 0) this).1, fun τ d => (repP_repS this).2⟩
      · rw [List.getElem?_map] at hv hu
        obtain ⟨x, hx, rfl⟩ := Option.map_eq_some_iff.1 hv
        rw [hx] at hu
        cases hu
        exact ⟨demote_lin, hrep j x hx⟩
      · rw [Array.getElem?_toList] at hu
        obtain ⟨hj, rfl⟩ := Array.getElem?_eq_some_iff.1 hu
        have := (hcr j v hj hv).mono l1.mem l1.loc
        exact ⟨(repP_repS (τ := 0) (d := 0) this).1, fun τ d => (repP_repS this).2⟩
    have hus : (first'.toList ++ c.args.toList.map a.eval ++ caps'.toList).toArray = first' ++ c.args.map a.eval ++ caps' := by
      rw [← Array.toList_inj]; simp
    have hrun : ∀ r, (∃ args h, vb gf args h = some r) → (execOp a.eval o).run C.P w = .ok (.enter gf (first' ++ c.args.map a.eval ++ caps')) w := by
      intro r ⟨args, h, hv⟩
      obtain ⟨fn, cd, h1, h2, h3⟩ := hvb.fn gf args h r hv
      have := run_call (t := o.type) hb hge h1 h2 h3 w
      simp only [execOp, ho]
      exact this
    split at h
    · -- nothing of the caller's heap
      rename_i hflat
      obtain ⟨r, hr, h⟩ := bindO_eq h
      have hcall := fun n => hvb.pure_ gf _ r hr hflat n (first' ++ c.args.map a.eval ++ caps') w g1.mem R1.mem (by
        rw [← hus]
        refine Al.argsI (hall.mono (fun x u hx hxu => ?_))
        rw [List.all_eq_true] at hflat
        exact repS_flat2 (hflat x hx) (hxu.2 0 0))
      refine wp_enter (fn := default) (c := default) (by simp [ho]) (hrun r ⟨_, _, hr⟩) hcall (fun e w'' he => ?_)
      obtain ⟨g', hout, hloc, hbel, hm, hold, hmo, hlo⟩ := he
      cases r with
      | ret v hh =>
        obtain ⟨u, rfl, hrv⟩ := hout
        dsimp only at h ⊢
        split at h
        · rename_i d hd
          rw [hd]
          obtain ⟨l2, R2⟩ := merge_sound R1 d hbel hm hold hmo hlo
          have hv2 := merge_val (g := g1) (τ := τ) (d := d) hloc hlo hrv
          split at h
          · split at h
            · rename_i v' h' hth
              rcases condB_cases h with ⟨_, h⟩ | ⟨hfree, h⟩
              · cases h
              · unfold thaw1 at hth
                split at hth
                · split at hth
                  · rename_i p e' sz xs hty
                    subst hty
                    simp only [Option.some.injEq, Prod.mk.injEq] at hth
                    obtain ⟨rfl, rfl⟩ := hth
                    obtain ⟨g3, l3, R3, hr3⟩ := thaw_sound R2 hv2 (getS_free hfree)
                    have := hk _ _ g3 u w'' ((l1.trans l2).trans l3) R3 (by rw [hd]; exact hr3) h
                    rw [hd] at this; exact this
                  · cases hth
                · cases hth
            · cases h
          · have := hk v _ _ u w'' (l1.trans l2) R2 (by rw [hd]; exact hv2) h
            rw [hd] at this; exact this
        · rename_i hd
          rw [hd]
          obtain ⟨l2, R2⟩ := merge_sound R1 0 hbel hm hold hmo hlo
          have := hk .undef _ _ u w'' (l1.trans l2) R2 trivial h
          rw [hd] at this; exact this
      | pan v hh =>
        obtain ⟨u, rfl, hnl, hrv⟩ := hout
        obtain ⟨l2, R2⟩ := merge_sound R1 0 hbel hm hold hmo hlo
        exact hp v _ _ u w'' 0 (l1.trans l2) R2 hnl (merge_val hloc hlo hrv) h
    · rename_i hflat
      obtain ⟨r, hr, h⟩ := bindO_eq h
      have hcall := fun n => hvb.heap gf _ _ r hr (by simpa using hflat) n (first' ++ c.args.map a.eval ++ caps') w B g1 R1.heap R1.mem R1.lin R1.base (by
        rw [← hus]
        exact Al.argsS hall)
      refine wp_enter (fn := default) (c := default) (by simp [ho]) (hrun r ⟨_, _, hr⟩) hcall (fun e w'' he => ?_)
      obtain ⟨g', hout, hnl, hbel, hm, hold, hlc, hli, hho, hmo, hlo⟩ := he
      have l2 : Later B τ g1 g' w w'' := ⟨hbel, hm, hold, hlc, fun b i hi ⟨τ', x, j, k, hq, _⟩ => hli b i hi ⟨τ', x, j, k, hq⟩⟩
      have R2 : R B τ g' { (st.useAll c.args.toList) with h := r.heap } a w'' :=
        ⟨R1.size, fun i v hi hv => (R1.slots i v hi hv).mono hm hlc (fun j k b x hx hp => hli b x hx ⟨_, _, _, _, hp⟩), hho, hmo, hlo, Nat.le_trans R1.base hbel.size, R1.defers⟩
      cases r with
      | ret v hh =>
        obtain ⟨u, rfl, hrv⟩ := hout
        exact hk v _ g' u w'' (l1.trans l2) R2 (hrv.any hnl) h
      | pan v hh =>
        obtain ⟨u, rfl, hnl', hrv⟩ := hout
        exact hp v _ g' u w'' 0 (l1.trans l2) R2 hnl' (hrv.any hnl') h
  · cases h
end
end Go.Fw
/- All operations; a list of them with their guards; the code of a function. -/
namespace Go.Fw
open Go.RowKit

section
variable {C : Cx} {vb : FuncId → List V → List Blk → Option FOut} {f : FuncId} {ρ : Option Nat} {n : Nat} {o : Oper} {st : St} {α : Type} {k kp : V → St → Option α} {out : α}
  {B τ : Nat} {g : Gh} {a : Act} {w : World} {next : Act → World → Prop} {Q : Exit → Act → World → Prop}

theorem vop_sound (hvb : VbSound C vb) (h : vop C vb f o st k kp = some out) (hR : R B τ g st a w) (hk : Goes B τ g a w o.dst k out next) (hp : Pans B τ g a w kp out Q) : o.wpIn (FW ρ) n C.P a w next Q := by
  cases ho : o.op with
  | move x => exact op_move ho h hR hk
  | assign x => exact op_assign ho h hR hk
  | pick c x y => exact op_pick ho h hR hk
  | alloc t => exact op_alloc ho h hR hk
  | box t x => exact op_box ho h hR hk
  | build t p => exact op_build ho h hR hk
  | buildSlice t m p => exact op_buildSlice ho h hR hk
  | load t x => exact op_load ho h hR hk
  | store t p x => exact op_store ho h hR hk
  | nilCheck x => exact op_nilCheck ho h hR hk
  | binOp op t x y t' => exact op_binOp ho h hR hk
  | unOp op t x => exact op_unOp ho h hR hk
  | convert s t x => exact op_convert ho h hR hk
  | makeFunc g x y => exact op_makeFunc ho h hR hk
  | makeSlice t l c => exact op_makeSlice ho h hR hk
  | slice t x l m c => exact op_slice ho h hR hk
  | fieldAddr s x j => exact op_fieldAddr ho h hR hk
  | field s x j => exact op_field ho h hR hk
  | indexAddr t x i => exact op_indexAddr ho h hR hk
  | index t x i => exact op_index ho h hR hk
  | extract x i => exact op_extract ho h hR hk
  | call c =>
    cases hb : c.callee with
    | value g0 => exact op_call hvb ho hb h hR hk hp
    | invoke r m => exfalso; unfold vop at h; rw [ho] at h; dsimp only at h; rw [hb] at h; cases h
    | builtin b => cases b <;> first | exact op_len ho hb h hR hk | exact op_append ho hb h hR hk | exact op_clear ho hb h hR hk | (exfalso; unfold vop at h; rw [ho] at h; dsimp only at h; rw [hb] at h; cases h)
  | _ => exfalso; unfold vop at h; rw [ho] at h; cases h

theorem wanted_none {o : Oper} {y : Nat → Option Bool} (h : o.guard = none) : Region.wanted o y = true := by unfold Region.wanted; rw [h]

/-- The guards, as they are read. -/
theorem wanted_sound {ops : Array Oper} (hR : R B τ g st a w) {j : Nat} {want b : Bool} (hg : o.guard = some (j, want)) (h : wantedV ops.toList st.fr j want = some b) : Region.wanted o (yielded ops a.tmps) = b := by
  unfold Region.wanted
  rw [hg]
  dsimp only
  unfold wantedV at h
  unfold yielded
  rw [Array.getElem?_toList] at h
  split at h
  · rename_i hd
    rw [hd]
    cases h
    rfl
  · rename_i d hd
    rw [hd]
    have hs := slot_of hR d
    simp only [Option.bind_some]
    split at h
    · rename_i x hx
      rw [hx] at hs
      have := rep_bool hs
      rw [Array.getD_eq_getD_getElem?] at this
      cases hh : a.tmps[d]? with
      | none => rw [hh] at this; simp [undef] at this
      | some u =>
        rw [hh] at this
        simp only [Option.getD_some] at this
        subst this
        cases h
        cases x <;> cases want <;> rfl
    · rename_i hx
      rw [hx] at hs
      obtain ⟨cs, e, h1, _⟩ := hs
      have hz : cs = #[] := by apply Array.eq_empty_of_size_eq_zero; rw [← h1]; rfl
      subst hz
      cases h
      rw [Array.getD_eq_getD_getElem?] at e
      cases hh : a.tmps[d]? with
      | none => rfl
      | some u =>
        rw [hh] at e
        simp only [Option.getD_some] at e
        subst e
        rfl
    · cases h

/-- Behind an operation that is not carried out. -/
theorem skip_sound (hR : R B τ g st a w) (d : Option Tmp) : R B τ g (put st d (.tup [])) (a.put d undef) w :=
  put_sound hR (v := .tup []) ⟨#[], rfl, rfl, fun k c hk => absurd hk (by simp)⟩

theorem vops_sound (hvb : VbSound C vb) {ops : Array Oper} {ks : St → Option FOut} {kps : V → St → Option FOut} {out : FOut}
    (hn : ∀ st' g' a' w', Later B τ g g' w w' → R B τ g' st' a' w' → ks st' = some out → Q .normal a' w')
    (hpn : ∀ v st' g' u a' w' d, Later B τ g g' w w' → R B τ g' st' a' w' → isLin3 v = false → RepS g' τ d v u → kps v st' = some out → Q (.panic [{ v := u, recovered := false }]) a' w') :
    ∀ (l : List Nat) (st : St) (g1 : Gh) (a1 : Act) (w1 : World), vops C vb f ops.toList (l.filterMap (ops[·]?)) st ks kps = some out → Later B τ g g1 w w1 → R B τ g1 st a1 w1 → wpOpsIn (FW ρ) n C.P ops Q l a1 w1
  | [], st, g1, a1, w1, h, hl, hR => hn st g1 a1 w1 hl hR h
  | i :: l, st, g1, a1, w1, h, hl, hR => by
    unfold wpOpsIn
    cases ho : ops[i]? with
    | none =>
      rw [List.filterMap_cons, ho] at h
      exact vops_sound hvb hn hpn l st g1 a1 w1 h hl hR
    | some o =>
      rw [List.filterMap_cons, ho] at h
      dsimp only at h ⊢
      unfold vops at h
      have run : ∀ st, vop C vb f o st (fun v st => vops C vb f ops.toList (l.filterMap (ops[·]?)) (put st o.dst v) ks kps) kps = some out → R B τ g1 st a1 w1 → o.wpIn (FW ρ) n C.P a1 w1 (wpOpsIn (FW ρ) n C.P ops Q l) Q := by
        intro st h hR
        refine vop_sound hvb h hR (fun v st' g' u w' hl' hR' hv hkk => ?_) (fun v st' g' u w' d hl' hR' hnl hv hkk => ?_)
        · exact vops_sound hvb hn hpn l _ g' _ w' hkk (hl.trans hl') (put_sound hR' hv)
        · exact hpn v st' g' u a1 w' d (hl.trans hl') hR' hnl hv hkk
      split at h
      · rename_i hg
        rw [if_pos (wanted_none hg)]
        exact run st h hR
      · rename_i j want hg
        split at h
        · rename_i b hw
          have hws := wanted_sound hR hg hw
          rcases condB_cases h with ⟨e, h'⟩ | ⟨e, h'⟩
          · rw [e] at hws
            rw [if_pos hws]
            exact run st h' hR
          · rw [e] at hws
            rw [if_neg (by rw [hws]; simp)]
            exact ⟨fun _ _ => trivial, vops_sound hvb hn hpn l _ g1 _ w1 h' hl (skip_sound hR _)⟩
        · cases h

/-- How the code is left, in both. -/
def ExIs (g : Gh) (τ : Nat) : Ex → Exit → Prop
  | .normal, .normal => True
  | .exit i, .exit j => i = j
  | .ret, .ret => True
  | .pan v, .panic ch => ∃ u d, ch = [{ v := u, recovered := false }] ∧ isLin3 v = false ∧ RepS g τ d v u
  | _, _ => False

theorem least {p : Nat → Prop} : ∀ (n j : Nat), j ≤ n → p j → ∃ m, p m ∧ ∀ k, p k → m ≤ k
  | 0, j, hj, h => ⟨0, by have : j = 0 := by omega
                          exact this ▸ h, fun k _ => Nat.zero_le k⟩
  | n + 1, j, hj, h => by
    by_cases hk : ∃ k, k ≤ n ∧ p k
    · obtain ⟨k, h1, h2⟩ := hk
      exact least n k h1 h2
    · refine ⟨j, h, fun k hp => ?_⟩
      have : ¬ k ≤ n := fun h => hk ⟨k, h, hp⟩
      omega

theorem loop_rounds {F : Fence} {P : Program} {c : Code} {Rn : Nat → Act → World → Prop} (h0 : ∀ a w, ¬ Rn 0 a w) (hs : ∀ j a w, Rn (j + 1) a w → c.wpIn F n P (Exit.then (Rn j) Q) a w) {j : Nat} (h : Rn j a w) : (Code.loop c).wpIn F n P Q a w := by
  classical
  have lst : ∀ a w, (∃ j, Rn j a w) → ∃ m, Rn m a w ∧ ∀ k, Rn k a w → m ≤ k := fun a w ⟨j, hj⟩ => least (p := fun j => Rn j a w) j j (Nat.le_refl _) hj
  refine wpIn_loop (fun a w => ∃ j, Rn j a w) (fun a w => if h : ∃ j, Rn j a w then Classical.choose (lst a w h) else 0) ⟨j, h⟩ (fun a w hI => ?_)
  have hf := Classical.choose_spec (lst a w hI)
  obtain ⟨m, hm⟩ : ∃ m, Classical.choose (lst a w hI) = m + 1 := by
    cases hh : Classical.choose (lst a w hI) with
    | zero => rw [hh] at hf; exact absurd hf.1 (h0 a w)
    | succ m => exact ⟨m, rfl⟩
  have hf1 := hf.1
  rw [hm] at hf1
  refine wpIn_mono (hs m a w hf1) (fun e a' w' he => ?_)
  cases e <;> try exact he
  have hI' : ∃ j, Rn j a' w' := ⟨m, he⟩
  refine ⟨hI', ?_⟩
  rw [dif_pos hI, dif_pos hI', hm]
  exact Nat.lt_succ_of_le ((Classical.choose_spec (lst a' w' hI')).2 m he)
end
end Go.Fw
/- The code of a function. -/
namespace Go.Fw
open Go.RowKit

/-- The regions of a code whose order is drawn. -/
def drawRegs : Code → List (Nat × Array Oper)
  | .region id ops true => [(id, ops)]
  | .seq a b => drawRegs a ++ drawRegs b
  | .cond _ a b => drawRegs a ++ drawRegs b
  | .block _ b => drawRegs b
  | .loop b => drawRegs b
  | _ => []

/-- What is to be known of a region whose order is drawn. -/
def DrawSound (C : Cx) (f : FuncId) (id : Nat) (ops : Array Oper) : Prop :=
  ∀ (un : List Nat), C.un f id = some un → ∀ (vb : Nat → FuncId → List V → List Blk → Option FOut) (st stf : St), (∀ i, VbSound C (vb i)) →
    ∀ (ks : St → Option FOut) (out : FOut), vdraw C vb f un st.h.length ops.toList (List.range ops.size) [] st ks = some out →
    ∀ (ρ : Option Nat) (n B τ : Nat) (g : Gh) (a : Act) (w : World) (Q : Exit → Act → World → Prop), R B τ g st a w →
    (∀ st' g' a' w', Later B τ g g' w w' → R B τ g' st' a' w' → ks st' = some out → Q .normal a' w') → (Code.region id ops true).wpIn (FW ρ) n C.P Q a w

section
variable {C : Cx} {vb : FuncId → List V → List Blk → Option FOut} {f : FuncId} {ρ : Option Nat} {n : Nat} {B τ : Nat}

theorem filterMap_range' {α : Type} : ∀ (l : List α) (k : Nat) (pre : List α), pre.length = k → (List.range' k l.length).filterMap (fun i => (pre ++ l)[i]?) = l
  | [], _, _, _ => rfl
  | x :: l, k, pre, h => by
    rw [List.length_cons, List.range'_succ, List.filterMap_cons]
    have : (pre ++ x :: l)[k]? = some x := by rw [List.getElem?_append_right (by omega), h]; simp
    rw [this]
    have ih := filterMap_range' l (k + 1) (pre ++ [x]) (by simp [h])
    rw [List.append_assoc] at ih
    exact congrArg (x :: ·) ih
theorem filterMap_range (ops : Array Oper) : (List.range ops.size).filterMap (ops[·]?) = ops.toList := by
  have := filterMap_range' ops.toList 0 [] rfl
  rw [List.range_eq_range']
  simpa using this

theorem vexec_sound (hvb : VbSound C vb) : ∀ (fuel : Nat) (c : Code) (st : St) (K : Ex → St → Option FOut) (out : FOut), (∀ p ∈ drawRegs c, DrawSound C f p.1 p.2) → vexec C vb f fuel c st K = some out →
    ∀ (g : Gh) (a : Act) (w : World) (Q : Exit → Act → World → Prop), R B τ g st a w →
    (∀ e st' g' e' a' w', Later B τ g g' w w' → R B τ g' st' a' w' → ExIs g' τ e e' → K e st' = some out → Q e' a' w') → c.wpIn (FW ρ) n C.P Q a w
  | 0, c, st, K, out, _, h, g, a, w, Q, hR, hQ => by cases h
  | fuel + 1, c, st, K, out, hd, h, g, a, w, Q, hR, hQ => by
    unfold vexec at h
    cases c with
    | skip => exact wpIn_skip (hQ .normal st g .normal a w (Later.refl ..) hR trivial h)
    | label l => exact wpIn_label (hQ .normal st g .normal a w (Later.refl ..) hR trivial h)
    | region id ops draw =>
      cases draw with
      | false =>
        refine wpIn_region (vops_sound (f := f) hvb (g := g) (w := w) (ks := K .normal) (kps := fun v st => K (.pan v) st) (out := out) (fun st' g' a' w' hl hR' hk => hQ .normal st' g' .normal a' w' hl hR' trivial hk)
          (fun v st' g' u a' w' d hl hR' hnl hv hk => hQ (.pan v) st' g' _ a' w' hl hR' ⟨u, d, rfl, hnl, hv⟩ hk) _ st g a w ?_ (Later.refl ..) hR)
        rw [filterMap_range]
        exact h
      | true =>
        dsimp only at h
        split at h
        · rename_i un hun
          exact hd (id, ops) (by simp [drawRegs]) un hun (fun _ => vb) st st (fun _ => hvb) _ out h ρ n B τ g a w Q hR (fun st' g' a' w' hl hR' hk => hQ .normal st' g' .normal a' w' hl hR' trivial hk)
        · cases h
    | seq x y =>
      refine wpIn_seq ?_
      refine vexec_sound hvb fuel x st _ out (fun p hp => hd p (by simp [drawRegs, hp])) h g a w _ hR (fun e st' g' e' a' w' hl hR' he hk => ?_)
      cases e <;> cases e' <;> first | exact he.elim | skip
      · exact vexec_sound hvb fuel y st' K out (fun p hp => hd p (by simp [drawRegs, hp])) hk g' a' w' Q hR' (fun e st2 g2 e2 a2 w2 hl2 hR2 he2 hk2 => hQ e st2 g2 e2 a2 w2 (hl.trans hl2) hR2 he2 hk2)
      · exact hQ _ st' g' _ a' w' hl hR' he hk
      · exact hQ _ st' g' _ a' w' hl hR' he hk
      · exact hQ _ st' g' _ a' w' hl hR' he hk
    | cond x y z =>
      dsimp only at h
      split at h
      · rename_i t ht
        obtain ⟨dx, hx⟩ := peek_rep hR x
        rw [ht] at hx
        have hx := rep_bool hx
        rcases condB_cases h with ⟨e, h'⟩ | ⟨e, h'⟩
        · exact wpIn_cond_true (by rw [hx, e]) (vexec_sound hvb fuel y st K out (fun p hp => hd p (by simp [drawRegs, hp])) h' g a w Q hR hQ)
        · exact wpIn_cond_false (by rw [hx, e]) (vexec_sound hvb fuel z st K out (fun p hp => hd p (by simp [drawRegs, hp])) h' g a w Q hR hQ)
      · cases h
    | block id b =>
      refine wpIn_block ?_
      refine vexec_sound hvb fuel b st _ out (fun p hp => hd p (by simp [drawRegs, hp])) h g a w _ hR (fun e st' g' e' a' w' hl hR' he hk => ?_)
      cases e <;> cases e' <;> first | exact he.elim | skip
      · exact hQ _ st' g' _ a' w' hl hR' he hk
      · rename_i i j
        have he : i = j := he
        subst he
        dsimp only at hk
        unfold Exit.inBlock
        dsimp only
        split at hk
        · rename_i hi
          rw [if_pos hi]
          exact hQ .normal st' g' .normal a' w' hl hR' trivial hk
        · rename_i hi
          rw [if_neg hi]
          exact hQ (.exit i) st' g' (.exit i) a' w' hl hR' rfl hk
      · exact hQ _ st' g' _ a' w' hl hR' he hk
      · exact hQ _ st' g' _ a' w' hl hR' he hk
    | loop b =>
      refine loop_rounds (Rn := fun j a' w' => j ≤ fuel + 1 ∧ ∃ st g1, Later B τ g g1 w w' ∧ R B τ g1 st a' w' ∧ vexec C vb f j (.loop b) st K = some out) (fun a w h => ?_) (fun j a1 w1 h1 => ?_) (j := fuel + 1) ⟨Nat.le_refl _, st, g, Later.refl .., hR, by unfold vexec; exact h⟩
      · obtain ⟨_, st, g1, _, _, h⟩ := h
        unfold vexec at h
        cases h
      · obtain ⟨hj, st1, g1, l1, R1, h1⟩ := h1
        unfold vexec at h1
        dsimp only at h1
        refine vexec_sound hvb j b st1 _ out (fun p hp => hd p (by simp [drawRegs, hp])) h1 g1 a1 w1 _ R1 (fun e st' g' e' a' w' hl hR' he hk => ?_)
        cases e <;> cases e' <;> first | exact he.elim | skip
        · exact ⟨by omega, st', g', l1.trans hl, hR', hk⟩
        · exact hQ _ st' g' _ a' w' (l1.trans hl) hR' he hk
        · exact hQ _ st' g' _ a' w' (l1.trans hl) hR' he hk
        · exact hQ _ st' g' _ a' w' (l1.trans hl) hR' he hk
    | exit id => exact wpIn_exit (hQ (.exit id) st g (.exit id) a w (Later.refl ..) hR rfl h)
    | ret => exact wpIn_ret (hQ .ret st g .ret a w (Later.refl ..) hR trivial h)
    | _ => cases h
termination_by fuel => fuel
decreasing_by all_goals omega
end
end Go.Fw
/- A function's end: its results, taken out of the heap where the caller knows nothing of it. -/
namespace Go.Fw
open Go.RowKit

/-! ### the results, run -/
theorem run_mapM {α : Type} {P : Program} {w : World} {fm : α → Sem Value} : ∀ {rs : List α} {us : List Value}, rs.length = us.length → (∀ (j : Nat) (r : α) (u : Value), rs[j]? = some r → us[j]? = some u → (fm r).run P w = .ok u w) → (rs.mapM fm).run P w = .ok us w
  | [], [], _, _ => by simp
  | r :: rs, u :: us, hl, h => by
    have h0 := h 0 r u rfl rfl
    have ih := run_mapM (rs := rs) (us := us) (by simpa using hl) (fun j r u hr hu => h (j + 1) r u hr hu)
    simp [List.mapM_cons, h0, ih]
  | [], _ :: _, hl, _ => by simp at hl
  | _ :: _, [], hl, _ => by simp at hl

def oneU (us : List Value) : Value := match us with
  | [u] => u
  | us => .tuple us.toArray
def resRun (tmps : Array Value) : ResultVar → Sem Value
  | .tmp t => pure (tmps.getD t undef)
  | .cell a t => do loadVar t (← asAddr (tmps.getD a undef))

theorem run_results {P : Program} {fn : Func} {tmps : Array Value} {w : World} {us : List Value} (hl : fn.results.toList.length = us.length) (h : ∀ (j : Nat) (r : ResultVar) (u : Value), fn.results.toList[j]? = some r → us[j]? = some u → (resRun tmps r).run P w = .ok u w) :
    (results fn tmps).run P w = .ok (oneU us) w := by
  have h1 := run_mapM (P := P) (w := w) (fm := resRun tmps) hl h
  have h2 : (fn.results.mapM (resRun tmps)).run P w = .ok us.toArray w := by
    rw [Array.mapM_eq_mapM_toList, Sem.run_map, h1]
    rfl
  have h3 : results fn tmps = (fn.results.mapM (resRun tmps) >>= fun vs => pure (if h : vs.size = 1 then vs[0] else .tuple vs)) := by
    unfold results
    congr 1
  rw [h3, Sem.run_bind, h2, Result.andThen_ok, Sem.run_pure]
  congr 1
  match us with
  | [] => rfl
  | [u] => rfl
  | u :: v :: us => simp [oneU]

theorem optAll_eq {α β : Type} {fm : α → Option β} : ∀ {xs : List α} {ys : List β}, optAll fm xs = some ys → xs.length = ys.length ∧ ∀ (j : Nat) (x : α) (y : β), xs[j]? = some x → ys[j]? = some y → fm x = some y
  | [], ys, h => by cases h; exact ⟨rfl, fun j x y h => by simp at h⟩
  | x :: xs, ys, h => by
    unfold optAll at h
    obtain ⟨y, hy, h⟩ := bindO_eq h
    obtain ⟨zs, hz, h⟩ := bindO_eq h
    cases h
    obtain ⟨h1, h2⟩ := optAll_eq hz
    refine ⟨by simp [h1], fun j a b ha hb => ?_⟩
    cases j with
    | zero => cases ha; cases hb; exact hy
    | succ j => exact h2 j a b ha hb

/-! ### where a result is held -/
def srcPl (τ : Nat) (fr : List V) : ResultVar → Nat → Place
  | .tmp t => fun j => .slot τ t j 0
  | .cell a _ => match getS fr a with
    | .ptr id off => fun j => .cell id (off + (j - 1))
    | _ => fun _ => .slot τ 0 0 0

theorem srcPl_cell {τ : Nat} {fr : List V} {a : Tmp} {t : TypeId} {id off : Nat} (hp : getS fr a = .ptr id off) : srcPl τ fr (.cell a t) = fun j => .cell id (off + (j - 1)) := by
  simp only [srcPl, hp]
theorem repA_ofCells {g : Gh} {pl : Nat → Place} {gg : Bool} {c : List V} {v : V} {vals : List Value} (h : ofCells gg c = some v) (hl : c.length = vals.length) (hc : ∀ (j : Nat) (x : V) (u : Value), c[j]? = some x → vals[j]? = some u → RepC g (pl (if gg then j + 1 else 0)) x u) :
    RepA g pl v (if gg then .agg vals.toArray else vals.headD undef) := by
  rcases ofCells_some h with ⟨rfl, rfl⟩ | ⟨rfl, rfl⟩
  · refine ⟨vals.toArray, rfl, by simpa using hl, fun j x hj hx => ?_⟩
    have := hc j x (vals.toArray[j]) hx (by simp at hj; simp [hj])
    simpa using this
  · match vals, hl with
    | [u], _ => exact repA_cell (by simpa using hc 0 v u rfl rfl)

section
variable {C : Cx} {B τ : Nat} {g : Gh} {st : St} {a : Act} {w : World}

theorem result_sound (hR : R B τ g st a w) {rv : ResultVar} {v : V} (h : resultV C st rv = some v) :
    ∃ u, (resRun a.tmps rv).run C.P w = .ok u w ∧ ((∀ vs, v ≠ .tup vs) → RepA g (srcPl τ st.fr rv) v u) ∧
      ∀ a' t, rv = .cell a' t → ∃ id off gg, getS st.fr a' = .ptr id off ∧ isAggT C.P t = some gg ∧ (gg = true ↔ ∃ vs, v = .agg vs) := by
  cases rv with
  | tmp t =>
    cases h
    refine ⟨a.tmps.getD t undef, by simp [resRun], fun hnt => ?_, fun _ _ e => by cases e⟩
    have := slot_of hR t
    rw [repS_notTup hnt] at this
    exact this
  | cell x t =>
    unfold resultV at h
    dsimp only at h
    split at h
    · rename_i id off gg m hp hg hm
      split at h
      · rename_i cs e hcs
        split at h
        · rename_i hle
          have hx := slot_of hR x
          rw [hp] at hx
          obtain ⟨b, hb, hu⟩ := rep_ptr hx
          obtain ⟨cur, hcur, hlc, hrep⟩ := hR.heap.blk id b cs e hb hcs
          have hlen : ((cs.drop off).take m).length = m := by simp; omega
          have hvl : ((cur.toList.drop off).take m).length = m := by simp; omega
          have h1 : gg = false → m = 1 := by
            intro hgf
            rcases ofCells_some h with ⟨e1, _⟩ | ⟨_, e1⟩
            · rw [hgf] at e1; cases e1
            · rw [← hlen, e1]; rfl
          have hl := run_loadVar_cells (P := C.P) (w := w) (b := b) (off := off) hg hm _ hvl (fun j u hj => by
            rw [cell_of_heap hcur]
            rw [takeDrop_get] at hj
            split at hj
            · simpa using hj
            · cases hj) h1
          refine ⟨_, by simp only [resRun, Sem.run_bind]; rw [hu]; simp only [asAddr, Sem.run_pure, Result.andThen_ok]; exact hl, fun _ => ?_, fun a' t' e' => ?_⟩
          · refine repA_ofCells h (by rw [hlen, hvl]) (fun j y u hj hu' => ?_)
            rw [takeDrop_get] at hj hu'
            split at hj
            · rename_i hjm
              rw [if_pos hjm] at hu'
              have hlt := (List.getElem?_eq_some_iff.1 hu').1
              have hlt : off + j < cur.size := by simpa using hlt
              have e2 : u = cur[off + j] := by
                have := (List.getElem?_eq_some_iff.1 hu').2
                rw [← this]; simp
              rw [e2]
              have := hrep (off + j) y hlt hj
              rw [srcPl_cell hp]
              cases gg with
              | true => simpa using this
              | false =>
                have := h1 rfl
                have hj0 : j = 0 := by omega
                subst hj0
                simpa using hrep off y (by simpa using hlt) (by simpa using hj)
            · cases hj
          · cases e'
            refine ⟨id, off, gg, hp, hg, ?_⟩
            rcases ofCells_some h with ⟨e1, e2⟩ | ⟨e1, e2⟩
            · exact ⟨fun _ => ⟨_, e2⟩, fun _ => e1⟩
            · constructor
              · intro e3; rw [e1] at e3; cases e3
              · rintro ⟨vs, rfl⟩
                exfalso
                have hin : V.agg vs ∈ (cs.drop off).take m := by rw [e2]; simp
                obtain ⟨j, hj⟩ := List.mem_iff_getElem?.1 hin
                rw [takeDrop_get] at hj
                split at hj
                · have hlt : off + j < cur.size := by
                    have := (List.getElem?_eq_some_iff.1 hj).1; omega
                  exact (hrep _ _ hlt hj).elim
                · cases hj
        · cases h
      · cases h
    · cases h

/-! ### taken out -/
open Classical in
noncomputable def Gh.esc (g : Gh) (w : World) (ren : Place → Place) : Gh where
  mem := fun b => match g.mem b with
    | some cs => some cs
    | none => if (∃ id, g.loc id = some b) then (match w.heap[b]? with
      | some (.cells cur _ _) => some cur.toList
      | _ => none) else none
  loc := fun _ => none
  lin := fun b => (g.lin b).map fun i => { i with place := ren i.place }

theorem esc_le (g : Gh) (w : World) (ren : Place → Place) : MemLe g.mem (g.esc w ren).mem := by
  intro b cs h
  unfold Gh.esc
  dsimp only
  rw [h]
  exact ⟨cs, rfl, List.prefix_refl _⟩
theorem esc_own {g : Gh} {w : World} {ren : Place → Place} {id b : Nat} (hm : g.mem b = none) (hl : g.loc id = some b) {cur : Array Value} {e : TypeId} {fr : Nat × Nat} (hc : w.heap[b]? = some (.cells cur e fr)) : (g.esc w ren).mem b = some cur.toList := by
  unfold Gh.esc
  dsimp only
  rw [hm]
  dsimp only
  rw [if_pos ⟨id, hl⟩, hc]

theorem chunk_get {sz : Nat} : ∀ {n : Nat} {cs : List V} {i : Nat} {x : V}, (chunk sz n cs)[i]? = some x → i < n ∧ x = .agg ((cs.drop (i * sz)).take sz)
  | 0, cs, i, x, h => by simp [chunk] at h
  | n + 1, cs, i, x, h => by
    unfold chunk at h
    cases i with
    | zero => simp at h; exact ⟨by omega, by rw [← h]; simp⟩
    | succ i =>
      rw [List.getElem?_cons_succ] at h
      obtain ⟨h1, h2⟩ := chunk_get h
      refine ⟨by omega, ?_⟩
      rw [h2, List.drop_drop, Nat.add_mul, Nat.one_mul, Nat.add_comm]
theorem chunk_len {sz : Nat} : ∀ {n : Nat} {cs : List V}, (chunk sz n cs).length = n
  | 0, _ => rfl
  | n + 1, cs => by unfold chunk; rw [List.length_cons, chunk_len]

theorem escape1_sound (hh : HeapOk g st.h B w) {ren : Place → Place} {p q : Place} (hpq : ren p = q) {v v' : V} {u : Value} (h : escape1 C.P st.h v = some v') (hr : RepC g p v u) : RepC (g.esc w ren) q v' u ∧ isCell v' = true ∧ v' ≠ .undef := by
  have flat : ∀ v, (∀ id off n r, v ≠ .own id off n r) → (∀ p e n xs, v ≠ .lin p e n xs) → escape1 C.P st.h v = some v' → flat1 v = true ∧ v' = v := by
    intro v h1 h2 h
    unfold escape1 at h
    split at h
    · exact absurd rfl (h1 _ _ _ _)
    · exact absurd rfl (h2 _ _ _ _)
    · rcases condB_cases h with ⟨e, h⟩ | ⟨_, h⟩
      · cases h; exact ⟨e, rfl⟩
      · cases h
  by_cases ho : ∃ id off n r, v = .own id off n r
  · obtain ⟨id, off, n, room, rfl⟩ := ho
    simp only [RepC] at hr
    rcases hr with ⟨b, cap, hb, rfl, hcap, hmx, _⟩ | ⟨rfl, _, ad, rfl⟩
    rotate_left
    · unfold escape1 at h
      dsimp only at h
      split at h
      · split at h
        · rcases condB_cases h with ⟨_, h⟩ | ⟨_, h⟩
          · cases h
            rw [List.take_zero]
            exact ⟨repI_empty (by omega) ad, rfl, by simp⟩
          · cases h
        · rcases condB_cases h with ⟨_, h⟩ | ⟨_, h⟩
          · cases h
            exact ⟨repI_empty (by omega) ad, rfl, by simp⟩
          · cases h
        · cases h
      · cases h
    unfold escape1 at h
    dsimp only at h
    split at h
    · rename_i cs e hcs
      obtain ⟨cur, hcur, hlc, hrep⟩ := hh.blk id b cs e hb hcs
      have hmem : ∀ j, stAt (g.esc w ren).mem b j = cur[j]? := by
        intro j
        unfold stAt
        rw [esc_own (hh.fresh id b hb).2.2.1 hb hcur]
        simp
      have hcell : ∀ (j : Nat) (c : V), cs[j]? = some c → flat1 c = true → isCell c = true ∧ ∃ u, cur[j]? = some u ∧ RepI (g.esc w ren).mem c u := by
        intro j c hc hf
        have hj : j < cur.size := by have := (List.getElem?_eq_some_iff.1 hc).1; omega
        exact ⟨(flat1_cell hf).1, cur[j], Array.getElem?_eq_getElem hj, (repC_flat1 hf (hrep j c hj hc)).mono (esc_le g w ren)⟩
      split at h
      · rcases condB_cases h with ⟨hcond, h⟩ | ⟨_, h⟩
        · cases h
          simp only [Bool.and_eq_true, decide_eq_true_eq, List.all_eq_true] at hcond
          obtain ⟨hle, hall⟩ := hcond
          refine ⟨?_, rfl, by simp⟩
          have hlen : ((cs.drop off).take n).length = n := by simp; omega
          have key : ∀ (i : Nat) (x : V), ((cs.drop off).take n)[i]? = some x → isCell x = true ∧ x.cells = [x] ∧ ∃ u, cur[off + i]? = some u ∧ RepI (g.esc w ren).mem x u := by
            intro i x hx
            have hf := hall x (List.mem_of_getElem? hx)
            rw [takeDrop_get] at hx
            split at hx
            · obtain ⟨q1, q2⟩ := hcell _ x hx hf
              exact ⟨q1, (by cases x <;> first | rfl | cases q1), q2⟩
            · cases hx
          have := RepI.imm (m := (g.esc w ren).mem) false ((cs.drop off).take n) b off cap 1 (fun i j => (cur[off + i * 1 + j]?).getD default) (by rw [hlen]; exact hcap) (fun h => by cases h) hmx (by omega)
            (fun i x hx => by rw [(key i x hx).2.1]; rfl)
            (fun i x j c hx hc => by
              obtain ⟨q1, q2, u, q3, q4⟩ := key i x hx
              rw [q2] at hc
              cases j with
              | zero => cases hc; exact ⟨q1, by rw [hmem]; simp [q3]⟩
              | succ j => simp at hc)
            (fun i x j c hx hc => by
              obtain ⟨q1, q2, u, q3, q4⟩ := key i x hx
              rw [q2] at hc
              cases j with
              | zero => cases hc; simpa [q3] using q4
              | succ j => simp at hc)
          rw [hlen] at this
          exact this
        · cases h
      · rename_i m hag hsz
        rcases condB_cases h with ⟨hcond, h⟩ | ⟨_, h⟩
        · cases h
          simp only [Bool.and_eq_true, decide_eq_true_eq, List.all_eq_true] at hcond
          obtain ⟨hle, hall⟩ := hcond
          refine ⟨?_, rfl, by simp⟩
          have key : ∀ (i : Nat) (x : V) (j : Nat) (c : V), (chunk (m + 1) n (cs.drop off))[i]? = some x → x.cells[j]? = some c → isCell c = true ∧ ∃ u, cur[off + i * (m + 1) + j]? = some u ∧ RepI (g.esc w ren).mem c u := by
            intro i x j c hx hc
            obtain ⟨hi, rfl⟩ := chunk_get hx
            simp only [V.cells] at hc
            rw [takeDrop_get] at hc
            split at hc
            · rename_i hj
              have hlt : i * (m + 1) + j < n * (m + 1) := by
                have : (i + 1) * (m + 1) ≤ n * (m + 1) := Nat.mul_le_mul_right _ hi
                rw [Nat.add_mul, Nat.one_mul] at this
                omega
              rw [List.getElem?_drop, ← Nat.add_assoc] at hc
              refine hcell _ c hc (hall c ?_)
              refine List.mem_iff_getElem?.2 ⟨i * (m + 1) + j, ?_⟩
              rw [takeDrop_get, if_pos hlt, ← Nat.add_assoc]
              exact hc
            · cases hc
          have hcl : (chunk (m + 1) n (cs.drop off)).length = n := chunk_len
          have := RepI.imm (m := (g.esc w ren).mem) false (chunk (m + 1) n (cs.drop off)) b off cap (m + 1) (fun i j => (cur[off + i * (m + 1) + j]?).getD default) (by rw [hcl]; exact hcap) (fun h => by cases h) hmx (by omega)
            (fun i x hx => by
              obtain ⟨hi, rfl⟩ := chunk_get hx
              simp only [V.cells, List.length_take, List.length_drop]
              have : (i + 1) * (m + 1) ≤ n * (m + 1) := Nat.mul_le_mul_right _ hi
              rw [Nat.add_mul, Nat.one_mul] at this
              omega)
            (fun i x j c hx hc => by
              obtain ⟨q1, u, q3, q4⟩ := key i x j c hx hc
              exact ⟨q1, by rw [hmem]; simp [q3]⟩)
            (fun i x j c hx hc => by
              obtain ⟨q1, u, q3, q4⟩ := key i x j c hx hc
              simpa [q3] using q4)
          rw [hcl] at this
          exact this
        · cases h
      · cases h
    · cases h
  · by_cases hl : ∃ p e n xs, v = .lin p e n xs
    · obtain ⟨p', e, n, xs, rfl⟩ := hl
      cases h
      refine ⟨?_, rfl, by simp⟩
      simp only [RepC] at hr ⊢
      rcases hr with ⟨b, i, h1, h2, h3, h0, h4, h5⟩ | hr
      rotate_left
      · exact .inr hr
      refine .inl ⟨b, { i with place := ren i.place }, ?_, by simp [h2, hpq], h3, h0, h4, h5.mono (esc_le g w ren)⟩
      unfold Gh.esc
      dsimp only
      rw [h1]
      rfl
    · obtain ⟨hf, rfl⟩ := flat v (fun id off n r e => ho ⟨_, _, _, _, e⟩) (fun p e n xs e' => hl ⟨_, _, _, _, e'⟩) h
      exact ⟨flat1_repC hf ((repC_flat1 hf hr).mono (esc_le g w ren)), (flat1_cell hf).1, (flat1_cell hf).2.2⟩

theorem escape2_sound (hh : HeapOk g st.h B w) {ren : Place → Place} {pl pl' : Nat → Place} {v v' : V} {u : Value} (h1 : ∀ vs, v = .agg vs → ∀ j, ren (pl (j + 1)) = pl' (j + 1)) (h0 : (∀ vs, v ≠ .agg vs) → ren (pl 0) = pl' 0) (h : escape2 C.P st.h v = some v') (hr : RepA g pl v u) :
    RepA (g.esc w ren) pl' v' u ∧ (∀ vs, v' ≠ .tup vs) := by
  by_cases ha : ∃ vs, v = .agg vs
  · obtain ⟨vs, rfl⟩ := ha
    unfold escape2 at h
    dsimp only at h
    obtain ⟨ws, hws, h⟩ := bindO_eq h
    cases h
    obtain ⟨hl, hall⟩ := optAll_eq hws
    obtain ⟨cs, rfl, h2, h3⟩ := hr
    refine ⟨⟨cs, rfl, by rw [← hl]; exact h2, fun j c hj hc => ?_⟩, by simp⟩
    have hj' : j < vs.length := by rw [h2]; exact hj
    have hv := List.getElem?_eq_getElem hj'
    exact (escape1_sound hh (h1 vs rfl j) (hall j _ c hv hc) (h3 j _ hj hv)).1
  · have e : escape2 C.P st.h v = escape1 C.P st.h v := by cases v <;> first | rfl | exact absurd ⟨_, rfl⟩ ha
    rw [e] at h
    rcases repA_inv hr with rfl | hc | hx
    · unfold escape1 at h
      dsimp only at h
      rcases condB_cases h with ⟨e, _⟩ | ⟨_, h⟩
      · simp [flat1, flat0] at e
      · cases h
    · obtain ⟨q1, q2, q3⟩ := escape1_sound hh (h0 (fun vs e => ha ⟨vs, e⟩)) h hc
      refine ⟨repA_cell q1, fun vs e => ?_⟩
      rw [e] at q2; cases q2
    · exact absurd hx ha

/-! ### the whole end -/
def renL (P : Program) (τ : Nat) (fr : List V) : List ResultVar → Nat → Place → Place
  | [], _, _ => .slot 1 0 0 0
  | .tmp t :: rs, k, p => match p with
    | .slot τ' x j 0 => if τ' = τ ∧ x = t then .slot 0 0 j k else renL P τ fr rs (k + 1) p
    | _ => renL P τ fr rs (k + 1) p
  | .cell a t :: rs, k, p => match getS fr a, p with
    | .ptr id off, .cell id' x => if id' = id then .slot 0 0 (if isAggT P t = some true then x - off + 1 else 0) k else renL P τ fr rs (k + 1) p
    | _, _ => renL P τ fr rs (k + 1) p

theorem distinct_cons {x : Nat × Nat} {xs : List (Nat × Nat)} (h : distinct (x :: xs) = true) : x ∉ xs ∧ distinct xs = true := by
  unfold distinct at h
  simpa using h

/-- The places of the results go where they belong. -/
theorem renL_at {P : Program} {τ : Nat} {st : St} : ∀ {rs : List ResultVar} {k i : Nat} {rv : ResultVar}, distinct (rs.map (resultKey st)) = true → rs[i]? = some rv →
    (∀ t, rv = .tmp t → ∀ j, renL P τ st.fr rs k (.slot τ t j 0) = .slot 0 0 j (k + i)) ∧
    (∀ a t id off, rv = .cell a t → getS st.fr a = .ptr id off → ∀ x, renL P τ st.fr rs k (.cell id x) = .slot 0 0 (if isAggT P t = some true then x - off + 1 else 0) (k + i))
  | [], k, i, rv, _, h => by simp at h
  | r :: rs, k, i, rv, hd, h => by
    rw [List.map_cons] at hd
    obtain ⟨hn, hd⟩ := distinct_cons hd
    cases i with
    | zero =>
      cases h
      refine ⟨fun t e j => ?_, fun a t id off e hp x => ?_⟩
      · subst e; simp [renL]
      · subst e; simp [renL, hp]
    | succ i =>
      have hm : rs[i]? = some rv := by simpa using h
      obtain ⟨h1, h2⟩ := renL_at (k := k + 1) hd hm
      have hkey : resultKey st r ≠ resultKey st rv := fun e => hn (by rw [e]; exact List.mem_map.2 ⟨rv, List.mem_of_getElem? hm, rfl⟩)
      refine ⟨fun t e j => ?_, fun a t id off e hp x => ?_⟩
      · have := h1 t e j
        rw [show k + 1 + i = k + (i + 1) by omega] at this
        subst e
        cases r with
        | tmp t' =>
          have : t ≠ t' := fun e => hkey (by rw [e])
          simp only [renL]
          rw [if_neg (by simp [this])]
          assumption
        | cell a' t' =>
          simp only [renL]
          split
          · rename_i e; cases e
          · exact this
      · have := h2 a t id off e hp x
        rw [show k + 1 + i = k + (i + 1) by omega] at this
        subst e
        cases r with
        | tmp t' => simp only [renL]; exact this
        | cell a' t' =>
          simp only [renL]
          split
          · rename_i id' off' id2 x2 hp' e'
            cases e'
            have hne : id ≠ id' := by
              rintro rfl
              apply hkey
              simp [resultKey, hp, hp']
            rw [if_neg hne]
            exact this
          · exact this

theorem repA_oneS {g : Gh} {us : List Value} {vs : List V} (hl : vs.length = us.length) (hnt : ∀ (i : Nat) (v : V), vs[i]? = some v → ∀ ws, v ≠ .tup ws)
    (h : ∀ (i : Nat) (v : V) (u : Value), vs[i]? = some v → us[i]? = some u → RepA g (fun j => .slot 0 0 j (if vs.length = 1 then 0 else i + 1)) v u) : RepS g 0 0 (one vs) (oneU us) := by
  match vs, us, hl with
  | [], [], _ => exact ⟨#[], rfl, rfl, fun k c hk => absurd hk (by simp)⟩
  | [v], [u], _ =>
    show RepS g 0 0 v u
    rw [repS_notTup (hnt 0 v rfl)]
    exact h 0 v u rfl rfl
  | v :: v2 :: vs, u :: u2 :: us, hl =>
    refine ⟨(u :: u2 :: us).toArray, rfl, by simpa using hl, fun k c hk hc => ?_⟩
    have := h k c ((u :: u2 :: us).toArray[k]) hc (by simp at hk; simp [hk])
    simpa using this

def EndOf (g : Gh) (B : Nat) (w : World) (out : FOut) (e : Ending) (w' : World) : Prop :=
  w' = w ∧ ∃ g', OutIs g' out e ∧ g'.loc = (fun _ => none) ∧ MemLe g.mem g'.mem ∧ (∀ b, b < B → g'.mem b = g.mem b) ∧ MemOk g'.mem w ∧ LinOk g' B w

theorem esc_ok (hR : R B τ g st a w) (ren : Place → Place) : MemLe g.mem (g.esc w ren).mem ∧ (∀ b, b < B → (g.esc w ren).mem b = g.mem b) ∧ MemOk (g.esc w ren).mem w ∧ LinOk (g.esc w ren) B w := by
  refine ⟨esc_le g w ren, fun b hb => ?_, ⟨fun b cs h => ?_⟩, ⟨fun b i h => ?_⟩⟩
  · unfold Gh.esc
    dsimp only
    cases hm : g.mem b with
    | some cs => rfl
    | none =>
      dsimp only
      rw [if_neg]
      rintro ⟨id, hid⟩
      have := (hR.heap.fresh id b hid).1
      omega
  · unfold Gh.esc at h
    dsimp only at h
    cases hm : g.mem b with
    | some cs' =>
      rw [hm] at h
      cases h
      exact hR.mem.at_ b cs hm
    | none =>
      rw [hm] at h
      dsimp only at h
      split at h
      · split at h
        · rename_i cur e fr hc
          cases h
          exact ⟨cur, e, fr, hc, List.prefix_refl _⟩
        · cases h
      · cases h
  · unfold Gh.esc at h
    dsimp only at h
    cases hl : g.lin b with
    | none => rw [hl] at h; cases h
    | some i0 =>
      rw [hl] at h
      simp only [Option.map_some, Option.some.injEq] at h
      subst h
      obtain ⟨h1, h2, h3, h4, h5, h6, h7⟩ := hR.lin.at_ b i0 hl
      refine ⟨h1, h2, h3, h4, h5, fun hp => ?_, fun hp => ?_⟩
      · unfold Gh.esc
        dsimp only
        rw [h6 hp]
        dsimp only
        rw [if_neg]
        rintro ⟨id, hid⟩
        have := (hR.heap.fresh id b hid).2.2.2
        rw [hl] at this; cases this
      · unfold Gh.esc
        dsimp only
        rw [h7 hp]

theorem final_pure (hR : R B τ g st a w) {ex : Ex} {e : Exit} (he : ExIs g τ ex e) {fn : Func} {out : FOut} (h : vfinal C fn true ex st = some out) : bodyPost C.P fn (EndOf g B w out) e a w := by
  have key : ∀ (h : (bindO (optAll (resultV C st) fn.results.toList) fun vs =>
    if true then (if distinct (fn.results.toList.map (resultKey st)) then bindO (optAll (escape2 C.P st.h) vs) fun vs => some (FOut.ret (one vs) []) else none)
    else condB (vs.all fun v => !isLin2 v && okV v) (some (.ret (one vs) st.h)) none) = some out), a.defers = [] ∧ ∃ v, (results fn a.tmps).run C.P w = .ok v w ∧ EndOf g B w out (.returned v) w := by
    intro h
    obtain ⟨vs, hvs, h⟩ := bindO_eq h
    rw [if_pos rfl] at h
    split at h
    · rename_i hdist
      obtain ⟨ws, hws, h⟩ := bindO_eq h
      cases h
      obtain ⟨l1, a1⟩ := optAll_eq hvs
      obtain ⟨l2, a2⟩ := optAll_eq hws
      have hex : ∀ (j : Nat) (rv : ResultVar), fn.results.toList[j]? = some rv → ∃ u v, vs[j]? = some v ∧ (resRun a.tmps rv).run C.P w = .ok u w ∧ ((∀ vs, v ≠ .tup vs) → RepA g (srcPl τ st.fr rv) v u) ∧
          ∀ a' t, rv = .cell a' t → ∃ id off gg, getS st.fr a' = .ptr id off ∧ isAggT C.P t = some gg ∧ (gg = true ↔ ∃ vs, v = .agg vs) := by
        intro j rv hj
        have hlt : j < vs.length := by rw [← l1]; exact (List.getElem?_eq_some_iff.1 hj).1
        have hv := List.getElem?_eq_getElem hlt
        obtain ⟨u, h1, h2, h3⟩ := result_sound hR (a1 j rv _ hj hv)
        exact ⟨u, _, hv, h1, h2, h3⟩
      obtain ⟨us, hus⟩ : ∃ us : List Value, us.length = fn.results.toList.length ∧ ∀ (j : Nat) (rv : ResultVar) (u : Value), fn.results.toList[j]? = some rv → us[j]? = some u → ∃ v, vs[j]? = some v ∧ (resRun a.tmps rv).run C.P w = .ok u w ∧ ((∀ vs, v ≠ .tup vs) → RepA g (srcPl τ st.fr rv) v u) ∧
          ∀ a' t, rv = .cell a' t → ∃ id off gg, getS st.fr a' = .ptr id off ∧ isAggT C.P t = some gg ∧ (gg = true ↔ ∃ vs, v = .agg vs) := by
        classical
        refine ⟨(List.range fn.results.toList.length).map fun j => if h : ∃ rv, fn.results.toList[j]? = some rv then Classical.choose (hex j _ (Classical.choose_spec h)) else undef, by simp, fun j rv u hj hu => ?_⟩
        rw [List.getElem?_map, List.getElem?_range (List.getElem?_eq_some_iff.1 hj).1] at hu
        simp only [Option.map_some, Option.some.injEq] at hu
        have hE : ∃ rv, fn.results.toList[j]? = some rv := ⟨rv, hj⟩
        rw [dif_pos hE] at hu
        have hsp := Classical.choose_spec (hex j _ (Classical.choose_spec hE))
        rw [hu] at hsp
        have hrv : Classical.choose hE = rv := by
          exact (Option.some.inj (hj.symm.trans (Classical.choose_spec hE))).symm
        rw [hrv] at hsp
        exact hsp
      obtain ⟨hul, hus⟩ := hus
      refine ⟨hR.defers, oneU us, run_results hul.symm (fun j rv u hj hu => by obtain ⟨v, _, h1, _⟩ := hus j rv u hj hu; exact h1), rfl, g.esc w (renL C.P τ st.fr fn.results.toList (if ws.length = 1 then 0 else 1)), ⟨_, rfl, ?_⟩, rfl, esc_ok hR _⟩
      have main : ∀ (i : Nat) (v' : V), ws[i]? = some v' → ∃ rv v, fn.results.toList[i]? = some rv ∧ vs[i]? = some v ∧ escape2 C.P st.h v = some v' := by
        intro i v' hv'
        have hi : i < ws.length := (List.getElem?_eq_some_iff.1 hv').1
        have hi1 : i < vs.length := by omega
        have hi2 : i < fn.results.toList.length := by omega
        exact ⟨_, _, List.getElem?_eq_getElem hi2, List.getElem?_eq_getElem hi1, a2 i _ v' (List.getElem?_eq_getElem hi1) hv'⟩
      have notTup : ∀ v v', escape2 C.P st.h v = some v' → ∀ ws, v ≠ .tup ws := by
        intro v v' h1 xs e
        subst e
        unfold escape2 escape1 at h1
        dsimp only at h1
        rcases condB_cases h1 with ⟨e, _⟩ | ⟨_, h1⟩
        · simp [flat1, flat0] at e
        · cases h1
      have full : ∀ (i : Nat) (v' : V) (u : Value), ws[i]? = some v' → us[i]? = some u → RepA (g.esc w (renL C.P τ st.fr fn.results.toList (if ws.length = 1 then 0 else 1))) (fun j => .slot 0 0 j ((if ws.length = 1 then 0 else 1) + i)) v' u ∧ ∀ xs, v' ≠ .tup xs := by
        intro i v' u hv' hu
        obtain ⟨rv, v, hrv, hv, hesc⟩ := main i v' hv'
        obtain ⟨v2, hv2, _, hrep, hcell⟩ := hus i rv u hrv hu
        rw [hv] at hv2
        cases hv2
        have hren := renL_at (P := C.P) (τ := τ) (k := if ws.length = 1 then 0 else 1) hdist hrv
        refine escape2_sound (C := C) hR.heap (fun xs e j => ?_) (fun hna => ?_) hesc (hrep (notTup v v' hesc))
        · cases rv with
          | tmp t => exact hren.1 t rfl (j + 1)
          | cell a' t =>
            obtain ⟨id, off, gg, hp, hg, hiff⟩ := hcell a' t rfl
            rw [srcPl_cell hp]
            have := hren.2 a' t id off rfl hp (off + j)
            rw [hg, hiff.2 ⟨xs, e⟩] at this
            simpa using this
        · cases rv with
          | tmp t => exact hren.1 t rfl 0
          | cell a' t =>
            obtain ⟨id, off, gg, hp, hg, hiff⟩ := hcell a' t rfl
            rw [srcPl_cell hp]
            have := hren.2 a' t id off rfl hp off
            have hgf : gg = false := by
              cases gg with
              | false => rfl
              | true => obtain ⟨xs, e⟩ := hiff.1 rfl; exact absurd e (hna xs)
            rw [hg, hgf] at this
            simpa using this
      refine repA_oneS (by omega) (fun i v' hv' => ?_) (fun i v' u hv' hu => ?_)
      · have hi : i < us.length := by have := (List.getElem?_eq_some_iff.1 hv').1; omega
        exact (full i v' _ hv' (List.getElem?_eq_getElem hi)).2
      · have := (full i v' u hv' hu).1
        have e1 : (if ws.length = 1 then 0 else i + 1) = (if ws.length = 1 then 0 else 1) + i := by
          split
          · rename_i h1
            have := (List.getElem?_eq_some_iff.1 hv').1; omega
          · omega
        rw [e1]
        exact this
    · cases h
  cases ex <;> cases e <;> first | exact he.elim | skip
  · exact key h
  · cases h
  · exact key h
  · rename_i v ch
    obtain ⟨u, d, rfl, hnl, hv⟩ := he
    unfold vfinal at h
    dsimp only at h
    rw [if_pos rfl] at h
    rcases condB_cases h with ⟨hf, h⟩ | ⟨_, h⟩
    · cases h
      refine ⟨hR.defers, rfl, g.esc w id, ⟨u, rfl, hnl, flat2_repS hf ((repS_flat2 hf hv).mono (esc_le g w id))⟩, rfl, esc_ok hR _⟩
    · cases h
end
end Go.Fw
/- A call of a function of the program: what its evaluation says is so. -/
namespace Go.Fw
open Go.RowKit

theorem one_lin {vs : List V} (h : ∀ v ∈ vs, isLin2 v = false ∧ okV v = true) : isLin3 (one vs) = false := by
  unfold one
  split
  · rename_i v
    obtain ⟨h1, h2⟩ := h v (by simp)
    cases v <;> first | exact h1 | cases h2
  · simp only [isLin3]
    rw [List.any_eq_false]
    intro x hx
    simp [(h x hx).1]

section
variable {C : Cx} {B τ : Nat} {g : Gh} {st : St} {a : Act} {w : World}

theorem final_heap (hR : R B τ g st a w) {ex : Ex} {e : Exit} (he : ExIs g τ ex e) {fn : Func} {out : FOut} (h : vfinal C fn false ex st = some out) :
    bodyPost C.P fn (fun e w' => w' = w ∧ OutIs g out e ∧ out.plain ∧ out.heap = st.h) e a w := by
  have key : ∀ (h : (bindO (optAll (resultV C st) fn.results.toList) fun vs =>
    if false then (if distinct (fn.results.toList.map (resultKey st)) then bindO (optAll (escape2 C.P st.h) vs) fun vs => some (FOut.ret (one vs) []) else none)
    else condB (vs.all fun v => !isLin2 v && okV v) (some (.ret (one vs) st.h)) none) = some out), a.defers = [] ∧ ∃ v, (results fn a.tmps).run C.P w = .ok v w ∧ (w = w ∧ OutIs g out (.returned v) ∧ out.plain ∧ out.heap = st.h) := by
    intro h
    obtain ⟨vs, hvs, h⟩ := bindO_eq h
    rw [if_neg (by simp)] at h
    rcases condB_cases h with ⟨hall, h⟩ | ⟨_, h⟩
    · cases h
      rw [List.all_eq_true] at hall
      have hall : ∀ v ∈ vs, isLin2 v = false ∧ okV v = true := fun v hv => by have := hall v hv; simpa using this
      obtain ⟨l1, a1⟩ := optAll_eq hvs
      have hex : ∀ (j : Nat) (rv : ResultVar), fn.results.toList[j]? = some rv → ∃ u v, vs[j]? = some v ∧ (resRun a.tmps rv).run C.P w = .ok u w ∧ ((∀ vs, v ≠ .tup vs) → RepA g (srcPl τ st.fr rv) v u) := by
        intro j rv hj
        have hlt : j < vs.length := by rw [← l1]; exact (List.getElem?_eq_some_iff.1 hj).1
        have hv := List.getElem?_eq_getElem hlt
        obtain ⟨u, h1, h2, h3⟩ := result_sound hR (a1 j rv _ hj hv)
        exact ⟨u, _, hv, h1, h2⟩
      obtain ⟨us, hul, hus⟩ : ∃ us : List Value, us.length = fn.results.toList.length ∧ ∀ (j : Nat) (rv : ResultVar) (u : Value), fn.results.toList[j]? = some rv → us[j]? = some u → ∃ v, vs[j]? = some v ∧ (resRun a.tmps rv).run C.P w = .ok u w ∧ ((∀ vs, v ≠ .tup vs) → RepA g (srcPl τ st.fr rv) v u) := by
        classical
        refine ⟨(List.range fn.results.toList.length).map fun j => if h : ∃ rv, fn.results.toList[j]? = some rv then Classical.choose (hex j _ (Classical.choose_spec h)) else undef, by simp, fun j rv u hj hu => ?_⟩
        rw [List.getElem?_map, List.getElem?_range (List.getElem?_eq_some_iff.1 hj).1] at hu
        simp only [Option.map_some, Option.some.injEq] at hu
        have hE : ∃ rv, fn.results.toList[j]? = some rv := ⟨rv, hj⟩
        rw [dif_pos hE] at hu
        have hsp := Classical.choose_spec (hex j _ (Classical.choose_spec hE))
        rw [hu] at hsp
        have hrv : Classical.choose hE = rv := by
          exact (Option.some.inj (hj.symm.trans (Classical.choose_spec hE))).symm
        rw [hrv] at hsp
        exact hsp
      refine ⟨hR.defers, oneU us, run_results hul.symm (fun j rv u hj hu => by obtain ⟨v, _, h1, _⟩ := hus j rv u hj hu; exact h1), rfl, ⟨_, rfl, ?_⟩, one_lin hall, rfl⟩
      have hnt : ∀ v ∈ vs, ∀ ws, v ≠ .tup ws := fun v hv ws e => by have := (hall v hv).2; rw [e] at this; cases this
      refine repA_oneS (by omega) (fun i v' hv' => hnt v' (List.mem_of_getElem? hv')) (fun i v' u hv' hu => ?_)
      have hi : i < fn.results.toList.length := by have := (List.getElem?_eq_some_iff.1 hv').1; omega
      obtain ⟨v2, hv2, _, hr⟩ := hus i _ u (List.getElem?_eq_getElem hi) hu
      rw [hv'] at hv2
      cases hv2
      exact RepA.any (hall v' (List.mem_of_getElem? hv')).1 (hr (hnt v' (List.mem_of_getElem? hv')))
    · cases h
  cases ex <;> cases e <;> first | exact he.elim | skip
  · exact key h
  · cases h
  · exact key h
  · rename_i v ch
    obtain ⟨u, d, rfl, hnl, hv⟩ := he
    cases h
    exact ⟨hR.defers, rfl, ⟨u, rfl, hnl, hv.any hnl⟩, trivial, rfl⟩

/-- The frame that a call begins with. -/
theorem args_R {args : List V} {us : Array Value} {n : Nat} {h : List Blk} (hl : args.length = us.size) (hs : ∀ (j : Nat) (c : V) (hj : j < us.size), args[j]? = some c → RepS g τ j c us[j]) (hh : HeapOk g h B w) (hm : MemOk g.mem w) (hn : LinOk g B w) (hb : B ≤ w.heap.size) :
    R B τ g ⟨args ++ List.replicate (n - args.length) .undef, h⟩ { tmps := us ++ Array.replicate (n - us.size) undef, defers := [] } w := by
  refine ⟨by simp [hl], fun i v hi hv => ?_, hh, hm, hn, hb, rfl⟩
  by_cases hu : i < us.size
  · rw [List.getElem?_append_left (by rw [hl]; exact hu)] at hv
    have := hs i v hu hv
    simpa [Array.getElem_append, hu] using this
  · rw [List.getElem?_append_right (by omega)] at hv
    obtain ⟨rfl, _⟩ := repl_get hv
    exact trivial

theorem free_tau (hL : LinOk g B w) : ∃ τ, ∀ b i, g.lin b = some i → ∀ τ' x j k, i.place = .slot τ' x j k → τ' ≠ τ := by
  have key : ∀ N, ∃ τ, ∀ b, b < N → ∀ i, g.lin b = some i → ∀ τ' x j k, i.place = .slot τ' x j k → τ' < τ := by
    intro N
    induction N with
    | zero => exact ⟨0, fun b hb => absurd hb (by omega)⟩
    | succ N ih =>
      obtain ⟨τ, hτ⟩ := ih
      cases hl : g.lin N with
      | none => exact ⟨τ, fun b hb i hi τ' x j k hp => by
          by_cases e : b = N
          · subst e; rw [hl] at hi; cases hi
          · exact hτ b (by omega) i hi τ' x j k hp⟩
      | some i0 =>
        refine ⟨max τ (match i0.place with | .slot t _ _ _ => t + 1 | _ => 0), fun b hb i hi τ' x j k hp => ?_⟩
        by_cases e : b = N
        · subst e
          rw [hl] at hi; cases hi
          rw [hp]
          dsimp only
          omega
        · have := hτ b (by omega) i hi τ' x j k hp
          omega
  obtain ⟨τ, hτ⟩ := key w.heap.size
  refine ⟨τ, fun b i hi τ' x j k hp => ?_⟩
  obtain ⟨_, ⟨cur, h2, _⟩, _⟩ := hL.at_ b i hi
  have := hτ b (Array.getElem?_eq_some_iff.1 h2).1 i hi τ' x j k hp
  omega
end

theorem CallsIn.ofBody {P : Program} {f : FuncId} {fn : Func} {c : Code} {n : Nat} {us : Array Value} {w : World} {T : Ending → World → Prop} (hf : P.funcs[f]? = some fn) (hb : fn.body = some c)
    (h : c.wpIn (FW none) n P (bodyPost P fn T) { tmps := us ++ Array.replicate (fn.ntmps - us.size) undef, defers := [] } w) : CallsIn Fence.wide n P f us w T :=
  callsIn_of_wp (F := Fence.wide) hf hb trivial h

theorem vcall_sound (C : Cx) (hD : ∀ f fn c, C.P.funcs[f]? = some fn → fn.body = some c → ∀ p ∈ drawRegs c, DrawSound C f p.1 p.2) : ∀ n, VbSound C (vcall C n)
  | 0 => ⟨fun _ _ _ _ h => (by cases h), fun _ _ _ h => (by cases h), fun _ _ _ _ h => (by cases h)⟩
  | n + 1 => by
    have ih := vcall_sound C hD n
    have open_ : ∀ f args h out, vcall C (n + 1) f args h = some out → ∃ fn c, C.P.funcs[f]? = some fn ∧ fn.body = some c ∧ (fn.name == "runtime.NumGoroutine") = false ∧
        vexec C (vcall C n) f (n + 1) c ⟨args ++ List.replicate (fn.ntmps - args.length) .undef, h⟩ (vfinal C fn (args.all flat2)) = some out := by
      intro f args h out hv
      unfold vcall at hv
      split at hv
      · rename_i fn hfn
        split at hv
        · rename_i c hc
          split at hv
          · cases hv
          · rename_i hnn
            exact ⟨fn, c, hfn, hc, by simpa using hnn, hv⟩
        · cases hv
      · cases hv
    refine ⟨fun f args h out hv => ?_, fun f args out hv hflat k us w m hm ha => ?_, fun f args h out hv hflat k us w B g hh hm hl hb ha => ?_⟩
    · obtain ⟨fn, c, h1, h2, h3, _⟩ := open_ f args h out hv
      exact ⟨fn, c, h1, h2, h3⟩
    · obtain ⟨fn, c, h1, h2, h3, hv⟩ := open_ f args [] out hv
      rw [hflat] at hv
      let g : Gh := ⟨m, fun _ => none, fun _ => none⟩
      have hR : R w.heap.size 0 g ⟨args ++ List.replicate (fn.ntmps - args.length) .undef, []⟩ { tmps := us ++ Array.replicate (fn.ntmps - us.size) undef, defers := [] } w := by
        refine args_R ha.1 (fun j c hj hc => ?_) ⟨fun _ _ h => (by cases h), fun _ _ _ h => (by cases h), fun _ _ h => (by cases h), fun _ _ _ _ h => (by cases h)⟩ hm ⟨fun _ _ h => (by cases h)⟩ (Nat.le_refl _)
        rw [List.all_eq_true] at hflat
        exact flat2_repS (hflat c (List.mem_of_getElem? hc)) (ha.2 j c hj hc)
      refine CallsIn.ofBody h1 h2 (vexec_sound ih (n + 1) c _ _ out (hD f fn c h1 h2) hv g _ w _ hR (fun e st' g' e' a' w' l1 R1 hx hK => ?_))
      have hfin := final_pure R1 hx hK
      have conv : ∀ en w2, EndOf g' w.heap.size w' out en w2 → PureOut m w out en w2 := by
        rintro en w2 ⟨rfl, g2, k1, k2, k3, k4, k5, k6⟩
        exact ⟨g2, k1, k2, l1.below, l1.mem.trans k3, fun b hb => (k4 b hb).trans (l1.old b hb), k5, k6⟩
      cases e' with
      | normal => obtain ⟨q1, v, q2, q3⟩ := hfin; exact ⟨q1, v, q2, conv _ _ q3⟩
      | ret => obtain ⟨q1, v, q2, q3⟩ := hfin; exact ⟨q1, v, q2, conv _ _ q3⟩
      | panic ch => obtain ⟨q1, q3⟩ := hfin; exact ⟨q1, conv _ _ q3⟩
      | outgrown => exact conv _ _ hfin
      | exit i => exact hfin.elim
      | goto l => exact hfin.elim
    · obtain ⟨fn, c, h1, h2, h3, hv⟩ := open_ f args h out hv
      rw [hflat] at hv
      obtain ⟨τ, hτ⟩ := free_tau hl
      have hR : R B τ g ⟨args ++ List.replicate (fn.ntmps - args.length) .undef, h⟩ { tmps := us ++ Array.replicate (fn.ntmps - us.size) undef, defers := [] } w :=
        args_R ha.1 (fun j c hj hc => (ha.2 j c hj hc).2 τ j) hh hm hl hb
      refine CallsIn.ofBody h1 h2 (vexec_sound ih (n + 1) c _ _ out (hD f fn c h1 h2) hv g _ w _ hR (fun e st' g' e' a' w' l1 R1 hx hK => ?_))
      have hfin := final_heap R1 hx hK
      have conv : ∀ en w2, (w2 = w' ∧ OutIs g' out en ∧ out.plain ∧ out.heap = st'.h) → HeapOut B g w out en w2 := by
        rintro en w2 ⟨rfl, k1, k2, k3⟩
        refine ⟨g', k1, k2, l1.below, l1.mem, l1.old, l1.loc, fun b i hi ⟨τ', x, j, k, hp⟩ => l1.lin b i hi ⟨τ', x, j, k, hp, hτ b i hi τ' x j k hp⟩, ?_, R1.mem, R1.lin⟩
        rw [k3]; exact R1.heap
      cases e' with
      | normal => obtain ⟨q1, v, q2, q3⟩ := hfin; exact ⟨q1, v, q2, conv _ _ q3⟩
      | ret => obtain ⟨q1, v, q2, q3⟩ := hfin; exact ⟨q1, v, q2, conv _ _ q3⟩
      | panic ch => obtain ⟨q1, q3⟩ := hfin; exact ⟨q1, conv _ _ q3⟩
      | outgrown => exact conv _ _ hfin
      | exit i => exact hfin.elim
      | goto l => exact hfin.elim
end Go.Fw
/- Regions whose order is drawn (1): what an operation depends on. -/
namespace Go.Fw
open Go.RowKit

def vopc (C : Cx) (vb : FuncId → List V → List Blk → Option FOut) (f : FuncId) (o : Oper) (st : St) : Option (V × St) := vop C vb f o st (fun v s => some (v, s)) (fun _ _ => none)

def eff (K : Kd) (b : Blk) (st : St) : St := match K with
  | .wr id => { st with h := st.h.set id b }
  | .al => { st with h := st.h ++ [b] }
  | _ => st
def HC (K : Kd) (st st2 : St) : Prop := match K with
  | .none => True
  | .rd id | .wr id => st2.h[id]? = st.h[id]?
  | .al => st2.h.length = st.h.length
  | .any => False
structure SameOn (o : Oper) (st st2 : St) : Prop where
  peek : ∀ x ∈ o.op.operands.toList, st2.peek x = st.peek x
  dst : ∀ d, o.dst = some d → getS st2.fr d = getS st.fr d
theorem SameOn.refl (o : Oper) (st : St) : SameOn o st st := ⟨fun _ _ => rfl, fun _ _ => rfl⟩

theorem use_id {st : St} {x : Operand} (h : isLin3 (st.peek x) = false) : st.useS x = st ∧ st.takeS x = st ∧ st.useV x = st.peek x := by
  refine ⟨?_, ?_, map3_of (fun _ h => demote1_of h) h⟩
  · cases x with
    | tmp t => unfold St.useS; dsimp only; rw [show isLin3 (getS st.fr t) = false from h, condB_false]
    | _ => rfl
  · cases x with
    | tmp t => unfold St.takeS; dsimp only; rw [show isLin3 (getS st.fr t) = false from h, condB_false]
    | _ => rfl

theorem useAll_id {st : St} : ∀ {xs : List Operand}, (∀ x ∈ xs, isLin3 (st.peek x) = false) → st.useAll xs = st
  | [], _ => rfl
  | x :: xs, h => by
    unfold St.useAll
    rw [(use_id (h x (by simp))).1]
    exact useAll_id (fun y hy => h y (by simp [hy]))

theorem map_condB {α β : Type} {f : α → β} {b : Bool} {x y : Option α} : Option.map f (condB b x y) = condB b (Option.map f x) (Option.map f y) := by
  cases b
  · rw [condB_false, condB_false]
  · rw [condB_true, condB_true]
theorem map_bindO {α β γ : Type} {f : β → γ} {o : Option α} {k : α → Option β} : Option.map f (bindO o k) = bindO o fun a => Option.map f (k a) := by
  cases o
  · rw [bindO_none, bindO_none]; rfl
  · rw [bindO_some, bindO_some]

section
variable {C : Cx} {vb : FuncId → List V → List Blk → Option FOut} {f : FuncId} {o : Oper} {st : St}

/-- A state that looks to the operation as this one does. -/
def Like (o : Oper) (st st' : St) : Prop := SameOn o st st' ∧ ∀ x ∈ o.op.operands.toList, isLin3 (st.peek x) = false
theorem Like.peek {st' : St} (h : Like o st st') {x : Operand} (hx : x ∈ o.op.operands.toList) : st'.peek x = st.peek x ∧ st'.useS x = st' ∧ st'.takeS x = st' ∧ st'.useV x = st.peek x := by
  have e := h.1.peek x hx
  have := use_id (st := st') (x := x) (by rw [e]; exact h.2 x hx)
  exact ⟨e, this.1, this.2.1, this.2.2.trans e⟩

def vval (C : Cx) (vb : FuncId → List V → List Blk → Option FOut) (f : FuncId) (o : Oper) (st : St) : Option V := vop C vb f o st (fun v _ => some v) (fun _ _ => none)

theorem dep_move {x : Operand} (ho : o.op = .move x) {st' : St} (h : Like o st st') : vopc C vb f o st' = (vval C vb f o st).map (·, st') := by
  have hx := h.peek (x := x) (by simp [ho, Op.operands])
  have l : Like o st st := ⟨SameOn.refl o st, h.2⟩
  have hy := l.peek (x := x) (by simp [ho, Op.operands])
  have hd : map3 demote1 (st.peek x) = st.peek x := hy.2.2.2
  unfold vopc vval vop
  rw [ho]
  dsimp only
  rw [hx.1, hx.2.1, hx.2.2.1]
  cases o.dst with
  | none => rfl
  | some d =>
    dsimp only
    generalize st.peek x = v at hd
    cases v <;> first | rfl | (dsimp only; rw [hd]; split <;> rfl)
theorem dep_assign {x : Operand} (ho : o.op = .assign x) {st' : St} (h : Like o st st') : vopc C vb f o st' = (vval C vb f o st).map (·, st') := by
  have hx := h.peek (x := x) (by simp [ho, Op.operands])
  have l : Like o st st := ⟨SameOn.refl o st, h.2⟩
  have hy := l.peek (x := x) (by simp [ho, Op.operands])
  unfold vopc vval vop
  rw [ho]
  dsimp only
  rw [hx.1, hx.2.2.1]
  rfl
theorem dep_pick {c x y : Operand} (ho : o.op = .pick c x y) {st' : St} (h : Like o st st') : vopc C vb f o st' = (vval C vb f o st).map (·, st') := by
  have hc := h.peek (x := c) (by simp [ho, Op.operands])
  have hx := h.peek (x := x) (by simp [ho, Op.operands])
  have hy := h.peek (x := y) (by simp [ho, Op.operands])
  have l : Like o st st := ⟨SameOn.refl o st, h.2⟩
  have hx' := l.peek (x := x) (by simp [ho, Op.operands])
  have hy' := l.peek (x := y) (by simp [ho, Op.operands])
  unfold vopc vval vop
  rw [ho]
  dsimp only
  rw [hc.1, hx.2.1, hx.2.2.2, hy.2.1, hy.2.2.2, hx'.2.2.2, hy'.2.2.2]
  generalize st.peek c = v
  cases v <;> first | rfl | simp only [map_condB, Option.map_some]
theorem dep_nilCheck {x : Operand} (ho : o.op = .nilCheck x) {st' : St} (h : Like o st st') : vopc C vb f o st' = (vval C vb f o st).map (·, st') := by
  have hx := h.peek (x := x) (by simp [ho, Op.operands])
  unfold vopc vval vop
  rw [ho]
  dsimp only
  rw [hx.1]
  generalize st.peek x = v
  split <;> rfl
theorem dep_binOp {op : BinOp} {t t' : TypeId} {x y : Operand} (ho : o.op = .binOp op t x y t') {st' : St} (h : Like o st st') : vopc C vb f o st' = (vval C vb f o st).map (·, st') := by
  have hx := h.peek (x := x) (by simp [ho, Op.operands])
  have hy := h.peek (x := y) (by simp [ho, Op.operands])
  unfold vopc vval vop
  rw [ho]
  dsimp only
  rw [hx.1, hy.1]
  cases vbin C.P op t (st.peek x) (st.peek y) <;> rfl
theorem dep_unOp {op : UnOp} {t : TypeId} {x : Operand} (ho : o.op = .unOp op t x) {st' : St} (h : Like o st st') : vopc C vb f o st' = (vval C vb f o st).map (·, st') := by
  have hx := h.peek (x := x) (by simp [ho, Op.operands])
  unfold vopc vval vop
  rw [ho]
  dsimp only
  rw [hx.1]
  cases vun C.P op (st.peek x) <;> rfl
theorem dep_convert {s t : TypeId} {x : Operand} (ho : o.op = .convert s t x) {st' : St} (h : Like o st st') : vopc C vb f o st' = (vval C vb f o st).map (·, st') := by
  have hx := h.peek (x := x) (by simp [ho, Op.operands])
  unfold vopc vval vop
  rw [ho]
  dsimp only
  rw [hx.1]
  cases vconv C.P s t (st.peek x) <;> rfl

theorem map_useV {st' : St} {xs : List Operand} (h : ∀ x ∈ xs, st'.useV x = st.useV x) : xs.map st'.useV = xs.map st.useV := List.map_congr_left h

theorem dep_makeFunc {g : Fn} {x y : Array Operand} (ho : o.op = .makeFunc g x y) {st' : St} (h : Like o st st') : vopc C vb f o st' = (vval C vb f o st).map (·, st') := by
  have l : Like o st st := ⟨SameOn.refl o st, h.2⟩
  have hin : ∀ z ∈ x.toList ++ y.toList, z ∈ o.op.operands.toList := by intro z hz; simp only [ho, Op.operands, Array.toList_append]; exact hz
  have e1 : ∀ z ∈ x.toList ++ y.toList, st'.useV z = st.useV z := fun z hz => (h.peek (hin z hz)).2.2.2.trans (l.peek (hin z hz)).2.2.2.symm
  have e2 : st'.useAll (x.toList ++ y.toList) = st' := useAll_id (fun z hz => by rw [(h.peek (hin z hz)).1]; exact h.2 z (hin z hz))
  have e3 : st.useAll (x.toList ++ y.toList) = st := useAll_id (fun z hz => h.2 z (hin z hz))
  unfold vopc vval vop
  rw [ho]
  dsimp only
  rw [e2, map_useV (st := st) (fun z hz => e1 z (by simp [hz])), map_useV (st := st) (fun z hz => e1 z (by simp [hz]))]
  split <;> rfl
theorem dep_slice {t : TypeId} {x : Operand} {lo hi mx : Option Operand} (ho : o.op = .slice t x lo hi mx) {st' : St} (h : Like o st st') : vopc C vb f o st' = (vval C vb f o st).map (·, st') := by
  have l : Like o st st := ⟨SameOn.refl o st, h.2⟩
  have hx := h.peek (x := x) (by simp [ho, Op.operands])
  have hx' := l.peek (x := x) (by simp [ho, Op.operands])
  have e1 : lo.map st'.peek = lo.map st.peek := by
    cases lo with
    | none => rfl
    | some y => exact congrArg some (h.peek (x := y) (by simp [ho, Op.operands])).1
  have e2 : hi.map st'.peek = hi.map st.peek := by
    cases hi with
    | none => rfl
    | some y => exact congrArg some (h.peek (x := y) (by simp [ho, Op.operands])).1
  have e3 : mx.map st'.peek = mx.map st.peek := by
    cases mx with
    | none => rfl
    | some y => exact congrArg some (h.peek (x := y) (by simp [ho, Op.operands])).1
  unfold vopc vval vop
  rw [ho]
  dsimp only
  rw [e1, e2, e3, hx.1, hx.2.1]
  split
  · split
    · split
      · rfl
      · simp only [map_condB, Option.map_some, Option.map_none]
    · rfl
  split
  · split
    · split <;> simp only [map_condB, Option.map_some, Option.map_none]
    · rfl
  · rfl
theorem dep_fieldAddr {s : TypeId} {x : Operand} {j : Nat} (ho : o.op = .fieldAddr s x j) {st' : St} (h : Like o st st') : vopc C vb f o st' = (vval C vb f o st).map (·, st') := by
  have hx := h.peek (x := x) (by simp [ho, Op.operands])
  unfold vopc vval vop
  rw [ho]
  dsimp only
  rw [hx.1]
  split
  · split
    · split <;> rfl
    · rfl
  · rfl
theorem dep_field {s : TypeId} {x : Operand} {j : Nat} (ho : o.op = .field s x j) {st' : St} (h : Like o st st') : vopc C vb f o st' = (vval C vb f o st).map (·, st') := by
  have l : Like o st st := ⟨SameOn.refl o st, h.2⟩
  have hx := h.peek (x := x) (by simp [ho, Op.operands])
  have hx' := l.peek (x := x) (by simp [ho, Op.operands])
  unfold vopc vval vop
  rw [ho]
  dsimp only
  rw [hx.1, hx.2.1]
  split
  · split
    · split
      · split
        · split <;> rfl
        · rfl
      · rfl
    · rfl
  · rfl
theorem dep_indexAddr {t : TypeId} {x i : Operand} (ho : o.op = .indexAddr t x i) {st' : St} (h : Like o st st') : vopc C vb f o st' = (vval C vb f o st).map (·, st') := by
  have l : Like o st st := ⟨SameOn.refl o st, h.2⟩
  have hx := h.peek (x := x) (by simp [ho, Op.operands])
  have hx' := l.peek (x := x) (by simp [ho, Op.operands])
  have hi := h.peek (x := i) (by simp [ho, Op.operands])
  unfold vopc vval vop
  rw [ho]
  dsimp only
  rw [hx.1, hx.2.1, hi.1]
  split
  · split
    · split
      · rw [map_bindO]; rfl
      · rfl
    · split
      · rw [map_bindO]; rfl
      · rfl
    · split
      · rw [map_condB]; rfl
      · rfl
    · rfl
  · rfl
theorem dep_index {t : TypeId} {x i : Operand} (ho : o.op = .index t x i) {st' : St} (h : Like o st st') : vopc C vb f o st' = (vval C vb f o st).map (·, st') := by
  have hx := h.peek (x := x) (by simp [ho, Op.operands])
  have hi := h.peek (x := i) (by simp [ho, Op.operands])
  unfold vopc vval vop
  rw [ho]
  dsimp only
  rw [hx.1, hi.1]
  split
  · split
    · rw [map_bindO]; rfl
    · rfl
  · rfl

theorem call_args {c : Call} (ho : o.op = .call c) {x : Operand} (hx : x ∈ c.args.toList) : x ∈ o.op.operands.toList := by
  simp only [ho, Op.operands, Call.operands]
  cases c.callee <;> simp_all

theorem dep_len {c : Call} (ho : o.op = .call c) (hb : c.callee = .builtin .len) {st' : St} (h : Like o st st') : vopc C vb f o st' = (vval C vb f o st).map (·, st') := by
  unfold vopc vval vop
  rw [ho]
  dsimp only
  rw [hb]
  dsimp only
  split
  · rename_i x t hx ht
    have hx := h.peek (x := x) (call_args ho (by rw [hx]; simp))
    rw [hx.1]
    split
    · rfl
    · rfl
    · split <;> rfl
    · rfl
  · rfl

theorem dep_append {c : Call} (ho : o.op = .call c) (hb : c.callee = .builtin .append) (hk : kindV C f o st = .none) {st' : St} (h : Like o st st') : vopc C vb f o st' = (vval C vb f o st).map (·, st') := by
  have l : Like o st st := ⟨SameOn.refl o st, h.2⟩
  have hkk : ∃ d, o.dst = some d ∧ ∀ s x, c.args.toList = [s, x] → ∀ i j l r, st.peek s ≠ .own i j l r := by
    unfold kindV at hk
    rw [ho] at hk
    dsimp only at hk
    rw [hb] at hk
    dsimp only at hk
    split at hk
    · rename_i s r hs
      split at hk
      · cases hk
      · rename_i hno
        split at hk
        · rename_i hd
          obtain ⟨d, hd⟩ := Option.isSome_iff_exists.1 hd
          refine ⟨d, hd, fun s' x hsx i j l r e => ?_⟩
          rw [hsx] at hs
          injection hs with h1 h2
          subst h1
          exact hno i j l r e
        · cases hk
    · cases hk
  obtain ⟨d, hd, hno⟩ := hkk
  unfold vopc vval vop
  rw [ho]
  dsimp only
  rw [hb]
  dsimp only
  split
  · rename_i s x t tx hsx htt
    have hx := h.peek (x := x) (call_args ho (by rw [hsx]; simp))
    have hs := h.peek (x := s) (call_args ho (by rw [hsx]; simp))
    have hx' := l.peek (x := x) (call_args ho (by rw [hsx]; simp))
    have hs' := l.peek (x := s) (call_args ho (by rw [hsx]; simp))
    rw [hx.1, hx.2.1, hs.1, hs.2.2.1, hx'.2.1, hs'.2.2.1, hd]
    simp only [Option.getD_some]
    rw [h.1.dst d hd]
    split
    · split
      · rename_i hp
        exact absurd hp (hno s x hsx _ _ _ _)
      split
      · split
        · split
          · rw [map_condB]; rfl
          · rfl
        · rfl
      · rfl
    · rfl
  · rfl

theorem buildV_id {P : Program} {t : TypeId} {st' : St} : ∀ {parts : List (Nat × Operand)} {cs : List V}, (∀ p ∈ parts, st'.peek p.2 = st.peek p.2 ∧ st'.takeS p.2 = st' ∧ st.takeS p.2 = st) →
    (buildV P t st' cs parts = (buildV P t st cs parts).map fun q => (q.1, st')) ∧ ∀ q, buildV P t st cs parts = some q → q.2 = st
  | [], cs, _ => ⟨rfl, fun q h => by cases h; rfl⟩
  | (i, x) :: r, cs, h => by
    obtain ⟨h1, h2, h3⟩ := h (i, x) (by simp)
    dsimp only at h1 h2 h3
    unfold buildV
    rw [h1, h2, h3]
    cases fieldT P t i with
    | none => exact ⟨rfl, fun q h => by cases h⟩
    | some g =>
      dsimp only
      cases sizeT P g.type with
      | none => exact ⟨rfl, fun q h => by cases h⟩
      | some n =>
        dsimp only
        split
        · exact buildV_id (fun p hp => h p (by simp [hp]))
        · exact ⟨rfl, fun q h => by cases h⟩

theorem dep_build {t : TypeId} {parts : Array (Nat × Operand)} (ho : o.op = .build t parts) {st' : St} (h : Like o st st') : vopc C vb f o st' = (vval C vb f o st).map (·, st') := by
  have l : Like o st st := ⟨SameOn.refl o st, h.2⟩
  have hin : ∀ p ∈ parts.toList, p.2 ∈ o.op.operands.toList := by
    intro p hp
    simp only [ho, Op.operands]
    exact List.mem_map.2 ⟨p, hp, rfl⟩
  unfold vopc vval vop
  rw [ho]
  dsimp only
  split
  · rename_i zs hz
    split
    · have hb := buildV_id (P := C.P) (t := t) (st := st) (st' := st') (parts := parts.toList) (cs := zs) (fun p hp => ⟨(h.peek (hin p hp)).1, (h.peek (hin p hp)).2.2.1, (l.peek (hin p hp)).2.2.1⟩)
      rw [hb.1]
      cases buildV C.P t st zs parts.toList <;> rfl
    · rfl
  · rfl

theorem dep_bslice {t : TypeId} {m : Nat} {parts : Array (Nat × Operand)} (ho : o.op = .buildSlice t m parts) (hf : (parts.toList.map fun p => st.useV p.2).all flat2 = true) {st' : St} (h : Like o st st') : vopc C vb f o st' = (vval C vb f o st).map (·, st') := by
  have l : Like o st st := ⟨SameOn.refl o st, h.2⟩
  have hin : ∀ p ∈ parts.toList, p.2 ∈ o.op.operands.toList := by
    intro p hp
    simp only [ho, Op.operands]
    exact List.mem_map.2 ⟨p, hp, rfl⟩
  have e1 : (parts.toList.map fun p => st'.useV p.2) = parts.toList.map fun p => st.useV p.2 := List.map_congr_left fun p hp => (h.peek (hin p hp)).2.2.2.trans (l.peek (hin p hp)).2.2.2.symm
  have e2 : st'.useAll (parts.toList.map (·.2)) = st' := useAll_id (fun z hz => by
    obtain ⟨p, hp, rfl⟩ := List.mem_map.1 hz
    rw [(h.peek (hin p hp)).1]; exact h.2 _ (hin p hp))
  unfold vopc vval vop
  rw [ho]
  dsimp only
  split
  · split
    · split
      · rw [e1, e2]
        (repeat' split) <;> first | rfl | (rename_i hn; exact absurd hf hn) | contradiction
      · rfl
    · rfl
  · rfl
theorem dep_make {t : TypeId} {x y : Operand} (ho : o.op = .makeSlice t x y) (hk : kindV C f o st = .none) {st' : St} (h : Like o st st') : vopc C vb f o st' = (vval C vb f o st).map (·, st') := by
  have hx := h.peek (x := x) (by simp [ho, Op.operands])
  have hy := h.peek (x := y) (by simp [ho, Op.operands])
  unfold kindV at hk
  rw [ho] at hk
  dsimp only at hk
  split at hk
  · cases hk
  · rename_i hth
    unfold vopc vval vop
    rw [ho]
    dsimp only
    rw [hx.1, hy.1]
    split
    · rename_i e he
      rw [he] at hk
      simp only [Option.bind_some] at hk
      split
      · rename_i sz by_ z k1 n k2 m hsz hby hz _ _
        rw [hz] at hk
        dsimp only at hk
        split at hk
        · rename_i hfl
          rw [map_condB]
          congr 1
          rw [if_pos ⟨hfl, by simpa using hth⟩, if_pos ⟨hfl, by simpa using hth⟩, map_condB]
          rfl
        · cases hk
      · rfl
    · rfl
theorem call_fn {c : Call} {g : Operand} (ho : o.op = .call c) (hb : c.callee = .value g) : g ∈ o.op.operands.toList := by
  simp [ho, Op.operands, Call.operands, hb]
theorem dep_call {c : Call} {g : Operand} (ho : o.op = .call c) (hb : c.callee = .value g) (hk : kindV C f o st = .none) {st' : St} (h : Like o st st') : vopc C vb f o st' = (vval C vb f o st).map (·, st') := by
  have l : Like o st st := ⟨SameOn.refl o st, h.2⟩
  have hg := h.peek (x := g) (call_fn ho hb)
  have e1 : c.args.toList.map st'.useV = c.args.toList.map st.useV := map_useV (fun z hz => (h.peek (call_args ho hz)).2.2.2.trans (l.peek (call_args ho hz)).2.2.2.symm)
  have e2 : st'.useAll c.args.toList = st' := useAll_id (fun z hz => by rw [(h.peek (call_args ho hz)).1]; exact h.2 _ (call_args ho hz))
  unfold kindV at hk
  rw [ho] at hk
  dsimp only at hk
  rw [hb] at hk
  dsimp only at hk
  unfold vopc vval vop
  rw [ho]
  dsimp only
  rw [hb]
  dsimp only
  rw [hg.1]
  split
  · rename_i gf first caps hgp
    rw [hgp] at hk
    dsimp only at hk
    rcases condB_cases hk with ⟨hfl, hk⟩ | ⟨_, hk⟩
    · rw [e1, e2, if_pos hfl, if_pos hfl, map_bindO]
      congr 1
      funext r
      cases r with
      | ret v hh =>
        dsimp only
        cases hd : o.dst with
        | none => rfl
        | some d =>
          rw [hd] at hk
          dsimp only at hk ⊢
          split at hk
          · cases hk
          · rename_i hth
            rw [if_neg hth, if_neg hth]
            rfl
      | pan v hh => rfl
    · cases hk
  · rfl
end
end Go.Fw
/- Regions whose order is drawn (2): the normal form of an operation; two that change places. -/
namespace Go.Fw
open Go.RowKit

section
variable {C : Cx} {vb : FuncId → List V → List Blk → Option FOut} {f : FuncId} {o : Oper} {st : St}

theorem dep_extract {x : Operand} {i : Nat} (ho : o.op = .extract x i) {st' : St} (h : Like o st st') : vopc C vb f o st' = (vval C vb f o st).map (·, st') := by
  have hx := h.peek (x := x) (by simp [ho, Op.operands])
  have hn := h.2 x (by simp [ho, Op.operands])
  unfold vopc vval vop
  rw [ho]
  dsimp only
  cases x with
  | tmp t =>
    have e : getS st'.fr t = getS st.fr t := hx.1
    have hn : isLin3 (getS st.fr t) = false := hn
    dsimp only
    rw [e]
    split
    · rename_i vs hvs
      split
      · rename_i v hv
        have hd : map2 drop1 v = v := by
          apply map2_of (fun _ h => drop1_of h)
          rw [hvs] at hn
          simp only [isLin3] at hn
          rw [List.any_eq_false] at hn
          exact Bool.eq_false_iff.2 (hn v (List.mem_of_getElem? hv))
        have h1 : vs.set i v = vs := by
          obtain ⟨hlt, rfl⟩ := List.getElem?_eq_some_iff.1 hv
          exact List.set_getElem_self hlt
        have h2 : st'.fr.set t (V.tup vs) = st'.fr := by
          by_cases ht : t < st'.fr.length
          · have : V.tup vs = st'.fr[t] := by rw [← hvs, ← e, getS_eq (List.getElem?_eq_getElem ht)]
            rw [this]
            exact List.set_getElem_self ht
          · exact List.set_eq_of_length_le (Nat.le_of_not_lt ht)
        rw [hd, h1, h2]
        rfl
      · rfl
    · rfl
  | _ => rfl

theorem dep_loadI {t : TypeId} {x : Operand} (ho : o.op = .load t x) (hk : kindV C f o st = .none) {st' : St} (h : Like o st st') : vopc C vb f o st' = (vval C vb f o st).map (·, st') := by
  have hx := h.peek (x := x) (by simp [ho, Op.operands])
  unfold kindV at hk
  rw [ho] at hk
  dsimp only at hk
  split at hk
  · cases hk
  · split at hk
    · split at hk
      · rcases condB_cases hk with ⟨_, hk⟩ | ⟨_, hk⟩ <;> cases hk
      · cases hk
    · rename_i e off hp
      unfold vopc vval vop
      rw [ho]
      dsimp only
      rw [hx.1, hp]
      split
      · dsimp only
        split
        · split <;> rfl
        · rfl
      · rfl
    · cases hk

theorem like_of (hl : nonlin o st = true) {st' : St} (h : SameOn o st st') : Like o st st' := by
  refine ⟨h, fun x hx => ?_⟩
  unfold nonlin at hl
  rw [List.all_eq_true] at hl
  simpa using hl x hx
theorem nonlin_like {st' : St} (h : Like o st st') : nonlin o st' = true := by
  unfold nonlin
  rw [List.all_eq_true]
  intro x hx
  rw [(h.peek hx).1, h.2 x hx]
  rfl

theorem kind_like {st' : St} (h : Like o st st') (hc : HC (kindV C f o st) st st') : kindV C f o st' = kindV C f o st := by
  have l : Like o st st := ⟨SameOn.refl o st, h.2⟩
  cases ho : o.op with
  | load t x =>
    have hx := h.peek (x := x) (by simp [ho, Op.operands])
    unfold kindV at hc ⊢
    rw [ho] at hc ⊢
    dsimp only at hc ⊢
    rw [hx.1]
    split
    · rfl
    · rename_i htr
      rw [if_neg htr] at hc
      split
      · rename_i id off hp
        rw [hp] at hc
        dsimp only at hc
        split at hc
        · rename_i cs e n hcs hsz
          cases hb : ((cs.drop off).take n).any isLin1 with
          | true => rw [hb, condB_true] at hc; exact hc.elim
          | false =>
            rw [hb, condB_false] at hc
            have hc : st'.h[id]? = st.h[id]? := hc
            rw [hc, hcs, hsz]
            dsimp only
            rw [hb]
        · exact hc.elim
      · rfl
      · rfl
  | store t a x =>
    have hx := h.peek (x := a) (by simp [ho, Op.operands])
    unfold kindV
    rw [ho]
    dsimp only
    rw [hx.1]
  | buildSlice t m parts =>
    have hin : ∀ p ∈ parts.toList, p.2 ∈ o.op.operands.toList := by
      intro p hp
      simp only [ho, Op.operands]
      exact List.mem_map.2 ⟨p, hp, rfl⟩
    have e1 : (parts.toList.map fun p => st'.useV p.2) = parts.toList.map fun p => st.useV p.2 := List.map_congr_left fun p hp => (h.peek (hin p hp)).2.2.2.trans (l.peek (hin p hp)).2.2.2.symm
    unfold kindV
    rw [ho]
    dsimp only
    rw [e1]
  | call c =>
    unfold kindV
    rw [ho]
    dsimp only
    cases hb : c.callee with
    | value g =>
      have hg := h.peek (x := g) (call_fn ho hb)
      have e1 : c.args.toList.map st'.useV = c.args.toList.map st.useV := map_useV (fun z hz => (h.peek (call_args ho hz)).2.2.2.trans (l.peek (call_args ho hz)).2.2.2.symm)
      dsimp only
      rw [hg.1, e1]
    | builtin b =>
      cases b
      case append =>
        dsimp only
        cases hargs : c.args.toList with
        | nil => rfl
        | cons s r =>
          dsimp only
          rw [(h.peek (call_args ho (by rw [hargs]; simp))).1]
      all_goals rfl
    | invoke r m => rfl
  | _ => unfold kindV; rw [ho]

theorem nf_none {v : V} {s : St} (hk : kindV C f o st = .none) (hl : nonlin o st = true) (h : vopc C vb f o st = some (v, s)) (dep : ∀ st', Like o st st' → vopc C vb f o st' = (vval C vb f o st).map (·, st')) :
    ∃ b, s = eff (kindV C f o st) b st ∧ ∀ st2, SameOn o st st2 → HC (kindV C f o st) st st2 → vopc C vb f o st2 = some (v, eff (kindV C f o st) b st2) := by
  rw [hk]
  rw [dep st (like_of hl (SameOn.refl o st))] at h
  obtain ⟨v', hv, e⟩ := Option.map_eq_some_iff.1 h
  cases e
  refine ⟨.dead, rfl, fun st2 hs _ => ?_⟩
  rw [dep st2 (like_of hl hs), hv]
  rfl

theorem nf_load {t : TypeId} {x : Operand} (ho : o.op = .load t x) {v : V} {s : St} {id : Nat} (hk : kindV C f o st = .rd id) (hl : nonlin o st = true) (h : vopc C vb f o st = some (v, s)) :
    ∃ b, s = eff (kindV C f o st) b st ∧ ∀ st2, SameOn o st st2 → HC (kindV C f o st) st st2 → vopc C vb f o st2 = some (v, eff (kindV C f o st) b st2) := by
  rw [hk]
  refine ⟨.dead, ?_⟩
  have hx0 := (like_of hl (SameOn.refl o st)).peek (x := x) (by simp [ho, Op.operands])
  unfold kindV at hk
  rw [ho] at hk
  dsimp only at hk
  split at hk
  · cases hk
  · rename_i htr
    split at hk
    · rename_i id' off hp
      split at hk
      · rename_i cs e n hcs hsz
        rcases condB_cases hk with ⟨_, hk⟩ | ⟨hnl, hk⟩
        · cases hk
        · cases hk
          have hdm : ((cs.drop off).take n).map demote1 = (cs.drop off).take n := map_of (fun _ h => demote1_of h) hnl
          have comp : ∀ st2 : St, st2.peek x = .ptr id off → st2.h[id]? = some (.cells cs e) → vopc C vb f o st2 = (vopc C vb f o st).map fun q => (q.1, st2) := by
            intro st2 h1 h2
            unfold vopc vop
            rw [ho]
            dsimp only
            rw [h1, hp, hsz]
            split
            · rename_i g n' hg hn
              cases hn
              dsimp only
              rw [h2, hcs]
              dsimp only
              split
              · cases hd : o.dst with
                | none => rfl
                | some d =>
                  dsimp only
                  rw [hd] at htr
                  simp only [Option.getD_some] at htr
                  rw [if_neg htr, if_neg htr, hdm, hnl]
                  simp only [condB_false]
                  split <;> rfl
              · rfl
            · rfl
          have h0 := comp st hp hcs
          rw [h] at h0
          simp only [Option.map_some, Option.some.injEq, Prod.mk.injEq, true_and] at h0
          refine ⟨h0, fun st2 hs hc => ?_⟩
          have hc : st2.h[id]? = st.h[id]? := hc
          rw [comp st2 ((hs.peek x (by simp [ho, Op.operands])).trans hp) (hc.trans hcs), h]
          rfl
      · cases hk
    · cases hk
    · cases hk

theorem nf_store {t : TypeId} {p x : Operand} (ho : o.op = .store t p x) {v : V} {s : St} (hk : kindV C f o st ≠ .any) (hl : nonlin o st = true) (h : vopc C vb f o st = some (v, s)) :
    ∃ b, s = eff (kindV C f o st) b st ∧ ∀ st2, SameOn o st st2 → HC (kindV C f o st) st st2 → vopc C vb f o st2 = some (v, eff (kindV C f o st) b st2) := by
  have hkk : kindV C f o st = match st.peek p with | .ptr id _ => .wr id | _ => .any := by unfold kindV; rw [ho]; rfl
  have hx0 := (like_of hl (SameOn.refl o st)).peek (x := x) (by simp [ho, Op.operands])
  have h' := h
  unfold vopc vop at h
  rw [ho] at h
  dsimp only at h
  split at h
  · rename_i n hn
    split at h
    · rename_i id off hp
      rw [hp] at hkk
      dsimp only at hkk
      rw [hkk]
      split at h
      · rename_i cs e hcs
        split at h
        · rename_i hcond
          simp only [Option.some.injEq, Prod.mk.injEq] at h
          obtain ⟨rfl, rfl⟩ := h
          refine ⟨.cells (setAt cs off (st.peek x).cells) e, by rw [hx0.2.2.1]; rfl, fun st2 hs hc => ?_⟩
          have hc : st2.h[id]? = st.h[id]? := hc
          have hx2 := (like_of hl hs).peek (x := x) (by simp [ho, Op.operands])
          have hp2 := (like_of hl hs).peek (x := p) (by simp [ho, Op.operands])
          unfold vopc vop
          rw [ho]
          dsimp only
          rw [hn]
          dsimp only
          rw [hp2.1, hp]
          dsimp only
          rw [hc, hcs]
          dsimp only
          rw [hx2.1, if_pos hcond, hx2.2.2.1]
          rfl
        · cases h
      · cases h
    · cases h
  · cases h

theorem nf_alloc {t : TypeId} (ho : o.op = .alloc t) {v : V} {s : St} (h : vopc C vb f o st = some (v, s)) :
    ∃ b, s = eff (kindV C f o st) b st ∧ ∀ st2, SameOn o st st2 → HC (kindV C f o st) st st2 → vopc C vb f o st2 = some (v, eff (kindV C f o st) b st2) := by
  have hk : kindV C f o st = .al := by unfold kindV; rw [ho]
  rw [hk]
  unfold vopc vop at h ⊢
  rw [ho] at h ⊢
  dsimp only at h ⊢
  split at h
  · rename_i z hz
    split at h
    · rename_i hz2
      simp only [Option.some.injEq, Prod.mk.injEq] at h
      obtain ⟨rfl, rfl⟩ := h
      refine ⟨_, rfl, fun st2 hs hc => ?_⟩
      have hc : st2.h.length = st.h.length := hc
      rw [if_pos hz2, hc]
      rfl
    · cases h
  · cases h
theorem nf_box {t : TypeId} {x : Operand} (ho : o.op = .box t x) {v : V} {s : St} (hl : nonlin o st = true) (h : vopc C vb f o st = some (v, s)) :
    ∃ b, s = eff (kindV C f o st) b st ∧ ∀ st2, SameOn o st st2 → HC (kindV C f o st) st st2 → vopc C vb f o st2 = some (v, eff (kindV C f o st) b st2) := by
  have hk : kindV C f o st = .al := by unfold kindV; rw [ho]
  have hx0 := (like_of hl (SameOn.refl o st)).peek (x := x) (by simp [ho, Op.operands])
  rw [hk]
  unfold vopc vop at h ⊢
  rw [ho] at h ⊢
  dsimp only at h ⊢
  rw [hx0.2.2.1] at h
  split at h
  · rename_i hz2
    simp only [Option.some.injEq, Prod.mk.injEq] at h
    obtain ⟨rfl, rfl⟩ := h
    refine ⟨_, rfl, fun st2 hs hc => ?_⟩
    have hx2 := (like_of hl hs).peek (x := x) (by simp [ho, Op.operands])
    have hc : st2.h.length = st.h.length := hc
    rw [hx2.1, if_pos hz2, hx2.2.2.1, hc]
    rfl
  · cases h
theorem nf_bslice {t : TypeId} {m : Nat} {parts : Array (Nat × Operand)} (ho : o.op = .buildSlice t m parts) {v : V} {s : St} (hl : nonlin o st = true) (h : vopc C vb f o st = some (v, s)) :
    ∃ b, s = eff (kindV C f o st) b st ∧ ∀ st2, SameOn o st st2 → HC (kindV C f o st) st st2 → vopc C vb f o st2 = some (v, eff (kindV C f o st) b st2) := by
  have hkk : kindV C f o st = condB ((parts.toList.map fun p => st.useV p.2).all flat2) .none .al := by unfold kindV; rw [ho]
  cases hf : (parts.toList.map fun p => st.useV p.2).all flat2 with
  | true =>
    rw [hf, condB_true] at hkk
    exact nf_none hkk hl h (fun st' hlk => dep_bslice ho hf hlk)
  | false =>
    rw [hf, condB_false] at hkk
    rw [hkk]
    have hin : ∀ p ∈ parts.toList, p.2 ∈ o.op.operands.toList := by
      intro p hp
      simp only [ho, Op.operands]
      exact List.mem_map.2 ⟨p, hp, rfl⟩
    have l0 := like_of hl (SameOn.refl o st)
    have e2 : ∀ st', Like o st st' → st'.useAll (parts.toList.map (·.2)) = st' := fun st' h => useAll_id (fun z hz => by
      obtain ⟨p, hp, rfl⟩ := List.mem_map.1 hz
      rw [(h.peek (hin p hp)).1]; exact h.2 _ (hin p hp))
    unfold vopc vop at h ⊢
    rw [ho] at h ⊢
    dsimp only at h ⊢
    split at h
    · split at h
      · split at h
        · rename_i hc1
          split at h
          · rename_i hc2
            rw [e2 st l0] at h
            split at h
            · rename_i hc3; rw [hf] at hc3; cases hc3
            · rename_i hc3
              simp only [Option.some.injEq, Prod.mk.injEq] at h
              obtain ⟨rfl, rfl⟩ := h
              refine ⟨_, rfl, fun st2 hs hc => ?_⟩
              have hc : st2.h.length = st.h.length := hc
              have h := like_of hl hs
              have e1 : (parts.toList.map fun p => st2.useV p.2) = parts.toList.map fun p => st.useV p.2 := List.map_congr_left fun p hp => (h.peek (hin p hp)).2.2.2.trans (l0.peek (hin p hp)).2.2.2.symm
              rw [if_pos hc1, e1, if_pos hc2, if_neg hc3, e2 st2 h, hc]
              rfl
          · cases h
        · cases h
      · cases h
    · cases h
theorem nf_make {t : TypeId} {x y : Operand} (ho : o.op = .makeSlice t x y) {v : V} {s : St} (hk : kindV C f o st ≠ .any) (hl : nonlin o st = true) (h : vopc C vb f o st = some (v, s)) :
    ∃ b, s = eff (kindV C f o st) b st ∧ ∀ st2, SameOn o st st2 → HC (kindV C f o st) st st2 → vopc C vb f o st2 = some (v, eff (kindV C f o st) b st2) := by
  by_cases hn : kindV C f o st = .none
  · exact nf_none hn hl h (fun st' hlk => dep_make ho hn hlk)
  · have hkk : kindV C f o st = .al ∧ ∀ z, (elemT C.P t).bind (zeroT C.P) = some z → ¬ (flat2 z = true ∧ (!((C.thaw f).contains (o.dst.getD 0))) = true) := by
      unfold kindV at hn hk ⊢
      rw [ho] at hn hk ⊢
      dsimp only at hn hk ⊢
      split at hn
      · rename_i hth
        rw [if_pos hth]
        exact ⟨rfl, fun z _ hh => by rw [hth] at hh; simp at hh⟩
      · rename_i hth
        rw [if_neg hth] at hk ⊢
        split at hn
        · rename_i z hz
          rw [hz] at hk ⊢
          dsimp only at hk ⊢
          split at hn
          · exact absurd rfl hn
          · rename_i hfl
            rw [if_neg hfl] at hk ⊢
            exact ⟨rfl, fun z' hz' hh => by cases hz'; exact hfl hh.1⟩
        · rename_i hz
          rw [hz] at hk
          exact absurd rfl hk
    obtain ⟨hkk, hnf⟩ := hkk
    rw [hkk]
    have hx0 := (like_of hl (SameOn.refl o st)).peek (x := x) (by simp [ho, Op.operands])
    unfold vopc vop at h ⊢
    rw [ho] at h ⊢
    dsimp only at h ⊢
    split at h
    · rename_i e he
      split at h
      · rename_i sz by_ z k1 n k2 m hsz hby hz hpx hpy
        rcases condB_cases h with ⟨hcond, h⟩ | ⟨_, h⟩
        · have hnf := hnf z (by rw [he]; exact hz)
          rw [if_neg hnf] at h
          simp only [Option.some.injEq, Prod.mk.injEq] at h
          obtain ⟨rfl, rfl⟩ := h
          refine ⟨_, rfl, fun st2 hs hc => ?_⟩
          have hc : st2.h.length = st.h.length := hc
          have hx2 := (like_of hl hs).peek (x := x) (by simp [ho, Op.operands])
          have hy2 := (like_of hl hs).peek (x := y) (by simp [ho, Op.operands])
          rw [hsz, hby, hz, hx2.1, hy2.1, hpx, hpy]
          dsimp only
          rw [hcond, condB_true, if_neg hnf, hc]
          rfl
        · cases h
      · cases h
    · cases h
theorem nf_call {c : Call} {g : Operand} (ho : o.op = .call c) (hb : c.callee = .value g) {v : V} {s : St} (hk : kindV C f o st ≠ .any) (hl : nonlin o st = true) (h : vopc C vb f o st = some (v, s)) :
    ∃ b, s = eff (kindV C f o st) b st ∧ ∀ st2, SameOn o st st2 → HC (kindV C f o st) st st2 → vopc C vb f o st2 = some (v, eff (kindV C f o st) b st2) := by
  by_cases hn : kindV C f o st = .none
  · exact nf_none hn hl h (fun st' hlk => dep_call ho hb hn hlk)
  · have l0 := like_of hl (SameOn.refl o st)
    have e2 : ∀ st', Like o st st' → st'.useAll c.args.toList = st' := fun st' h => useAll_id (fun z hz => by rw [(h.peek (call_args ho hz)).1]; exact h.2 _ (call_args ho hz))
    have hkk : ∃ gf first caps d, st.peek g = .fn (.func gf) first caps ∧ ((first ++ c.args.toList.map st.useV ++ caps).all flat2) = true ∧ o.dst = some d ∧ (C.thaw f).contains d = true ∧ kindV C f o st = .al := by
      cases hkd : kindV C f o st with
      | none => exact absurd hkd hn
      | any => exact absurd hkd hk
      | rd id =>
        exfalso
        unfold kindV at hkd; rw [ho] at hkd; dsimp only at hkd; rw [hb] at hkd; dsimp only at hkd
        split at hkd
        · rcases condB_cases hkd with ⟨_, hkd⟩ | ⟨_, hkd⟩
          · split at hkd
            · split at hkd <;> cases hkd
            · cases hkd
          · cases hkd
        · cases hkd
      | wr id =>
        exfalso
        unfold kindV at hkd; rw [ho] at hkd; dsimp only at hkd; rw [hb] at hkd; dsimp only at hkd
        split at hkd
        · rcases condB_cases hkd with ⟨_, hkd⟩ | ⟨_, hkd⟩
          · split at hkd
            · split at hkd <;> cases hkd
            · cases hkd
          · cases hkd
        · cases hkd
      | al =>
        unfold kindV at hkd; rw [ho] at hkd; dsimp only at hkd; rw [hb] at hkd; dsimp only at hkd
        split at hkd
        · rename_i gf first caps hg
          rcases condB_cases hkd with ⟨hfl, hkd⟩ | ⟨_, hkd⟩
          · split at hkd
            · rename_i d hd
              split at hkd
              · rename_i hth
                exact ⟨gf, first, caps, d, hg, hfl, hd, hth, rfl⟩
              · cases hkd
            · cases hkd
          · cases hkd
        · cases hkd
    obtain ⟨gf, first, caps, d, hg, hfl, hd, hth', hkk⟩ := hkk
    rw [hkk]
    unfold vopc vop at h ⊢
    rw [ho] at h ⊢
    dsimp only at h ⊢
    rw [hb] at h ⊢
    dsimp only at h ⊢
    rw [hg] at h
    dsimp only at h
    rw [if_pos hfl] at h
    obtain ⟨r, hr, h⟩ := bindO_eq h
    cases r with
    | pan v hh => cases h
    | ret v' hh =>
      dsimp only at h
      rw [hd] at h
      dsimp only at h
      rw [if_pos hth', e2 st l0] at h
      split at h
      · rename_i v2 h2 hth2
        rcases condB_cases h with ⟨_, h⟩ | ⟨hfree, h⟩
        · cases h
        · simp only [Option.some.injEq, Prod.mk.injEq] at h
          obtain ⟨rfl, rfl⟩ := h
          unfold thaw1 at hth2
          split at hth2
          · rename_i e' n' xs
            split at hth2
            · rename_i hty
              simp only [Option.some.injEq, Prod.mk.injEq] at hth2
              obtain ⟨rfl, rfl⟩ := hth2
              refine ⟨_, rfl, fun st2 hs hc => ?_⟩
              have hc : st2.h.length = st.h.length := hc
              have l2 := like_of hl hs
              have hg2 := (l2.peek (call_fn ho hb)).1
              have e1 : c.args.toList.map st2.useV = c.args.toList.map st.useV := map_useV (fun z hz => (l2.peek (call_args ho hz)).2.2.2.trans (l0.peek (call_args ho hz)).2.2.2.symm)
              rw [hg2, hg]
              dsimp only
              rw [e1, if_pos hfl, hr, bindO_some]
              dsimp only
              rw [hd]
              dsimp only
              rw [if_pos hth', e2 st2 l2]
              unfold thaw1
              dsimp only
              rw [if_pos hty]
              dsimp only
              rw [hs.dst d hd, hfree, condB_false, hc]
              rfl
            · cases hth2
          · cases hth2
      · cases h

/-- The normal form. -/
theorem nf {v : V} {s : St} (hk : kindV C f o st ≠ .any) (hl : nonlin o st = true) (h : vopc C vb f o st = some (v, s)) :
    ∃ b, s = eff (kindV C f o st) b st ∧ ∀ st2, SameOn o st st2 → HC (kindV C f o st) st st2 → vopc C vb f o st2 = some (v, eff (kindV C f o st) b st2) := by
  have kn : ∀ {K : Kd}, kindV C f o st = K → K = .none → kindV C f o st = .none := fun h e => h.trans e
  cases ho : o.op with
  | move x => exact nf_none (by unfold kindV; rw [ho]) hl h (fun _ hlk => dep_move ho hlk)
  | assign x => exact nf_none (by unfold kindV; rw [ho]) hl h (fun _ hlk => dep_assign ho hlk)
  | pick c x y => exact nf_none (by unfold kindV; rw [ho]) hl h (fun _ hlk => dep_pick ho hlk)
  | nilCheck x => exact nf_none (by unfold kindV; rw [ho]) hl h (fun _ hlk => dep_nilCheck ho hlk)
  | binOp op t x y t' => exact nf_none (by unfold kindV; rw [ho]) hl h (fun _ hlk => dep_binOp ho hlk)
  | unOp op t x => exact nf_none (by unfold kindV; rw [ho]) hl h (fun _ hlk => dep_unOp ho hlk)
  | convert s t x => exact nf_none (by unfold kindV; rw [ho]) hl h (fun _ hlk => dep_convert ho hlk)
  | makeFunc g x y => exact nf_none (by unfold kindV; rw [ho]) hl h (fun _ hlk => dep_makeFunc ho hlk)
  | slice t x l m c => exact nf_none (by unfold kindV; rw [ho]) hl h (fun _ hlk => dep_slice ho hlk)
  | fieldAddr s x j => exact nf_none (by unfold kindV; rw [ho]) hl h (fun _ hlk => dep_fieldAddr ho hlk)
  | field s x j => exact nf_none (by unfold kindV; rw [ho]) hl h (fun _ hlk => dep_field ho hlk)
  | indexAddr t x i => exact nf_none (by unfold kindV; rw [ho]) hl h (fun _ hlk => dep_indexAddr ho hlk)
  | index t x i => exact nf_none (by unfold kindV; rw [ho]) hl h (fun _ hlk => dep_index ho hlk)
  | build t p => exact nf_none (by unfold kindV; rw [ho]) hl h (fun _ hlk => dep_build ho hlk)
  | extract x i => exact nf_none (by unfold kindV; rw [ho]) hl h (fun _ hlk => dep_extract ho hlk)
  | alloc t => exact nf_alloc ho h
  | box t x => exact nf_box ho hl h
  | buildSlice t m p => exact nf_bslice ho hl h
  | makeSlice t x y => exact nf_make ho hk hl h
  | store t p x => exact nf_store ho hk hl h
  | load t x =>
    cases hkk : kindV C f o st with
    | none => rw [← hkk]; exact nf_none hkk hl h (fun _ hlk => dep_loadI ho hkk hlk)
    | rd id => rw [← hkk]; exact nf_load ho hkk hl h
    | wr id => exfalso; unfold kindV at hkk; rw [ho] at hkk; dsimp only at hkk; split at hkk
               · cases hkk
               · split at hkk
                 · split at hkk
                   · rcases condB_cases hkk with ⟨_, hkk⟩ | ⟨_, hkk⟩ <;> cases hkk
                   · cases hkk
                 · cases hkk
                 · cases hkk
    | al => exfalso; unfold kindV at hkk; rw [ho] at hkk; dsimp only at hkk; split at hkk
            · cases hkk
            · split at hkk
              · split at hkk
                · rcases condB_cases hkk with ⟨_, hkk⟩ | ⟨_, hkk⟩ <;> cases hkk
                · cases hkk
              · cases hkk
              · cases hkk
    | any => exact absurd hkk hk
  | call c =>
    cases hb : c.callee with
    | value g => exact nf_call ho hb hk hl h
    | invoke r m => exfalso; apply hk; unfold kindV; rw [ho]; dsimp only; rw [hb]
    | builtin b =>
      cases b <;> first
        | exact nf_none (by unfold kindV; rw [ho]; dsimp only; rw [hb]) hl h (fun _ hlk => dep_len ho hb hlk)
        | (exfalso; apply hk; unfold kindV; rw [ho]; dsimp only; rw [hb]; done)
        | (have hk0 : kindV C f o st = .none := by
             unfold kindV at hk ⊢
             rw [ho] at hk ⊢
             dsimp only at hk ⊢
             rw [hb] at hk ⊢
             dsimp only at hk ⊢
             split
             · rename_i s r hs
               rw [hs] at hk
               dsimp only at hk
               split
               · rename_i hp
                 rw [hp] at hk
                 exact absurd rfl hk
               · rename_i hno
                 split
                 · rfl
                 · rename_i hd
                   exfalso; apply hk
                   split
                   · rfl
                   · rw [if_neg hd]
             · rename_i hno
               exfalso; apply hk
               split
               · rename_i s r hs; exact absurd hs (hno s r)
               · rfl
           exact nf_none hk0 hl h (fun _ hlk => dep_append ho hb hk0 hlk))
  | _ => exfalso; apply hk; unfold kindV; rw [ho]
end
end Go.Fw
/- Regions whose order is drawn (2b): operations that take what grows. -/
namespace Go.Fw
open Go.RowKit

def setAll (T : List (Nat × V)) (fr : List V) : List V := T.foldl (fun fr p => fr.set p.1 p.2) fr
theorem setAll_nil (fr : List V) : setAll [] fr = fr := rfl
theorem setAll_cons (p : Nat × V) (T : List (Nat × V)) (fr : List V) : setAll (p :: T) fr = setAll T (fr.set p.1 p.2) := rfl
theorem setAll_append (T U : List (Nat × V)) (fr : List V) : setAll (T ++ U) fr = setAll U (setAll T fr) := List.foldl_append
theorem setAll_set {d : Nat} {v : V} : ∀ {T : List (Nat × V)} {fr : List V}, (∀ p ∈ T, p.1 ≠ d) → setAll T (fr.set d v) = (setAll T fr).set d v
  | [], _, _ => rfl
  | p :: T, fr, h => by
    rw [setAll_cons, setAll_cons, ← setAll_set (fun q hq => h q (by simp [hq])), List.set_comm _ _ (h p (by simp)).symm]
theorem setAll_comm {U : List (Nat × V)} : ∀ {T : List (Nat × V)} {fr : List V}, (∀ p ∈ T, ∀ q ∈ U, p.1 ≠ q.1) → setAll T (setAll U fr) = setAll U (setAll T fr)
  | [], _, _ => rfl
  | p :: T, fr, h => by
    rw [setAll_cons, setAll_cons, ← setAll_set (T := U) (fun q hq e => h p (by simp) q hq e.symm), setAll_comm (fun a ha b hb => h a (by simp [ha]) b hb)]
theorem getS_setAll {t : Nat} : ∀ {T : List (Nat × V)} {fr : List V}, (∀ p ∈ T, p.1 ≠ t) → getS (setAll T fr) t = getS fr t
  | [], _, _ => rfl
  | p :: T, fr, h => by
    rw [setAll_cons, getS_setAll (fun q hq => h q (by simp [hq]))]
    unfold getS
    rw [List.getD_eq_getElem?_getD, List.getD_eq_getElem?_getD, List.getElem?_set_ne (h p (by simp))]

def upd (T : List (Nat × V)) (st : St) : St := { st with fr := setAll T st.fr }
theorem upd_nil (st : St) : upd [] st = st := rfl
theorem upd_upd (T U : List (Nat × V)) (st : St) : upd U (upd T st) = upd (T ++ U) st := by unfold upd; rw [setAll_append]

/-- What taking an operand does to the slots. -/
def takeL (st : St) (x : Operand) : List (Nat × V) := match x with
  | .tmp t => condB (isLin3 (getS st.fr t)) [(t, map3 drop1 (getS st.fr t))] []
  | _ => []
def useL (st : St) (x : Operand) : List (Nat × V) := match x with
  | .tmp t => condB (isLin3 (getS st.fr t)) [(t, map3 mark1 (getS st.fr t))] []
  | _ => []
theorem takeS_upd {st st2 : St} {x : Operand} (h : st2.peek x = st.peek x) : st2.takeS x = upd (takeL st x) st2 := by
  cases x with
  | tmp t =>
    have h : getS st2.fr t = getS st.fr t := h
    unfold St.takeS takeL
    dsimp only
    rw [h]
    cases isLin3 (getS st.fr t)
    · rw [condB_false, condB_false]; rfl
    · rw [condB_true, condB_true]; rfl
  | _ => rfl
theorem useS_upd {st st2 : St} {x : Operand} (h : st2.peek x = st.peek x) : st2.useS x = upd (useL st x) st2 := by
  cases x with
  | tmp t =>
    have h : getS st2.fr t = getS st.fr t := h
    unfold St.useS useL
    dsimp only
    rw [h]
    cases isLin3 (getS st.fr t)
    · rw [condB_false, condB_false]; rfl
    · rw [condB_true, condB_true]; rfl
  | _ => rfl
theorem takeL_mem {st : St} {x : Operand} {p : Nat × V} (h : p ∈ takeL st x) : x = .tmp p.1 ∧ isLin3 (st.peek x) = true := by
  cases x with
  | tmp t =>
    unfold takeL at h
    dsimp only at h
    cases hl : isLin3 (getS st.fr t) with
    | false => rw [hl, condB_false] at h; simp at h
    | true =>
      rw [hl, condB_true] at h
      simp only [List.mem_singleton] at h
      subst h
      exact ⟨rfl, hl⟩
  | _ => simp [takeL] at h
theorem useL_mem {st : St} {x : Operand} {p : Nat × V} (h : p ∈ useL st x) : x = .tmp p.1 ∧ isLin3 (st.peek x) = true := by
  cases x with
  | tmp t =>
    unfold useL at h
    dsimp only at h
    cases hl : isLin3 (getS st.fr t) with
    | false => rw [hl, condB_false] at h; simp at h
    | true =>
      rw [hl, condB_true] at h
      simp only [List.mem_singleton] at h
      subst h
      exact ⟨rfl, hl⟩
  | _ => simp [useL] at h

theorem lin_lt {fr : List V} {t : Nat} (h : isLin3 (getS fr t) = true) : t < fr.length := by
  apply Classical.byContradiction
  intro hn
  unfold getS at h
  rw [List.getD_eq_getElem?_getD, List.getElem?_eq_none (by omega)] at h
  cases h

theorem same_upd {st st2 : St} {x : Operand} : ∀ {T : List (Nat × V)} {a b : List V}, (∀ p ∈ T, p.1 < a.length ∧ p.1 < b.length) → ∀ {t : Nat}, getS b t = getS a t → getS (setAll T b) t = getS (setAll T a) t
  | [], _, _, _, _, h => h
  | p :: T, a, b, hT, t, h0 => by
    rw [setAll_cons, setAll_cons]
    refine same_upd (st := st) (st2 := st2) (x := x) (fun q hq => by simpa using hT q (by simp [hq])) ?_
    unfold getS at h0 ⊢
    rw [List.getD_eq_getElem?_getD, List.getD_eq_getElem?_getD] at h0 ⊢
    by_cases hp : p.1 = t
    · subst hp
      rw [List.getElem?_set_self (hT p (by simp)).2, List.getElem?_set_self (hT p (by simp)).1]
    · rw [List.getElem?_set_ne hp, List.getElem?_set_ne hp]
      exact h0

theorem lin_back {st : St} {x : Operand} {L : List (Nat × V)} (hL : L = [] ∨ ∃ t v, L = [(t, v)] ∧ isLin3 (getS st.fr t) = true) {t : Nat} (h : isLin3 (getS (upd L st).fr t) = true) : isLin3 (getS st.fr t) = true := by
  rcases hL with rfl | ⟨t0, v, rfl, h0⟩
  · exact h
  · by_cases e : t0 = t
    · exact e ▸ h0
    · have := getS_setAll (t := t) (T := [(t0, v)]) (fr := st.fr) (by simpa using e)
      unfold upd at h
      rw [this] at h
      exact h
theorem takeL_form (st : St) (x : Operand) : takeL st x = [] ∨ ∃ t v, takeL st x = [(t, v)] ∧ isLin3 (getS st.fr t) = true := by
  cases x with
  | tmp t =>
    unfold takeL
    dsimp only
    cases hl : isLin3 (getS st.fr t) with
    | false => rw [condB_false]; exact .inl rfl
    | true => rw [condB_true]; exact .inr ⟨_, _, rfl, hl⟩
  | _ => exact .inl rfl
theorem useL_form (st : St) (x : Operand) : useL st x = [] ∨ ∃ t v, useL st x = [(t, v)] ∧ isLin3 (getS st.fr t) = true := by
  cases x with
  | tmp t =>
    unfold useL
    dsimp only
    cases hl : isLin3 (getS st.fr t) with
    | false => rw [condB_false]; exact .inl rfl
    | true => rw [condB_true]; exact .inr ⟨_, _, rfl, hl⟩
  | _ => exact .inl rfl
theorem takeL_rng {st st2 : St} {x : Operand} (hx : st2.peek x = st.peek x) : ∀ p ∈ takeL st x, p.1 < st.fr.length ∧ p.1 < st2.fr.length := by
  intro p hp
  obtain ⟨e, h⟩ := takeL_mem hp
  have h2 := h
  rw [← hx] at h2
  rw [e] at h h2
  exact ⟨lin_lt h, lin_lt h2⟩
theorem useL_rng {st st2 : St} {x : Operand} (hx : st2.peek x = st.peek x) : ∀ p ∈ useL st x, p.1 < st.fr.length ∧ p.1 < st2.fr.length := by
  intro p hp
  obtain ⟨e, h⟩ := useL_mem hp
  have h2 := h
  rw [← hx] at h2
  rw [e] at h h2
  exact ⟨lin_lt h, lin_lt h2⟩
theorem peek_updL {st st2 : St} {L : List (Nat × V)} {y : Operand} (hL : ∀ p ∈ L, p.1 < st.fr.length ∧ p.1 < st2.fr.length) (hy : st2.peek y = st.peek y) : (upd L st2).peek y = (upd L st).peek y := by
  cases y with
  | tmp t => exact same_upd (st := st) (st2 := st2) (x := .tmp t) hL hy
  | _ => rfl
theorem peek_upd {st st2 : St} {x : Operand} {y : Operand} (hx : st2.peek x = st.peek x) (hy : st2.peek y = st.peek y) : (upd (takeL st x) st2).peek y = (upd (takeL st x) st).peek y := peek_updL (takeL_rng hx) hy

theorem buildV_takes {P : Program} {t : TypeId} : ∀ {parts : List (Nat × Operand)} {cs : List V} {st : St} {q : List V × St}, buildV P t st cs parts = some q →
    ∃ T : List (Nat × V), q.2 = upd T st ∧ (∀ p ∈ T, Operand.tmp p.1 ∈ parts.map (·.2) ∧ isLin3 (getS st.fr p.1) = true) ∧ ∀ st2 : St, (∀ p ∈ parts, st2.peek p.2 = st.peek p.2) → buildV P t st2 cs parts = some (q.1, upd T st2)
  | [], cs, st, q, h => by
    unfold buildV at h
    cases h
    exact ⟨[], rfl, by simp, fun st2 _ => rfl⟩
  | (i, x) :: r, cs, st, q, h => by
    unfold buildV at h
    split at h
    · rename_i g hg
      split at h
      · rename_i n hn
        split at h
        · rename_i hc
          obtain ⟨T, h1, h2, h3⟩ := buildV_takes h
          have e0 := takeS_upd (st := st) (st2 := st) (x := x) rfl
          rw [e0] at h1 h2
          refine ⟨takeL st x ++ T, by rw [h1, upd_upd], fun p hp => ?_, fun st2 hs => ?_⟩
          · rcases List.mem_append.1 hp with hp | hp
            · obtain ⟨e, hl⟩ := takeL_mem hp
              rw [e] at hl
              exact ⟨by simp [e], hl⟩
            · have := h2 p hp
              exact ⟨by simp only [List.map_cons, List.mem_cons]; exact .inr this.1, lin_back (x := x) (takeL_form st x) this.2⟩
          · have hx := hs (i, x) (by simp)
            dsimp only at hx
            unfold buildV
            rw [hg]
            dsimp only
            rw [hn]
            dsimp only
            rw [hx, if_pos hc, takeS_upd hx, ← upd_upd]
            refine h3 _ (fun p hp => ?_)
            rw [e0]
            exact peek_upd hx (hs p (by simp [hp]))
        · cases h
      · cases h
    · cases h

section
variable {C : Cx} {vb : FuncId → List V → List Blk → Option FOut} {f : FuncId} {o : Oper} {st : St}

/-- The normal form of an operation that takes. -/
def NFT (C : Cx) (vb : FuncId → List V → List Blk → Option FOut) (f : FuncId) (o : Oper) (st : St) (v : V) (s : St) : Prop :=
  ∃ (b : Blk) (T : List (Nat × V)), s = eff (kindV C f o st) b (upd T st) ∧ (∀ p ∈ T, Operand.tmp p.1 ∈ o.op.operands.toList ∧ isLin3 (getS st.fr p.1) = true) ∧
    ∀ st2, SameOn o st st2 → HC (kindV C f o st) st st2 → vopc C vb f o st2 = some (v, eff (kindV C f o st) b (upd T st2)) ∧ kindV C f o st2 = kindV C f o st

theorem nft_build {t : TypeId} {parts : Array (Nat × Operand)} (ho : o.op = .build t parts) {v : V} {s : St} (h : vopc C vb f o st = some (v, s)) : NFT C vb f o st v s := by
  have hk : ∀ st, kindV C f o st = .none := fun st => by unfold kindV; rw [ho]
  unfold NFT
  rw [hk]
  unfold vopc vop at h ⊢
  rw [ho] at h ⊢
  dsimp only at h ⊢
  split at h
  · rename_i zs hz
    split at h
    · rename_i hc
      split at h
      · rename_i cs st' hb
        cases h
        obtain ⟨T, h1, h2, h3⟩ := buildV_takes hb
        refine ⟨.dead, T, h1, fun p hp => ⟨?_, (h2 p hp).2⟩, fun st2 hs _ => ?_⟩
        · simp only [Op.operands]
          have := (h2 p hp).1
          simpa using this
        · have := h3 st2 (fun p hp => hs.peek p.2 (by simp only [ho, Op.operands]; exact List.mem_map.2 ⟨p, hp, rfl⟩))
          rw [if_pos hc, this, hk]
          exact ⟨rfl, rfl⟩
      · cases h
    · cases h
  · cases h

theorem nft_store {t : TypeId} {a x : Operand} (ho : o.op = .store t a x) {v : V} {s : St} (h : vopc C vb f o st = some (v, s)) : NFT C vb f o st v s := by
  have ha : a ∈ o.op.operands.toList := by simp [ho, Op.operands]
  have hx : x ∈ o.op.operands.toList := by simp [ho, Op.operands]
  have hks : ∀ st2, SameOn o st st2 → kindV C f o st2 = kindV C f o st := fun st2 hs => by unfold kindV; rw [ho]; dsimp only; rw [hs.peek a ha]
  unfold NFT
  have hkd : kindV C f o st = match st.peek a with | .ptr id _ => .wr id | _ => .any := by unfold kindV; rw [ho]; rfl
  unfold vopc vop at h
  rw [ho] at h
  dsimp only at h
  split at h
  · rename_i n hn
    split at h
    · rename_i id off hp
      split at h
      · rename_i cs e hcs
        split at h
        · rename_i hc
          cases h
          rw [hp] at hkd
          dsimp only at hkd
          refine ⟨.cells (setAt cs off (st.peek x).cells) e, takeL st x, ?_, fun p hp => ?_, fun st2 hs hcc => ⟨?_, hks st2 hs⟩⟩
          · rw [hkd, takeS_upd (st := st) rfl]
            rfl
          · obtain ⟨e1, hl⟩ := takeL_mem hp
            rw [e1] at hl
            exact ⟨e1 ▸ hx, hl⟩
          · rw [hkd] at hcc ⊢
            have hcc : st2.h[id]? = st.h[id]? := hcc
            unfold vopc vop
            rw [ho]
            dsimp only
            rw [hn]
            dsimp only
            rw [hs.peek a ha, hp]
            dsimp only
            rw [hcc, hcs]
            dsimp only
            rw [hs.peek x hx, if_pos hc, takeS_upd (hs.peek x hx)]
            rfl
        · cases h
      · cases h
    · cases h
  · cases h
theorem nft_append {c : Call} (ho : o.op = .call c) (hb : c.callee = .builtin .append) {v : V} {s : St} (hk : kindV C f o st ≠ .any) (h : vopc C vb f o st = some (v, s)) : NFT C vb f o st v s := by
  have hkk : ∃ d sl r, o.dst = some d ∧ c.args.toList = sl :: r ∧ (∀ i j l r, st.peek sl ≠ .own i j l r) := by
    unfold kindV at hk
    rw [ho] at hk
    dsimp only at hk
    rw [hb] at hk
    dsimp only at hk
    split at hk
    · rename_i s r hs
      split at hk
      · exact absurd rfl hk
      · rename_i hno
        split at hk
        · rename_i hd
          obtain ⟨d, hd⟩ := Option.isSome_iff_exists.1 hd
          exact ⟨d, s, r, hd, hs, fun i j l r e => hno i j l r e⟩
        · exact absurd rfl hk
    · exact absurd rfl hk
  obtain ⟨d, sl, r, hd, hsl, hno⟩ := hkk
  have hsin : sl ∈ o.op.operands.toList := call_args ho (by rw [hsl]; simp)
  have hks : ∀ st2 : St, st2.peek sl = st.peek sl → kindV C f o st2 = .none := by
    intro st2 e
    unfold kindV
    rw [ho]
    dsimp only
    rw [hb]
    dsimp only
    rw [hsl]
    dsimp only
    rw [e]
    split
    · rename_i hp
      exact absurd hp (hno _ _ _ _)
    · rw [hd]; rfl
  unfold NFT
  rw [hks st rfl]
  unfold vopc vop at h
  rw [ho] at h
  dsimp only at h
  rw [hb] at h
  dsimp only at h
  rw [hsl] at h
  split at h
  · rename_i s0 x t tx hsx htt
    injection hsx with h1 h2
    subst h1 h2
    have hxin : x ∈ o.op.operands.toList := call_args ho (by rw [hsl]; simp)
    split at h
    · rename_i e et he het
      split at h
      · rename_i hp
        exact absurd hp (hno _ _ _ _)
      split at h
      · rename_i by_ sz z m ys hby hsz hz hel
        split at h
        · rename_i hc
          split at h
          · rename_i n v' hva
            rcases condB_cases h with ⟨hcc, h⟩ | ⟨_, h⟩
            · cases h
              have e1 : st.useS x = upd (useL st x) st := useS_upd rfl
              have e2 : (upd (useL st x) st).takeS sl = upd (takeL (upd (useL st x) st) sl) (upd (useL st x) st) := takeS_upd rfl
              rw [e1] at hva hcc ⊢
              rw [e2] at hcc ⊢
              rw [upd_upd] at hcc ⊢
              refine ⟨.dead, _, rfl, fun p hp => ?_, fun st2 hs _ => ⟨?_, hks st2 (hs.peek sl hsin)⟩⟩
              · rcases List.mem_append.1 hp with hp | hp
                · obtain ⟨e, hl⟩ := useL_mem hp
                  rw [e] at hl
                  exact ⟨e ▸ hxin, hl⟩
                · obtain ⟨e, hl⟩ := takeL_mem hp
                  rw [e] at hl
                  exact ⟨e ▸ hsin, lin_back (x := x) (useL_form st x) hl⟩
              · have hx := hs.peek x hxin
                have hsp := hs.peek sl hsin
                have hs1 : (upd (useL st x) st2).peek sl = (upd (useL st x) st).peek sl := peek_updL (useL_rng hx) hsp
                have hdst : getS (upd (useL st x ++ takeL (upd (useL st x) st) sl) st2).fr d = getS (upd (useL st x ++ takeL (upd (useL st x) st) sl) st).fr d := by
                  rw [← upd_upd, ← upd_upd]
                  refine same_upd (st := st) (st2 := st2) (x := x) (takeL_rng hs1) ?_
                  exact same_upd (st := st) (st2 := st2) (x := x) (useL_rng hx) (hs.dst d hd)
                unfold vopc vop
                rw [ho]
                dsimp only
                rw [hb]
                dsimp only
                rw [hsl, htt]
                dsimp only
                rw [he, het]
                dsimp only
                rw [hsp]
                split
                · rename_i hp
                  exact absurd hp (hno _ _ _ _)
                rw [hby, hsz, hz, hx, hel]
                dsimp only
                rw [if_pos hc, useS_upd hx, hs1, hva]
                dsimp only
                rw [takeS_upd hs1, upd_upd, hd, Option.getD_some, hdst]
                rw [hd, Option.getD_some] at hcc
                rw [hcc, condB_true]
                rfl
            · cases h
          · cases h
        · cases h
      · cases h
    · cases h
  · cases h

theorem calm_same {un : List Nat} {ops : List Oper} {i : Nat} {st2 : St} (hs : SameOn o st st2) (h : calm un ops i o st = true) : calm un ops i o st2 = true := by
  unfold calm nonlin at h ⊢
  have e : ∀ x ∈ o.op.operands.toList, isLin3 (st2.peek x) = isLin3 (st.peek x) := fun x hx => by rw [hs.peek x hx]
  rw [Bool.or_eq_true, Bool.and_eq_true, List.all_eq_true, List.all_eq_true] at h ⊢
  rcases h with h | ⟨h1, h2⟩
  · exact .inl fun x hx => by rw [e x hx]; exact h x hx
  · exact .inr ⟨h1, fun x hx => by rw [e x hx]; exact h2 x hx⟩

/-- The normal form. -/
theorem nft {un : List Nat} {ops : List Oper} {i : Nat} {v : V} {s : St} (hk : kindV C f o st ≠ .any) (hl : calm un ops i o st = true) (h : vopc C vb f o st = some (v, s)) :
    ∃ (b : Blk) (T : List (Nat × V)), s = eff (kindV C f o st) b (upd T st) ∧ (∀ p ∈ T, Operand.tmp p.1 ∈ o.op.operands.toList ∧ freeTmp un ops i (.tmp p.1) = true) ∧
      ∀ st2, SameOn o st st2 → HC (kindV C f o st) st st2 → vopc C vb f o st2 = some (v, eff (kindV C f o st) b (upd T st2)) ∧ kindV C f o st2 = kindV C f o st := by
  have hl' := hl
  unfold calm at hl'
  rw [Bool.or_eq_true, Bool.and_eq_true] at hl'
  rcases hl' with hn | ⟨ht, hf⟩
  · obtain ⟨b, h1, h2⟩ := nf hk hn h
    exact ⟨b, [], h1, by simp, fun st2 hs hc => ⟨h2 st2 hs hc, kind_like (like_of hn hs) hc⟩⟩
  · have hN : NFT C vb f o st v s := by
      cases ho : o.op with
      | build t p => exact nft_build ho h
      | store t a x => exact nft_store ho h
      | call c =>
        rw [ho] at ht
        unfold takesOp at ht
        dsimp only at ht
        split at ht
        · rename_i hb
          exact nft_append ho hb hk h
        · cases ht
      | _ => rw [ho] at ht; cases ht
    obtain ⟨b, T, h1, h2, h3⟩ := hN
    refine ⟨b, T, h1, fun p hp => ⟨(h2 p hp).1, ?_⟩, h3⟩
    rw [List.all_eq_true] at hf
    have := hf _ (h2 p hp).1
    rw [Bool.or_eq_true] at this
    rcases this with h | h
    · have h4 : isLin3 (st.peek (.tmp p.1)) = true := (h2 p hp).2
      rw [h4] at h; cases h
    · exact h
end
end Go.Fw
/- Regions whose order is drawn (3): any order that is allowed comes to what the text's order comes to. -/
namespace Go.Fw
open Go.RowKit

theorem getS_set {fr : List V} {d t : Nat} {v : V} (h : d ≠ t) : getS (fr.set d v) t = getS fr t := by
  unfold getS
  rw [List.getD_eq_getElem?_getD, List.getD_eq_getElem?_getD, List.getElem?_set_ne h]

section
variable {C : Cx} {vb : Nat → FuncId → List V → List Blk → Option FOut} {f : FuncId} {ops : Array Oper} {un : List Nat} {h0 : Nat} {A : Nat → Kd}

def Step (C : Cx) (vb : Nat → FuncId → List V → List Blk → Option FOut) (f : FuncId) (ops : Array Oper) (un : List Nat) (h0 : Nat) (A : Nat → Kd) (i : Nat) (st st' : St) : Prop :=
  ∃ o, ops[i]? = some o ∧ (involved un i = true → h0 ≤ st.h.length) ∧
    ((guardV ops.toList o st = some false ∧ (involved un i = true → A i = .none) ∧ st' = put st o.dst (.tup [])) ∨
     (guardV ops.toList o st = some true ∧ (involved un i = true → calm un ops.toList i o st = true ∧ kindV C f o st = A i) ∧ ∃ v s, vopc C (vb i) f o st = some (v, s) ∧ st' = put s o.dst v))
def Run (C : Cx) (vb : Nat → FuncId → List V → List Blk → Option FOut) (f : FuncId) (ops : Array Oper) (un : List Nat) (h0 : Nat) (A : Nat → Kd) : List Nat → St → St → Prop
  | [], st, st' => st = st'
  | i :: r, st, st' => ∃ s, Step C vb f ops un h0 A i st s ∧ Run C vb f ops un h0 A r s st'

structure Looks (ops : Array Oper) (o : Oper) (st st2 : St) : Prop where
  at_ : ∀ t, t ∈ o.looksAt ops → getS st2.fr t = getS st.fr t
  dst : ∀ d, o.dst = some d → getS st2.fr d = getS st.fr d
theorem Looks.same {o : Oper} {st st2 : St} (h : Looks ops o st st2) : SameOn o st st2 := by
  refine ⟨fun x hx => ?_, h.dst⟩
  cases x with
  | tmp t =>
    refine h.at_ t ?_
    unfold Oper.looksAt
    exact List.mem_append_left _ (List.mem_filterMap.2 ⟨.tmp t, hx, rfl⟩)
  | _ => rfl
theorem Looks.guard {o : Oper} {st st2 : St} (h : Looks ops o st st2) : guardV ops.toList o st2 = guardV ops.toList o st := by
  unfold guardV
  cases hg : o.guard with
  | none => rfl
  | some p =>
    obtain ⟨j, want⟩ := p
    dsimp only
    unfold wantedV
    rw [Array.getElem?_toList]
    cases hd : (ops[j]?).bind (·.dst) with
    | none => rfl
    | some d =>
      dsimp only
      have : getS st2.fr d = getS st.fr d := h.at_ d (by
        unfold Oper.looksAt
        refine List.mem_append_right _ ?_
        rw [hg]
        dsimp only
        rw [hd]
        simp)
      rw [this]

def dstL (o : Oper) (v : V) : List (Nat × V) := match o.dst with | some d => [(d, v)] | none => []
theorem put_dstL (st : St) (o : Oper) (v : V) : put st o.dst v = upd (dstL o v) st := by
  unfold put dstL
  cases o.dst <;> rfl
theorem eff_upd (K : Kd) (b : Blk) (T : List (Nat × V)) (st : St) : eff K b (upd T st) = upd T (eff K b st) := by cases K <;> rfl

/-- The slots that an operation changes. -/
def Chg (ops : Array Oper) (un : List Nat) (i : Nat) (o : Oper) (U : List (Nat × V)) : Prop := ∀ p ∈ U, o.dst = some p.1 ∨ (p.1 ∈ o.looksAt ops ∧ freeTmp un ops.toList i (.tmp p.1) = true)

theorem looks_op {o : Oper} {t : Nat} (h : Operand.tmp t ∈ o.op.operands.toList) : t ∈ o.looksAt ops := by
  unfold Oper.looksAt
  exact List.mem_append_left _ (List.mem_filterMap.2 ⟨.tmp t, h, rfl⟩)

theorem step_nf {i : Nat} {st st' : St} (hi : involved un i = true) (hA : A i ≠ .any) (h : Step C vb f ops un h0 A i st st') :
    ∃ o U b, ops[i]? = some o ∧ h0 ≤ st.h.length ∧ Chg ops un i o U ∧ st' = upd U (eff (A i) b st) ∧ ∀ st2, Looks ops o st st2 → h0 ≤ st2.h.length → HC (A i) st st2 → Step C vb f ops un h0 A i st2 (upd U (eff (A i) b st2)) := by
  obtain ⟨o, ho, hlen, h | h⟩ := h
  · obtain ⟨hg, hn, rfl⟩ := h
    have hn := hn hi
    refine ⟨o, dstL o (.tup []), .dead, ho, hlen hi, ?_, by rw [hn, put_dstL]; rfl, fun st2 hl hl0 _ => ⟨o, ho, fun _ => hl0, .inl ⟨hl.guard.trans hg, fun _ => hn, by rw [hn, put_dstL]; rfl⟩⟩⟩
    intro p hp
    unfold dstL at hp
    split at hp
    · rename_i d hd
      simp only [List.mem_singleton] at hp
      subst hp
      exact .inl hd
    · simp at hp
  · obtain ⟨hg, hk, v, s, hv, rfl⟩ := h
    obtain ⟨hnl, hk⟩ := hk hi
    obtain ⟨b, T, rfl, hT, hnf⟩ := nft (by rw [hk]; exact hA) hnl hv
    rw [hk] at hnf ⊢
    refine ⟨o, T ++ dstL o v, b, ho, hlen hi, ?_, by rw [put_dstL, eff_upd, upd_upd], fun st2 hl hl0 hc => ⟨o, ho, fun _ => hl0, .inr ⟨hl.guard.trans hg, fun _ => ?_, v, _, (hnf st2 hl.same hc).1, by rw [put_dstL, eff_upd, upd_upd]⟩⟩⟩
    · intro p hp
      rcases List.mem_append.1 hp with hp | hp
      · exact .inr ⟨looks_op (hT p hp).1, (hT p hp).2⟩
      · unfold dstL at hp
        split at hp
        · rename_i d hd
          simp only [List.mem_singleton] at hp
          subst hp
          exact .inl hd
        · simp at hp
    · exact ⟨calm_same hl.same hnl, (hnf st2 hl.same hc).2⟩

theorem eff_fr (K : Kd) (b : Blk) (st : St) : (eff K b st).fr = st.fr := by cases K <;> rfl
theorem eff_len (K : Kd) (b : Blk) (st : St) : st.h.length ≤ (eff K b st).h.length := by cases K <;> simp [eff]
theorem put_h (st : St) (d : Option Tmp) (v : V) : (put st d v).h = st.h := by cases d <;> rfl

/-- What one operation has to do with the heap, seen behind another that is no hindrance. -/
theorem hc_past {K L : Kd} {b : Blk} {st : St} (hc : compatK h0 K L = true) (hl : h0 ≤ st.h.length) {U : List (Nat × V)} : HC L (upd U (eff K b st)) st ∧ HC L st (upd U (eff K b st)) := by
  have key : (match L with | .none => True | .rd id | .wr id => (eff K b st).h[id]? = st.h[id]? | .al => (eff K b st).h.length = st.h.length | .any => False) := by
    cases K <;> cases L <;> simp only [compatK, Bool.false_eq_true] at hc <;> simp only [eff] <;> try trivial
    case wr.rd a c =>
      have : a ≠ c := by simpa using hc
      exact List.getElem?_set_ne this
    case wr.wr a c =>
      have : a ≠ c := by simpa using hc
      exact List.getElem?_set_ne this
    case wr.al a => simp
    case al.rd c =>
      have : c < h0 := by simpa using hc
      exact List.getElem?_append_left (by omega)
    case al.wr c =>
      have : c < h0 := by simpa using hc
      exact List.getElem?_append_left (by omega)
  unfold HC
  cases L <;> first | exact ⟨trivial, trivial⟩ | exact ⟨key.symm, key⟩ | exact key.elim

theorem eff_comm {K L : Kd} {b c : Blk} {h1 : List Blk} {fr : List V} (hc : compatK h0 K L = true) (hl : h0 ≤ h1.length) : (eff L c (eff K b ⟨fr, h1⟩)).h = (eff K b (eff L c ⟨fr, h1⟩)).h := by
  cases K <;> cases L <;> simp only [compatK, Bool.false_eq_true] at hc <;> simp only [eff]
  case wr.wr x y =>
    have : x ≠ y := by simpa using hc
    exact List.set_comm _ _ this
  case wr.al x =>
    have : x < h0 := by simpa using hc
    rw [List.set_append_left _ _ (by omega)]
  case al.wr x =>
    have : x < h0 := by simpa using hc
    rw [List.set_append_left _ _ (by omega)]

theorem compat_symm {K L : Kd} (h : compatK h0 K L = true) : compatK h0 L K = true := by
  cases K <;> cases L <;> simp only [compatK, Bool.false_eq_true] at h ⊢ <;> first | exact h | (simp at h ⊢; exact fun e => h e.symm)

theorem freeTmp_spec {y x : Nat} {ox : Oper} {t : Nat} (hx : ops[x]? = some ox) (hu : unAt un y x = true ∨ unAt un x y = true) (h : freeTmp un ops.toList y (.tmp t) = true) : t ∉ ox.looksAt ops := by
  unfold freeTmp at h
  dsimp only at h
  rw [List.all_eq_true] at h
  have := h x (List.mem_range.2 (by simpa using (Array.getElem?_eq_some_iff.1 hx).1))
  have e : (unAt un y x || unAt un x y) = true := by simpa using hu
  rw [e, Array.getElem?_toList, hx] at this
  simpa using this

theorem swap {x y : Nat} {ox oy : Oper} {st s1 s2 : St} (hx : ops[x]? = some ox) (hy : ops[y]? = some oy) (hap : oy.apart ops ox = true) (iy : involved un y = true) (ix : involved un x = true)
    (hu : unAt un y x = true) (hc : compatK h0 (A y) (A x) = true) (h1 : Step C vb f ops un h0 A y st s1) (h2 : Step C vb f ops un h0 A x s1 s2) : ∃ t, Step C vb f ops un h0 A x st t ∧ Step C vb f ops un h0 A y t s2 := by
  have hany : ∀ K L : Kd, compatK h0 K L = true → K ≠ .any ∧ L ≠ .any := by
    intro K L h
    constructor
    · rintro rfl; cases L <;> cases h
    · rintro rfl; cases K <;> cases h
  have hny : A y ≠ .any := (hany _ _ hc).1
  have hnx : A x ≠ .any := (hany _ _ hc).2
  obtain ⟨oy', Uy, by_, hy', hly, cy, rfl, ny⟩ := step_nf iy hny h1
  rw [hy] at hy'; cases hy'
  obtain ⟨ox', Ux, bx, hx', hlx, cx, rfl, nx⟩ := step_nf ix hnx h2
  rw [hx] at hx'; cases hx'
  obtain ⟨a1, a2, a3⟩ := Oper.apart_spec hap
  have fy : ∀ p ∈ Uy, p.1 ∉ ox.looksAt ops := fun p hp => by
    rcases cy p hp with h | ⟨_, h⟩
    · exact a1 _ h
    · exact freeTmp_spec hx (.inl hu) h
  have fx : ∀ p ∈ Ux, p.1 ∉ oy.looksAt ops := fun p hp => by
    rcases cx p hp with h | ⟨_, h⟩
    · exact a3 _ h
    · exact freeTmp_spec hy (.inr hu) h
  have dy : ∀ p ∈ Uy, ∀ d, ox.dst = some d → p.1 ≠ d := fun p hp d hd e => by
    rcases cy p hp with h | ⟨h, _⟩
    · exact a2 _ h (by rw [hd, e])
    · exact a3 d hd (e ▸ h)
  have dx : ∀ p ∈ Ux, ∀ d, oy.dst = some d → p.1 ≠ d := fun p hp d hd e => by
    rcases cx p hp with h | ⟨h, _⟩
    · exact a2 d hd (by rw [h, e])
    · exact a1 d hd (e ▸ h)
  have dd : ∀ p ∈ Ux, ∀ q ∈ Uy, p.1 ≠ q.1 := fun p hp q hq e => by
    rcases cx p hp with h | ⟨h, _⟩
    · exact dy q hq _ h e.symm
    · exact fy q hq (e ▸ h)
  have hx1 := nx st ⟨fun t ht => by
      change getS st.fr t = getS (setAll Uy (eff (A y) by_ st).fr) t
      rw [eff_fr, getS_setAll (fun p hp e => fy p hp (by rw [e]; exact ht))],
    fun d hd => by
      change getS st.fr d = getS (setAll Uy (eff (A y) by_ st).fr) d
      rw [eff_fr, getS_setAll (fun p hp e => dy p hp d hd e)]⟩ hly (hc_past hc hly).1
  refine ⟨_, hx1, ?_⟩
  have hy1 := ny (upd Ux (eff (A x) bx st)) ⟨fun t ht => by
      change getS (setAll Ux (eff (A x) bx st).fr) t = getS st.fr t
      rw [eff_fr, getS_setAll (fun p hp e => fx p hp (by rw [e]; exact ht))],
    fun d hd => by
      change getS (setAll Ux (eff (A x) bx st).fr) d = getS st.fr d
      rw [eff_fr, getS_setAll (fun p hp e => dx p hp d hd e)]⟩ (Nat.le_trans hly (eff_len _ _ _)) (hc_past (compat_symm hc) hly).2
  have e : upd Uy (eff (A y) by_ (upd Ux (eff (A x) bx st))) = upd Ux (eff (A x) bx (upd Uy (eff (A y) by_ st))) := by
    have hh : (eff (A y) by_ (eff (A x) bx st)).h = (eff (A x) bx (eff (A y) by_ st)).h := (eff_comm (fr := st.fr) (h1 := st.h) hc hly).symm
    rw [eff_upd, eff_upd]
    have key : ∀ s : St, s = ⟨s.fr, s.h⟩ := fun s => rfl
    rw [key (upd Uy _), key (upd Ux (upd Uy _))]
    change St.mk (setAll Uy (setAll Ux (eff (A y) by_ (eff (A x) bx st)).fr)) (eff (A y) by_ (eff (A x) bx st)).h = St.mk (setAll Ux (setAll Uy (eff (A x) bx (eff (A y) by_ st)).fr)) (eff (A x) bx (eff (A y) by_ st)).h
    rw [hh, eff_fr, eff_fr, eff_fr, eff_fr, setAll_comm (fun p hp q hq e => dd q hq p hp e.symm)]
  rw [e] at hy1
  exact hy1

theorem run_append {l1 l2 : List Nat} : ∀ {st st' : St}, Run C vb f ops un h0 A (l1 ++ l2) st st' ↔ ∃ s, Run C vb f ops un h0 A l1 st s ∧ Run C vb f ops un h0 A l2 s st' := by
  induction l1 with
  | nil => intro st st'; exact ⟨fun h => ⟨st, rfl, h⟩, fun ⟨s, h1, h2⟩ => by cases h1; exact h2⟩
  | cons i r ih =>
    intro st st'
    constructor
    · rintro ⟨s, h1, h2⟩
      obtain ⟨s2, h3, h4⟩ := ih.1 h2
      exact ⟨s2, ⟨s, h1, h3⟩, h4⟩
    · rintro ⟨s2, ⟨s, h1, h3⟩, h4⟩
      exact ⟨s, h1, ih.2 ⟨s2, h3, h4⟩⟩

/-- The pairs that may change places. -/
def Free (ops : Array Oper) (un : List Nat) (h0 : Nat) (A : Nat → Kd) (y x : Nat) : Prop := unAt un y x = true ∧ involved un y = true ∧ involved un x = true ∧ compatK h0 (A y) (A x) = true ∧ ∃ oy ox, ops[y]? = some oy ∧ ops[x]? = some ox ∧ oy.apart ops ox = true

theorem move_front {x : Nat} : ∀ {l : List Nat} {st st' : St}, (∀ y ∈ l, Free ops un h0 A y x) → Run C vb f ops un h0 A (l ++ [x]) st st' → Run C vb f ops un h0 A (x :: l) st st'
  | [], st, st', _, h => h
  | y :: l, st, st', hf, h => by
    obtain ⟨s0, h1, h2⟩ := h
    obtain ⟨s1, h3, h4⟩ := move_front (fun z hz => hf z (by simp [hz])) h2
    obtain ⟨hu, iy, ix, hc, oy, ox, hoy, hox, hap⟩ := hf y (by simp)
    obtain ⟨t, h5, h6⟩ := swap hox hoy hap iy ix hu hc h1 h3
    exact ⟨t, h5, s1, h6, h4⟩

theorem run_perm {Ord : Nat → Nat → Prop} : ∀ (σ l : List Nat) {st st' : St}, σ.Nodup → l.Nodup → (∀ i, i ∈ σ ↔ i ∈ l) → l.Pairwise (· < ·) → σ.Pairwise (fun a b => ¬ Ord b a) →
    (∀ x ∈ l, ∀ y ∈ l, y < x → Ord y x ∨ Free ops un h0 A y x) → Run C vb f ops un h0 A l st st' → Run C vb f ops un h0 A σ st st'
  | [], l, st, st', _, _, hm, _, _, _, h => by
    have : l = [] := List.eq_nil_iff_forall_not_mem.2 (fun i hi => by have := (hm i).2 hi; simp at this)
    subst this
    exact h
  | x :: σ, l, st, st', hn, hl, hm, hs, ho, hf, h => by
    have hxl : x ∈ l := (hm x).1 (by simp)
    obtain ⟨l1, l2, rfl⟩ := List.append_of_mem hxl
    obtain ⟨hxσ, hn'⟩ := List.nodup_cons.1 hn
    have hxn : x ∉ l1 ∧ x ∉ l2 := by
      have := List.nodup_append.1 hl
      refine ⟨fun hx => ?_, ?_⟩
      · exact this.2.2 x hx x (by simp) rfl
      · have := List.nodup_cons.1 this.2.1; exact this.1
    have hpw := List.pairwise_append.1 hs
    have hfree : ∀ y ∈ l1, Free ops un h0 A y x := by
      intro y hy
      have hlt : y < x := hpw.2.2 y hy x (by simp)
      rcases hf x (by simp) y (by simp [hy]) hlt with h | h
      · exfalso
        have hyσ : y ∈ σ := by
          have := (hm y).2 (by simp [hy])
          rcases List.mem_cons.1 this with e | e
          · omega
          · exact e
        exact (List.pairwise_cons.1 ho).1 y hyσ h
      · exact h
    have h' : Run C vb f ops un h0 A ((l1 ++ [x]) ++ l2) st st' := by simpa using h
    obtain ⟨s, h1, h2⟩ := run_append.1 h'
    obtain ⟨s0, h3, h4⟩ := move_front hfree h1
    refine ⟨s0, h3, run_perm σ (l1 ++ l2) hn' ?_ (fun i => ?_) ?_ (List.pairwise_cons.1 ho).2 (fun a ha b hb => hf a ?_ b ?_) (run_append.2 ⟨s, h4, h2⟩)⟩
    · have := List.nodup_append.1 hl
      refine List.nodup_append.2 ⟨this.1, (List.nodup_cons.1 this.2.1).2, fun a ha b hb => this.2.2 a ha b (by simp [hb])⟩
    · have := hm i
      by_cases hix : i = x
      · subst hix
        exact ⟨fun h => absurd h hxσ, fun h => by rcases List.mem_append.1 h with h | h; exact absurd h hxn.1; exact absurd h hxn.2⟩
      · simpa [hix] using this
    · refine List.pairwise_append.2 ⟨hpw.1, (List.pairwise_cons.1 hpw.2.1).2, fun a ha b hb => hpw.2.2 a ha b (by simp [hb])⟩
    · rcases List.mem_append.1 ha with h | h <;> simp [h]
    · rcases List.mem_append.1 hb with h | h <;> simp [h]

/-- What the evaluator has seen. -/
theorem vdraw_run {ks : St → Option FOut} {out : FOut} : ∀ (l : List Nat) (acc : List (Nat × Kd)) (st : St), l.Nodup → (∀ p ∈ acc, p.1 ∉ l) → vdraw C vb f un h0 ops.toList l acc st ks = some out →
    ∃ (A : Nat → Kd) (stf : St), Run C vb f ops un h0 A l st stf ∧ ks stf = some out ∧ (∀ i ∈ l, involved un i = true → A i ≠ .any) ∧
      (∀ p ∈ acc, ∀ i ∈ l, unAt un p.1 i = true → involved un i = true → p.2 ≠ .any → compatK h0 p.2 (A i) = true) ∧ l.Pairwise (fun j i => unAt un j i = true → involved un j = true → involved un i = true → compatK h0 (A j) (A i) = true)
  | [], acc, st, _, _, h => ⟨fun _ => .none, st, rfl, h, by simp, by simp, .nil⟩
  | i :: r, acc, st, hn, ha, h => by
    obtain ⟨hir, hn'⟩ := List.nodup_cons.1 hn
    unfold vdraw at h
    rw [Array.getElem?_toList] at h
    cases ho : ops[i]? with
    | none => rw [ho] at h; cases h
    | some o =>
      rw [ho] at h
      dsimp only at h
      rcases condB_cases h with ⟨hlen, h⟩ | ⟨_, h⟩
      · have hlen : involved un i = true → h0 ≤ st.h.length := fun e => by rw [e] at hlen; simpa using hlen
        obtain ⟨b, hg, h⟩ := bindO_eq h
        rcases condB_cases h with ⟨hb, h⟩ | ⟨hb, h⟩
        · rw [hb] at hg
          rcases condB_cases h with ⟨hi, h⟩ | ⟨hi, h⟩
          · rcases condB_cases h with ⟨hc, h⟩ | ⟨_, h⟩
            · simp only [Bool.and_eq_true, List.all_eq_true] at hc
              obtain ⟨⟨hnl, hna⟩, hall⟩ := hc
              obtain ⟨q, hq, h⟩ := bindO_eq h
              obtain ⟨A, stf, h1, h2, h3, h4, h5⟩ := vdraw_run r ((i, kindV C f o st) :: acc) _ hn' (fun p hp => by
                rcases List.mem_cons.1 hp with rfl | hp
                · exact hir
                · exact fun hh => ha p hp (by simp [hh])) h
              let A' : Nat → Kd := fun j => if j = i then kindV C f o st else A j
              have hA : ∀ j ∈ r, A' j = A j := fun j hj => by
                have : j ≠ i := fun e => hir (e ▸ hj)
                simp [A', this]
              have hAi : A' i = kindV C f o st := by simp [A']
              have hrun : ∀ (r : List Nat) (s s' : St), (∀ j ∈ r, A' j = A j) → Run C vb f ops un h0 A r s s' → Run C vb f ops un h0 A' r s s' := by
                intro r
                induction r with
                | nil => intro s s' _ h; exact h
                | cons j r ih =>
                  rintro s s' he ⟨s2, ⟨o2, k1, k2, k3⟩, k4⟩
                  refine ⟨s2, ⟨o2, k1, k2, ?_⟩, ih s2 s' (fun x hx => he x (by simp [hx])) k4⟩
                  rw [he j (by simp)]
                  exact k3
              have hnany : kindV C f o st ≠ .any := fun e => by rw [e] at hna; cases hna
              refine ⟨A', stf, ⟨_, ⟨o, ho, hlen, .inr ⟨hg, fun _ => ⟨hnl, hAi.symm⟩, q.1, q.2, hq, rfl⟩⟩, hrun r _ _ hA h1⟩, h2, fun j hj hij => ?_, fun p hp j hj hu hij hpa => ?_, List.pairwise_cons.2 ⟨fun j hj hu hi' hij => ?_, ?_⟩⟩
              · rcases List.mem_cons.1 hj with rfl | hj
                · rw [hAi]; exact hnany
                · rw [hA j hj]; exact h3 j hj hij
              · rcases List.mem_cons.1 hj with rfl | hj
                · rw [hAi]
                  have := hall p hp
                  rw [hu] at this
                  simpa using this
                · rw [hA j hj]
                  exact h4 p (by simp [hp]) j hj hu hij hpa
              · rw [hAi, hA j hj]
                exact h4 (i, kindV C f o st) (by simp) j hj hu hij hnany
              · refine h5.imp_of_mem ?_
                intro a b ha' hb' hh
                rw [hA a ha', hA b hb']
                exact hh
            · cases h
          · obtain ⟨q, hq, h⟩ := bindO_eq h
            obtain ⟨A, stf, h1, h2, h3, h4, h5⟩ := vdraw_run r acc _ hn' (fun p hp hh => ha p hp (by simp [hh])) h
            refine ⟨A, stf, ⟨_, ⟨o, ho, hlen, .inr ⟨hg, fun e => (by rw [hi] at e; cases e), q.1, q.2, hq, rfl⟩⟩, h1⟩, h2, fun j hj hij => ?_, fun p hp j hj hu hij hpa => ?_, List.pairwise_cons.2 ⟨fun j hj hu hi' hij => ?_, h5⟩⟩
            · rcases List.mem_cons.1 hj with rfl | hj
              · rw [hi] at hij; cases hij
              · exact h3 j hj hij
            · rcases List.mem_cons.1 hj with rfl | hj
              · rw [hi] at hij; cases hij
              · exact h4 p hp j hj hu hij hpa
            · rw [hi] at hi'; cases hi'
        · rw [hb] at hg
          obtain ⟨A, stf, h1, h2, h3, h4, h5⟩ := vdraw_run r acc _ hn' (fun p hp hh => ha p hp (by simp [hh])) h
          let A' : Nat → Kd := fun j => if j = i then .none else A j
          have hA : ∀ j ∈ r, A' j = A j := fun j hj => by
            have : j ≠ i := fun e => hir (e ▸ hj)
            simp [A', this]
          have hAi : A' i = .none := by simp [A']
          have hrun : ∀ (r : List Nat) (s s' : St), (∀ j ∈ r, A' j = A j) → Run C vb f ops un h0 A r s s' → Run C vb f ops un h0 A' r s s' := by
            intro r
            induction r with
            | nil => intro s s' _ h; exact h
            | cons j r ih =>
              rintro s s' he ⟨s2, ⟨o2, k1, k2, k3⟩, k4⟩
              refine ⟨s2, ⟨o2, k1, k2, ?_⟩, ih s2 s' (fun x hx => he x (by simp [hx])) k4⟩
              rw [he j (by simp)]
              exact k3
          have hnn : ∀ K : Kd, K ≠ .any → compatK h0 K .none = true ∧ compatK h0 .none K = true := by
            intro K hK; cases K <;> first | exact ⟨rfl, rfl⟩ | exact absurd rfl hK
          refine ⟨A', stf, ⟨_, ⟨o, ho, hlen, .inl ⟨hg, fun _ => hAi, rfl⟩⟩, hrun r _ _ hA h1⟩, h2, fun j hj hij => ?_, fun p hp j hj hu hij hpa => ?_, List.pairwise_cons.2 ⟨fun j hj hu hi' hij => ?_, ?_⟩⟩
          · rcases List.mem_cons.1 hj with rfl | hj
            · rw [hAi]; simp
            · rw [hA j hj]; exact h3 j hj hij
          · rcases List.mem_cons.1 hj with rfl | hj
            · rw [hAi]; exact (hnn _ hpa).1
            · rw [hA j hj]
              exact h4 p hp j hj hu hij hpa
          · rw [hAi, hA j hj]
            exact (hnn _ (h3 j hj hij)).2
          · refine h5.imp_of_mem ?_
            intro a b ha' hb' hh
            rw [hA a ha', hA b hb']
            exact hh
      · cases h

/-- A run, in the model. -/
theorem run_sound (hvb : ∀ i, VbSound C (vb i)) {ρ : Option Nat} {n B τ : Nat} {g : Gh} {w : World} {Q : Exit → Act → World → Prop} {stf : St}
    (hn : ∀ g' a' w', Later B τ g g' w w' → R B τ g' stf a' w' → Q .normal a' w') :
    ∀ (l : List Nat) (st : St) (g1 : Gh) (a1 : Act) (w1 : World), Run C vb f ops un h0 A l st stf → Later B τ g g1 w w1 → R B τ g1 st a1 w1 → wpOpsIn (FW ρ) n C.P ops Q l a1 w1
  | [], st, g1, a1, w1, h, hl, hR => by cases h; exact hn g1 a1 w1 hl hR
  | i :: l, st, g1, a1, w1, h, hl, hR => by
    obtain ⟨s, ⟨o, ho, _, h⟩, hrun⟩ := h
    unfold wpOpsIn
    rw [ho]
    dsimp only
    rcases h with ⟨hg, _, rfl⟩ | ⟨hg, _, v, s', hv, rfl⟩
    · unfold guardV at hg
      cases hgd : o.guard with
      | none => rw [hgd] at hg; cases hg
      | some p =>
        obtain ⟨j, want⟩ := p
        rw [hgd] at hg
        have hws := wanted_sound hR hgd hg
        rw [if_neg (by rw [hws]; simp)]
        exact ⟨fun _ _ => trivial, run_sound hvb hn l _ g1 _ w1 hrun hl (skip_sound hR _)⟩
    · have hw : Region.wanted o (yielded ops a1.tmps) = true := by
        unfold guardV at hg
        cases hgd : o.guard with
        | none => exact wanted_none hgd
        | some p =>
          obtain ⟨j, want⟩ := p
          rw [hgd] at hg
          exact wanted_sound hR hgd hg
      rw [if_pos hw]
      refine vop_sound (hvb i) hv hR (fun v' st' g' u w' hl' hR' hvv hkk => ?_) (fun v' st' g' u w' d _ _ _ _ hkk => by cases hkk)
      cases hkk
      exact run_sound hvb hn l _ g' _ w' hrun (hl.trans hl') (put_sound hR' hvv)
end
end Go.Fw
/- Regions whose order is drawn (4): the orders that can be drawn; the check. -/
namespace Go.Fw
open Go.RowKit

inductive Ord (ops : Array Oper) : Nat → Nat → Prop
  | edge {i : Nat} {o : Oper} {e : Edge} (ho : ops[i]? = some o) (he : e ∈ o.after) (hb : Region.binds .any e = true) : Ord ops e.on i
  | step {i j : Nat} {o : Oper} {e : Edge} (ho : ops[i]? = some o) (he : e ∈ o.after) (hb : Region.binds .any e = true) (h : Ord ops j e.on) : Ord ops j i

def Pre (md : Region.Mode) (ops : Array Oper) (σ : List Nat) : Prop := ∀ pre i post, σ = pre ++ i :: post → ∀ o, ops[i]? = some o → ∀ e ∈ o.after, Region.binds md e = true → e.on ∈ pre

theorem binds_any {md : Region.Mode} {e : Edge} (h : Region.binds .any e = true) : Region.binds md e = true := by
  unfold Region.binds at *
  cases hg : e.ground <;> rw [hg] at h <;> first | rfl | (simp at h)

theorem ord_pre {md : Region.Mode} {ops : Array Oper} {σ : List Nat} (hp : Pre md ops σ) {i j : Nat} (h : Ord ops j i) : ∀ pre post, σ = pre ++ i :: post → j ∈ pre := by
  induction h with
  | edge ho he hb => exact fun pre post e => hp pre _ post e _ ho _ he (binds_any hb)
  | step ho he hb h ih =>
    intro pre post e
    have hin := hp pre _ post e _ ho _ he (binds_any hb)
    obtain ⟨p1, p2, rfl⟩ := List.append_of_mem hin
    have := ih p1 (p2 ++ _ :: post) (by rw [e, List.append_assoc]; rfl)
    exact List.mem_append_left _ this

theorem pairwise_split {α : Type} {T : α → α → Prop} : ∀ {σ : List α}, (∀ p a m b q, σ = p ++ a :: (m ++ b :: q) → T a b) → σ.Pairwise T
  | [], _ => .nil
  | x :: σ, h => by
    refine List.pairwise_cons.2 ⟨fun y hy => ?_, pairwise_split (fun p a m b q e => h (x :: p) a m b q (by rw [e]; rfl))⟩
    obtain ⟨m, q, rfl⟩ := List.append_of_mem hy
    exact h [] x m y q rfl

theorem pre_pairwise {md : Region.Mode} {ops : Array Oper} {σ : List Nat} (hp : Pre md ops σ) (hn : σ.Nodup) : σ.Pairwise (fun a b => ¬ Ord ops b a) := by
  refine pairwise_split (fun p a m b q e ho => ?_)
  have := ord_pre hp ho p (m ++ b :: q) e
  rw [e] at hn
  have h2 := (List.nodup_append.1 hn).2.2 b this b (by simp)
  exact h2 rfl

theorem nodup_sub_len {α : Type} [DecidableEq α] : ∀ {l m : List α}, l.Nodup → (∀ x ∈ l, x ∈ m) → l.length ≤ m.length
  | [], m, _, _ => Nat.zero_le _
  | x :: l, m, hn, h => by
    obtain ⟨h1, h2⟩ := List.nodup_cons.1 hn
    have hx := h x (by simp)
    have := nodup_sub_len (m := m.erase x) h2 (fun y hy => (List.mem_erase_of_ne (by rintro rfl; exact h1 hy)).2 (h y (by simp [hy])))
    rw [List.length_erase_of_mem hx] at this
    have hpos : 0 < m.length := List.length_pos_of_mem hx
    simp only [List.length_cons]
    omega

theorem full_mem {l : List Nat} {n : Nat} (hn : l.Nodup) (hb : ∀ x ∈ l, x < n) (hl : l.length = n) : ∀ i, i ∈ l ↔ i < n := by
  intro i
  refine ⟨hb i, fun hi => ?_⟩
  by_cases h : i ∈ l
  · exact h
  · exfalso
    have := nodup_sub_len (l := i :: l) (m := List.range n) (List.nodup_cons.2 ⟨h, hn⟩) (fun x hx => by
      rcases List.mem_cons.1 hx with rfl | hx
      · exact List.mem_range.2 hi
      · exact List.mem_range.2 (hb x hx))
    simp at this
    omega

structure Inv (md : Region.Mode) (ops : Array Oper) (listed : Array Bool) (acc : List Nat) : Prop where
  size : listed.size = ops.size
  mem : ∀ i, listed.getD i false = true ↔ i ∈ acc
  nodup : acc.Nodup
  lt : ∀ x ∈ acc, x < ops.size
  pre : Pre md ops acc.reverse

theorem Inv.next {md : Region.Mode} {ops : Array Oper} {listed : Array Bool} {acc : List Nat} (h : Inv md ops listed acc) {i : Nat} (hi : i ∈ Region.ready md ops listed) : Inv md ops (listed.setIfInBounds i true) (i :: acc) := by
  obtain ⟨h1, o, ho, h2⟩ := mem_ready.1 hi
  have hlt : i < ops.size := (Array.getElem?_eq_some_iff.1 ho).1
  have hnot : i ∉ acc := fun hm => by
    have := (h.mem i).2 hm
    have hs : i < listed.size := by rw [h.size]; exact hlt
    simp [hs] at this h1
    rw [this] at h1; cases h1
  refine ⟨by simpa using h.size, fun j => ?_, List.nodup_cons.2 ⟨hnot, h.nodup⟩, fun x hx => ?_, ?_⟩
  · by_cases hj : j = i
    · subst hj
      have hs : j < listed.size := by rw [h.size]; exact hlt
      simp [hs]
    · rw [getD_set_ne false (fun e => hj e.symm), h.mem j]
      simp [hj]
  · rcases List.mem_cons.1 hx with rfl | hx
    · exact hlt
    · exact h.lt x hx
  · intro pre k post e o' ho' ed hed hb
    rw [List.reverse_cons] at e
    rcases List.append_eq_append_iff.1 e with ⟨a', e1, e2⟩ | ⟨c', e1, e2⟩
    · cases a' with
      | nil =>
        simp only [List.nil_append, List.cons.injEq] at e2
        obtain ⟨rfl, _⟩ := e2
        rw [e1]
        rw [ho] at ho'
        cases ho'
        simp only [List.append_nil, List.mem_reverse]
        exact (h.mem _).1 (h2 ed hed hb)
      | cons z zs =>
        simp at e2
    · cases c' with
      | nil =>
        simp only [List.nil_append, List.cons.injEq] at e2
        obtain ⟨rfl, _⟩ := e2
        rw [ho] at ho'
        cases ho'
        simp only [List.append_nil] at e1
        rw [← e1]
        simp only [List.mem_reverse]
        exact (h.mem _).1 (h2 ed hed hb)
      | cons z zs =>
        simp only [List.cons_append, List.cons.injEq] at e2
        obtain ⟨rfl, _⟩ := e2
        exact h.pre pre k zs e1 o' ho' ed hed hb

theorem go_pre {md : Region.Mode} {ops : Array Oper} : ∀ (fuel t : Nat) (listed : Array Bool) (acc : List Nat), Inv md ops listed acc → ∃ (listed' : Array Bool) (acc' : List Nat), Region.linearise.go md ops fuel t listed acc = acc'.reverse ∧ Inv md ops listed' acc' ∧
    (fuel + acc.length = ops.size → acc'.length = ops.size ∨ Region.ready md ops listed' = []) := by
  intro fuel
  induction fuel with
  | zero => intro t listed acc h; exact ⟨listed, acc, rfl, h, fun e => .inl (by omega)⟩
  | succ fuel ih =>
    intro t listed acc h
    simp only [Region.linearise.go]
    change ∃ (listed' : Array Bool) (acc' : List Nat), (match (Region.ready md ops listed)[t % (Region.ready md ops listed).length]? with
      | some i => Region.linearise.go md ops fuel (t / (Region.ready md ops listed).length) (listed.setIfInBounds i true) (i :: acc)
      | none => acc.reverse) = acc'.reverse ∧ _
    cases hi : (Region.ready md ops listed)[t % (Region.ready md ops listed).length]? with
    | none =>
      refine ⟨listed, acc, rfl, h, fun _ => .inr ?_⟩
      cases hr : Region.ready md ops listed with
      | nil => rfl
      | cons x xs =>
        rw [hr] at hi
        have hlt : t % (x :: xs).length < (x :: xs).length := Nat.mod_lt _ (by simp)
        rw [List.getElem?_eq_getElem hlt] at hi
        cases hi
    | some i =>
      obtain ⟨l', a', h1, h2, h3⟩ := ih (t / (Region.ready md ops listed).length) _ _ (h.next (List.mem_of_getElem? hi))
      exact ⟨l', a', h1, h2, fun e => h3 (by simp only [List.length_cons]; omega)⟩

theorem inv_start (md : Region.Mode) (ops : Array Oper) : Inv md ops (Array.replicate ops.size false) [] := by
  refine ⟨by simp, fun i => ?_, List.nodup_nil, by simp, fun pre i post e => by simp at e⟩
  by_cases hi : i < ops.size <;> simp [hi]

theorem lin_pre (md : Region.Mode) (ops : Array Oper) (t : Nat) : (Region.linearise md ops t).Nodup ∧ (∀ x ∈ Region.linearise md ops t, x < ops.size) ∧ Pre md ops (Region.linearise md ops t) := by
  obtain ⟨l', a', h1, h2, _⟩ := go_pre ops.size t _ _ (inv_start md ops)
  unfold Region.linearise
  rw [h1]
  exact ⟨List.pairwise_reverse.2 (h2.nodup.imp (fun h e => h e.symm)), fun x hx => h2.lt x (by simpa using hx), h2.pre⟩

/-- There is an order. -/
def Topo (md : Region.Mode) (ops : Array Oper) : Prop := ∃ τ0 : List Nat, (∀ i, i ∈ τ0 ↔ i < ops.size) ∧ Pre md ops τ0

theorem first_not {acc : List Nat} : ∀ {l : List Nat}, (∃ i ∈ l, i ∉ acc) → ∃ p i q, l = p ++ i :: q ∧ i ∉ acc ∧ ∀ x ∈ p, x ∈ acc
  | [], h => by obtain ⟨i, hi, _⟩ := h; simp at hi
  | x :: l, h => by
    by_cases hx : x ∈ acc
    · obtain ⟨i, hi, hn⟩ := h
      have hil : i ∈ l := by
        rcases List.mem_cons.1 hi with rfl | hi
        · exact absurd hx hn
        · exact hi
      obtain ⟨p, j, q, rfl, h1, h2⟩ := first_not ⟨i, hil, hn⟩
      exact ⟨x :: p, j, q, rfl, h1, fun y hy => by
        rcases List.mem_cons.1 hy with rfl | hy
        · exact hx
        · exact h2 y hy⟩
    · exact ⟨[], x, l, rfl, hx, by simp⟩

theorem lin_full {md : Region.Mode} {ops : Array Oper} (hT : Topo md ops) (t : Nat) : (Region.linearise md ops t).length = ops.size := by
  obtain ⟨l', a', h1, h2, h3⟩ := go_pre ops.size t _ _ (inv_start md ops)
  unfold Region.linearise
  rw [h1, List.length_reverse]
  rcases h3 (by simp) with h | h
  · exact h
  · obtain ⟨τ0, hm, hp⟩ := hT
    by_cases hall : ∀ i ∈ τ0, i ∈ a'
    · have h4 := nodup_sub_len (l := List.range ops.size) (m := a') List.nodup_range (fun x hx => hall x ((hm x).2 (List.mem_range.1 hx)))
      have h5 := nodup_sub_len (l := a') (m := List.range ops.size) h2.nodup (fun x hx => List.mem_range.2 (h2.lt x hx))
      simp at h4 h5
      omega
    · exfalso
      have hex : ∃ i ∈ τ0, i ∉ a' := by
        apply Classical.byContradiction
        intro hne
        exact hall (fun i hi => Classical.byContradiction fun hn => hne ⟨i, hi, hn⟩)
      obtain ⟨p, i, q, rfl, hn, hpa⟩ := first_not hex
      have hlt := (hm i).1 (by simp)
      have : i ∈ Region.ready md ops l' := by
        refine mem_ready.2 ⟨?_, ops[i], Array.getElem?_eq_getElem hlt, fun e he hb => (h2.mem _).2 (hpa _ (hp p i q rfl _ (Array.getElem?_eq_getElem hlt) e he hb))⟩
        have hs : i < l'.size := by rw [h2.size]; exact hlt
        have hf : ¬ l'.getD i false = true := fun hh => hn ((h2.mem i).1 hh)
        simp [hs] at hf ⊢
        exact hf
      rw [h] at this
      simp at this

theorem topo_back {md : Region.Mode} {ops : Array Oper} (h : ∀ i o, ops[i]? = some o → ∀ e ∈ o.after, Region.binds md e = true → e.on < i) : Topo md ops := by
  refine ⟨List.range ops.size, fun i => List.mem_range, fun pre i post e o ho ed hed hb => ?_⟩
  have hlt := h i o ho ed hed hb
  have hi : i < ops.size := (Array.getElem?_eq_some_iff.1 ho).1
  have hin : ed.on ∈ List.range ops.size := List.mem_range.2 (by omega)
  have hpw : (List.range ops.size).Pairwise (· < ·) := List.pairwise_lt_range
  rw [e] at hin hpw
  rcases List.mem_append.1 hin with h | h
  · exact h
  · exfalso
    rcases List.mem_cons.1 h with h | h
    · omega
    · have := (List.pairwise_cons.1 (List.pairwise_append.1 hpw).2.1).1 _ h
      omega

def backOk (ops : Array Oper) : Bool := (List.range ops.size).all fun i => match ops[i]? with
  | some o => o.after.toList.all fun e => (match e.ground with | .gcOnly _ => true | _ => decide (e.on < i))
  | none => false
def topoOk (ops : Array Oper) : Bool := backOk ops && (!Region.departs ops || (Region.linearise .gc ops 0).length == ops.size)

theorem schedule_ok {ops : Array Oper} (h : topoOk ops = true) (mixed : Bool) (t : Nat) : ∃ md, (Region.schedule mixed ops t).Nodup ∧ (∀ i, i ∈ Region.schedule mixed ops t ↔ i < ops.size) ∧ Pre md ops (Region.schedule mixed ops t) := by
  unfold topoOk at h
  simp only [Bool.and_eq_true, Bool.or_eq_true, Bool.not_eq_true', beq_iff_eq] at h
  obtain ⟨hb, hg⟩ := h
  have back : ∀ md, md ≠ .gc → Topo md ops := by
    intro md hmd
    refine topo_back (fun i o ho e he hbd => ?_)
    unfold backOk at hb
    rw [List.all_eq_true] at hb
    have := hb i (List.mem_range.2 (Array.getElem?_eq_some_iff.1 ho).1)
    rw [ho] at this
    dsimp only at this
    rw [List.all_eq_true] at this
    have := this e (by simpa using he)
    unfold Region.binds at hbd
    cases hgr : e.ground with
    | gcOnly r =>
      rw [hgr] at hbd
      cases md <;> first | exact absurd rfl hmd | (simp at hbd; done)
    | _ => rw [hgr] at this; simpa using this
  have fin : ∀ md t, Topo md ops → ∃ md', (Region.linearise md ops t).Nodup ∧ (∀ i, i ∈ Region.linearise md ops t ↔ i < ops.size) ∧ Pre md' ops (Region.linearise md ops t) := by
    intro md t hT
    obtain ⟨h1, h2, h3⟩ := lin_pre md ops t
    exact ⟨md, h1, full_mem h1 h2 (lin_full hT t), h3⟩
  unfold Region.schedule
  split
  · exact fin .any t (back _ (by simp))
  · rename_i hm
    have hdep : Region.departs ops = true := by
      cases hd : Region.departs ops with
      | true => rfl
      | false => rw [hd] at hm; simp at hm
    have hgc : Topo .gc ops := by
      rcases hg with h | h
      · rw [hdep] at h; cases h
      · obtain ⟨h1, h2, h3⟩ := lin_pre .gc ops 0
        exact ⟨_, full_mem h1 h2 h, h3⟩
    split
    · exact fin .text _ (back _ (by simp))
    · exact fin .gc _ hgc

/-! ### the check -/
def maskOf (acc : List Nat) (o : Oper) : Nat := o.after.toList.foldl (fun s e => if Region.binds .any e then s ||| 2 ^ e.on ||| acc.getD e.on 0 else s) 0
def masks : List Oper → List Nat → List Nat
  | [], acc => acc
  | o :: r, acc => masks r (acc ++ [maskOf acc o])

theorem maskOf_spec {acc : List Nat} {T : Nat → Prop} : ∀ (es : List Edge) (s : Nat), (∀ j, s.testBit j = true → T j) → (∀ e ∈ es, Region.binds .any e = true → T e.on ∧ ∀ j, (acc.getD e.on 0).testBit j = true → T j) →
    ∀ j, (es.foldl (fun s e => if Region.binds .any e then s ||| 2 ^ e.on ||| acc.getD e.on 0 else s) s).testBit j = true → T j
  | [], s, h, _, j, hj => h j hj
  | e :: es, s, h, he, j, hj => by
    rw [List.foldl_cons] at hj
    refine maskOf_spec es _ (fun k hk => ?_) (fun e' he' => he e' (by simp [he'])) j hj
    split at hk
    · rename_i hb
      rw [Nat.testBit_or, Nat.testBit_or, Bool.or_eq_true, Bool.or_eq_true] at hk
      rcases hk with (hk | hk) | hk
      · exact h k hk
      · rw [Nat.testBit_two_pow] at hk
        have : e.on = k := by simpa using hk
        exact this ▸ (he e (by simp) hb).1
      · exact (he e (by simp) hb).2 k hk
    · exact h k hk

theorem masks_spec {ops : Array Oper} : ∀ (rest done : List Oper) (acc : List Nat), ops.toList = done ++ rest → acc.length = done.length → (∀ i m, acc[i]? = some m → ∀ j, m.testBit j = true → Ord ops j i) →
    ∀ i m, (masks rest acc)[i]? = some m → ∀ j, m.testBit j = true → Ord ops j i
  | [], done, acc, _, _, h => h
  | o :: rest, done, acc, he, hl, h => by
    unfold masks
    refine masks_spec rest (done ++ [o]) _ (by rw [he]; simp) (by simp [hl]) (fun i m hm j hj => ?_)
    by_cases hi : i < acc.length
    · rw [List.getElem?_append_left hi] at hm
      exact h i m hm j hj
    · rw [List.getElem?_append_right (by omega)] at hm
      have hi0 : i - acc.length = 0 := by
        have := (List.getElem?_eq_some_iff.1 hm).1
        simp at this; omega
      rw [hi0] at hm
      simp only [List.getElem?_cons_zero, Option.some.injEq] at hm
      subst hm
      have hie : i = done.length := by omega
      have ho : ops[i]? = some o := by
        rw [← Array.getElem?_toList, he, hie]
        simp
      refine maskOf_spec (T := fun j => Ord ops j i) _ 0 (fun j hj => by simp at hj) (fun e hed hb => ⟨.edge ho (by simpa using hed) hb, fun k hk => ?_⟩) j hj
      refine .step ho (by simpa using hed) hb ?_
      rw [List.getD_eq_getElem?_getD] at hk
      cases hm : acc[e.on]? with
      | none => rw [hm] at hk; simp at hk
      | some m => rw [hm] at hk; exact h _ m hm k hk

def okUn (ops : Array Oper) (un : List Nat) : Bool :=
  ((List.range ops.size).all fun i => (List.range i).all fun j => ((masks ops.toList []).getD i 0).testBit j || (unAt un j i && (match ops[j]?, ops[i]? with | some x, some y => x.apart ops y | _, _ => false))) && topoOk ops

theorem R.drew {B τ : Nat} {g : Gh} {st : St} {a : Act} {w : World} (h : R B τ g st a w) : R B τ g st a { w with drawn := w.drawn + 1 } :=
  ⟨h.size, h.slots, ⟨h.heap.bound, h.heap.inj, h.heap.fresh, h.heap.blk⟩, ⟨h.mem.at_⟩, ⟨h.lin.at_⟩, h.base, h.defers⟩

theorem draw_sound {C : Cx} {f : FuncId} {id : Nat} {ops : Array Oper} (hok : ∀ un, C.un f id = some un → okUn ops un = true) : DrawSound C f id ops := by
  intro un hun vb st _ hvb ks out h ρ n B τ g a w Q hR hQ
  have hk := hok un hun
  unfold okUn at hk
  rw [Bool.and_eq_true] at hk
  obtain ⟨hk, htopo⟩ := hk
  rw [List.all_eq_true] at hk
  obtain ⟨A, stf, h1, h2, h3, _, h5⟩ := vdraw_run (List.range ops.size) [] st List.nodup_range (by simp) h
  refine wpIn_region_draw (fun t => ?_)
  obtain ⟨md, hn, hm, hp⟩ := schedule_ok htopo (C.P.follows .mixedOrders) t
  have hperm := run_perm (C := C) (vb := vb) (f := f) (ops := ops) (un := un) (h0 := st.h.length) (A := A) (Ord := Ord ops) _ (List.range ops.size) hn List.nodup_range (fun i => (hm i).trans List.mem_range.symm) List.pairwise_lt_range (pre_pairwise hp hn) (fun x hx y hy hlt => ?_) h1
  · exact run_sound hvb (g := g) (w := w) (fun g' a' w' hl hR' => hQ stf g' a' w' hl hR' h2) _ st g a _ hperm ⟨(Below.refl B w).drew, MemLe.refl _, fun _ _ => rfl, fun _ _ h => h, fun _ _ h _ => h⟩ hR.drew
  · have hxs := List.mem_range.1 hx
    have := hk x hx
    rw [List.all_eq_true] at this
    have := this y (List.mem_range.2 hlt)
    rw [Bool.or_eq_true, Bool.and_eq_true] at this
    rcases this with h | ⟨hu, hap⟩
    · left
      rw [List.getD_eq_getElem?_getD] at h
      cases hmm : (masks ops.toList [])[x]? with
      | none => rw [hmm] at h; simp at h
      | some m =>
        rw [hmm] at h
        exact masks_spec ops.toList [] [] (by simp) rfl (fun i m hi => by simp at hi) x m hmm y h
    · right
      have hix : involved un x = true := by
        unfold involved
        unfold unAt at hu
        rw [Bool.or_eq_true]
        left
        simp only [bne_iff_ne, ne_eq]
        intro e
        rw [e] at hu; simp at hu
      have hiy : involved un y = true := by
        unfold involved
        unfold unAt at hu
        rw [Bool.or_eq_true]
        right
        rw [List.getD_eq_getElem?_getD] at hu
        cases hmm : un[x]? with
        | none => rw [hmm] at hu; simp at hu
        | some m =>
          rw [hmm] at hu
          exact List.any_eq_true.2 ⟨m, List.mem_of_getElem? hmm, hu⟩
      refine ⟨hu, hiy, hix, ?_, ?_⟩
      · have := List.pairwise_iff_getElem.1 h5 y x (by simp; omega) (by simpa using hxs) hlt
        simp only [List.getElem_range] at this
        exact this hu hiy hix
      · split at hap
        · rename_i oy ox hoy hox
          exact ⟨oy, ox, hoy, hox, hap⟩
        · cases hap

/-- The check of a function: all its regions whose order is drawn and that are given. -/
def drawsOk (C : Cx) (f : FuncId) : Bool := match C.P.funcs[f]? with
  | some fn => match fn.body with
    | some c => (drawRegs c).all fun p => match C.un f p.1 with
      | some un => okUn p.2 un
      | none => true
    | none => true
  | none => true

theorem vcall_ok (C : Cx) (hD : ∀ f, (∃ id, C.un f id ≠ none) → drawsOk C f = true) (n : Nat) : VbSound C (vcall C n) := by
  refine vcall_sound C (fun f fn c hf hc p hp => draw_sound (fun un hun => ?_)) n
  have := hD f ⟨p.1, by rw [hun]; simp⟩
  unfold drawsOk at this
  rw [hf] at this
  dsimp only at this
  rw [hc] at this
  dsimp only at this
  rw [List.all_eq_true] at this
  have := this p hp
  rw [hun] at this
  exact this
end Go.Fw
