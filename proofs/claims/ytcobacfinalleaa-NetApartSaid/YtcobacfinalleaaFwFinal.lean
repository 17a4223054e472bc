/- A function's end: its results, taken out of the heap where the caller knows nothing of it. -/
import Derived.Test.YtcobacfinalleaaFwExec2
set_option linter.all false
namespace Go.Fw
open Go.RowKit

/-! ### the results, run -/
theorem run_mapM {α : Type} {P : Program} {w : World} {fm : α → Sem Value} : ∀ {rs : List α} {us : List Value}, rs.length = us.length → (∀ (j : Nat) (r : α) (u : Value), rs[j]? = some r → us[j]? = some u → (fm r).run P w = .ok u w) → (rs.mapM fm).run P w = .ok us w
  | [], [], _, _ => by simp
  | r :: rs, u :: us, hl, h => by
    have h0 := h 0 r u rfl rfl
    have ih := run_mapM (rs := rs) (us := us) (by simpa using hl) (fun j r u hr hu => h (j + 1) r u hr hu)
    simp [List.mapM_cons, h0, ih]
  | [], _ :: _, hl, _ => by simp at hl
  | _ :: _, [], hl, _ => by simp at hl

def oneU (us : List Value) : Value := match us with
  | [u] => u
  | us => .tuple us.toArray
def resRun (tmps : Array Value) : ResultVar → Sem Value
  | .tmp t => pure (tmps.getD t undef)
  | .cell a t => do loadVar t (← asAddr (tmps.getD a undef))

theorem run_results {P : Program} {fn : Func} {tmps : Array Value} {w : World} {us : List Value} (hl : fn.results.toList.length = us.length) (h : ∀ (j : Nat) (r : ResultVar) (u : Value), fn.results.toList[j]? = some r → us[j]? = some u → (resRun tmps r).run P w = .ok u w) :
    (results fn tmps).run P w = .ok (oneU us) w := by
  have h1 := run_mapM (P := P) (w := w) (fm := resRun tmps) hl h
  have h2 : (fn.results.mapM (resRun tmps)).run P w = .ok us.toArray w := by
    rw [Array.mapM_eq_mapM_toList, Sem.run_map, h1]
    rfl
  have h3 : results fn tmps = (fn.results.mapM (resRun tmps) >>= fun vs => pure (if h : vs.size = 1 then vs[0] else .tuple vs)) := by
    unfold results
    congr 1
  rw [h3, Sem.run_bind, h2, Result.andThen_ok, Sem.run_pure]
  congr 1
  match us with
  | [] => rfl
  | [u] => rfl
  | u :: v :: us => simp [oneU]

theorem optAll_eq {α β : Type} {fm : α → Option β} : ∀ {xs : List α} {ys : List β}, optAll fm xs = some ys → xs.length = ys.length ∧ ∀ (j : Nat) (x : α) (y : β), xs[j]? = some x → ys[j]? = some y → fm x = some y
  | [], ys, h => by cases h; exact ⟨rfl, fun j x y h => by simp at h⟩
  | x :: xs, ys, h => by
    unfold optAll at h
    obtain ⟨y, hy, h⟩ := bindO_eq h
    obtain ⟨zs, hz, h⟩ := bindO_eq h
    cases h
    obtain ⟨h1, h2⟩ := optAll_eq hz
    refine ⟨by simp [h1], fun j a b ha hb => ?_⟩
    cases j with
    | zero => cases ha; cases hb; exact hy
    | succ j => exact h2 j a b ha hb

/-! ### where a result is held -/
def srcPl (τ : Nat) (fr : List V) : ResultVar → Nat → Place
  | .tmp t => fun j => .slot τ t j 0
  | .cell a _ => match getS fr a with
    | .ptr id off => fun j => .cell id (off + (j - 1))
    | _ => fun _ => .slot τ 0 0 0

theorem srcPl_cell {τ : Nat} {fr : List V} {a : Tmp} {t : TypeId} {id off : Nat} (hp : getS fr a = .ptr id off) : srcPl τ fr (.cell a t) = fun j => .cell id (off + (j - 1)) := by
  simp only [srcPl, hp]
theorem repA_ofCells {g : Gh} {pl : Nat → Place} {gg : Bool} {c : List V} {v : V} {vals : List Value} (h : ofCells gg c = some v) (hl : c.length = vals.length) (hc : ∀ (j : Nat) (x : V) (u : Value), c[j]? = some x → vals[j]? = some u → RepC g (pl (if gg then j + 1 else 0)) x u) :
    RepA g pl v (if gg then .agg vals.toArray else vals.headD undef) := by
  rcases ofCells_some h with ⟨rfl, rfl⟩ | ⟨rfl, rfl⟩
  · refine ⟨vals.toArray, rfl, by simpa using hl, fun j x hj hx => ?_⟩
    have := hc j x (vals.toArray[j]) hx (by simp at hj; simp [hj])
    simpa using this
  · match vals, hl with
    | [u], _ => exact repA_cell (by simpa using hc 0 v u rfl rfl)

section
variable {C : Cx} {B τ : Nat} {g : Gh} {st : St} {a : Act} {w : World}

theorem result_sound (hR : R B τ g st a w) {rv : ResultVar} {v : V} (h : resultV C st rv = some v) :
    ∃ u, (resRun a.tmps rv).run C.P w = .ok u w ∧ ((∀ vs, v ≠ .tup vs) → RepA g (srcPl τ st.fr rv) v u) ∧
      ∀ a' t, rv = .cell a' t → ∃ id off gg, getS st.fr a' = .ptr id off ∧ isAggT C.P t = some gg ∧ (gg = true ↔ ∃ vs, v = .agg vs) := by
  cases rv with
  | tmp t =>
    cases h
    refine ⟨a.tmps.getD t undef, by simp [resRun], fun hnt => ?_, fun _ _ e => by cases e⟩
    have := slot_of hR t
    rw [repS_notTup hnt] at this
    exact this
  | cell x t =>
    unfold resultV at h
    dsimp only at h
    split at h
    · rename_i id off gg m hp hg hm
      split at h
      · rename_i cs e hcs
        split at h
        · rename_i hle
          have hx := slot_of hR x
          rw [hp] at hx
          obtain ⟨b, hb, hu⟩ := rep_ptr hx
          obtain ⟨cur, hcur, hlc, hrep⟩ := hR.heap.blk id b cs e hb hcs
          have hlen : ((cs.drop off).take m).length = m := by simp; omega
          have hvl : ((cur.toList.drop off).take m).length = m := by simp; omega
          have h1 : gg = false → m = 1 := by
            intro hgf
            rcases ofCells_some h with ⟨e1, _⟩ | ⟨_, e1⟩
            · rw [hgf] at e1; cases e1
            · rw [← hlen, e1]; rfl
          have hl := run_loadVar_cells (P := C.P) (w := w) (b := b) (off := off) hg hm _ hvl (fun j u hj => by
            rw [cell_of_heap hcur]
            rw [takeDrop_get] at hj
            split at hj
            · simpa using hj
            · cases hj) h1
          refine ⟨_, by simp only [resRun, Sem.run_bind]; rw [hu]; simp only [asAddr, Sem.run_pure, Result.andThen_ok]; exact hl, fun _ => ?_, fun a' t' e' => ?_⟩
          · refine repA_ofCells h (by rw [hlen, hvl]) (fun j y u hj hu' => ?_)
            rw [takeDrop_get] at hj hu'
            split at hj
            · rename_i hjm
              rw [if_pos hjm] at hu'
              have hlt := (List.getElem?_eq_some_iff.1 hu').1
              have hlt : off + j < cur.size := by simpa using hlt
              have e2 : u = cur[off + j] := by
                have := (List.getElem?_eq_some_iff.1 hu').2
                rw [← this]; simp
              rw [e2]
              have := hrep (off + j) y hlt hj
              rw [srcPl_cell hp]
              cases gg with
              | true => simpa using this
              | false =>
                have := h1 rfl
                have hj0 : j = 0 := by omega
                subst hj0
                simpa using hrep off y (by simpa using hlt) (by simpa using hj)
            · cases hj
          · cases e'
            refine ⟨id, off, gg, hp, hg, ?_⟩
            rcases ofCells_some h with ⟨e1, e2⟩ | ⟨e1, e2⟩
            · exact ⟨fun _ => ⟨_, e2⟩, fun _ => e1⟩
            · constructor
              · intro e3; rw [e1] at e3; cases e3
              · rintro ⟨vs, rfl⟩
                exfalso
                have hin : V.agg vs ∈ (cs.drop off).take m := by rw [e2]; simp
                obtain ⟨j, hj⟩ := List.mem_iff_getElem?.1 hin
                rw [takeDrop_get] at hj
                split at hj
                · have hlt : off + j < cur.size := by
                    have := (List.getElem?_eq_some_iff.1 hj).1; omega
                  exact (hrep _ _ hlt hj).elim
                · cases hj
        · cases h
      · cases h
    · cases h

/-! ### taken out -/
open Classical in
noncomputable def Gh.esc (g : Gh) (w : World) (ren : Place → Place) : Gh where
  mem := fun b => match g.mem b with
    | some cs => some cs
    | none => if (∃ id, g.loc id = some b) then (match w.heap[b]? with
      | some (.cells cur _ _) => some cur.toList
      | _ => none) else none
  loc := fun _ => none
  lin := fun b => (g.lin b).map fun i => { i with place := ren i.place }

theorem esc_le (g : Gh) (w : World) (ren : Place → Place) : MemLe g.mem (g.esc w ren).mem := by
  intro b cs h
  unfold Gh.esc
  dsimp only
  rw [h]
  exact ⟨cs, rfl, List.prefix_refl _⟩
theorem esc_own {g : Gh} {w : World} {ren : Place → Place} {id b : Nat} (hm : g.mem b = none) (hl : g.loc id = some b) {cur : Array Value} {e : TypeId} {fr : Nat × Nat} (hc : w.heap[b]? = some (.cells cur e fr)) : (g.esc w ren).mem b = some cur.toList := by
  unfold Gh.esc
  dsimp only
  rw [hm]
  dsimp only
  rw [if_pos ⟨id, hl⟩, hc]

theorem chunk_get {sz : Nat} : ∀ {n : Nat} {cs : List V} {i : Nat} {x : V}, (chunk sz n cs)[i]? = some x → i < n ∧ x = .agg ((cs.drop (i * sz)).take sz)
  | 0, cs, i, x, h => by simp [chunk] at h
  | n + 1, cs, i, x, h => by
    unfold chunk at h
    cases i with
    | zero => simp at h; exact ⟨by omega, by rw [← h]; simp⟩
    | succ i =>
      rw [List.getElem?_cons_succ] at h
      obtain ⟨h1, h2⟩ := chunk_get h
      refine ⟨by omega, ?_⟩
      rw [h2, List.drop_drop, Nat.add_mul, Nat.one_mul, Nat.add_comm]
theorem chunk_len {sz : Nat} : ∀ {n : Nat} {cs : List V}, (chunk sz n cs).length = n
  | 0, _ => rfl
  | n + 1, cs => by unfold chunk; rw [List.length_cons, chunk_len]

theorem escape1_sound (hh : HeapOk g st.h B w) {ren : Place → Place} {p q : Place} (hpq : ren p = q) {v v' : V} {u : Value} (h : escape1 C.P st.h v = some v') (hr : RepC g p v u) : RepC (g.esc w ren) q v' u ∧ isCell v' = true ∧ v' ≠ .undef := by
  have flat : ∀ v, (∀ id off n r, v ≠ .own id off n r) → (∀ p e n xs, v ≠ .lin p e n xs) → escape1 C.P st.h v = some v' → flat1 v = true ∧ v' = v := by
    intro v h1 h2 h
    unfold escape1 at h
    split at h
    · exact absurd rfl (h1 _ _ _ _)
    · exact absurd rfl (h2 _ _ _ _)
    · rcases condB_cases h with ⟨e, h⟩ | ⟨_, h⟩
      · cases h; exact ⟨e, rfl⟩
      · cases h
  by_cases ho : ∃ id off n r, v = .own id off n r
  · obtain ⟨id, off, n, room, rfl⟩ := ho
    simp only [RepC] at hr
    rcases hr with ⟨b, cap, hb, rfl, hcap, hmx, _⟩ | ⟨rfl, _, ad, rfl⟩
    rotate_left
    · unfold escape1 at h
      dsimp only at h
      split at h
      · split at h
        · rcases condB_cases h with ⟨_, h⟩ | ⟨_, h⟩
          · cases h
            rw [List.take_zero]
            exact ⟨repI_empty (by omega) ad, rfl, by simp⟩
          · cases h
        · rcases condB_cases h with ⟨_, h⟩ | ⟨_, h⟩
          · cases h
            exact ⟨repI_empty (by omega) ad, rfl, by simp⟩
          · cases h
        · cases h
      · cases h
    unfold escape1 at h
    dsimp only at h
    split at h
    · rename_i cs e hcs
      obtain ⟨cur, hcur, hlc, hrep⟩ := hh.blk id b cs e hb hcs
      have hmem : ∀ j, stAt (g.esc w ren).mem b j = cur[j]? := by
        intro j
        unfold stAt
        rw [esc_own (hh.fresh id b hb).2.2.1 hb hcur]
        simp
      have hcell : ∀ (j : Nat) (c : V), cs[j]? = some c → flat1 c = true → isCell c = true ∧ ∃ u, cur[j]? = some u ∧ RepI (g.esc w ren).mem c u := by
        intro j c hc hf
        have hj : j < cur.size := by have := (List.getElem?_eq_some_iff.1 hc).1; omega
        exact ⟨(flat1_cell hf).1, cur[j], Array.getElem?_eq_getElem hj, (repC_flat1 hf (hrep j c hj hc)).mono (esc_le g w ren)⟩
      split at h
      · rcases condB_cases h with ⟨hcond, h⟩ | ⟨_, h⟩
        · cases h
          simp only [Bool.and_eq_true, decide_eq_true_eq, List.all_eq_true] at hcond
          obtain ⟨hle, hall⟩ := hcond
          refine ⟨?_, rfl, by simp⟩
          have hlen : ((cs.drop off).take n).length = n := by simp; omega
          have key : ∀ (i : Nat) (x : V), ((cs.drop off).take n)[i]? = some x → isCell x = true ∧ x.cells = [x] ∧ ∃ u, cur[off + i]? = some u ∧ RepI (g.esc w ren).mem x u := by
            intro i x hx
            have hf := hall x (List.mem_of_getElem? hx)
            rw [takeDrop_get] at hx
            split at hx
            · obtain ⟨q1, q2⟩ := hcell _ x hx hf
              exact ⟨q1, (by cases x <;> first | rfl | cases q1), q2⟩
            · cases hx
          have := RepI.imm (m := (g.esc w ren).mem) false ((cs.drop off).take n) b off cap 1 (fun i j => (cur[off + i * 1 + j]?).getD default) (by rw [hlen]; exact hcap) (fun h => by cases h) hmx (by omega)
            (fun i x hx => by rw [(key i x hx).2.1]; rfl)
            (fun i x j c hx hc => by
              obtain ⟨q1, q2, u, q3, q4⟩ := key i x hx
              rw [q2] at hc
              cases j with
              | zero => cases hc; exact ⟨q1, by rw [hmem]; simp [q3]⟩
              | succ j => simp at hc)
            (fun i x j c hx hc => by
              obtain ⟨q1, q2, u, q3, q4⟩ := key i x hx
              rw [q2] at hc
              cases j with
              | zero => cases hc; simpa [q3] using q4
              | succ j => simp at hc)
          rw [hlen] at this
          exact this
        · cases h
      · rename_i m hag hsz
        rcases condB_cases h with ⟨hcond, h⟩ | ⟨_, h⟩
        · cases h
          simp only [Bool.and_eq_true, decide_eq_true_eq, List.all_eq_true] at hcond
          obtain ⟨hle, hall⟩ := hcond
          refine ⟨?_, rfl, by simp⟩
          have key : ∀ (i : Nat) (x : V) (j : Nat) (c : V), (chunk (m + 1) n (cs.drop off))[i]? = some x → x.cells[j]? = some c → isCell c = true ∧ ∃ u, cur[off + i * (m + 1) + j]? = some u ∧ RepI (g.esc w ren).mem c u := by
            intro i x j c hx hc
            obtain ⟨hi, rfl⟩ := chunk_get hx
            simp only [V.cells] at hc
            rw [takeDrop_get] at hc
            split at hc
            · rename_i hj
              have hlt : i * (m + 1) + j < n * (m + 1) := by
                have : (i + 1) * (m + 1) ≤ n * (m + 1) := Nat.mul_le_mul_right _ hi
                rw [Nat.add_mul, Nat.one_mul] at this
                omega
              rw [List.getElem?_drop, ← Nat.add_assoc] at hc
              refine hcell _ c hc (hall c ?_)
              refine List.mem_iff_getElem?.2 ⟨i * (m + 1) + j, ?_⟩
              rw [takeDrop_get, if_pos hlt, ← Nat.add_assoc]
              exact hc
            · cases hc
          have hcl : (chunk (m + 1) n (cs.drop off)).length = n := chunk_len
          have := RepI.imm (m := (g.esc w ren).mem) false (chunk (m + 1) n (cs.drop off)) b off cap (m + 1) (fun i j => (cur[off + i * (m + 1) + j]?).getD default) (by rw [hcl]; exact hcap) (fun h => by cases h) hmx (by omega)
            (fun i x hx => by
              obtain ⟨hi, rfl⟩ := chunk_get hx
              simp only [V.cells, List.length_take, List.length_drop]
              have : (i + 1) * (m + 1) ≤ n * (m + 1) := Nat.mul_le_mul_right _ hi
              rw [Nat.add_mul, Nat.one_mul] at this
              omega)
            (fun i x j c hx hc => by
              obtain ⟨q1, u, q3, q4⟩ := key i x j c hx hc
              exact ⟨q1, by rw [hmem]; simp [q3]⟩)
            (fun i x j c hx hc => by
              obtain ⟨q1, u, q3, q4⟩ := key i x j c hx hc
              simpa [q3] using q4)
          rw [hcl] at this
          exact this
        · cases h
      · cases h
    · cases h
  · by_cases hl : ∃ p e n xs, v = .lin p e n xs
    · obtain ⟨p', e, n, xs, rfl⟩ := hl
      cases h
      refine ⟨?_, rfl, by simp⟩
      simp only [RepC] at hr ⊢
      rcases hr with ⟨b, i, h1, h2, h3, h0, h4, h5⟩ | hr
      rotate_left
      · exact .inr hr
      refine .inl ⟨b, { i with place := ren i.place }, ?_, by simp [h2, hpq], h3, h0, h4, h5.mono (esc_le g w ren)⟩
      unfold Gh.esc
      dsimp only
      rw [h1]
      rfl
    · obtain ⟨hf, rfl⟩ := flat v (fun id off n r e => ho ⟨_, _, _, _, e⟩) (fun p e n xs e' => hl ⟨_, _, _, _, e'⟩) h
      exact ⟨flat1_repC hf ((repC_flat1 hf hr).mono (esc_le g w ren)), (flat1_cell hf).1, (flat1_cell hf).2.2⟩

theorem escape2_sound (hh : HeapOk g st.h B w) {ren : Place → Place} {pl pl' : Nat → Place} {v v' : V} {u : Value} (h1 : ∀ vs, v = .agg vs → ∀ j, ren (pl (j + 1)) = pl' (j + 1)) (h0 : (∀ vs, v ≠ .agg vs) → ren (pl 0) = pl' 0) (h : escape2 C.P st.h v = some v') (hr : RepA g pl v u) :
    RepA (g.esc w ren) pl' v' u ∧ (∀ vs, v' ≠ .tup vs) := by
  by_cases ha : ∃ vs, v = .agg vs
  · obtain ⟨vs, rfl⟩ := ha
    unfold escape2 at h
    dsimp only at h
    obtain ⟨ws, hws, h⟩ := bindO_eq h
    cases h
    obtain ⟨hl, hall⟩ := optAll_eq hws
    obtain ⟨cs, rfl, h2, h3⟩ := hr
    refine ⟨⟨cs, rfl, by rw [← hl]; exact h2, fun j c hj hc => ?_⟩, by simp⟩
    have hj' : j < vs.length := by rw [h2]; exact hj
    have hv := List.getElem?_eq_getElem hj'
    exact (escape1_sound hh (h1 vs rfl j) (hall j _ c hv hc) (h3 j _ hj hv)).1
  · have e : escape2 C.P st.h v = escape1 C.P st.h v := by cases v <;> first | rfl | exact absurd ⟨_, rfl⟩ ha
    rw [e] at h
    rcases repA_inv hr with rfl | hc | hx
    · unfold escape1 at h
      dsimp only at h
      rcases condB_cases h with ⟨e, _⟩ | ⟨_, h⟩
      · simp [flat1, flat0] at e
      · cases h
    · obtain ⟨q1, q2, q3⟩ := escape1_sound hh (h0 (fun vs e => ha ⟨vs, e⟩)) h hc
      refine ⟨repA_cell q1, fun vs e => ?_⟩
      rw [e] at q2; cases q2
    · exact absurd hx ha

/-! ### the whole end -/
def renL (P : Program) (τ : Nat) (fr : List V) : List ResultVar → Nat → Place → Place
  | [], _, _ => .slot 1 0 0 0
  | .tmp t :: rs, k, p => match p with
    | .slot τ' x j 0 => if τ' = τ ∧ x = t then .slot 0 0 j k else renL P τ fr rs (k + 1) p
    | _ => renL P τ fr rs (k + 1) p
  | .cell a t :: rs, k, p => match getS fr a, p with
    | .ptr id off, .cell id' x => if id' = id then .slot 0 0 (if isAggT P t = some true then x - off + 1 else 0) k else renL P τ fr rs (k + 1) p
    | _, _ => renL P τ fr rs (k + 1) p

theorem distinct_cons {x : Nat × Nat} {xs : List (Nat × Nat)} (h : distinct (x :: xs) = true) : x ∉ xs ∧ distinct xs = true := by
  unfold distinct at h
  simpa using h

/-- The places of the results go where they belong. -/
theorem renL_at {P : Program} {τ : Nat} {st : St} : ∀ {rs : List ResultVar} {k i : Nat} {rv : ResultVar}, distinct (rs.map (resultKey st)) = true → rs[i]? = some rv →
    (∀ t, rv = .tmp t → ∀ j, renL P τ st.fr rs k (.slot τ t j 0) = .slot 0 0 j (k + i)) ∧
    (∀ a t id off, rv = .cell a t → getS st.fr a = .ptr id off → ∀ x, renL P τ st.fr rs k (.cell id x) = .slot 0 0 (if isAggT P t = some true then x - off + 1 else 0) (k + i))
  | [], k, i, rv, _, h => by simp at h
  | r :: rs, k, i, rv, hd, h => by
    rw [List.map_cons] at hd
    obtain ⟨hn, hd⟩ := distinct_cons hd
    cases i with
    | zero =>
      cases h
      refine ⟨fun t e j => ?_, fun a t id off e hp x => ?_⟩
      · subst e; simp [renL]
      · subst e; simp [renL, hp]
    | succ i =>
      have hm : rs[i]? = some rv := by simpa using h
      obtain ⟨h1, h2⟩ := renL_at (k := k + 1) hd hm
      have hkey : resultKey st r ≠ resultKey st rv := fun e => hn (by rw [e]; exact List.mem_map.2 ⟨rv, List.mem_of_getElem? hm, rfl⟩)
      refine ⟨fun t e j => ?_, fun a t id off e hp x => ?_⟩
      · have := h1 t e j
        rw [show k + 1 + i = k + (i + 1) by omega] at this
        subst e
        cases r with
        | tmp t' =>
          have : t ≠ t' := fun e => hkey (by rw [e])
          simp only [renL]
          rw [if_neg (by simp [this])]
          assumption
        | cell a' t' =>
          simp only [renL]
          split
          · rename_i e; cases e
          · exact this
      · have := h2 a t id off e hp x
        rw [show k + 1 + i = k + (i + 1) by omega] at this
        subst e
        cases r with
        | tmp t' => simp only [renL]; exact this
        | cell a' t' =>
          simp only [renL]
          split
          · rename_i id' off' id2 x2 hp' e'
            cases e'
            have hne : id ≠ id' := by
              rintro rfl
              apply hkey
              simp [resultKey, hp, hp']
            rw [if_neg hne]
            exact this
          · exact this

theorem repA_oneS {g : Gh} {us : List Value} {vs : List V} (hl : vs.length = us.length) (hnt : ∀ (i : Nat) (v : V), vs[i]? = some v → ∀ ws, v ≠ .tup ws)
    (h : ∀ (i : Nat) (v : V) (u : Value), vs[i]? = some v → us[i]? = some u → RepA g (fun j => .slot 0 0 j (if vs.length = 1 then 0 else i + 1)) v u) : RepS g 0 0 (one vs) (oneU us) := by
  match vs, us, hl with
  | [], [], _ => exact ⟨#[], rfl, rfl, fun k c hk => absurd hk (by simp)⟩
  | [v], [u], _ =>
    show RepS g 0 0 v u
    rw [repS_notTup (hnt 0 v rfl)]
    exact h 0 v u rfl rfl
  | v :: v2 :: vs, u :: u2 :: us, hl =>
    refine ⟨(u :: u2 :: us).toArray, rfl, by simpa using hl, fun k c hk hc => ?_⟩
    have := h k c ((u :: u2 :: us).toArray[k]) hc (by simp at hk; simp [hk])
    simpa using this

def EndOf (g : Gh) (B : Nat) (w : World) (out : FOut) (e : Ending) (w' : World) : Prop :=
  w' = w ∧ ∃ g', OutIs g' out e ∧ g'.loc = (fun _ => none) ∧ MemLe g.mem g'.mem ∧ (∀ b, b < B → g'.mem b = g.mem b) ∧ MemOk g'.mem w ∧ LinOk g' B w

theorem esc_ok (hR : R B τ g st a w) (ren : Place → Place) : MemLe g.mem (g.esc w ren).mem ∧ (∀ b, b < B → (g.esc w ren).mem b = g.mem b) ∧ MemOk (g.esc w ren).mem w ∧ LinOk (g.esc w ren) B w := by
  refine ⟨esc_le g w ren, fun b hb => ?_, ⟨fun b cs h => ?_⟩, ⟨fun b i h => ?_⟩⟩
  · unfold Gh.esc
    dsimp only
    cases hm : g.mem b with
    | some cs => rfl
    | none =>
      dsimp only
      rw [if_neg]
      rintro ⟨id, hid⟩
      have := (hR.heap.fresh id b hid).1
      omega
  · unfold Gh.esc at h
    dsimp only at h
    cases hm : g.mem b with
    | some cs' =>
      rw [hm] at h
      cases h
      exact hR.mem.at_ b cs hm
    | none =>
      rw [hm] at h
      dsimp only at h
      split at h
      · split at h
        · rename_i cur e fr hc
          cases h
          exact ⟨cur, e, fr, hc, List.prefix_refl _⟩
        · cases h
      · cases h
  · unfold Gh.esc at h
    dsimp only at h
    cases hl : g.lin b with
    | none => rw [hl] at h; cases h
    | some i0 =>
      rw [hl] at h
      simp only [Option.map_some, Option.some.injEq] at h
      subst h
      obtain ⟨h1, h2, h3, h4, h5, h6, h7⟩ := hR.lin.at_ b i0 hl
      refine ⟨h1, h2, h3, h4, h5, fun hp => ?_, fun hp => ?_⟩
      · unfold Gh.esc
        dsimp only
        rw [h6 hp]
        dsimp only
        rw [if_neg]
        rintro ⟨id, hid⟩
        have := (hR.heap.fresh id b hid).2.2.2
        rw [hl] at this; cases this
      · unfold Gh.esc
        dsimp only
        rw [h7 hp]

theorem final_pure (hR : R B τ g st a w) {ex : Ex} {e : Exit} (he : ExIs g τ ex e) {fn : Func} {out : FOut} (h : vfinal C fn true ex st = some out) : bodyPost C.P fn (EndOf g B w out) e a w := by
  have key : ∀ (h : (bindO (optAll (resultV C st) fn.results.toList) fun vs =>
    if true then (if distinct (fn.results.toList.map (resultKey st)) then bindO (optAll (escape2 C.P st.h) vs) fun vs => some (FOut.ret (one vs) []) else none)
    else condB (vs.all fun v => !isLin2 v && okV v) (some (.ret (one vs) st.h)) none) = some out), a.defers = [] ∧ ∃ v, (results fn a.tmps).run C.P w = .ok v w ∧ EndOf g B w out (.returned v) w := by
    intro h
    obtain ⟨vs, hvs, h⟩ := bindO_eq h
    rw [if_pos rfl] at h
    split at h
    · rename_i hdist
      obtain ⟨ws, hws, h⟩ := bindO_eq h
      cases h
      obtain ⟨l1, a1⟩ := optAll_eq hvs
      obtain ⟨l2, a2⟩ := optAll_eq hws
      have hex : ∀ (j : Nat) (rv : ResultVar), fn.results.toList[j]? = some rv → ∃ u v, vs[j]? = some v ∧ (resRun a.tmps rv).run C.P w = .ok u w ∧ ((∀ vs, v ≠ .tup vs) → RepA g (srcPl τ st.fr rv) v u) ∧
          ∀ a' t, rv = .cell a' t → ∃ id off gg, getS st.fr a' = .ptr id off ∧ isAggT C.P t = some gg ∧ (gg = true ↔ ∃ vs, v = .agg vs) := by
        intro j rv hj
        have hlt : j < vs.length := by rw [← l1]; exact (List.getElem?_eq_some_iff.1 hj).1
        have hv := List.getElem?_eq_getElem hlt
        obtain ⟨u, h1, h2, h3⟩ := result_sound hR (a1 j rv _ hj hv)
        exact ⟨u, _, hv, h1, h2, h3⟩
      obtain ⟨us, hus⟩ : ∃ us : List Value, us.length = fn.results.toList.length ∧ ∀ (j : Nat) (rv : ResultVar) (u : Value), fn.results.toList[j]? = some rv → us[j]? = some u → ∃ v, vs[j]? = some v ∧ (resRun a.tmps rv).run C.P w = .ok u w ∧ ((∀ vs, v ≠ .tup vs) → RepA g (srcPl τ st.fr rv) v u) ∧
          ∀ a' t, rv = .cell a' t → ∃ id off gg, getS st.fr a' = .ptr id off ∧ isAggT C.P t = some gg ∧ (gg = true ↔ ∃ vs, v = .agg vs) := by
        classical
        refine ⟨(List.range fn.results.toList.length).map fun j => if h : ∃ rv, fn.results.toList[j]? = some rv then Classical.choose (hex j _ (Classical.choose_spec h)) else undef, by simp, fun j rv u hj hu => ?_⟩
        rw [List.getElem?_map, List.getElem?_range (List.getElem?_eq_some_iff.1 hj).1] at hu
        simp only [Option.map_some, Option.some.injEq] at hu
        have hE : ∃ rv, fn.results.toList[j]? = some rv := ⟨rv, hj⟩
        rw [dif_pos hE] at hu
        have hsp := Classical.choose_spec (hex j _ (Classical.choose_spec hE))
        rw [hu] at hsp
        have hrv : Classical.choose hE = rv := by
          exact (Option.some.inj (hj.symm.trans (Classical.choose_spec hE))).symm
        rw [hrv] at hsp
        exact hsp
      obtain ⟨hul, hus⟩ := hus
      refine ⟨hR.defers, oneU us, run_results hul.symm (fun j rv u hj hu => by obtain ⟨v, _, h1, _⟩ := hus j rv u hj hu; exact h1), rfl, g.esc w (renL C.P τ st.fr fn.results.toList (if ws.length = 1 then 0 else 1)), ⟨_, rfl, ?_⟩, rfl, esc_ok hR _⟩
      have main : ∀ (i : Nat) (v' : V), ws[i]? = some v' → ∃ rv v, fn.results.toList[i]? = some rv ∧ vs[i]? = some v ∧ escape2 C.P st.h v = some v' := by
        intro i v' hv'
        have hi : i < ws.length := (List.getElem?_eq_some_iff.1 hv').1
        have hi1 : i < vs.length := by omega
        have hi2 : i < fn.results.toList.length := by omega
        exact ⟨_, _, List.getElem?_eq_getElem hi2, List.getElem?_eq_getElem hi1, a2 i _ v' (List.getElem?_eq_getElem hi1) hv'⟩
      have notTup : ∀ v v', escape2 C.P st.h v = some v' → ∀ ws, v ≠ .tup ws := by
        intro v v' h1 xs e
        subst e
        unfold escape2 escape1 at h1
        dsimp only at h1
        rcases condB_cases h1 with ⟨e, _⟩ | ⟨_, h1⟩
        · simp [flat1, flat0] at e
        · cases h1
      have full : ∀ (i : Nat) (v' : V) (u : Value), ws[i]? = some v' → us[i]? = some u → RepA (g.esc w (renL C.P τ st.fr fn.results.toList (if ws.length = 1 then 0 else 1))) (fun j => .slot 0 0 j ((if ws.length = 1 then 0 else 1) + i)) v' u ∧ ∀ xs, v' ≠ .tup xs := by
        intro i v' u hv' hu
        obtain ⟨rv, v, hrv, hv, hesc⟩ := main i v' hv'
        obtain ⟨v2, hv2, _, hrep, hcell⟩ := hus i rv u hrv hu
        rw [hv] at hv2
        cases hv2
        have hren := renL_at (P := C.P) (τ := τ) (k := if ws.length = 1 then 0 else 1) hdist hrv
        refine escape2_sound (C := C) hR.heap (fun xs e j => ?_) (fun hna => ?_) hesc (hrep (notTup v v' hesc))
        · cases rv with
          | tmp t => exact hren.1 t rfl (j + 1)
          | cell a' t =>
            obtain ⟨id, off, gg, hp, hg, hiff⟩ := hcell a' t rfl
            rw [srcPl_cell hp]
            have := hren.2 a' t id off rfl hp (off + j)
            rw [hg, hiff.2 ⟨xs, e⟩] at this
            simpa using this
        · cases rv with
          | tmp t => exact hren.1 t rfl 0
          | cell a' t =>
            obtain ⟨id, off, gg, hp, hg, hiff⟩ := hcell a' t rfl
            rw [srcPl_cell hp]
            have := hren.2 a' t id off rfl hp off
            have hgf : gg = false := by
              cases gg with
              | false => rfl
              | true => obtain ⟨xs, e⟩ := hiff.1 rfl; exact absurd e (hna xs)
            rw [hg, hgf] at this
            simpa using this
      refine repA_oneS (by omega) (fun i v' hv' => ?_) (fun i v' u hv' hu => ?_)
      · have hi : i < us.length := by have := (List.getElem?_eq_some_iff.1 hv').1; omega
        exact (full i v' _ hv' (List.getElem?_eq_getElem hi)).2
      · have := (full i v' u hv' hu).1
        have e1 : (if ws.length = 1 then 0 else i + 1) = (if ws.length = 1 then 0 else 1) + i := by
          split
          · rename_i h1
            have := (List.getElem?_eq_some_iff.1 hv').1; omega
          · omega
        rw [e1]
        exact this
    · cases h
  cases ex <;> cases e <;> first | exact he.elim | skip
  · exact key h
  · cases h
  · exact key h
  · rename_i v ch
    obtain ⟨u, d, rfl, hnl, hv⟩ := he
    unfold vfinal at h
    dsimp only at h
    rw [if_pos rfl] at h
    rcases condB_cases h with ⟨hf, h⟩ | ⟨_, h⟩
    · cases h
      refine ⟨hR.defers, rfl, g.esc w id, ⟨u, rfl, hnl, flat2_repS hf ((repS_flat2 hf hv).mono (esc_le g w id))⟩, rfl, esc_ok hR _⟩
    · cases h
end
end Go.Fw
