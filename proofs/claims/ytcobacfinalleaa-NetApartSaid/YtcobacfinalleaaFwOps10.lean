/- The operations (10): structs, slices that are written out, slices that are made. -/
import Derived.Test.YtcobacfinalleaaFwOps9
set_option linter.all false
namespace Go.Fw
open Go.RowKit

/-! ### the model's 'fill' -/
theorem foldl_set (off : Nat) : ∀ (l : List Value) (i : Nat) (cells : Array Value), off + i + l.length ≤ cells.size →
    let r := (l.zipIdx i).foldl (fun cs (c, j) => cs.setIfInBounds (off + j) c) cells
    r.size = cells.size ∧ ∀ p, r[p]? = if off + i ≤ p ∧ p < off + i + l.length then l[p - (off + i)]? else cells[p]?
  | [], i, cells, _ => ⟨rfl, fun p => by simp only [List.zipIdx_nil, List.foldl_nil, List.length_nil]; rw [if_neg (by omega)]⟩
  | c :: l, i, cells, h => by
    simp only [List.length_cons] at h
    have ih := foldl_set off l (i + 1) (cells.setIfInBounds (off + i) c) (by simp; omega)
    simp only [List.zipIdx_cons, List.foldl_cons, List.length_cons] at ih ⊢
    refine ⟨by rw [ih.1]; simp, fun p => ?_⟩
    rw [ih.2 p]
    by_cases h1 : off + (i + 1) ≤ p ∧ p < off + (i + 1) + l.length
    · rw [if_pos h1, if_pos (by omega)]
      obtain ⟨m, rfl⟩ : ∃ m, p = off + (i + 1) + m := ⟨p - (off + (i + 1)), by omega⟩
      rw [show off + (i + 1) + m - (off + (i + 1)) = m by omega, show off + (i + 1) + m - (off + i) = m + 1 by omega]
      simp
    · rw [if_neg h1]
      by_cases h2 : p = off + i
      · subst h2
        rw [if_pos (by omega), Array.getElem?_setIfInBounds_self_of_lt (by omega)]
        simp
      · rw [if_neg (by omega), Array.getElem?_setIfInBounds_ne (by omega)]

theorem fill_one (cells : Array Value) (off : Nat) (v : Value) (h : off + v.cells.size ≤ cells.size) :
    let r := v.cells.zipIdx.foldl (fun cs (c, j) => cs.setIfInBounds (off + j) c) cells
    r.size = cells.size ∧ ∀ p, r[p]? = if off ≤ p ∧ p < off + v.cells.size then v.cells[p - off]? else cells[p]? := by
  have := foldl_set off v.cells.toList 0 cells (by simpa using h)
  rw [← Array.foldl_toList]
  simp only [Array.toList_zipIdx] 
  simp only [Nat.add_zero, Array.length_toList, Array.getElem?_toList] at this
  exact this

section
variable {B τ : Nat} {a : Act} {w : World}

/-- A part of a struct is taken into the slot that is being made. -/
def fPart (τ t d off : Nat) : Place → Place
  | .slot τ' x j k => if τ' = τ ∧ x = t then .slot τ d (off + (j - 1) + 1) 0 else .slot τ' x j k
  | p => p

theorem take_part {g : Gh} {st : St} (h : R B τ g st a w) (x : Operand) (d off : Nat) (hv : okV (st.peek x) = true) : ∃ g', (∀ b i, g.lin b = some i → (∀ t j k, x = .tmp t → i.place ≠ .slot τ t j k) → g'.lin b = some i) ∧ g'.mem = g.mem ∧ g'.loc = g.loc ∧ Later B τ g g' w w ∧ R B τ g' (st.takeS x) a w ∧ (st.peek x).cells.length = (a.eval x).cells.size ∧
    ∀ (j : Nat) (c : V) (hj : j < (a.eval x).cells.size), (st.peek x).cells[j]? = some c → RepC g' (.slot τ d (off + j + 1) 0) c (a.eval x).cells[j] := by
  have plain : ∀ (v : V) (u : Value), RepS g τ 0 v u → isLin3 v = false → okV v = true → v.cells.length = u.cells.size ∧ ∀ (p : Place) (j : Nat) (c : V) (hj : j < u.cells.size), v.cells[j]? = some c → RepC g p c u.cells[j] := by
    intro v u hs hl hok
    have hnt : ∀ vs, v ≠ .tup vs := fun vs e => by rw [e] at hok; cases hok
    have hnu : v ≠ .undef := fun e => by rw [e] at hok; cases hok
    rw [repS_notTup hnt] at hs
    obtain ⟨c1, c2⟩ := cellsA hnu hs
    refine ⟨c1, fun p j c hj hc => ?_⟩
    obtain ⟨j', e, hr⟩ := c2 j c hj hc
    refine hr.any ?_
    have hin := List.mem_of_getElem? hc
    cases v <;> simp only [V.cells, List.mem_singleton] at hin <;> try (subst hin; first | exact hl | rfl)
    simp only [isLin3, isLin2] at hl
    rw [List.any_eq_false] at hl
    exact Bool.eq_false_iff.2 (hl c hin)
  cases x with
  | tmp t =>
    have hf : ∀ p, (∀ j k, p ≠ .slot τ t j k) → fPart τ t d off p = p := by
      intro p hp
      cases p with
      | cell => rfl
      | slot τ' x j k =>
        have hn : ¬ (τ' = τ ∧ x = t) := by
          rintro ⟨rfl, rfl⟩
          exact hp j k rfl
        simp only [fPart, if_neg hn]
    have hs0 := slot_of h t
    have hnt : ∀ vs, getS st.fr t ≠ .tup vs := fun vs e => by simp only [St.peek, e] at hv; cases hv
    have hnu : getS st.fr t ≠ .undef := fun e => by simp only [St.peek, e] at hv; cases hv
    rw [repS_notTup hnt] at hs0
    have hs := (hs0.moved (f := fPart τ t d off) (pl' := fun j => .slot τ d (off + (j - 1) + 1) 0) (fun j => by simp [fPart])).1
    have hm := h.drop t (fPart τ t d off) hf
    obtain ⟨c1, c2⟩ := cellsA hnu hs
    refine ⟨g.ren (fPart τ t d off), fun b i hi hp => lin_ren_of hi (hf _ (fun j k => hp t j k rfl)), rfl, rfl, ren_later (fun τ' x j k hne => ?_), ?_, c1, fun j c hj hc => ?_⟩
    · exact hf _ (by intro j' k' e; injection e with e _; exact hne e)
    · unfold St.takeS
      dsimp only
      cases hl : isLin3 (getS st.fr t) with
      | true => rw [condB_true]; exact hm
      | false => rw [condB_false]; exact R.setSame hm (map3_of (fun _ h => drop1_of h) hl)
    · obtain ⟨j', e, hr⟩ := c2 j c hj hc
      rw [e] at hr; exact hr
  | const v =>
    obtain ⟨c1, c2⟩ := plain _ _ (ofVal_rep g τ 0 v) (isLin_ofVal v) hv
    exact ⟨g, fun _ _ h _ => h, rfl, rfl, Later.refl .., h, c1, fun j c hj hc => c2 _ j c hj hc⟩
  | global b => cases hv
  | func f =>
    obtain ⟨c1, c2⟩ := plain (.fn (.func f) [] []) (.func (.func f) #[] #[]) ⟨#[], #[], rfl, rfl, rfl, fun j c hj => absurd hj (by simp), fun j c hj => absurd hj (by simp)⟩ rfl rfl
    exact ⟨g, fun _ _ h _ => h, rfl, rfl, Later.refl .., h, c1, fun j c hj hc => c2 _ j c hj hc⟩

/-- The parts of a struct: the evaluator's filling is the model's. -/
theorem buildV_sound {P : Program} {t : TypeId} {fs : Array Field} (hu : P.underlying t = some (.struct fs)) {place : Nat → Option (Nat × Nat)} (hpl : ∀ i fl n, fs[i]? = some fl → sizeT P fl.type = some n → place i = some (fl.offset, n)) (d : Nat) :
    ∀ (parts : List (Nat × Operand)) (g : Gh) (st : St) (cs : List V) (cur : Array Value) (cs' : List V) (st' : St), (∀ p ∈ parts, p.2 ≠ .tmp d) → buildV P t st cs parts = some (cs', st') → R B τ g st a w → cs.length = cur.size →
      (∀ (j : Nat) (c : V) (hj : j < cur.size), cs[j]? = some c → RepC g (.slot τ d (j + 1) 0) c cur[j]) →
      ∃ g' cur', Instr.fill place cur (parts.map fun p => (p.1, a.eval p.2)) = some cur' ∧ Later B τ g g' w w ∧ R B τ g' st' a w ∧ cs'.length = cur'.size ∧ ∀ (j : Nat) (c : V) (hj : j < cur'.size), cs'[j]? = some c → RepC g' (.slot τ d (j + 1) 0) c cur'[j]
  | [], g, st, cs, cur, cs', st', _, hb, hR, hl, hrep => by
    simp only [buildV] at hb
    cases hb
    exact ⟨g, cur, rfl, Later.refl .., hR, hl, hrep⟩
  | (i, x) :: r, g, st, cs, cur, cs', st', hne, hb, hR, hl, hrep => by
    simp only [buildV] at hb
    split at hb
    · rename_i fl hfl
      obtain ⟨fs', hu', hfs⟩ := fieldT_some hfl
      rw [hu] at hu'; cases hu'
      split at hb
      · rename_i n hn
        split at hb
        · rename_i hc
          obtain ⟨hok, hvl, hle⟩ := hc
          obtain ⟨g1, k1, k2, k3, l1, hR1, hcl, hrep1⟩ := take_part hR x d fl.offset hok
          have hsz : (a.eval x).cells.size = n := by rw [← hcl]; exact hvl
          obtain ⟨f1, f2⟩ := fill_one cur fl.offset (a.eval x) (by rw [hsz, ← hl]; exact hle)
          dsimp only at f1 f2
          generalize hcur1 : (a.eval x).cells.zipIdx.foldl (fun cs (c, j) => cs.setIfInBounds (fl.offset + j) c) cur = cur1 at f1 f2
          obtain ⟨g2, cur', e1, l2, hR2, e2, e3⟩ := buildV_sound hu hpl d r g1 (st.takeS x) (setAt cs fl.offset (st.peek x).cells) cur1 cs' st' (fun p hp => hne p (List.mem_cons_of_mem _ hp)) hb hR1 (by rw [length_setAt, f1, hl]) (fun j c hj hcj => by
            rw [getElem?_setAt _ _ _ _ (by rw [hvl]; exact hle), hvl] at hcj
            have hg := f2 j
            rw [Array.getElem?_eq_getElem hj, hsz] at hg
            by_cases hr : fl.offset ≤ j ∧ j < fl.offset + n
            · rw [if_pos hr] at hcj hg
              have hlt : j - fl.offset < (a.eval x).cells.size := by omega
              rw [Array.getElem?_eq_getElem hlt] at hg
              have := hrep1 (j - fl.offset) c hlt hcj
              rw [show fl.offset + (j - fl.offset) = j by omega] at this
              rw [Option.some.inj hg]; exact this
            · rw [if_neg hr] at hcj hg
              have hlt : j < cur.size := by omega
              rw [Array.getElem?_eq_getElem hlt] at hg
              rw [Option.some.inj hg]
              refine (hrep j c hlt hcj).mono (by rw [k2]; exact MemLe.refl _) (fun _ _ h => by rw [k3]; exact h) (fun b i' hi hp => k1 b i' hi (fun t' j' k' e => ?_))
              rw [hp]
              intro e'
              injection e' with _ e'
              subst e'
              exact hne (i, x) (List.mem_cons_self ..) (by rw [e]))
          refine ⟨g2, cur', ?_, l1.trans l2, hR2, e2, e3⟩
          simp only [List.map_cons, Instr.fill, hpl i fl n hfs hn]
          rw [if_neg (by simp only [hsz, ne_eq, not_true_eq_false, decide_false, Bool.false_or, decide_eq_true_eq]; omega), hcur1]
          exact e1
        · cases hb
      · cases hb
    · cases hb
end

theorem fieldsOk_places {P : Program} {t : TypeId} (h : fieldsOk P t = true) : ∃ fs places, P.underlying t = some (.struct fs) ∧ fs.toList.mapM (fun f => (P.info? f.type).map fun i => (f.offset, i.size)) = some places ∧ ∀ (i : Nat) (fl : Field) (n : Nat), fs[i]? = some fl → sizeT P fl.type = some n → places[i]? = some (fl.offset, n) := by
  unfold fieldsOk at h
  split at h
  · rename_i fs hu
    have key : ∀ l : List Field, l.all (fun f => (sizeT P f.type).isSome) = true → ∃ places, l.mapM (fun f => (P.info? f.type).map fun i => (f.offset, i.size)) = some places ∧ ∀ (i : Nat) (fl : Field) (n : Nat), l[i]? = some fl → sizeT P fl.type = some n → places[i]? = some (fl.offset, n) := by
      intro l
      induction l with
      | nil => intro _; exact ⟨[], rfl, fun i fl n h => by cases h⟩
      | cons x l ih =>
        intro hl
        simp only [List.all_cons, Bool.and_eq_true] at hl
        obtain ⟨m, hm⟩ := Option.isSome_iff_exists.1 hl.1
        unfold sizeT at hm
        obtain ⟨it, hit, rfl⟩ := Option.map_eq_some_iff.1 hm
        obtain ⟨places, hp, hq⟩ := ih hl.2
        refine ⟨(x.offset, it.size) :: places, by simp [List.mapM_cons, hit, hp], fun i fl n hi hn => ?_⟩
        cases i with
        | zero =>
          simp at hi
          subst hi
          simp [sizeT, hit] at hn
          simp [hn]
        | succ i => simpa using hq i fl n (by simpa using hi) hn
    obtain ⟨places, hp, hq⟩ := key fs.toList h
    exact ⟨fs, places, hu, hp, fun i fl n hi hn => hq i fl n (by rw [Array.getElem?_toList]; exact hi) hn⟩
  · cases h

section
variable {C : Cx} {vb : FuncId → List V → List Blk → Option FOut} {f : FuncId} {ρ : Option Nat} {n : Nat} {o : Oper} {st : St} {α : Type} {k kp : V → St → Option α} {out : α}
  {B τ : Nat} {g : Gh} {a : Act} {w : World} {next : Act → World → Prop} {Q : Exit → Act → World → Prop}

theorem op_build {t : TypeId} {parts : Array (Nat × Operand)} (ho : o.op = .build t parts) (h : vop C vb f o st k kp = some out) (hR : R B τ g st a w) (hk : Goes B τ g a w o.dst k out next) : o.wpIn (FW ρ) n C.P a w next Q := by
  unfold vop at h
  rw [ho] at h
  dsimp only at h
  split at h
  · rename_i zs hz
    split at h
    · rename_i hok
      obtain ⟨hfo, hnd⟩ := hok
      split at h
      · rename_i cs st' hb
        obtain ⟨fs, places, hu, hpl, hq⟩ := fieldsOk_places hfo
        obtain ⟨it, zv, hit, hzv, e⟩ := zeroT_eq hz
        have hokz : okV (ofVal zv) = true := by rw [← e]; rfl
        obtain ⟨c1, c2⟩ := ofVal_cells (g := g) hokz
        rw [← e] at c1 c2
        obtain ⟨g', cur', hfill, l1, hR', e1, e2⟩ := buildV_sound (a := a) (w := w) (B := B) (τ := τ) hu (place := (places.toArray[·]?)) (fun i fl n hi hn => by
          simpa using hq i fl n hi hn) (o.dst.getD 0) parts.toList g st zs zv.cells cs st' (fun p hp e => by
            rw [List.all_eq_true] at hnd
            have := hnd p hp
            rw [e] at this
            simp [isTmp] at this) hb hR c1 (fun j c hj hc => c2 _ j c hj hc)
        refine wp_value (by simp [ho]) (v := .agg cur') (w' := w) ?_ (hk (.agg cs) st' g' _ w l1 hR' ⟨cur', rfl, e1, e2⟩ h)
        simp only [execOp, ho]
        refine run_v (run_build w t _ cur' ?_)
        simp only [Program.built, hit, hu, hzv, hpl]
        simpa using hfill
      · cases h
    · cases h
  · cases h

/-! ### make -/
theorem flat_get : ∀ (M : Nat) (zs : List V) (sz : Nat), zs.length = sz → 0 < sz → ∀ (j : Nat) (x : V), ((List.replicate M zs).flatten)[j]? = some x → zs[j % sz]? = some x
  | 0, zs, sz, _, _, j, x, h => by simp at h
  | M + 1, zs, sz, hz, h0, j, x, h => by
    rw [List.replicate_succ, List.flatten_cons] at h
    by_cases hj : j < sz
    · rw [List.getElem?_append_left (by omega)] at h
      rwa [Nat.mod_eq_of_lt hj]
    · rw [List.getElem?_append_right (by omega), hz] at h
      have := flat_get M zs sz hz h0 (j - sz) x h
      rwa [Nat.mod_eq_sub_mod (by omega)]

end
end Go.Fw
