/- Regions whose order is drawn (3): any order that is allowed comes to what the text's order comes to. -/
import Derived.Test.YtcobacfinalleaaFwDrawT
import Derived.Orders
set_option linter.all false
namespace Go.Fw
open Go.RowKit

theorem getS_set {fr : List V} {d t : Nat} {v : V} (h : d ≠ t) : getS (fr.set d v) t = getS fr t := by
  unfold getS
  rw [List.getD_eq_getElem?_getD, List.getD_eq_getElem?_getD, List.getElem?_set_ne h]

section
variable {C : Cx} {vb : Nat → FuncId → List V → List Blk → Option FOut} {f : FuncId} {ops : Array Oper} {un : List Nat} {h0 : Nat} {A : Nat → Kd}

def Step (C : Cx) (vb : Nat → FuncId → List V → List Blk → Option FOut) (f : FuncId) (ops : Array Oper) (un : List Nat) (h0 : Nat) (A : Nat → Kd) (i : Nat) (st st' : St) : Prop :=
  ∃ o, ops[i]? = some o ∧ (involved un i = true → h0 ≤ st.h.length) ∧
    ((guardV ops.toList o st = some false ∧ (involved un i = true → A i = .none) ∧ st' = put st o.dst (.tup [])) ∨
     (guardV ops.toList o st = some true ∧ (involved un i = true → calm un ops.toList i o st = true ∧ kindV C f o st = A i) ∧ ∃ v s, vopc C (vb i) f o st = some (v, s) ∧ st' = put s o.dst v))
def Run (C : Cx) (vb : Nat → FuncId → List V → List Blk → Option FOut) (f : FuncId) (ops : Array Oper) (un : List Nat) (h0 : Nat) (A : Nat → Kd) : List Nat → St → St → Prop
  | [], st, st' => st = st'
  | i :: r, st, st' => ∃ s, Step C vb f ops un h0 A i st s ∧ Run C vb f ops un h0 A r s st'

structure Looks (ops : Array Oper) (o : Oper) (st st2 : St) : Prop where
  at_ : ∀ t, t ∈ o.looksAt ops → getS st2.fr t = getS st.fr t
  dst : ∀ d, o.dst = some d → getS st2.fr d = getS st.fr d
theorem Looks.same {o : Oper} {st st2 : St} (h : Looks ops o st st2) : SameOn o st st2 := by
  refine ⟨fun x hx => ?_, h.dst⟩
  cases x with
  | tmp t =>
    refine h.at_ t ?_
    unfold Oper.looksAt
    exact List.mem_append_left _ (List.mem_filterMap.2 ⟨.tmp t, hx, rfl⟩)
  | _ => rfl
theorem Looks.guard {o : Oper} {st st2 : St} (h : Looks ops o st st2) : guardV ops.toList o st2 = guardV ops.toList o st := by
  unfold guardV
  cases hg : o.guard with
  | none => rfl
  | some p =>
    obtain ⟨j, want⟩ := p
    dsimp only
    unfold wantedV
    rw [Array.getElem?_toList]
    cases hd : (ops[j]?).bind (·.dst) with
    | none => rfl
    | some d =>
      dsimp only
      have : getS st2.fr d = getS st.fr d := h.at_ d (by
        unfold Oper.looksAt
        refine List.mem_append_right _ ?_
        rw [hg]
        dsimp only
        rw [hd]
        simp)
      rw [this]

def dstL (o : Oper) (v : V) : List (Nat × V) := match o.dst with | some d => [(d, v)] | none => []
theorem put_dstL (st : St) (o : Oper) (v : V) : put st o.dst v = upd (dstL o v) st := by
  unfold put dstL
  cases o.dst <;> rfl
theorem eff_upd (K : Kd) (b : Blk) (T : List (Nat × V)) (st : St) : eff K b (upd T st) = upd T (eff K b st) := by cases K <;> rfl

/-- The slots that an operation changes. -/
def Chg (ops : Array Oper) (un : List Nat) (i : Nat) (o : Oper) (U : List (Nat × V)) : Prop := ∀ p ∈ U, o.dst = some p.1 ∨ (p.1 ∈ o.looksAt ops ∧ freeTmp un ops.toList i (.tmp p.1) = true)

theorem looks_op {o : Oper} {t : Nat} (h : Operand.tmp t ∈ o.op.operands.toList) : t ∈ o.looksAt ops := by
  unfold Oper.looksAt
  exact List.mem_append_left _ (List.mem_filterMap.2 ⟨.tmp t, h, rfl⟩)

theorem step_nf {i : Nat} {st st' : St} (hi : involved un i = true) (hA : A i ≠ .any) (h : Step C vb f ops un h0 A i st st') :
    ∃ o U b, ops[i]? = some o ∧ h0 ≤ st.h.length ∧ Chg ops un i o U ∧ st' = upd U (eff (A i) b st) ∧ ∀ st2, Looks ops o st st2 → h0 ≤ st2.h.length → HC (A i) st st2 → Step C vb f ops un h0 A i st2 (upd U (eff (A i) b st2)) := by
  obtain ⟨o, ho, hlen, h | h⟩ := h
  · obtain ⟨hg, hn, rfl⟩ := h
    have hn := hn hi
    refine ⟨o, dstL o (.tup []), .dead, ho, hlen hi, ?_, by rw [hn, put_dstL]; rfl, fun st2 hl hl0 _ => ⟨o, ho, fun _ => hl0, .inl ⟨hl.guard.trans hg, fun _ => hn, by rw [hn, put_dstL]; rfl⟩⟩⟩
    intro p hp
    unfold dstL at hp
    split at hp
    · rename_i d hd
      simp only [List.mem_singleton] at hp
      subst hp
      exact .inl hd
    · simp at hp
  · obtain ⟨hg, hk, v, s, hv, rfl⟩ := h
    obtain ⟨hnl, hk⟩ := hk hi
    obtain ⟨b, T, rfl, hT, hnf⟩ := nft (by rw [hk]; exact hA) hnl hv
    rw [hk] at hnf ⊢
    refine ⟨o, T ++ dstL o v, b, ho, hlen hi, ?_, by rw [put_dstL, eff_upd, upd_upd], fun st2 hl hl0 hc => ⟨o, ho, fun _ => hl0, .inr ⟨hl.guard.trans hg, fun _ => ?_, v, _, (hnf st2 hl.same hc).1, by rw [put_dstL, eff_upd, upd_upd]⟩⟩⟩
    · intro p hp
      rcases List.mem_append.1 hp with hp | hp
      · exact .inr ⟨looks_op (hT p hp).1, (hT p hp).2⟩
      · unfold dstL at hp
        split at hp
        · rename_i d hd
          simp only [List.mem_singleton] at hp
          subst hp
          exact .inl hd
        · simp at hp
    · exact ⟨calm_same hl.same hnl, (hnf st2 hl.same hc).2⟩

theorem eff_fr (K : Kd) (b : Blk) (st : St) : (eff K b st).fr = st.fr := by cases K <;> rfl
theorem eff_len (K : Kd) (b : Blk) (st : St) : st.h.length ≤ (eff K b st).h.length := by cases K <;> simp [eff]
theorem put_h (st : St) (d : Option Tmp) (v : V) : (put st d v).h = st.h := by cases d <;> rfl

/-- What one operation has to do with the heap, seen behind another that is no hindrance. -/
theorem hc_past {K L : Kd} {b : Blk} {st : St} (hc : compatK h0 K L = true) (hl : h0 ≤ st.h.length) {U : List (Nat × V)} : HC L (upd U (eff K b st)) st ∧ HC L st (upd U (eff K b st)) := by
  have key : (match L with | .none => True | .rd id | .wr id => (eff K b st).h[id]? = st.h[id]? | .al => (eff K b st).h.length = st.h.length | .any => False) := by
    cases K <;> cases L <;> simp only [compatK, Bool.false_eq_true] at hc <;> simp only [eff] <;> try trivial
    case wr.rd a c =>
      have : a ≠ c := by simpa using hc
      exact List.getElem?_set_ne this
    case wr.wr a c =>
      have : a ≠ c := by simpa using hc
      exact List.getElem?_set_ne this
    case wr.al a => simp
    case al.rd c =>
      have : c < h0 := by simpa using hc
      exact List.getElem?_append_left (by omega)
    case al.wr c =>
      have : c < h0 := by simpa using hc
      exact List.getElem?_append_left (by omega)
  unfold HC
  cases L <;> first | exact ⟨trivial, trivial⟩ | exact ⟨key.symm, key⟩ | exact key.elim

theorem eff_comm {K L : Kd} {b c : Blk} {h1 : List Blk} {fr : List V} (hc : compatK h0 K L = true) (hl : h0 ≤ h1.length) : (eff L c (eff K b ⟨fr, h1⟩)).h = (eff K b (eff L c ⟨fr, h1⟩)).h := by
  cases K <;> cases L <;> simp only [compatK, Bool.false_eq_true] at hc <;> simp only [eff]
  case wr.wr x y =>
    have : x ≠ y := by simpa using hc
    exact List.set_comm _ _ this
  case wr.al x =>
    have : x < h0 := by simpa using hc
    rw [List.set_append_left _ _ (by omega)]
  case al.wr x =>
    have : x < h0 := by simpa using hc
    rw [List.set_append_left _ _ (by omega)]

theorem compat_symm {K L : Kd} (h : compatK h0 K L = true) : compatK h0 L K = true := by
  cases K <;> cases L <;> simp only [compatK, Bool.false_eq_true] at h ⊢ <;> first | exact h | (simp at h ⊢; exact fun e => h e.symm)

theorem freeTmp_spec {y x : Nat} {ox : Oper} {t : Nat} (hx : ops[x]? = some ox) (hu : unAt un y x = true ∨ unAt un x y = true) (h : freeTmp un ops.toList y (.tmp t) = true) : t ∉ ox.looksAt ops := by
  unfold freeTmp at h
  dsimp only at h
  rw [List.all_eq_true] at h
  have := h x (List.mem_range.2 (by simpa using (Array.getElem?_eq_some_iff.1 hx).1))
  have e : (unAt un y x || unAt un x y) = true := by simpa using hu
  rw [e, Array.getElem?_toList, hx] at this
  simpa using this

theorem swap {x y : Nat} {ox oy : Oper} {st s1 s2 : St} (hx : ops[x]? = some ox) (hy : ops[y]? = some oy) (hap : oy.apart ops ox = true) (iy : involved un y = true) (ix : involved un x = true)
    (hu : unAt un y x = true) (hc : compatK h0 (A y) (A x) = true) (h1 : Step C vb f ops un h0 A y st s1) (h2 : Step C vb f ops un h0 A x s1 s2) : ∃ t, Step C vb f ops un h0 A x st t ∧ Step C vb f ops un h0 A y t s2 := by
  have hany : ∀ K L : Kd, compatK h0 K L = true → K ≠ .any ∧ L ≠ .any := by
    intro K L h
    constructor
    · rintro rfl; cases L <;> cases h
    · rintro rfl; cases K <;> cases h
  have hny : A y ≠ .any := (hany _ _ hc).1
  have hnx : A x ≠ .any := (hany _ _ hc).2
  obtain ⟨oy', Uy, by_, hy', hly, cy, rfl, ny⟩ := step_nf iy hny h1
  rw [hy] at hy'; cases hy'
  obtain ⟨ox', Ux, bx, hx', hlx, cx, rfl, nx⟩ := step_nf ix hnx h2
  rw [hx] at hx'; cases hx'
  obtain ⟨a1, a2, a3⟩ := Oper.apart_spec hap
  have fy : ∀ p ∈ Uy, p.1 ∉ ox.looksAt ops := fun p hp => by
    rcases cy p hp with h | ⟨_, h⟩
    · exact a1 _ h
    · exact freeTmp_spec hx (.inl hu) h
  have fx : ∀ p ∈ Ux, p.1 ∉ oy.looksAt ops := fun p hp => by
    rcases cx p hp with h | ⟨_, h⟩
    · exact a3 _ h
    · exact freeTmp_spec hy (.inr hu) h
  have dy : ∀ p ∈ Uy, ∀ d, ox.dst = some d → p.1 ≠ d := fun p hp d hd e => by
    rcases cy p hp with h | ⟨h, _⟩
    · exact a2 _ h (by rw [hd, e])
    · exact a3 d hd (e ▸ h)
  have dx : ∀ p ∈ Ux, ∀ d, oy.dst = some d → p.1 ≠ d := fun p hp d hd e => by
    rcases cx p hp with h | ⟨h, _⟩
    · exact a2 d hd (by rw [h, e])
    · exact a1 d hd (e ▸ h)
  have dd : ∀ p ∈ Ux, ∀ q ∈ Uy, p.1 ≠ q.1 := fun p hp q hq e => by
    rcases cx p hp with h | ⟨h, _⟩
    · exact dy q hq _ h e.symm
    · exact fy q hq (e ▸ h)
  have hx1 := nx st ⟨fun t ht => by
      change getS st.fr t = getS (setAll Uy (eff (A y) by_ st).fr) t
      rw [eff_fr, getS_setAll (fun p hp e => fy p hp (by rw [e]; exact ht))],
    fun d hd => by
      change getS st.fr d = getS (setAll Uy (eff (A y) by_ st).fr) d
      rw [eff_fr, getS_setAll (fun p hp e => dy p hp d hd e)]⟩ hly (hc_past hc hly).1
  refine ⟨_, hx1, ?_⟩
  have hy1 := ny (upd Ux (eff (A x) bx st)) ⟨fun t ht => by
      change getS (setAll Ux (eff (A x) bx st).fr) t = getS st.fr t
      rw [eff_fr, getS_setAll (fun p hp e => fx p hp (by rw [e]; exact ht))],
    fun d hd => by
      change getS (setAll Ux (eff (A x) bx st).fr) d = getS st.fr d
      rw [eff_fr, getS_setAll (fun p hp e => dx p hp d hd e)]⟩ (Nat.le_trans hly (eff_len _ _ _)) (hc_past (compat_symm hc) hly).2
  have e : upd Uy (eff (A y) by_ (upd Ux (eff (A x) bx st))) = upd Ux (eff (A x) bx (upd Uy (eff (A y) by_ st))) := by
    have hh : (eff (A y) by_ (eff (A x) bx st)).h = (eff (A x) bx (eff (A y) by_ st)).h := (eff_comm (fr := st.fr) (h1 := st.h) hc hly).symm
    rw [eff_upd, eff_upd]
    have key : ∀ s : St, s = ⟨s.fr, s.h⟩ := fun s => rfl
    rw [key (upd Uy _), key (upd Ux (upd Uy _))]
    change St.mk (setAll Uy (setAll Ux (eff (A y) by_ (eff (A x) bx st)).fr)) (eff (A y) by_ (eff (A x) bx st)).h = St.mk (setAll Ux (setAll Uy (eff (A x) bx (eff (A y) by_ st)).fr)) (eff (A x) bx (eff (A y) by_ st)).h
    rw [hh, eff_fr, eff_fr, eff_fr, eff_fr, setAll_comm (fun p hp q hq e => dd q hq p hp e.symm)]
  rw [e] at hy1
  exact hy1

theorem run_append {l1 l2 : List Nat} : ∀ {st st' : St}, Run C vb f ops un h0 A (l1 ++ l2) st st' ↔ ∃ s, Run C vb f ops un h0 A l1 st s ∧ Run C vb f ops un h0 A l2 s st' := by
  induction l1 with
  | nil => intro st st'; exact ⟨fun h => ⟨st, rfl, h⟩, fun ⟨s, h1, h2⟩ => by cases h1; exact h2⟩
  | cons i r ih =>
    intro st st'
    constructor
    · rintro ⟨s, h1, h2⟩
      obtain ⟨s2, h3, h4⟩ := ih.1 h2
      exact ⟨s2, ⟨s, h1, h3⟩, h4⟩
    · rintro ⟨s2, ⟨s, h1, h3⟩, h4⟩
      exact ⟨s, h1, ih.2 ⟨s2, h3, h4⟩⟩

/-- The pairs that may change places. -/
def Free (ops : Array Oper) (un : List Nat) (h0 : Nat) (A : Nat → Kd) (y x : Nat) : Prop := unAt un y x = true ∧ involved un y = true ∧ involved un x = true ∧ compatK h0 (A y) (A x) = true ∧ ∃ oy ox, ops[y]? = some oy ∧ ops[x]? = some ox ∧ oy.apart ops ox = true

theorem move_front {x : Nat} : ∀ {l : List Nat} {st st' : St}, (∀ y ∈ l, Free ops un h0 A y x) → Run C vb f ops un h0 A (l ++ [x]) st st' → Run C vb f ops un h0 A (x :: l) st st'
  | [], st, st', _, h => h
  | y :: l, st, st', hf, h => by
    obtain ⟨s0, h1, h2⟩ := h
    obtain ⟨s1, h3, h4⟩ := move_front (fun z hz => hf z (by simp [hz])) h2
    obtain ⟨hu, iy, ix, hc, oy, ox, hoy, hox, hap⟩ := hf y (by simp)
    obtain ⟨t, h5, h6⟩ := swap hox hoy hap iy ix hu hc h1 h3
    exact ⟨t, h5, s1, h6, h4⟩

theorem run_perm {Ord : Nat → Nat → Prop} : ∀ (σ l : List Nat) {st st' : St}, σ.Nodup → l.Nodup → (∀ i, i ∈ σ ↔ i ∈ l) → l.Pairwise (· < ·) → σ.Pairwise (fun a b => ¬ Ord b a) →
    (∀ x ∈ l, ∀ y ∈ l, y < x → Ord y x ∨ Free ops un h0 A y x) → Run C vb f ops un h0 A l st st' → Run C vb f ops un h0 A σ st st'
  | [], l, st, st', _, _, hm, _, _, _, h => by
    have : l = [] := List.eq_nil_iff_forall_not_mem.2 (fun i hi => by have := (hm i).2 hi; simp at this)
    subst this
    exact h
  | x :: σ, l, st, st', hn, hl, hm, hs, ho, hf, h => by
    have hxl : x ∈ l := (hm x).1 (by simp)
    obtain ⟨l1, l2, rfl⟩ := List.append_of_mem hxl
    obtain ⟨hxσ, hn'⟩ := List.nodup_cons.1 hn
    have hxn : x ∉ l1 ∧ x ∉ l2 := by
      have := List.nodup_append.1 hl
      refine ⟨fun hx => ?_, ?_⟩
      · exact this.2.2 x hx x (by simp) rfl
      · have := List.nodup_cons.1 this.2.1; exact this.1
    have hpw := List.pairwise_append.1 hs
    have hfree : ∀ y ∈ l1, Free ops un h0 A y x := by
      intro y hy
      have hlt : y < x := hpw.2.2 y hy x (by simp)
      rcases hf x (by simp) y (by simp [hy]) hlt with h | h
      · exfalso
        have hyσ : y ∈ σ := by
          have := (hm y).2 (by simp [hy])
          rcases List.mem_cons.1 this with e | e
          · omega
          · exact e
        exact (List.pairwise_cons.1 ho).1 y hyσ h
      · exact h
    have h' : Run C vb f ops un h0 A ((l1 ++ [x]) ++ l2) st st' := by simpa using h
    obtain ⟨s, h1, h2⟩ := run_append.1 h'
    obtain ⟨s0, h3, h4⟩ := move_front hfree h1
    refine ⟨s0, h3, run_perm σ (l1 ++ l2) hn' ?_ (fun i => ?_) ?_ (List.pairwise_cons.1 ho).2 (fun a ha b hb => hf a ?_ b ?_) (run_append.2 ⟨s, h4, h2⟩)⟩
    · have := List.nodup_append.1 hl
      refine List.nodup_append.2 ⟨this.1, (List.nodup_cons.1 this.2.1).2, fun a ha b hb => this.2.2 a ha b (by simp [hb])⟩
    · have := hm i
      by_cases hix : i = x
      · subst hix
        exact ⟨fun h => absurd h hxσ, fun h => by rcases List.mem_append.1 h with h | h; exact absurd h hxn.1; exact absurd h hxn.2⟩
      · simpa [hix] using this
    · refine List.pairwise_append.2 ⟨hpw.1, (List.pairwise_cons.1 hpw.2.1).2, fun a ha b hb => hpw.2.2 a ha b (by simp [hb])⟩
    · rcases List.mem_append.1 ha with h | h <;> simp [h]
    · rcases List.mem_append.1 hb with h | h <;> simp [h]

/-- What the evaluator has seen. -/
theorem vdraw_run {ks : St → Option FOut} {out : FOut} : ∀ (l : List Nat) (acc : List (Nat × Kd)) (st : St), l.Nodup → (∀ p ∈ acc, p.1 ∉ l) → vdraw C vb f un h0 ops.toList l acc st ks = some out →
    ∃ (A : Nat → Kd) (stf : St), Run C vb f ops un h0 A l st stf ∧ ks stf = some out ∧ (∀ i ∈ l, involved un i = true → A i ≠ .any) ∧
      (∀ p ∈ acc, ∀ i ∈ l, unAt un p.1 i = true → involved un i = true → p.2 ≠ .any → compatK h0 p.2 (A i) = true) ∧ l.Pairwise (fun j i => unAt un j i = true → involved un j = true → involved un i = true → compatK h0 (A j) (A i) = true)
  | [], acc, st, _, _, h => ⟨fun _ => .none, st, rfl, h, by simp, by simp, .nil⟩
  | i :: r, acc, st, hn, ha, h => by
    obtain ⟨hir, hn'⟩ := List.nodup_cons.1 hn
    unfold vdraw at h
    rw [Array.getElem?_toList] at h
    cases ho : ops[i]? with
    | none => rw [ho] at h; cases h
    | some o =>
      rw [ho] at h
      dsimp only at h
      rcases condB_cases h with ⟨hlen, h⟩ | ⟨_, h⟩
      · have hlen : involved un i = true → h0 ≤ st.h.length := fun e => by rw [e] at hlen; simpa using hlen
        obtain ⟨b, hg, h⟩ := bindO_eq h
        rcases condB_cases h with ⟨hb, h⟩ | ⟨hb, h⟩
        · rw [hb] at hg
          rcases condB_cases h with ⟨hi, h⟩ | ⟨hi, h⟩
          · rcases condB_cases h with ⟨hc, h⟩ | ⟨_, h⟩
            · simp only [Bool.and_eq_true, List.all_eq_true] at hc
              obtain ⟨⟨hnl, hna⟩, hall⟩ := hc
              obtain ⟨q, hq, h⟩ := bindO_eq h
              obtain ⟨A, stf, h1, h2, h3, h4, h5⟩ := vdraw_run r ((i, kindV C f o st) :: acc) _ hn' (fun p hp => by
                rcases List.mem_cons.1 hp with rfl | hp
                · exact hir
                · exact fun hh => ha p hp (by simp [hh])) h
              let A' : Nat → Kd := fun j => if j = i then kindV C f o st else A j
              have hA : ∀ j ∈ r, A' j = A j := fun j hj => by
                have : j ≠ i := fun e => hir (e ▸ hj)
                simp [A', this]
              have hAi : A' i = kindV C f o st := by simp [A']
              have hrun : ∀ (r : List Nat) (s s' : St), (∀ j ∈ r, A' j = A j) → Run C vb f ops un h0 A r s s' → Run C vb f ops un h0 A' r s s' := by
                intro r
                induction r with
                | nil => intro s s' _ h; exact h
                | cons j r ih =>
                  rintro s s' he ⟨s2, ⟨o2, k1, k2, k3⟩, k4⟩
                  refine ⟨s2, ⟨o2, k1, k2, ?_⟩, ih s2 s' (fun x hx => he x (by simp [hx])) k4⟩
                  rw [he j (by simp)]
                  exact k3
              have hnany : kindV C f o st ≠ .any := fun e => by rw [e] at hna; cases hna
              refine ⟨A', stf, ⟨_, ⟨o, ho, hlen, .inr ⟨hg, fun _ => ⟨hnl, hAi.symm⟩, q.1, q.2, hq, rfl⟩⟩, hrun r _ _ hA h1⟩, h2, fun j hj hij => ?_, fun p hp j hj hu hij hpa => ?_, List.pairwise_cons.2 ⟨fun j hj hu hi' hij => ?_, ?_⟩⟩
              · rcases List.mem_cons.1 hj with rfl | hj
                · rw [hAi]; exact hnany
                · rw [hA j hj]; exact h3 j hj hij
              · rcases List.mem_cons.1 hj with rfl | hj
                · rw [hAi]
                  have := hall p hp
                  rw [hu] at this
                  simpa using this
                · rw [hA j hj]
                  exact h4 p (by simp [hp]) j hj hu hij hpa
              · rw [hAi, hA j hj]
                exact h4 (i, kindV C f o st) (by simp) j hj hu hij hnany
              · refine h5.imp_of_mem ?_
                intro a b ha' hb' hh
                rw [hA a ha', hA b hb']
                exact hh
            · cases h
          · obtain ⟨q, hq, h⟩ := bindO_eq h
            obtain ⟨A, stf, h1, h2, h3, h4, h5⟩ := vdraw_run r acc _ hn' (fun p hp hh => ha p hp (by simp [hh])) h
            refine ⟨A, stf, ⟨_, ⟨o, ho, hlen, .inr ⟨hg, fun e => (by rw [hi] at e; cases e), q.1, q.2, hq, rfl⟩⟩, h1⟩, h2, fun j hj hij => ?_, fun p hp j hj hu hij hpa => ?_, List.pairwise_cons.2 ⟨fun j hj hu hi' hij => ?_, h5⟩⟩
            · rcases List.mem_cons.1 hj with rfl | hj
              · rw [hi] at hij; cases hij
              · exact h3 j hj hij
            · rcases List.mem_cons.1 hj with rfl | hj
              · rw [hi] at hij; cases hij
              · exact h4 p hp j hj hu hij hpa
            · rw [hi] at hi'; cases hi'
        · rw [hb] at hg
          obtain ⟨A, stf, h1, h2, h3, h4, h5⟩ := vdraw_run r acc _ hn' (fun p hp hh => ha p hp (by simp [hh])) h
          let A' : Nat → Kd := fun j => if j = i then .none else A j
          have hA : ∀ j ∈ r, A' j = A j := fun j hj => by
            have : j ≠ i := fun e => hir (e ▸ hj)
            simp [A', this]
          have hAi : A' i = .none := by simp [A']
          have hrun : ∀ (r : List Nat) (s s' : St), (∀ j ∈ r, A' j = A j) → Run C vb f ops un h0 A r s s' → Run C vb f ops un h0 A' r s s' := by
            intro r
            induction r with
            | nil => intro s s' _ h; exact h
            | cons j r ih =>
              rintro s s' he ⟨s2, ⟨o2, k1, k2, k3⟩, k4⟩
              refine ⟨s2, ⟨o2, k1, k2, ?_⟩, ih s2 s' (fun x hx => he x (by simp [hx])) k4⟩
              rw [he j (by simp)]
              exact k3
          have hnn : ∀ K : Kd, K ≠ .any → compatK h0 K .none = true ∧ compatK h0 .none K = true := by
            intro K hK; cases K <;> first | exact ⟨rfl, rfl⟩ | exact absurd rfl hK
          refine ⟨A', stf, ⟨_, ⟨o, ho, hlen, .inl ⟨hg, fun _ => hAi, rfl⟩⟩, hrun r _ _ hA h1⟩, h2, fun j hj hij => ?_, fun p hp j hj hu hij hpa => ?_, List.pairwise_cons.2 ⟨fun j hj hu hi' hij => ?_, ?_⟩⟩
          · rcases List.mem_cons.1 hj with rfl | hj
            · rw [hAi]; simp
            · rw [hA j hj]; exact h3 j hj hij
          · rcases List.mem_cons.1 hj with rfl | hj
            · rw [hAi]; exact (hnn _ hpa).1
            · rw [hA j hj]
              exact h4 p hp j hj hu hij hpa
          · rw [hAi, hA j hj]
            exact (hnn _ (h3 j hj hij)).2
          · refine h5.imp_of_mem ?_
            intro a b ha' hb' hh
            rw [hA a ha', hA b hb']
            exact hh
      · cases h

/-- A run, in the model. -/
theorem run_sound (hvb : ∀ i, VbSound C (vb i)) {ρ : Option Nat} {n B τ : Nat} {g : Gh} {w : World} {Q : Exit → Act → World → Prop} {stf : St}
    (hn : ∀ g' a' w', Later B τ g g' w w' → R B τ g' stf a' w' → Q .normal a' w') :
    ∀ (l : List Nat) (st : St) (g1 : Gh) (a1 : Act) (w1 : World), Run C vb f ops un h0 A l st stf → Later B τ g g1 w w1 → R B τ g1 st a1 w1 → wpOpsIn (FW ρ) n C.P ops Q l a1 w1
  | [], st, g1, a1, w1, h, hl, hR => by cases h; exact hn g1 a1 w1 hl hR
  | i :: l, st, g1, a1, w1, h, hl, hR => by
    obtain ⟨s, ⟨o, ho, _, h⟩, hrun⟩ := h
    unfold wpOpsIn
    rw [ho]
    dsimp only
    rcases h with ⟨hg, _, rfl⟩ | ⟨hg, _, v, s', hv, rfl⟩
    · unfold guardV at hg
      cases hgd : o.guard with
      | none => rw [hgd] at hg; cases hg
      | some p =>
        obtain ⟨j, want⟩ := p
        rw [hgd] at hg
        have hws := wanted_sound hR hgd hg
        rw [if_neg (by rw [hws]; simp)]
        exact ⟨fun _ _ => trivial, run_sound hvb hn l _ g1 _ w1 hrun hl (skip_sound hR _)⟩
    · have hw : Region.wanted o (yielded ops a1.tmps) = true := by
        unfold guardV at hg
        cases hgd : o.guard with
        | none => exact wanted_none hgd
        | some p =>
          obtain ⟨j, want⟩ := p
          rw [hgd] at hg
          exact wanted_sound hR hgd hg
      rw [if_pos hw]
      refine vop_sound (hvb i) hv hR (fun v' st' g' u w' hl' hR' hvv hkk => ?_) (fun v' st' g' u w' d _ _ _ _ hkk => by cases hkk)
      cases hkk
      exact run_sound hvb hn l _ g' _ w' hrun (hl.trans hl') (put_sound hR' hvv)
end
end Go.Fw
