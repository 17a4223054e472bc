/- Regions whose order is drawn (4): the orders that can be drawn; the check. -/
import Derived.Test.YtcobacfinalleaaFwDraw3
set_option linter.all false
namespace Go.Fw
open Go.RowKit

inductive Ord (ops : Array Oper) : Nat → Nat → Prop
  | edge {i : Nat} {o : Oper} {e : Edge} (ho : ops[i]? = some o) (he : e ∈ o.after) (hb : Region.binds .any e = true) : Ord ops e.on i
  | step {i j : Nat} {o : Oper} {e : Edge} (ho : ops[i]? = some o) (he : e ∈ o.after) (hb : Region.binds .any e = true) (h : Ord ops j e.on) : Ord ops j i

def Pre (md : Region.Mode) (ops : Array Oper) (σ : List Nat) : Prop := ∀ pre i post, σ = pre ++ i :: post → ∀ o, ops[i]? = some o → ∀ e ∈ o.after, Region.binds md e = true → e.on ∈ pre

theorem binds_any {md : Region.Mode} {e : Edge} (h : Region.binds .any e = true) : Region.binds md e = true := by
  unfold Region.binds at *
  cases hg : e.ground <;> rw [hg] at h <;> first | rfl | (simp at h)

theorem ord_pre {md : Region.Mode} {ops : Array Oper} {σ : List Nat} (hp : Pre md ops σ) {i j : Nat} (h : Ord ops j i) : ∀ pre post, σ = pre ++ i :: post → j ∈ pre := by
  induction h with
  | edge ho he hb => exact fun pre post e => hp pre _ post e _ ho _ he (binds_any hb)
  | step ho he hb h ih =>
    intro pre post e
    have hin := hp pre _ post e _ ho _ he (binds_any hb)
    obtain ⟨p1, p2, rfl⟩ := List.append_of_mem hin
    have := ih p1 (p2 ++ _ :: post) (by rw [e, List.append_assoc]; rfl)
    exact List.mem_append_left _ this

theorem pairwise_split {α : Type} {T : α → α → Prop} : ∀ {σ : List α}, (∀ p a m b q, σ = p ++ a :: (m ++ b :: q) → T a b) → σ.Pairwise T
  | [], _ => .nil
  | x :: σ, h => by
    refine List.pairwise_cons.2 ⟨fun y hy => ?_, pairwise_split (fun p a m b q e => h (x :: p) a m b q (by rw [e]; rfl))⟩
    obtain ⟨m, q, rfl⟩ := List.append_of_mem hy
    exact h [] x m y q rfl

theorem pre_pairwise {md : Region.Mode} {ops : Array Oper} {σ : List Nat} (hp : Pre md ops σ) (hn : σ.Nodup) : σ.Pairwise (fun a b => ¬ Ord ops b a) := by
  refine pairwise_split (fun p a m b q e ho => ?_)
  have := ord_pre hp ho p (m ++ b :: q) e
  rw [e] at hn
  have h2 := (List.nodup_append.1 hn).2.2 b this b (by simp)
  exact h2 rfl

theorem nodup_sub_len {α : Type} [DecidableEq α] : ∀ {l m : List α}, l.Nodup → (∀ x ∈ l, x ∈ m) → l.length ≤ m.length
  | [], m, _, _ => Nat.zero_le _
  | x :: l, m, hn, h => by
    obtain ⟨h1, h2⟩ := List.nodup_cons.1 hn
    have hx := h x (by simp)
    have := nodup_sub_len (m := m.erase x) h2 (fun y hy => (List.mem_erase_of_ne (by rintro rfl; exact h1 hy)).2 (h y (by simp [hy])))
    rw [List.length_erase_of_mem hx] at this
    have hpos : 0 < m.length := List.length_pos_of_mem hx
    simp only [List.length_cons]
    omega

theorem full_mem {l : List Nat} {n : Nat} (hn : l.Nodup) (hb : ∀ x ∈ l, x < n) (hl : l.length = n) : ∀ i, i ∈ l ↔ i < n := by
  intro i
  refine ⟨hb i, fun hi => ?_⟩
  by_cases h : i ∈ l
  · exact h
  · exfalso
    have := nodup_sub_len (l := i :: l) (m := List.range n) (List.nodup_cons.2 ⟨h, hn⟩) (fun x hx => by
      rcases List.mem_cons.1 hx with rfl | hx
      · exact List.mem_range.2 hi
      · exact List.mem_range.2 (hb x hx))
    simp at this
    omega

structure Inv (md : Region.Mode) (ops : Array Oper) (listed : Array Bool) (acc : List Nat) : Prop where
  size : listed.size = ops.size
  mem : ∀ i, listed.getD i false = true ↔ i ∈ acc
  nodup : acc.Nodup
  lt : ∀ x ∈ acc, x < ops.size
  pre : Pre md ops acc.reverse

theorem Inv.next {md : Region.Mode} {ops : Array Oper} {listed : Array Bool} {acc : List Nat} (h : Inv md ops listed acc) {i : Nat} (hi : i ∈ Region.ready md ops listed) : Inv md ops (listed.setIfInBounds i true) (i :: acc) := by
  obtain ⟨h1, o, ho, h2⟩ := mem_ready.1 hi
  have hlt : i < ops.size := (Array.getElem?_eq_some_iff.1 ho).1
  have hnot : i ∉ acc := fun hm => by
    have := (h.mem i).2 hm
    have hs : i < listed.size := by rw [h.size]; exact hlt
    simp [hs] at this h1
    rw [this] at h1; cases h1
  refine ⟨by simpa using h.size, fun j => ?_, List.nodup_cons.2 ⟨hnot, h.nodup⟩, fun x hx => ?_, ?_⟩
  · by_cases hj : j = i
    · subst hj
      have hs : j < listed.size := by rw [h.size]; exact hlt
      simp [hs]
    · rw [getD_set_ne false (fun e => hj e.symm), h.mem j]
      simp [hj]
  · rcases List.mem_cons.1 hx with rfl | hx
    · exact hlt
    · exact h.lt x hx
  · intro pre k post e o' ho' ed hed hb
    rw [List.reverse_cons] at e
    rcases List.append_eq_append_iff.1 e with ⟨a', e1, e2⟩ | ⟨c', e1, e2⟩
    · cases a' with
      | nil =>
        simp only [List.nil_append, List.cons.injEq] at e2
        obtain ⟨rfl, _⟩ := e2
        rw [e1]
        rw [ho] at ho'
        cases ho'
        simp only [List.append_nil, List.mem_reverse]
        exact (h.mem _).1 (h2 ed hed hb)
      | cons z zs =>
        simp at e2
    · cases c' with
      | nil =>
        simp only [List.nil_append, List.cons.injEq] at e2
        obtain ⟨rfl, _⟩ := e2
        rw [ho] at ho'
        cases ho'
        simp only [List.append_nil] at e1
        rw [← e1]
        simp only [List.mem_reverse]
        exact (h.mem _).1 (h2 ed hed hb)
      | cons z zs =>
        simp only [List.cons_append, List.cons.injEq] at e2
        obtain ⟨rfl, _⟩ := e2
        exact h.pre pre k zs e1 o' ho' ed hed hb

theorem go_pre {md : Region.Mode} {ops : Array Oper} : ∀ (fuel t : Nat) (listed : Array Bool) (acc : List Nat), Inv md ops listed acc → ∃ (listed' : Array Bool) (acc' : List Nat), Region.linearise.go md ops fuel t listed acc = acc'.reverse ∧ Inv md ops listed' acc' ∧
    (fuel + acc.length = ops.size → acc'.length = ops.size ∨ Region.ready md ops listed' = []) := by
  intro fuel
  induction fuel with
  | zero => intro t listed acc h; exact ⟨listed, acc, rfl, h, fun e => .inl (by omega)⟩
  | succ fuel ih =>
    intro t listed acc h
    simp only [Region.linearise.go]
    change ∃ (listed' : Array Bool) (acc' : List Nat), (match (Region.ready md ops listed)[t % (Region.ready md ops listed).length]? with
      | some i => Region.linearise.go md ops fuel (t / (Region.ready md ops listed).length) (listed.setIfInBounds i true) (i :: acc)
      | none => acc.reverse) = acc'.reverse ∧ _
    cases hi : (Region.ready md ops listed)[t % (Region.ready md ops listed).length]? with
    | none =>
      refine ⟨listed, acc, rfl, h, fun _ => .inr ?_⟩
      cases hr : Region.ready md ops listed with
      | nil => rfl
      | cons x xs =>
        rw [hr] at hi
        have hlt : t % (x :: xs).length < (x :: xs).length := Nat.mod_lt _ (by simp)
        rw [List.getElem?_eq_getElem hlt] at hi
        cases hi
    | some i =>
      obtain ⟨l', a', h1, h2, h3⟩ := ih (t / (Region.ready md ops listed).length) _ _ (h.next (List.mem_of_getElem? hi))
      exact ⟨l', a', h1, h2, fun e => h3 (by simp only [List.length_cons]; omega)⟩

theorem inv_start (md : Region.Mode) (ops : Array Oper) : Inv md ops (Array.replicate ops.size false) [] := by
  refine ⟨by simp, fun i => ?_, List.nodup_nil, by simp, fun pre i post e => by simp at e⟩
  by_cases hi : i < ops.size <;> simp [hi]

theorem lin_pre (md : Region.Mode) (ops : Array Oper) (t : Nat) : (Region.linearise md ops t).Nodup ∧ (∀ x ∈ Region.linearise md ops t, x < ops.size) ∧ Pre md ops (Region.linearise md ops t) := by
  obtain ⟨l', a', h1, h2, _⟩ := go_pre ops.size t _ _ (inv_start md ops)
  unfold Region.linearise
  rw [h1]
  exact ⟨List.pairwise_reverse.2 (h2.nodup.imp (fun h e => h e.symm)), fun x hx => h2.lt x (by simpa using hx), h2.pre⟩

/-- There is an order. -/
def Topo (md : Region.Mode) (ops : Array Oper) : Prop := ∃ τ0 : List Nat, (∀ i, i ∈ τ0 ↔ i < ops.size) ∧ Pre md ops τ0

theorem first_not {acc : List Nat} : ∀ {l : List Nat}, (∃ i ∈ l, i ∉ acc) → ∃ p i q, l = p ++ i :: q ∧ i ∉ acc ∧ ∀ x ∈ p, x ∈ acc
  | [], h => by obtain ⟨i, hi, _⟩ := h; simp at hi
  | x :: l, h => by
    by_cases hx : x ∈ acc
    · obtain ⟨i, hi, hn⟩ := h
      have hil : i ∈ l := by
        rcases List.mem_cons.1 hi with rfl | hi
        · exact absurd hx hn
        · exact hi
      obtain ⟨p, j, q, rfl, h1, h2⟩ := first_not ⟨i, hil, hn⟩
      exact ⟨x :: p, j, q, rfl, h1, fun y hy => by
        rcases List.mem_cons.1 hy with rfl | hy
        · exact hx
        · exact h2 y hy⟩
    · exact ⟨[], x, l, rfl, hx, by simp⟩

theorem lin_full {md : Region.Mode} {ops : Array Oper} (hT : Topo md ops) (t : Nat) : (Region.linearise md ops t).length = ops.size := by
  obtain ⟨l', a', h1, h2, h3⟩ := go_pre ops.size t _ _ (inv_start md ops)
  unfold Region.linearise
  rw [h1, List.length_reverse]
  rcases h3 (by simp) with h | h
  · exact h
  · obtain ⟨τ0, hm, hp⟩ := hT
    by_cases hall : ∀ i ∈ τ0, i ∈ a'
    · have h4 := nodup_sub_len (l := List.range ops.size) (m := a') List.nodup_range (fun x hx => hall x ((hm x).2 (List.mem_range.1 hx)))
      have h5 := nodup_sub_len (l := a') (m := List.range ops.size) h2.nodup (fun x hx => List.mem_range.2 (h2.lt x hx))
      simp at h4 h5
      omega
    · exfalso
      have hex : ∃ i ∈ τ0, i ∉ a' := by
        apply Classical.byContradiction
        intro hne
        exact hall (fun i hi => Classical.byContradiction fun hn => hne ⟨i, hi, hn⟩)
      obtain ⟨p, i, q, rfl, hn, hpa⟩ := first_not hex
      have hlt := (hm i).1 (by simp)
      have : i ∈ Region.ready md ops l' := by
        refine mem_ready.2 ⟨?_, ops[i], Array.getElem?_eq_getElem hlt, fun e he hb => (h2.mem _).2 (hpa _ (hp p i q rfl _ (Array.getElem?_eq_getElem hlt) e he hb))⟩
        have hs : i < l'.size := by rw [h2.size]; exact hlt
        have hf : ¬ l'.getD i false = true := fun hh => hn ((h2.mem i).1 hh)
        simp [hs] at hf ⊢
        exact hf
      rw [h] at this
      simp at this

theorem topo_back {md : Region.Mode} {ops : Array Oper} (h : ∀ i o, ops[i]? = some o → ∀ e ∈ o.after, Region.binds md e = true → e.on < i) : Topo md ops := by
  refine ⟨List.range ops.size, fun i => List.mem_range, fun pre i post e o ho ed hed hb => ?_⟩
  have hlt := h i o ho ed hed hb
  have hi : i < ops.size := (Array.getElem?_eq_some_iff.1 ho).1
  have hin : ed.on ∈ List.range ops.size := List.mem_range.2 (by omega)
  have hpw : (List.range ops.size).Pairwise (· < ·) := List.pairwise_lt_range
  rw [e] at hin hpw
  rcases List.mem_append.1 hin with h | h
  · exact h
  · exfalso
    rcases List.mem_cons.1 h with h | h
    · omega
    · have := (List.pairwise_cons.1 (List.pairwise_append.1 hpw).2.1).1 _ h
      omega

def backOk (ops : Array Oper) : Bool := (List.range ops.size).all fun i => match ops[i]? with
  | some o => o.after.toList.all fun e => (match e.ground with | .gcOnly _ => true | _ => decide (e.on < i))
  | none => false
def topoOk (ops : Array Oper) : Bool := backOk ops && (!Region.departs ops || (Region.linearise .gc ops 0).length == ops.size)

theorem schedule_ok {ops : Array Oper} (h : topoOk ops = true) (mixed : Bool) (t : Nat) : ∃ md, (Region.schedule mixed ops t).Nodup ∧ (∀ i, i ∈ Region.schedule mixed ops t ↔ i < ops.size) ∧ Pre md ops (Region.schedule mixed ops t) := by
  unfold topoOk at h
  simp only [Bool.and_eq_true, Bool.or_eq_true, Bool.not_eq_true', beq_iff_eq] at h
  obtain ⟨hb, hg⟩ := h
  have back : ∀ md, md ≠ .gc → Topo md ops := by
    intro md hmd
    refine topo_back (fun i o ho e he hbd => ?_)
    unfold backOk at hb
    rw [List.all_eq_true] at hb
    have := hb i (List.mem_range.2 (Array.getElem?_eq_some_iff.1 ho).1)
    rw [ho] at this
    dsimp only at this
    rw [List.all_eq_true] at this
    have := this e (by simpa using he)
    unfold Region.binds at hbd
    cases hgr : e.ground with
    | gcOnly r =>
      rw [hgr] at hbd
      cases md <;> first | exact absurd rfl hmd | (simp at hbd; done)
    | _ => rw [hgr] at this; simpa using this
  have fin : ∀ md t, Topo md ops → ∃ md', (Region.linearise md ops t).Nodup ∧ (∀ i, i ∈ Region.linearise md ops t ↔ i < ops.size) ∧ Pre md' ops (Region.linearise md ops t) := by
    intro md t hT
    obtain ⟨h1, h2, h3⟩ := lin_pre md ops t
    exact ⟨md, h1, full_mem h1 h2 (lin_full hT t), h3⟩
  unfold Region.schedule
  split
  · exact fin .any t (back _ (by simp))
  · rename_i hm
    have hdep : Region.departs ops = true := by
      cases hd : Region.departs ops with
      | true => rfl
      | false => rw [hd] at hm; simp at hm
    have hgc : Topo .gc ops := by
      rcases hg with h | h
      · rw [hdep] at h; cases h
      · obtain ⟨h1, h2, h3⟩ := lin_pre .gc ops 0
        exact ⟨_, full_mem h1 h2 h, h3⟩
    split
    · exact fin .text _ (back _ (by simp))
    · exact fin .gc _ hgc

/-! ### the check -/
def maskOf (acc : List Nat) (o : Oper) : Nat := o.after.toList.foldl (fun s e => if Region.binds .any e then s ||| 2 ^ e.on ||| acc.getD e.on 0 else s) 0
def masks : List Oper → List Nat → List Nat
  | [], acc => acc
  | o :: r, acc => masks r (acc ++ [maskOf acc o])

theorem maskOf_spec {acc : List Nat} {T : Nat → Prop} : ∀ (es : List Edge) (s : Nat), (∀ j, s.testBit j = true → T j) → (∀ e ∈ es, Region.binds .any e = true → T e.on ∧ ∀ j, (acc.getD e.on 0).testBit j = true → T j) →
    ∀ j, (es.foldl (fun s e => if Region.binds .any e then s ||| 2 ^ e.on ||| acc.getD e.on 0 else s) s).testBit j = true → T j
  | [], s, h, _, j, hj => h j hj
  | e :: es, s, h, he, j, hj => by
    rw [List.foldl_cons] at hj
    refine maskOf_spec es _ (fun k hk => ?_) (fun e' he' => he e' (by simp [he'])) j hj
    split at hk
    · rename_i hb
      rw [Nat.testBit_or, Nat.testBit_or, Bool.or_eq_true, Bool.or_eq_true] at hk
      rcases hk with (hk | hk) | hk
      · exact h k hk
      · rw [Nat.testBit_two_pow] at hk
        have : e.on = k := by simpa using hk
        exact this ▸ (he e (by simp) hb).1
      · exact (he e (by simp) hb).2 k hk
    · exact h k hk

theorem masks_spec {ops : Array Oper} : ∀ (rest done : List Oper) (acc : List Nat), ops.toList = done ++ rest → acc.length = done.length → (∀ i m, acc[i]? = some m → ∀ j, m.testBit j = true → Ord ops j i) →
    ∀ i m, (masks rest acc)[i]? = some m → ∀ j, m.testBit j = true → Ord ops j i
  | [], done, acc, _, _, h => h
  | o :: rest, done, acc, he, hl, h => by
    unfold masks
    refine masks_spec rest (done ++ [o]) _ (by rw [he]; simp) (by simp [hl]) (fun i m hm j hj => ?_)
    by_cases hi : i < acc.length
    · rw [List.getElem?_append_left hi] at hm
      exact h i m hm j hj
    · rw [List.getElem?_append_right (by omega)] at hm
      have hi0 : i - acc.length = 0 := by
        have := (List.getElem?_eq_some_iff.1 hm).1
        simp at this; omega
      rw [hi0] at hm
      simp only [List.getElem?_cons_zero, Option.some.injEq] at hm
      subst hm
      have hie : i = done.length := by omega
      have ho : ops[i]? = some o := by
        rw [← Array.getElem?_toList, he, hie]
        simp
      refine maskOf_spec (T := fun j => Ord ops j i) _ 0 (fun j hj => by simp at hj) (fun e hed hb => ⟨.edge ho (by simpa using hed) hb, fun k hk => ?_⟩) j hj
      refine .step ho (by simpa using hed) hb ?_
      rw [List.getD_eq_getElem?_getD] at hk
      cases hm : acc[e.on]? with
      | none => rw [hm] at hk; simp at hk
      | some m => rw [hm] at hk; exact h _ m hm k hk

def okUn (ops : Array Oper) (un : List Nat) : Bool :=
  ((List.range ops.size).all fun i => (List.range i).all fun j => ((masks ops.toList []).getD i 0).testBit j || (unAt un j i && (match ops[j]?, ops[i]? with | some x, some y => x.apart ops y | _, _ => false))) && topoOk ops

theorem R.drew {B τ : Nat} {g : Gh} {st : St} {a : Act} {w : World} (h : R B τ g st a w) : R B τ g st a { w with drawn := w.drawn + 1 } :=
  ⟨h.size, h.slots, ⟨h.heap.bound, h.heap.inj, h.heap.fresh, h.heap.blk⟩, ⟨h.mem.at_⟩, ⟨h.lin.at_⟩, h.base, h.defers⟩

theorem draw_sound {C : Cx} {f : FuncId} {id : Nat} {ops : Array Oper} (hok : ∀ un, C.un f id = some un → okUn ops un = true) : DrawSound C f id ops := by
  intro un hun vb st _ hvb ks out h ρ n B τ g a w Q hR hQ
  have hk := hok un hun
  unfold okUn at hk
  rw [Bool.and_eq_true] at hk
  obtain ⟨hk, htopo⟩ := hk
  rw [List.all_eq_true] at hk
  obtain ⟨A, stf, h1, h2, h3, _, h5⟩ := vdraw_run (List.range ops.size) [] st List.nodup_range (by simp) h
  refine wpIn_region_draw (fun t => ?_)
  obtain ⟨md, hn, hm, hp⟩ := schedule_ok htopo (C.P.follows .mixedOrders) t
  have hperm := run_perm (C := C) (vb := vb) (f := f) (ops := ops) (un := un) (h0 := st.h.length) (A := A) (Ord := Ord ops) _ (List.range ops.size) hn List.nodup_range (fun i => (hm i).trans List.mem_range.symm) List.pairwise_lt_range (pre_pairwise hp hn) (fun x hx y hy hlt => ?_) h1
  · exact run_sound hvb (g := g) (w := w) (fun g' a' w' hl hR' => hQ stf g' a' w' hl hR' h2) _ st g a _ hperm ⟨(Below.refl B w).drew, MemLe.refl _, fun _ _ => rfl, fun _ _ h => h, fun _ _ h _ => h⟩ hR.drew
  · have hxs := List.mem_range.1 hx
    have := hk x hx
    rw [List.all_eq_true] at this
    have := this y (List.mem_range.2 hlt)
    rw [Bool.or_eq_true, Bool.and_eq_true] at this
    rcases this with h | ⟨hu, hap⟩
    · left
      rw [List.getD_eq_getElem?_getD] at h
      cases hmm : (masks ops.toList [])[x]? with
      | none => rw [hmm] at h; simp at h
      | some m =>
        rw [hmm] at h
        exact masks_spec ops.toList [] [] (by simp) rfl (fun i m hi => by simp at hi) x m hmm y h
    · right
      have hix : involved un x = true := by
        unfold involved
        unfold unAt at hu
        rw [Bool.or_eq_true]
        left
        simp only [bne_iff_ne, ne_eq]
        intro e
        rw [e] at hu; simp at hu
      have hiy : involved un y = true := by
        unfold involved
        unfold unAt at hu
        rw [Bool.or_eq_true]
        right
        rw [List.getD_eq_getElem?_getD] at hu
        cases hmm : un[x]? with
        | none => rw [hmm] at hu; simp at hu
        | some m =>
          rw [hmm] at hu
          exact List.any_eq_true.2 ⟨m, List.mem_of_getElem? hmm, hu⟩
      refine ⟨hu, hiy, hix, ?_, ?_⟩
      · have := List.pairwise_iff_getElem.1 h5 y x (by simp; omega) (by simpa using hxs) hlt
        simp only [List.getElem_range] at this
        exact this hu hiy hix
      · split at hap
        · rename_i oy ox hoy hox
          exact ⟨oy, ox, hoy, hox, hap⟩
        · cases hap

/-- The check of a function: all its regions whose order is drawn and that are given. -/
def drawsOk (C : Cx) (f : FuncId) : Bool := match C.P.funcs[f]? with
  | some fn => match fn.body with
    | some c => (drawRegs c).all fun p => match C.un f p.1 with
      | some un => okUn p.2 un
      | none => true
    | none => true
  | none => true

theorem vcall_ok (C : Cx) (hD : ∀ f, (∃ id, C.un f id ≠ none) → drawsOk C f = true) (n : Nat) : VbSound C (vcall C n) := by
  refine vcall_sound C (fun f fn c hf hc p hp => draw_sound (fun un hun => ?_)) n
  have := hD f ⟨p.1, by rw [hun]; simp⟩
  unfold drawsOk at this
  rw [hf] at this
  dsimp only at this
  rw [hc] at this
  dsimp only at this
  rw [List.all_eq_true] at this
  have := this p hp
  rw [hun] at this
  exact this
end Go.Fw
