/- Regions whose order is drawn (2b): operations that take what grows. -/
import Derived.Test.YtcobacfinalleaaFwDraw2
set_option linter.all false
namespace Go.Fw
open Go.RowKit

def setAll (T : List (Nat × V)) (fr : List V) : List V := T.foldl (fun fr p => fr.set p.1 p.2) fr
theorem setAll_nil (fr : List V) : setAll [] fr = fr := rfl
theorem setAll_cons (p : Nat × V) (T : List (Nat × V)) (fr : List V) : setAll (p :: T) fr = setAll T (fr.set p.1 p.2) := rfl
theorem setAll_append (T U : List (Nat × V)) (fr : List V) : setAll (T ++ U) fr = setAll U (setAll T fr) := List.foldl_append
theorem setAll_set {d : Nat} {v : V} : ∀ {T : List (Nat × V)} {fr : List V}, (∀ p ∈ T, p.1 ≠ d) → setAll T (fr.set d v) = (setAll T fr).set d v
  | [], _, _ => rfl
  | p :: T, fr, h => by
    rw [setAll_cons, setAll_cons, ← setAll_set (fun q hq => h q (by simp [hq])), List.set_comm _ _ (h p (by simp)).symm]
theorem setAll_comm {U : List (Nat × V)} : ∀ {T : List (Nat × V)} {fr : List V}, (∀ p ∈ T, ∀ q ∈ U, p.1 ≠ q.1) → setAll T (setAll U fr) = setAll U (setAll T fr)
  | [], _, _ => rfl
  | p :: T, fr, h => by
    rw [setAll_cons, setAll_cons, ← setAll_set (T := U) (fun q hq e => h p (by simp) q hq e.symm), setAll_comm (fun a ha b hb => h a (by simp [ha]) b hb)]
theorem getS_setAll {t : Nat} : ∀ {T : List (Nat × V)} {fr : List V}, (∀ p ∈ T, p.1 ≠ t) → getS (setAll T fr) t = getS fr t
  | [], _, _ => rfl
  | p :: T, fr, h => by
    rw [setAll_cons, getS_setAll (fun q hq => h q (by simp [hq]))]
    unfold getS
    rw [List.getD_eq_getElem?_getD, List.getD_eq_getElem?_getD, List.getElem?_set_ne (h p (by simp))]

def upd (T : List (Nat × V)) (st : St) : St := { st with fr := setAll T st.fr }
theorem upd_nil (st : St) : upd [] st = st := rfl
theorem upd_upd (T U : List (Nat × V)) (st : St) : upd U (upd T st) = upd (T ++ U) st := by unfold upd; rw [setAll_append]

/-- What taking an operand does to the slots. -/
def takeL (st : St) (x : Operand) : List (Nat × V) := match x with
  | .tmp t => condB (isLin3 (getS st.fr t)) [(t, map3 drop1 (getS st.fr t))] []
  | _ => []
def useL (st : St) (x : Operand) : List (Nat × V) := match x with
  | .tmp t => condB (isLin3 (getS st.fr t)) [(t, map3 mark1 (getS st.fr t))] []
  | _ => []
theorem takeS_upd {st st2 : St} {x : Operand} (h : st2.peek x = st.peek x) : st2.takeS x = upd (takeL st x) st2 := by
  cases x with
  | tmp t =>
    have h : getS st2.fr t = getS st.fr t := h
    unfold St.takeS takeL
    dsimp only
    rw [h]
    cases isLin3 (getS st.fr t)
    · rw [condB_false, condB_false]; rfl
    · rw [condB_true, condB_true]; rfl
  | _ => rfl
theorem useS_upd {st st2 : St} {x : Operand} (h : st2.peek x = st.peek x) : st2.useS x = upd (useL st x) st2 := by
  cases x with
  | tmp t =>
    have h : getS st2.fr t = getS st.fr t := h
    unfold St.useS useL
    dsimp only
    rw [h]
    cases isLin3 (getS st.fr t)
    · rw [condB_false, condB_false]; rfl
    · rw [condB_true, condB_true]; rfl
  | _ => rfl
theorem takeL_mem {st : St} {x : Operand} {p : Nat × V} (h : p ∈ takeL st x) : x = .tmp p.1 ∧ isLin3 (st.peek x) = true := by
  cases x with
  | tmp t =>
    unfold takeL at h
    dsimp only at h
    cases hl : isLin3 (getS st.fr t) with
    | false => rw [hl, condB_false] at h; simp at h
    | true =>
      rw [hl, condB_true] at h
      simp only [List.mem_singleton] at h
      subst h
      exact ⟨rfl, hl⟩
  | _ => simp [takeL] at h
theorem useL_mem {st : St} {x : Operand} {p : Nat × V} (h : p ∈ useL st x) : x = .tmp p.1 ∧ isLin3 (st.peek x) = true := by
  cases x with
  | tmp t =>
    unfold useL at h
    dsimp only at h
    cases hl : isLin3 (getS st.fr t) with
    | false => rw [hl, condB_false] at h; simp at h
    | true =>
      rw [hl, condB_true] at h
      simp only [List.mem_singleton] at h
      subst h
      exact ⟨rfl, hl⟩
  | _ => simp [useL] at h

theorem lin_lt {fr : List V} {t : Nat} (h : isLin3 (getS fr t) = true) : t < fr.length := by
  apply Classical.byContradiction
  intro hn
  unfold getS at h
  rw [List.getD_eq_getElem?_getD, List.getElem?_eq_none (by omega)] at h
  cases h

theorem same_upd {st st2 : St} {x : Operand} : ∀ {T : List (Nat × V)} {a b : List V}, (∀ p ∈ T, p.1 < a.length ∧ p.1 < b.length) → ∀ {t : Nat}, getS b t = getS a t → getS (setAll T b) t = getS (setAll T a) t
  | [], _, _, _, _, h => h
  | p :: T, a, b, hT, t, h0 => by
    rw [setAll_cons, setAll_cons]
    refine same_upd (st := st) (st2 := st2) (x := x) (fun q hq => by simpa using hT q (by simp [hq])) ?_
    unfold getS at h0 ⊢
    rw [List.getD_eq_getElem?_getD, List.getD_eq_getElem?_getD] at h0 ⊢
    by_cases hp : p.1 = t
    · subst hp
      rw [List.getElem?_set_self (hT p (by simp)).2, List.getElem?_set_self (hT p (by simp)).1]
    · rw [List.getElem?_set_ne hp, List.getElem?_set_ne hp]
      exact h0

theorem lin_back {st : St} {x : Operand} {L : List (Nat × V)} (hL : L = [] ∨ ∃ t v, L = [(t, v)] ∧ isLin3 (getS st.fr t) = true) {t : Nat} (h : isLin3 (getS (upd L st).fr t) = true) : isLin3 (getS st.fr t) = true := by
  rcases hL with rfl | ⟨t0, v, rfl, h0⟩
  · exact h
  · by_cases e : t0 = t
    · exact e ▸ h0
    · have := getS_setAll (t := t) (T := [(t0, v)]) (fr := st.fr) (by simpa using e)
      unfold upd at h
      rw [this] at h
      exact h
theorem takeL_form (st : St) (x : Operand) : takeL st x = [] ∨ ∃ t v, takeL st x = [(t, v)] ∧ isLin3 (getS st.fr t) = true := by
  cases x with
  | tmp t =>
    unfold takeL
    dsimp only
    cases hl : isLin3 (getS st.fr t) with
    | false => rw [condB_false]; exact .inl rfl
    | true => rw [condB_true]; exact .inr ⟨_, _, rfl, hl⟩
  | _ => exact .inl rfl
theorem useL_form (st : St) (x : Operand) : useL st x = [] ∨ ∃ t v, useL st x = [(t, v)] ∧ isLin3 (getS st.fr t) = true := by
  cases x with
  | tmp t =>
    unfold useL
    dsimp only
    cases hl : isLin3 (getS st.fr t) with
    | false => rw [condB_false]; exact .inl rfl
    | true => rw [condB_true]; exact .inr ⟨_, _, rfl, hl⟩
  | _ => exact .inl rfl
theorem takeL_rng {st st2 : St} {x : Operand} (hx : st2.peek x = st.peek x) : ∀ p ∈ takeL st x, p.1 < st.fr.length ∧ p.1 < st2.fr.length := by
  intro p hp
  obtain ⟨e, h⟩ := takeL_mem hp
  have h2 := h
  rw [← hx] at h2
  rw [e] at h h2
  exact ⟨lin_lt h, lin_lt h2⟩
theorem useL_rng {st st2 : St} {x : Operand} (hx : st2.peek x = st.peek x) : ∀ p ∈ useL st x, p.1 < st.fr.length ∧ p.1 < st2.fr.length := by
  intro p hp
  obtain ⟨e, h⟩ := useL_mem hp
  have h2 := h
  rw [← hx] at h2
  rw [e] at h h2
  exact ⟨lin_lt h, lin_lt h2⟩
theorem peek_updL {st st2 : St} {L : List (Nat × V)} {y : Operand} (hL : ∀ p ∈ L, p.1 < st.fr.length ∧ p.1 < st2.fr.length) (hy : st2.peek y = st.peek y) : (upd L st2).peek y = (upd L st).peek y := by
  cases y with
  | tmp t => exact same_upd (st := st) (st2 := st2) (x := .tmp t) hL hy
  | _ => rfl
theorem peek_upd {st st2 : St} {x : Operand} {y : Operand} (hx : st2.peek x = st.peek x) (hy : st2.peek y = st.peek y) : (upd (takeL st x) st2).peek y = (upd (takeL st x) st).peek y := peek_updL (takeL_rng hx) hy

theorem buildV_takes {P : Program} {t : TypeId} : ∀ {parts : List (Nat × Operand)} {cs : List V} {st : St} {q : List V × St}, buildV P t st cs parts = some q →
    ∃ T : List (Nat × V), q.2 = upd T st ∧ (∀ p ∈ T, Operand.tmp p.1 ∈ parts.map (·.2) ∧ isLin3 (getS st.fr p.1) = true) ∧ ∀ st2 : St, (∀ p ∈ parts, st2.peek p.2 = st.peek p.2) → buildV P t st2 cs parts = some (q.1, upd T st2)
  | [], cs, st, q, h => by
    unfold buildV at h
    cases h
    exact ⟨[], rfl, by simp, fun st2 _ => rfl⟩
  | (i, x) :: r, cs, st, q, h => by
    unfold buildV at h
    split at h
    · rename_i g hg
      split at h
      · rename_i n hn
        split at h
        · rename_i hc
          obtain ⟨T, h1, h2, h3⟩ := buildV_takes h
          have e0 := takeS_upd (st := st) (st2 := st) (x := x) rfl
          rw [e0] at h1 h2
          refine ⟨takeL st x ++ T, by rw [h1, upd_upd], fun p hp => ?_, fun st2 hs => ?_⟩
          · rcases List.mem_append.1 hp with hp | hp
            · obtain ⟨e, hl⟩ := takeL_mem hp
              rw [e] at hl
              exact ⟨by simp [e], hl⟩
            · have := h2 p hp
              exact ⟨by simp only [List.map_cons, List.mem_cons]; exact .inr this.1, lin_back (x := x) (takeL_form st x) this.2⟩
          · have hx := hs (i, x) (by simp)
            dsimp only at hx
            unfold buildV
            rw [hg]
            dsimp only
            rw [hn]
            dsimp only
            rw [hx, if_pos hc, takeS_upd hx, ← upd_upd]
            refine h3 _ (fun p hp => ?_)
            rw [e0]
            exact peek_upd hx (hs p (by simp [hp]))
        · cases h
      · cases h
    · cases h

section
variable {C : Cx} {vb : FuncId → List V → List Blk → Option FOut} {f : FuncId} {o : Oper} {st : St}

/-- The normal form of an operation that takes. -/
def NFT (C : Cx) (vb : FuncId → List V → List Blk → Option FOut) (f : FuncId) (o : Oper) (st : St) (v : V) (s : St) : Prop :=
  ∃ (b : Blk) (T : List (Nat × V)), s = eff (kindV C f o st) b (upd T st) ∧ (∀ p ∈ T, Operand.tmp p.1 ∈ o.op.operands.toList ∧ isLin3 (getS st.fr p.1) = true) ∧
    ∀ st2, SameOn o st st2 → HC (kindV C f o st) st st2 → vopc C vb f o st2 = some (v, eff (kindV C f o st) b (upd T st2)) ∧ kindV C f o st2 = kindV C f o st

theorem nft_build {t : TypeId} {parts : Array (Nat × Operand)} (ho : o.op = .build t parts) {v : V} {s : St} (h : vopc C vb f o st = some (v, s)) : NFT C vb f o st v s := by
  have hk : ∀ st, kindV C f o st = .none := fun st => by unfold kindV; rw [ho]
  unfold NFT
  rw [hk]
  unfold vopc vop at h ⊢
  rw [ho] at h ⊢
  dsimp only at h ⊢
  split at h
  · rename_i zs hz
    split at h
    · rename_i hc
      split at h
      · rename_i cs st' hb
        cases h
        obtain ⟨T, h1, h2, h3⟩ := buildV_takes hb
        refine ⟨.dead, T, h1, fun p hp => ⟨?_, (h2 p hp).2⟩, fun st2 hs _ => ?_⟩
        · simp only [Op.operands]
          have := (h2 p hp).1
          simpa using this
        · have := h3 st2 (fun p hp => hs.peek p.2 (by simp only [ho, Op.operands]; exact List.mem_map.2 ⟨p, hp, rfl⟩))
          rw [if_pos hc, this, hk]
          exact ⟨rfl, rfl⟩
      · cases h
    · cases h
  · cases h

theorem nft_store {t : TypeId} {a x : Operand} (ho : o.op = .store t a x) {v : V} {s : St} (h : vopc C vb f o st = some (v, s)) : NFT C vb f o st v s := by
  have ha : a ∈ o.op.operands.toList := by simp [ho, Op.operands]
  have hx : x ∈ o.op.operands.toList := by simp [ho, Op.operands]
  have hks : ∀ st2, SameOn o st st2 → kindV C f o st2 = kindV C f o st := fun st2 hs => by unfold kindV; rw [ho]; dsimp only; rw [hs.peek a ha]
  unfold NFT
  have hkd : kindV C f o st = match st.peek a with | .ptr id _ => .wr id | _ => .any := by unfold kindV; rw [ho]; rfl
  unfold vopc vop at h
  rw [ho] at h
  dsimp only at h
  split at h
  · rename_i n hn
    split at h
    · rename_i id off hp
      split at h
      · rename_i cs e hcs
        split at h
        · rename_i hc
          cases h
          rw [hp] at hkd
          dsimp only at hkd
          refine ⟨.cells (setAt cs off (st.peek x).cells) e, takeL st x, ?_, fun p hp => ?_, fun st2 hs hcc => ⟨?_, hks st2 hs⟩⟩
          · rw [hkd, takeS_upd (st := st) rfl]
            rfl
          · obtain ⟨e1, hl⟩ := takeL_mem hp
            rw [e1] at hl
            exact ⟨e1 ▸ hx, hl⟩
          · rw [hkd] at hcc ⊢
            have hcc : st2.h[id]? = st.h[id]? := hcc
            unfold vopc vop
            rw [ho]
            dsimp only
            rw [hn]
            dsimp only
            rw [hs.peek a ha, hp]
            dsimp only
            rw [hcc, hcs]
            dsimp only
            rw [hs.peek x hx, if_pos hc, takeS_upd (hs.peek x hx)]
            rfl
        · cases h
      · cases h
    · cases h
  · cases h
theorem nft_append {c : Call} (ho : o.op = .call c) (hb : c.callee = .builtin .append) {v : V} {s : St} (hk : kindV C f o st ≠ .any) (h : vopc C vb f o st = some (v, s)) : NFT C vb f o st v s := by
  have hkk : ∃ d sl r, o.dst = some d ∧ c.args.toList = sl :: r ∧ (∀ i j l r, st.peek sl ≠ .own i j l r) := by
    unfold kindV at hk
    rw [ho] at hk
    dsimp only at hk
    rw [hb] at hk
    dsimp only at hk
    split at hk
    · rename_i s r hs
      split at hk
      · exact absurd rfl hk
      · rename_i hno
        split at hk
        · rename_i hd
          obtain ⟨d, hd⟩ := Option.isSome_iff_exists.1 hd
          exact ⟨d, s, r, hd, hs, fun i j l r e => hno i j l r e⟩
        · exact absurd rfl hk
    · exact absurd rfl hk
  obtain ⟨d, sl, r, hd, hsl, hno⟩ := hkk
  have hsin : sl ∈ o.op.operands.toList := call_args ho (by rw [hsl]; simp)
  have hks : ∀ st2 : St, st2.peek sl = st.peek sl → kindV C f o st2 = .none := by
    intro st2 e
    unfold kindV
    rw [ho]
    dsimp only
    rw [hb]
    dsimp only
    rw [hsl]
    dsimp only
    rw [e]
    split
    · rename_i hp
      exact absurd hp (hno _ _ _ _)
    · rw [hd]; rfl
  unfold NFT
  rw [hks st rfl]
  unfold vopc vop at h
  rw [ho] at h
  dsimp only at h
  rw [hb] at h
  dsimp only at h
  rw [hsl] at h
  split at h
  · rename_i s0 x t tx hsx htt
    injection hsx with h1 h2
    subst h1 h2
    have hxin : x ∈ o.op.operands.toList := call_args ho (by rw [hsl]; simp)
    split at h
    · rename_i e et he het
      split at h
      · rename_i hp
        exact absurd hp (hno _ _ _ _)
      split at h
      · rename_i by_ sz z m ys hby hsz hz hel
        split at h
        · rename_i hc
          split at h
          · rename_i n v' hva
            rcases condB_cases h with ⟨hcc, h⟩ | ⟨_, h⟩
            · cases h
              have e1 : st.useS x = upd (useL st x) st := useS_upd rfl
              have e2 : (upd (useL st x) st).takeS sl = upd (takeL (upd (useL st x) st) sl) (upd (useL st x) st) := takeS_upd rfl
              rw [e1] at hva hcc ⊢
              rw [e2] at hcc ⊢
              rw [upd_upd] at hcc ⊢
              refine ⟨.dead, _, rfl, fun p hp => ?_, fun st2 hs _ => ⟨?_, hks st2 (hs.peek sl hsin)⟩⟩
              · rcases List.mem_append.1 hp with hp | hp
                · obtain ⟨e, hl⟩ := useL_mem hp
                  rw [e] at hl
                  exact ⟨e ▸ hxin, hl⟩
                · obtain ⟨e, hl⟩ := takeL_mem hp
                  rw [e] at hl
                  exact ⟨e ▸ hsin, lin_back (x := x) (useL_form st x) hl⟩
              · have hx := hs.peek x hxin
                have hsp := hs.peek sl hsin
                have hs1 : (upd (useL st x) st2).peek sl = (upd (useL st x) st).peek sl := peek_updL (useL_rng hx) hsp
                have hdst : getS (upd (useL st x ++ takeL (upd (useL st x) st) sl) st2).fr d = getS (upd (useL st x ++ takeL (upd (useL st x) st) sl) st).fr d := by
                  rw [← upd_upd, ← upd_upd]
                  refine same_upd (st := st) (st2 := st2) (x := x) (takeL_rng hs1) ?_
                  exact same_upd (st := st) (st2 := st2) (x := x) (useL_rng hx) (hs.dst d hd)
                unfold vopc vop
                rw [ho]
                dsimp only
                rw [hb]
                dsimp only
                rw [hsl, htt]
                dsimp only
                rw [he, het]
                dsimp only
                rw [hsp]
                split
                · rename_i hp
                  exact absurd hp (hno _ _ _ _)
                rw [hby, hsz, hz, hx, hel]
                dsimp only
                rw [if_pos hc, useS_upd hx, hs1, hva]
                dsimp only
                rw [takeS_upd hs1, upd_upd, hd, Option.getD_some, hdst]
                rw [hd, Option.getD_some] at hcc
                rw [hcc, condB_true]
                rfl
            · cases h
          · cases h
        · cases h
      · cases h
    · cases h
  · cases h

theorem calm_same {un : List Nat} {ops : List Oper} {i : Nat} {st2 : St} (hs : SameOn o st st2) (h : calm un ops i o st = true) : calm un ops i o st2 = true := by
  unfold calm nonlin at h ⊢
  have e : ∀ x ∈ o.op.operands.toList, isLin3 (st2.peek x) = isLin3 (st.peek x) := fun x hx => by rw [hs.peek x hx]
  rw [Bool.or_eq_true, Bool.and_eq_true, List.all_eq_true, List.all_eq_true] at h ⊢
  rcases h with h | ⟨h1, h2⟩
  · exact .inl fun x hx => by rw [e x hx]; exact h x hx
  · exact .inr ⟨h1, fun x hx => by rw [e x hx]; exact h2 x hx⟩

/-- The normal form. -/
theorem nft {un : List Nat} {ops : List Oper} {i : Nat} {v : V} {s : St} (hk : kindV C f o st ≠ .any) (hl : calm un ops i o st = true) (h : vopc C vb f o st = some (v, s)) :
    ∃ (b : Blk) (T : List (Nat × V)), s = eff (kindV C f o st) b (upd T st) ∧ (∀ p ∈ T, Operand.tmp p.1 ∈ o.op.operands.toList ∧ freeTmp un ops i (.tmp p.1) = true) ∧
      ∀ st2, SameOn o st st2 → HC (kindV C f o st) st st2 → vopc C vb f o st2 = some (v, eff (kindV C f o st) b (upd T st2)) ∧ kindV C f o st2 = kindV C f o st := by
  have hl' := hl
  unfold calm at hl'
  rw [Bool.or_eq_true, Bool.and_eq_true] at hl'
  rcases hl' with hn | ⟨ht, hf⟩
  · obtain ⟨b, h1, h2⟩ := nf hk hn h
    exact ⟨b, [], h1, by simp, fun st2 hs hc => ⟨h2 st2 hs hc, kind_like (like_of hn hs) hc⟩⟩
  · have hN : NFT C vb f o st v s := by
      cases ho : o.op with
      | build t p => exact nft_build ho h
      | store t a x => exact nft_store ho h
      | call c =>
        rw [ho] at ht
        unfold takesOp at ht
        dsimp only at ht
        split at ht
        · rename_i hb
          exact nft_append ho hb hk h
        · cases ht
      | _ => rw [ho] at ht; cases ht
    obtain ⟨b, T, h1, h2, h3⟩ := hN
    refine ⟨b, T, h1, fun p hp => ⟨(h2 p hp).1, ?_⟩, h3⟩
    rw [List.all_eq_true] at hf
    have := hf _ (h2 p hp).1
    rw [Bool.or_eq_true] at this
    rcases this with h | h
    · have h4 : isLin3 (st.peek (.tmp p.1)) = true := (h2 p hp).2
      rw [h4] at h; cases h
    · exact h
end
end Go.Fw
