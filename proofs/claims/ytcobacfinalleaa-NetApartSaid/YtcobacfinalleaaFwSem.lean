/- What runs of code and calls come to, as facts about the machine: no evaluator in their statements. -/
import Derived.Test.YtcobacfinalleaaFwDraw4
set_option linter.all false
namespace Go.Fw
open Go.RowKit

/-- A call that has nothing to do with its caller's heap returns this, whoever calls. -/
structure Sp (C : Cx) (f : FuncId) (args : List V) (v : V) : Prop where
  fn : ∃ fn c, C.P.funcs[f]? = some fn ∧ fn.body = some c ∧ (fn.name == "runtime.NumGoroutine") = false
  flat : args.all flat2 = true
  run : ∀ (n : Nat) (us : Array Value) (w : World) (m : Mem), MemOk m w → ArgsI m args us → CallsIn Fence.wide n C.P f us w (PureOut m w (.ret v []))
/-- A call that has returns this, and leaves the heap so. -/
structure SpH (C : Cx) (f : FuncId) (args : List V) (h : List Blk) (v : V) (h' : List Blk) : Prop where
  fn : ∃ fn c, C.P.funcs[f]? = some fn ∧ fn.body = some c ∧ (fn.name == "runtime.NumGoroutine") = false
  flat : args.all flat2 = false
  run : ∀ (n : Nat) (us : Array Value) (w : World) (B : Nat) (g : Gh), HeapOk g h B w → MemOk g.mem w → LinOk g B w → B ≤ w.heap.size → ArgsS g args us → CallsIn Fence.wide n C.P f us w (HeapOut B g w (.ret v h'))
/-- From one state to a later one of the same function, that may forget its own boxes: those from 'N' on. -/
structure LaterN (N B τ : Nat) (g g' : Gh) (w w' : World) : Prop where
  below : Below B w w'
  mem : MemLe g.mem g'.mem
  old : ∀ b, b < B → g'.mem b = g.mem b
  loc : ∀ id b, id < N → g.loc id = some b → g'.loc id = some b
  lin : ∀ b i, g.lin b = some i → (∃ τ' x j k, i.place = .slot τ' x j k ∧ τ' ≠ τ) → g'.lin b = some i
theorem LaterN.of {N B τ : Nat} {g g' : Gh} {w w' : World} (h : Later B τ g g' w w') : LaterN N B τ g g' w w' := ⟨h.below, h.mem, h.old, fun id b _ => h.loc id b, h.lin⟩
theorem LaterN.refl (N B τ : Nat) (g : Gh) (w : World) : LaterN N B τ g g w w := .of (Later.refl ..)
theorem LaterN.trans {N B τ : Nat} {g g' g'' : Gh} {w w' w'' : World} (h : LaterN N B τ g g' w w') (k : LaterN N B τ g' g'' w' w'') : LaterN N B τ g g'' w w'' :=
  ⟨h.below.trans k.below, h.mem.trans k.mem, fun b hb => (k.old b hb).trans (h.old b hb), fun id b hn hl => k.loc id b hn (h.loc id b hn hl), fun b i hi hp => k.lin b i (h.lin b i hi hp) hp⟩
/-- A code leads from a state to a state. -/
def Runs (C : Cx) (N : Nat) (c : Code) (st : St) (e1 : Ex) (st1 : St) : Prop :=
  ∀ (ρ : Option Nat) (n B τ : Nat) (g : Gh) (a : Act) (w : World) (Q : Exit → Act → World → Prop), R B τ g st a w →
    (∀ g' e' a' w', LaterN N B τ g g' w w' → R B τ g' st1 a' w' → ExIs g' τ e1 e' → Q e' a' w') → c.wpIn (FW ρ) n C.P Q a w

theorem Sp.ofVb {C : Cx} {vb : FuncId → List V → List Blk → Option FOut} (hv : VbSound C vb) {f : FuncId} {args : List V} {v : V} {h' : List Blk} (h : vb f args [] = some (.ret v h')) (hf : args.all flat2 = true) : Sp C f args v :=
  ⟨hv.fn _ _ _ _ h, hf, fun n us w m hm ha => by
    have := hv.pure_ f args _ h hf n us w m hm ha
    rw [callsIn_wide] at this ⊢
    exact this.mono (fun e w' he => he)⟩
theorem SpH.ofVb {C : Cx} {vb : FuncId → List V → List Blk → Option FOut} (hv : VbSound C vb) {f : FuncId} {args : List V} {h : List Blk} {v : V} {h' : List Blk} (hh : vb f args h = some (.ret v h')) (hf : args.all flat2 = false) : SpH C f args h v h' :=
  ⟨hv.fn _ _ _ _ hh, hf, fun n us w B g h1 h2 h3 h4 h5 => hv.heap f args h _ hh hf n us w B g h1 h2 h3 h4 h5⟩

/-- The table of one call. -/
noncomputable def vb1 (f : FuncId) (args : List V) (h : List Blk) (out : FOut) : FuncId → List V → List Blk → Option FOut :=
  fun f' args' h' => open Classical in if f' = f ∧ args' = args ∧ h' = h then some out else none
theorem vb1_self {f : FuncId} {args : List V} {h : List Blk} {out : FOut} : vb1 f args h out f args h = some out := by
  unfold vb1; exact if_pos ⟨rfl, rfl, rfl⟩
theorem vb1_inv {f : FuncId} {args : List V} {h : List Blk} {out : FOut} {f' : FuncId} {args' : List V} {h' : List Blk} {out' : FOut} (e : vb1 f args h out f' args' h' = some out') : f' = f ∧ args' = args ∧ h' = h ∧ out' = out := by
  unfold vb1 at e
  split at e
  · rename_i hh; cases e; exact ⟨hh.1, hh.2.1, hh.2.2, rfl⟩
  · cases e
theorem vb1_sp {C : Cx} {f : FuncId} {args : List V} {v : V} (h : Sp C f args v) : VbSound C (vb1 f args [] (.ret v [])) := by
  refine ⟨fun f' args' h' out e => ?_, fun f' args' out e hf n us w m hm ha => ?_, fun f' args' h' out e hf => ?_⟩
  · obtain ⟨rfl, _⟩ := vb1_inv e; exact h.fn
  · obtain ⟨rfl, rfl, _, rfl⟩ := vb1_inv e; exact h.run n us w m hm ha
  · obtain ⟨rfl, rfl, _, rfl⟩ := vb1_inv e; rw [h.flat] at hf; cases hf
theorem vb1_spH {C : Cx} {f : FuncId} {args : List V} {h0 : List Blk} {v : V} {h1 : List Blk} (h : SpH C f args h0 v h1) : VbSound C (vb1 f args h0 (.ret v h1)) := by
  refine ⟨fun f' args' h' out e => ?_, fun f' args' out e hf => ?_, fun f' args' h' out e hf n us w B g q1 q2 q3 q4 q5 => ?_⟩
  · obtain ⟨rfl, _⟩ := vb1_inv e; exact h.fn
  · obtain ⟨rfl, rfl, _, rfl⟩ := vb1_inv e; rw [h.flat] at hf; cases hf
  · obtain ⟨rfl, rfl, rfl, rfl⟩ := vb1_inv e; exact h.run n us w B g q1 q2 q3 q4 q5
theorem vb0_sound {C : Cx} : VbSound C (fun _ _ _ => none) := ⟨fun _ _ _ _ h => (by cases h), fun _ _ _ h => (by cases h), fun _ _ _ _ h => (by cases h)⟩

/-! ### runs -/
section
variable {C : Cx} {N : Nat}

theorem Runs.skip {st : St} : Runs C N .skip st .normal st := fun ρ n B τ g a w Q hR hQ => wpIn_skip (hQ g .normal a w (LaterN.refl ..) hR trivial)
theorem Runs.label {st : St} {l : Nat} : Runs C N (.label l) st .normal st := fun ρ n B τ g a w Q hR hQ => wpIn_label (hQ g .normal a w (LaterN.refl ..) hR trivial)
theorem Runs.exit {st : St} {l : Nat} : Runs C N (.exit l) st (.exit l) st := fun ρ n B τ g a w Q hR hQ => wpIn_exit (hQ g (.exit l) a w (LaterN.refl ..) hR rfl)
theorem Runs.ret {st : St} : Runs C N .ret st .ret st := fun ρ n B τ g a w Q hR hQ => wpIn_ret (hQ g .ret a w (LaterN.refl ..) hR trivial)
theorem Runs.seq {x y : Code} {st st1 st2 : St} {e : Ex} (h1 : Runs C N x st .normal st1) (h2 : Runs C N y st1 e st2) : Runs C N (.seq x y) st e st2 := fun ρ n B τ g a w Q hR hQ => by
  refine wpIn_seq (h1 ρ n B τ g a w _ hR (fun g' e' a' w' hl hR' he => ?_))
  cases e' <;> first | exact he.elim | skip
  exact h2 ρ n B τ g' a' w' Q hR' (fun g2 e2 a2 w2 hl2 hR2 he2 => hQ g2 e2 a2 w2 (hl.trans hl2) hR2 he2)
theorem Runs.seq_left {x y : Code} {st st1 : St} {e : Ex} (h1 : Runs C N x st e st1) (hn : e ≠ .normal) : Runs C N (.seq x y) st e st1 := fun ρ n B τ g a w Q hR hQ => by
  refine wpIn_seq (h1 ρ n B τ g a w _ hR (fun g' e' a' w' hl hR' he => ?_))
  cases e <;> cases e' <;> first | exact he.elim | exact absurd rfl hn | exact hQ g' _ a' w' hl hR' he
theorem Runs.cond {x : Operand} {y z : Code} {st st1 : St} {e : Ex} {b : Bool} (hx : st.peek x = .bool b) (h : Runs C N (match b with | true => y | false => z) st e st1) : Runs C N (.cond x y z) st e st1 := fun ρ n B τ g a w Q hR hQ => by
  obtain ⟨dx, hr⟩ := peek_rep hR x
  rw [hx] at hr
  have hr := rep_bool hr
  cases b with
  | true => exact wpIn_cond_true (by rw [hr]) (h ρ n B τ g a w Q hR hQ)
  | false => exact wpIn_cond_false (by rw [hr]) (h ρ n B τ g a w Q hR hQ)
/-- How a block is left. -/
def inBlk (id : Nat) : Ex → Ex
  | .exit i => if i = id then .normal else .exit i
  | e => e
theorem Runs.block {id : Nat} {b : Code} {st st1 : St} {e : Ex} (h : Runs C N b st e st1) : Runs C N (.block id b) st (inBlk id e) st1 := fun ρ n B τ g a w Q hR hQ => by
  refine wpIn_block (h ρ n B τ g a w _ hR (fun g' e' a' w' hl hR' he => ?_))
  cases e <;> cases e' <;> first | exact he.elim | skip
  · exact hQ g' _ a' w' hl hR' he
  · rename_i i j
    have he : i = j := he
    subst he
    unfold Exit.inBlock
    dsimp only
    unfold inBlk at hQ
    dsimp only at hQ
    split
    · rename_i hi
      rw [if_pos hi] at hQ
      exact hQ g' .normal a' w' hl hR' trivial
    · rename_i hi
      rw [if_neg hi] at hQ
      exact hQ g' (.exit i) a' w' hl hR' rfl
  · exact hQ g' _ a' w' hl hR' he
  · exact hQ g' _ a' w' hl hR' he

/-- A loop's rounds. -/
inductive LoopTo (C : Cx) (N : Nat) (b : Code) (e : Ex) (st2 : St) : St → Prop
  | done {st : St} (h : Runs C N b st e st2) (hn : e ≠ .normal) : LoopTo C N b e st2 st
  | step {st st1 : St} (h : Runs C N b st .normal st1) (k : LoopTo C N b e st2 st1) : LoopTo C N b e st2 st
inductive LoopN (C : Cx) (N : Nat) (b : Code) (e : Ex) (st2 : St) : Nat → St → Prop
  | done {st : St} {n : Nat} (h : Runs C N b st e st2) (hn : e ≠ .normal) : LoopN C N b e st2 (n + 1) st
  | step {st st1 : St} {n : Nat} (h : Runs C N b st .normal st1) (k : LoopN C N b e st2 n st1) : LoopN C N b e st2 (n + 1) st
theorem LoopTo.n {b : Code} {e : Ex} {st2 st : St} (h : LoopTo C N b e st2 st) : ∃ n, LoopN C N b e st2 n st := by
  induction h with
  | done h hn => exact ⟨1, .done h hn⟩
  | step h k ih => obtain ⟨n, hn⟩ := ih; exact ⟨n + 1, .step h hn⟩
theorem Runs.loop {b : Code} {e : Ex} {st st2 : St} (h : LoopTo C N b e st2 st) : Runs C N (.loop b) st e st2 := fun ρ n B τ g a w Q hR hQ => by
  obtain ⟨j, hj⟩ := h.n
  refine loop_rounds (Rn := fun j a' w' => ∃ st g1, LaterN N B τ g g1 w w' ∧ R B τ g1 st a' w' ∧ LoopN C N b e st2 j st) (fun a w h => ?_) (fun j a1 w1 h1 => ?_) (j := j) ⟨st, g, LaterN.refl .., hR, hj⟩
  · obtain ⟨_, _, _, _, h⟩ := h; cases h
  · obtain ⟨st1, g1, l1, R1, h1⟩ := h1
    cases h1 with
    | done h hn =>
      refine h ρ n B τ g1 a1 w1 _ R1 (fun g' e' a' w' hl hR' he => ?_)
      cases e <;> cases e' <;> first | exact he.elim | exact absurd rfl hn | exact hQ g' _ a' w' (l1.trans hl) hR' he
    | step h k =>
      refine h ρ n B τ g1 a1 w1 _ R1 (fun g' e' a' w' hl hR' he => ?_)
      cases e' <;> first | exact he.elim | skip
      exact ⟨_, g', l1.trans hl, hR', k⟩

/-- What the evaluator says of a code. -/
theorem Runs.ofV {vb : FuncId → List V → List Blk → Option FOut} (hv : VbSound C vb) {f : FuncId} {n : Nat} {c : Code} {st st1 : St} {e : Ex} (hd : ∀ p ∈ drawRegs c, DrawSound C f p.1 p.2) (h : ∀ K, vexec C vb f n c st K = K e st1) : Runs C N c st e st1 := fun ρ k B τ g a w Q hR hQ => by
  classical
  let K : Ex → St → Option FOut := fun e' st' => if e' = e ∧ st' = st1 then some (.ret .undef []) else none
  refine vexec_sound hv n c st K (.ret .undef []) hd (by rw [h K]; exact if_pos ⟨rfl, rfl⟩) g a w Q hR (fun e2 st' g' e' a' w' hl hR' he hk => ?_)
  simp only [K] at hk
  split at hk
  · rename_i hc
    obtain ⟨rfl, rfl⟩ := hc
    exact hQ g' e' a' w' (.of hl) hR' he
  · cases hk

/-- A region whose order is given, of its operations. -/
theorem Runs.region {f : FuncId} {id : Nat} {ops : Array Oper} {st st1 : St} (h : ∀ (ρ : Option Nat) (n B τ : Nat) (g : Gh) (a : Act) (w : World) (Q : Exit → Act → World → Prop), R B τ g st a w → (∀ g' a' w', LaterN N B τ g g' w w' → R B τ g' st1 a' w' → Q .normal a' w') → wpOpsIn (FW ρ) n C.P ops Q (List.range ops.size) a w) : Runs C N (.region id ops false) st .normal st1 := fun ρ n B τ g a w Q hR hQ =>
  wpIn_region (h ρ n B τ g a w Q hR (fun g' a' w' hl hR' => hQ g' .normal a' w' hl hR' trivial))

/-- A call, by its body. -/
theorem Sp.ofRuns {f : FuncId} {fn : Func} {c : Code} {args : List V} {e : Ex} {st1 : St} {v : V} {h' : List Blk} (hf : C.P.funcs[f]? = some fn) (hb : fn.body = some c) (hn : (fn.name == "runtime.NumGoroutine") = false) (hflat : args.all flat2 = true)
    (h : Runs C 0 c ⟨args ++ List.replicate (fn.ntmps - args.length) .undef, []⟩ e st1) (hfin : vfinal C fn true e st1 = some (.ret v h')) : Sp C f args v := by
  refine ⟨⟨fn, c, hf, hb, hn⟩, hflat, fun k us w m hm ha => ?_⟩
  let g : Gh := ⟨m, fun _ => none, fun _ => none⟩
  have hR : R w.heap.size 0 g ⟨args ++ List.replicate (fn.ntmps - args.length) .undef, []⟩ { tmps := us ++ Array.replicate (fn.ntmps - us.size) undef, defers := [] } w := by
    refine args_R ha.1 (fun j c hj hc => ?_) ⟨fun _ _ h => (by cases h), fun _ _ _ h => (by cases h), fun _ _ h => (by cases h), fun _ _ _ _ h => (by cases h)⟩ hm ⟨fun _ _ h => (by cases h)⟩ (Nat.le_refl _)
    rw [List.all_eq_true] at hflat
    exact flat2_repS (hflat c (List.mem_of_getElem? hc)) (ha.2 j c hj hc)
  refine CallsIn.ofBody hf hb (h none k _ 0 g _ w _ hR (fun g' e' a' w' l1 R1 hx => ?_))
  have hfin := final_pure R1 hx hfin
  have conv : ∀ en w2, EndOf g' w.heap.size w' (.ret v h') en w2 → PureOut m w (.ret v []) en w2 := by
    rintro en w2 ⟨rfl, g2, k1, k2, k3, k4, k5, k6⟩
    exact ⟨g2, k1, k2, l1.below, l1.mem.trans k3, fun b hb => (k4 b hb).trans (l1.old b hb), k5, k6⟩
  cases e' with
  | normal => obtain ⟨q1, v, q2, q3⟩ := hfin; exact ⟨q1, v, q2, conv _ _ q3⟩
  | ret => obtain ⟨q1, v, q2, q3⟩ := hfin; exact ⟨q1, v, q2, conv _ _ q3⟩
  | panic ch => obtain ⟨q1, q3⟩ := hfin; exact ⟨q1, conv _ _ q3⟩
  | outgrown => exact conv _ _ hfin
  | exit i => exact hfin.elim
  | goto l => exact hfin.elim
theorem SpH.ofRuns {f : FuncId} {fn : Func} {c : Code} {args : List V} {h0 : List Blk} {e : Ex} {st1 : St} {v : V} {h1 : List Blk} (hf : C.P.funcs[f]? = some fn) (hb : fn.body = some c) (hn : (fn.name == "runtime.NumGoroutine") = false) (hflat : args.all flat2 = false)
    (h : Runs C h0.length c ⟨args ++ List.replicate (fn.ntmps - args.length) .undef, h0⟩ e st1) (hfin : vfinal C fn false e st1 = some (.ret v h1)) : SpH C f args h0 v h1 := by
  refine ⟨⟨fn, c, hf, hb, hn⟩, hflat, fun k us w B g hh hm hl hB ha => ?_⟩
  obtain ⟨τ, hτ⟩ := free_tau hl
  have hR : R B τ g ⟨args ++ List.replicate (fn.ntmps - args.length) .undef, h0⟩ { tmps := us ++ Array.replicate (fn.ntmps - us.size) undef, defers := [] } w :=
    args_R ha.1 (fun j c hj hc => (ha.2 j c hj hc).2 τ j) hh hm hl hB
  refine CallsIn.ofBody hf hb (h none k B τ g _ w _ hR (fun g' e' a' w' l1 R1 hx => ?_))
  have hfin := final_heap R1 hx hfin
  have conv : ∀ en w2, (w2 = w' ∧ OutIs g' (.ret v h1) en ∧ FOut.plain (.ret v h1) ∧ FOut.heap (.ret v h1) = st1.h) → HeapOut B g w (.ret v h1) en w2 := by
    rintro en w2 ⟨rfl, k1, k2, k3⟩
    refine ⟨g', k1, k2, l1.below, l1.mem, l1.old, fun id b hl => l1.loc id b (hh.bound id b hl) hl, fun b i hi ⟨τ', x, j, k, hp⟩ => l1.lin b i hi ⟨τ', x, j, k, hp, hτ b i hi τ' x j k hp⟩, ?_, R1.mem, R1.lin⟩
    rw [k3]; exact R1.heap
  cases e' with
  | normal => obtain ⟨q1, v, q2, q3⟩ := hfin; exact ⟨q1, v, q2, conv _ _ q3⟩
  | ret => obtain ⟨q1, v, q2, q3⟩ := hfin; exact ⟨q1, v, q2, conv _ _ q3⟩
  | panic ch => obtain ⟨q1, q3⟩ := hfin; exact ⟨q1, conv _ _ q3⟩
  | outgrown => exact conv _ _ hfin
  | exit i => exact hfin.elim
  | goto l => exact hfin.elim
end

/-! ### weaker states -/
/-- What the one says, the other says. -/
def VLe (v v' : V) : Prop := ∀ (g : Gh) (τ i : Nat) (u : Value), RepS g τ i v u → RepS g τ i v' u
def FrLe (vs vs' : List V) : Prop := vs.length = vs'.length ∧ ∀ (i : Nat) (v v' : V), vs[i]? = some v → vs'[i]? = some v' → VLe v v'
theorem VLe.rfl {v : V} : VLe v v := fun _ _ _ _ h => h
theorem VLe.undef {v : V} : VLe v .undef := fun _ _ _ _ _ => trivial
theorem VLe.trans {a b c : V} (h : VLe a b) (k : VLe b c) : VLe a c := fun g τ i u x => k g τ i u (h g τ i u x)
theorem repS_nil_lin {g : Gh} {τ i : Nat} {pr : Bool} {e : TypeId} {n : Nat} (hn : 0 < n) (ad : Option Addr) : RepS g τ i (.lin pr e n []) (.slice ad 0 0) := .inr ⟨rfl, hn, ad, rfl⟩
theorem VLe.nil_lin {e : TypeId} {n : Nat} (hn : 0 < n) : VLe .nils (.lin true e n []) := fun g τ i u h => by
  rw [rep_nils h]; exact repS_nil_lin hn none
theorem VLe.imm_lin {e : TypeId} {n m : Nat} (hn : 0 < n) : VLe (.imm true m []) (.lin true e n []) := fun g τ i u h => by
  have h : RepI g.mem (.imm true m []) u := h
  cases h with
  | none0 => exact repS_nil_lin hn none
  | imm _ _ b off cap _ _ _ hf => have := hf _root_.rfl; simp at this; subst this; exact repS_nil_lin hn _
theorem VLe.nil_imm {b : Bool} {n : Nat} (hn : 0 < n) : VLe .nils (.imm b n []) := fun g τ i u h => by
  rw [rep_nils h]; exact RepI.none0 b n hn
theorem VLe.full_imm {n : Nat} {xs : List V} {b : Bool} : VLe (.imm b n xs) (.imm false n xs) := fun g τ i u h => by
  have h : RepI g.mem (.imm b n xs) u := h
  show RepI g.mem (.imm false n xs) u
  cases h with
  | none0 _ _ hz => exact .none0 false n hz
  | imm _ _ b off cap _ val hc hf hm hz hl hs hv sp hp => exact .imm false xs b off cap n val hc (fun h => by cases h) hm hz hl hs hv sp hp

def CLe (v v' : V) : Prop := ∀ (g : Gh) (p : Place) (u : Value), RepC g p v u → RepC g p v' u
def ALe (v v' : V) : Prop := ∀ (g : Gh) (pl : Nat → Place) (u : Value), RepA g pl v u → RepA g pl v' u
/-- The forms to which cells are brought. -/
inductive Fm1 where
  | keep | lin (e : TypeId) (n : Nat) | imm (n : Nat)
def Fm1.ap : Fm1 → V → V
  | .keep, v => v
  | .lin e (n + 1), .nils => .lin true e (n + 1) []
  | .lin e (n + 1), .imm true _ [] => .lin true e (n + 1) []
  | .lin _ _, v => v
  | .imm (n + 1), .nils => .imm false (n + 1) []
  | .imm _, .imm _ n xs => .imm false n xs
  | .imm _, v => v
theorem Fm1.leC : ∀ (f : Fm1) (v : V), CLe v (f.ap v) := by
  intro f v
  have nil : ∀ {g : Gh} {u : Value}, RepI g.mem .nils u → u = .slice none 0 0 := fun h => by cases h; rfl
  unfold Fm1.ap
  split
  · exact fun _ _ _ h => h
  · exact fun g p u h => by rw [nil h]; exact .inr ⟨rfl, Nat.succ_pos _, none, rfl⟩
  · intro g p u h
    have h : RepI g.mem (.imm true _ []) u := h
    cases h with
    | none0 => exact .inr ⟨rfl, Nat.succ_pos _, none, rfl⟩
    | imm _ _ b off cap _ _ _ hf => have := hf rfl; simp at this; subst this; exact .inr ⟨rfl, Nat.succ_pos _, _, rfl⟩
  · exact fun _ _ _ h => h
  · exact fun g p u h => by rw [nil h]; exact RepI.none0 false _ (Nat.succ_pos _)
  · intro g p u h
    have h : RepI g.mem (.imm _ _ _) u := h
    show RepI g.mem (.imm false _ _) u
    cases h with
    | none0 _ _ hz => exact .none0 false _ hz
    | imm _ _ b off cap _ val hc hf hm hz hl hs hv sp hp => exact .imm false _ b off cap _ val hc (fun h => by cases h) hm hz hl hs hv sp hp
  · exact fun _ _ _ h => h
theorem Fm1.agg_undef (f : Fm1) (v : V) : (f.ap v = v) ∨ (v = .nils ∨ ∃ b n xs, v = .imm b n xs) ∧ ((∃ e n, f.ap v = .lin true e n []) ∨ ∃ n xs, f.ap v = .imm false n xs) := by
  unfold Fm1.ap
  split
  · exact .inl rfl
  · exact .inr ⟨.inl rfl, .inl ⟨_, _, rfl⟩⟩
  · exact .inr ⟨.inr ⟨_, _, _, rfl⟩, .inl ⟨_, _, rfl⟩⟩
  · exact .inl rfl
  · exact .inr ⟨.inl rfl, .inr ⟨_, _, rfl⟩⟩
  · exact .inr ⟨.inr ⟨_, _, _, rfl⟩, .inr ⟨_, _, rfl⟩⟩
  · exact .inl rfl
theorem Fm1.leA (f : Fm1) (v : V) : ALe v (f.ap v) := by
  intro g pl u h
  have hc := f.leC v g (pl 0) u
  rcases f.agg_undef v with e | ⟨e1, e2⟩
  · rw [e]; exact h
  · have h' : RepC g (pl 0) v u := by rcases e1 with rfl | ⟨b, n, xs, rfl⟩ <;> exact h
    have := hc h'
    rcases e2 with ⟨e, n, e2⟩ | ⟨n, xs, e2⟩ <;> rw [e2] at this ⊢ <;> exact this
inductive Fm where
  | of (f : Fm1) | agg (fs : List Fm1)
def apL : List Fm1 → List V → List V
  | f :: fs, v :: vs => f.ap v :: apL fs vs
  | _, vs => vs
def Fm.ap : Fm → V → V
  | .of f, v => f.ap v
  | .agg fs, .agg vs => .agg (apL fs vs)
  | .agg _, v => v
theorem apL_len : ∀ (fs : List Fm1) (vs : List V), (apL fs vs).length = vs.length
  | [], vs => by unfold apL; rfl
  | f :: fs, [] => rfl
  | f :: fs, v :: vs => by simp [apL, apL_len fs vs]
theorem apL_le : ∀ (fs : List Fm1) (vs : List V) (i : Nat) (v' : V), (apL fs vs)[i]? = some v' → ∃ v, vs[i]? = some v ∧ CLe v v'
  | [], vs, i, v', h => by
    have h : vs[i]? = some v' := by unfold apL at h; exact h
    exact ⟨v', h, fun _ _ _ h => h⟩
  | f :: fs, [], i, v', h => by simp [apL] at h
  | f :: fs, v :: vs, 0, v', h => by
    simp only [apL, List.getElem?_cons_zero, Option.some.injEq] at h
    subst h
    exact ⟨v, rfl, f.leC v⟩
  | f :: fs, v :: vs, i + 1, v', h => by
    simp only [apL, List.getElem?_cons_succ] at h
    obtain ⟨x, h1, h2⟩ := apL_le fs vs i v' h
    exact ⟨x, by simpa using h1, h2⟩
theorem Fm.leA (f : Fm) (v : V) : ALe v (f.ap v) := by
  cases f with
  | of f => exact f.leA v
  | agg fs =>
    cases v with
    | agg vs =>
      rintro g pl u ⟨cs, rfl, h1, h2⟩
      refine ⟨cs, rfl, by rw [apL_len]; exact h1, fun j c hj hc => ?_⟩
      obtain ⟨x, hx, hle⟩ := apL_le fs vs j c hc
      exact hle _ _ _ (h2 j x hj hx)
    | _ => exact fun _ _ _ h => h
theorem Fm.notTup (f : Fm) {v : V} (h : ∀ vs, v ≠ .tup vs) : ∀ vs, f.ap v ≠ .tup vs := by
  cases f with
  | of f =>
    rcases f.agg_undef v with e | ⟨_, ⟨e, n, e2⟩ | ⟨n, xs, e2⟩⟩
    · intro vs; show f.ap v ≠ _; rw [e]; exact h vs
    · intro vs; show f.ap v ≠ _; rw [e2]; simp
    · intro vs; show f.ap v ≠ _; rw [e2]; simp
  | agg fs => cases v <;> first | exact h | (intro vs e; simp [Fm.ap] at e)
theorem Fm.le (f : Fm) (v : V) : VLe v (f.ap v) := by
  by_cases h : ∃ vs, v = .tup vs
  · obtain ⟨vs, rfl⟩ := h
    have : f.ap (.tup vs) = .tup vs := by
      cases f with
      | of f =>
        show f.ap _ = _
        unfold Fm1.ap
        split <;> first | rfl | (rename_i h; cases h)
      | agg fs => rfl
    rw [this]; exact VLe.rfl
  · have h : ∀ vs, v ≠ .tup vs := fun vs e => h ⟨vs, e⟩
    intro g τ i u hr
    rw [repS_notTup h] at hr
    rw [repS_notTup (f.notTup h)]
    exact f.leA v _ _ _ hr

/-! ### results -/
def outFs : List Fm → List V → List V
  | f :: fs, v :: vs => f.ap v :: outFs fs vs
  | _, vs => vs
def demF (dm : List Nat) : Nat → List V → List V
  | _, [] => []
  | k, v :: vs => (match dm.contains k with | true => map2 demote1 v | false => v) :: demF dm (k + 1) vs
/-- A result as its readers need it: 'dm': the parts that are demoted; the forms of all. -/
def outR (dm : List Nat) (fs : List Fm) (v : V) : V := match v with
  | .tup vs => .tup (outFs fs (demF dm 0 vs))
  | v => match fs with
    | f :: _ => f.ap (match dm with | [] => v | _ => map2 demote1 v)
    | [] => (match dm with | [] => v | _ => map2 demote1 v)

/-- Only these slots are kept, so. -/
def relaxFr (keep : List (Nat × Fm)) : Nat → List V → List V
  | _, [] => []
  | i, v :: vs => (match keep.lookup i with | some f => f.ap v | none => .undef) :: relaxFr keep (i + 1) vs
def relax (keep : List (Nat × Fm)) (st : St) : St := { st with fr := relaxFr keep 0 st.fr }
theorem relaxFr_le (keep : List (Nat × Fm)) : ∀ (vs : List V) (i : Nat), FrLe vs (relaxFr keep i vs)
  | [], _ => ⟨_root_.rfl, fun j v v' h => by simp at h⟩
  | v :: vs, i => by
    obtain ⟨h1, h2⟩ := relaxFr_le keep vs (i + 1)
    refine ⟨by simp [relaxFr, h1], fun j x x' hx hx' => ?_⟩
    cases j with
    | zero =>
      simp only [relaxFr, List.getElem?_cons_zero, Option.some.injEq] at hx hx'
      subst hx; subst hx'
      split
      · exact Fm.le _ _
      · exact VLe.undef
    | succ j => exact h2 j x x' (by simpa using hx) (by simpa [relaxFr] using hx')
theorem R.weak {B τ : Nat} {g : Gh} {st : St} {a : Act} {w : World} (h : R B τ g st a w) {fr : List V} (hl : FrLe st.fr fr) : R B τ g { st with fr := fr } a w := by
  refine ⟨hl.1 ▸ h.size, fun i v hi hv => ?_, h.heap, h.mem, h.lin, h.base, h.defers⟩
  have hi' : i < st.fr.length := by rw [h.size]; exact hi
  exact hl.2 i _ v (List.getElem?_eq_getElem hi') hv g τ i _ (h.slots i _ hi (List.getElem?_eq_getElem hi'))
theorem Runs.pre {C : Cx} {N : Nat} {c : Code} {st st1 : St} {e : Ex} (keep : List (Nat × Fm)) (h : Runs C N c (relax keep st) e st1) : Runs C N c st e st1 :=
  fun ρ n B τ g a w Q hR hQ => h ρ n B τ g a w Q (hR.weak (relaxFr_le keep st.fr 0)) hQ
theorem Runs.post {C : Cx} {N : Nat} {c : Code} {st st1 : St} {e : Ex} (keep : List (Nat × Fm)) (h : Runs C N c st e st1) : Runs C N c st e (relax keep st1) :=
  fun ρ n B τ g a w Q hR hQ => h ρ n B τ g a w Q hR (fun g' e' a' w' hl hR' he => hQ g' e' a' w' hl (hR'.weak (relaxFr_le keep st1.fr 0)) he)

theorem PureOut.share {m : Mem} {w : World} {v v' : V} {e : Ending} {w' : World} (q : Place → Bool) (hv : ∀ (g : Gh) (B : Nat) (u : Value), LinOk g B w' → RepS g 0 0 v u → RepS (g.share q) 0 0 v' u) (h : PureOut m w (.ret v []) e w') : PureOut m w (.ret v' []) e w' := by
  obtain ⟨g, ⟨u, rfl, hr⟩, h1, h2, h3, h4, h5, h6⟩ := h
  refine ⟨g.share q, ⟨u, rfl, hv g _ u h6 hr⟩, h1, h2, h3.trans (share_memLe h6), fun b hb => ?_, share_mem h6 h5, share_lin h6⟩
  rw [← h4 b hb]
  unfold Gh.share; dsimp only
  cases hl : g.lin b with
  | none => rfl
  | some i => have := (h6.at_ b i hl).1; omega
theorem Sp.mono {C : Cx} {f : FuncId} {args : List V} {v v' : V} (h : Sp C f args v) (hv : ∀ m w e w', PureOut m w (.ret v []) e w' → PureOut m w (.ret v' []) e w') : Sp C f args v' :=
  ⟨h.fn, h.flat, fun n us w m hm ha => by
    have := h.run n us w m hm ha
    rw [callsIn_wide] at this ⊢
    exact this.mono (fun e w' he => hv m w e w' he)⟩
theorem Sp.le {C : Cx} {f : FuncId} {args : List V} {v v' : V} (h : Sp C f args v) (hv : VLe v v') : Sp C f args v' :=
  h.mono (fun m w e w' he => by
    obtain ⟨g, ⟨u, rfl, hr⟩, h1⟩ := he
    exact ⟨g, ⟨u, rfl, hv g 0 0 u hr⟩, h1⟩)

theorem outFs_len : ∀ (fs : List Fm) (vs : List V), (outFs fs vs).length = vs.length
  | [], vs => by unfold outFs; rfl
  | f :: fs, [] => rfl
  | f :: fs, v :: vs => by simp [outFs, outFs_len fs vs]
theorem outFs_le : ∀ (fs : List Fm) (vs : List V) (i : Nat) (v' : V), (outFs fs vs)[i]? = some v' → ∃ v, vs[i]? = some v ∧ ALe v v'
  | [], vs, i, v', h => by
    have h : vs[i]? = some v' := by unfold outFs at h; exact h
    exact ⟨v', h, fun _ _ _ h => h⟩
  | f :: fs, [], i, v', h => by simp [outFs] at h
  | f :: fs, v :: vs, 0, v', h => by
    simp only [outFs, List.getElem?_cons_zero, Option.some.injEq] at h
    subst h
    exact ⟨v, rfl, f.leA v⟩
  | f :: fs, v :: vs, i + 1, v', h => by
    simp only [outFs, List.getElem?_cons_succ] at h
    obtain ⟨x, h1, h2⟩ := outFs_le fs vs i v' h
    exact ⟨x, by simpa using h1, h2⟩
theorem VLe.tupF (fs : List Fm) (vs : List V) : VLe (.tup vs) (.tup (outFs fs vs)) := by
  rintro g τ i u ⟨cs, e, h1, h2⟩
  refine ⟨cs, e, by rw [outFs_len]; exact h1, fun j c hj hc => ?_⟩
  obtain ⟨x, hx, hle⟩ := outFs_le fs vs j c hc
  exact hle _ _ _ (h2 j x hj hx)
theorem demF_len (dm : List Nat) : ∀ (vs : List V) (k : Nat), (demF dm k vs).length = vs.length
  | [], _ => rfl
  | v :: vs, k => by simp [demF, demF_len dm vs (k + 1)]
theorem demF_at (dm : List Nat) : ∀ (vs : List V) (k i : Nat) (c : V), (demF dm k vs)[i]? = some c → ∃ v, vs[i]? = some v ∧ c = (match dm.contains (k + i) with | true => map2 demote1 v | false => v)
  | [], _, _, _, h => by simp [demF] at h
  | v :: vs, k, 0, c, h => by
    simp only [demF, List.getElem?_cons_zero, Option.some.injEq] at h
    exact ⟨v, rfl, by rw [Nat.add_zero]; exact h.symm⟩
  | v :: vs, k, i + 1, c, h => by
    simp only [demF, List.getElem?_cons_succ] at h
    obtain ⟨x, h1, h2⟩ := demF_at dm vs (k + 1) i c h
    exact ⟨x, by simpa using h1, by rw [show k + (i + 1) = k + 1 + i by omega]; exact h2⟩
theorem Sp.demTup {C : Cx} {f : FuncId} {args : List V} {vs : List V} (dm : List Nat) (h : Sp C f args (.tup vs)) : Sp C f args (.tup (demF dm 0 vs)) := by
  refine h.mono (fun m w e w' => PureOut.share (fun p => match p with | .slot _ _ _ (k + 1) => dm.contains k | _ => false) (fun g B u hL hr => ?_))
  obtain ⟨cs, rfl, h1, h2⟩ := hr
  refine ⟨cs, rfl, by rw [demF_len]; exact h1, fun j c hj hc => ?_⟩
  obtain ⟨x, hx, rfl⟩ := demF_at dm vs 0 j c hc
  have hr := h2 j x hj hx
  rw [Nat.zero_add]
  cases hd : dm.contains j with
  | true => exact (hr.shared hL (fun i => hd)).2 _
  | false => exact hr.mono (share_memLe hL) (fun _ _ h => h) (fun i b x hx hp => lin_share_of hx (by rw [hp]; exact hd))
theorem Sp.demOne {C : Cx} {f : FuncId} {args : List V} {v : V} (hv : ∀ vs, v ≠ .tup vs) (h : Sp C f args v) : Sp C f args (map2 demote1 v) := by
  have hd : ∀ vs, map2 demote1 v ≠ .tup vs := (map3_notTup (f := demote1) (fun v h => by cases v <;> first | rfl | cases h) hv).2
  refine h.mono (fun m w e w' => PureOut.share (fun p => match p with | .slot .. => true | _ => false) (fun g B u hL hr => ?_))
  rw [repS_notTup hv] at hr
  rw [repS_notTup hd]
  exact (hr.shared hL (fun i => rfl)).2 _
theorem Sp.outR {C : Cx} {f : FuncId} {args : List V} {v : V} (dm : List Nat) (fs : List Fm) (h : Sp C f args v) : Sp C f args (Fw.outR dm fs v) := by
  by_cases ht : ∃ vs, v = .tup vs
  · obtain ⟨vs, rfl⟩ := ht
    exact (h.demTup dm).le (VLe.tupF fs _)
  · have ht : ∀ vs, v ≠ .tup vs := fun vs e => ht ⟨vs, e⟩
    cases dm with
    | nil =>
      cases fs with
      | nil =>
        have e : Fw.outR [] [] v = v := by cases v <;> first | rfl | exact absurd _root_.rfl (ht _)
        rw [e]; exact h
      | cons f fs =>
        have e : Fw.outR [] (f :: fs) v = f.ap v := by cases v <;> first | rfl | exact absurd _root_.rfl (ht _)
        rw [e]; exact h.le (f.le _)
    | cons x y =>
      cases fs with
      | nil =>
        have e : Fw.outR (x :: y) [] v = map2 demote1 v := by cases v <;> first | rfl | exact absurd _root_.rfl (ht _)
        rw [e]; exact h.demOne ht
      | cons f fs =>
        have e : Fw.outR (x :: y) (f :: fs) v = f.ap (map2 demote1 v) := by cases v <;> first | rfl | exact absurd _root_.rfl (ht _)
        rw [e]; exact (h.demOne ht).le (f.le _)
end Go.Fw
