/- What runs of code and calls come to, as facts about the machine: no evaluator in their statements. -/
import Derived.Test.YtcobacfinalleaaPk2
import Derived.KernelRfl
import Derived.ChangeArms
import Derived.SizedLaws
import Derived.WideShapes
set_option linter.all false
namespace Go.Fw
open Go.RowKit

/-- A call that has nothing to do with its caller's heap returns this, whoever calls. -/
structure Sp (C : Cx) (f : FuncId) (args : List V) (v : V) : Prop where
  fn : ∃ fn c, C.P.funcs[f]? = some fn ∧ fn.body = some c ∧ (fn.name == "runtime.NumGoroutine") = false
  flat : args.all flat2 = true
  run : ∀ (n : Nat) (us : Array Value) (w : World) (m : Mem), MemOk m w → ArgsI m args us → CallsIn Fence.wide n C.P f us w (PureOut m w (.ret v []))
/-- A call that has returns this, and leaves the heap so. -/
structure SpH (C : Cx) (f : FuncId) (args : List V) (h : List Blk) (v : V) (h' : List Blk) : Prop where
  fn : ∃ fn c, C.P.funcs[f]? = some fn ∧ fn.body = some c ∧ (fn.name == "runtime.NumGoroutine") = false
  flat : args.all flat2 = false
  run : ∀ (n : Nat) (us : Array Value) (w : World) (B : Nat) (g : Gh), HeapOk g h B w → MemOk g.mem w → LinOk g B w → B ≤ w.heap.size → ArgsS g args us → CallsIn Fence.wide n C.P f us w (HeapOut B g w (.ret v h'))
/-- From one state to a later one of the same function, that may forget its own boxes: those from 'N' on. -/
structure LaterN (N B τ : Nat) (g g' : Gh) (w w' : World) : Prop where
  below : Below B w w'
  mem : MemLe g.mem g'.mem
  old : ∀ b, b < B → g'.mem b = g.mem b
  loc : ∀ id b, id < N → g.loc id = some b → g'.loc id = some b
  lin : ∀ b i, g.lin b = some i → (∃ τ' x j k, i.place = .slot τ' x j k ∧ τ' ≠ τ) → g'.lin b = some i
theorem LaterN.of {N B τ : Nat} {g g' : Gh} {w w' : World} (h : Later B τ g g' w w') : LaterN N B τ g g' w w' := ⟨h.below, h.mem, h.old, fun id b _ => h.loc id b, h.lin⟩
theorem LaterN.refl (N B τ : Nat) (g : Gh) (w : World) : LaterN N B τ g g w w := .of (Later.refl ..)
theorem LaterN.trans {N B τ : Nat} {g g' g'' : Gh} {w w' w'' : World} (h : LaterN N B τ g g' w w') (k : LaterN N B τ g' g'' w' w'') : LaterN N B τ g g'' w w'' :=
  ⟨h.below.trans k.below, h.mem.trans k.mem, fun b hb => (k.old b hb).trans (h.old b hb), fun id b hn hl => k.loc id b hn (h.loc id b hn hl), fun b i hi hp => k.lin b i (h.lin b i hi hp) hp⟩
/-- A code leads from a state to a state. -/
def Runs (C : Cx) (N : Nat) (c : Code) (st : St) (e1 : Ex) (st1 : St) : Prop :=
  ∀ (ρ : Option Nat) (n B τ : Nat) (g : Gh) (a : Act) (w : World) (Q : Exit → Act → World → Prop), R B τ g st a w →
    (∀ g' e' a' w', LaterN N B τ g g' w w' → R B τ g' st1 a' w' → ExIs g' τ e1 e' → Q e' a' w') → c.wpIn (FW ρ) n C.P Q a w

theorem Sp.ofVb {C : Cx} {vb : FuncId → List V → List Blk → Option FOut} (hv : VbSound C vb) {f : FuncId} {args : List V} {v : V} {h' : List Blk} (h : vb f args [] = some (.ret v h')) (hf : args.all flat2 = true) : Sp C f args v :=
  ⟨hv.fn _ _ _ _ h, hf, fun n us w m hm ha => by
    have := hv.pure_ f args _ h hf n us w m hm ha
    rw [callsIn_wide] at this ⊢
    exact this.mono (fun e w' he => he)⟩
theorem SpH.ofVb {C : Cx} {vb : FuncId → List V → List Blk → Option FOut} (hv : VbSound C vb) {f : FuncId} {args : List V} {h : List Blk} {v : V} {h' : List Blk} (hh : vb f args h = some (.ret v h')) (hf : args.all flat2 = false) : SpH C f args h v h' :=
  ⟨hv.fn _ _ _ _ hh, hf, fun n us w B g h1 h2 h3 h4 h5 => hv.heap f args h _ hh hf n us w B g h1 h2 h3 h4 h5⟩

/-- The table of one call. -/
noncomputable def vb1 (f : FuncId) (args : List V) (h : List Blk) (out : FOut) : FuncId → List V → List Blk → Option FOut :=
  fun f' args' h' => open Classical in if f' = f ∧ args' = args ∧ h' = h then some out else none
theorem vb1_self {f : FuncId} {args : List V} {h : List Blk} {out : FOut} : vb1 f args h out f args h = some out := by
  unfold vb1; exact if_pos ⟨rfl, rfl, rfl⟩
theorem vb1_inv {f : FuncId} {args : List V} {h : List Blk} {out : FOut} {f' : FuncId} {args' : List V} {h' : List Blk} {out' : FOut} (e : vb1 f args h out f' args' h' = some out') : f' = f ∧ args' = args ∧ h' = h ∧ out' = out := by
  unfold vb1 at e
  split at e
  · rename_i hh; cases e; exact ⟨hh.1, hh.2.1, hh.2.2, rfl⟩
  · cases e
theorem vb1_sp {C : Cx} {f : FuncId} {args : List V} {v : V} (h : Sp C f args v) : VbSound C (vb1 f args [] (.ret v [])) := by
  refine ⟨fun f' args' h' out e => ?_, fun f' args' out e hf n us w m hm ha => ?_, fun f' args' h' out e hf => ?_⟩
  · obtain ⟨rfl, _⟩ := vb1_inv e; exact h.fn
  · obtain ⟨rfl, rfl, _, rfl⟩ := vb1_inv e; exact h.run n us w m hm ha
  · obtain ⟨rfl, rfl, _, rfl⟩ := vb1_inv e; rw [h.flat] at hf; cases hf
theorem vb1_spH {C : Cx} {f : FuncId} {args : List V} {h0 : List Blk} {v : V} {h1 : List Blk} (h : SpH C f args h0 v h1) : VbSound C (vb1 f args h0 (.ret v h1)) := by
  refine ⟨fun f' args' h' out e => ?_, fun f' args' out e hf => ?_, fun f' args' h' out e hf n us w B g q1 q2 q3 q4 q5 => ?_⟩
  · obtain ⟨rfl, _⟩ := vb1_inv e; exact h.fn
  · obtain ⟨rfl, rfl, _, rfl⟩ := vb1_inv e; rw [h.flat] at hf; cases hf
  · obtain ⟨rfl, rfl, rfl, rfl⟩ := vb1_inv e; exact h.run n us w B g q1 q2 q3 q4 q5
theorem vb0_sound {C : Cx} : VbSound C (fun _ _ _ => none) := ⟨fun _ _ _ _ h => (by cases h), fun _ _ _ h => (by cases h), fun _ _ _ _ h => (by cases h)⟩

/-! ### runs -/
section
variable {C : Cx} {N : Nat}

theorem Runs.skip {st : St} : Runs C N .skip st .normal st := fun ρ n B τ g a w Q hR hQ => wpIn_skip (hQ g .normal a w (LaterN.refl ..) hR trivial)
theorem Runs.label {st : St} {l : Nat} : Runs C N (.label l) st .normal st := fun ρ n B τ g a w Q hR hQ => wpIn_label (hQ g .normal a w (LaterN.refl ..) hR trivial)
theorem Runs.exit {st : St} {l : Nat} : Runs C N (.exit l) st (.exit l) st := fun ρ n B τ g a w Q hR hQ => wpIn_exit (hQ g (.exit l) a w (LaterN.refl ..) hR rfl)
theorem Runs.ret {st : St} : Runs C N .ret st .ret st := fun ρ n B τ g a w Q hR hQ => wpIn_ret (hQ g .ret a w (LaterN.refl ..) hR trivial)
theorem Runs.seq {x y : Code} {st st1 st2 : St} {e : Ex} (h1 : Runs C N x st .normal st1) (h2 : Runs C N y st1 e st2) : Runs C N (.seq x y) st e st2 := fun ρ n B τ g a w Q hR hQ => by
  refine wpIn_seq (h1 ρ n B τ g a w _ hR (fun g' e' a' w' hl hR' he => ?_))
  cases e' <;> first | exact he.elim | skip
  exact h2 ρ n B τ g' a' w' Q hR' (fun g2 e2 a2 w2 hl2 hR2 he2 => hQ g2 e2 a2 w2 (hl.trans hl2) hR2 he2)
theorem Runs.seq_left {x y : Code} {st st1 : St} {e : Ex} (h1 : Runs C N x st e st1) (hn : e ≠ .normal) : Runs C N (.seq x y) st e st1 := fun ρ n B τ g a w Q hR hQ => by
  refine wpIn_seq (h1 ρ n B τ g a w _ hR (fun g' e' a' w' hl hR' he => ?_))
  cases e <;> cases e' <;> first | exact he.elim | exact absurd rfl hn | exact hQ g' _ a' w' hl hR' he
theorem Runs.cond {x : Operand} {y z : Code} {st st1 : St} {e : Ex} {b : Bool} (hx : st.peek x = .bool b) (h : Runs C N (match b with | true => y | false => z) st e st1) : Runs C N (.cond x y z) st e st1 := fun ρ n B τ g a w Q hR hQ => by
  obtain ⟨dx, hr⟩ := peek_rep hR x
  rw [hx] at hr
  have hr := rep_bool hr
  cases b with
  | true => exact wpIn_cond_true (by rw [hr]) (h ρ n B τ g a w Q hR hQ)
  | false => exact wpIn_cond_false (by rw [hr]) (h ρ n B τ g a w Q hR hQ)
/-- How a block is left. -/
def inBlk (id : Nat) : Ex → Ex
  | .exit i => if i = id then .normal else .exit i
  | e => e
theorem Runs.block {id : Nat} {b : Code} {st st1 : St} {e : Ex} (h : Runs C N b st e st1) : Runs C N (.block id b) st (inBlk id e) st1 := fun ρ n B τ g a w Q hR hQ => by
  refine wpIn_block (h ρ n B τ g a w _ hR (fun g' e' a' w' hl hR' he => ?_))
  cases e <;> cases e' <;> first | exact he.elim | skip
  · exact hQ g' _ a' w' hl hR' he
  · rename_i i j
    have he : i = j := he
    subst he
    unfold Exit.inBlock
    dsimp only
    unfold inBlk at hQ
    dsimp only at hQ
    split
    · rename_i hi
      rw [if_pos hi] at hQ
      exact hQ g' .normal a' w' hl hR' trivial
    · rename_i hi
      rw [if_neg hi] at hQ
      exact hQ g' (.exit i) a' w' hl hR' rfl
  · exact hQ g' _ a' w' hl hR' he
  · exact hQ g' _ a' w' hl hR' he

/-- A loop's rounds. -/
inductive LoopTo (C : Cx) (N : Nat) (b : Code) (e : Ex) (st2 : St) : St → Prop
  | done {st : St} (h : Runs C N b st e st2) (hn : e ≠ .normal) : LoopTo C N b e st2 st
  | step {st st1 : St} (h : Runs C N b st .normal st1) (k : LoopTo C N b e st2 st1) : LoopTo C N b e st2 st
inductive LoopN (C : Cx) (N : Nat) (b : Code) (e : Ex) (st2 : St) : Nat → St → Prop
  | done {st : St} {n : Nat} (h : Runs C N b st e st2) (hn : e ≠ .normal) : LoopN C N b e st2 (n + 1) st
  | step {st st1 : St} {n : Nat} (h : Runs C N b st .normal st1) (k : LoopN C N b e st2 n st1) : LoopN C N b e st2 (n + 1) st
theorem LoopTo.n {b : Code} {e : Ex} {st2 st : St} (h : LoopTo C N b e st2 st) : ∃ n, LoopN C N b e st2 n st := by
  induction h with
  | done h hn => exact ⟨1, .done h hn⟩
  | step h k ih => obtain ⟨n, hn⟩ := ih; exact ⟨n + 1, .step h hn⟩
theorem Runs.loop {b : Code} {e : Ex} {st st2 : St} (h : LoopTo C N b e st2 st) : Runs C N (.loop b) st e st2 := fun ρ n B τ g a w Q hR hQ => by
  obtain ⟨j, hj⟩ := h.n
  refine loop_rounds (Rn := fun j a' w' => ∃ st g1, LaterN N B τ g g1 w w' ∧ R B τ g1 st a' w' ∧ LoopN C N b e st2 j st) (fun a w h => ?_) (fun j a1 w1 h1 => ?_) (j := j) ⟨st, g, LaterN.refl .., hR, hj⟩
  · obtain ⟨_, _, _, _, h⟩ := h; cases h
  · obtain ⟨st1, g1, l1, R1, h1⟩ := h1
    cases h1 with
    | done h hn =>
      refine h ρ n B τ g1 a1 w1 _ R1 (fun g' e' a' w' hl hR' he => ?_)
      cases e <;> cases e' <;> first | exact he.elim | exact absurd rfl hn | exact hQ g' _ a' w' (l1.trans hl) hR' he
    | step h k =>
      refine h ρ n B τ g1 a1 w1 _ R1 (fun g' e' a' w' hl hR' he => ?_)
      cases e' <;> first | exact he.elim | skip
      exact ⟨_, g', l1.trans hl, hR', k⟩

/-- What the evaluator says of a code. -/
theorem Runs.ofV {vb : FuncId → List V → List Blk → Option FOut} (hv : VbSound C vb) {f : FuncId} {n : Nat} {c : Code} {st st1 : St} {e : Ex} (hd : ∀ p ∈ drawRegs c, DrawSound C f p.1 p.2) (h : ∀ K, vexec C vb f n c st K = K e st1) : Runs C N c st e st1 := fun ρ k B τ g a w Q hR hQ => by
  classical
  let K : Ex → St → Option FOut := fun e' st' => if e' = e ∧ st' = st1 then some (.ret .undef []) else none
  refine vexec_sound hv n c st K (.ret .undef []) hd (by rw [h K]; exact if_pos ⟨rfl, rfl⟩) g a w Q hR (fun e2 st' g' e' a' w' hl hR' he hk => ?_)
  simp only [K] at hk
  split at hk
  · rename_i hc
    obtain ⟨rfl, rfl⟩ := hc
    exact hQ g' e' a' w' (.of hl) hR' he
  · cases hk

/-- A region whose order is given, of its operations. -/
theorem Runs.region {f : FuncId} {id : Nat} {ops : Array Oper} {st st1 : St} (h : ∀ (ρ : Option Nat) (n B τ : Nat) (g : Gh) (a : Act) (w : World) (Q : Exit → Act → World → Prop), R B τ g st a w → (∀ g' a' w', LaterN N B τ g g' w w' → R B τ g' st1 a' w' → Q .normal a' w') → wpOpsIn (FW ρ) n C.P ops Q (List.range ops.size) a w) : Runs C N (.region id ops false) st .normal st1 := fun ρ n B τ g a w Q hR hQ =>
  wpIn_region (h ρ n B τ g a w Q hR (fun g' a' w' hl hR' => hQ g' .normal a' w' hl hR' trivial))

/-- A call, by its body. -/
theorem Sp.ofRuns {f : FuncId} {fn : Func} {c : Code} {args : List V} {e : Ex} {st1 : St} {v : V} {h' : List Blk} (hf : C.P.funcs[f]? = some fn) (hb : fn.body = some c) (hn : (fn.name == "runtime.NumGoroutine") = false) (hflat : args.all flat2 = true)
    (h : Runs C 0 c ⟨args ++ List.replicate (fn.ntmps - args.length) .undef, []⟩ e st1) (hfin : vfinal C fn true e st1 = some (.ret v h')) : Sp C f args v := by
  refine ⟨⟨fn, c, hf, hb, hn⟩, hflat, fun k us w m hm ha => ?_⟩
  let g : Gh := ⟨m, fun _ => none, fun _ => none⟩
  have hR : R w.heap.size 0 g ⟨args ++ List.replicate (fn.ntmps - args.length) .undef, []⟩ { tmps := us ++ Array.replicate (fn.ntmps - us.size) undef, defers := [] } w := by
    refine args_R ha.1 (fun j c hj hc => ?_) ⟨fun _ _ h => (by cases h), fun _ _ _ h => (by cases h), fun _ _ h => (by cases h), fun _ _ _ _ h => (by cases h)⟩ hm ⟨fun _ _ h => (by cases h)⟩ (Nat.le_refl _)
    rw [List.all_eq_true] at hflat
    exact flat2_repS (hflat c (List.mem_of_getElem? hc)) (ha.2 j c hj hc)
  refine CallsIn.ofBody hf hb (h none k _ 0 g _ w _ hR (fun g' e' a' w' l1 R1 hx => ?_))
  have hfin := final_pure R1 hx hfin
  have conv : ∀ en w2, EndOf g' w.heap.size w' (.ret v h') en w2 → PureOut m w (.ret v []) en w2 := by
    rintro en w2 ⟨rfl, g2, k1, k2, k3, k4, k5, k6⟩
    exact ⟨g2, k1, k2, l1.below, l1.mem.trans k3, fun b hb => (k4 b hb).trans (l1.old b hb), k5, k6⟩
  cases e' with
  | normal => obtain ⟨q1, v, q2, q3⟩ := hfin; exact ⟨q1, v, q2, conv _ _ q3⟩
  | ret => obtain ⟨q1, v, q2, q3⟩ := hfin; exact ⟨q1, v, q2, conv _ _ q3⟩
  | panic ch => obtain ⟨q1, q3⟩ := hfin; exact ⟨q1, conv _ _ q3⟩
  | outgrown => exact conv _ _ hfin
  | exit i => exact hfin.elim
  | goto l => exact hfin.elim
theorem SpH.ofRuns {f : FuncId} {fn : Func} {c : Code} {args : List V} {h0 : List Blk} {e : Ex} {st1 : St} {v : V} {h1 : List Blk} (hf : C.P.funcs[f]? = some fn) (hb : fn.body = some c) (hn : (fn.name == "runtime.NumGoroutine") = false) (hflat : args.all flat2 = false)
    (h : Runs C h0.length c ⟨args ++ List.replicate (fn.ntmps - args.length) .undef, h0⟩ e st1) (hfin : vfinal C fn false e st1 = some (.ret v h1)) : SpH C f args h0 v h1 := by
  refine ⟨⟨fn, c, hf, hb, hn⟩, hflat, fun k us w B g hh hm hl hB ha => ?_⟩
  obtain ⟨τ, hτ⟩ := free_tau hl
  have hR : R B τ g ⟨args ++ List.replicate (fn.ntmps - args.length) .undef, h0⟩ { tmps := us ++ Array.replicate (fn.ntmps - us.size) undef, defers := [] } w :=
    args_R ha.1 (fun j c hj hc => (ha.2 j c hj hc).2 τ j) hh hm hl hB
  refine CallsIn.ofBody hf hb (h none k B τ g _ w _ hR (fun g' e' a' w' l1 R1 hx => ?_))
  have hfin := final_heap R1 hx hfin
  have conv : ∀ en w2, (w2 = w' ∧ OutIs g' (.ret v h1) en ∧ FOut.plain (.ret v h1) ∧ FOut.heap (.ret v h1) = st1.h) → HeapOut B g w (.ret v h1) en w2 := by
    rintro en w2 ⟨rfl, k1, k2, k3⟩
    refine ⟨g', k1, k2, l1.below, l1.mem, l1.old, fun id b hl => l1.loc id b (hh.bound id b hl) hl, fun b i hi ⟨τ', x, j, k, hp⟩ => l1.lin b i hi ⟨τ', x, j, k, hp, hτ b i hi τ' x j k hp⟩, ?_, R1.mem, R1.lin⟩
    rw [k3]; exact R1.heap
  cases e' with
  | normal => obtain ⟨q1, v, q2, q3⟩ := hfin; exact ⟨q1, v, q2, conv _ _ q3⟩
  | ret => obtain ⟨q1, v, q2, q3⟩ := hfin; exact ⟨q1, v, q2, conv _ _ q3⟩
  | panic ch => obtain ⟨q1, q3⟩ := hfin; exact ⟨q1, conv _ _ q3⟩
  | outgrown => exact conv _ _ hfin
  | exit i => exact hfin.elim
  | goto l => exact hfin.elim
end

/-! ### weaker states -/
/-- What the one says, the other says. -/
def VLe (v v' : V) : Prop := ∀ (g : Gh) (τ i : Nat) (u : Value), RepS g τ i v u → RepS g τ i v' u
def FrLe (vs vs' : List V) : Prop := vs.length = vs'.length ∧ ∀ (i : Nat) (v v' : V), vs[i]? = some v → vs'[i]? = some v' → VLe v v'
theorem VLe.rfl {v : V} : VLe v v := fun _ _ _ _ h => h
theorem VLe.undef {v : V} : VLe v .undef := fun _ _ _ _ _ => trivial
theorem VLe.trans {a b c : V} (h : VLe a b) (k : VLe b c) : VLe a c := fun g τ i u x => k g τ i u (h g τ i u x)
theorem repS_nil_lin {g : Gh} {τ i : Nat} {pr : Bool} {e : TypeId} {n : Nat} (hn : 0 < n) (ad : Option Addr) : RepS g τ i (.lin pr e n []) (.slice ad 0 0) := .inr ⟨rfl, hn, ad, rfl⟩
theorem VLe.nil_lin {e : TypeId} {n : Nat} (hn : 0 < n) : VLe .nils (.lin true e n []) := fun g τ i u h => by
  rw [rep_nils h]; exact repS_nil_lin hn none
theorem VLe.imm_lin {e : TypeId} {n m : Nat} (hn : 0 < n) : VLe (.imm true m []) (.lin true e n []) := fun g τ i u h => by
  have h : RepI g.mem (.imm true m []) u := h
  cases h with
  | none0 => exact repS_nil_lin hn none
  | imm _ _ b off cap _ _ _ hf => have := hf _root_.rfl; simp at this; subst this; exact repS_nil_lin hn _
theorem VLe.nil_imm {b : Bool} {n : Nat} (hn : 0 < n) : VLe .nils (.imm b n []) := fun g τ i u h => by
  rw [rep_nils h]; exact RepI.none0 b n hn
theorem VLe.full_imm {n : Nat} {xs : List V} {b : Bool} : VLe (.imm b n xs) (.imm false n xs) := fun g τ i u h => by
  have h : RepI g.mem (.imm b n xs) u := h
  show RepI g.mem (.imm false n xs) u
  cases h with
  | none0 _ _ hz => exact .none0 false n hz
  | imm _ _ b off cap _ val hc hf hm hz hl hs hv sp hp => exact .imm false xs b off cap n val hc (fun h => by cases h) hm hz hl hs hv sp hp

def CLe (v v' : V) : Prop := ∀ (g : Gh) (p : Place) (u : Value), RepC g p v u → RepC g p v' u
def ALe (v v' : V) : Prop := ∀ (g : Gh) (pl : Nat → Place) (u : Value), RepA g pl v u → RepA g pl v' u
/-- The forms to which cells are brought. -/
inductive Fm1 where
  | keep | lin (e : TypeId) (n : Nat) | imm (n : Nat)
def Fm1.ap : Fm1 → V → V
  | .keep, v => v
  | .lin e (n + 1), .nils => .lin true e (n + 1) []
  | .lin e (n + 1), .imm true _ [] => .lin true e (n + 1) []
  | .lin _ _, v => v
  | .imm (n + 1), .nils => .imm false (n + 1) []
  | .imm _, .imm _ n xs => .imm false n xs
  | .imm _, v => v
theorem Fm1.leC : ∀ (f : Fm1) (v : V), CLe v (f.ap v) := by
  intro f v
  have nil : ∀ {g : Gh} {u : Value}, RepI g.mem .nils u → u = .slice none 0 0 := fun h => by cases h; rfl
  unfold Fm1.ap
  split
  · exact fun _ _ _ h => h
  · exact fun g p u h => by rw [nil h]; exact .inr ⟨rfl, Nat.succ_pos _, none, rfl⟩
  · intro g p u h
    have h : RepI g.mem (.imm true _ []) u := h
    cases h with
    | none0 => exact .inr ⟨rfl, Nat.succ_pos _, none, rfl⟩
    | imm _ _ b off cap _ _ _ hf => have := hf rfl; simp at this; subst this; exact .inr ⟨rfl, Nat.succ_pos _, _, rfl⟩
  · exact fun _ _ _ h => h
  · exact fun g p u h => by rw [nil h]; exact RepI.none0 false _ (Nat.succ_pos _)
  · intro g p u h
    have h : RepI g.mem (.imm _ _ _) u := h
    show RepI g.mem (.imm false _ _) u
    cases h with
    | none0 _ _ hz => exact .none0 false _ hz
    | imm _ _ b off cap _ val hc hf hm hz hl hs hv sp hp => exact .imm false _ b off cap _ val hc (fun h => by cases h) hm hz hl hs hv sp hp
  · exact fun _ _ _ h => h
theorem Fm1.agg_undef (f : Fm1) (v : V) : (f.ap v = v) ∨ (v = .nils ∨ ∃ b n xs, v = .imm b n xs) ∧ ((∃ e n, f.ap v = .lin true e n []) ∨ ∃ n xs, f.ap v = .imm false n xs) := by
  unfold Fm1.ap
  split
  · exact .inl rfl
  · exact .inr ⟨.inl rfl, .inl ⟨_, _, rfl⟩⟩
  · exact .inr ⟨.inr ⟨_, _, _, rfl⟩, .inl ⟨_, _, rfl⟩⟩
  · exact .inl rfl
  · exact .inr ⟨.inl rfl, .inr ⟨_, _, rfl⟩⟩
  · exact .inr ⟨.inr ⟨_, _, _, rfl⟩, .inr ⟨_, _, rfl⟩⟩
  · exact .inl rfl
theorem Fm1.leA (f : Fm1) (v : V) : ALe v (f.ap v) := by
  intro g pl u h
  have hc := f.leC v g (pl 0) u
  rcases f.agg_undef v with e | ⟨e1, e2⟩
  · rw [e]; exact h
  · have h' : RepC g (pl 0) v u := by rcases e1 with rfl | ⟨b, n, xs, rfl⟩ <;> exact h
    have := hc h'
    rcases e2 with ⟨e, n, e2⟩ | ⟨n, xs, e2⟩ <;> rw [e2] at this ⊢ <;> exact this
inductive Fm where
  | of (f : Fm1) | agg (fs : List Fm1)
def apL : List Fm1 → List V → List V
  | f :: fs, v :: vs => f.ap v :: apL fs vs
  | _, vs => vs
def Fm.ap : Fm → V → V
  | .of f, v => f.ap v
  | .agg fs, .agg vs => .agg (apL fs vs)
  | .agg _, v => v
theorem apL_len : ∀ (fs : List Fm1) (vs : List V), (apL fs vs).length = vs.length
  | [], vs => by unfold apL; rfl
  | f :: fs, [] => rfl
  | f :: fs, v :: vs => by simp [apL, apL_len fs vs]
theorem apL_le : ∀ (fs : List Fm1) (vs : List V) (i : Nat) (v' : V), (apL fs vs)[i]? = some v' → ∃ v, vs[i]? = some v ∧ CLe v v'
  | [], vs, i, v', h => by
    have h : vs[i]? = some v' := by unfold apL at h; exact h
    exact ⟨v', h, fun _ _ _ h => h⟩
  | f :: fs, [], i, v', h => by simp [apL] at h
  | f :: fs, v :: vs, 0, v', h => by
    simp only [apL, List.getElem?_cons_zero, Option.some.injEq] at h
    subst h
    exact ⟨v, rfl, f.leC v⟩
  | f :: fs, v :: vs, i + 1, v', h => by
    simp only [apL, List.getElem?_cons_succ] at h
    obtain ⟨x, h1, h2⟩ := apL_le fs vs i v' h
    exact ⟨x, by simpa using h1, h2⟩
theorem Fm.leA (f : Fm) (v : V) : ALe v (f.ap v) := by
  cases f with
  | of f => exact f.leA v
  | agg fs =>
    cases v with
    | agg vs =>
      rintro g pl u ⟨cs, rfl, h1, h2⟩
      refine ⟨cs, rfl, by rw [apL_len]; exact h1, fun j c hj hc => ?_⟩
      obtain ⟨x, hx, hle⟩ := apL_le fs vs j c hc
      exact hle _ _ _ (h2 j x hj hx)
    | _ => exact fun _ _ _ h => h
theorem Fm.notTup (f : Fm) {v : V} (h : ∀ vs, v ≠ .tup vs) : ∀ vs, f.ap v ≠ .tup vs := by
  cases f with
  | of f =>
    rcases f.agg_undef v with e | ⟨_, ⟨e, n, e2⟩ | ⟨n, xs, e2⟩⟩
    · intro vs; show f.ap v ≠ _; rw [e]; exact h vs
    · intro vs; show f.ap v ≠ _; rw [e2]; simp
    · intro vs; show f.ap v ≠ _; rw [e2]; simp
  | agg fs => cases v <;> first | exact h | (intro vs e; simp [Fm.ap] at e)
theorem Fm.le (f : Fm) (v : V) : VLe v (f.ap v) := by
  by_cases h : ∃ vs, v = .tup vs
  · obtain ⟨vs, rfl⟩ := h
    have : f.ap (.tup vs) = .tup vs := by
      cases f with
      | of f =>
        show f.ap _ = _
        unfold Fm1.ap
        split <;> first | rfl | (rename_i h; cases h)
      | agg fs => rfl
    rw [this]; exact VLe.rfl
  · have h : ∀ vs, v ≠ .tup vs := fun vs e => h ⟨vs, e⟩
    intro g τ i u hr
    rw [repS_notTup h] at hr
    rw [repS_notTup (f.notTup h)]
    exact f.leA v _ _ _ hr

/-! ### results -/
def outFs : List Fm → List V → List V
  | f :: fs, v :: vs => f.ap v :: outFs fs vs
  | _, vs => vs
def demF (dm : List Nat) : Nat → List V → List V
  | _, [] => []
  | k, v :: vs => (match dm.contains k with | true => map2 demote1 v | false => v) :: demF dm (k + 1) vs
/-- A result as its readers need it: 'dm': the parts that are demoted; the forms of all. -/
def outR (dm : List Nat) (fs : List Fm) (v : V) : V := match v with
  | .tup vs => .tup (outFs fs (demF dm 0 vs))
  | v => match fs with
    | f :: _ => f.ap (match dm with | [] => v | _ => map2 demote1 v)
    | [] => (match dm with | [] => v | _ => map2 demote1 v)

/-- Only these slots are kept, so. -/
def relaxFr (keep : List (Nat × Fm)) : Nat → List V → List V
  | _, [] => []
  | i, v :: vs => (match keep.lookup i with | some f => f.ap v | none => .undef) :: relaxFr keep (i + 1) vs
def relax (keep : List (Nat × Fm)) (st : St) : St := { st with fr := relaxFr keep 0 st.fr }
theorem relaxFr_le (keep : List (Nat × Fm)) : ∀ (vs : List V) (i : Nat), FrLe vs (relaxFr keep i vs)
  | [], _ => ⟨_root_.rfl, fun j v v' h => by simp at h⟩
  | v :: vs, i => by
    obtain ⟨h1, h2⟩ := relaxFr_le keep vs (i + 1)
    refine ⟨by simp [relaxFr, h1], fun j x x' hx hx' => ?_⟩
    cases j with
    | zero =>
      simp only [relaxFr, List.getElem?_cons_zero, Option.some.injEq] at hx hx'
      subst hx; subst hx'
      split
      · exact Fm.le _ _
      · exact VLe.undef
    | succ j => exact h2 j x x' (by simpa using hx) (by simpa [relaxFr] using hx')
theorem R.weak {B τ : Nat} {g : Gh} {st : St} {a : Act} {w : World} (h : R B τ g st a w) {fr : List V} (hl : FrLe st.fr fr) : R B τ g { st with fr := fr } a w := by
  refine ⟨hl.1 ▸ h.size, fun i v hi hv => ?_, h.heap, h.mem, h.lin, h.base, h.defers⟩
  have hi' : i < st.fr.length := by rw [h.size]; exact hi
  exact hl.2 i _ v (List.getElem?_eq_getElem hi') hv g τ i _ (h.slots i _ hi (List.getElem?_eq_getElem hi'))
theorem Runs.pre {C : Cx} {N : Nat} {c : Code} {st st1 : St} {e : Ex} (keep : List (Nat × Fm)) (h : Runs C N c (relax keep st) e st1) : Runs C N c st e st1 :=
  fun ρ n B τ g a w Q hR hQ => h ρ n B τ g a w Q (hR.weak (relaxFr_le keep st.fr 0)) hQ
theorem Runs.post {C : Cx} {N : Nat} {c : Code} {st st1 : St} {e : Ex} (keep : List (Nat × Fm)) (h : Runs C N c st e st1) : Runs C N c st e (relax keep st1) :=
  fun ρ n B τ g a w Q hR hQ => h ρ n B τ g a w Q hR (fun g' e' a' w' hl hR' he => hQ g' e' a' w' hl (hR'.weak (relaxFr_le keep st1.fr 0)) he)

theorem PureOut.share {m : Mem} {w : World} {v v' : V} {e : Ending} {w' : World} (q : Place → Bool) (hv : ∀ (g : Gh) (B : Nat) (u : Value), LinOk g B w' → RepS g 0 0 v u → RepS (g.share q) 0 0 v' u) (h : PureOut m w (.ret v []) e w') : PureOut m w (.ret v' []) e w' := by
  obtain ⟨g, ⟨u, rfl, hr⟩, h1, h2, h3, h4, h5, h6⟩ := h
  refine ⟨g.share q, ⟨u, rfl, hv g _ u h6 hr⟩, h1, h2, h3.trans (share_memLe h6), fun b hb => ?_, share_mem h6 h5, share_lin h6⟩
  rw [← h4 b hb]
  unfold Gh.share; dsimp only
  cases hl : g.lin b with
  | none => rfl
  | some i => have := (h6.at_ b i hl).1; omega
theorem Sp.mono {C : Cx} {f : FuncId} {args : List V} {v v' : V} (h : Sp C f args v) (hv : ∀ m w e w', PureOut m w (.ret v []) e w' → PureOut m w (.ret v' []) e w') : Sp C f args v' :=
  ⟨h.fn, h.flat, fun n us w m hm ha => by
    have := h.run n us w m hm ha
    rw [callsIn_wide] at this ⊢
    exact this.mono (fun e w' he => hv m w e w' he)⟩
theorem Sp.le {C : Cx} {f : FuncId} {args : List V} {v v' : V} (h : Sp C f args v) (hv : VLe v v') : Sp C f args v' :=
  h.mono (fun m w e w' he => by
    obtain ⟨g, ⟨u, rfl, hr⟩, h1⟩ := he
    exact ⟨g, ⟨u, rfl, hv g 0 0 u hr⟩, h1⟩)

theorem outFs_len : ∀ (fs : List Fm) (vs : List V), (outFs fs vs).length = vs.length
  | [], vs => by unfold outFs; rfl
  | f :: fs, [] => rfl
  | f :: fs, v :: vs => by simp [outFs, outFs_len fs vs]
theorem outFs_le : ∀ (fs : List Fm) (vs : List V) (i : Nat) (v' : V), (outFs fs vs)[i]? = some v' → ∃ v, vs[i]? = some v ∧ ALe v v'
  | [], vs, i, v', h => by
    have h : vs[i]? = some v' := by unfold outFs at h; exact h
    exact ⟨v', h, fun _ _ _ h => h⟩
  | f :: fs, [], i, v', h => by simp [outFs] at h
  | f :: fs, v :: vs, 0, v', h => by
    simp only [outFs, List.getElem?_cons_zero, Option.some.injEq] at h
    subst h
    exact ⟨v, rfl, f.leA v⟩
  | f :: fs, v :: vs, i + 1, v', h => by
    simp only [outFs, List.getElem?_cons_succ] at h
    obtain ⟨x, h1, h2⟩ := outFs_le fs vs i v' h
    exact ⟨x, by simpa using h1, h2⟩
theorem VLe.tupF (fs : List Fm) (vs : List V) : VLe (.tup vs) (.tup (outFs fs vs)) := by
  rintro g τ i u ⟨cs, e, h1, h2⟩
  refine ⟨cs, e, by rw [outFs_len]; exact h1, fun j c hj hc => ?_⟩
  obtain ⟨x, hx, hle⟩ := outFs_le fs vs j c hc
  exact hle _ _ _ (h2 j x hj hx)
theorem demF_len (dm : List Nat) : ∀ (vs : List V) (k : Nat), (demF dm k vs).length = vs.length
  | [], _ => rfl
  | v :: vs, k => by simp [demF, demF_len dm vs (k + 1)]
theorem demF_at (dm : List Nat) : ∀ (vs : List V) (k i : Nat) (c : V), (demF dm k vs)[i]? = some c → ∃ v, vs[i]? = some v ∧ c = (match dm.contains (k + i) with | true => map2 demote1 v | false => v)
  | [], _, _, _, h => by simp [demF] at h
  | v :: vs, k, 0, c, h => by
    simp only [demF, List.getElem?_cons_zero, Option.some.injEq] at h
    exact ⟨v, rfl, by rw [Nat.add_zero]; exact h.symm⟩
  | v :: vs, k, i + 1, c, h => by
    simp only [demF, List.getElem?_cons_succ] at h
    obtain ⟨x, h1, h2⟩ := demF_at dm vs (k + 1) i c h
    exact ⟨x, by simpa using h1, by rw [show k + (i + 1) = k + 1 + i by omega]; exact h2⟩
theorem Sp.demTup {C : Cx} {f : FuncId} {args : List V} {vs : List V} (dm : List Nat) (h : Sp C f args (.tup vs)) : Sp C f args (.tup (demF dm 0 vs)) := by
  refine h.mono (fun m w e w' => PureOut.share (fun p => match p with | .slot _ _ _ (k + 1) => dm.contains k | _ => false) (fun g B u hL hr => ?_))
  obtain ⟨cs, rfl, h1, h2⟩ := hr
  refine ⟨cs, rfl, by rw [demF_len]; exact h1, fun j c hj hc => ?_⟩
  obtain ⟨x, hx, rfl⟩ := demF_at dm vs 0 j c hc
  have hr := h2 j x hj hx
  rw [Nat.zero_add]
  cases hd : dm.contains j with
  | true => exact (hr.shared hL (fun i => hd)).2 _
  | false => exact hr.mono (share_memLe hL) (fun _ _ h => h) (fun i b x hx hp => lin_share_of hx (by rw [hp]; exact hd))
theorem Sp.demOne {C : Cx} {f : FuncId} {args : List V} {v : V} (hv : ∀ vs, v ≠ .tup vs) (h : Sp C f args v) : Sp C f args (map2 demote1 v) := by
  have hd : ∀ vs, map2 demote1 v ≠ .tup vs := (map3_notTup (f := demote1) (fun v h => by cases v <;> first | rfl | cases h) hv).2
  refine h.mono (fun m w e w' => PureOut.share (fun p => match p with | .slot .. => true | _ => false) (fun g B u hL hr => ?_))
  rw [repS_notTup hv] at hr
  rw [repS_notTup hd]
  exact (hr.shared hL (fun i => rfl)).2 _
theorem Sp.outR {C : Cx} {f : FuncId} {args : List V} {v : V} (dm : List Nat) (fs : List Fm) (h : Sp C f args v) : Sp C f args (Fw.outR dm fs v) := by
  by_cases ht : ∃ vs, v = .tup vs
  · obtain ⟨vs, rfl⟩ := ht
    exact (h.demTup dm).le (VLe.tupF fs _)
  · have ht : ∀ vs, v ≠ .tup vs := fun vs e => ht ⟨vs, e⟩
    cases dm with
    | nil =>
      cases fs with
      | nil =>
        have e : Fw.outR [] [] v = v := by cases v <;> first | rfl | exact absurd _root_.rfl (ht _)
        rw [e]; exact h
      | cons f fs =>
        have e : Fw.outR [] (f :: fs) v = f.ap v := by cases v <;> first | rfl | exact absurd _root_.rfl (ht _)
        rw [e]; exact h.le (f.le _)
    | cons x y =>
      cases fs with
      | nil =>
        have e : Fw.outR (x :: y) [] v = map2 demote1 v := by cases v <;> first | rfl | exact absurd _root_.rfl (ht _)
        rw [e]; exact h.demOne ht
      | cons f fs =>
        have e : Fw.outR (x :: y) (f :: fs) v = f.ap (map2 demote1 v) := by cases v <;> first | rfl | exact absurd _root_.rfl (ht _)
        rw [e]; exact (h.demOne ht).le (f.le _)
end Go.Fw
/- A state may be told otherwise on the way: what grows alone becomes an array of the evaluator's heap; slots are weakened. -/
namespace Go.Fw
open Go.RowKit

/-- One state leads to another with nothing done. -/
def StTo (N : Nat) (st st' : St) : Prop := ∀ (B τ : Nat) (g : Gh) (a : Act) (w : World), R B τ g st a w → ∃ g', LaterN N B τ g g' w w ∧ R B τ g' st' a w
theorem StTo.refl {N : Nat} (st : St) : StTo N st st := fun _ _ g _ _ h => ⟨g, LaterN.refl .., h⟩
theorem StTo.trans {N : Nat} {a b c : St} (h : StTo N a b) (k : StTo N b c) : StTo N a c := fun B τ g x w hr => by
  obtain ⟨g1, l1, r1⟩ := h B τ g x w hr
  obtain ⟨g2, l2, r2⟩ := k B τ g1 x w r1
  exact ⟨g2, l1.trans l2, r2⟩

/-! ### boxes that nobody holds any more -/
def refB0 (M : Nat) : V → Bool
  | .ptr id _ => decide (id < M)
  | _ => true
def refB1 (M : Nat) : V → Bool
  | .ptr id _ => decide (id < M)
  | .own id _ _ _ => decide (id < M)
  | .fn _ first caps => first.all (refB0 M) && caps.all (refB0 M)
  | _ => true
def refB2 (M : Nat) : V → Bool
  | .agg vs => vs.all (refB1 M)
  | v => refB1 M v
def refB3 (M : Nat) : V → Bool
  | .tup vs => vs.all (refB2 M)
  | v => refB2 M v
def Gh.cut (g : Gh) (M : Nat) : Gh := { g with loc := fun id => if id < M then g.loc id else none }
theorem cut_loc {g : Gh} {M id b : Nat} (hi : id < M) (h : g.loc id = some b) : (g.cut M).loc id = some b := by
  show (if id < M then g.loc id else none) = some b
  rw [if_pos hi]; exact h
theorem RepP.cut {g : Gh} {M : Nat} {v : V} {u : Value} (hv : refB0 M v = true) (h : RepP g v u) : RepP (g.cut M) v u := by
  unfold RepP at *
  split at h
  · obtain ⟨b, h1, h2⟩ := h
    simp only [refB0, decide_eq_true_eq] at hv
    exact ⟨b, cut_loc hv h1, h2⟩
  · exact h
theorem RepC.cut {g : Gh} {M : Nat} {p : Place} {v : V} {u : Value} (hv : refB1 M v = true) (h : RepC g p v u) : RepC (g.cut M) p v u := by
  cases v with
  | ptr id off =>
    obtain ⟨b, h1, h2⟩ := h
    simp only [refB1, decide_eq_true_eq] at hv
    exact ⟨b, cut_loc hv h1, h2⟩
  | own id off len room =>
    simp only [refB1, decide_eq_true_eq] at hv
    rcases h with ⟨b, cap, h1, h2⟩ | h
    · exact .inl ⟨b, cap, cut_loc hv h1, h2⟩
    · exact .inr h
  | fn f first caps =>
    simp only [refB1, Bool.and_eq_true, List.all_eq_true] at hv
    obtain ⟨a, c, h1, h2, h3, h4, h5⟩ := h
    exact ⟨a, c, h1, h2, h3, fun j x hj hx => (h4 j x hj hx).cut (hv.1 _ (List.mem_of_getElem? hx)), fun j x hj hx => (h5 j x hj hx).cut (hv.2 _ (List.mem_of_getElem? hx))⟩
  | agg => exact h.elim
  | tup => exact h.elim
  | _ => exact h
theorem RepA.cut {g : Gh} {M : Nat} {pl : Nat → Place} {v : V} {u : Value} (hv : refB2 M v = true) (h : RepA g pl v u) : RepA (g.cut M) pl v u := by
  by_cases ha : ∃ vs, v = .agg vs
  · obtain ⟨vs, rfl⟩ := ha
    simp only [refB2, List.all_eq_true] at hv
    obtain ⟨cs, h1, h2, h3⟩ := h
    exact ⟨cs, h1, h2, fun j c hj hc => (h3 j c hj hc).cut (hv _ (List.mem_of_getElem? hc))⟩
  · have hv' : refB1 M v = true := by cases v <;> first | exact hv | exact absurd ⟨_, rfl⟩ ha
    rcases repA_inv h with e | h | h
    · subst e; trivial
    · exact repA_cell (h.cut hv')
    · exact absurd h ha
theorem RepS.cut {g : Gh} {M τ i : Nat} {v : V} {u : Value} (hv : refB3 M v = true) (h : RepS g τ i v u) : RepS (g.cut M) τ i v u := by
  by_cases ha : ∃ vs, v = .tup vs
  · obtain ⟨vs, rfl⟩ := ha
    simp only [refB3, List.all_eq_true] at hv
    obtain ⟨cs, h1, h2, h3⟩ := h
    exact ⟨cs, h1, h2, fun k c hk hc => (h3 k c hk hc).cut (hv _ (List.mem_of_getElem? hc))⟩
  · have hn : ∀ vs, v ≠ .tup vs := fun vs e => ha ⟨vs, e⟩
    have hv' : refB2 M v = true := by cases v <;> first | exact hv | exact absurd rfl (hn _)
    rw [repS_notTup hn] at h ⊢
    exact h.cut hv'
def blkBelow (M : Nat) : Blk → Bool
  | .cells cs _ => cs.all (refB1 M)
  | .dead => true
/-- The boxes from 'M' on are forgotten. -/
def cutSt (M : Nat) (st : St) : St := ⟨st.fr.map fun v => match refB3 M v with | true => v | false => .undef, st.h.take M⟩
theorem R.cut {B τ : Nat} {g : Gh} {st : St} {a : Act} {w : World} {M : Nat} (h : R B τ g st a w) (hb : (st.h.take M).all (blkBelow M) = true) : R B τ (g.cut M) (cutSt M st) a w := by
  refine ⟨by simpa [cutSt] using h.size, fun i v hi hv => ?_, ⟨fun id b hl => ?_, fun id id' b h1 h2 => ?_, fun id b hl => ?_, fun id b cs e hl he => ?_⟩, ⟨h.mem.at_⟩, ⟨h.lin.at_⟩, h.base, h.defers⟩
  · simp only [cutSt, List.getElem?_map] at hv
    obtain ⟨v0, hv0, rfl⟩ := Option.map_eq_some_iff.1 hv
    cases hr : refB3 M v0 with
    | true => exact (h.slots i v0 hi hv0).cut hr
    | false => trivial
  · have hl : (if id < M then g.loc id else none) = some b := hl
    split at hl
    · rename_i hm
      have := h.heap.bound id b hl
      simp [cutSt]; omega
    · cases hl
  · have h1 : (if id < M then g.loc id else none) = some b := h1
    have h2 : (if id' < M then g.loc id' else none) = some b := h2
    split at h1 <;> split at h2 <;> first | exact h.heap.inj _ _ _ h1 h2 | cases h1 | cases h2
  · have hl : (if id < M then g.loc id else none) = some b := hl
    split at hl
    · exact h.heap.fresh id b hl
    · cases hl
  · have hl : (if id < M then g.loc id else none) = some b := hl
    split at hl
    · rename_i hm
      have he : (st.h.take M)[id]? = some (.cells cs e) := he
      have hmem := List.mem_of_getElem? he
      rw [List.all_eq_true] at hb
      have hcs := hb _ hmem
      simp only [blkBelow, List.all_eq_true] at hcs
      rw [List.getElem?_take, if_pos hm] at he
      obtain ⟨cur, q1, q2, q3⟩ := h.heap.blk id b cs e hl he
      exact ⟨cur, q1, q2, fun j c hj hc => (q3 j c hj hc).cut (hcs _ (List.mem_of_getElem? hc))⟩
    · cases hl

inductive Tell where
  | thaw (t : Nat) | thawAt (t j : Nat) | relax (keep : List (Nat × Fm)) | put (t : Nat) (f : Fm) | cut (M : Nat)
def tell1 (N : Nat) (st : St) : Tell → Option St
  | .cut M => match decide (N ≤ M) && (st.h.take M).all (blkBelow M) with
    | true => some (cutSt M st)
    | false => none
  | .thaw t => match getS st.fr t with
    | .lin true e _ xs => some ⟨st.fr.set t (.own st.h.length 0 xs.length xs.length), st.h ++ [.cells (xs.flatMap V.cells) e]⟩
    | _ => none
  | .thawAt t j => match getS st.fr t with
    | .agg vs => match vs[j]? with
      | some (.lin true e _ xs) => some ⟨st.fr.set t (.agg (vs.set j (.own st.h.length 0 xs.length xs.length))), st.h ++ [.cells (xs.flatMap V.cells) e]⟩
      | _ => none
    | _ => none
  | .relax keep => some (Fw.relax keep st)
  | .put t f => some { st with fr := st.fr.set t (f.ap (getS st.fr t)) }
def tell (N : Nat) : List Tell → St → Option St
  | [], st => some st
  | x :: r, st => match tell1 N st x with
    | some st => tell N r st
    | none => none

theorem thaw_cell {B τ : Nat} {g : Gh} {st : St} {a : Act} {w : World} (h : R B τ g st a w) {t q : Nat} {e : TypeId} {sz : Nat} {xs : List V} {u : Value} {v' : V} (hu : RepC g (.slot τ t q 0) (.lin true e sz xs) u)
    (hv' : ∀ g' : Gh, MemLe g.mem g'.mem → (∀ id b, g.loc id = some b → g'.loc id = some b) → (∀ b i, g.lin b = some i → i.place ≠ .slot τ t q 0 → g'.lin b = some i) → RepC g' (.slot τ t q 0) (.own st.h.length 0 xs.length xs.length) u → ∀ x, a.tmps[t]? = some x → RepS g' τ t v' x) :
    ∃ g', Later B τ g g' w w ∧ R B τ g' ⟨st.fr.set t v', st.h ++ [.cells (xs.flatMap V.cells) e]⟩ a w := by
  have slots : ∀ g' : Gh, MemLe g.mem g'.mem → (∀ id b, g.loc id = some b → g'.loc id = some b) → (∀ b i, g.lin b = some i → i.place ≠ .slot τ t q 0 → g'.lin b = some i) → RepC g' (.slot τ t q 0) (.own st.h.length 0 xs.length xs.length) u →
      ∀ (i : Nat) (v : V) (hi : i < a.tmps.size), (st.fr.set t v')[i]? = some v → RepS g' τ i v a.tmps[i] := by
    intro g' h1 h2 h3 h4 i v hi hv
    by_cases e : t = i
    · subst e
      have hlt : t < st.fr.length := by rw [h.size]; exact hi
      rw [List.getElem?_set_self hlt] at hv
      cases hv
      exact hv' g' h1 h2 h3 h4 _ (Array.getElem?_eq_getElem hi)
    · rw [List.getElem?_set_ne e] at hv
      exact RepS.mono h1 h2 (fun j k b x hx hp => h3 b x hx (by rw [hp]; intro e'; injection e' with _ e'; exact e e'.symm)) (h.slots i v hi hv)
  simp only [RepC] at hu
  rcases hu with ⟨b, i, hb, hp, hpr, ⟨rfl, rfl⟩, rfl, hel⟩ | ⟨rfl, hz0, ad, rfl⟩
  rotate_left
  · refine ⟨g, Later.refl .., ⟨by simpa using h.size, slots g (MemLe.refl _) (fun _ _ h => h) (fun _ _ h _ => h) (.inr ⟨rfl, rfl, ad, rfl⟩), ⟨fun id x hx => ?_, h.heap.inj, h.heap.fresh, fun id x cs e hx he => ?_⟩, h.mem, h.lin, h.base, h.defers⟩⟩
    · have := h.heap.bound _ _ hx; simp; omega
    · have hlt := h.heap.bound _ _ hx
      rw [List.getElem?_append_left hlt] at he
      exact h.heap.blk id x cs e hx he
  obtain ⟨k1, ⟨cur, k2, k3, k4⟩, k5, k6, k7, k8, _⟩ := h.lin.at_ b i hb
  have hmb := k8 hpr
  have hnl : ∀ id, g.loc id ≠ some b := by
    intro id hid
    obtain ⟨_, _, _, h4⟩ := h.heap.fresh id b hid
    rw [hb] at h4; cases h4
  have hno : g.loc st.h.length = none := by
    cases hh : g.loc st.h.length with
    | none => rfl
    | some x => have := h.heap.bound _ _ hh; omega
  have hloc : ∀ id x, g.loc id = some x → (g.thaw st.h.length b).loc id = some x := by
    intro id x hx
    unfold Gh.thaw; dsimp only
    rw [if_neg (by rintro rfl; rw [hno] at hx; cases hx)]
    exact hx
  have hlin : ∀ x i', g.lin x = some i' → i'.place ≠ .slot τ t q 0 → (g.thaw st.h.length b).lin x = some i' := by
    intro x i' hx hne
    unfold Gh.thaw; dsimp only
    rw [if_neg (by rintro rfl; rw [hb] at hx; cases hx; exact hne hp)]
    exact hx
  have hwl : xs.length ≤ i.cap := by rw [hel.1] at k5; exact Nat.le_of_mul_le_mul_right k5 k7
  refine ⟨g.thaw st.h.length b, ⟨Below.refl _ _, MemLe.refl _, fun _ _ => rfl, hloc, fun x i' hx ⟨τ', y, j, k, hq, hne⟩ => hlin x i' hx (by rw [hq]; intro e; injection e with e _; exact hne e)⟩,
    ⟨by simpa using h.size, slots _ (MemLe.refl _) hloc hlin (.inl ⟨b, i.cap, ?_, rfl, hwl, k6, hwl⟩), ⟨fun id x hx => ?_, fun id id' x h1 h2 => ?_, fun id x hx => ?_, fun id x cs e hx he => ?_⟩, h.mem, ⟨fun x i' hx => ?_⟩, h.base, h.defers⟩⟩
  · unfold Gh.thaw; dsimp only; rw [if_pos rfl]
  · unfold Gh.thaw at hx; dsimp only at hx
    rw [List.length_append]
    split at hx
    · rename_i e; subst e; simp
    · have := h.heap.bound _ _ hx; simp; omega
  · unfold Gh.thaw at h1 h2; dsimp only at h1 h2
    split at h1 <;> split at h2
    · rename_i e1 e2; rw [e1, e2]
    · cases h1; exact absurd h2 (hnl _)
    · cases h2; exact absurd h1 (hnl _)
    · exact h.heap.inj _ _ _ h1 h2
  · unfold Gh.thaw at hx; dsimp only at hx
    split at hx
    · cases hx
      refine ⟨k1, (Array.getElem?_eq_some_iff.1 k2).1, hmb, ?_⟩
      unfold Gh.thaw; dsimp only; rw [if_pos rfl]
    · obtain ⟨h1, h2, h3, h4⟩ := h.heap.fresh id x hx
      refine ⟨h1, h2, h3, ?_⟩
      unfold Gh.thaw; dsimp only
      rw [if_neg (by rintro rfl; exact hnl _ hx)]; exact h4
  · unfold Gh.thaw at hx; dsimp only at hx
    split at hx
    · rename_i e'
      subst e'
      cases hx
      rw [List.getElem?_append_right (Nat.le_refl _)] at he
      simp at he
      obtain ⟨rfl, rfl⟩ := he
      have hfl := flatMap_len hel.2.2.1
      refine ⟨cur, k2, by rw [hfl, k4]; exact Nat.mul_le_mul_right _ hwl, fun j c hj hc => ?_⟩
      obtain ⟨x, h1, h2⟩ := flatMap_at hel.2.2.1 k7 hc
      obtain ⟨q1, q, q2, q3⟩ := hel.2.2.2 _ x _ c h1 h2
      have hjj : j / i.esz * i.esz + j % i.esz = j := by rw [Nat.mul_comm]; exact Nat.div_add_mod _ _
      rw [hjj] at q2
      have := mem_of_prefix k3 q2
      rw [Array.getElem?_eq_getElem hj] at this
      cases this
      exact cell_flat q1 q3
    · rename_i hne
      have hlt := h.heap.bound _ _ hx
      rw [List.getElem?_append_left hlt] at he
      obtain ⟨cur', h1, h2, h3⟩ := h.heap.blk id x cs e hx he
      exact ⟨cur', h1, h2, fun j c hj hc => RepC.mono (g := g) (g' := g.thaw st.h.length b) (MemLe.refl _) hloc (fun y i0 hy hp => hlin y i0 hy (by rw [hp]; intro e; cases e)) (h3 j c hj hc)⟩
  · unfold Gh.thaw at hx; dsimp only at hx
    split at hx
    · cases hx
    · exact h.lin.at_ x i' hx

theorem tell1_ok {N : Nat} {st st' : St} {x : Tell} (h : tell1 N st x = some st') : StTo N st st' := by
  intro B τ g a w hR
  have strong : ∀ {st' : St}, (∃ g', Later B τ g g' w w ∧ R B τ g' st' a w) → ∃ g', LaterN N B τ g g' w w ∧ R B τ g' st' a w := fun ⟨g', l, r⟩ => ⟨g', .of l, r⟩
  unfold tell1 at h
  split at h
  · rename_i M
    split at h
    · rename_i hc
      cases h
      simp only [Bool.and_eq_true, decide_eq_true_eq] at hc
      exact ⟨g.cut M, ⟨Below.refl _ _, MemLe.refl _, fun _ _ => rfl, fun id b hn hl => cut_loc (by omega) hl, fun _ _ h _ => h⟩, hR.cut hc.2⟩
    · cases h
  · rename_i t
    split at h
    · rename_i e sz xs hv
      cases h
      by_cases ht : t < a.tmps.size
      · have hs : RepS g τ t (.lin true e sz xs) a.tmps[t] := hR.slots t _ ht (by
          have hlt : t < st.fr.length := by rw [hR.size]; exact ht
          rw [List.getElem?_eq_getElem hlt, ← getS_eq (List.getElem?_eq_getElem hlt), hv])
        exact strong <| thaw_cell hR (q := 0) hs (fun g' h1 h2 h3 h4 x hx => by
          rw [Array.getElem?_eq_getElem ht] at hx
          cases hx
          exact h4)
      · exfalso
        have : getS st.fr t = .undef := by
          unfold getS
          rw [List.getD_eq_getElem?_getD, List.getElem?_eq_none (by rw [hR.size]; omega)]
          rfl
        rw [this] at hv; cases hv
    · cases h
  · rename_i t j
    split at h
    · rename_i vs hv
      split at h
      · rename_i e sz xs hj
        cases h
        by_cases ht : t < a.tmps.size
        · have hs : RepS g τ t (.agg vs) a.tmps[t] := hR.slots t _ ht (by
            have hlt : t < st.fr.length := by rw [hR.size]; exact ht
            rw [List.getElem?_eq_getElem hlt, ← getS_eq (List.getElem?_eq_getElem hlt), hv])
          obtain ⟨cs, hcs, hl, hc⟩ := hs
          have hjl : j < cs.size := by rw [← hl]; exact (List.getElem?_eq_some_iff.1 hj).1
          refine strong <| thaw_cell hR (q := j + 1) (hc j _ hjl hj) (fun g' h1 h2 h3 h4 x hx => ?_)
          rw [Array.getElem?_eq_getElem ht] at hx
          cases hx
          refine ⟨cs, hcs, by simpa using hl, fun i c hi hci => ?_⟩
          by_cases e : j = i
          · subst e
            rw [List.getElem?_set_self (by omega)] at hci
            cases hci
            exact h4
          · rw [List.getElem?_set_ne e] at hci
            exact (hc i c hi hci).mono h1 h2 (fun b x hx hp => h3 b x hx (by rw [hp]; intro e'; injection e' with _ _ e'; omega))
        · exfalso
          have : getS st.fr t = .undef := by
            unfold getS
            rw [List.getD_eq_getElem?_getD, List.getElem?_eq_none (by rw [hR.size]; omega)]
            rfl
          rw [this] at hv; cases hv
      · cases h
    · cases h
  · cases h
    exact ⟨g, LaterN.refl .., hR.weak (relaxFr_le _ st.fr 0)⟩
  · rename_i t f
    cases h
    refine ⟨g, LaterN.refl .., hR.weak ⟨by simp, fun i v v' hv hv' => ?_⟩⟩
    by_cases e : t = i
    · subst e
      have hlt := (List.getElem?_eq_some_iff.1 hv).1
      rw [List.getElem?_set_self hlt] at hv'
      cases hv'
      rw [getS_eq hv]
      exact f.le v
    · rw [List.getElem?_set_ne e] at hv'
      rw [hv] at hv'
      cases hv'
      exact VLe.rfl
theorem tell_ok {N : Nat} : ∀ {l : List Tell} {st st' : St}, tell N l st = some st' → StTo N st st'
  | [], st, st', h => by cases h; exact StTo.refl _
  | x :: r, st, st', h => by
    unfold tell at h
    split at h
    · rename_i s hs
      exact (tell1_ok hs).trans (tell_ok h)
    · cases h
end Go.Fw
/- Runs over unknown values as trees: each choice, each check, each call is a node; what a tree reaches the machine does. -/
namespace Go.Fw

inductive T (α : Type) where
  | ret (a : α)
  | fail
  | ite (s : Nat) (b : Bool) (x y : T α)
  | chk (s : Nat) (b : Bool) (x : T α)
  | opt (s : Nat) (o : Option V) (k : V → T α)
  | call (s : Nat) (f : FuncId) (args : List V) (k : V → T α)
  | callH (s : Nat) (f : FuncId) (args : List V) (h : List Blk) (k : V → List Blk → T α)
  | loop (s : Nat) (b : Code) (st : St) (k : Ex → St → T α)
  | norm (s : Nat) (st : St) (k : St → T α)
  | «open» (s : Nat) (st : St) (k : St → T α)

def xp {α : Type} (a : α) : T α := .ret a
def xf {α : Type} : T α := .fail
def xb {α β : Type} (m : T α) (f : α → T β) : T β := match m with
  | .ret a => f a
  | .fail => .fail
  | .ite s b x y => .ite s b (xb x f) (xb y f)
  | .chk s b x => .chk s b (xb x f)
  | .opt s o k => .opt s o (fun v => xb (k v) f)
  | .call s g args k => .call s g args (fun v => xb (k v) f)
  | .callH s g args h k => .callH s g args h (fun v h => xb (k v h) f)
  | .loop s b st k => .loop s b st (fun e st => xb (k e st) f)
  | .norm s st k => .norm s st (fun st => xb (k st) f)
  | .open s st k => .open s st (fun st => xb (k st) f)
def xchk (s : Nat) (b : Bool) : T Unit := .chk s b (.ret ())
def xcond (s : Nat) (b : Bool) : T Bool := .ite s b (.ret true) (.ret false)
def xlift {α : Type} (o : Option α) : T α := match o with
  | some a => .ret a
  | none => .fail
def xopt (s : Nat) (o : Option V) : T V := .opt s o .ret

/-- The first region of a loop, and how deep loops stand in it: its name. -/
def firstReg : Code → Nat
  | .region id _ _ => id
  | .seq a _ => firstReg a
  | .block _ a => firstReg a
  | .loop a => firstReg a
  | .cond _ a _ => firstReg a
  | _ => 9999
def loopHeight : Code → Nat
  | .seq a b => max (loopHeight a) (loopHeight b)
  | .cond _ a b => max (loopHeight a) (loopHeight b)
  | .block _ b => loopHeight b
  | .loop b => loopHeight b + 1
  | _ => 0
def lkey (b : Code) : Nat := firstReg b * 8 + loopHeight b

/-- The bodies of the loops of a code. -/
def subloops : Code → List Code
  | .seq a b => subloops a ++ subloops b
  | .cond _ a b => subloops a ++ subloops b
  | .block _ b => subloops b
  | .loop b => b :: subloops b
  | _ => []
def findLoop (s : Nat) : List Code → Option Code
  | [] => none
  | b :: r => match lkey b == s with
    | true => some b
    | false => findLoop s r
def loopAt (C : Cx) (f : FuncId) (s : Nat) : Option Code := match C.P.funcs[f]? with
  | some fn => match fn.body with
    | some c => findLoop s (subloops c)
    | none => none
  | none => none
def noTwin : List Nat → Bool
  | [] => true
  | x :: r => r.all (· != x) && noTwin r
def loopsOk (c : Code) : Bool := noTwin ((subloops c).map lkey)
theorem findLoop_of : ∀ {l : List Code} {b : Code}, noTwin (l.map lkey) = true → b ∈ l → findLoop (lkey b) l = some b
  | [], b, _, h => by cases h
  | x :: r, b, hn, h => by
    simp only [List.map_cons, noTwin, Bool.and_eq_true] at hn
    unfold findLoop
    rcases List.mem_cons.1 h with rfl | h
    · simp
    · have hne : (lkey x == lkey b) = false := by
        have := List.all_eq_true.1 hn.1 (lkey b) (List.mem_map.2 ⟨b, h, rfl⟩)
        simp only [bne_iff_ne, ne_eq] at this
        simp only [beq_eq_false_iff_ne, ne_eq]
        exact fun e => this e.symm
      rw [hne]
      exact findLoop_of hn.2 h

/-- What a tree reaches. -/
def Hits (C : Cx) (f : FuncId) (N : Nat) {α : Type} : T α → α → Prop
  | .ret a, x => x = a
  | .fail, _ => False
  | .ite _ b t u, x => (b = true ∧ Hits C f N t x) ∨ (b = false ∧ Hits C f N u x)
  | .chk _ b t, x => b = true ∧ Hits C f N t x
  | .opt _ o k, x => ∃ v, o = some v ∧ Hits C f N (k v) x
  | .call _ g args k, x => ∃ v, Sp C g args v ∧ Hits C f N (k v) x
  | .callH _ g args h k, x => ∃ v h', SpH C g args h v h' ∧ Hits C f N (k v h') x
  | .loop s b st k, x => ∃ e st', (loopAt C f s = some b → Runs C N (.loop b) st e st') ∧ Hits C f N (k e st') x
  | .norm _ st k, x => Hits C f N (k st) x
  | .open _ st k, x => ∃ st', StTo N st st' ∧ Hits C f N (k st') x

def Snd {α : Type} (C : Cx) (f : FuncId) (N : Nat) (m : T α) (U : α → Prop) : Prop := ∀ a, Hits C f N m a → U a

section
variable {C : Cx} {f : FuncId} {N : Nat}
theorem snd_xp {α : Type} {a : α} {U : α → Prop} (h : U a) : Snd C f N (xp a) U := by
  intro x hx
  have hx : x = a := hx
  exact hx ▸ h
theorem snd_xf {α : Type} {U : α → Prop} : Snd C f N (xf : T α) U := fun x hx => hx.elim
theorem reach_xb {α β : Type} {k : α → T β} {x : β} : ∀ {m : T α}, Hits C f N (xb m k) x → ∃ a, Hits C f N m a ∧ Hits C f N (k a) x
  | .ret a, h => ⟨a, rfl, h⟩
  | .fail, h => h.elim
  | .ite s b t u, h => by
    rcases h with ⟨hb, h⟩ | ⟨hb, h⟩
    · obtain ⟨a, h1, h2⟩ := reach_xb h; exact ⟨a, .inl ⟨hb, h1⟩, h2⟩
    · obtain ⟨a, h1, h2⟩ := reach_xb h; exact ⟨a, .inr ⟨hb, h1⟩, h2⟩
  | .chk s b t, h => by
    obtain ⟨hb, h⟩ := h
    obtain ⟨a, h1, h2⟩ := reach_xb h
    exact ⟨a, ⟨hb, h1⟩, h2⟩
  | .opt s o k, h => by
    obtain ⟨v, hv, h⟩ := h
    obtain ⟨a, h1, h2⟩ := reach_xb h
    exact ⟨a, ⟨v, hv, h1⟩, h2⟩
  | .call s g args k, h => by
    obtain ⟨v, hv, h⟩ := h
    obtain ⟨a, h1, h2⟩ := reach_xb h
    exact ⟨a, ⟨v, hv, h1⟩, h2⟩
  | .callH s g args hh k, h => by
    obtain ⟨v, h', hv, h⟩ := h
    obtain ⟨a, h1, h2⟩ := reach_xb h
    exact ⟨a, ⟨v, h', hv, h1⟩, h2⟩
  | .loop s b st k, h => by
    obtain ⟨e, st', hv, h⟩ := h
    obtain ⟨a, h1, h2⟩ := reach_xb h
    exact ⟨a, ⟨e, st', hv, h1⟩, h2⟩
  | .norm s st k, h => by
    obtain ⟨a, h1, h2⟩ := reach_xb (m := k st) h
    exact ⟨a, h1, h2⟩
  | .open s st k, h => by
    obtain ⟨st', hto, h⟩ := h
    obtain ⟨a, h1, h2⟩ := reach_xb (m := k st') h
    exact ⟨a, ⟨st', hto, h1⟩, h2⟩
theorem snd_xb {α β : Type} {m : T α} {k0 : α → T β} {U : α → Prop} {W : β → Prop} (h : Snd C f N m U) (k : ∀ a, U a → Snd C f N (k0 a) W) : Snd C f N (xb m k0) W := by
  intro x hx
  obtain ⟨a, h1, h2⟩ := reach_xb hx
  exact k a (h a h1) x h2
theorem snd_xlift {α : Type} {o : Option α} : Snd C f N (xlift o) (fun x => o = some x) := by
  intro x hx
  cases o with
  | some a => have hx : x = a := hx; rw [hx]
  | none => exact hx.elim
theorem snd_xchk {s : Nat} {b : Bool} : Snd C f N (xchk s b) (fun _ => b = true) := fun x hx => hx.1
theorem snd_xcond {s : Nat} {b : Bool} : Snd C f N (xcond s b) (fun x => b = x) := by
  intro x hx
  rcases hx with ⟨h1, h2⟩ | ⟨h1, h2⟩
  · have h2 : x = true := h2; rw [h1, h2]
  · have h2 : x = false := h2; rw [h1, h2]
theorem snd_xopt {s : Nat} {o : Option V} : Snd C f N (xopt s o) (fun x => o = some x) := by
  intro x hx
  obtain ⟨v, h1, h2⟩ := hx
  have h2 : x = v := h2
  rw [h1, h2]
theorem snd_xcall {s : Nat} {g : FuncId} {args : List V} : Snd C f N (.call s g args .ret) (fun v => Sp C g args v) := by
  intro x hx
  obtain ⟨v, h1, h2⟩ := hx
  have h2 : x = v := h2
  rw [h2]; exact h1
theorem snd_xcallH {s : Nat} {g : FuncId} {args : List V} {h : List Blk} : Snd C f N (.callH s g args h (fun v h' => .ret (v, h'))) (fun q => SpH C g args h q.1 q.2) := by
  intro x hx
  obtain ⟨v, h', h1, h2⟩ := hx
  have h2 : x = (v, h') := h2
  rw [h2]; exact h1
end

/-- What is appended, told apart. -/
def xapp (si : Nat) (e : TypeId) (sz : Nat) (s : V) (ys : List V) : T (Nat × V) :=
  match s with
  | .nils => xb (xcond si ys.isEmpty) fun t => if t then xp (0, .nils) else xp (ys.length, .lin true e sz ys)
  | .imm true n xs => xb (xcond si ys.isEmpty) fun t => if t then xp (xs.length, .imm true n xs) else if n = sz then xp (xs.length + ys.length, .lin true e sz (xs ++ ys)) else xf
  | .lin p e' n xs => if n = sz ∧ e' = e then xp (xs.length + ys.length, .lin p e sz (xs ++ ys)) else xf
  | _ => xf

theorem snd_xapp {C : Cx} {f : FuncId} {N : Nat} {si : Nat} {e : TypeId} {sz : Nat} {s : V} {ys : List V} : Snd C f N (xapp si e sz s ys) (fun r => vappend e sz s ys = some r) := by
  unfold xapp
  split
  · refine snd_xb snd_xcond (fun t ht => ?_)
    cases ys with
    | nil => cases ht; exact snd_xp rfl
    | cons y ys => cases ht; exact snd_xp rfl
  · refine snd_xb snd_xcond (fun t ht => ?_)
    cases ys with
    | nil => cases ht; exact snd_xp rfl
    | cons y ys =>
      cases ht
      rw [if_neg (by simp)]
      split
      · rename_i h
        exact snd_xp (by unfold vappend; dsimp only; rw [if_pos h])
      · exact snd_xf
  · split
    · rename_i h
      exact snd_xp (by unfold vappend; dsimp only; rw [if_pos h])
    · exact snd_xf
  · exact snd_xf

/-- The place of an operation. -/
def site (o : Oper) : Nat := match o.dst, o.op with
  | some d, _ => d
  | none, .store _ (.tmp t) _ => 3000 + t
  | _, _ => 999
/-- One operation. -/
def xop (C : Cx) (f : FuncId) (o : Oper) (st : St) : T (V × St) :=
  match o.op with
  | .pick c a b => match st.peek c with
    | .bool t => xb (xcond (site o) t) fun t => match t with
      | true => xp (st.useV a, st.useS a)
      | false => xp (st.useV b, st.useS b)
    | _ => xf
  | .load t a => match isAggT C.P t, sizeT C.P t with
    | some g, some n => match st.peek a with
      | .ptr id off => match st.h[id]? with
        | some (.cells cs e) => xb (xchk (site o) (decide (off + n ≤ cs.length))) fun _ =>
            let c := (cs.drop off).take n
            match o.dst with
            | some d =>
              if (C.tr f).contains d then xb (xlift (ofCells g c)) fun v => xp (v, { st with h := st.h.set id (.cells (setAt cs off (c.map drop1)) e) })
              else xb (xopt (site o) (ofCells g (c.map demote1))) fun v => xb (xcond (site o) (c.any isLin1)) fun t => match t with
                | true => xp (v, { st with h := st.h.set id (.cells (setAt cs off (c.map mark1)) e) })
                | false => xp (v, st)
            | none => xf
        | _ => xf
      | .iptr x off => if off + n ≤ x.cells.length then xb (xlift (ofCells g ((x.cells.drop off).take n))) fun v => xp (v, st) else xf
      | _ => xf
    | _, _ => xf
  | .store t a x => match (if o.dst = none then sizeT C.P t else none) with
    | some n => match st.peek a with
      | .ptr id off => match st.h[id]? with
        | some (.cells cs e) => if okV (st.peek x) ∧ (st.peek x).cells.length = n then xb (xchk (site o) (decide (off + n ≤ cs.length))) fun _ =>
            let st' := st.takeS x
            xp (.undef, { st' with h := st'.h.set id (.cells (setAt cs off (st.peek x).cells) e) })
          else xf
        | _ => xf
      | _ => xf
    | none => xf
  | .binOp op t x y _ => xb (xopt (site o) (vbin C.P op t (st.peek x) (st.peek y))) fun v => xp (v, st)
  | .unOp op _ x => xb (xopt (site o) (vun C.P op (st.peek x))) fun v => xp (v, st)
  | .convert src dst x => xb (xopt (site o) (vconv C.P src dst (st.peek x))) fun v => xp (v, st)
  | .makeSlice t l c => match elemT C.P t with
    | some e => match sizeT C.P e, bytesT C.P e, zeroT C.P e, st.peek l, st.peek c with
      | some sz, some by_, some z, .int _ n, .int _ m =>
        xb (xchk (site o) (decide (0 ≤ n ∧ n ≤ m ∧ m * by_ ≤ 2 ^ 47 ∧ m ≤ 2 ^ 47 ∧ z.cells.length = sz ∧ 0 < sz ∧ okV z = true))) fun _ =>
          if flat2 z ∧ !((C.thaw f).contains (o.dst.getD 0)) then xb (xchk (7000 + site o) (decide (n = m))) fun _ => xp (.imm true sz (List.replicate n.toNat z), st)
          else xp (.own st.h.length 0 n.toNat m.toNat, { st with h := st.h ++ [.cells ((List.replicate m.toNat z.cells).flatten) e] })
      | _, _, _, _, _ => xf
    | none => xf
  | .slice t x lo hi mx => match st.peek x with
    | .own bid off len room => match optInt id (lo.map st.peek), optInt id (hi.map st.peek), optInt id (mx.map st.peek), (elemT C.P t).bind (sizeT C.P) with
      | some l, some h, some m, some sz => if mx.isSome && hi.isNone then xf else xb (xchk (site o) (decide (0 ≤ l.getD 0 ∧ l.getD 0 ≤ h.getD len ∧ h.getD len ≤ m.getD (max len room) ∧ m.getD (max len room) ≤ (max len room : Nat)))) fun _ =>
          xp (.own bid (off + (l.getD 0).toNat * sz) ((h.getD len).toNat - (l.getD 0).toNat) ((m.getD (max len room)).toNat - (l.getD 0).toNat), st)
      | _, _, _, _ => xf
    | _ => match optInt id (lo.map st.peek), optInt id (hi.map st.peek), optInt id (mx.map st.peek) with
    | some l, some h, some m => xb (xlift (vslice C.P t (st.peek x) l h m)) fun q => match m with
        | none => xb (xchk (site o) (decide (0 ≤ q.1 ∧ q.1 ≤ q.2.1 ∧ q.2.1 ≤ q.2.2.1))) fun _ => xp (q.2.2.2, st.useS x)
        | some m => xb (xchk (site o) (decide (0 ≤ q.1 ∧ q.1 ≤ q.2.1 ∧ q.2.1 ≤ q.2.2.1 ∧ m = q.2.1))) fun _ => xp (q.2.2.2, st.useS x)
    | _, _, _ => xf
  | .indexAddr t x i => match st.peek i with
    | .int _ n => match st.peek x with
      | .imm _ m xs => if (elemT C.P t).bind (sizeT C.P) = some m then xb (xopt (site o) (idx xs n)) fun e => xp (.iptr e 0, st) else xf
      | .lin _ _ m xs => if (elemT C.P t).bind (sizeT C.P) = some m then xb (xopt (site o) (idx xs n)) fun e => xp (.iptr e 0, st.useS x) else xf
      | .own id off len _ => match (elemT C.P t).bind (sizeT C.P) with
        | some sz => xb (xchk (site o) (decide (0 ≤ n ∧ n < len))) fun _ => xp (.ptr id (off + n.toNat * sz), st)
        | none => xf
      | _ => xf
    | _ => xf
  | .index t x i => match C.P.underlying t with
    | some .string => match st.peek x, st.peek i with
      | .str s, .int _ n => xb (xopt (site o) ((idx s.data.toList n).map fun b => .int .u8 b.toNat)) fun v => xp (v, st)
      | _, _ => xf
    | _ => xf
  | .call c => match c.callee with
    | .builtin .append => match c.args.toList, c.argTypes.toList with
      | [s, x], [t, tx] => match elemT C.P t, elemT C.P tx with
        | some e, some _ => match st.peek s with
          | .own bid off len room => match sizeT C.P e, st.h[bid]? with
            | some sz, some (.cells cs e') => match ownSrc st.h sz (st.peek x) with
              | some (m, ys) => xb (xchk (6000 + site o) (decide (t = tx ∧ 0 < sz ∧ ys.length = m * sz ∧ len + m ≤ room ∧ off + (len + m) * sz ≤ cs.length) && ys.all fun c => !isLin1 c && okV c)) fun _ =>
                  xp (.own bid off (len + m) room, { st with h := st.h.set bid (.cells (setAt cs (off + len * sz) ys) e') })
              | none => xf
            | _, _ => xf
          | _ => match bytesT C.P e, sizeT C.P e, zeroT C.P e, elems (st.peek x) with
          | some by_, some sz, some z, some (m, ys) => xb (xchk (6000 + site o) (decide (t = tx) && (decide (m = sz) || ys.isEmpty) && decide (0 < sz) && decide (0 < by_) && okV z && decide (z.cells.length = sz))) fun _ =>
            let st1 := st.useS x
            xb (xapp (site o) e sz (st1.peek s) ys) fun q =>
            xb (xchk (site o) (decide (q.1 * by_ ≤ 2 ^ 47))) fun _ => if isLin3 (getS (st1.takeS s).fr (o.dst.getD 0)) then xf else xp (q.2, st1.takeS s)
          | _, _, _, _ => xf
        | _, _ => xf
      | _, _ => xf
    | .builtin .clear => match c.args.toList, c.argTypes.toList with
      | [x], [t] => match elemT C.P t, st.peek x with
        | some e, .own bid off len _ => match sizeT C.P e, zeroT C.P e, st.h[bid]? with
          | some sz, some z, some (.cells cs e') => xb (xchk (site o) (decide (0 < sz ∧ z.cells.length = sz ∧ okV z = true ∧ flat2 z = true ∧ o.dst.isNone = true ∧ off + len * sz ≤ cs.length))) fun _ =>
              xp (.undef, { st with h := st.h.set bid (.cells (setAt cs off (List.replicate len z.cells).flatten) e') })
          | _, _, _ => xf
        | _, _ => xf
      | _, _ => xf
    | .value g => match st.peek g with
      | .fn (.func g) first caps =>
        let args := first ++ (c.args.toList.map st.useV) ++ caps
        let st' := st.useAll c.args.toList
        if args.all flat2 then
          xb (.call (site o) g args .ret) fun v => match o.dst with
              | some d => if (C.thaw f).contains d then match thaw1 st'.h ((elemT C.P o.type).getD 0) v with
                  | some (v, h) => if isLin3 (getS st'.fr d) then xf else xp (v, { st' with h := h })
                  | none => xf
                else xp (v, st')
              | none => xp (.undef, st')
        else xb (.callH (site o) g args st'.h (fun v h => .ret (v, h))) fun q => xp (q.1, { st' with h := q.2 })
      | _ => xf
    | _ => xlift (vop C (fun _ _ _ => none) f o st (fun v s => some (v, s)) (fun _ _ => none))
  | _ => xlift (vop C (fun _ _ _ => none) f o st (fun v s => some (v, s)) (fun _ _ => none))

/-- The operations of a region, in the text's order, with their guards. -/
def xops (C : Cx) (f : FuncId) (all : List Oper) : List Oper → St → T St
  | [], st => xp st
  | o :: r, st =>
    match o.guard with
    | none => xb (xop C f o st) fun q => .open (8000 + site o) (put q.2 o.dst q.1) fun st => xops C f all r st
    | some (j, want) => xb (xlift (wantedV all st.fr j want)) fun b => xb (xcond (1000 + site o) b) fun b => match b with
      | true => xb (xop C f o st) fun q => .open (8000 + site o) (put q.2 o.dst q.1) fun st => xops C f all r st
      | false => .norm (9000 + site o) (put st o.dst (.tup [])) fun st => xops C f all r st

def xkind (C : Cx) (f : FuncId) (o : Oper) (st : St) : T Kd := match o.op with
  | .load t a => if (C.tr f).contains (o.dst.getD 0) then xf else match st.peek a with
    | .ptr id off => match st.h[id]?, sizeT C.P t with
      | some (.cells cs _), some n => xb (xcond (5000 + site o) (((cs.drop off).take n).any isLin1)) fun b => xp (match b with | true => .any | false => .rd id)
      | _, _ => xf
    | .iptr .. => xp .none
    | _ => xf
  | _ => xp (kindV C f o st)

def xdraw (C : Cx) (f : FuncId) (un : List Nat) (h0 : Nat) (ops : List Oper) : List Nat → List (Nat × Kd) → St → T St
  | [], _, st => xp st
  | i :: r, acc, st => match ops[i]? with
    | none => xf
    | some o => if !involved un i || decide (h0 ≤ st.h.length) then
      xb (xlift (guardV ops o st)) fun b => xb (xcond (1000 + site o) b) fun b => match b with
      | true => if involved un i then xb (xkind C f o st) fun kd =>
            if calm un ops i o st && notAny kd && acc.all fun p => !unAt un p.1 i || compatK h0 p.2 kd then
              xb (xop C f o st) fun q => .norm (8000 + site o) (put q.2 o.dst q.1) fun st => xdraw C f un h0 ops r ((i, kd) :: acc) st
            else xf
          else xb (xop C f o st) fun q => .norm (8000 + site o) (put q.2 o.dst q.1) fun st => xdraw C f un h0 ops r acc st
      | false => .norm (9000 + site o) (put st o.dst (.tup [])) fun st => xdraw C f un h0 ops r acc st
      else xf

/-- The code of a function: 'n': nesting. -/
def xexec (C : Cx) (f : FuncId) : Nat → Code → St → T (Ex × St)
  | 0, _, _ => xf
  | n + 1, c, st =>
    match c with
    | .skip | .label _ => xp (.normal, st)
    | .region _ ops false => xb (xops C f ops.toList ops.toList st) fun st => xp (.normal, st)
    | .region id ops true => match C.un f id with
      | some un => xb (xdraw C f un st.h.length ops.toList (List.range ops.size) [] st) fun st => xp (.normal, st)
      | none => xf
    | .seq a b => xb (xexec C f n a st) fun q => match q.1 with
      | .normal => xexec C f n b q.2
      | e => xp (e, q.2)
    | .cond x a b => match st.peek x with
      | .bool t => xb (xcond (2000 + (match x with | .tmp t => t | _ => 0)) t) fun t => match t with
        | true => xexec C f n a st
        | false => xexec C f n b st
      | _ => xf
    | .block id b => xb (xexec C f n b st) fun q => xp (inBlk id q.1, q.2)
    | .loop b => .loop (lkey b) b st (fun e st' => .ret (e, st'))
    | .exit id => xp (.exit id, st)
    | .ret => xp (.ret, st)
    | _ => xf
end Go.Fw
/- What a tree of a code reaches the machine does. -/
namespace Go.Fw
open Go.RowKit

section
variable {C : Cx} {N : Nat} {vb : FuncId → List V → List Blk → Option FOut} {f : FuncId} {o : Oper} {st : St} {α : Type} {k kp : V → St → Option α}

abbrev Nat_ (C : Cx) (vb : FuncId → List V → List Blk → Option FOut) (f : FuncId) (o : Oper) (st : St) : Prop :=
  ∀ (α : Type) (k kp : V → St → Option α), vop C vb f o st k kp = (vop C vb f o st (fun v s => some (v, s)) (fun _ _ => none)).bind fun q => k q.1 q.2

theorem nat_move {x : Operand} (ho : o.op = .move x) : Nat_ C vb f o st := by
  intro α k kp
  unfold vop
  rw [ho]
  dsimp only
  cases o.dst with
  | none => rfl
  | some d =>
    dsimp only
    generalize st.peek x = v
    cases v <;> first | rfl | (dsimp only; split <;> rfl)
theorem nat_assign {x : Operand} (ho : o.op = .assign x) : Nat_ C vb f o st := by
  intro α k kp
  unfold vop
  rw [ho]
  rfl
theorem nat_alloc {t : TypeId} (ho : o.op = .alloc t) : Nat_ C vb f o st := by
  intro α k kp
  unfold vop
  rw [ho]
  dsimp only
  split
  · split <;> rfl
  · rfl
theorem nat_box {t : TypeId} {x : Operand} (ho : o.op = .box t x) : Nat_ C vb f o st := by
  intro α k kp
  unfold vop
  rw [ho]
  dsimp only
  split <;> rfl
theorem nat_build {t : TypeId} {p : Array (Nat × Operand)} (ho : o.op = .build t p) : Nat_ C vb f o st := by
  intro α k kp
  unfold vop
  rw [ho]
  dsimp only
  split
  · split
    · split <;> rfl
    · rfl
  · rfl
theorem nat_buildSlice {t : TypeId} {m : Nat} {p : Array (Nat × Operand)} (ho : o.op = .buildSlice t m p) : Nat_ C vb f o st := by
  intro α k kp
  unfold vop
  rw [ho]
  dsimp only
  split
  · split
    · split
      · split
        · split <;> rfl
        · rfl
      · rfl
    · rfl
  · rfl
theorem nat_nilCheck {x : Operand} (ho : o.op = .nilCheck x) : Nat_ C vb f o st := by
  intro α k kp
  unfold vop
  rw [ho]
  dsimp only
  split <;> rfl
theorem nat_makeFunc {g : Fn} {x y : Array Operand} (ho : o.op = .makeFunc g x y) : Nat_ C vb f o st := by
  intro α k kp
  unfold vop
  rw [ho]
  dsimp only
  split <;> rfl
theorem nat_fieldAddr {s : TypeId} {x : Operand} {j : Nat} (ho : o.op = .fieldAddr s x j) : Nat_ C vb f o st := by
  intro α k kp
  unfold vop
  rw [ho]
  dsimp only
  split
  · split
    · split <;> rfl
    · rfl
  · rfl
theorem nat_field {s : TypeId} {x : Operand} {j : Nat} (ho : o.op = .field s x j) : Nat_ C vb f o st := by
  intro α k kp
  unfold vop
  rw [ho]
  dsimp only
  split
  · split
    · split
      · split
        · split <;> rfl
        · rfl
      · rfl
    · rfl
  · rfl
theorem nat_extract {x : Operand} {i : Nat} (ho : o.op = .extract x i) : Nat_ C vb f o st := by
  intro α k kp
  unfold vop
  rw [ho]
  dsimp only
  split
  · split
    · split <;> rfl
    · rfl
  · rfl
theorem nat_len {c : Call} (ho : o.op = .call c) (hb : c.callee = .builtin .len) : Nat_ C vb f o st := by
  intro α k kp
  unfold vop
  rw [ho]
  dsimp only
  rw [hb]
  dsimp only
  split
  · split
    · rfl
    · rfl
    · split <;> rfl
    · rfl
  · rfl

abbrev Does (C : Cx) (vb : FuncId → List V → List Blk → Option FOut) (f : FuncId) (o : Oper) (st : St) (q : V × St) : Prop := ∀ (α : Type) (k kp : V → St → Option α), vop C vb f o st k kp = k q.1 q.2

theorem snd_nat (h : Nat_ C (fun _ _ _ => none) f o st) : Snd C f N (xlift (vop C (fun _ _ _ => none) f o st (fun v s => some (v, s)) (fun _ _ => none))) (fun q : V × St => ∃ vb, VbSound C vb ∧ Does C vb f o st q) := by
  intro q hq
  have := snd_xlift q hq
  refine ⟨_, vb0_sound, fun α k kp => ?_⟩
  rw [h α k kp, this]
  rfl


theorem snd_xop : Snd C f N (xop C f o st) (fun q => ∃ vb, VbSound C vb ∧ Does C vb f o st q) := by
  cases ho : o.op with
  | move x => unfold xop; rw [ho]; exact snd_nat (nat_move ho)
  | assign x => unfold xop; rw [ho]; exact snd_nat (nat_assign ho)
  | alloc t => unfold xop; rw [ho]; exact snd_nat (nat_alloc ho)
  | box t x => unfold xop; rw [ho]; exact snd_nat (nat_box ho)
  | build t p => unfold xop; rw [ho]; exact snd_nat (nat_build ho)
  | buildSlice t m p => unfold xop; rw [ho]; exact snd_nat (nat_buildSlice ho)
  | nilCheck x => unfold xop; rw [ho]; exact snd_nat (nat_nilCheck ho)
  | makeFunc g x y => unfold xop; rw [ho]; exact snd_nat (nat_makeFunc ho)
  | fieldAddr s x j => unfold xop; rw [ho]; exact snd_nat (nat_fieldAddr ho)
  | field s x j => unfold xop; rw [ho]; exact snd_nat (nat_field ho)
  | extract x i => unfold xop; rw [ho]; exact snd_nat (nat_extract ho)
  | pick c x y =>
    unfold xop
    rw [ho]
    dsimp only
    split
    · rename_i t ht
      refine snd_xb snd_xcond (fun b hb => ?_)
      subst hb
      cases t with
      | true =>
        refine snd_xp ⟨_, vb0_sound, fun α k kp => ?_⟩
        unfold vop
        rw [ho]
        dsimp only
        rw [ht]
        dsimp only
        rw [condB_true]
      | false =>
        refine snd_xp ⟨_, vb0_sound, fun α k kp => ?_⟩
        unfold vop
        rw [ho]
        dsimp only
        rw [ht]
        dsimp only
        rw [condB_false]
    · exact snd_xf
  | binOp op t x y t' =>
    unfold xop
    rw [ho]
    refine snd_xb snd_xopt (fun v hv => snd_xp ⟨_, vb0_sound, fun α k kp => ?_⟩)
    unfold vop
    rw [ho]
    dsimp only
    rw [hv]
  | unOp op t x =>
    unfold xop
    rw [ho]
    refine snd_xb snd_xopt (fun v hv => snd_xp ⟨_, vb0_sound, fun α k kp => ?_⟩)
    unfold vop
    rw [ho]
    dsimp only
    rw [hv]
  | convert s t x =>
    unfold xop
    rw [ho]
    refine snd_xb snd_xopt (fun v hv => snd_xp ⟨_, vb0_sound, fun α k kp => ?_⟩)
    unfold vop
    rw [ho]
    dsimp only
    rw [hv]
  | load t x =>
    unfold xop
    rw [ho]
    dsimp only
    split
    · rename_i g n hg hn
      split
      · rename_i id off hp
        split
        · rename_i cs e hcs
          refine snd_xb snd_xchk (fun _ hle => ?_)
          have hle : off + n ≤ cs.length := by simpa using hle
          split
          · rename_i d hd
            split
            · rename_i htr
              refine snd_xb snd_xlift (fun v hv => snd_xp ⟨_, vb0_sound, fun α k kp => ?_⟩)
              unfold vop
              rw [ho]
              dsimp only
              rw [hg, hn, hp, hd]
              dsimp only
              rw [hcs]
              dsimp only
              rw [if_pos hle, if_pos htr, hv]
            · rename_i htr
              refine snd_xb snd_xopt (fun v hv => snd_xb snd_xcond (fun b hb => ?_))
              subst hb
              cases hl : ((cs.drop off).take n).any isLin1 with
              | true =>
                refine snd_xp ⟨_, vb0_sound, fun α k kp => ?_⟩
                unfold vop
                rw [ho]
                dsimp only
                rw [hg, hn, hp, hd]
                dsimp only
                rw [hcs]
                dsimp only
                rw [if_pos hle, if_neg htr, hv]
                dsimp only
                rw [hl, condB_true]
              | false =>
                refine snd_xp ⟨_, vb0_sound, fun α k kp => ?_⟩
                unfold vop
                rw [ho]
                dsimp only
                rw [hg, hn, hp, hd]
                dsimp only
                rw [hcs]
                dsimp only
                rw [if_pos hle, if_neg htr, hv]
                dsimp only
                rw [hl, condB_false]
          · exact snd_xf
        · exact snd_xf
      · rename_i e off hp
        split
        · rename_i hle
          refine snd_xb snd_xlift (fun v hv => snd_xp ⟨_, vb0_sound, fun α k kp => ?_⟩)
          unfold vop
          rw [ho]
          dsimp only
          rw [hg, hn, hp]
          dsimp only
          rw [if_pos hle, hv]
        · exact snd_xf
      · exact snd_xf
    · exact snd_xf
  | store t p x =>
    unfold xop
    rw [ho]
    dsimp only
    split
    · rename_i n hn
      split
      · rename_i id off hp
        split
        · rename_i cs e hcs
          split
          · rename_i hok
            refine snd_xb snd_xchk (fun _ hle => snd_xp ⟨_, vb0_sound, fun α k kp => ?_⟩)
            have hle : off + n ≤ cs.length := by simpa using hle
            unfold vop
            rw [ho]
            dsimp only
            rw [hn]
            dsimp only
            rw [hp]
            dsimp only
            rw [hcs]
            dsimp only
            rw [if_pos ⟨hok.1, hok.2, hle⟩]
          · exact snd_xf
        · exact snd_xf
      · exact snd_xf
    · exact snd_xf
  | makeSlice t l c =>
    unfold xop
    rw [ho]
    dsimp only
    split
    · rename_i e he
      split
      · rename_i sz by_ z k1 n k2 m hsz hby hz hpl hpc
        refine snd_xb snd_xchk (fun _ hc => ?_)
        split
        · rename_i hfl
          refine snd_xb snd_xchk (fun _ hnm => snd_xp ⟨_, vb0_sound, fun α k kp => ?_⟩)
          unfold vop
          rw [ho]
          dsimp only
          rw [he]
          dsimp only
          rw [hsz, hby, hz, hpl, hpc]
          dsimp only
          rw [hc, condB_true, if_pos hfl, hnm, condB_true]
        · rename_i hfl
          refine snd_xp ⟨_, vb0_sound, fun α k kp => ?_⟩
          unfold vop
          rw [ho]
          dsimp only
          rw [he]
          dsimp only
          rw [hsz, hby, hz, hpl, hpc]
          dsimp only
          rw [hc, condB_true, if_neg hfl]
      · exact snd_xf
    · exact snd_xf
  | slice t x lo hi mx =>
    unfold xop
    rw [ho]
    dsimp only
    split
    · rename_i bid off len room hp
      split
      · rename_i l h m sz hl hh hm hsz
        split
        · exact snd_xf
        · rename_i hmh
          refine snd_xb snd_xchk (fun _ hc => snd_xp ⟨_, vb0_sound, fun α k kp => ?_⟩)
          unfold vop
          rw [ho]
          dsimp only
          rw [hp]
          dsimp only
          rw [hl, hh, hm, hsz]
          dsimp only
          rw [if_neg hmh, hc, condB_true]
      · exact snd_xf
    rename_i hno
    split
    · rename_i l h m hl hh hm
      refine snd_xb snd_xlift (fun q hq => ?_)
      obtain ⟨l', h', n', v⟩ := q
      cases m with
      | none =>
        refine snd_xb snd_xchk (fun _ hc => snd_xp ⟨_, vb0_sound, fun α k kp => ?_⟩)
        unfold vop
        rw [ho]
        dsimp only
        split
        · rename_i hp; exact absurd hp (hno _ _ _ _)
        rw [hl, hh, hm]
        dsimp only
        rw [hq]
        dsimp only
        rw [hc, condB_true]
      | some m =>
        refine snd_xb snd_xchk (fun _ hc => snd_xp ⟨_, vb0_sound, fun α k kp => ?_⟩)
        unfold vop
        rw [ho]
        dsimp only
        split
        · rename_i hp; exact absurd hp (hno _ _ _ _)
        rw [hl, hh, hm]
        dsimp only
        rw [hq]
        dsimp only
        rw [hc, condB_true]
    · exact snd_xf
  | indexAddr t x i =>
    unfold xop
    rw [ho]
    dsimp only
    split
    · rename_i kk n hi
      split
      · rename_i q m xs hx
        split
        · rename_i hm
          refine snd_xb snd_xopt (fun e he => snd_xp ⟨_, vb0_sound, fun α k kp => ?_⟩)
          unfold vop
          rw [ho]
          dsimp only
          rw [hi]
          dsimp only
          rw [hx]
          dsimp only
          rw [if_pos hm, he, bindO_some]
        · exact snd_xf
      · rename_i q q2 m xs hx
        split
        · rename_i hm
          refine snd_xb snd_xopt (fun e he => snd_xp ⟨_, vb0_sound, fun α k kp => ?_⟩)
          unfold vop
          rw [ho]
          dsimp only
          rw [hi]
          dsimp only
          rw [hx]
          dsimp only
          rw [if_pos hm, he, bindO_some]
        · exact snd_xf
      · rename_i id off len hx
        split
        · rename_i sz hsz
          refine snd_xb snd_xchk (fun _ hc => snd_xp ⟨_, vb0_sound, fun α k kp => ?_⟩)
          unfold vop
          rw [ho]
          dsimp only
          rw [hi]
          dsimp only
          rw [hx]
          dsimp only
          rw [hsz]
          dsimp only
          rw [hc, condB_true]
        · exact snd_xf
      · exact snd_xf
    · exact snd_xf
  | index t x i =>
    unfold xop
    rw [ho]
    dsimp only
    split
    · rename_i ht
      split
      · rename_i s kk n hx hi
        refine snd_xb snd_xopt (fun v hv => snd_xp ⟨_, vb0_sound, fun α k kp => ?_⟩)
        obtain ⟨b, hb, rfl⟩ := Option.map_eq_some_iff.1 hv
        unfold vop
        rw [ho]
        dsimp only
        rw [ht]
        dsimp only
        rw [hx, hi]
        dsimp only
        rw [hb, bindO_some]
      · exact snd_xf
    · exact snd_xf
  | call c =>
    cases hb : c.callee with
    | invoke r m =>
      unfold xop; rw [ho]; dsimp only; rw [hb]
      refine snd_nat (fun α k kp => ?_)
      unfold vop; rw [ho]; dsimp only; rw [hb]; rfl
    | value g0 =>
      unfold xop
      rw [ho]
      dsimp only
      rw [hb]
      dsimp only
      split
      · rename_i gf first caps hg
        split
        · rename_i hfl
          refine snd_xb snd_xcall (fun v hr => ?_)
          try dsimp only
          split
          · rename_i d hd
            split
            · rename_i hth
              split
              · rename_i v2 h2 h3
                split
                · exact snd_xf
                · rename_i hfree
                  refine snd_xp ⟨_, vb1_sp hr, fun α k kp => ?_⟩
                  unfold vop
                  rw [ho]
                  dsimp only
                  rw [hb]
                  dsimp only
                  rw [hg]
                  dsimp only
                  rw [if_pos hfl, vb1_self, bindO_some]
                  dsimp only
                  rw [hd]
                  dsimp only
                  rw [if_pos hth, h3]
                  dsimp only
                  rw [Bool.eq_false_iff.2 hfree, condB_false]
              · exact snd_xf
            · rename_i hth
              refine snd_xp ⟨_, vb1_sp hr, fun α k kp => ?_⟩
              unfold vop
              rw [ho]
              dsimp only
              rw [hb]
              dsimp only
              rw [hg]
              dsimp only
              rw [if_pos hfl, vb1_self, bindO_some]
              dsimp only
              rw [hd]
              dsimp only
              rw [if_neg hth]
          · rename_i hd
            refine snd_xp ⟨_, vb1_sp hr, fun α k kp => ?_⟩
            unfold vop
            rw [ho]
            dsimp only
            rw [hb]
            dsimp only
            rw [hg]
            dsimp only
            rw [if_pos hfl, vb1_self, bindO_some]
            dsimp only
            rw [hd]
        · rename_i hfl
          refine snd_xb snd_xcallH (fun q hr => snd_xp ⟨_, vb1_spH hr, fun α k kp => ?_⟩)
          unfold vop
          rw [ho]
          dsimp only
          rw [hb]
          dsimp only
          rw [hg]
          dsimp only
          rw [if_neg hfl, vb1_self, bindO_some]
      · exact snd_xf
    | builtin b =>
      cases b
      case len => unfold xop; rw [ho]; dsimp only; rw [hb]; exact snd_nat (nat_len ho hb)
      case append =>
        unfold xop
        rw [ho]
        dsimp only
        rw [hb]
        dsimp only
        split
        · rename_i s x t tx hsx htt
          split
          · rename_i e e2 he he2
            split
            · rename_i bid off len room hp
              split
              · rename_i sz cs e' hsz hcs
                split
                · rename_i m ys hsrc
                  refine snd_xb snd_xchk (fun _ hc => snd_xp ⟨_, vb0_sound, fun α k kp => ?_⟩)
                  unfold vop
                  rw [ho]
                  dsimp only
                  rw [hb]
                  dsimp only
                  rw [hsx, htt]
                  dsimp only
                  rw [he, he2]
                  dsimp only
                  rw [hp]
                  dsimp only
                  rw [hsz, hcs]
                  dsimp only
                  rw [hsrc]
                  dsimp only
                  rw [hc, condB_true]
                · exact snd_xf
              · exact snd_xf
            rename_i hno
            split
            · rename_i by_ sz z m ys hby hsz hz hel
              refine snd_xb snd_xchk (fun _ hc => snd_xb snd_xapp (fun q hq => snd_xb snd_xchk (fun _ hle => ?_)))
              split
              · exact snd_xf
              · rename_i hfree
                refine snd_xp ⟨_, vb0_sound, fun α k kp => ?_⟩
                simp only [Bool.and_eq_true, decide_eq_true_eq, Bool.or_eq_true] at hc
                obtain ⟨⟨⟨⟨⟨c1, c2⟩, c3⟩, c4⟩, c5⟩, c6⟩ := hc
                unfold vop
                rw [ho]
                dsimp only
                rw [hb]
                dsimp only
                rw [hsx, htt]
                dsimp only
                rw [he, he2]
                dsimp only
                split
                · rename_i hp; exact absurd hp (hno _ _ _ _)
                rw [hby, hsz, hz, hel]
                dsimp only
                rw [if_pos ⟨c1, c2.symm, c3, c4, c5, c6⟩, hq]
                dsimp only
                rw [hle, Bool.eq_false_iff.2 hfree]
                exact condB_true _ _
            · exact snd_xf
          · exact snd_xf
        · exact snd_xf
      case clear =>
        unfold xop
        rw [ho]
        dsimp only
        rw [hb]
        dsimp only
        split
        · rename_i x t hsx htt
          split
          · rename_i e bid off len room he hp
            split
            · rename_i sz z cs e' hsz hz hcs
              refine snd_xb snd_xchk (fun _ hc => snd_xp ⟨_, vb0_sound, fun α k kp => ?_⟩)
              unfold vop
              rw [ho]
              dsimp only
              rw [hb]
              dsimp only
              rw [hsx, htt]
              dsimp only
              rw [he, hp]
              dsimp only
              rw [hsz, hz, hcs]
              dsimp only
              rw [hc, condB_true]
            · exact snd_xf
          · exact snd_xf
        · exact snd_xf
      all_goals
        unfold xop; rw [ho]; dsimp only; rw [hb]
        refine snd_nat (fun α k kp => ?_)
        unfold vop; rw [ho]; dsimp only; rw [hb]; rfl
  | _ =>
    unfold xop; rw [ho]
    refine snd_nat (fun α k kp => ?_)
    unfold vop; rw [ho]; rfl

theorem snd_xkind : Snd C f N (xkind C f o st) (fun kd => kindV C f o st = kd) := by
  unfold xkind
  split
  · rename_i t a ho
    have hk : kindV C f o st = if (C.tr f).contains (o.dst.getD 0) then .any else match st.peek a with
      | .ptr id off => (match st.h[id]?, sizeT C.P t with
        | some (.cells cs _), some n => condB (((cs.drop off).take n).any isLin1) .any (.rd id)
        | _, _ => .any)
      | .iptr .. => .none
      | _ => .any := by unfold kindV; rw [ho]; rfl
    split
    · exact snd_xf
    · rename_i htr
      rw [if_neg htr] at hk
      split
      · rename_i id off hp
        rw [hp] at hk
        dsimp only at hk
        split
        · rename_i cs e n hcs hn
          rw [hcs, hn] at hk
          dsimp only at hk
          refine snd_xb snd_xcond (fun b hb => snd_xp ?_)
          rw [hb] at hk
          rw [hk]
          cases b
          · rw [condB_false]
          · rw [condB_true]
        · exact snd_xf
      · rename_i e off hp
        rw [hp] at hk
        exact snd_xp hk
      · exact snd_xf
  · exact snd_xp rfl


theorem xops_sound {ρ : Option Nat} {n B τ : Nat} {g : Gh} {w : World} {Q : Exit → Act → World → Prop} {ops : Array Oper} {st1 : St} (hn : ∀ g' a' w', LaterN N B τ g g' w w' → R B τ g' st1 a' w' → Q .normal a' w') :
    ∀ (l : List Nat) (st : St) (g1 : Gh) (a1 : Act) (w1 : World), Hits C f N (xops C f ops.toList (l.filterMap (ops[·]?)) st) st1 → LaterN N B τ g g1 w w1 → R B τ g1 st a1 w1 → wpOpsIn (FW ρ) n C.P ops Q l a1 w1
  | [], st, g1, a1, w1, h, hl, hR => by
    have h : st1 = st := h
    subst h
    exact hn g1 a1 w1 hl hR
  | i :: l, st, g1, a1, w1, h, hl, hR => by
    unfold wpOpsIn
    cases ho : ops[i]? with
    | none =>
      rw [List.filterMap_cons, ho] at h
      exact xops_sound hn l st g1 a1 w1 h hl hR
    | some o =>
      rw [List.filterMap_cons, ho] at h
      dsimp only at h ⊢
      unfold xops at h
      have run : ∀ st, Hits C f N (xb (xop C f o st) fun q => .open (8000 + site o) (put q.2 o.dst q.1) fun st => xops C f ops.toList (l.filterMap (ops[·]?)) st) st1 → R B τ g1 st a1 w1 → o.wpIn (FW ρ) n C.P a1 w1 (wpOpsIn (FW ρ) n C.P ops Q l) Q := by
        intro st h hR
        obtain ⟨q, h1, h2⟩ := reach_xb h
        obtain ⟨st2, hto, h2⟩ := h2
        obtain ⟨vb, hvb, hdo⟩ := snd_xop q h1
        classical
        have hv := hdo Unit (fun v s => if v = q.1 ∧ s = q.2 then some () else none) (fun _ _ => none)
        rw [if_pos ⟨rfl, rfl⟩] at hv
        refine vop_sound hvb hv hR (fun v st' g' u w' hl' hR' hv hkk => ?_) (fun v st' g' u w' d hl' hR' hnl hv hkk => by cases hkk)
        try dsimp only at hkk
        split at hkk
        · rename_i hq
          obtain ⟨rfl, rfl⟩ := hq
          obtain ⟨g2, l2, R2⟩ := hto B τ g' _ w' (put_sound hR' hv)
          exact xops_sound hn l _ g2 _ w' h2 ((hl.trans (.of hl')).trans l2) R2
        · cases hkk
      split at h
      · rename_i hg
        rw [if_pos (wanted_none hg)]
        exact run st h hR
      · rename_i j want hg
        obtain ⟨b, hb, h⟩ := reach_xb h
        have hb := snd_xlift b hb
        obtain ⟨b', hb', h⟩ := reach_xb h
        have hb' := snd_xcond b' hb'
        subst hb'
        have hws := wanted_sound hR hg hb
        cases b with
        | true => rw [if_pos hws]; exact run st h hR
        | false =>
          rw [if_neg (by rw [hws]; simp)]
          exact ⟨fun _ _ => trivial, xops_sound hn l _ g1 _ w1 h hl (skip_sound hR _)⟩

theorem vdraw_congr {vb vb' : Nat → FuncId → List V → List Blk → Option FOut} {un : List Nat} {h0 : Nat} {ops : List Oper} {ks : St → Option FOut} : ∀ {l : List Nat} {acc : List (Nat × Kd)} {st : St}, (∀ j ∈ l, vb j = vb' j) → vdraw C vb f un h0 ops l acc st ks = vdraw C vb' f un h0 ops l acc st ks
  | [], acc, st, _ => rfl
  | i :: r, acc, st, h => by
    have e := h i (by simp)
    have ih : ∀ acc st, vdraw C vb f un h0 ops r acc st ks = vdraw C vb' f un h0 ops r acc st ks := fun acc st => vdraw_congr (fun j hj => h j (by simp [hj]))
    unfold vdraw
    simp only [e, ih]

theorem xdraw_reach {un : List Nat} {h0 : Nat} {ops : List Oper} {st1 : St} : ∀ {l : List Nat} {acc : List (Nat × Kd)} {st : St}, l.Nodup → Hits C f N (xdraw C f un h0 ops l acc st) st1 → ∃ vb : Nat → FuncId → List V → List Blk → Option FOut, (∀ i, VbSound C (vb i)) ∧ ∀ ks : St → Option FOut, vdraw C vb f un h0 ops l acc st ks = ks st1
  | [], acc, st, _, h => by
    have h : st1 = st := h
    subst h
    exact ⟨fun _ _ _ _ => none, fun _ => vb0_sound, fun ks => rfl⟩
  | i :: r, acc, st, hnd, h => by
    unfold xdraw at h
    obtain ⟨hir, hndr⟩ := List.nodup_cons.1 hnd
    split at h
    · exact h.elim
    · rename_i o ho
      split at h
      · rename_i hlen
        obtain ⟨b, hb, h⟩ := reach_xb h
        have hb := snd_xlift b hb
        obtain ⟨b', hb', h⟩ := reach_xb h
        have hb' := snd_xcond b' hb'
        subst hb'
        have mix : ∀ {vbi : FuncId → List V → List Blk → Option FOut} {vbr : Nat → FuncId → List V → List Blk → Option FOut} {acc : List (Nat × Kd)} {st : St} {ks : St → Option FOut}, vdraw C (fun j => if j = i then vbi else vbr j) f un h0 ops r acc st ks = vdraw C vbr f un h0 ops r acc st ks :=
          fun {vbi vbr acc st ks} => vdraw_congr (fun j hj => if_neg (by rintro rfl; exact hir hj))
        have sound : ∀ {vbi : FuncId → List V → List Blk → Option FOut} {vbr : Nat → FuncId → List V → List Blk → Option FOut}, VbSound C vbi → (∀ i, VbSound C (vbr i)) → ∀ j, VbSound C (if j = i then vbi else vbr j) := by
          intro vbi vbr h1 h2 j
          split
          · exact h1
          · exact h2 j
        cases b with
        | true =>
          dsimp only at h
          split at h
          · rename_i hi
            obtain ⟨kd, hkd, h⟩ := reach_xb h
            have hkd := snd_xkind kd hkd
            split at h
            · rename_i hc
              obtain ⟨q, hq, h⟩ := reach_xb h
              obtain ⟨vbi, hvbi, hdo⟩ := snd_xop q hq
              obtain ⟨vbr, hvbr, hks⟩ := xdraw_reach hndr h
              refine ⟨fun j => if j = i then vbi else vbr j, sound hvbi hvbr, fun ks => ?_⟩
              unfold vdraw
              rw [ho]
              dsimp only
              rw [if_pos rfl, hlen, condB_true, hb, bindO_some, condB_true, hi, condB_true, hkd, hc, condB_true, hdo, bindO_some, mix]
              exact hks ks
            · exact h.elim
          · rename_i hi
            obtain ⟨q, hq, h⟩ := reach_xb h
            obtain ⟨vbi, hvbi, hdo⟩ := snd_xop q hq
            obtain ⟨vbr, hvbr, hks⟩ := xdraw_reach hndr h
            refine ⟨fun j => if j = i then vbi else vbr j, sound hvbi hvbr, fun ks => ?_⟩
            unfold vdraw
            rw [ho]
            dsimp only
            rw [if_pos rfl, hlen, condB_true, hb, bindO_some, condB_true, Bool.eq_false_iff.2 hi, condB_false, hdo, bindO_some, mix]
            exact hks ks
        | false =>
          obtain ⟨vbr, hvbr, hks⟩ := xdraw_reach hndr h
          refine ⟨vbr, hvbr, fun ks => ?_⟩
          unfold vdraw
          rw [ho]
          dsimp only
          rw [hlen, condB_true, hb, bindO_some, condB_false]
          exact hks ks
      · exact h.elim

theorem xexec_reach : ∀ {n : Nat} {c : Code} {st : St} {q : Ex × St}, (∀ p ∈ drawRegs c, DrawSound C f p.1 p.2) → (∀ b ∈ subloops c, loopAt C f (lkey b) = some b) → Hits C f N (xexec C f n c st) q → Runs C N c st q.1 q.2
  | 0, c, st, q, _, _, h => h.elim
  | n + 1, c, st, q, hd, hlp, h => by
    cases c with
    | skip => have h : q = (.normal, st) := h; subst h; exact Runs.skip
    | label l => have h : q = (.normal, st) := h; subst h; exact Runs.label
    | exit i => have h : q = (.exit i, st) := h; subst h; exact Runs.exit
    | ret => have h : q = (.ret, st) := h; subst h; exact Runs.ret
    | region id ops draw =>
      cases draw with
      | false =>
        unfold xexec at h
        obtain ⟨s, h1, h⟩ := reach_xb h
        have h : q = (.normal, s) := h
        subst h
        refine Runs.region (f := f) (fun ρ n B τ g a w Q hR hQ => ?_)
        refine xops_sound (f := f) (g := g) (w := w) hQ (List.range ops.size) st g a w ?_ (LaterN.refl ..) hR
        rw [filterMap_range]
        exact h1
      | true =>
        unfold xexec at h
        dsimp only at h
        split at h
        · rename_i un hun
          obtain ⟨s, h1, h⟩ := reach_xb h
          have h : q = (.normal, s) := h
          subst h
          obtain ⟨vb, hvb, hks⟩ := xdraw_reach List.nodup_range h1
          intro ρ k B τ g a w Q hR hQ
          classical
          refine hd (id, ops) (by simp [drawRegs]) un hun vb st st hvb (fun st' => if st' = s then some (.ret .undef []) else none) (.ret .undef []) (by rw [hks]; exact if_pos rfl) ρ k B τ g a w Q hR (fun st' g' a' w' hl hR' hk => ?_)
          try dsimp only at hk
          split at hk
          · rename_i e
            subst e
            exact hQ g' .normal a' w' (.of hl) hR' trivial
          · cases hk
        · exact h.elim
    | seq x y =>
      unfold xexec at h
      obtain ⟨⟨e, s⟩, h1, h⟩ := reach_xb h
      have r1 := xexec_reach (fun p hp => hd p (by simp [drawRegs, hp])) (fun b hb => hlp b (by simp [subloops, hb])) h1
      cases e with
      | normal => exact Runs.seq r1 (xexec_reach (fun p hp => hd p (by simp [drawRegs, hp])) (fun b hb => hlp b (by simp [subloops, hb])) h)
      | exit i => have h : q = (.exit i, s) := h; subst h; exact Runs.seq_left r1 (fun e => by cases e)
      | ret => have h : q = (.ret, s) := h; subst h; exact Runs.seq_left r1 (fun e => by cases e)
      | pan v => have h : q = (.pan v, s) := h; subst h; exact Runs.seq_left r1 (fun e => by cases e)
    | cond x y z =>
      unfold xexec at h
      dsimp only at h
      split at h
      · rename_i t ht
        obtain ⟨b, hb, h⟩ := reach_xb h
        have hb := snd_xcond b hb
        subst hb
        refine Runs.cond ht ?_
        cases t with
        | true => exact xexec_reach (fun p hp => hd p (by simp [drawRegs, hp])) (fun b hb => hlp b (by simp [subloops, hb])) h
        | false => exact xexec_reach (fun p hp => hd p (by simp [drawRegs, hp])) (fun b hb => hlp b (by simp [subloops, hb])) h
      · exact h.elim
    | block id b =>
      unfold xexec at h
      obtain ⟨⟨e, s⟩, h1, h⟩ := reach_xb h
      have h : q = (inBlk id e, s) := h
      subst h
      exact Runs.block (xexec_reach (fun p hp => hd p (by simp [drawRegs, hp])) (fun b hb => hlp b (by simp [subloops, hb])) h1)
    | loop b =>
      obtain ⟨e, s, h1, h⟩ := h
      have h : q = (e, s) := h
      subst h
      exact h1 (hlp b (by simp [subloops]))
    | _ => exact h.elim
end
end Go.Fw
/- An array of the evaluator's heap becomes a value that nobody changes any more. -/
namespace Go.Fw
open Go.RowKit

def frzXs (a : Bool) (sz off len : Nat) (cs : List V) : List V := match a with | true => chunk sz len (cs.drop off) | false => (cs.drop off).take len
def frz0 (id : Nat) : V → Bool
  | .ptr i _ => !(i == id)
  | _ => true
def frz1 (id sz : Nat) (a : Bool) (cs : List V) : V → Option (Bool × V)
  | .own i off len room => match i == id with
    | true => some (decide (off + len * sz ≤ cs.length), .imm false sz (frzXs a sz off len cs))
    | false => some (true, .own i off len room)
  | .ptr i off => match i == id with
    | true => none
    | false => some (true, .ptr i off)
  | .fn f first caps => match first.all (frz0 id) && caps.all (frz0 id) with
    | true => some (true, .fn f first caps)
    | false => none
  | v => some (true, v)
def frzL (f : V → Option (Bool × V)) : List V → Option (Bool × List V)
  | [] => some (true, [])
  | v :: vs => match f v with
    | some (b, v') => match frzL f vs with
      | some (b2, vs') => some (b && b2, v' :: vs')
      | none => none
    | none => none
def frz2 (id sz : Nat) (a : Bool) (cs : List V) : V → Option (Bool × V)
  | .agg vs => match frzL (frz1 id sz a cs) vs with
    | some (b, vs') => some (b, .agg vs')
    | none => none
  | v => frz1 id sz a cs v
def frz3 (id sz : Nat) (a : Bool) (cs : List V) : V → Option (Bool × V)
  | .tup vs => match frzL (frz2 id sz a cs) vs with
    | some (b, vs') => some (b, .tup vs')
    | none => none
  | v => frz2 id sz a cs v
def frzS (id sz : Nat) (a : Bool) (cs : List V) : List V → Bool × List V
  | [] => (true, [])
  | v :: vs => match frz3 id sz a cs v with
    | some (b, v') => (b && (frzS id sz a cs vs).1, v' :: (frzS id sz a cs vs).2)
    | none => ((frzS id sz a cs vs).1, .undef :: (frzS id sz a cs vs).2)
/-- Cells that do not speak of the array. -/
def noRef (id : Nat) : V → Bool
  | .own i _ _ _ => !(i == id)
  | .ptr i _ => !(i == id)
  | .fn _ first caps => first.all (frz0 id) && caps.all (frz0 id)
  | _ => true
def frzH (id sz : Nat) (a : Bool) (cs : List V) (cl : List Nat) : Nat → List Blk → Option (Bool × List Blk)
  | _, [] => some (true, [])
  | k, b :: r => match frzH id sz a cs cl (k + 1) r with
    | none => none
    | some (q, r') => match k == id with
      | true => some (q, .dead :: r')
      | false => match b with
        | .dead => some (q, .dead :: r')
        | .cells c e => match cl.contains k with
          | true => some (c.all (noRef id) && q, .cells c e :: r')
          | false => match frzL (frz1 id sz a cs) c with
            | some (p, c') => some (p && q, .cells c' e :: r')
            | none => none

def Gh.frz (g : Gh) (w : World) (id : Nat) : Gh where
  mem := fun x => if g.loc id = some x then (match w.heap[x]? with | some (.cells cur _ _) => some cur.toList | _ => g.mem x) else g.mem x
  loc := fun i => if i = id then none else g.loc i
  lin := g.lin

section
variable {B τ : Nat} {g : Gh} {st : St} {a : Act} {w : World} {id : Nat}
theorem frz_mem (hR : R B τ g st a w) : MemLe g.mem (g.frz w id).mem := by
  intro x cs h
  show ∃ cs', (if g.loc id = some x then _ else g.mem x) = some cs' ∧ cs <+: cs'
  split
  · rename_i hl
    have := (hR.heap.fresh id x hl).2.2.1
    rw [h] at this; cases this
  · exact ⟨cs, h, List.prefix_refl _⟩
theorem frz_loc {i b : Nat} (hi : i ≠ id) (h : g.loc i = some b) : (g.frz w id).loc i = some b := by
  show (if i = id then none else g.loc i) = some b
  rw [if_neg hi]; exact h
theorem frz_ref0 (hR : R B τ g st a w) {v : V} {u : Value} (hv : frz0 id v = true) (h : RepP g v u) : RepP (g.frz w id) v u := by
  unfold RepP at *
  split at h
  · obtain ⟨b, h1, h2⟩ := h
    simp only [frz0, Bool.not_eq_true', beq_eq_false_iff_ne, ne_eq] at hv
    exact ⟨b, frz_loc hv h1, h2⟩
  · exact h.mono (frz_mem hR)
theorem frz_noRef (hR : R B τ g st a w) {p : Place} {v : V} {u : Value} (hv : noRef id v = true) (h : RepC g p v u) : RepC (g.frz w id) p v u := by
  cases v with
  | ptr i off =>
    obtain ⟨b, h1, h2⟩ := h
    simp only [noRef, Bool.not_eq_true', beq_eq_false_iff_ne, ne_eq] at hv
    exact ⟨b, frz_loc hv h1, h2⟩
  | own i off len room =>
    simp only [noRef, Bool.not_eq_true', beq_eq_false_iff_ne, ne_eq] at hv
    rcases h with ⟨b, cap, h1, h2⟩ | h
    · exact .inl ⟨b, cap, frz_loc hv h1, h2⟩
    · exact .inr h
  | fn f first caps =>
    simp only [noRef, Bool.and_eq_true, List.all_eq_true] at hv
    obtain ⟨x, c, h1, h2, h3, h4, h5⟩ := h
    exact ⟨x, c, h1, h2, h3, fun j y hj hx => frz_ref0 hR (hv.1 _ (List.mem_of_getElem? hx)) (h4 j y hj hx), fun j y hj hx => frz_ref0 hR (hv.2 _ (List.mem_of_getElem? hx)) (h5 j y hj hx)⟩
  | agg => exact h.elim
  | tup => exact h.elim
  | undef => exact h
  | lin priv e n xs =>
    rcases h with ⟨b, i, h1, h2, h3, h0, h4, h5⟩ | h
    · exact .inl ⟨b, i, h1, h2, h3, h0, h4, h5.mono (frz_mem hR)⟩
    · exact .inr h
  | _ => exact RepI.mono (frz_mem hR) h

theorem frz_own (hR : R B τ g st a w) {cs : List V} {e : TypeId} {sz : Nat} {ag : Bool} (hcs : st.h[id]? = some (.cells cs e)) (hsz : 0 < sz) (hag : ag = false → sz = 1) (hall : cs.all flat1 = true) {p : Place} {off len room : Nat} {u : Value} (hle : off + len * sz ≤ cs.length) (hr : RepC g p (.own id off len room) u) : RepI (g.frz w id).mem (.imm false sz (frzXs ag sz off len cs)) u := by
  simp only [RepC] at hr
  rcases hr with ⟨b, cap, hb, rfl, hcap, hmx, _⟩ | ⟨rfl, _, ad, rfl⟩
  rotate_left
  · have : frzXs ag sz off 0 cs = [] := by unfold frzXs; cases ag <;> simp [chunk]
    rw [this]; exact repI_empty hsz ad
  obtain ⟨cur, hcur, hlc, hrep⟩ := hR.heap.blk id b cs e hb hcs
  rw [List.all_eq_true] at hall
  have hmem : ∀ j, stAt (g.frz w id).mem b j = cur[j]? := by
    intro j
    unfold stAt Gh.frz
    dsimp only
    rw [if_pos hb, hcur]
    simp
  have hcell : ∀ (j : Nat) (c : V), cs[j]? = some c → isCell c = true ∧ ∃ u, cur[j]? = some u ∧ RepI (g.frz w id).mem c u := by
    intro j c hc
    have hf := hall c (List.mem_of_getElem? hc)
    have hj : j < cur.size := by have := (List.getElem?_eq_some_iff.1 hc).1; omega
    exact ⟨(flat1_cell hf).1, cur[j], Array.getElem?_eq_getElem hj, (repC_flat1 hf (hrep j c hj hc)).mono (frz_mem hR)⟩
  cases ag with
  | false =>
    obtain rfl := hag rfl
    show RepI _ (.imm false 1 ((cs.drop off).take len)) _
    have hlen : ((cs.drop off).take len).length = len := by simp; omega
    have key : ∀ (i : Nat) (x : V), ((cs.drop off).take len)[i]? = some x → isCell x = true ∧ x.cells = [x] ∧ ∃ u, cur[off + i]? = some u ∧ RepI (g.frz w id).mem x u := by
      intro i x hx
      rw [takeDrop_get] at hx
      split at hx
      · obtain ⟨q1, q2⟩ := hcell _ x hx
        exact ⟨q1, (by cases x <;> first | rfl | cases q1), q2⟩
      · cases hx
    have := RepI.imm (m := (g.frz w id).mem) false ((cs.drop off).take len) b off cap 1 (fun i j => (cur[off + i * 1 + j]?).getD default) (by rw [hlen]; exact hcap) (fun h => by cases h) hmx (by omega)
      (fun i x hx => by rw [(key i x hx).2.1]; rfl)
      (fun i x j c hx hc => by
        obtain ⟨q1, q2, u, q3, q4⟩ := key i x hx
        rw [q2] at hc
        cases j with
        | zero => cases hc; exact ⟨q1, by rw [hmem]; simp [q3]⟩
        | succ j => simp at hc)
      (fun i x j c hx hc => by
        obtain ⟨q1, q2, u, q3, q4⟩ := key i x hx
        rw [q2] at hc
        cases j with
        | zero => cases hc; simpa [q3] using q4
        | succ j => simp at hc)
    rw [hlen] at this
    exact this
  | true =>
    show RepI _ (.imm false sz (chunk sz len (cs.drop off))) _
    have key : ∀ (i : Nat) (x : V) (j : Nat) (c : V), (chunk sz len (cs.drop off))[i]? = some x → x.cells[j]? = some c → isCell c = true ∧ ∃ u, cur[off + i * sz + j]? = some u ∧ RepI (g.frz w id).mem c u := by
      intro i x j c hx hc
      obtain ⟨hi, rfl⟩ := chunk_get hx
      simp only [V.cells] at hc
      rw [takeDrop_get] at hc
      split at hc
      · rw [List.getElem?_drop, ← Nat.add_assoc] at hc
        exact hcell _ c hc
      · cases hc
    have hcl : (chunk sz len (cs.drop off)).length = len := chunk_len
    have := RepI.imm (m := (g.frz w id).mem) false (chunk sz len (cs.drop off)) b off cap sz (fun i j => (cur[off + i * sz + j]?).getD default) (by rw [hcl]; exact hcap) (fun h => by cases h) hmx hsz
      (fun i x hx => by
        obtain ⟨hi, rfl⟩ := chunk_get hx
        simp only [V.cells, List.length_take, List.length_drop]
        have : (i + 1) * sz ≤ len * sz := Nat.mul_le_mul_right _ hi
        rw [Nat.add_mul, Nat.one_mul] at this
        omega)
      (fun i x j c hx hc => by
        obtain ⟨q1, u, q3, q4⟩ := key i x j c hx hc
        exact ⟨q1, by rw [hmem]; simp [q3]⟩)
      (fun i x j c hx hc => by
        obtain ⟨q1, u, q3, q4⟩ := key i x j c hx hc
        simpa [q3] using q4)
    rw [hcl] at this
    exact this

theorem frz1_ok (hR : R B τ g st a w) {cs : List V} {e : TypeId} {sz : Nat} {ag : Bool} (hcs : st.h[id]? = some (.cells cs e)) (hsz : 0 < sz) (hag : ag = false → sz = 1) (hall : cs.all flat1 = true) {p : Place} {v v' : V} {u : Value} (hv : frz1 id sz ag cs v = some (true, v')) (h : RepC g p v u) : RepC (g.frz w id) p v' u := by
  cases v with
  | own i off len room =>
    unfold frz1 at hv
    dsimp only at hv
    split at hv
    · rename_i hi
      simp only [beq_iff_eq] at hi
      subst hi
      simp only [Option.some.injEq, Prod.mk.injEq, decide_eq_true_eq] at hv
      obtain ⟨h1, rfl⟩ := hv
      exact frz_own hR hcs hsz hag hall h1 h
    · rename_i hi
      cases hv
      exact frz_noRef hR (by simp only [noRef]; rw [hi]; rfl) h
  | ptr i off =>
    unfold frz1 at hv
    dsimp only at hv
    split at hv
    · cases hv
    · rename_i hi
      cases hv
      exact frz_noRef hR (by simp only [noRef]; rw [hi]; rfl) h
  | fn f x y =>
    unfold frz1 at hv
    dsimp only at hv
    split at hv
    · rename_i hi
      cases hv
      exact frz_noRef hR (by unfold noRef; exact hi) h
    · cases hv
  | agg => exact h.elim
  | tup => exact h.elim
  | _ => cases hv; exact frz_noRef hR rfl h
theorem frzL_ok {f : V → Option (Bool × V)} : ∀ {vs vs' : List V}, frzL f vs = some (true, vs') → vs'.length = vs.length ∧ ∀ (j : Nat) (v' : V), vs'[j]? = some v' → ∃ v, vs[j]? = some v ∧ f v = some (true, v')
  | [], vs', h => by cases h; exact ⟨rfl, fun j v' h => by simp at h⟩
  | v :: vs, vs', h => by
    unfold frzL at h
    split at h
    · rename_i b v1 h1
      split at h
      · rename_i b2 vs1 h2
        simp only [Option.some.injEq, Prod.mk.injEq, Bool.and_eq_true] at h
        obtain ⟨⟨rfl, rfl⟩, rfl⟩ := h
        obtain ⟨e1, e2⟩ := frzL_ok h2
        refine ⟨by simp [e1], fun j x hx => ?_⟩
        cases j with
        | zero => simp at hx; subst hx; exact ⟨v, rfl, h1⟩
        | succ j => exact e2 j x (by simpa using hx)
      · cases h
    · cases h
theorem frz1_cell {cs : List V} {sz : Nat} {ag : Bool} {v v' : V} {q : Bool} (hv : frz1 id sz ag cs v = some (q, v')) : (v = .undef → v' = .undef) ∧ ((∀ vs, v ≠ .agg vs) → ∀ vs, v' ≠ .agg vs) ∧ ((∀ vs, v ≠ .tup vs) → ∀ vs, v' ≠ .tup vs) := by
  cases v <;> unfold frz1 at hv <;> dsimp only at hv <;> (try split at hv) <;> first | (cases hv; simp; done) | cases hv
theorem frz2_ok (hR : R B τ g st a w) {cs : List V} {e : TypeId} {sz : Nat} {ag : Bool} (hcs : st.h[id]? = some (.cells cs e)) (hsz : 0 < sz) (hag : ag = false → sz = 1) (hall : cs.all flat1 = true) {pl : Nat → Place} {v v' : V} {u : Value} (hv : frz2 id sz ag cs v = some (true, v')) (h : RepA g pl v u) : RepA (g.frz w id) pl v' u ∧ ((∀ vs, v ≠ .tup vs) → ∀ vs, v' ≠ .tup vs) := by
  by_cases ha : ∃ vs, v = .agg vs
  · obtain ⟨vs, rfl⟩ := ha
    unfold frz2 at hv
    dsimp only at hv
    split at hv
    · rename_i b vs' hvs
      simp only [Option.some.injEq, Prod.mk.injEq] at hv
      obtain ⟨rfl, rfl⟩ := hv
      obtain ⟨e1, e2⟩ := frzL_ok hvs
      obtain ⟨us, rfl, h1, h2⟩ := h
      refine ⟨⟨us, rfl, by rw [e1]; exact h1, fun j c hj hc => ?_⟩, fun _ _ => by simp⟩
      obtain ⟨x, hx, hfx⟩ := e2 j c hc
      exact frz1_ok hR hcs hsz hag hall hfx (h2 j x hj hx)
    · cases hv
  · have hv' : frz1 id sz ag cs v = some (true, v') := by cases v <;> first | exact hv | exact absurd ⟨_, rfl⟩ ha
    obtain ⟨c1, c2, c3⟩ := frz1_cell hv'
    refine ⟨?_, c3⟩
    rcases repA_inv h with e' | h | h
    · rw [c1 e']; trivial
    · exact repA_cell (frz1_ok hR hcs hsz hag hall hv' h)
    · exact absurd h ha
theorem frz3_ok (hR : R B τ g st a w) {cs : List V} {e : TypeId} {sz : Nat} {ag : Bool} (hcs : st.h[id]? = some (.cells cs e)) (hsz : 0 < sz) (hag : ag = false → sz = 1) (hall : cs.all flat1 = true) {σ i : Nat} {v v' : V} {u : Value} (hv : frz3 id sz ag cs v = some (true, v')) (h : RepS g σ i v u) : RepS (g.frz w id) σ i v' u := by
  by_cases ha : ∃ vs, v = .tup vs
  · obtain ⟨vs, rfl⟩ := ha
    unfold frz3 at hv
    dsimp only at hv
    split at hv
    · rename_i b vs' hvs
      simp only [Option.some.injEq, Prod.mk.injEq] at hv
      obtain ⟨rfl, rfl⟩ := hv
      obtain ⟨e1, e2⟩ := frzL_ok hvs
      obtain ⟨us, rfl, h1, h2⟩ := h
      refine ⟨us, rfl, by rw [e1]; exact h1, fun j c hj hc => ?_⟩
      obtain ⟨x, hx, hfx⟩ := e2 j c hc
      exact (frz2_ok hR hcs hsz hag hall hfx (h2 j x hj hx)).1
    · cases hv
  · have hn : ∀ vs, v ≠ .tup vs := fun vs e => ha ⟨vs, e⟩
    have hv' : frz2 id sz ag cs v = some (true, v') := by cases v <;> first | exact hv | exact absurd rfl (hn _)
    rw [repS_notTup hn] at h
    obtain ⟨h1, h2⟩ := frz2_ok hR hcs hsz hag hall hv' h
    rw [repS_notTup (h2 hn)]
    exact h1
theorem frzS_ok {cs : List V} {sz : Nat} {ag : Bool} : ∀ {vs : List V}, (frzS id sz ag cs vs).1 = true → (frzS id sz ag cs vs).2.length = vs.length ∧ ∀ (j : Nat) (v' : V), (frzS id sz ag cs vs).2[j]? = some v' → v' = .undef ∨ ∃ v, vs[j]? = some v ∧ frz3 id sz ag cs v = some (true, v')
  | [], h => ⟨rfl, fun j v' h => by simp [frzS] at h⟩
  | v :: vs, h => by
    unfold frzS at h ⊢
    split at h
    · rename_i b v1 h1
      dsimp only at h
      rw [Bool.and_eq_true] at h
      obtain ⟨rfl, h⟩ := h
      obtain ⟨e1, e2⟩ := frzS_ok h
      dsimp only
      refine ⟨by simp [e1], fun j x hx => ?_⟩
      cases j with
      | zero => simp at hx; subst hx; exact .inr ⟨v, rfl, h1⟩
      | succ j => simpa using e2 j x (by simpa using hx)
    · rename_i h1
      obtain ⟨e1, e2⟩ := frzS_ok h
      dsimp only
      refine ⟨by simp [e1], fun j x hx => ?_⟩
      cases j with
      | zero => simp at hx; subst hx; exact .inl rfl
      | succ j => simpa using e2 j x (by simpa using hx)
theorem frzH_ok {cs : List V} {sz : Nat} {ag : Bool} {cl : List Nat} : ∀ {h h' : List Blk} {k : Nat}, frzH id sz ag cs cl k h = some (true, h') → h'.length = h.length ∧ ∀ (j : Nat) (c' : List V) (e : TypeId), h'[j]? = some (.cells c' e) → k + j ≠ id ∧ ∃ c, h[j]? = some (.cells c e) ∧ ((c' = c ∧ c.all (noRef id) = true) ∨ frzL (frz1 id sz ag cs) c = some (true, c'))
  | [], h', k, h => by cases h; exact ⟨rfl, fun j c' e h => by simp at h⟩
  | b :: r, h', k, h => by
    unfold frzH at h
    split at h
    · cases h
    · rename_i q r' hr
      have done : ∀ (q : Bool) (b' : Blk), q = true → frzH id sz ag cs cl (k + 1) r = some (q, r') → (∀ c' e, b' = .cells c' e → k ≠ id ∧ ∃ c, b = .cells c e ∧ ((c' = c ∧ c.all (noRef id) = true) ∨ frzL (frz1 id sz ag cs) c = some (true, c'))) →
          (b' :: r').length = (b :: r).length ∧ ∀ (j : Nat) (c' : List V) (e : TypeId), (b' :: r')[j]? = some (.cells c' e) → k + j ≠ id ∧ ∃ c, (b :: r)[j]? = some (.cells c e) ∧ ((c' = c ∧ c.all (noRef id) = true) ∨ frzL (frz1 id sz ag cs) c = some (true, c')) := by
        intro q b' hq hr hb
        subst hq
        obtain ⟨e1, e2⟩ := frzH_ok hr
        refine ⟨by simp [e1], fun j c' e hj => ?_⟩
        cases j with
        | zero =>
          simp only [List.getElem?_cons_zero, Option.some.injEq] at hj
          obtain ⟨x1, c, rfl, x3⟩ := hb c' e hj
          exact ⟨by simpa using x1, c, rfl, x3⟩
        | succ j =>
          obtain ⟨x1, x2⟩ := e2 j c' e (by simpa using hj)
          exact ⟨by omega, by simpa using x2⟩
      split at h
      · simp only [Option.some.injEq, Prod.mk.injEq] at h
        obtain ⟨rfl, rfl⟩ := h
        exact done _ _ rfl hr (fun c' e h => by cases h)
      · rename_i hk
        have hk' : k ≠ id := by simpa using hk
        split at h
        · simp only [Option.some.injEq, Prod.mk.injEq] at h
          obtain ⟨rfl, rfl⟩ := h
          exact done _ _ rfl hr (fun c' e h => by cases h)
        · rename_i c e0
          split at h
          · simp only [Option.some.injEq, Prod.mk.injEq, Bool.and_eq_true] at h
            obtain ⟨⟨h1, rfl⟩, rfl⟩ := h
            exact done _ _ rfl hr (fun c' e h => by cases h; exact ⟨hk', c, rfl, .inl ⟨rfl, h1⟩⟩)
          · split at h
            · rename_i p c1 hc
              simp only [Option.some.injEq, Prod.mk.injEq, Bool.and_eq_true] at h
              obtain ⟨⟨rfl, rfl⟩, rfl⟩ := h
              exact done _ _ rfl hr (fun c' e h => by cases h; exact ⟨hk', c, rfl, .inr hc⟩)
            · cases h
theorem R.frz (hR : R B τ g st a w) {cs : List V} {e : TypeId} {sz : Nat} {ag : Bool} {cl : List Nat} {h' : List Blk} (hcs : st.h[id]? = some (.cells cs e)) (hsz : 0 < sz) (hag : ag = false → sz = 1) (hall : cs.all flat1 = true) (hS : (frzS id sz ag cs st.fr).1 = true) (hH : frzH id sz ag cs cl 0 st.h = some (true, h')) :
    R B τ (g.frz w id) ⟨(frzS id sz ag cs st.fr).2, h'⟩ a w := by
  obtain ⟨s1, s2⟩ := frzS_ok hS
  obtain ⟨q1, q2⟩ := frzH_ok hH
  have hcur : ∀ x, g.loc id = some x → ∃ cur e', w.heap[x]? = some (.cells cur e' (0, 0)) := fun x hx => by
    obtain ⟨cur, h1, _⟩ := hR.heap.blk id x cs e hx hcs
    exact ⟨cur, e, h1⟩
  have hne : ∀ i x, i ≠ id → g.loc i = some x → g.loc id ≠ some x := fun i x hi hx hd => hi (hR.heap.inj _ _ _ hx hd)
  refine ⟨by rw [← hR.size]; exact s1, fun i v hi hv => ?_, ⟨fun i b hl => ?_, fun i i' b h1 h2 => ?_, fun i b hl => ?_, fun i b c e' hl he => ?_⟩, ⟨fun b c hb => ?_⟩, ⟨fun b i hb => ?_⟩, hR.base, hR.defers⟩
  · rcases s2 i v hv with rfl | ⟨v0, hv0, hf⟩
    · trivial
    · exact frz3_ok hR hcs hsz hag hall hf (hR.slots i v0 hi hv0)
  · have hl : (if i = id then none else g.loc i) = some b := hl
    split at hl
    · cases hl
    · rw [q1]; exact hR.heap.bound i b hl
  · have h1 : (if i = id then none else g.loc i) = some b := h1
    have h2 : (if i' = id then none else g.loc i') = some b := h2
    split at h1 <;> split at h2 <;> first | exact hR.heap.inj _ _ _ h1 h2 | cases h1 | cases h2
  · have hl : (if i = id then none else g.loc i) = some b := hl
    split at hl
    · cases hl
    · rename_i hi
      obtain ⟨f1, f2, f3, f4⟩ := hR.heap.fresh i b hl
      refine ⟨f1, f2, ?_, f4⟩
      show (if g.loc id = some b then _ else g.mem b) = none
      rw [if_neg (hne i b hi hl)]; exact f3
  · have hl : (if i = id then none else g.loc i) = some b := hl
    split at hl
    · cases hl
    · obtain ⟨_, c0, hc0, hc⟩ := q2 i c e' he
      obtain ⟨cur, k1, k2, k3⟩ := hR.heap.blk i b c0 e' hl hc0
      rcases hc with ⟨rfl, hno⟩ | hfr
      · rw [List.all_eq_true] at hno
        exact ⟨cur, k1, k2, fun j x hj hx => frz_noRef hR (hno x (List.mem_of_getElem? hx)) (k3 j x hj hx)⟩
      · obtain ⟨e1, e2⟩ := frzL_ok hfr
        refine ⟨cur, k1, by rw [e1]; exact k2, fun j x hj hx => ?_⟩
        obtain ⟨x0, hx0, hfx⟩ := e2 j x hx
        exact frz1_ok hR hcs hsz hag hall hfx (k3 j x0 hj hx0)
  · have hb : (if g.loc id = some b then (match w.heap[b]? with | some (.cells cur _ _) => some cur.toList | _ => g.mem b) else g.mem b) = some c := hb
    split at hb
    · rename_i hl
      obtain ⟨cur, e', hc⟩ := hcur b hl
      rw [hc] at hb
      cases hb
      exact ⟨cur, e', _, hc, List.prefix_refl _⟩
    · exact hR.mem.at_ b c hb
  · obtain ⟨k1, k2, k3, k4, k5, k6, k7⟩ := hR.lin.at_ b i hb
    have hnb : g.loc id ≠ some b := fun hl => by
      have := (hR.heap.fresh id b hl).2.2.2
      have hb : g.lin b = some i := hb
      rw [hb] at this; cases this
    have hmb : (g.frz w id).mem b = g.mem b := by
      show (if g.loc id = some b then _ else g.mem b) = g.mem b
      rw [if_neg hnb]
    exact ⟨k1, k2, k3, k4, k5, fun h => by rw [hmb]; exact k6 h, fun h => by rw [hmb]; exact k7 h⟩
end

/-- Tellings with something to be shown. -/
inductive TellB where
  | t (x : Tell) | frz (id sz : Nat) (a : Bool) (cl : List Nat)
def tellB1 (N : Nat) (st : St) : TellB → Option (Bool × St)
  | .t x => match tell1 N st x with
    | some st' => some (true, st')
    | none => none
  | .frz id sz a cl => match st.h[id]? with
    | some (.cells cs _) => match decide (N ≤ id) && decide (0 < sz) && (a || decide (sz = 1)) with
      | true => match frzH id sz a cs cl 0 st.h with
        | some (q, h') => some (cs.all flat1 && ((frzS id sz a cs st.fr).1 && q), ⟨(frzS id sz a cs st.fr).2, h'⟩)
        | none => none
      | false => none
    | _ => none
def tellB (N : Nat) : List TellB → St → Option (Bool × St)
  | [], st => some (true, st)
  | x :: r, st => match tellB1 N st x with
    | some (b, st) => match tellB N r st with
      | some (b2, st) => some (b && b2, st)
      | none => none
    | none => none
theorem tellB1_ok {N : Nat} {st st' : St} {x : TellB} (h : tellB1 N st x = some (true, st')) : StTo N st st' := by
  unfold tellB1 at h
  split at h
  · split at h
    · rename_i hx; cases h; exact tell1_ok hx
    · cases h
  · rename_i id sz ag cl
    split at h
    · rename_i cs e hcs
      split at h
      · rename_i hc
        simp only [Bool.and_eq_true, decide_eq_true_eq, Bool.or_eq_true] at hc
        obtain ⟨⟨h1, h2⟩, h3⟩ := hc
        split at h
        · rename_i q h' hH
          simp only [Option.some.injEq, Prod.mk.injEq, Bool.and_eq_true] at h
          obtain ⟨⟨k1, k2, rfl⟩, rfl⟩ := h
          have hag : ag = false → sz = 1 := by
            rintro rfl
            simpa using h3
          intro B τ g a w hR
          exact ⟨g.frz w id, ⟨Below.refl _ _, frz_mem hR, fun b hb => (by
            show (if g.loc id = some b then _ else g.mem b) = g.mem b
            rw [if_neg (fun hl => by have := (hR.heap.fresh id b hl).1; omega)]), fun i b hi hl => frz_loc (by omega) hl, fun _ _ h _ => h⟩, hR.frz hcs h2 hag k1 k2 hH⟩
        · cases h
      · cases h
    · cases h
theorem tellB_ok {N : Nat} : ∀ {l : List TellB} {st st' : St}, tellB N l st = some (true, st') → StTo N st st'
  | [], st, st', h => by cases h; exact StTo.refl _
  | x :: r, st, st', h => by
    unfold tellB at h
    split at h
    · rename_i b s hs
      split at h
      · rename_i b2 s2 hs2
        simp only [Option.some.injEq, Prod.mk.injEq, Bool.and_eq_true] at h
        obtain ⟨⟨rfl, rfl⟩, rfl⟩ := h
        exact (tellB1_ok hs).trans (tellB_ok hs2)
      · cases h
    · cases h
end Go.Fw
/- Trees with their choices: what a run over unknown values comes to, and what is to be shown for it. -/
namespace Go.Fw
open Go.RowKit

inductive G (α : Type) where
  | ret (a : α)
  | ite (s : Nat) (b : Bool) (x y : G α)
  | tt (s : Nat) (b : Bool) (x : G α)
  | ff (s : Nat) (b : Bool) (x : G α)
  | chk (s : Nat) (b : Bool) (x : G α)
  | opt (s : Nat) (o : Option V) (v : V) (x : G α)
  | call (s : Nat) (g : FuncId) (args : List V) (v : V) (x : G α)
  | callH (s : Nat) (g : FuncId) (args : List V) (h : List Blk) (v : V) (h' : List Blk) (x : G α)
  | loop (s : Nat) (keep : List (Nat × Fm)) (st : St) (e : Ex) (st' : St) (x : G α)
  | rw (s : Nat) (hs : List (Nat × List V × List V)) (ts : List (Nat × V × V)) (x : G α)
  | to (s : Nat) (l : List Tell) (x : G α)
  | tob (s : Nat) (b : Bool) (l : List TellB) (x : G α)

/-- Parts of a state that are written otherwise. -/
def rwH : List (Nat × List V × List V) → List Blk → List (Nat × List V × List V) × List Blk
  | [], h => ([], h)
  | (id, _, c') :: r, h => match h[id]? with
    | some (.cells c e) => ((id, c, c') :: (rwH r (h.set id (.cells c' e))).1, (rwH r (h.set id (.cells c' e))).2)
    | _ => rwH r h
def rwT : List (Nat × V × V) → List V → List (Nat × V × V) × List V
  | [], fr => ([], fr)
  | (t, _, v') :: r, fr => ((t, getS fr t, v') :: (rwT r (fr.set t v')).1, (rwT r (fr.set t v')).2)
def EqH : List (Nat × List V × List V) → Prop
  | [] => True
  | (_, c, c') :: r => c = c' ∧ EqH r
def EqT : List (Nat × V × V) → Prop
  | [] => True
  | (_, v, v') :: r => v = v' ∧ EqT r
theorem rwH_eq : ∀ (l : List (Nat × List V × List V)) (h : List Blk), EqH (rwH l h).1 → (rwH l h).2 = h
  | [], h, _ => rfl
  | (id, c0, c') :: r, h, he => by
    unfold rwH at he ⊢
    split
    · rename_i c e hc
      rw [hc] at he
      dsimp only at he ⊢
      obtain ⟨h1, h2⟩ := he
      rw [rwH_eq r _ h2, ← h1]
      obtain ⟨hlt, hg⟩ := List.getElem?_eq_some_iff.1 hc
      rw [← hg]
      exact List.set_getElem_self hlt
    · rename_i hc
      split at he
      · rename_i c e hc'; exact absurd hc' (hc c e)
      · exact rwH_eq r h he
theorem rwT_eq : ∀ (l : List (Nat × V × V)) (fr : List V), EqT (rwT l fr).1 → (rwT l fr).2 = fr
  | [], fr, _ => rfl
  | (t, v0, v') :: r, fr, he => by
    unfold rwT at he ⊢
    dsimp only at he ⊢
    obtain ⟨h1, h2⟩ := he
    rw [rwT_eq r _ h2, ← h1]
    by_cases ht : t < fr.length
    · rw [getS_eq (List.getElem?_eq_getElem ht)]
      exact List.set_getElem_self ht
    · exact List.set_eq_of_length_le (by omega)

def follow (N : Nat) {α : Type} : T α → G α → Option (G α)
  | .ret a, _ => some (.ret a)
  | .fail, _ => none
  | .ite s b t u, g => match g with
    | .ite s' _ x y => match s' == s with
      | true => match follow N t x, follow N u y with
        | some x, some y => some (.ite s b x y)
        | _, _ => none
      | false => match b with
        | true => follow N t g
        | false => follow N u g
    | .tt s' _ x => match s' == s with
      | true => (follow N t x).map (.tt s b)
      | false => match b with
        | true => follow N t g
        | false => follow N u g
    | .ff s' _ x => match s' == s with
      | true => (follow N u x).map (.ff s b)
      | false => match b with
        | true => follow N t g
        | false => follow N u g
    | g => match b with
      | true => follow N t g
      | false => follow N u g
  | .chk s b t, g => match g with
    | .chk s' _ x => match s' == s with
      | true => (follow N t x).map (.chk s b)
      | false => match b with
        | true => follow N t g
        | false => none
    | g => match b with
      | true => follow N t g
      | false => none
  | .opt s o k, g => match g with
    | .opt s' _ v x => match s' == s with
      | true => (follow N (k v) x).map (.opt s o v)
      | false => match o with
        | some v => follow N (k v) g
        | none => none
    | g => match o with
      | some v => follow N (k v) g
      | none => none
  | .call s f args k, g => match g with
    | .call s' _ _ v x => match s' == s with
      | true => (follow N (k v) x).map (.call s f args v)
      | false => none
    | _ => none
  | .callH s f args h k, g => match g with
    | .callH s' _ _ _ v h' x => match s' == s with
      | true => (follow N (k v h') x).map (.callH s f args h v h')
      | false => none
    | _ => none
  | .loop s _ st k, g => match g with
    | .loop s' keep _ e st' x => match s' == s with
      | true => (follow N (k e st') x).map (.loop s keep (relax keep st) e st')
      | false => none
    | _ => none
  | .norm s st k, g => match g with
    | .rw s' hs ts x => match s' == s with
      | true => (follow N (k ⟨(rwT ts st.fr).2, (rwH hs st.h).2⟩) x).map (.rw s (rwH hs st.h).1 (rwT ts st.fr).1)
      | false => follow N (k st) g
    | g => follow N (k st) g
  | .open s st k, g => match g with
    | .rw s' hs ts x => match s' == s with
      | true => match x with
        | .to s2 l y => match s2 == s with
          | true => match tell N l ⟨(rwT ts st.fr).2, (rwH hs st.h).2⟩ with
            | some st' => (follow N (k st') y).map fun y => .rw s (rwH hs st.h).1 (rwT ts st.fr).1 (.to s l y)
            | none => none
          | false => (follow N (k ⟨(rwT ts st.fr).2, (rwH hs st.h).2⟩) x).map (.rw s (rwH hs st.h).1 (rwT ts st.fr).1)
        | .tob s2 _ l y => match s2 == s with
          | true => match tellB N l ⟨(rwT ts st.fr).2, (rwH hs st.h).2⟩ with
            | some (b, st') => (follow N (k st') y).map fun y => .rw s (rwH hs st.h).1 (rwT ts st.fr).1 (.tob s b l y)
            | none => none
          | false => (follow N (k ⟨(rwT ts st.fr).2, (rwH hs st.h).2⟩) x).map (.rw s (rwH hs st.h).1 (rwT ts st.fr).1)
        | x => (follow N (k ⟨(rwT ts st.fr).2, (rwH hs st.h).2⟩) x).map (.rw s (rwH hs st.h).1 (rwT ts st.fr).1)
      | false => follow N (k st) g
    | .to s' l x => match s' == s with
      | true => match tell N l st with
        | some st' => (follow N (k st') x).map (.to s l)
        | none => none
      | false => follow N (k st) g
    | .tob s' _ l x => match s' == s with
      | true => match tellB N l st with
        | some (b, st') => (follow N (k st') x).map (.tob s b l)
        | none => none
      | false => follow N (k st) g
    | g => follow N (k st) g

/-- A loop, named by its function and its key, leads from a state to a state; so does one round of it. -/
def LoopRuns (C : Cx) (f : FuncId) (N : Nat) (s : Nat) (st : St) (e : Ex) (st1 : St) : Prop := ∃ b, loopAt C f s = some b ∧ LoopTo C N b e st1 st
def BodyRuns (C : Cx) (f : FuncId) (N : Nat) (s : Nat) (st : St) (e : Ex) (st1 : St) : Prop := ∃ b, loopAt C f s = some b ∧ Runs C N b st e st1

def Holds (C : Cx) (f : FuncId) (N : Nat) {α : Type} : G α → (α → Prop) → Prop
  | .ret a, Q => Q a
  | .ite _ b x y, Q => (b = true → Holds C f N x Q) ∧ (b = false → Holds C f N y Q)
  | .tt _ b x, Q => b = true ∧ Holds C f N x Q
  | .ff _ b x, Q => b = false ∧ Holds C f N x Q
  | .chk _ b x, Q => b = true ∧ Holds C f N x Q
  | .opt _ o v x, Q => o = some v ∧ Holds C f N x Q
  | .call _ g args v x, Q => Sp C g args v ∧ Holds C f N x Q
  | .callH _ g args h v h' x, Q => SpH C g args h v h' ∧ Holds C f N x Q
  | .loop s _ st e st' x, Q => LoopRuns C f N s st e st' ∧ Holds C f N x Q
  | .rw _ hs ts x, Q => (EqH hs ∧ EqT ts) ∧ Holds C f N x Q
  | .to _ _ x, Q => Holds C f N x Q
  | .tob _ b _ x, Q => b = true ∧ Holds C f N x Q

section
variable {C : Cx} {f : FuncId} {N : Nat}
theorem follow_ok {α : Type} {Q : α → Prop} : ∀ (t : T α) (g g' : G α), follow N t g = some g' → Holds C f N g' Q → ∃ a, Hits C f N t a ∧ Q a
  | .ret a, g, g', h, hh => by
    unfold follow at h
    cases h
    exact ⟨a, rfl, hh⟩
  | .fail, g, g', h, hh => by unfold follow at h; cases h
  | .ite s b t u, g, g', h, hh => by
    have conc : ∀ g, (match b with | true => follow N t g | false => follow N u g) = some g' → ∃ a, Hits C f N (.ite s b t u) a ∧ Q a := by
      intro g h
      cases b with
      | true => obtain ⟨a, h1, h2⟩ := follow_ok t g g' h hh; exact ⟨a, .inl ⟨rfl, h1⟩, h2⟩
      | false => obtain ⟨a, h1, h2⟩ := follow_ok u g g' h hh; exact ⟨a, .inr ⟨rfl, h1⟩, h2⟩
    unfold follow at h
    cases g <;> dsimp only at h <;> try exact conc _ h
    case ite s' b' x y =>
      split at h
      · split at h
        · rename_i x' y' hx hy
          cases h
          cases hb : b with
          | true => obtain ⟨a, h1, h2⟩ := follow_ok t _ _ hx (hh.1 hb); exact ⟨a, .inl ⟨rfl, h1⟩, h2⟩
          | false => obtain ⟨a, h1, h2⟩ := follow_ok u _ _ hy (hh.2 hb); exact ⟨a, .inr ⟨rfl, h1⟩, h2⟩
        · cases h
      · exact conc _ h
    case tt s' b' x =>
      split at h
      · obtain ⟨x', hx, rfl⟩ := Option.map_eq_some_iff.1 h
        obtain ⟨a, h1, h2⟩ := follow_ok t _ _ hx hh.2
        exact ⟨a, .inl ⟨hh.1, h1⟩, h2⟩
      · exact conc _ h
    case ff s' b' x =>
      split at h
      · obtain ⟨x', hx, rfl⟩ := Option.map_eq_some_iff.1 h
        obtain ⟨a, h1, h2⟩ := follow_ok u _ _ hx hh.2
        exact ⟨a, .inr ⟨hh.1, h1⟩, h2⟩
      · exact conc _ h
  | .chk s b t, g, g', h, hh => by
    have conc : ∀ g, (match b with | true => follow N t g | false => none) = some g' → ∃ a, Hits C f N (.chk s b t) a ∧ Q a := by
      intro g h
      cases b with
      | true => obtain ⟨a, h1, h2⟩ := follow_ok t g g' h hh; exact ⟨a, ⟨rfl, h1⟩, h2⟩
      | false => cases h
    unfold follow at h
    cases g <;> dsimp only at h <;> try exact conc _ h
    case chk s' b' x =>
      split at h
      · obtain ⟨x', hx, rfl⟩ := Option.map_eq_some_iff.1 h
        obtain ⟨a, h1, h2⟩ := follow_ok t _ _ hx hh.2
        exact ⟨a, ⟨hh.1, h1⟩, h2⟩
      · exact conc _ h
  | .opt s o k, g, g', h, hh => by
    have conc : ∀ g, (match o with | some v => follow N (k v) g | none => none) = some g' → ∃ a, Hits C f N (.opt s o k) a ∧ Q a := by
      intro g h
      cases o with
      | some v => obtain ⟨a, h1, h2⟩ := follow_ok (k v) g g' h hh; exact ⟨a, ⟨v, rfl, h1⟩, h2⟩
      | none => cases h
    unfold follow at h
    cases g <;> dsimp only at h <;> try exact conc _ h
    case opt s' o' v x =>
      split at h
      · obtain ⟨x', hx, rfl⟩ := Option.map_eq_some_iff.1 h
        obtain ⟨a, h1, h2⟩ := follow_ok (k v) _ _ hx hh.2
        exact ⟨a, ⟨v, hh.1, h1⟩, h2⟩
      · exact conc _ h
  | .call s gf args k, g, g', h, hh => by
    unfold follow at h
    cases g <;> dsimp only at h <;> try (cases h; done)
    case call s' a b v x =>
      split at h
      · obtain ⟨x', hx, rfl⟩ := Option.map_eq_some_iff.1 h
        obtain ⟨a, h1, h2⟩ := follow_ok (k v) _ _ hx hh.2
        exact ⟨a, ⟨v, hh.1, h1⟩, h2⟩
      · cases h
  | .callH s gf args hp k, g, g', h, hh => by
    unfold follow at h
    cases g <;> dsimp only at h <;> try (cases h; done)
    case callH s' a b c v h' x =>
      split at h
      · obtain ⟨x', hx, rfl⟩ := Option.map_eq_some_iff.1 h
        obtain ⟨a, h1, h2⟩ := follow_ok (k v h') _ _ hx hh.2
        exact ⟨a, ⟨v, h', hh.1, h1⟩, h2⟩
      · cases h
  | .loop s b st k, g, g', h, hh => by
    unfold follow at h
    cases g <;> dsimp only at h <;> try (cases h; done)
    case loop s' keep st0 e st' x =>
      split at h
      · obtain ⟨x', hx, rfl⟩ := Option.map_eq_some_iff.1 h
        obtain ⟨a, h1, h2⟩ := follow_ok (k e st') _ _ hx hh.2
        refine ⟨a, ⟨e, st', fun hb => ?_, h1⟩, h2⟩
        obtain ⟨b', h3, h4⟩ := hh.1
        rw [hb] at h3
        cases h3
        exact Runs.pre keep (Runs.loop h4)
      · cases h
  | .norm s st k, g, g', h, hh => by
    have conc : ∀ g, follow N (k st) g = some g' → ∃ a, Hits C f N (.norm s st k) a ∧ Q a := by
      intro g h
      obtain ⟨a, h1, h2⟩ := follow_ok (k st) g g' h hh
      exact ⟨a, h1, h2⟩
    unfold follow at h
    cases g <;> dsimp only at h <;> try exact conc _ h
    case rw s' hs ts x =>
      split at h
      · obtain ⟨x', hx, rfl⟩ := Option.map_eq_some_iff.1 h
        obtain ⟨⟨e1, e2⟩, h3⟩ := hh
        obtain ⟨a, h1, h2⟩ := follow_ok _ x x' hx h3
        rw [rwH_eq _ _ e1, rwT_eq _ _ e2] at h1
        exact ⟨a, h1, h2⟩
      · exact conc _ h
  | .open s st k, g, g', h, hh => by
    have conc : ∀ g, follow N (k st) g = some g' → ∃ a, Hits C f N (.open s st k) a ∧ Q a := by
      intro g h
      obtain ⟨a, h1, h2⟩ := follow_ok (k st) g g' h hh
      exact ⟨a, ⟨st, StTo.refl _, h1⟩, h2⟩
    unfold follow at h
    cases g <;> dsimp only at h <;> try exact conc _ h
    case rw s' hs ts x =>
      have plain : ∀ x, (follow N (k ⟨(rwT ts st.fr).2, (rwH hs st.h).2⟩) x).map (.rw s (rwH hs st.h).1 (rwT ts st.fr).1) = some g' → ∃ a, Hits C f N (.open s st k) a ∧ Q a := by
        intro x h
        obtain ⟨x', hx, rfl⟩ := Option.map_eq_some_iff.1 h
        obtain ⟨⟨e1, e2⟩, h3⟩ := hh
        obtain ⟨a, h1, h2⟩ := follow_ok _ x x' hx h3
        rw [rwH_eq _ _ e1, rwT_eq _ _ e2] at h1
        exact ⟨a, ⟨st, StTo.refl _, h1⟩, h2⟩
      split at h
      · split at h
        · split at h
          · split at h
            · rename_i s2 l y _ _ _ st' hst
              obtain ⟨x', hx, rfl⟩ := Option.map_eq_some_iff.1 h
              obtain ⟨⟨e1, e2⟩, h3⟩ := hh
              obtain ⟨a, h1, h2⟩ := follow_ok _ y x' hx h3
              rw [rwH_eq _ _ e1, rwT_eq _ _ e2] at hst
              exact ⟨a, ⟨st', tell_ok hst, h1⟩, h2⟩
            · cases h
          · exact plain _ h
        · split at h
          · split at h
            · rename_i s2 _ l y _ _ _ b st' hst
              obtain ⟨x', hx, rfl⟩ := Option.map_eq_some_iff.1 h
              obtain ⟨⟨e1, e2⟩, hb, h3⟩ := hh
              subst hb
              obtain ⟨a, h1, h2⟩ := follow_ok _ y x' hx h3
              rw [rwH_eq _ _ e1, rwT_eq _ _ e2] at hst
              exact ⟨a, ⟨st', tellB_ok hst, h1⟩, h2⟩
            · cases h
          · exact plain _ h
        · exact plain _ h
      · exact conc _ h
    case to s' l x =>
      split at h
      · split at h
        · rename_i st' hst
          obtain ⟨x', hx, rfl⟩ := Option.map_eq_some_iff.1 h
          obtain ⟨a, h1, h2⟩ := follow_ok _ x x' hx hh
          exact ⟨a, ⟨st', tell_ok hst, h1⟩, h2⟩
        · cases h
      · exact conc _ h
    case tob s' b' l x =>
      split at h
      · split at h
        · rename_i b st' hst
          obtain ⟨x', hx, rfl⟩ := Option.map_eq_some_iff.1 h
          obtain ⟨hb, hh⟩ := hh
          subst hb
          obtain ⟨a, h1, h2⟩ := follow_ok _ x x' hx hh
          exact ⟨a, ⟨st', tellB_ok hst, h1⟩, h2⟩
        · cases h
      · exact conc _ h

theorem BodyRuns.loop {s : Nat} {st st1 : St} {e : Ex} (h : BodyRuns C f N s st e st1) (hn : e ≠ .normal) : LoopRuns C f N s st e st1 := by
  obtain ⟨b, h1, h2⟩ := h
  exact ⟨b, h1, .done h2 hn⟩
theorem BodyRuns.step {s : Nat} {st st1 st2 : St} {e : Ex} (h : BodyRuns C f N s st .normal st1) (k : LoopRuns C f N s st1 e st2) : LoopRuns C f N s st e st2 := by
  obtain ⟨b, h1, h2⟩ := h
  obtain ⟨b', h3, h4⟩ := k
  rw [h1] at h3
  cases h3
  exact ⟨b, h1, .step h2 h4⟩
end

/-! ### whole calls, rounds of loops -/
def xall {α β : Type} (m : α → T β) : List α → T (List β)
  | [] => xp []
  | x :: xs => xb (m x) fun y => xb (xall m xs) fun ys => xp (y :: ys)
def xesc1 (P : Program) (h : List Blk) : V → T V
  | .own id off n _ => match h[id]? with
    | some (.cells cs e) => match isAggT P e, sizeT P e with
      | some false, some 1 => xb (xchk (4000 + id) (decide (off + n ≤ cs.length) && ((cs.drop off).take n).all flat1)) fun _ => xp (.imm false 1 ((cs.drop off).take n))
      | some true, some (m + 1) => xb (xchk (4000 + id) (decide (off + n * (m + 1) ≤ cs.length) && ((cs.drop off).take (n * (m + 1))).all flat1)) fun _ => xp (.imm false (m + 1) (chunk (m + 1) n (cs.drop off)))
      | _, _ => xf
    | _ => xf
  | .lin p e n xs => xp (.lin p e n xs)
  | v => if flat1 v then xp v else xf
def xesc2 (P : Program) (h : List Blk) : V → T V
  | .agg vs => xb (xall (xesc1 P h) vs) fun vs => xp (.agg vs)
  | v => xesc1 P h v
def xfin (C : Cx) (fn : Func) (q : Ex × St) : T V := match q.1 with
  | .normal | .ret => xb (xlift (optAll (resultV C q.2) fn.results.toList)) fun vs =>
    if distinct (fn.results.toList.map (resultKey q.2)) then xb (xall (xesc2 C.P q.2.h) vs) fun vs => xp (one vs) else xf
  | _ => xf
def xfinH (C : Cx) (fn : Func) (q : Ex × St) : T (V × List Blk) := match q.1 with
  | .normal | .ret => xb (xlift (optAll (resultV C q.2) fn.results.toList)) fun vs =>
    if vs.all fun v => !isLin2 v && okV v then xp (one vs, q.2.h) else xf
  | _ => xf
/-- A call whose arguments lie in no heap of its caller's. -/
def xcall (C : Cx) (f : FuncId) (dm : List Nat) (fs : List Fm) (args : List V) : T V := match C.P.funcs[f]? with
  | some fn => match fn.body with
    | some c => if fn.name == "runtime.NumGoroutine" || !loopsOk c || !args.all flat2 then xf else
      xb (xexec C f 1000 c ⟨args ++ List.replicate (fn.ntmps - args.length) .undef, []⟩) fun q => xb (xfin C fn q) fun v => xp (outR dm fs v)
    | none => xf
  | none => xf
/-- A call whose arguments do. -/
def xcallH (C : Cx) (f : FuncId) (args : List V) (h : List Blk) : T (V × List Blk) := match C.P.funcs[f]? with
  | some fn => match fn.body with
    | some c => if fn.name == "runtime.NumGoroutine" || !loopsOk c || args.all flat2 then xf else
      xb (xexec C f 1000 c ⟨args ++ List.replicate (fn.ntmps - args.length) .undef, h⟩) fun q => xfinH C fn q
    | none => xf
  | none => xf
/-- A round of a loop; 'kn', 'ke': what is kept where the round goes on, where it leaves. -/
def xbody (C : Cx) (f : FuncId) (s : Nat) (kn ke : List (Nat × Fm)) (st : St) : T (Ex × St) := match C.P.funcs[f]? with
  | some fn => match fn.body with
    | some c => if !loopsOk c then xf else match loopAt C f s with
      | some b => xb (xexec C f 1000 b st) fun q => match q.1 with
        | .normal => xp (.normal, relax kn q.2)
        | e => xp (e, relax ke q.2)
      | none => xf
    | none => xf
  | none => xf

/-- The regions whose order is drawn are given rightly. -/
def Draws (C : Cx) : Prop := ∀ f fn c, C.P.funcs[f]? = some fn → fn.body = some c → ∀ p ∈ drawRegs c, DrawSound C f p.1 p.2
theorem draws_of {C : Cx} (hD : ∀ f, (∃ id, C.un f id ≠ none) → drawsOk C f = true) : Draws C := fun f fn c hf hc p hp => draw_sound (fun un hun => by
  have := hD f ⟨p.1, by rw [hun]; simp⟩
  unfold drawsOk at this
  rw [hf] at this
  dsimp only at this
  rw [hc] at this
  dsimp only at this
  rw [List.all_eq_true] at this
  have := this p hp
  rw [hun] at this
  exact this)

section
variable {C : Cx} {f : FuncId} {N : Nat}
theorem snd_xall {α β : Type} {m : α → T β} {g : α → Option β} (h : ∀ x, Snd C f N (m x) (fun y => g x = some y)) : ∀ {xs : List α}, Snd C f N (xall m xs) (fun ys => optAll g xs = some ys)
  | [] => snd_xp rfl
  | x :: xs => by
    unfold xall
    refine snd_xb (h x) (fun y hy => snd_xb (snd_xall h) (fun ys hys => snd_xp ?_))
    unfold optAll
    rw [hy, bindO_some, hys, bindO_some]
theorem snd_xesc1 {P : Program} {h : List Blk} {v : V} : Snd C f N (xesc1 P h v) (fun y => escape1 P h v = some y) := by
  unfold xesc1
  split
  · rename_i id off n
    split
    · rename_i cs e hcs
      split
      · rename_i ha hz
        refine snd_xb snd_xchk (fun _ hc => snd_xp ?_)
        unfold escape1
        try dsimp only
        rw [hcs]
        try dsimp only
        rw [ha, hz]
        try dsimp only
        rw [hc, condB_true]
        rfl
      · rename_i m ha hz
        refine snd_xb snd_xchk (fun _ hc => snd_xp ?_)
        unfold escape1
        try dsimp only
        rw [hcs]
        try dsimp only
        rw [ha, hz]
        try dsimp only
        rw [hc, condB_true]
      · exact snd_xf
    · exact snd_xf
  · exact snd_xp rfl
  · rename_i v h1 h2
    split
    · rename_i hf
      refine snd_xp ?_
      unfold escape1
      split
      · exact absurd rfl (h1 _ _ _ _)
      · exact absurd rfl (h2 _ _ _ _)
      · rw [hf, condB_true]
    · exact snd_xf
theorem snd_xesc2 {P : Program} {h : List Blk} {v : V} : Snd C f N (xesc2 P h v) (fun y => escape2 P h v = some y) := by
  by_cases ha : ∃ vs, v = .agg vs
  · obtain ⟨vs, rfl⟩ := ha
    refine snd_xb (snd_xall (fun x => snd_xesc1)) (fun ys hys => snd_xp ?_)
    unfold escape2
    dsimp only
    rw [hys, bindO_some]
  · have e1 : escape2 P h v = escape1 P h v := by cases v <;> first | rfl | exact absurd ⟨_, rfl⟩ ha
    have e2 : xesc2 P h v = xesc1 P h v := by cases v <;> first | rfl | exact absurd ⟨_, rfl⟩ ha
    rw [e1, e2]
    exact snd_xesc1
theorem snd_xfin {fn : Func} {q : Ex × St} : Snd C f N (xfin C fn q) (fun v => vfinal C fn true q.1 q.2 = some (.ret v [])) := by
  obtain ⟨e, st⟩ := q
  have key : Snd C f N (xb (xlift (optAll (resultV C st) fn.results.toList)) fun vs =>
    if distinct (fn.results.toList.map (resultKey st)) then xb (xall (xesc2 C.P st.h) vs) fun vs => xp (one vs) else xf) (fun v => vfinal C fn true .ret st = some (.ret v [])) := by
    refine snd_xb snd_xlift (fun vs hvs => ?_)
    split
    · rename_i hd
      refine snd_xb (snd_xall (fun x => snd_xesc2)) (fun ys hys => snd_xp ?_)
      unfold vfinal
      dsimp only
      rw [hvs, bindO_some, if_pos rfl, if_pos hd, hys, bindO_some]
    · exact snd_xf
  unfold xfin
  cases e with
  | normal => exact key
  | ret => exact key
  | _ => exact snd_xf
theorem snd_xfinH {fn : Func} {q : Ex × St} : Snd C f N (xfinH C fn q) (fun r => vfinal C fn false q.1 q.2 = some (.ret r.1 r.2)) := by
  obtain ⟨e, st⟩ := q
  have key : Snd C f N (xb (xlift (optAll (resultV C st) fn.results.toList)) fun vs =>
    if vs.all fun v => !isLin2 v && okV v then xp (one vs, st.h) else xf) (fun r => vfinal C fn false .ret st = some (.ret r.1 r.2)) := by
    refine snd_xb snd_xlift (fun vs hvs => ?_)
    split
    · rename_i ha
      refine snd_xp ?_
      unfold vfinal
      dsimp only
      rw [hvs, bindO_some, if_neg (by simp), ha, condB_true]
    · exact snd_xf
  unfold xfinH
  cases e with
  | normal => exact key
  | ret => exact key
  | _ => exact snd_xf

theorem loops_in {c : Code} {fn : Func} (hf : C.P.funcs[f]? = some fn) (hb : fn.body = some c) (hl : loopsOk c = true) : ∀ b ∈ subloops c, loopAt C f (lkey b) = some b := by
  intro b h
  unfold loopAt
  rw [hf]
  dsimp only
  rw [hb]
  exact findLoop_of hl h
theorem subloops_sub : ∀ {c b : Code}, b ∈ subloops c → ∀ b' ∈ subloops b, b' ∈ subloops c
  | .seq x y, b, h, b', h' => by
    simp only [subloops, List.mem_append] at h ⊢
    rcases h with h | h
    · exact .inl (subloops_sub h b' h')
    · exact .inr (subloops_sub h b' h')
  | .cond _ x y, b, h, b', h' => by
    simp only [subloops, List.mem_append] at h ⊢
    rcases h with h | h
    · exact .inl (subloops_sub h b' h')
    · exact .inr (subloops_sub h b' h')
  | .block _ x, b, h, b', h' => subloops_sub (c := x) h b' h'
  | .loop x, b, h, b', h' => by
    rcases List.mem_cons.1 h with rfl | h
    · exact List.mem_cons_of_mem _ h'
    · exact List.mem_cons_of_mem _ (subloops_sub h b' h')
  | .skip, b, h, _, _ => by cases h
  | .label _, b, h, _, _ => by cases h
  | .region .., b, h, _, _ => by cases h
  | .exit _, b, h, _, _ => by cases h
  | .ret, b, h, _, _ => by cases h
  | .goto _, b, h, _, _ => by cases h
theorem subloops_draw : ∀ {c b : Code}, b ∈ subloops c → ∀ p ∈ drawRegs b, p ∈ drawRegs c
  | .seq x y, b, h, p, h' => by
    simp only [subloops, drawRegs, List.mem_append] at h ⊢
    rcases h with h | h
    · exact .inl (subloops_draw h p h')
    · exact .inr (subloops_draw h p h')
  | .cond _ x y, b, h, p, h' => by
    simp only [subloops, drawRegs, List.mem_append] at h ⊢
    rcases h with h | h
    · exact .inl (subloops_draw h p h')
    · exact .inr (subloops_draw h p h')
  | .block _ x, b, h, p, h' => subloops_draw (c := x) h p h'
  | .loop x, b, h, p, h' => by
    rcases List.mem_cons.1 h with rfl | h
    · exact h'
    · exact subloops_draw (c := x) h p h'
  | .skip, b, h, _, _ => by cases h
  | .label _, b, h, _, _ => by cases h
  | .region .., b, h, _, _ => by cases h
  | .exit _, b, h, _, _ => by cases h
  | .ret, b, h, _, _ => by cases h
  | .goto _, b, h, _, _ => by cases h

theorem findLoop_mem : ∀ {l : List Code} {s : Nat} {b : Code}, findLoop s l = some b → b ∈ l
  | [], s, b, h => by cases h
  | x :: r, s, b, h => by
    unfold findLoop at h
    split at h
    · cases h; simp
    · exact List.mem_cons_of_mem _ (findLoop_mem h)

theorem xcall_ok (hD : Draws C) {dm : List Nat} {fs : List Fm} {args : List V} {v : V} (h : Hits C f 0 (xcall C f dm fs args) v) : Sp C f args v := by
  unfold xcall at h
  split at h
  · rename_i fn hf
    split at h
    · rename_i c hc
      split at h
      · exact h.elim
      · rename_i hn
        simp only [Bool.or_eq_true, Bool.not_eq_true', not_or] at hn
        obtain ⟨⟨hn, hl⟩, hfl⟩ := hn
        obtain ⟨q, hq, h⟩ := reach_xb h
        obtain ⟨v0, hv, h⟩ := reach_xb h
        have h : v = outR dm fs v0 := h
        subst h
        have r := xexec_reach (hD f fn c hf hc) (loops_in hf hc (by simpa using hl)) hq
        exact (Sp.ofRuns hf hc (by simpa using hn) (by simpa using hfl) r (snd_xfin v0 hv)).outR dm fs
    · exact h.elim
  · exact h.elim
theorem xcallH_ok (hD : Draws C) {args : List V} {h0 : List Blk} {r : V × List Blk} (h : Hits C f h0.length (xcallH C f args h0) r) : SpH C f args h0 r.1 r.2 := by
  unfold xcallH at h
  split at h
  · rename_i fn hf
    split at h
    · rename_i c hc
      split at h
      · exact h.elim
      · rename_i hn
        simp only [Bool.or_eq_true, Bool.not_eq_true', not_or] at hn
        obtain ⟨⟨hn, hl⟩, hfl⟩ := hn
        obtain ⟨q, hq, h⟩ := reach_xb h
        have r := xexec_reach (hD f fn c hf hc) (loops_in hf hc (by simpa using hl)) hq
        exact SpH.ofRuns hf hc (by simpa using hn) (by simpa using hfl) r (snd_xfinH _ h)
    · exact h.elim
  · exact h.elim
theorem xbody_ok (hD : Draws C) {s : Nat} {kn ke : List (Nat × Fm)} {st : St} {q : Ex × St} (h : Hits C f N (xbody C f s kn ke st) q) : BodyRuns C f N s st q.1 q.2 := by
  unfold xbody at h
  split at h
  · rename_i fn hf
    split at h
    · rename_i c hc
      split at h
      · exact h.elim
      · rename_i hl
        split at h
        · rename_i b hb
          obtain ⟨⟨e, s1⟩, hq, h⟩ := reach_xb h
          have hmem : b ∈ subloops c := by
            unfold loopAt at hb
            rw [hf] at hb
            dsimp only at hb
            rw [hc] at hb
            exact findLoop_mem hb
          have hl := loops_in hf hc (by simpa using hl)
          have r := xexec_reach (fun p hp => hD f fn c hf hc p (subloops_draw hmem p hp)) (fun b' hb' => hl b' (subloops_sub hmem b' hb')) hq
          refine ⟨b, hb, ?_⟩
          cases e with
          | normal => have h : q = (.normal, relax kn s1) := h; subst h; exact Runs.post kn r
          | exit i => have h : q = (.exit i, relax ke s1) := h; subst h; exact Runs.post ke r
          | ret => have h : q = (.ret, relax ke s1) := h; subst h; exact Runs.post ke r
          | pan v => have h : q = (.pan v, relax ke s1) := h; subst h; exact Runs.post ke r
        · exact h.elim
    · exact h.elim
  · exact h.elim

/-- A call, by its tree. -/
theorem sp_tree (hD : Draws C) {dm : List Nat} {fs : List Fm} {args : List V} {v : V} (g : G V) (h : follow 0 (xcall C f dm fs args) g = some g) (hh : Holds C f 0 g (fun x => x = v)) : Sp C f args v := by
  obtain ⟨a, h1, rfl⟩ := follow_ok _ _ _ h hh
  exact xcall_ok hD h1
theorem spH_tree (hD : Draws C) {args : List V} {h0 : List Blk} {v : V} {h' : List Blk} (g : G (V × List Blk)) (h : follow h0.length (xcallH C f args h0) g = some g) (hh : Holds C f h0.length g (fun x => x = (v, h'))) : SpH C f args h0 v h' := by
  obtain ⟨a, h1, rfl⟩ := follow_ok _ _ _ h hh
  exact xcallH_ok hD h1
/-- A loop, by the tree of its next round. -/
theorem loop_tree (hD : Draws C) {s : Nat} {kn ke : List (Nat × Fm)} {st st2 : St} {e : Ex} (g : G (Ex × St)) (h : follow N (xbody C f s kn ke st) g = some g)
    (hh : Holds C f N g (fun q => match q.1 with | .normal => LoopRuns C f N s q.2 e st2 | e' => e' = e ∧ q.2 = st2)) : LoopRuns C f N s st e st2 := by
  obtain ⟨⟨e1, s1⟩, h1, h2⟩ := follow_ok _ _ _ h hh
  have hb := xbody_ok hD h1
  cases e1 with
  | normal => exact hb.step h2
  | exit i => obtain ⟨rfl, rfl⟩ := h2; exact hb.loop (fun e => by cases e)
  | ret => obtain ⟨rfl, rfl⟩ := h2; exact hb.loop (fun e => by cases e)
  | pan v => obtain ⟨rfl, rfl⟩ := h2; exact hb.loop (fun e => by cases e)
/-- The same, with what is kept ahead of the loop. -/
def LoopK (C : Cx) (f : FuncId) (s : Nat) (_keep : List (Nat × Fm)) (st : St) (e : Ex) (st' : St) : Prop := LoopRuns C f 0 s st e st'
/-- .. in a call that may not forget its caller's boxes. -/
def LoopKN (C : Cx) (f : FuncId) (N : Nat) (s : Nat) (_keep : List (Nat × Fm)) (st : St) (e : Ex) (st' : St) : Prop := LoopRuns C f N s st e st'
/-- An argument that may be nil, or empty, or neither. -/
theorem Sp.imm0 {pre post : List V} {n : Nat} {v : V} (h1 : Sp C f (pre ++ .nils :: post) v) (h2 : Sp C f (pre ++ .nne :: post) v) : Sp C f (pre ++ .imm false n [] :: post) v := by
  refine ⟨h1.fn, ?_, fun k us w m hm ha => ?_⟩
  · have := h1.flat
    simp only [List.all_append, List.all_cons, Bool.and_eq_true] at this ⊢
    exact ⟨this.1, rfl, this.2.2⟩
  · obtain ⟨hl, ha⟩ := ha
    have hlen : pre.length < us.size := by rw [← hl]; simp
    have hr := ha pre.length (.imm false n []) hlen (by simp)
    have put : ∀ x, RepI m x us[pre.length] → ArgsI m (pre ++ x :: post) us := by
      intro x hx
      refine ⟨by rw [← hl]; simp, fun j c hj hc => ?_⟩
      by_cases e : j = pre.length
      · subst e
        rw [List.getElem?_append_right (Nat.le_refl _)] at hc
        simp at hc
        exact hc ▸ hx
      · refine ha j c hj ?_
        by_cases hlt : j < pre.length
        · rw [List.getElem?_append_left hlt] at hc ⊢; exact hc
        · rw [List.getElem?_append_right (by omega)] at hc ⊢
          obtain ⟨i, hi⟩ : ∃ i, j - pre.length = i + 1 := ⟨j - pre.length - 1, by omega⟩
          rw [hi] at hc ⊢
          exact hc
    generalize hu : us[pre.length] = u at hr put
    cases hr with
    | none0 => exact h1.run k us w m hm (put .nils .nils)
    | imm _ _ b off cap _ _ _ _ hmx _ _ _ _ sp hp => exact h2.run k us w m hm (put .nne (.nne ⟨b, off, sp⟩ cap hmx hp))
end
end Go.Fw
/- What a law's arguments are: out of their reading, the abstract values that stand for them. -/
namespace Go.Fw
open Go.RowKit

/-- The whole memory, as it is when the call begins. -/
def memOf (w : World) : Mem := fun b => match w.heap[b]? with
  | some (.cells cur _ _) => some cur.toList
  | _ => none
theorem memOf_ok (w : World) : MemOk (memOf w) w := by
  constructor
  intro b cs h
  unfold memOf at h
  split at h
  · rename_i cur e fr hc
    cases h
    exact ⟨cur, e, fr, hc, List.prefix_refl _⟩
  · cases h
theorem memOf_cell {w : World} {a : Addr} {v : Value} (h : w.cell? a = some v) : a.spot = none ∧ stAt (memOf w) a.block a.off = some v := by
  unfold World.cell? at h
  unfold stAt memOf
  split at h
  · rename_i c e fr hc
    split at h
    · cases h
    · rename_i hs
      rw [hc]
      refine ⟨by cases hh : a.spot with | none => rfl | some x => rw [hh] at hs; simp at hs, ?_⟩
      simp only [Option.bind_some]
      rw [Array.getElem?_toList]
      exact h
  · cases h

/-- The one-cell types of a type's cells. -/
def flatT (P : Program) : Nat → TypeId → Option (List TypeId)
  | 0, _ => none
  | n + 1, t => match P.underlying t with
    | some (.struct fs) => flatF (fun t => flatT P n t) P.cellsOf 0 fs.toList
    | some (.array _ _) => none
    | some _ => some [t]
    | none => none
where
  flatF (r : TypeId → Option (List TypeId)) (sz : TypeId → Nat) : Nat → List Field → Option (List TypeId)
    | _, [] => some []
    | off, f :: fs => match r f.type, flatF r sz (off + sz f.type) fs with
      | some ts, some us => if f.offset = off ∧ ts.length = sz f.type then some (ts ++ us) else none
      | _, _ => none

/-- What stands for a cell of a type: bools, whole numbers, texts, slices of such. -/
def TypE (P : Program) (r : TypeId → V → Prop) (e : TypeId) (x : V) : Prop := match isAggT P e with
  | some true => ∃ ts cs, flatT P 20 e = some ts ∧ x = .agg cs ∧ cs.length = ts.length ∧ ∀ (j : Nat) (c : V) (t : TypeId), cs[j]? = some c → ts[j]? = some t → r t c
  | some false => r e x
  | none => False
def TypC (P : Program) : Nat → TypeId → V → Prop
  | 0, _, _ => False
  | n + 1, t, c => match P.underlying t with
    | some .bool => ∃ b, c = .bool b
    | some (.int k) => ∃ z, c = .int k z ∧ (Lit.int k z).wf = true
    | some .string => ∃ s, c = .str s ∧ s.size ≤ reachBytes
    | some (.slice e) => ∃ xs, c = .imm false (P.cellsOf e) xs ∧ xs.length * P.bytesOf e ≤ reachBytes ∧ ∀ x ∈ xs, TypE P (TypC P n) e x
    | _ => False

/-- A type that is read so. -/
def goodT (P : Program) : Nat → TypeId → Bool
  | 0, _ => false
  | n + 1, t => match P.underlying t with
    | some .bool | some (.int _) | some .string => P.cellsOf t == 1
    | some (.slice e) => P.cellsOf t == 1 && decide (0 < P.cellsOf e) && (match flatT P 20 e, isAggT P e with
      | some ts, some a => ts.length == P.cellsOf e && (a || ts == [e]) && ts.all (goodT P n)
      | _, _ => false)
    | _ => false

theorem TypC.flat {P : Program} {n : Nat} {t : TypeId} {c : V} (h : TypC P n t c) : flat0 c = true ∧ isCell c = true := by
  cases n with
  | zero => exact h.elim
  | succ n =>
    unfold TypC at h
    split at h
    · obtain ⟨b, rfl⟩ := h; exact ⟨rfl, rfl⟩
    · obtain ⟨b, rfl, _⟩ := h; exact ⟨rfl, rfl⟩
    · obtain ⟨b, rfl, _⟩ := h; exact ⟨rfl, rfl⟩
    · obtain ⟨xs, rfl, _⟩ := h; exact ⟨rfl, rfl⟩
    · exact h.elim

section
variable {H : Type} {enc : TypeId × Value → H} {P : Program} {w : World} {base : Nat} {spare : Nat → Bool} {held : Bool}

theorem cells_get {n : Nat} {a : Addr} {cs : List Value} (h : w.cells? base a n = some cs) : cs.length = n ∧ ∀ (j : Nat) (u : Value), cs[j]? = some u → w.cell? (a.add j) = some u := by
  unfold World.cells? at h
  split at h
  · have hl := mapM_some_length h
    refine ⟨by simpa using hl, fun j u hu => ?_⟩
    have hj : j < n := by have := (List.getElem?_eq_some_iff.1 hu).1; simp at hl; omega
    have := mapM_some_get h j j (by simp [hj])
    rw [this]; exact hu
  · cases h

theorem flatF_at {r : TypeId → Option (List TypeId)} {sz : TypeId → Nat} : ∀ {fs : List Field} {off : Nat} {ts : List TypeId}, flatT.flatF r sz off fs = some ts → ∀ (j : Nat) (t : TypeId), ts[j]? = some t →
    ∃ (i : Nat) (f : Field) (us : List TypeId) (j' : Nat), fs[i]? = some f ∧ r f.type = some us ∧ us.length = sz f.type ∧ us[j']? = some t ∧ off + j = f.offset + j' ∧ f.offset + us.length ≤ off + ts.length
  | [], off, ts, h, j, t, ht => by cases h; simp at ht
  | f :: fs, off, ts, h, j, t, ht => by
    unfold flatT.flatF at h
    split at h
    · rename_i us vs h1 h2
      split at h
      · rename_i hc
        cases h
        by_cases hj : j < us.length
        · rw [List.getElem?_append_left hj] at ht
          exact ⟨0, f, us, j, rfl, h1, hc.2, ht, by rw [hc.1], by rw [hc.1, List.length_append]; omega⟩
        · rw [List.getElem?_append_right (by omega)] at ht
          obtain ⟨i, g, ws, j', q1, q2, q3, q4, q5, q6⟩ := flatF_at h2 _ t ht
          have := hc.2
          exact ⟨i + 1, g, ws, j', by simpa using q1, q2, q3, q4, by rw [← q5]; omega, by rw [List.length_append]; omega⟩
      · cases h
    · cases h

/-- The cells of a value, read one by one. -/
theorem flat_trod : ∀ (n : Nat) {fuel : Nat} {t : TypeId} {ts : List TypeId} {us : List Value} {x : DataW H × List MemPlace}, flatT P n t = some ts → DataW.trod enc P w base spare held fuel t us = some x → (∀ m ∈ x.1.weights P t, m ≤ reachBytes) → us.length = ts.length →
    ∀ (j : Nat) (u : Value) (t' : TypeId), us[j]? = some u → ts[j]? = some t' → ∃ fuel' x', DataW.trod enc P w base spare held fuel' t' [u] = some x' ∧ ∀ m ∈ x'.1.weights P t', m ≤ reachBytes
  | 0, fuel, t, ts, us, x, h, _, _, _, _, _, _, _, _ => by simp [flatT] at h
  | n + 1, fuel, t, ts, us, x, h, hr, hw, hlen, j, u, t', hu, ht => by
    unfold flatT at h
    split at h
    · rename_i fs hfs
      obtain ⟨xs, n', rfl, hx, hl, hxl, hat⟩ := DataW.trod_struct hfs hr
      obtain ⟨i, f, vs, j', q1, q2, q3, q4, q5, q6⟩ := flatF_at h j t' ht
      have hj' := (List.getElem?_eq_some_iff.1 q4).1
      have hf := hat i f (by rw [← Array.getElem?_toList]; exact q1)
      have hi : i < xs.length := by have := (List.getElem?_eq_some_iff.1 q1).1; simp at this; omega
      rw [List.getElem?_eq_getElem hi] at hf
      have hju : ((us.drop f.offset).take (P.cellsOf f.type))[j']? = some u := by
        rw [takeDrop_get, if_pos (by rw [← q3]; exact hj'), ← q5, Nat.zero_add]
        exact hu
      have hdl : ((us.drop f.offset).take (P.cellsOf f.type)).length = vs.length := by
        simp only [List.length_take, List.length_drop]
        omega
      refine flat_trod n q2 hf (fun m hm => hw m ?_) hdl j' u t' hju q4
      rw [hx]
      unfold DataW.weights
      rw [hfs]
      dsimp only
      refine DataW.weights_mem_each (j := i) (t := f.type) (d := xs[i].1) ?_ ?_ m hm
      · rw [List.getElem?_map, q1]; rfl
      · rw [List.getElem?_map, List.getElem?_eq_getElem hi]; rfl
    · cases h
    · rename_i d hd1 hd2 hd
      cases h
      match us, hlen with
      | [u0], _ =>
        cases j with
        | zero =>
          cases hu; cases ht
          exact ⟨fuel, x, hr, hw⟩
        | succ j => simp at hu
    · cases h

theorem weightsAll_mem {e : TypeId} : ∀ {ds : List (DataW H)} {i : Nat} {d : DataW H}, ds[i]? = some d → ∀ m ∈ d.weights P e, m ∈ DataW.weightsAll P e ds
  | d0 :: ds, 0, d, h, m, hm => by
    cases h
    unfold DataW.weightsAll
    exact List.mem_append_left _ hm
  | d0 :: ds, i + 1, d, h, m, hm => by
    unfold DataW.weightsAll
    exact List.mem_append_right _ (weightsAll_mem (by simpa using h) m hm)

theorem open_cell : ∀ (n : Nat) {fuel : Nat} {t : TypeId} {u : Value} {x : DataW H × List MemPlace}, goodT P n t = true → DataW.trod enc P w base (fun _ => true) held fuel t [u] = some x → (∀ m ∈ x.1.weights P t, m ≤ reachBytes) →
    ∃ c, TypC P n t c ∧ RepI (memOf w) c u
  | 0, fuel, t, u, x, hg, _, _ => by simp [goodT] at hg
  | n + 1, 0, t, u, x, hg, h, _ => by simp [DataW.trod] at h
  | n + 1, fuel + 1, t, u, x, hg, h, hw => by
    unfold goodT at hg
    split at hg
    · rename_i ht
      unfold DataW.trod at h
      rw [ht] at h
      cases u <;> simp at h
      rename_i b
      exact ⟨.bool b, by unfold TypC; rw [ht]; exact ⟨b, rfl⟩, .bool b⟩
    · rename_i k ht
      unfold DataW.trod at h
      rw [ht] at h
      cases u <;> simp at h
      rename_i k' z
      obtain ⟨⟨rfl, hwf⟩, _⟩ := h
      exact ⟨.int k' z, by unfold TypC; rw [ht]; exact ⟨z, rfl, hwf⟩, .int k' z⟩
    · rename_i ht
      unfold DataW.trod at h
      rw [ht] at h
      cases u <;> simp at h
      rename_i s
      obtain ⟨_, rfl⟩ := h
      refine ⟨.str s, ?_, .str s⟩
      unfold TypC
      rw [ht]
      refine ⟨s, rfl, ?_⟩
      have := hw s.data.toList.length (by unfold DataW.weights; exact List.mem_singleton.2 rfl)
      rw [Array.length_toList] at this
      exact this
    · rename_i e ht
      simp only [Bool.and_eq_true, beq_iff_eq, decide_eq_true_eq] at hg
      obtain ⟨⟨hc1, hsz⟩, hg⟩ := hg
      split at hg
      · rename_i ts a hts hag
        simp only [Bool.and_eq_true, beq_iff_eq, Bool.or_eq_true, List.all_eq_true] at hg
        obtain ⟨⟨htl, hone⟩, hall⟩ := hg
        rcases DataW.trod_slice ht h with ⟨h0, _⟩ | ⟨ad, len, cap, elems, rest, m, hfu, hcs, hx, hb, hl, hm, hlen, hel, hsp, _⟩
        · cases h0
          exact ⟨.imm false (P.cellsOf e) [], by unfold TypC; rw [ht]; exact ⟨[], rfl, by simp, fun x hx => by cases hx⟩, .none0 false _ hsz⟩
        · simp only [List.cons.injEq, and_true] at hcs
          subst hcs
          have hwt : ∀ (y : Nat), y ∈ x.1.weights P t → y ≤ reachBytes := hw
          rw [hx] at hwt
          unfold DataW.weights at hwt
          rw [ht] at hwt
          dsimp only at hwt
          have hbytes : len * P.bytesOf e ≤ reachBytes := by
            have := hwt _ (List.mem_cons_self ..)
            rw [List.length_map, hlen, Nat.add_mul] at this
            omega
          -- each element, each of its cells
          have each : ∀ (i j : Nat), i < len → j < P.cellsOf e → ∃ c v t', ts[j]? = some t' ∧ TypC P n t' c ∧ w.cell? ((ad.add (i * P.cellsOf e)).add j) = some v ∧ RepI (memOf w) c v := by
            intro i j hi hj
            have hie : i < elems.length := by omega
            have hei := hel i hi
            rw [List.getElem?_eq_getElem hie] at hei
            obtain ⟨cs, hcs, htr⟩ := Option.bind_eq_some_iff.1 hei
            obtain ⟨hcl, hcg⟩ := cells_get hcs
            have hjc : j < cs.length := by omega
            have hjt : j < ts.length := by omega
            obtain ⟨fu, y, hy, hyw⟩ := flat_trod 20 hts htr (fun m hm => hwt m (List.mem_cons_of_mem _ (List.mem_append_left _ (weightsAll_mem (i := i) (by rw [List.getElem?_map, List.getElem?_eq_getElem hie]; rfl) m hm)))) (by omega) j _ _ (List.getElem?_eq_getElem hjc) (List.getElem?_eq_getElem hjt)
            obtain ⟨c, hc, hr⟩ := open_cell n (hall _ (List.getElem_mem hjt)) hy hyw
            exact ⟨c, _, _, List.getElem?_eq_getElem hjt, hc, hcg j _ (List.getElem?_eq_getElem hjc), hr⟩
          have hspot : ad.spot = none ∨ cap = 0 := by
            by_cases hcap : cap = 0
            · exact .inr hcap
            · left
              by_cases hl0 : len = 0
              · obtain ⟨hr1, hr2⟩ := hsp rfl
                have hr3 := hr2 0 (by omega)
                have : 0 < rest.length := by omega
                rw [List.getElem?_eq_getElem this] at hr3
                obtain ⟨cs, hcs, _⟩ := Option.bind_eq_some_iff.1 hr3
                obtain ⟨hcl, hcg⟩ := cells_get hcs
                have h0c : 0 < cs.length := by omega
                have := hcg 0 _ (List.getElem?_eq_getElem h0c)
                rw [hl0] at this
                simpa [Addr.add] using (memOf_cell this).1
              · obtain ⟨c, v, t', _, _, hcell, _⟩ := each 0 0 (by omega) hsz
                simpa [Addr.add] using (memOf_cell hcell).1
          classical
          let cf : Nat → Nat → V := fun i j => if h : i < len ∧ j < P.cellsOf e then Classical.choose (each i j h.1 h.2) else .undef
          let vf : Nat → Nat → Value := fun i j => if h : i < len ∧ j < P.cellsOf e then Classical.choose (Classical.choose_spec (each i j h.1 h.2)) else default
          have hcf : ∀ i j, i < len → j < P.cellsOf e → ∃ t', ts[j]? = some t' ∧ TypC P n t' (cf i j) ∧ w.cell? ((ad.add (i * P.cellsOf e)).add j) = some (vf i j) ∧ RepI (memOf w) (cf i j) (vf i j) := by
            intro i j hi hj
            have h := Classical.choose_spec (Classical.choose_spec (each i j hi hj))
            simp only [cf, vf, dif_pos (show i < len ∧ j < P.cellsOf e from ⟨hi, hj⟩)]
            exact h
          let mk : Nat → V := fun i => if a then .agg ((List.range (P.cellsOf e)).map (cf i)) else cf i 0
          have hmk : ∀ i, i < len → (mk i).cells = (List.range (P.cellsOf e)).map (cf i) := by
            intro i hi
            cases a with
            | true => rfl
            | false =>
              have h1 : P.cellsOf e = 1 := by
                rcases hone with h | h
                · cases h
                · rw [← htl, h]; rfl
              obtain ⟨t', _, ht', _⟩ := hcf i 0 hi (by omega)
              have := ht'.flat.2
              simp only [mk, Bool.false_eq_true, if_false, h1]
              generalize hg : cf i 0 = c at this
              have : c.cells = [c] := by cases c <;> first | rfl | cases this
              rw [this]
              simp [hg]
          refine ⟨.imm false (P.cellsOf e) ((List.range len).map mk), ?_, ?_⟩
          · unfold TypC
            rw [ht]
            refine ⟨_, rfl, by simpa using hbytes, fun x hx => ?_⟩
            obtain ⟨i, hi, rfl⟩ := List.mem_map.1 hx
            have hi := List.mem_range.1 hi
            unfold TypE
            rw [hag]
            cases a with
            | true =>
              refine ⟨ts, (List.range (P.cellsOf e)).map (cf i), hts, rfl, by simp [htl], fun j c t' hc ht' => ?_⟩
              have hj : j < P.cellsOf e := by have := (List.getElem?_eq_some_iff.1 hc).1; simpa using this
              obtain ⟨t2, ht2, hty, _⟩ := hcf i j hi hj
              rw [List.getElem?_map, List.getElem?_range hj] at hc
              cases hc
              rw [ht'] at ht2
              cases ht2
              exact hty
            | false =>
              have h1 : ts = [e] := by
                rcases hone with h | h
                · cases h
                · exact h
              obtain ⟨t2, ht2, hty, _⟩ := hcf i 0 hi hsz
              rw [h1] at ht2
              cases ht2
              exact hty
          · have hlenx : ((List.range len).map mk).length = len := by simp
            have hget : ∀ (i : Nat) (x : V) (j : Nat) (c : V), ((List.range len).map mk)[i]? = some x → x.cells[j]? = some c → i < len ∧ j < P.cellsOf e ∧ c = cf i j := by
              intro i x j c hx hc
              have hi : i < len := by have := (List.getElem?_eq_some_iff.1 hx).1; simpa using this
              rw [List.getElem?_map, List.getElem?_range hi] at hx
              cases hx
              rw [hmk i hi] at hc
              have hj : j < P.cellsOf e := by have := (List.getElem?_eq_some_iff.1 hc).1; simpa using this
              rw [List.getElem?_map, List.getElem?_range hj] at hc
              cases hc
              exact ⟨hi, hj, rfl⟩
            have hr := RepI.imm (m := memOf w) false ((List.range len).map mk) ad.block ad.off cap (P.cellsOf e) vf (by rw [hlenx]; exact hl) (fun h => by cases h) hm hsz
              (fun i x hx => by
                have hi : i < len := by have := (List.getElem?_eq_some_iff.1 hx).1; simpa using this
                rw [List.getElem?_map, List.getElem?_range hi] at hx
                cases hx
                rw [hmk i hi]; simp)
              (fun i x j c hx hc => by
                obtain ⟨hi, hj, rfl⟩ := hget i x j c hx hc
                obtain ⟨t', _, hty, hcell, _⟩ := hcf i j hi hj
                refine ⟨hty.flat.2, ?_⟩
                have hsn : ad.spot = none := by
                  rcases hspot with h | h
                  · exact h
                  · omega
                have hm2 := (memOf_cell hcell).2
                have hadd : (ad.add (i * P.cellsOf e)).add j = ⟨ad.block, ad.off + i * P.cellsOf e + j, none⟩ := by
                  obtain ⟨b, o, sp⟩ := ad
                  simp only at hsn
                  subst hsn
                  rw [addr_add, addr_add]
                rw [hadd] at hm2
                exact hm2)
              (fun i x j c hx hc => by
                obtain ⟨hi, hj, rfl⟩ := hget i x j c hx hc
                exact (hcf i j hi hj).choose_spec.2.2.2)
              ad.spot hspot
            rw [hlenx] at hr
            exact hr
      · cases hg
    · cases hg
end
end Go.Fw
/- What a law's arguments are (2): whole values; what a true law comes to. -/
namespace Go.Fw
open Go.RowKit Go.WideShapes

def goodV (P : Program) (n : Nat) (t : TypeId) : Bool := match flatT P 20 t, isAggT P t with
  | some ts, some a => ts.length == P.cellsOf t && (a || ts == [t]) && ts.all (goodT P n)
  | _, _ => false

theorem TypE.flat {P : Program} {n : Nat} {t : TypeId} {x : V} (h : TypE P (TypC P n) t x) : flat2 x = true := by
  have up : ∀ c, flat0 c = true → flat1 c = true := by
    intro c hc
    cases c <;> simp only [flat0, Bool.false_eq_true] at hc <;> try rfl
    rename_i f a b
    simp only [Bool.and_eq_true, List.isEmpty_iff] at hc
    obtain ⟨rfl, rfl⟩ := hc
    rfl
  unfold TypE at h
  split at h
  · obtain ⟨ts, cs, _, rfl, hl, hc⟩ := h
    simp only [flat2, List.all_eq_true]
    intro c hcm
    obtain ⟨j, hj, rfl⟩ := List.mem_iff_getElem.1 hcm
    have hjt : j < ts.length := by omega
    exact up _ (hc j _ _ (List.getElem?_eq_getElem hj) (List.getElem?_eq_getElem hjt)).flat.1
  · have := h.flat
    have h1 := up _ this.1
    cases x <;> first | exact h1 | (simp [isCell] at this; done)
  · exact h.elim

section
variable {H : Type} {enc : TypeId × Value → H} {P : Program} {w : World}

theorem open_val {n : Nat} {t : TypeId} {v : Value} {d : DataW H} {p : List MemPlace} {r : Reach} {base : Nat} (hg : goodV P n t = true) (hok : Value.okWide P w r base t v) (h : DataW.Trod enc P w 0 (fun _ => true) true t v d p) (hw : ∀ m ∈ d.weights P t, m ≤ reachBytes) :
    ∃ x, TypE P (TypC P n) t x ∧ RepI (memOf w) x v := by
  obtain ⟨fuel, h⟩ := h
  unfold goodV at hg
  split at hg
  · rename_i ts a hts hag
    simp only [Bool.and_eq_true, beq_iff_eq, Bool.or_eq_true, List.all_eq_true] at hg
    obtain ⟨⟨htl, hone⟩, hall⟩ := hg
    cases a with
    | true =>
      have hagg : ∃ cs, v = .agg cs ∧ cs.size = P.cellsOf t := by
        unfold Value.okWide at hok
        unfold isAggT at hag
        split at hok
        · obtain ⟨cs, h1, h2, _⟩ := hok; exact ⟨cs, h1, h2⟩
        · obtain ⟨cs, h1, h2, _⟩ := hok; exact ⟨cs, h1, h2⟩
        · rename_i h1 h2
          exfalso
          split at hag
          · rename_i fs hfs; exact h1 fs hfs
          · rename_i q1 q2 hfs; exact h2 q1 q2 hfs
          · cases hag
          · cases hag
      obtain ⟨cs, rfl, hsz⟩ := hagg
      have hlen : (Value.agg cs).cells.toList.length = ts.length := by simp [Value.cells, hsz, htl]
      have each : ∀ j (hj : j < cs.size), ∃ c t', ts[j]? = some t' ∧ TypC P n t' c ∧ RepI (memOf w) c cs[j] := by
        intro j hj
        have hjt : j < ts.length := by omega
        have hjc : (Value.agg cs).cells.toList[j]? = some cs[j] := by simp [Value.cells, hj]
        obtain ⟨fu, y, hy, hyw⟩ := flat_trod 20 hts h hw hlen j _ _ hjc (List.getElem?_eq_getElem hjt)
        obtain ⟨c, hc, hr⟩ := open_cell n (hall _ (List.getElem_mem hjt)) hy hyw
        exact ⟨c, _, List.getElem?_eq_getElem hjt, hc, hr⟩
      classical
      let cf : Nat → V := fun j => if h : j < cs.size then Classical.choose (each j h) else .undef
      have hcf : ∀ j (hj : j < cs.size), ∃ t', ts[j]? = some t' ∧ TypC P n t' (cf j) ∧ RepI (memOf w) (cf j) cs[j] := by
        intro j hj
        have := Classical.choose_spec (each j hj)
        simp only [cf, dif_pos hj]
        exact this
      refine ⟨.agg ((List.range cs.size).map cf), ?_, .agg _ cs (by simp) (fun j c hc => ?_) (fun j c hj hc => ?_)⟩
      · unfold TypE
        rw [hag]
        refine ⟨ts, _, hts, rfl, by simp [hsz, htl], fun j c t' hc ht' => ?_⟩
        have hj : j < cs.size := by have := (List.getElem?_eq_some_iff.1 hc).1; simpa using this
        rw [List.getElem?_map, List.getElem?_range hj] at hc
        cases hc
        obtain ⟨t2, ht2, hty, _⟩ := hcf j hj
        rw [ht'] at ht2; cases ht2
        exact hty
      · have hj : j < cs.size := by have := (List.getElem?_eq_some_iff.1 hc).1; simpa using this
        rw [List.getElem?_map, List.getElem?_range hj] at hc
        cases hc
        obtain ⟨t2, _, hty, _⟩ := hcf j hj
        exact hty.flat.2
      · rw [List.getElem?_map, List.getElem?_range hj] at hc
        cases hc
        obtain ⟨t2, _, _, hr⟩ := hcf j hj
        exact hr
    | false =>
      have h1 : ts = [t] := by
        rcases hone with h | h
        · cases h
        · exact h
      subst h1
      have hgt := hall t (by simp)
      have hcell : v.cells.toList = [v] := by
        cases n with
        | zero => simp [goodT] at hgt
        | succ n =>
          unfold goodT at hgt
          split at hgt
          · rename_i ht
            simp only [Value.okWide, ht, Cell.okWide] at hok
            cases v <;> first | rfl | simp_all [Cell.ok]
          · rename_i k ht
            obtain ⟨z, rfl⟩ := okWide_int ht hok; rfl
          · rename_i ht
            obtain ⟨z, rfl⟩ := okWide_string ht hok; rfl
          · rename_i e ht
            obtain ⟨a, l, c, rfl⟩ := okWide_slice ht hok; rfl
          · cases hgt
      rw [hcell] at h
      obtain ⟨c, hc, hr⟩ := open_cell n hgt h hw
      refine ⟨c, ?_, hr⟩
      unfold TypE
      rw [hag]
      exact hc
  · cases hg
end

/-- A call that the evaluator knows to return true. -/
theorem calls_true {C : Cx} {n : Nat} {f : FuncId} {vs : List V} {us : Array Value} {w : World} {h : List Blk} (hs : VbSound C (vcall C n)) (ha : ArgsI (memOf w) vs us) (hf : vs.all flat2 = true) (hv : vcall C n f vs [] = some (.ret (.bool true) h)) :
    Calls C.P f us w fun e w' => e = .returned (.bool true) ∧ Below w.heap.size w w' := by
  have := hs.pure_ f vs _ hv hf 0 us w (memOf w) (memOf_ok w) ha
  rw [callsIn_wide] at this
  refine this.mono (fun e w' he => ?_)
  obtain ⟨g', ⟨u, rfl, hr⟩, _, hb, _⟩ := he
  have : u = .bool true := by simp only [RepS, RepA, RepC] at hr; cases hr; rfl
  exact ⟨by rw [this], hb⟩
theorem calls_sp {C : Cx} {f : FuncId} {vs : List V} {us : Array Value} {w : World} (h : Sp C f vs (.bool true)) (ha : ArgsI (memOf w) vs us) :
    Calls C.P f us w fun e w' => e = .returned (.bool true) ∧ Below w.heap.size w w' := by
  have := h.run 0 us w (memOf w) (memOf_ok w) ha
  rw [callsIn_wide] at this
  refine this.mono (fun e w' he => ?_)
  obtain ⟨g', ⟨u, rfl, hr⟩, _, hb, _⟩ := he
  have : u = .bool true := by simp only [RepS, RepA, RepC] at hr; cases hr; rfl
  exact ⟨by rw [this], hb⟩
end Go.Fw
/- Small laws of cells, for the proofs of what trees ask. -/
namespace Go.Fw

@[simp] theorem cells_int (k : IntKind) (n : Int) : (V.int k n).cells = [V.int k n] := rfl
@[simp] theorem cells_bool (b : Bool) : (V.bool b).cells = [V.bool b] := rfl
@[simp] theorem cells_str (s : ByteArray) : (V.str s).cells = [V.str s] := rfl
@[simp] theorem cells_agg (vs : List V) : (V.agg vs).cells = vs := rfl
@[simp] theorem flat1_int (k : IntKind) (n : Int) : flat1 (V.int k n) = true := rfl
@[simp] theorem flat1_bool (b : Bool) : flat1 (V.bool b) = true := rfl
@[simp] theorem flat1_str (s : ByteArray) : flat1 (V.str s) = true := rfl
@[simp] theorem flat1_imm (f : Bool) (n : Nat) (xs : List V) : flat1 (V.imm f n xs) = true := rfl
@[simp] theorem demote_int (k : IntKind) (n : Int) : demote1 (V.int k n) = V.int k n := rfl
@[simp] theorem demote_bool (b : Bool) : demote1 (V.bool b) = V.bool b := rfl
@[simp] theorem demote_str (s : ByteArray) : demote1 (V.str s) = V.str s := rfl
@[simp] theorem demote_imm (f : Bool) (n : Nat) (xs : List V) : demote1 (V.imm f n xs) = V.imm f n xs := rfl
@[simp] theorem isLin1_int (k : IntKind) (n : Int) : isLin1 (V.int k n) = false := rfl
@[simp] theorem isLin1_bool (b : Bool) : isLin1 (V.bool b) = false := rfl
@[simp] theorem isLin1_str (s : ByteArray) : isLin1 (V.str s) = false := rfl
@[simp] theorem isLin1_imm (f : Bool) (n : Nat) (xs : List V) : isLin1 (V.imm f n xs) = false := rfl
theorem flatMap_one {α : Type} (f : α → V) (h : ∀ x, (f x).cells = [f x]) (xs : List α) : (xs.map f).flatMap V.cells = xs.map f := by
  induction xs with
  | nil => rfl
  | cons x xs ih => simp only [List.map_cons, List.flatMap_cons, h, ih]; rfl
theorem flatMap_int (k : IntKind) (xs : List Int) : (xs.map (V.int k)).flatMap V.cells = xs.map (V.int k) := flatMap_one _ (fun _ => rfl) xs
theorem flatMap_bool (xs : List Bool) : (xs.map V.bool).flatMap V.cells = xs.map V.bool := flatMap_one _ (fun _ => rfl) xs
theorem flatten_one (n : Nat) (v : V) : (List.replicate n [v]).flatten = List.replicate n v := by
  induction n with
  | zero => rfl
  | succ n ih => rw [List.replicate_succ, List.flatten_cons, ih]; rfl
theorem flatten_int (n : Nat) (k : IntKind) (x : Int) : (List.replicate n [V.int k x]).flatten = (List.replicate n x).map (V.int k) := by rw [flatten_one, List.map_replicate]
theorem flatten_bool (n : Nat) (x : Bool) : (List.replicate n [V.bool x]).flatten = (List.replicate n x).map V.bool := by rw [flatten_one, List.map_replicate]
theorem app_int (k : IntKind) (xs : List Int) (x : Int) : xs.map (V.int k) ++ [V.int k x] = (xs ++ [x]).map (V.int k) := by simp
theorem app_bool (xs : List Bool) (x : Bool) : xs.map V.bool ++ [V.bool x] = (xs ++ [x]).map V.bool := by simp
theorem app2_int (k : IntKind) (xs ys : List Int) : xs.map (V.int k) ++ ys.map (V.int k) = (xs ++ ys).map (V.int k) := by simp
theorem set_int (k : IntKind) (xs : List Int) (i : Nat) (x : Int) : setAt (xs.map (V.int k)) i [V.int k x] = (xs.set i x).map (V.int k) := by simp [setAt, List.map_set]
theorem set_bool (xs : List Bool) (i : Nat) (x : Bool) : setAt (xs.map V.bool) i [V.bool x] = (xs.set i x).map V.bool := by simp [setAt, List.map_set]
theorem flat_map {α : Type} (f : α → V) (h : ∀ x, flat1 (f x) = true) (xs : List α) (o n : Nat) : (((xs.map f).drop o).take n).all flat1 = true := by
  rw [List.all_eq_true]
  intro x hx
  obtain ⟨y, _, rfl⟩ := List.mem_map.1 (List.mem_of_mem_drop (List.mem_of_mem_take hx))
  exact h y
theorem nolin_map {α : Type} (f : α → V) (h : ∀ x, isLin1 (f x) = false) {xs : List α} {o n : Nat} : (((xs.map f).drop o).take n).any isLin1 = false := by
  rw [List.any_eq_false]
  intro x hx
  obtain ⟨y, _, rfl⟩ := List.mem_map.1 (List.mem_of_mem_drop (List.mem_of_mem_take hx))
  simp [h y]
/-- A whole array is let out. -/
theorem esc_all {α : Type} (f : α → V) (h : ∀ x, flat1 (f x) = true) {xs : List α} {n : Nat} (hn : n = xs.length) : (decide (0 + n ≤ (xs.map f).length) && (((xs.map f).drop 0).take n).all flat1) = true := by
  rw [flat_map f h, hn]; simp
@[simp] theorem setAt_nil (cs : List V) (o : Nat) : setAt cs o [] = cs := rfl
@[simp] theorem setAt_cons (cs : List V) (o : Nat) (v : V) (vs : List V) : setAt cs o (v :: vs) = setAt (cs.set o v) (o + 1) vs := rfl
@[simp] theorem setAt_length (cs : List V) : ∀ (vs : List V) (o : Nat), (setAt cs o vs).length = cs.length := by
  intro vs
  induction vs generalizing cs with
  | nil => intro o; rfl
  | cons v vs ih => intro o; simp [ih]
@[simp] theorem ofCells_one (v : V) : ofCells false [v] = some v := rfl
@[simp] theorem ofCells_agg (cs : List V) : ofCells true cs = some (.agg cs) := rfl

theorem take_one_drop {α : Type} {xs : List α} {k : Nat} {x : α} (h : xs[k]? = some x) : (xs.drop k).take 1 = [x] := by
  have hlt := (List.getElem?_eq_some_iff.1 h).1
  rw [List.take_one, List.head?_drop, h]
  rfl
/-- An element of an array of one-cell values. -/
theorem own_get {α : Type} (f : α → V) (hd : ∀ x, demote1 (f x) = f x) {xs : List α} {k o : Nat} {x : α} (h : xs[k]? = some x) (ho : o = k) : ofCells false ((((xs.map f).drop o).take 1).map demote1) = some (f x) := by
  subst ho
  rw [← List.map_drop, ← List.map_take, take_one_drop h]
  simp [hd]
theorem idx_map {α β : Type} (f : α → β) {xs : List α} {k : Nat} {x : α} (h : xs[k]? = some x) : idx (xs.map f) (k : Int) = some (f x) := by
  unfold idx
  rw [if_pos (by omega), Int.toNat_natCast, List.getElem?_map, h]
  rfl

theorem idx_map0 {α β : Type} (f : α → β) {xs : List α} {x : α} (h : xs[0]? = some x) : idx (xs.map f) 0 = some (f x) := idx_map f (k := 0) h
theorem idx_map1 {α β : Type} (f : α → β) {xs : List α} {x : α} (h : xs[1]? = some x) : idx (xs.map f) 1 = some (f x) := idx_map f (k := 1) h
theorem idx_map2 {α β : Type} (f : α → β) {xs : List α} {x : α} (h : xs[2]? = some x) : idx (xs.map f) 2 = some (f x) := idx_map f (k := 2) h

theorem setAt_eq (vs cs : List V) (o : Nat) (h : o + vs.length ≤ cs.length) : setAt cs o vs = cs.take o ++ vs ++ cs.drop (o + vs.length) :=
  List.ext_getElem? (fun j => by rw [getElem?_setAt _ _ _ _ h, splice_get _ _ _ _ h])

/-! ### whole numbers -/
theorem max_cast (a b : Nat) : max (a : Int) (b : Int) = ((max a b : Nat) : Int) := by omega
theorem wrap_i64 (x : Int) (h1 : -9223372036854775808 ≤ x) (h2 : x ≤ 9223372036854775807) : IntKind.wrap .i64 x = x := by
  have e : IntKind.wrap .i64 x = if x % 18446744073709551616 ≥ 9223372036854775808 then x % 18446744073709551616 - 18446744073709551616 else x % 18446744073709551616 := by
    unfold IntKind.wrap IntKind.bits IntKind.signed
    simp
  rw [e]
  split <;> omega
theorem wrap_i32 (x : Int) (h1 : -2147483648 ≤ x) (h2 : x ≤ 2147483647) : IntKind.wrap .i32 x = x := by
  have e : IntKind.wrap .i32 x = if x % 4294967296 ≥ 2147483648 then x % 4294967296 - 4294967296 else x % 4294967296 := by
    unfold IntKind.wrap IntKind.bits IntKind.signed
    simp
  rw [e]
  split <;> omega
theorem wrap_u64 (x : Int) (h1 : 0 ≤ x) (h2 : x ≤ 18446744073709551615) : IntKind.wrap .u64 x = x := by
  simp only [IntKind.wrap, IntKind.bits, IntKind.signed, Bool.false_and, Bool.false_eq_true, if_false]
  omega
theorem wrap_u32 (x : Int) (h1 : 0 ≤ x) (h2 : x ≤ 4294967295) : IntKind.wrap .u32 x = x := by
  simp only [IntKind.wrap, IntKind.bits, IntKind.signed, Bool.false_and, Bool.false_eq_true, if_false]
  omega
theorem wrap_u8 (x : Int) (h1 : 0 ≤ x) (h2 : x ≤ 255) : IntKind.wrap .u8 x = x := by
  simp only [IntKind.wrap, IntKind.bits, IntKind.signed, Bool.false_and, Bool.false_eq_true, if_false]
  omega
theorem cast_succ (i : Nat) : ((i : Int) + 1) = ((i + 1 : Nat) : Int) := rfl

/-! ### states of loops -/
def mkFr : Nat → Nat → List (Nat × V) → List V
  | 0, _, _ => []
  | n + 1, i, [] => .undef :: mkFr n (i + 1) []
  | n + 1, i, (j, v) :: r => match i == j with
    | true => v :: mkFr n (i + 1) r
    | false => .undef :: mkFr n (i + 1) ((j, v) :: r)
/-- A state of 'n' slots; those named hold what is named. -/
abbrev mkSt (n : Nat) (live : List (Nat × V)) (h : List Blk) : St := ⟨mkFr n 0 live, h⟩
abbrev keeps (l : List Nat) : List (Nat × Fm) := l.map fun i => (i, .of .keep)

/-- A row that is filled from a place on. -/
def fillGo {α : Type} (f : Nat → α) : Nat → Nat → List α → List α
  | 0, _, os => os
  | k + 1, i, os => fillGo f k (i + 1) (os.set i (f i))
theorem fillGo_length {α : Type} (f : Nat → α) : ∀ (k i : Nat) (os : List α), (fillGo f k i os).length = os.length
  | 0, _, _ => rfl
  | k + 1, i, os => by rw [fillGo, fillGo_length f k]; simp
theorem fillGo_at {α : Type} (f : Nat → α) : ∀ (k i : Nat) (os : List α) (j : Nat), i + k ≤ os.length → (fillGo f k i os)[j]? = if i ≤ j ∧ j < i + k then some (f j) else os[j]?
  | 0, i, os, j, _ => by rw [fillGo, if_neg (by omega)]
  | k + 1, i, os, j, h => by
    rw [fillGo, fillGo_at f k (i + 1) _ j (by simp; omega)]
    by_cases hj : j = i
    · subst hj
      rw [if_neg (by omega), if_pos (by omega), List.getElem?_set_self (by omega)]
    · rw [List.getElem?_set_ne (fun e => hj e.symm)]
      by_cases h1 : i ≤ j ∧ j < i + (k + 1)
      · rw [if_pos h1, if_pos (by omega)]
      · rw [if_neg h1, if_neg (by omega)]
theorem fillGo_all {α : Type} (f : Nat → α) (os : List α) : fillGo f os.length 0 os = (List.range os.length).map f := by
  apply List.ext_getElem?
  intro j
  rw [fillGo_at f _ _ _ _ (by omega)]
  by_cases h : j < os.length
  · rw [if_pos (by omega), List.getElem?_map, List.getElem?_range h]; rfl
  · rw [if_neg (by omega), List.getElem?_eq_none (by omega), List.getElem?_eq_none (by simp; omega)]
end Go.Fw
