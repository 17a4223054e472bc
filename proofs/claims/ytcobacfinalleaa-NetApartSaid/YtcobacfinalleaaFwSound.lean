/- A call of a function of the program: what its evaluation says is so. -/
import Derived.Test.YtcobacfinalleaaFwFinal
set_option linter.all false
namespace Go.Fw
open Go.RowKit

theorem one_lin {vs : List V} (h : ∀ v ∈ vs, isLin2 v = false ∧ okV v = true) : isLin3 (one vs) = false := by
  unfold one
  split
  · rename_i v
    obtain ⟨h1, h2⟩ := h v (by simp)
    cases v <;> first | exact h1 | cases h2
  · simp only [isLin3]
    rw [List.any_eq_false]
    intro x hx
    simp [(h x hx).1]

section
variable {C : Cx} {B τ : Nat} {g : Gh} {st : St} {a : Act} {w : World}

theorem final_heap (hR : R B τ g st a w) {ex : Ex} {e : Exit} (he : ExIs g τ ex e) {fn : Func} {out : FOut} (h : vfinal C fn false ex st = some out) :
    bodyPost C.P fn (fun e w' => w' = w ∧ OutIs g out e ∧ out.plain ∧ out.heap = st.h) e a w := by
  have key : ∀ (h : (bindO (optAll (resultV C st) fn.results.toList) fun vs =>
    if false then (if distinct (fn.results.toList.map (resultKey st)) then bindO (optAll (escape2 C.P st.h) vs) fun vs => some (FOut.ret (one vs) []) else none)
    else condB (vs.all fun v => !isLin2 v && okV v) (some (.ret (one vs) st.h)) none) = some out), a.defers = [] ∧ ∃ v, (results fn a.tmps).run C.P w = .ok v w ∧ (w = w ∧ OutIs g out (.returned v) ∧ out.plain ∧ out.heap = st.h) := by
    intro h
    obtain ⟨vs, hvs, h⟩ := bindO_eq h
    rw [if_neg (by simp)] at h
    rcases condB_cases h with ⟨hall, h⟩ | ⟨_, h⟩
    · cases h
      rw [List.all_eq_true] at hall
      have hall : ∀ v ∈ vs, isLin2 v = false ∧ okV v = true := fun v hv => by have := hall v hv; simpa using this
      obtain ⟨l1, a1⟩ := optAll_eq hvs
      have hex : ∀ (j : Nat) (rv : ResultVar), fn.results.toList[j]? = some rv → ∃ u v, vs[j]? = some v ∧ (resRun a.tmps rv).run C.P w = .ok u w ∧ ((∀ vs, v ≠ .tup vs) → RepA g (srcPl τ st.fr rv) v u) := by
        intro j rv hj
        have hlt : j < vs.length := by rw [← l1]; exact (List.getElem?_eq_some_iff.1 hj).1
        have hv := List.getElem?_eq_getElem hlt
        obtain ⟨u, h1, h2, h3⟩ := result_sound hR (a1 j rv _ hj hv)
        exact ⟨u, _, hv, h1, h2⟩
      obtain ⟨us, hul, hus⟩ : ∃ us : List Value, us.length = fn.results.toList.length ∧ ∀ (j : Nat) (rv : ResultVar) (u : Value), fn.results.toList[j]? = some rv → us[j]? = some u → ∃ v, vs[j]? = some v ∧ (resRun a.tmps rv).run C.P w = .ok u w ∧ ((∀ vs, v ≠ .tup vs) → RepA g (srcPl τ st.fr rv) v u) := by
        classical
        refine ⟨(List.range fn.results.toList.length).map fun j => if h : ∃ rv, fn.results.toList[j]? = some rv then Classical.choose (hex j _ (Classical.choose_spec h)) else undef, by simp, fun j rv u hj hu => ?_⟩
        rw [List.getElem?_map, List.getElem?_range (List.getElem?_eq_some_iff.1 hj).1] at hu
        simp only [Option.map_some, Option.some.injEq] at hu
        have hE : ∃ rv, fn.results.toList[j]? = some rv := ⟨rv, hj⟩
        rw [dif_pos hE] at hu
        have hsp := Classical.choose_spec (hex j _ (Classical.choose_spec hE))
        rw [hu] at hsp
        have hrv : Classical.choose hE = rv := by
          exact (Option.some.inj (hj.symm.trans (Classical.choose_spec hE))).symm
        rw [hrv] at hsp
        exact hsp
      refine ⟨hR.defers, oneU us, run_results hul.symm (fun j rv u hj hu => by obtain ⟨v, _, h1, _⟩ := hus j rv u hj hu; exact h1), rfl, ⟨_, rfl, ?_⟩, one_lin hall, rfl⟩
      have hnt : ∀ v ∈ vs, ∀ ws, v ≠ .tup ws := fun v hv ws e => by have := (hall v hv).2; rw [e] at this; cases this
      refine repA_oneS (by omega) (fun i v' hv' => hnt v' (List.mem_of_getElem? hv')) (fun i v' u hv' hu => ?_)
      have hi : i < fn.results.toList.length := by have := (List.getElem?_eq_some_iff.1 hv').1; omega
      obtain ⟨v2, hv2, _, hr⟩ := hus i _ u (List.getElem?_eq_getElem hi) hu
      rw [hv'] at hv2
      cases hv2
      exact RepA.any (hall v' (List.mem_of_getElem? hv')).1 (hr (hnt v' (List.mem_of_getElem? hv')))
    · cases h
  cases ex <;> cases e <;> first | exact he.elim | skip
  · exact key h
  · cases h
  · exact key h
  · rename_i v ch
    obtain ⟨u, d, rfl, hnl, hv⟩ := he
    cases h
    exact ⟨hR.defers, rfl, ⟨u, rfl, hnl, hv.any hnl⟩, trivial, rfl⟩

/-- The frame that a call begins with. -/
theorem args_R {args : List V} {us : Array Value} {n : Nat} {h : List Blk} (hl : args.length = us.size) (hs : ∀ (j : Nat) (c : V) (hj : j < us.size), args[j]? = some c → RepS g τ j c us[j]) (hh : HeapOk g h B w) (hm : MemOk g.mem w) (hn : LinOk g B w) (hb : B ≤ w.heap.size) :
    R B τ g ⟨args ++ List.replicate (n - args.length) .undef, h⟩ { tmps := us ++ Array.replicate (n - us.size) undef, defers := [] } w := by
  refine ⟨by simp [hl], fun i v hi hv => ?_, hh, hm, hn, hb, rfl⟩
  by_cases hu : i < us.size
  · rw [List.getElem?_append_left (by rw [hl]; exact hu)] at hv
    have := hs i v hu hv
    simpa [Array.getElem_append, hu] using this
  · rw [List.getElem?_append_right (by omega)] at hv
    obtain ⟨rfl, _⟩ := repl_get hv
    exact trivial

theorem free_tau (hL : LinOk g B w) : ∃ τ, ∀ b i, g.lin b = some i → ∀ τ' x j k, i.place = .slot τ' x j k → τ' ≠ τ := by
  have key : ∀ N, ∃ τ, ∀ b, b < N → ∀ i, g.lin b = some i → ∀ τ' x j k, i.place = .slot τ' x j k → τ' < τ := by
    intro N
    induction N with
    | zero => exact ⟨0, fun b hb => absurd hb (by omega)⟩
    | succ N ih =>
      obtain ⟨τ, hτ⟩ := ih
      cases hl : g.lin N with
      | none => exact ⟨τ, fun b hb i hi τ' x j k hp => by
          by_cases e : b = N
          · subst e; rw [hl] at hi; cases hi
          · exact hτ b (by omega) i hi τ' x j k hp⟩
      | some i0 =>
        refine ⟨max τ (match i0.place with | .slot t _ _ _ => t + 1 | _ => 0), fun b hb i hi τ' x j k hp => ?_⟩
        by_cases e : b = N
        · subst e
          rw [hl] at hi; cases hi
          rw [hp]
          dsimp only
          omega
        · have := hτ b (by omega) i hi τ' x j k hp
          omega
  obtain ⟨τ, hτ⟩ := key w.heap.size
  refine ⟨τ, fun b i hi τ' x j k hp => ?_⟩
  obtain ⟨_, ⟨cur, h2, _⟩, _⟩ := hL.at_ b i hi
  have := hτ b (Array.getElem?_eq_some_iff.1 h2).1 i hi τ' x j k hp
  omega
end

theorem CallsIn.ofBody {P : Program} {f : FuncId} {fn : Func} {c : Code} {n : Nat} {us : Array Value} {w : World} {T : Ending → World → Prop} (hf : P.funcs[f]? = some fn) (hb : fn.body = some c)
    (h : c.wpIn (FW none) n P (bodyPost P fn T) { tmps := us ++ Array.replicate (fn.ntmps - us.size) undef, defers := [] } w) : CallsIn Fence.wide n P f us w T :=
  callsIn_of_wp (F := Fence.wide) hf hb trivial h

theorem vcall_sound (C : Cx) (hD : ∀ f fn c, C.P.funcs[f]? = some fn → fn.body = some c → ∀ p ∈ drawRegs c, DrawSound C f p.1 p.2) : ∀ n, VbSound C (vcall C n)
  | 0 => ⟨fun _ _ _ _ h => (by cases h), fun _ _ _ h => (by cases h), fun _ _ _ _ h => (by cases h)⟩
  | n + 1 => by
    have ih := vcall_sound C hD n
    have open_ : ∀ f args h out, vcall C (n + 1) f args h = some out → ∃ fn c, C.P.funcs[f]? = some fn ∧ fn.body = some c ∧ (fn.name == "runtime.NumGoroutine") = false ∧
        vexec C (vcall C n) f (n + 1) c ⟨args ++ List.replicate (fn.ntmps - args.length) .undef, h⟩ (vfinal C fn (args.all flat2)) = some out := by
      intro f args h out hv
      unfold vcall at hv
      split at hv
      · rename_i fn hfn
        split at hv
        · rename_i c hc
          split at hv
          · cases hv
          · rename_i hnn
            exact ⟨fn, c, hfn, hc, by simpa using hnn, hv⟩
        · cases hv
      · cases hv
    refine ⟨fun f args h out hv => ?_, fun f args out hv hflat k us w m hm ha => ?_, fun f args h out hv hflat k us w B g hh hm hl hb ha => ?_⟩
    · obtain ⟨fn, c, h1, h2, h3, _⟩ := open_ f args h out hv
      exact ⟨fn, c, h1, h2, h3⟩
    · obtain ⟨fn, c, h1, h2, h3, hv⟩ := open_ f args [] out hv
      rw [hflat] at hv
      let g : Gh := ⟨m, fun _ => none, fun _ => none⟩
      have hR : R w.heap.size 0 g ⟨args ++ List.replicate (fn.ntmps - args.length) .undef, []⟩ { tmps := us ++ Array.replicate (fn.ntmps - us.size) undef, defers := [] } w := by
        refine args_R ha.1 (fun j c hj hc => ?_) ⟨fun _ _ h => (by cases h), fun _ _ _ h => (by cases h), fun _ _ h => (by cases h), fun _ _ _ _ h => (by cases h)⟩ hm ⟨fun _ _ h => (by cases h)⟩ (Nat.le_refl _)
        rw [List.all_eq_true] at hflat
        exact flat2_repS (hflat c (List.mem_of_getElem? hc)) (ha.2 j c hj hc)
      refine CallsIn.ofBody h1 h2 (vexec_sound ih (n + 1) c _ _ out (hD f fn c h1 h2) hv g _ w _ hR (fun e st' g' e' a' w' l1 R1 hx hK => ?_))
      have hfin := final_pure R1 hx hK
      have conv : ∀ en w2, EndOf g' w.heap.size w' out en w2 → PureOut m w out en w2 := by
        rintro en w2 ⟨rfl, g2, k1, k2, k3, k4, k5, k6⟩
        exact ⟨g2, k1, k2, l1.below, l1.mem.trans k3, fun b hb => (k4 b hb).trans (l1.old b hb), k5, k6⟩
      cases e' with
      | normal => obtain ⟨q1, v, q2, q3⟩ := hfin; exact ⟨q1, v, q2, conv _ _ q3⟩
      | ret => obtain ⟨q1, v, q2, q3⟩ := hfin; exact ⟨q1, v, q2, conv _ _ q3⟩
      | panic ch => obtain ⟨q1, q3⟩ := hfin; exact ⟨q1, conv _ _ q3⟩
      | outgrown => exact conv _ _ hfin
      | exit i => exact hfin.elim
      | goto l => exact hfin.elim
    · obtain ⟨fn, c, h1, h2, h3, hv⟩ := open_ f args h out hv
      rw [hflat] at hv
      obtain ⟨τ, hτ⟩ := free_tau hl
      have hR : R B τ g ⟨args ++ List.replicate (fn.ntmps - args.length) .undef, h⟩ { tmps := us ++ Array.replicate (fn.ntmps - us.size) undef, defers := [] } w :=
        args_R ha.1 (fun j c hj hc => (ha.2 j c hj hc).2 τ j) hh hm hl hb
      refine CallsIn.ofBody h1 h2 (vexec_sound ih (n + 1) c _ _ out (hD f fn c h1 h2) hv g _ w _ hR (fun e st' g' e' a' w' l1 R1 hx hK => ?_))
      have hfin := final_heap R1 hx hK
      have conv : ∀ en w2, (w2 = w' ∧ OutIs g' out en ∧ out.plain ∧ out.heap = st'.h) → HeapOut B g w out en w2 := by
        rintro en w2 ⟨rfl, k1, k2, k3⟩
        refine ⟨g', k1, k2, l1.below, l1.mem, l1.old, l1.loc, fun b i hi ⟨τ', x, j, k, hp⟩ => l1.lin b i hi ⟨τ', x, j, k, hp, hτ b i hi τ' x j k hp⟩, ?_, R1.mem, R1.lin⟩
        rw [k3]; exact R1.heap
      cases e' with
      | normal => obtain ⟨q1, v, q2, q3⟩ := hfin; exact ⟨q1, v, q2, conv _ _ q3⟩
      | ret => obtain ⟨q1, v, q2, q3⟩ := hfin; exact ⟨q1, v, q2, conv _ _ q3⟩
      | panic ch => obtain ⟨q1, q3⟩ := hfin; exact ⟨q1, conv _ _ q3⟩
      | outgrown => exact conv _ _ hfin
      | exit i => exact hfin.elim
      | goto l => exact hfin.elim
end Go.Fw
