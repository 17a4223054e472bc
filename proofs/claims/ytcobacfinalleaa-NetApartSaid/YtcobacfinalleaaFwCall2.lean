/- Calls (2): the operation. -/
import Derived.Test.YtcobacfinalleaaFwCall
set_option linter.all false
namespace Go.Fw
open Go.RowKit

def Al (T : V → Value → Prop) (vs : List V) (us : List Value) : Prop := vs.length = us.length ∧ ∀ (j : Nat) (c : V) (u : Value), vs[j]? = some c → us[j]? = some u → T c u
theorem Al.append {T : V → Value → Prop} {vs vs' : List V} {us us' : List Value} (h : Al T vs us) (k : Al T vs' us') : Al T (vs ++ vs') (us ++ us') := by
  refine ⟨by rw [List.length_append, List.length_append, h.1, k.1], fun j c u hc hu => ?_⟩
  by_cases hj : j < vs.length
  · rw [List.getElem?_append_left hj] at hc
    rw [List.getElem?_append_left (by rw [← h.1]; exact hj)] at hu
    exact h.2 j c u hc hu
  · rw [List.getElem?_append_right (by omega)] at hc
    rw [List.getElem?_append_right (by rw [← h.1]; omega), ← h.1] at hu
    exact k.2 _ c u hc hu
theorem Al.argsI {m : Mem} {vs : List V} {us : List Value} (h : Al (RepI m) vs us) : ArgsI m vs us.toArray :=
  ⟨by simpa using h.1, fun j c hj hc => h.2 j c _ hc (by simpa using List.getElem?_eq_getElem (by simpa using hj))⟩
theorem Al.argsS {g : Gh} {vs : List V} {us : List Value} (h : Al (fun c u => isLin3 c = false ∧ ∀ τ d, RepS g τ d c u) vs us) : ArgsS g vs us.toArray :=
  ⟨by simpa using h.1, fun j c hj hc => h.2 j c _ hc (by simpa using List.getElem?_eq_getElem (by simpa using hj))⟩
theorem Al.mono {T T' : V → Value → Prop} {vs : List V} {us : List Value} (h : Al T vs us) (k : ∀ c u, c ∈ vs → T c u → T' c u) : Al T' vs us :=
  ⟨h.1, fun j c u hc hu => k c u (List.mem_of_getElem? hc) (h.2 j c u hc hu)⟩

theorem repP_repS {g : Gh} {τ d : Nat} {v : V} {u : Value} (h : RepP g v u) : isLin3 v = false ∧ RepS g τ d v u := by
  cases v <;> try exact ⟨rfl, h⟩
  case undef => exact ⟨rfl, trivial⟩
  case own => cases h
  case lin => cases h
  case agg vs =>
    cases h with
    | agg _ cs hn hs hv =>
      refine ⟨?_, cs, rfl, hn, fun j c hj hc => cell_flat (hs j c hc) (hv j c hj hc)⟩
      simp only [isLin3, isLin2]
      rw [List.any_eq_false]
      intro x hx
      obtain ⟨j, hj, rfl⟩ := List.mem_iff_getElem.1 hx
      have := hv j _ (by rw [← hn]; exact hj) (List.getElem?_eq_getElem hj)
      intro hl
      generalize vs[j] = y at this hl
      cases y <;> simp [isLin1] at hl
      cases this
  case tup => cases h
  case fn f a c => exact ⟨rfl, cell_flat (p := .slot τ d 0 0) rfl h⟩

section
variable {C : Cx} {vb : FuncId → List V → List Blk → Option FOut} {f : FuncId} {ρ : Option Nat} {n : Nat} {o : Oper} {st : St} {α : Type} {k kp : V → St → Option α} {out : α}
  {B τ : Nat} {g : Gh} {a : Act} {w : World} {next : Act → World → Prop} {Q : Exit → Act → World → Prop}

def Pans {α : Type} (B τ : Nat) (g : Gh) (a : Act) (w : World) (kp : V → St → Option α) (out : α) (Q : Exit → Act → World → Prop) : Prop :=
  ∀ v st' g' u w' d, Later B τ g g' w w' → R B τ g' st' a w' → isLin3 v = false → RepS g' τ d v u → kp v st' = some out → Q (.panic [{ v := u, recovered := false }]) a w'

theorem getS_free {fr : List V} {d : Nat} (h : isLin3 (getS fr d) = false) : ∀ v, fr[d]? = some v → isLin3 v = false := fun v hv => by rw [getS_eq hv] at h; exact h

theorem wp_enter {fn : Func} {c : Code} {gf : FuncId} {us : Array Value} {w' : World} (hd : ∀ c, o.op ≠ .defer c) (h : (execOp a.eval o).run C.P w = .ok (.enter gf us) w') {T : Ending → World → Prop} (hc : ∀ n, CallsIn Fence.wide n C.P gf us w' T)
    (hT : ∀ e w'', T e w'' → match e with | .returned v => next (a.put o.dst v) w'' | .panicked ch => Q (.panic ch) a w'' | .outgrown => False) : o.wpIn (FW ρ) n C.P a w next Q := by
  refine ⟨fun _ _ => trivial, ?_⟩
  rw [Oper.semAt_eq _ _ _ hd, h, Oper.uponIn_enter]
  refine ⟨fun h => (by simp [FW, Fence.wide] at h), ?_⟩
  refine CallsIn.mono (R := T) (hc (n - 1)) (fun e w'' he => ?_)
  have := hT e w'' he
  cases e with
  | returned v => exact this
  | panicked ch => exact this
  | outgrown => exact this.elim

theorem run_call {P : Program} {ρ' : Operand → Value} {c : Call} {g0 : Operand} {gf : FuncId} {first caps : Array Value} {fn : Func} {cd : Code} {t : TypeId} (hb : c.callee = .value g0) (hg : ρ' g0 = .func (.func gf) first caps) (hf : P.funcs[gf]? = some fn) (hcd : fn.body = some cd) (hnn : (fn.name == "runtime.NumGoroutine") = false) (w : World) :
    ((resolve ρ' c t >>= fun d => invoke d.target d.args) : Sem Next).run P w = .ok (.enter gf (first ++ c.args.map ρ' ++ caps)) w := by
  have hne : ¬ fn.name = "runtime.NumGoroutine" := by simpa using hnn
  simp [resolve, hb, hg, Deferred.ofValue, invoke, callFunc, hf, hcd, hne]

theorem op_call {c : Call} {g0 : Operand} (hvb : VbSound C vb) (ho : o.op = .call c) (hb : c.callee = .value g0) (h : vop C vb f o st k kp = some out) (hR : R B τ g st a w) (hk : Goes B τ g a w o.dst k out next) (hp : Pans B τ g a w kp out Q) : o.wpIn (FW ρ) n C.P a w next Q := by
  unfold vop at h
  rw [ho] at h
  dsimp only at h
  rw [hb] at h
  dsimp only at h
  split at h
  · rename_i gf first caps hg0
    obtain ⟨dx, hx⟩ := peek_rep hR g0
    rw [hg0] at hx
    obtain ⟨first', caps', hge, hfl, hcl, hfr, hcr⟩ := hx
    obtain ⟨g1, l1, R1, hrep⟩ := uses_sound c.args.toList hR
    have hall : Al (fun c u => isLin3 c = false ∧ ∀ τ d, RepS g1 τ d c u) (first ++ c.args.toList.map st.useV ++ caps) (first'.toList ++ c.args.toList.map a.eval ++ caps'.toList) := by
      refine Al.append (Al.append ⟨by simpa using hfl, fun j v u hv hu => ?_⟩ ⟨by simp, fun j v u hv hu => ?_⟩) ⟨by simpa using hcl, fun j v u hv hu => ?_⟩
      · rw [Array.getElem?_toList] at hu
        obtain ⟨hj, rfl⟩ := Array.getElem?_eq_some_iff.1 hu
        have := (hfr j v hj hv).mono l1.mem l1.loc
        exact ⟨(repP_repS (τ := 0) (d := 0) this).1, fun τ d => (repP_repS this).2⟩
      · rw [List.getElem?_map] at hv hu
        obtain ⟨x, hx, rfl⟩ := Option.map_eq_some_iff.1 hv
        rw [hx] at hu
        cases hu
        exact ⟨demote_lin, hrep j x hx⟩
      · rw [Array.getElem?_toList] at hu
        obtain ⟨hj, rfl⟩ := Array.getElem?_eq_some_iff.1 hu
        have := (hcr j v hj hv).mono l1.mem l1.loc
        exact ⟨(repP_repS (τ := 0) (d := 0) this).1, fun τ d => (repP_repS this).2⟩
    have hus : (first'.toList ++ c.args.toList.map a.eval ++ caps'.toList).toArray = first' ++ c.args.map a.eval ++ caps' := by
      rw [← Array.toList_inj]; simp
    have hrun : ∀ r, (∃ args h, vb gf args h = some r) → (execOp a.eval o).run C.P w = .ok (.enter gf (first' ++ c.args.map a.eval ++ caps')) w := by
      intro r ⟨args, h, hv⟩
      obtain ⟨fn, cd, h1, h2, h3⟩ := hvb.fn gf args h r hv
      have := run_call (t := o.type) hb hge h1 h2 h3 w
      simp only [execOp, ho]
      exact this
    split at h
    · -- nothing of the caller's heap
      rename_i hflat
      obtain ⟨r, hr, h⟩ := bindO_eq h
      have hcall := fun n => hvb.pure_ gf _ r hr hflat n (first' ++ c.args.map a.eval ++ caps') w g1.mem R1.mem (by
        rw [← hus]
        refine Al.argsI (hall.mono (fun x u hx hxu => ?_))
        rw [List.all_eq_true] at hflat
        exact repS_flat2 (hflat x hx) (hxu.2 0 0))
      refine wp_enter (fn := default) (c := default) (by simp [ho]) (hrun r ⟨_, _, hr⟩) hcall (fun e w'' he => ?_)
      obtain ⟨g', hout, hloc, hbel, hm, hold, hmo, hlo⟩ := he
      cases r with
      | ret v hh =>
        obtain ⟨u, rfl, hrv⟩ := hout
        dsimp only at h ⊢
        split at h
        · rename_i d hd
          rw [hd]
          obtain ⟨l2, R2⟩ := merge_sound R1 d hbel hm hold hmo hlo
          have hv2 := merge_val (g := g1) (τ := τ) (d := d) hloc hlo hrv
          split at h
          · split at h
            · rename_i v' h' hth
              rcases condB_cases h with ⟨_, h⟩ | ⟨hfree, h⟩
              · cases h
              · unfold thaw1 at hth
                split at hth
                · split at hth
                  · rename_i p e' sz xs hty
                    subst hty
                    simp only [Option.some.injEq, Prod.mk.injEq] at hth
                    obtain ⟨rfl, rfl⟩ := hth
                    obtain ⟨g3, l3, R3, hr3⟩ := thaw_sound R2 hv2 (getS_free hfree)
                    have := hk _ _ g3 u w'' ((l1.trans l2).trans l3) R3 (by rw [hd]; exact hr3) h
                    rw [hd] at this; exact this
                  · cases hth
                · cases hth
            · cases h
          · have := hk v _ _ u w'' (l1.trans l2) R2 (by rw [hd]; exact hv2) h
            rw [hd] at this; exact this
        · rename_i hd
          rw [hd]
          obtain ⟨l2, R2⟩ := merge_sound R1 0 hbel hm hold hmo hlo
          have := hk .undef _ _ u w'' (l1.trans l2) R2 trivial h
          rw [hd] at this; exact this
      | pan v hh =>
        obtain ⟨u, rfl, hnl, hrv⟩ := hout
        obtain ⟨l2, R2⟩ := merge_sound R1 0 hbel hm hold hmo hlo
        exact hp v _ _ u w'' 0 (l1.trans l2) R2 hnl (merge_val hloc hlo hrv) h
    · rename_i hflat
      obtain ⟨r, hr, h⟩ := bindO_eq h
      have hcall := fun n => hvb.heap gf _ _ r hr (by simpa using hflat) n (first' ++ c.args.map a.eval ++ caps') w B g1 R1.heap R1.mem R1.lin R1.base (by
        rw [← hus]
        exact Al.argsS hall)
      refine wp_enter (fn := default) (c := default) (by simp [ho]) (hrun r ⟨_, _, hr⟩) hcall (fun e w'' he => ?_)
      obtain ⟨g', hout, hnl, hbel, hm, hold, hlc, hli, hho, hmo, hlo⟩ := he
      have l2 : Later B τ g1 g' w w'' := ⟨hbel, hm, hold, hlc, fun b i hi ⟨τ', x, j, k, hq, _⟩ => hli b i hi ⟨τ', x, j, k, hq⟩⟩
      have R2 : R B τ g' { (st.useAll c.args.toList) with h := r.heap } a w'' :=
        ⟨R1.size, fun i v hi hv => (R1.slots i v hi hv).mono hm hlc (fun j k b x hx hp => hli b x hx ⟨_, _, _, _, hp⟩), hho, hmo, hlo, Nat.le_trans R1.base hbel.size, R1.defers⟩
      cases r with
      | ret v hh =>
        obtain ⟨u, rfl, hrv⟩ := hout
        exact hk v _ g' u w'' (l1.trans l2) R2 (hrv.any hnl) h
      | pan v hh =>
        obtain ⟨u, rfl, hnl', hrv⟩ := hout
        exact hp v _ g' u w'' 0 (l1.trans l2) R2 hnl' (hrv.any hnl') h
  · cases h
end
end Go.Fw
