/- What a law's arguments are (2): whole values; what a true law comes to. -/
import Derived.Test.YtcobacfinalleaaFwGlue
import Derived.WideShapes
set_option linter.all false
namespace Go.Fw
open Go.RowKit Go.WideShapes

def goodV (P : Program) (n : Nat) (t : TypeId) : Bool := match flatT P 20 t, isAggT P t with
  | some ts, some a => ts.length == P.cellsOf t && (a || ts == [t]) && ts.all (goodT P n)
  | _, _ => false

theorem TypE.flat {P : Program} {n : Nat} {t : TypeId} {x : V} (h : TypE P (TypC P n) t x) : flat2 x = true := by
  have up : ∀ c, flat0 c = true → flat1 c = true := by
    intro c hc
    cases c <;> simp only [flat0, Bool.false_eq_true] at hc <;> try rfl
    rename_i f a b
    simp only [Bool.and_eq_true, List.isEmpty_iff] at hc
    obtain ⟨rfl, rfl⟩ := hc
    rfl
  unfold TypE at h
  split at h
  · obtain ⟨ts, cs, _, rfl, hl, hc⟩ := h
    simp only [flat2, List.all_eq_true]
    intro c hcm
    obtain ⟨j, hj, rfl⟩ := List.mem_iff_getElem.1 hcm
    have hjt : j < ts.length := by omega
    exact up _ (hc j _ _ (List.getElem?_eq_getElem hj) (List.getElem?_eq_getElem hjt)).flat.1
  · have := h.flat
    have h1 := up _ this.1
    cases x <;> first | exact h1 | (simp [isCell] at this; done)
  · exact h.elim

section
variable {H : Type} {enc : TypeId × Value → H} {P : Program} {w : World}

theorem open_val {n : Nat} {t : TypeId} {v : Value} {d : DataW H} {p : List MemPlace} {r : Reach} {base : Nat} (hg : goodV P n t = true) (hok : Value.okWide P w r base t v) (h : DataW.Trod enc P w 0 (fun _ => true) true t v d p) (hw : ∀ m ∈ d.weights P t, m ≤ reachBytes) :
    ∃ x, TypE P (TypC P n) t x ∧ RepI (memOf w) x v := by
  obtain ⟨fuel, h⟩ := h
  unfold goodV at hg
  split at hg
  · rename_i ts a hts hag
    simp only [Bool.and_eq_true, beq_iff_eq, Bool.or_eq_true, List.all_eq_true] at hg
    obtain ⟨⟨htl, hone⟩, hall⟩ := hg
    cases a with
    | true =>
      have hagg : ∃ cs, v = .agg cs ∧ cs.size = P.cellsOf t := by
        unfold Value.okWide at hok
        unfold isAggT at hag
        split at hok
        · obtain ⟨cs, h1, h2, _⟩ := hok; exact ⟨cs, h1, h2⟩
        · obtain ⟨cs, h1, h2, _⟩ := hok; exact ⟨cs, h1, h2⟩
        · rename_i h1 h2
          exfalso
          split at hag
          · rename_i fs hfs; exact h1 fs hfs
          · rename_i q1 q2 hfs; exact h2 q1 q2 hfs
          · cases hag
          · cases hag
      obtain ⟨cs, rfl, hsz⟩ := hagg
      have hlen : (Value.agg cs).cells.toList.length = ts.length := by simp [Value.cells, hsz, htl]
      have each : ∀ j (hj : j < cs.size), ∃ c t', ts[j]? = some t' ∧ TypC P n t' c ∧ RepI (memOf w) c cs[j] := by
        intro j hj
        have hjt : j < ts.length := by omega
        have hjc : (Value.agg cs).cells.toList[j]? = some cs[j] := by simp [Value.cells, hj]
        obtain ⟨fu, y, hy, hyw⟩ := flat_trod 20 hts h hw hlen j _ _ hjc (List.getElem?_eq_getElem hjt)
        obtain ⟨c, hc, hr⟩ := open_cell n (hall _ (List.getElem_mem hjt)) hy hyw
        exact ⟨c, _, List.getElem?_eq_getElem hjt, hc, hr⟩
      classical
      let cf : Nat → V := fun j => if h : j < cs.size then Classical.choose (each j h) else .undef
      have hcf : ∀ j (hj : j < cs.size), ∃ t', ts[j]? = some t' ∧ TypC P n t' (cf j) ∧ RepI (memOf w) (cf j) cs[j] := by
        intro j hj
        have := Classical.choose_spec (each j hj)
        simp only [cf, dif_pos hj]
        exact this
      refine ⟨.agg ((List.range cs.size).map cf), ?_, .agg _ cs (by simp) (fun j c hc => ?_) (fun j c hj hc => ?_)⟩
      · unfold TypE
        rw [hag]
        refine ⟨ts, _, hts, rfl, by simp [hsz, htl], fun j c t' hc ht' => ?_⟩
        have hj : j < cs.size := by have := (List.getElem?_eq_some_iff.1 hc).1; simpa using this
        rw [List.getElem?_map, List.getElem?_range hj] at hc
        cases hc
        obtain ⟨t2, ht2, hty, _⟩ := hcf j hj
        rw [ht'] at ht2; cases ht2
        exact hty
      · have hj : j < cs.size := by have := (List.getElem?_eq_some_iff.1 hc).1; simpa using this
        rw [List.getElem?_map, List.getElem?_range hj] at hc
        cases hc
        obtain ⟨t2, _, hty, _⟩ := hcf j hj
        exact hty.flat.2
      · rw [List.getElem?_map, List.getElem?_range hj] at hc
        cases hc
        obtain ⟨t2, _, _, hr⟩ := hcf j hj
        exact hr
    | false =>
      have h1 : ts = [t] := by
        rcases hone with h | h
        · cases h
        · exact h
      subst h1
      have hgt := hall t (by simp)
      have hcell : v.cells.toList = [v] := by
        cases n with
        | zero => simp [goodT] at hgt
        | succ n =>
          unfold goodT at hgt
          split at hgt
          · rename_i ht
            simp only [Value.okWide, ht, Cell.okWide] at hok
            cases v <;> first | rfl | simp_all [Cell.ok]
          · rename_i k ht
            obtain ⟨z, rfl⟩ := okWide_int ht hok; rfl
          · rename_i ht
            obtain ⟨z, rfl⟩ := okWide_string ht hok; rfl
          · rename_i e ht
            obtain ⟨a, l, c, rfl⟩ := okWide_slice ht hok; rfl
          · cases hgt
      rw [hcell] at h
      obtain ⟨c, hc, hr⟩ := open_cell n hgt h hw
      refine ⟨c, ?_, hr⟩
      unfold TypE
      rw [hag]
      exact hc
  · cases hg
end

/-- A call that the evaluator knows to return true. -/
theorem calls_true {C : Cx} {n : Nat} {f : FuncId} {vs : List V} {us : Array Value} {w : World} {h : List Blk} (hs : VbSound C (vcall C n)) (ha : ArgsI (memOf w) vs us) (hf : vs.all flat2 = true) (hv : vcall C n f vs [] = some (.ret (.bool true) h)) :
    Calls C.P f us w fun e w' => e = .returned (.bool true) ∧ Below w.heap.size w w' := by
  have := hs.pure_ f vs _ hv hf 0 us w (memOf w) (memOf_ok w) ha
  rw [callsIn_wide] at this
  refine this.mono (fun e w' he => ?_)
  obtain ⟨g', ⟨u, rfl, hr⟩, _, hb, _⟩ := he
  have : u = .bool true := by simp only [RepS, RepA, RepC] at hr; cases hr; rfl
  exact ⟨by rw [this], hb⟩
theorem calls_sp {C : Cx} {f : FuncId} {vs : List V} {us : Array Value} {w : World} (h : Sp C f vs (.bool true)) (ha : ArgsI (memOf w) vs us) :
    Calls C.P f us w fun e w' => e = .returned (.bool true) ∧ Below w.heap.size w w' := by
  have := h.run 0 us w (memOf w) (memOf_ok w) ha
  rw [callsIn_wide] at this
  refine this.mono (fun e w' he => ?_)
  obtain ⟨g', ⟨u, rfl, hr⟩, _, hb, _⟩ := he
  have : u = .bool true := by simp only [RepS, RepA, RepC] at hr; cases hr; rfl
  exact ⟨by rw [this], hb⟩
end Go.Fw
