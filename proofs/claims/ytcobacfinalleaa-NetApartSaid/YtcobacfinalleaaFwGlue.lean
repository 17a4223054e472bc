/- What a law's arguments are: out of their reading, the abstract values that stand for them. -/
import Derived.Test.YtcobacfinalleaaFwG
import Derived.ChangeArms
import Derived.SizedLaws
set_option linter.all false
namespace Go.Fw
open Go.RowKit

/-- The whole memory, as it is when the call begins. -/
def memOf (w : World) : Mem := fun b => match w.heap[b]? with
  | some (.cells cur _ _) => some cur.toList
  | _ => none
theorem memOf_ok (w : World) : MemOk (memOf w) w := by
  constructor
  intro b cs h
  unfold memOf at h
  split at h
  · rename_i cur e fr hc
    cases h
    exact ⟨cur, e, fr, hc, List.prefix_refl _⟩
  · cases h
theorem memOf_cell {w : World} {a : Addr} {v : Value} (h : w.cell? a = some v) : a.spot = none ∧ stAt (memOf w) a.block a.off = some v := by
  unfold World.cell? at h
  unfold stAt memOf
  split at h
  · rename_i c e fr hc
    split at h
    · cases h
    · rename_i hs
      rw [hc]
      refine ⟨by cases hh : a.spot with | none => rfl | some x => rw [hh] at hs; simp at hs, ?_⟩
      simp only [Option.bind_some]
      rw [Array.getElem?_toList]
      exact h
  · cases h

/-- The one-cell types of a type's cells. -/
def flatT (P : Program) : Nat → TypeId → Option (List TypeId)
  | 0, _ => none
  | n + 1, t => match P.underlying t with
    | some (.struct fs) => flatF (fun t => flatT P n t) P.cellsOf 0 fs.toList
    | some (.array _ _) => none
    | some _ => some [t]
    | none => none
where
  flatF (r : TypeId → Option (List TypeId)) (sz : TypeId → Nat) : Nat → List Field → Option (List TypeId)
    | _, [] => some []
    | off, f :: fs => match r f.type, flatF r sz (off + sz f.type) fs with
      | some ts, some us => if f.offset = off ∧ ts.length = sz f.type then some (ts ++ us) else none
      | _, _ => none

/-- What stands for a cell of a type: bools, whole numbers, texts, slices of such. -/
def TypE (P : Program) (r : TypeId → V → Prop) (e : TypeId) (x : V) : Prop := match isAggT P e with
  | some true => ∃ ts cs, flatT P 20 e = some ts ∧ x = .agg cs ∧ cs.length = ts.length ∧ ∀ (j : Nat) (c : V) (t : TypeId), cs[j]? = some c → ts[j]? = some t → r t c
  | some false => r e x
  | none => False
def TypC (P : Program) : Nat → TypeId → V → Prop
  | 0, _, _ => False
  | n + 1, t, c => match P.underlying t with
    | some .bool => ∃ b, c = .bool b
    | some (.int k) => ∃ z, c = .int k z ∧ (Lit.int k z).wf = true
    | some .string => ∃ s, c = .str s ∧ s.size ≤ reachBytes
    | some (.slice e) => ∃ xs, c = .imm false (P.cellsOf e) xs ∧ xs.length * P.bytesOf e ≤ reachBytes ∧ ∀ x ∈ xs, TypE P (TypC P n) e x
    | _ => False

/-- A type that is read so. -/
def goodT (P : Program) : Nat → TypeId → Bool
  | 0, _ => false
  | n + 1, t => match P.underlying t with
    | some .bool | some (.int _) | some .string => P.cellsOf t == 1
    | some (.slice e) => P.cellsOf t == 1 && decide (0 < P.cellsOf e) && (match flatT P 20 e, isAggT P e with
      | some ts, some a => ts.length == P.cellsOf e && (a || ts == [e]) && ts.all (goodT P n)
      | _, _ => false)
    | _ => false

theorem TypC.flat {P : Program} {n : Nat} {t : TypeId} {c : V} (h : TypC P n t c) : flat0 c = true ∧ isCell c = true := by
  cases n with
  | zero => exact h.elim
  | succ n =>
    unfold TypC at h
    split at h
    · obtain ⟨b, rfl⟩ := h; exact ⟨rfl, rfl⟩
    · obtain ⟨b, rfl, _⟩ := h; exact ⟨rfl, rfl⟩
    · obtain ⟨b, rfl, _⟩ := h; exact ⟨rfl, rfl⟩
    · obtain ⟨xs, rfl, _⟩ := h; exact ⟨rfl, rfl⟩
    · exact h.elim

section
variable {H : Type} {enc : TypeId × Value → H} {P : Program} {w : World} {base : Nat} {spare : Nat → Bool} {held : Bool}

theorem cells_get {n : Nat} {a : Addr} {cs : List Value} (h : w.cells? base a n = some cs) : cs.length = n ∧ ∀ (j : Nat) (u : Value), cs[j]? = some u → w.cell? (a.add j) = some u := by
  unfold World.cells? at h
  split at h
  · have hl := mapM_some_length h
    refine ⟨by simpa using hl, fun j u hu => ?_⟩
    have hj : j < n := by have := (List.getElem?_eq_some_iff.1 hu).1; simp at hl; omega
    have := mapM_some_get h j j (by simp [hj])
    rw [this]; exact hu
  · cases h

theorem flatF_at {r : TypeId → Option (List TypeId)} {sz : TypeId → Nat} : ∀ {fs : List Field} {off : Nat} {ts : List TypeId}, flatT.flatF r sz off fs = some ts → ∀ (j : Nat) (t : TypeId), ts[j]? = some t →
    ∃ (i : Nat) (f : Field) (us : List TypeId) (j' : Nat), fs[i]? = some f ∧ r f.type = some us ∧ us.length = sz f.type ∧ us[j']? = some t ∧ off + j = f.offset + j' ∧ f.offset + us.length ≤ off + ts.length
  | [], off, ts, h, j, t, ht => by cases h; simp at ht
  | f :: fs, off, ts, h, j, t, ht => by
    unfold flatT.flatF at h
    split at h
    · rename_i us vs h1 h2
      split at h
      · rename_i hc
        cases h
        by_cases hj : j < us.length
        · rw [List.getElem?_append_left hj] at ht
          exact ⟨0, f, us, j, rfl, h1, hc.2, ht, by rw [hc.1], by rw [hc.1, List.length_append]; omega⟩
        · rw [List.getElem?_append_right (by omega)] at ht
          obtain ⟨i, g, ws, j', q1, q2, q3, q4, q5, q6⟩ := flatF_at h2 _ t ht
          have := hc.2
          exact ⟨i + 1, g, ws, j', by simpa using q1, q2, q3, q4, by rw [← q5]; omega, by rw [List.length_append]; omega⟩
      · cases h
    · cases h

/-- The cells of a value, read one by one. -/
theorem flat_trod : ∀ (n : Nat) {fuel : Nat} {t : TypeId} {ts : List TypeId} {us : List Value} {x : DataW H × List MemPlace}, flatT P n t = some ts → DataW.trod enc P w base spare held fuel t us = some x → (∀ m ∈ x.1.weights P t, m ≤ reachBytes) → us.length = ts.length →
    ∀ (j : Nat) (u : Value) (t' : TypeId), us[j]? = some u → ts[j]? = some t' → ∃ fuel' x', DataW.trod enc P w base spare held fuel' t' [u] = some x' ∧ ∀ m ∈ x'.1.weights P t', m ≤ reachBytes
  | 0, fuel, t, ts, us, x, h, _, _, _, _, _, _, _, _ => by simp [flatT] at h
  | n + 1, fuel, t, ts, us, x, h, hr, hw, hlen, j, u, t', hu, ht => by
    unfold flatT at h
    split at h
    · rename_i fs hfs
      obtain ⟨xs, n', rfl, hx, hl, hxl, hat⟩ := DataW.trod_struct hfs hr
      obtain ⟨i, f, vs, j', q1, q2, q3, q4, q5, q6⟩ := flatF_at h j t' ht
      have hj' := (List.getElem?_eq_some_iff.1 q4).1
      have hf := hat i f (by rw [← Array.getElem?_toList]; exact q1)
      have hi : i < xs.length := by have := (List.getElem?_eq_some_iff.1 q1).1; simp at this; omega
      rw [List.getElem?_eq_getElem hi] at hf
      have hju : ((us.drop f.offset).take (P.cellsOf f.type))[j']? = some u := by
        rw [takeDrop_get, if_pos (by rw [← q3]; exact hj'), ← q5, Nat.zero_add]
        exact hu
      have hdl : ((us.drop f.offset).take (P.cellsOf f.type)).length = vs.length := by
        simp only [List.length_take, List.length_drop]
        omega
      refine flat_trod n q2 hf (fun m hm => hw m ?_) hdl j' u t' hju q4
      rw [hx]
      unfold DataW.weights
      rw [hfs]
      dsimp only
      refine DataW.weights_mem_each (j := i) (t := f.type) (d := xs[i].1) ?_ ?_ m hm
      · rw [List.getElem?_map, q1]; rfl
      · rw [List.getElem?_map, List.getElem?_eq_getElem hi]; rfl
    · cases h
    · rename_i d hd1 hd2 hd
      cases h
      match us, hlen with
      | [u0], _ =>
        cases j with
        | zero =>
          cases hu; cases ht
          exact ⟨fuel, x, hr, hw⟩
        | succ j => simp at hu
    · cases h

theorem weightsAll_mem {e : TypeId} : ∀ {ds : List (DataW H)} {i : Nat} {d : DataW H}, ds[i]? = some d → ∀ m ∈ d.weights P e, m ∈ DataW.weightsAll P e ds
  | d0 :: ds, 0, d, h, m, hm => by
    cases h
    unfold DataW.weightsAll
    exact List.mem_append_left _ hm
  | d0 :: ds, i + 1, d, h, m, hm => by
    unfold DataW.weightsAll
    exact List.mem_append_right _ (weightsAll_mem (by simpa using h) m hm)

theorem open_cell : ∀ (n : Nat) {fuel : Nat} {t : TypeId} {u : Value} {x : DataW H × List MemPlace}, goodT P n t = true → DataW.trod enc P w base (fun _ => true) held fuel t [u] = some x → (∀ m ∈ x.1.weights P t, m ≤ reachBytes) →
    ∃ c, TypC P n t c ∧ RepI (memOf w) c u
  | 0, fuel, t, u, x, hg, _, _ => by simp [goodT] at hg
  | n + 1, 0, t, u, x, hg, h, _ => by simp [DataW.trod] at h
  | n + 1, fuel + 1, t, u, x, hg, h, hw => by
    unfold goodT at hg
    split at hg
    · rename_i ht
      unfold DataW.trod at h
      rw [ht] at h
      cases u <;> simp at h
      rename_i b
      exact ⟨.bool b, by unfold TypC; rw [ht]; exact ⟨b, rfl⟩, .bool b⟩
    · rename_i k ht
      unfold DataW.trod at h
      rw [ht] at h
      cases u <;> simp at h
      rename_i k' z
      obtain ⟨⟨rfl, hwf⟩, _⟩ := h
      exact ⟨.int k' z, by unfold TypC; rw [ht]; exact ⟨z, rfl, hwf⟩, .int k' z⟩
    · rename_i ht
      unfold DataW.trod at h
      rw [ht] at h
      cases u <;> simp at h
      rename_i s
      obtain ⟨_, rfl⟩ := h
      refine ⟨.str s, ?_, .str s⟩
      unfold TypC
      rw [ht]
      refine ⟨s, rfl, ?_⟩
      have := hw s.data.toList.length (by unfold DataW.weights; exact List.mem_singleton.2 rfl)
      rw [Array.length_toList] at this
      exact this
    · rename_i e ht
      simp only [Bool.and_eq_true, beq_iff_eq, decide_eq_true_eq] at hg
      obtain ⟨⟨hc1, hsz⟩, hg⟩ := hg
      split at hg
      · rename_i ts a hts hag
        simp only [Bool.and_eq_true, beq_iff_eq, Bool.or_eq_true, List.all_eq_true] at hg
        obtain ⟨⟨htl, hone⟩, hall⟩ := hg
        rcases DataW.trod_slice ht h with ⟨h0, _⟩ | ⟨ad, len, cap, elems, rest, m, hfu, hcs, hx, hb, hl, hm, hlen, hel, hsp, _⟩
        · cases h0
          exact ⟨.imm false (P.cellsOf e) [], by unfold TypC; rw [ht]; exact ⟨[], rfl, by simp, fun x hx => by cases hx⟩, .none0 false _ hsz⟩
        · simp only [List.cons.injEq, and_true] at hcs
          subst hcs
          have hwt : ∀ (y : Nat), y ∈ x.1.weights P t → y ≤ reachBytes := hw
          rw [hx] at hwt
          unfold DataW.weights at hwt
          rw [ht] at hwt
          dsimp only at hwt
          have hbytes : len * P.bytesOf e ≤ reachBytes := by
            have := hwt _ (List.mem_cons_self ..)
            rw [List.length_map, hlen, Nat.add_mul] at this
            omega
          -- each element, each of its cells
          have each : ∀ (i j : Nat), i < len → j < P.cellsOf e → ∃ c v t', ts[j]? = some t' ∧ TypC P n t' c ∧ w.cell? ((ad.add (i * P.cellsOf e)).add j) = some v ∧ RepI (memOf w) c v := by
            intro i j hi hj
            have hie : i < elems.length := by omega
            have hei := hel i hi
            rw [List.getElem?_eq_getElem hie] at hei
            obtain ⟨cs, hcs, htr⟩ := Option.bind_eq_some_iff.1 hei
            obtain ⟨hcl, hcg⟩ := cells_get hcs
            have hjc : j < cs.length := by omega
            have hjt : j < ts.length := by omega
            obtain ⟨fu, y, hy, hyw⟩ := flat_trod 20 hts htr (fun m hm => hwt m (List.mem_cons_of_mem _ (List.mem_append_left _ (weightsAll_mem (i := i) (by rw [List.getElem?_map, List.getElem?_eq_getElem hie]; rfl) m hm)))) (by omega) j _ _ (List.getElem?_eq_getElem hjc) (List.getElem?_eq_getElem hjt)
            obtain ⟨c, hc, hr⟩ := open_cell n (hall _ (List.getElem_mem hjt)) hy hyw
            exact ⟨c, _, _, List.getElem?_eq_getElem hjt, hc, hcg j _ (List.getElem?_eq_getElem hjc), hr⟩
          have hspot : ad.spot = none ∨ cap = 0 := by
            by_cases hcap : cap = 0
            · exact .inr hcap
            · left
              by_cases hl0 : len = 0
              · obtain ⟨hr1, hr2⟩ := hsp rfl
                have hr3 := hr2 0 (by omega)
                have : 0 < rest.length := by omega
                rw [List.getElem?_eq_getElem this] at hr3
                obtain ⟨cs, hcs, _⟩ := Option.bind_eq_some_iff.1 hr3
                obtain ⟨hcl, hcg⟩ := cells_get hcs
                have h0c : 0 < cs.length := by omega
                have := hcg 0 _ (List.getElem?_eq_getElem h0c)
                rw [hl0] at this
                simpa [Addr.add] using (memOf_cell this).1
              · obtain ⟨c, v, t', _, _, hcell, _⟩ := each 0 0 (by omega) hsz
                simpa [Addr.add] using (memOf_cell hcell).1
          classical
          let cf : Nat → Nat → V := fun i j => if h : i < len ∧ j < P.cellsOf e then Classical.choose (each i j h.1 h.2) else .undef
          let vf : Nat → Nat → Value := fun i j => if h : i < len ∧ j < P.cellsOf e then Classical.choose (Classical.choose_spec (each i j h.1 h.2)) else default
          have hcf : ∀ i j, i < len → j < P.cellsOf e → ∃ t', ts[j]? = some t' ∧ TypC P n t' (cf i j) ∧ w.cell? ((ad.add (i * P.cellsOf e)).add j) = some (vf i j) ∧ RepI (memOf w) (cf i j) (vf i j) := by
            intro i j hi hj
            have h := Classical.choose_spec (Classical.choose_spec (each i j hi hj))
            simp only [cf, vf, dif_pos (show i < len ∧ j < P.cellsOf e from ⟨hi, hj⟩)]
            exact h
          let mk : Nat → V := fun i => if a then .agg ((List.range (P.cellsOf e)).map (cf i)) else cf i 0
          have hmk : ∀ i, i < len → (mk i).cells = (List.range (P.cellsOf e)).map (cf i) := by
            intro i hi
            cases a with
            | true => rfl
            | false =>
              have h1 : P.cellsOf e = 1 := by
                rcases hone with h | h
                · cases h
                · rw [← htl, h]; rfl
              obtain ⟨t', _, ht', _⟩ := hcf i 0 hi (by omega)
              have := ht'.flat.2
              simp only [mk, Bool.false_eq_true, if_false, h1]
              generalize hg : cf i 0 = c at this
              have : c.cells = [c] := by cases c <;> first | rfl | cases this
              rw [this]
              simp [hg]
          refine ⟨.imm false (P.cellsOf e) ((List.range len).map mk), ?_, ?_⟩
          · unfold TypC
            rw [ht]
            refine ⟨_, rfl, by simpa using hbytes, fun x hx => ?_⟩
            obtain ⟨i, hi, rfl⟩ := List.mem_map.1 hx
            have hi := List.mem_range.1 hi
            unfold TypE
            rw [hag]
            cases a with
            | true =>
              refine ⟨ts, (List.range (P.cellsOf e)).map (cf i), hts, rfl, by simp [htl], fun j c t' hc ht' => ?_⟩
              have hj : j < P.cellsOf e := by have := (List.getElem?_eq_some_iff.1 hc).1; simpa using this
              obtain ⟨t2, ht2, hty, _⟩ := hcf i j hi hj
              rw [List.getElem?_map, List.getElem?_range hj] at hc
              cases hc
              rw [ht'] at ht2
              cases ht2
              exact hty
            | false =>
              have h1 : ts = [e] := by
                rcases hone with h | h
                · cases h
                · exact h
              obtain ⟨t2, ht2, hty, _⟩ := hcf i 0 hi hsz
              rw [h1] at ht2
              cases ht2
              exact hty
          · have hlenx : ((List.range len).map mk).length = len := by simp
            have hget : ∀ (i : Nat) (x : V) (j : Nat) (c : V), ((List.range len).map mk)[i]? = some x → x.cells[j]? = some c → i < len ∧ j < P.cellsOf e ∧ c = cf i j := by
              intro i x j c hx hc
              have hi : i < len := by have := (List.getElem?_eq_some_iff.1 hx).1; simpa using this
              rw [List.getElem?_map, List.getElem?_range hi] at hx
              cases hx
              rw [hmk i hi] at hc
              have hj : j < P.cellsOf e := by have := (List.getElem?_eq_some_iff.1 hc).1; simpa using this
              rw [List.getElem?_map, List.getElem?_range hj] at hc
              cases hc
              exact ⟨hi, hj, rfl⟩
            have hr := RepI.imm (m := memOf w) false ((List.range len).map mk) ad.block ad.off cap (P.cellsOf e) vf (by rw [hlenx]; exact hl) (fun h => by cases h) hm hsz
              (fun i x hx => by
                have hi : i < len := by have := (List.getElem?_eq_some_iff.1 hx).1; simpa using this
                rw [List.getElem?_map, List.getElem?_range hi] at hx
                cases hx
                rw [hmk i hi]; simp)
              (fun i x j c hx hc => by
                obtain ⟨hi, hj, rfl⟩ := hget i x j c hx hc
                obtain ⟨t', _, hty, hcell, _⟩ := hcf i j hi hj
                refine ⟨hty.flat.2, ?_⟩
                have hsn : ad.spot = none := by
                  rcases hspot with h | h
                  · exact h
                  · omega
                have hm2 := (memOf_cell hcell).2
                have hadd : (ad.add (i * P.cellsOf e)).add j = ⟨ad.block, ad.off + i * P.cellsOf e + j, none⟩ := by
                  obtain ⟨b, o, sp⟩ := ad
                  simp only at hsn
                  subst hsn
                  rw [addr_add, addr_add]
                rw [hadd] at hm2
                exact hm2)
              (fun i x j c hx hc => by
                obtain ⟨hi, hj, rfl⟩ := hget i x j c hx hc
                exact (hcf i j hi hj).choose_spec.2.2.2)
              ad.spot hspot
            rw [hlenx] at hr
            exact hr
      · cases hg
    · cases hg
end
end Go.Fw
