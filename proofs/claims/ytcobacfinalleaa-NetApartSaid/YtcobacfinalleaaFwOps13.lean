/- The operations (13): append, the operation. -/
import Derived.Test.YtcobacfinalleaaFwOwn
set_option linter.all false
namespace Go.Fw
open Go.RowKit

section
variable {C : Cx} {vb : FuncId → List V → List Blk → Option FOut} {f : FuncId} {ρ : Option Nat} {n : Nat} {o : Oper} {st : St} {α : Type} {k kp : V → St → Option α} {out : α}
  {B τ : Nat} {g : Gh} {a : Act} {w : World} {next : Act → World → Prop} {Q : Exit → Act → World → Prop}

theorem grow_new (p : Bool) (h : R B τ g st a w) {d : Nat} {e : TypeId} {sz cap : Nat} {zs : List V} {all : List Value} (rest : Array Value) (hel : Elems g.mem sz zs all) (hc : zs.length ≤ cap) (hm : cap ≤ maxLen)
    (hr : all.length + rest.size = cap * sz) (hfree : ∀ v, st.fr[d]? = some v → isLin3 v = false) :
    ∃ g', Later B τ g g' w (w.drew.alloc (.cells (all.toArray ++ rest) e)) ∧ R B τ g' st a (w.drew.alloc (.cells (all.toArray ++ rest) e)) ∧
      RepS g' τ d (.lin p e sz zs) (.slice (some ⟨w.heap.size, 0, none⟩) zs.length cap) := by
  have hfm := free_mem h
  have hfl := free_lin h
  let i : LinI := ⟨.slot τ d 0 0, p, all, e, sz, cap⟩
  have hle : all.length ≤ cap * sz := by rw [hel.1]; exact Nat.mul_le_mul_right _ hc
  obtain ⟨l1, r1⟩ := grow_sound (b := w.heap.size) (d := d) (i := i) (row := none) (w' := w.drew.alloc (.cells (all.toArray ++ rest) e)) h
    ⟨rfl, rfl, rfl, by simp, fun k hk _ => Go.heap_alloc_old w.drew _ k hk⟩ (fun k hk => by cases hk) h.base rfl (.inr ⟨hfl, hfm, Nat.le_refl _⟩)
    ⟨_, heap_alloc_new w.drew _, by simp [i], by simp [i, hr]⟩ hle hm hel.2.1 hfree
  refine ⟨_, l1, r1, ?_⟩
  exact .inl ⟨w.heap.size, i, by simp [Gh.grown], rfl, rfl, ⟨rfl, rfl⟩, rfl, hel.mono l1.mem⟩

theorem grow_room (h : R B τ g st a w) {d b : Nat} {e : TypeId} {sz : Nat} {zs : List V} {news : List Value} {p : Bool} {i : LinI} {cur : Array Value} (hb : g.lin b = some i) (hp : i.place = .slot τ d 0 0) (hpr : i.priv = p) (he : i.ety = e) (hz : i.esz = sz)
    (hcur : w.heap[b]? = some (.cells cur e (0, 0))) (hel : Elems g.mem sz zs (i.cs ++ news)) (hroom : zs.length ≤ i.cap) (hfree : ∀ v, st.fr[d]? = some v → isLin3 v = false) :
    ∃ g', Later B τ g g' w (w.setRow b (cur.toList.take i.cs.length ++ news ++ cur.toList.drop (i.cs.length + news.length)).toArray) ∧
      R B τ g' st a (w.setRow b (cur.toList.take i.cs.length ++ news ++ cur.toList.drop (i.cs.length + news.length)).toArray) ∧
      RepS g' τ d (.lin p e sz zs) (.slice (some ⟨b, 0, none⟩) zs.length i.cap) := by
  subst hpr; subst he; subst hz
  obtain ⟨k1, ⟨cur', k2, k3, k4⟩, k5, k6, k7, _, _⟩ := h.lin.at_ b i hb
  rw [hcur] at k2
  cases k2
  have hcs := isPre_take k3
  have hle : (i.cs ++ news).length ≤ i.cap * i.esz := by rw [hel.1]; exact Nat.mul_le_mul_right _ hroom
  have hlen : i.cs.length + news.length ≤ cur.size := by rw [k4]; simpa using hle
  rw [hcs]
  let i' : LinI := { i with cs := i.cs ++ news }
  obtain ⟨l1, r1⟩ := grow_sound (b := b) (d := d) (i := i') (row := some b) (w' := w.setRow b (i.cs ++ news ++ cur.toList.drop (i.cs.length + news.length)).toArray) h
    ⟨rfl, rfl, rfl, by simp, fun k _ hk => setRow_other w b k _ (fun e => hk (by simp [e]))⟩ (fun k hk => by cases hk; exact ⟨rfl, k1⟩) k1 hp (.inl ⟨i, hb, hp, rfl, List.prefix_append _ _⟩)
    ⟨_, setRow_heap w b cur _ _ _ hcur, by simp [i'], by
      simp only [List.size_toArray, List.length_append, List.length_drop, Array.length_toList, i']; omega⟩ hle k6 k7 hfree
  exact ⟨_, l1, r1, .inl ⟨b, i', by simp [Gh.grown], hp, rfl, ⟨rfl, rfl⟩, rfl, hel.mono l1.mem⟩⟩

theorem mem_of_prefix {α : Type} {l : List α} {c : Array α} {j : Nat} {u : α} (h : l <+: c.toList) (hj : l[j]? = some u) : c[j]? = some u := by
  obtain ⟨t, ht⟩ := h
  rw [← Array.getElem?_toList, ← ht, List.getElem?_append_left (List.getElem?_eq_some_iff.1 hj).1]
  exact hj

theorem op_append {c : Call} (ho : o.op = .call c) (hb : c.callee = .builtin .append) (h : vop C vb f o st k kp = some out) (hR : R B τ g st a w) (hk : Goes B τ g a w o.dst k out next) : o.wpIn (FW ρ) n C.P a w next Q := by
  unfold vop at h
  rw [ho] at h
  dsimp only at h
  rw [hb] at h
  dsimp only at h
  split at h
  · rename_i s x t tx hsx htt
    have ea : c.args = #[s, x] := by rw [← Array.toList_inj]; exact hsx
    have et : c.argTypes = #[t, tx] := by rw [← Array.toList_inj]; exact htt
    split at h
    · rename_i e e2 he he2
      have ht := sliceT he
      split at h
      · rename_i id off len room hps
        exact op_append_own ho hb ea et ht hps h hR hk
      rename_i hnown
      split at h
      · rename_i by_ sz z m ys hby hsz hz hel
        split at h
        · rename_i hcond
          obtain ⟨rfl, hsame, h0, hb0, hokz, hzl⟩ := hcond
          obtain ⟨it, zv, hit, hzv, ez⟩ := zeroT_eq hz
          subst ez
          obtain ⟨c1, _⟩ := ofVal_cells (g := g) hokz
          have hszi : it.size = sz := by unfold sizeT at hsz; rw [hit] at hsz; simpa using hsz
          have hbyi : it.bytes = by_ := by unfold bytesT at hby; rw [hit] at hby; simpa using hby
          have hzsz : zv.cells.size = sz := by rw [← c1]; exact hzl
          subst hszi; subst hbyi
          split at h
          · rename_i nn v hva
            rcases condB_cases h with ⟨hc2, h⟩ | ⟨_, h⟩
            · simp only [Bool.and_eq_true, decide_eq_true_eq, Bool.not_eq_true'] at hc2
              obtain ⟨hbytes, hdst⟩ := hc2
              obtain ⟨g1, l1, R1, hx1⟩ := use_sound hR x
              obtain ⟨g2, l2, R2, hs2⟩ := take_sound R1 s (o.dst.getD 0)
              have hfree : ∀ v, ((st.useS x).takeS s).fr[o.dst.getD 0]? = some v → isLin3 v = false := fun v hv => by rw [getS_eq hv] at hdst; exact hdst
              -- what is appended
              have hx2 : (ys = [] ∧ a.eval x = .slice none 0 0) ∨ ∃ fl, RepI g2.mem (.imm fl it.size ys) (a.eval x) := by
                have hx := hx1 τ 0
                unfold St.useV at hx
                unfold elems at hel
                split at hel
                · rename_i hp; cases hel
                  rw [hp] at hx
                  refine .inl ⟨rfl, ?_⟩
                  simp only [map3, map2, demote1, RepS, RepA, RepC] at hx
                  generalize a.eval x = u at hx ⊢; cases hx; rfl
                · rename_i hp; cases hel
                  rw [hp] at hx
                  refine .inr ⟨false, ?_⟩
                  simp only [map3, map2, demote1, RepS, RepA, RepC] at hx
                  generalize a.eval x = u at hx ⊢
                  cases hx with
                  | nne ad cap q3 hsp => exact .imm false [] ad.block ad.off cap it.size (fun _ _ => default) (Nat.zero_le _) (fun h => by cases h) q3 h0 (fun i x h => by simp at h) (fun i x j c h => by simp at h) (fun i x j c h => by simp at h) ad.spot hsp
                · rename_i fl q ws hp; cases hel
                  rw [hp] at hx
                  simp only [map3, map2, demote1, RepS, RepA, RepC] at hx
                  have hx := hx.mono l2.mem
                  rcases hsame with hsame | hsame
                  · have hys : ys = [] := by simpa using hsame
                    subst hys
                    generalize a.eval x = u at hx ⊢
                    cases hx with
                    | none0 => exact .inr ⟨fl, .none0 fl it.size h0⟩
                    | imm _ _ b off cap esz val q1 q2 q3 q4 q5 q6 q7 sp hsp => exact .inr ⟨fl, .imm fl [] b off cap it.size (fun _ _ => default) q1 q2 q3 h0 (fun i x h => by simp at h) (fun i x j c h => by simp at h) (fun i x j c h => by simp at h) sp hsp⟩
                  · exact .inr ⟨fl, hsame ▸ hx⟩
                · rename_i q1 q2 q ws hp; cases hel
                  rw [hp] at hx
                  simp only [map3, map2, demote1, RepS, RepA, RepC] at hx
                  have hx := hx.mono l2.mem
                  rcases hsame with hsame | hsame
                  · have hys : ys = [] := by simpa using hsame
                    subst hys
                    generalize a.eval x = u at hx ⊢
                    cases hx with
                    | none0 => exact .inr ⟨false, .none0 false it.size h0⟩
                    | imm _ _ b off cap esz val q1 q2 q3 q4 q5 q6 q7 sp hsp => exact .inr ⟨false, .imm false [] b off cap it.size (fun _ _ => default) q1 q2 q3 h0 (fun i x h => by simp at h) (fun i x j c h => by simp at h) (fun i x j c h => by simp at h) sp hsp⟩
                  · exact .inr ⟨false, hsame ▸ hx⟩
                · cases hel
              have fin : ∀ (r : Value) (w' : World) (g3 : Gh), (Builtin.append_ #[t, t] o.type #[a.eval s, a.eval x]).run C.P w = .ok r w' → Later B τ g2 g3 w w' → R B τ g3 ((st.useS x).takeS s) a w' → RepS g3 τ (o.dst.getD 0) v r → o.wpIn (FW ρ) n C.P a w next Q := by
                intro r w' g3 hrun l3 R3 hr
                refine wp_value (by simp [ho]) (v := r) (w' := w') ?_ (hk v _ g3 _ w' ((l1.trans l2).trans l3) R3 hr h)
                simp [execOp, ho, resolve, hb, ea, et, invoke, builtin, hrun]
              -- nothing is appended
              have fin0 : ∀ (b : Option Addr) (l m : Nat), ys = [] → a.eval s = .slice b l m → l ≤ m → (b = none → l = 0 ∧ m = 0) → RepS g2 τ (o.dst.getD 0) v (a.eval s) → o.wpIn (FW ρ) n C.P a w next Q := by
                intro b l m hys hs hlm hbz hr
                have hx0 : ∃ c' k, a.eval x = .slice c' 0 k := by
                  rcases hx2 with ⟨_, e⟩ | ⟨fl, e⟩
                  · exact ⟨none, 0, e⟩
                  · rw [hys] at e
                    generalize a.eval x = u at e ⊢
                    cases e <;> exact ⟨_, _, rfl⟩
                obtain ⟨c', k', hx0⟩ := hx0
                refine fin (a.eval s) w g2 ?_ (Later.refl ..) R2 hr
                rw [hs, hx0]
                exact run_append_zero w t _ e it ht hit b c' l m k' hlm hbz
              -- something is
              have news : ys ≠ [] → ∃ ad c news, a.eval x = .slice (some ad) ys.length c ∧ news.length = ys.length * it.size ∧ (∀ (j : Nat) (v : Value), news[j]? = some v → w.cell? (ad.add j) = some v) ∧ (∀ v ∈ news, v.oneCell' = true) ∧ Elems g2.mem it.size ys news := by
                intro hys
                rcases hx2 with ⟨e, _⟩ | ⟨fl, e⟩
                · exact absurd e hys
                · exact imm_news e R2.mem hys
              have hmaxl : ∀ q : Nat, q * it.bytes ≤ 2 ^ 47 → q ≤ maxLen ∧ (q : Int) ≤ 9223372036854775807 := by
                intro q hq
                have : q ≤ q * it.bytes := Nat.le_mul_of_pos_right _ hb0
                simp only [maxLen]
                omega
              -- something to what is empty
              have empty : ∀ (p : Bool) (ad0 : Option Addr), ys ≠ [] → a.eval s = .slice ad0 0 0 → v = .lin p e it.size ys → ys.length * it.bytes ≤ 2 ^ 47 → o.wpIn (FW ρ) n C.P a w next Q := by
                intro p ad0 hys hs' hve hb47
                obtain ⟨ad, cp, nw, hxe, hnl, hcell, hone, helm⟩ := news hys
                have hpos : 0 < ys.length := List.length_pos_iff.2 hys
                have hge := grownCap_ge w ys.length 0 e
                obtain ⟨g3, l3, R3, hr3⟩ := grow_new p R2 (d := o.dst.getD 0) (e := e) (sz := it.size) (cap := grownCap w ys.length 0 e) (zs := ys) (all := nw) (Builtin.zeroCells zv.cells (grownCap w ys.length 0 e - ys.length)) helm hge (grownCap_le_maxLen w _ _ e (hmaxl _ hb47).1) (by
                  rw [size_zeroCells, hzsz, hnl, ← Nat.add_mul]; congr 1; omega) hfree
                have hrun : (Builtin.append_ #[t, t] o.type #[.slice ad0 0 0, .slice (some ad) ys.length cp]).run C.P w = .ok (.slice (some ⟨w.heap.size, 0, none⟩) ys.length (grownCap w ys.length 0 e)) (w.drew.alloc (.cells (nw.toArray ++ Builtin.zeroCells zv.cells (grownCap w ys.length 0 e - ys.length)) e)) := by
                  cases ad0 with
                  | none => exact run_append_nil (P := C.P) w t o.type e it zv ht hit hzv ad ys.length cp nw hnl hcell hpos (hmaxl _ hb47).2 (by omega)
                  | some b0 =>
                    have := run_append_grow (P := C.P) w t o.type e it zv ht hit hzv b0 0 0 [] (by simp) (fun j v h => by simp at h) ad ys.length cp nw hnl hcell (by omega) (by have := (hmaxl _ hb47).2; omega) (growslice_fits (by omega) (by rw [Nat.zero_add]; omega))
                    simpa using this
                rw [hve] at fin
                exact fin _ _ g3 (by rw [hs', hxe]; exact hrun) l3 R3 hr3
              unfold vappend at hva
              split at hva
              · -- nil, and nothing
                rename_i hs0
                cases hva
                rw [hs0] at hs2
                have hs' : a.eval s = .slice none 0 0 := by simp only [RepS, RepA, RepC] at hs2; generalize a.eval s = u at hs2 ⊢; cases hs2; rfl
                exact fin0 none 0 0 rfl hs' (Nat.le_refl _) (fun _ => ⟨rfl, rfl⟩) hs2
              · rename_i ys _ _ hs0 hne
                cases hva
                rw [hs0] at hs2
                have hs' : a.eval s = .slice none 0 0 := by simp only [RepS, RepA, RepC] at hs2; generalize a.eval s = u at hs2 ⊢; cases hs2; rfl
                have hys : ys ≠ [] := fun e => hne e
                obtain ⟨ad, cp, nw, hxe, hnl, hcell, hone, helm⟩ := news hys
                have hpos : 0 < ys.length := List.length_pos_iff.2 hys
                have hrun := run_append_nil (P := C.P) w t o.type e it zv ht hit hzv ad ys.length cp nw hnl hcell hpos (hmaxl _ hbytes).2 (by omega)
                have hge := grownCap_ge w ys.length 0 e
                obtain ⟨g3, l3, R3, hr3⟩ := grow_new true R2 (d := o.dst.getD 0) (e := e) (sz := it.size) (cap := grownCap w ys.length 0 e) (zs := ys) (all := nw) (Builtin.zeroCells zv.cells (grownCap w ys.length 0 e - ys.length)) helm hge (grownCap_le_maxLen w _ _ e (hmaxl _ hbytes).1) (by
                  rw [size_zeroCells, hzsz, hnl, ← Nat.add_mul]; congr 1; omega) hfree
                exact fin _ _ g3 (by rw [hs', hxe]; exact hrun) l3 R3 hr3
              · rename_i q ws hs0
                cases hva
                rw [hs0] at hs2
                have hs2' := hs2
                simp only [RepS, RepA, RepC] at hs2'
                generalize hsv : a.eval s = sv at hs2 hs2'
                cases hs2' with
                | none0 => exact fin0 none 0 0 rfl hsv (Nat.le_refl _) (fun _ => ⟨rfl, rfl⟩) (by rw [hsv]; exact hs2)
                | imm _ _ b off cap esz val q1 q2 q3 q4 q5 q6 q7 => exact fin0 _ _ _ rfl hsv q1 (fun h => by cases h) (by rw [hsv]; exact hs2)
              · rename_i ys _ _ q ws hs0 hne
                split at hva
                · rename_i hq
                  subst hq
                  cases hva
                  have hys : ys ≠ [] := fun e => hne e
                  rw [hs0] at hs2
                  simp only [RepS, RepA, RepC] at hs2
                  obtain ⟨ad, cp, nw, hxe, hnl, hcell, hone, helm⟩ := news hys
                  have hpos : 0 < ys.length := List.length_pos_iff.2 hys
                  by_cases hws : ws = []
                  · subst hws
                    have : ∃ ad0, a.eval s = .slice ad0 0 0 := by
                      generalize a.eval s = u at hs2 ⊢
                      cases hs2 with
                      | none0 => exact ⟨_, rfl⟩
                      | imm _ _ b off cap esz val q1 q2 => have := q2 rfl; simp at this; subst this; exact ⟨_, rfl⟩
                    obtain ⟨ad0, hs'⟩ := this
                    exact empty true ad0 hys hs' (by rw [List.nil_append]) (by simpa using hbytes)
                  obtain ⟨ad', cp', ol, hse, hol, hcell', _, helm'⟩ := imm_news hs2 R2.mem hws
                  have hcp : cp' = ws.length := by
                    rw [hse] at hs2
                    cases hs2 with
                    | imm _ _ b off cap esz val q1 q2 q3 q4 q5 q6 q7 => exact q2 rfl
                  subst hcp
                  have hrun := run_append_grow (P := C.P) w t o.type e it zv ht hit hzv ad' ws.length ws.length ol hol hcell' ad ys.length cp nw hnl hcell (by omega) (hmaxl _ hbytes).2 (growslice_fits (by omega) (by omega))
                  have hge := grownCap_ge w (ws.length + ys.length) ws.length e
                  obtain ⟨g3, l3, R3, hr3⟩ := grow_new true R2 (d := o.dst.getD 0) (e := e) (sz := it.size) (cap := grownCap w (ws.length + ys.length) ws.length e) (zs := ws ++ ys) (all := ol ++ nw)
                    (Builtin.zeroCells zv.cells (grownCap w (ws.length + ys.length) ws.length e - (ws.length + ys.length))) (helm'.append helm) (by rw [List.length_append]; exact hge) (grownCap_le_maxLen w _ _ e (hmaxl _ hbytes).1) (by
                    rw [size_zeroCells, hzsz, List.length_append, hnl, hol, ← Nat.add_mul, ← Nat.add_mul]; congr 1; omega) hfree
                  rw [List.length_append] at hr3
                  simp only [List.append_toArray] at hrun
                  exact fin _ _ g3 (by rw [hse, hxe]; exact hrun) l3 R3 hr3
                · cases hva
              · rename_i ys _ _ p e' q ws hs0
                split at hva
                · rename_i hq
                  obtain ⟨rfl, rfl⟩ := hq
                  cases hva
                  rw [hs0] at hs2
                  have hs2' := hs2
                  simp only [RepS, RepA, RepC] at hs2'
                  rcases hs2' with ⟨b, i, hlb, hpl, hpr, ⟨hety, hesz⟩, hse, helm'⟩ | ⟨rfl, hz0, ad0, hse⟩
                  rotate_left
                  · by_cases hys : ys = []
                    · subst hys
                      exact fin0 _ _ _ rfl hse (Nat.le_refl _) (fun h => ⟨rfl, rfl⟩) (by rw [List.append_nil]; exact hs2)
                    · exact empty p ad0 hys hse (by rw [List.nil_append]) (by simpa using hbytes)
                  obtain ⟨k1, ⟨cur, k2, k3, k4⟩, k5, k6, k7, _, _⟩ := R2.lin.at_ b i hlb
                  have hwl : ws.length ≤ i.cap := by rw [helm'.1] at k5; exact Nat.le_of_mul_le_mul_right k5 k7
                  by_cases hys : ys = []
                  · subst hys
                    exact fin0 _ _ _ rfl hse hwl (fun h => by cases h) (by rw [List.append_nil]; exact hs2)
                  · obtain ⟨ad, cp, nw, hxe, hnl, hcell, hone, helm⟩ := news hys
                    have hpos : 0 < ys.length := List.length_pos_iff.2 hys
                    rw [hety] at k2
                    have hol : i.cs.length = ws.length * it.size := by rw [helm'.1, hesz]
                    rw [hesz] at helm' k4 k5
                    have happ := helm'.append helm
                    by_cases hroom : ws.length + ys.length ≤ i.cap
                    · have hfit : ws.length * it.size + nw.length ≤ cur.size := by rw [hnl, k4, ← Nat.add_mul]; exact Nat.mul_le_mul_right _ hroom
                      have hrun := run_append_room (P := C.P) w t o.type _ it ht hit b ws.length i.cap cur k2 ad ys.length cp nw hnl hcell hone hroom hfit
                      obtain ⟨g3, l3, R3, hr3⟩ := grow_room R2 hlb hpl hpr hety hesz k2 happ (by rw [List.length_append]; exact hroom) hfree
                      rw [List.length_append] at hr3
                      rw [hol] at l3 R3
                      exact fin _ _ g3 (by rw [hse, hxe]; exact hrun) l3 R3 hr3
                    · have hcell' : ∀ j u, i.cs[j]? = some u → w.cell? ((⟨b, 0, none⟩ : Addr).add j) = some u := by
                        intro j u hj
                        rw [addr_add, cell_of_heap k2, Nat.zero_add]
                        exact mem_of_prefix k3 hj
                      have hrun := run_append_grow (P := C.P) w t o.type _ it zv ht hit hzv ⟨b, 0, none⟩ ws.length i.cap i.cs hol hcell' ad ys.length cp nw hnl hcell (by omega) (hmaxl _ hbytes).2 (growslice_fits (by omega) (by omega))
                      have hge := grownCap_ge w (ws.length + ys.length) i.cap e'
                      obtain ⟨g3, l3, R3, hr3⟩ := grow_new p R2 (d := o.dst.getD 0) (e := e') (sz := it.size) (cap := grownCap w (ws.length + ys.length) i.cap e') (zs := ws ++ ys) (all := i.cs ++ nw)
                        (Builtin.zeroCells zv.cells (grownCap w (ws.length + ys.length) i.cap e' - (ws.length + ys.length))) happ (by rw [List.length_append]; exact hge) (grownCap_le_maxLen w _ _ _ (hmaxl _ hbytes).1) (by
                        rw [size_zeroCells, hzsz, List.length_append, hnl, hol, ← Nat.add_mul, ← Nat.add_mul]; congr 1; omega) hfree
                      rw [List.length_append] at hr3
                      simp only [List.append_toArray] at hrun
                      exact fin _ _ g3 (by rw [hse, hxe]; exact hrun) l3 R3 hr3
                · cases hva
              · cases hva
            · cases h
          · cases h
        · cases h
      · cases h
    · cases h
  · cases h
end
end Go.Fw
