/- The operations (8): closures, elements, parts of slices, new slices. -/
import Derived.Test.YtcobacfinalleaaFwOps7
import Derived.Laws.OwnMore
set_option linter.all false
namespace Go.Fw
open Go.RowKit

section
variable {C : Cx} {vb : FuncId → List V → List Blk → Option FOut} {f : FuncId} {ρ : Option Nat} {n : Nat} {o : Oper} {st : St} {α : Type} {k kp : V → St → Option α} {out : α}
  {B τ : Nat} {g : Gh} {a : Act} {w : World} {next : Act → World → Prop} {Q : Exit → Act → World → Prop}

theorem RepC.repP {g : Gh} {p : Place} {v : V} {u : Value} (h : RepC g p v u) (hv : capOk v = true) : RepP g v u := by
  cases v <;> simp only [capOk] at hv <;> first | exact h | cases hv | skip
  simp only [Bool.and_eq_true, List.isEmpty_iff] at hv
  obtain ⟨rfl, rfl⟩ := hv
  obtain ⟨x, y, rfl, h1, h2, _, _⟩ := h
  exact RepI.fn _ _ _ _ _ h1 h2 (fun j c hj hc => by cases hc) (fun j c hj hc => by cases hc)
theorem repS_cell {g : Gh} {τ d : Nat} {v : V} {u : Value} (h : RepS g τ d v u) (hc : isCell v = true) (hu : v ≠ .undef) : RepC g (.slot τ d 0 0) v u := by
  rw [repS_notTup (by intro vs e; subst e; cases hc)] at h
  rcases repA_inv h with e | h | ⟨vs, e⟩
  · exact absurd e hu
  · exact h
  · subst e; cases hc

theorem op_makeFunc {fn' : Fn} {first caps : Array Operand} (ho : o.op = .makeFunc fn' first caps) (h : vop C vb f o st k kp = some out) (hR : R B τ g st a w) (hk : Goes B τ g a w o.dst k out next) : o.wpIn (FW ρ) n C.P a w next Q := by
  unfold vop at h
  rw [ho] at h
  dsimp only at h
  split at h
  · rename_i hok
    obtain ⟨g', l1, hR', hrep⟩ := uses_sound (first.toList ++ caps.toList) hR
    have cap : ∀ (x : Operand), capOk (st.useV x) = true → (∃ j : Nat, (first.toList ++ caps.toList)[j]? = some x) → RepP g' (st.useV x) (a.eval x) := by
      intro x hx ⟨j, hj⟩
      have := hrep j x hj 0 0
      refine (repS_cell this ?_ ?_).repP hx
      · cases hv : st.useV x <;> rw [hv] at hx <;> first | rfl | cases hx
      · intro e; rw [e] at hx; cases hx
    simp only [Bool.and_eq_true, List.all_eq_true] at hok
    refine wp_value (by simp [ho]) (v := .func fn' (first.map a.eval) (caps.map a.eval)) (w' := w) (by simp [execOp, ho, Instr.makeFunc]) (hk _ _ g' _ w l1 hR' ?_ h)
    refine ⟨first.map a.eval, caps.map a.eval, rfl, by simp, by simp, fun j c hj hc => ?_, fun j c hj hc => ?_⟩
    · rw [List.getElem?_map] at hc
      obtain ⟨x, hx, rfl⟩ := Option.map_eq_some_iff.1 hc
      have hj' : j < first.size := by simpa using hj
      have e : first[j] = x := by
        rw [Array.getElem?_toList, Array.getElem?_eq_getElem hj'] at hx
        exact Option.some.inj hx
      rw [Array.getElem_map, e]
      exact cap x (hok.1 _ (List.mem_map.2 ⟨x, List.mem_of_getElem? hx, rfl⟩)) ⟨j, by rw [List.getElem?_append_left (by simpa using hj')]; exact hx⟩
    · rw [List.getElem?_map] at hc
      obtain ⟨x, hx, rfl⟩ := Option.map_eq_some_iff.1 hc
      have hj' : j < caps.size := by simpa using hj
      have e : caps[j] = x := by
        rw [Array.getElem?_toList, Array.getElem?_eq_getElem hj'] at hx
        exact Option.some.inj hx
      rw [Array.getElem_map, e]
      exact cap x (hok.2 _ (List.mem_map.2 ⟨x, List.mem_of_getElem? hx, rfl⟩)) ⟨first.toList.length + j, by rw [List.getElem?_append_right (by omega)]; simpa using hx⟩
  · cases h

theorem bindT {P : Program} {t : TypeId} {m : Nat} (h : (elemT P t).bind (sizeT P) = some m) : ∃ e, P.underlying t = some (.slice e) ∧ sizeT P e = some m := by
  obtain ⟨e, he, hm⟩ := Option.bind_eq_some_iff.1 h
  exact ⟨e, sliceT he, hm⟩

theorem repI_elem {m : Mem} {full : Bool} {esz : Nat} {xs : List V} {u : Value} (h : RepI m (.imm full esz xs) u) {i : Nat} {e : V} (he : xs[i]? = some e) :
    ∃ b off cap, u = .slice (some ⟨b, off, none⟩) xs.length cap ∧ RepI m (.iptr e 0) (.pointer (some ⟨b, off + i * esz, none⟩)) := by
  cases h with
  | none0 => simp at he
  | imm _ _ b off cap _ val hc hf hm hz hl hs hv sp hp =>
    have hlt := (List.getElem?_eq_some_iff.1 he).1
    have hsp : sp = none := by
      rcases hp with h | h
      · exact h
      · omega
    subst hsp
    refine ⟨b, off, cap, rfl, ?_⟩
    have := RepI.iptr e 0 b (off + i * esz) (fun j => val i j) (fun j c hj => hs i e j c he hj) (fun j c hj => hv i e j c he hj)
    simpa using this

theorem run_indexAt {P : Program} {t e : TypeId} {m : Nat} (ht : P.underlying t = some (.slice e)) (hm : sizeT P e = some m) (b off len cap : Nat) (kk : IntKind) (i : Int) (h0 : 0 ≤ i) (h1 : i < len) (w : World) :
    (Instr.indexAt t (.slice (some ⟨b, off, none⟩) len cap) (.int kk i)).run P w = .ok (.pointer (some ⟨b, off + i.toNat * m, none⟩)) w := by
  simp [Instr.indexAt, asIntOf, run_underlying ht, h0, h1, sizeT_some hm w, addr_add]

theorem op_indexAddr {t : TypeId} {x i : Operand} (ho : o.op = .indexAddr t x i) (h : vop C vb f o st k kp = some out) (hR : R B τ g st a w) (hk : Goes B τ g a w o.dst k out next) : o.wpIn (FW ρ) n C.P a w next Q := by
  obtain ⟨dx, hx⟩ := peek_rep hR x
  obtain ⟨di, hi⟩ := peek_rep hR i
  unfold vop at h
  rw [ho] at h
  dsimp only at h
  split at h
  · rename_i kk j hj
    rw [hj] at hi
    have ei := rep_int hi
    split at h
    · rename_i full m xs hp
      rw [hp] at hx
      split at h
      · rename_i hb
        obtain ⟨e, ht, hm⟩ := bindT hb
        obtain ⟨v, hv, h⟩ := bindO_eq h
        obtain ⟨h0, h1, h2⟩ := idx_some hv
        obtain ⟨b, off, cap, eu, hrep⟩ := repI_elem hx h2
        exact wp_value (by simp [ho]) (by simp [execOp, ho, eu, ei, run_indexAt ht hm b off xs.length cap kk j h0 h1 w]) (hk (.iptr v 0) st g _ w (Later.refl ..) hR hrep h)
      · cases h
    · rename_i pr et m xs hp
      split at h
      · rename_i hb
        obtain ⟨e, ht, hm⟩ := bindT hb
        obtain ⟨v, hv, h⟩ := bindO_eq h
        obtain ⟨h0, h1, h2⟩ := idx_some hv
        obtain ⟨g', l1, hR', hrep'⟩ := use_sound hR x
        have hx' := hrep' 0 0
        have hux : st.useV x = .imm false m xs := by unfold St.useV; rw [hp]; rfl
        rw [hux] at hx'
        obtain ⟨b, off, cap, eu, hrep⟩ := repI_elem hx' h2
        exact wp_value (by simp [ho]) (by simp [execOp, ho, eu, ei, run_indexAt ht hm b off xs.length cap kk j h0 h1 w]) (hk (.iptr v 0) _ g' _ w l1 hR' hrep h)
      · cases h
    · rename_i id off len room hp
      rw [hp] at hx
      split at h
      · rename_i m hb
        obtain ⟨e, ht, hm⟩ := bindT hb
        rcases condB_cases h with ⟨hc, h⟩ | ⟨_, h⟩
        · simp only [decide_eq_true_eq] at hc
          rcases hx with ⟨b, cap, hl, eu, _⟩ | ⟨h0, _⟩
          rotate_left
          · exfalso; omega
          exact wp_value (by simp [ho]) (by simp [execOp, ho, eu, ei, run_indexAt ht hm b off len cap kk j hc.1 hc.2 w]) (hk (.ptr id (off + j.toNat * m)) st g _ w (Later.refl ..) hR ⟨b, hl, rfl⟩ h)
        · cases h
      · cases h
    · cases h
  · cases h

/-! ### a part of a slice -/
theorem run_slice_gen {P : Program} {t e : TypeId} {m : Nat} (ht : P.underlying t = some (.slice e)) (hm : sizeT P e = some m) (ad : Option Addr) (len cap l h mx : Nat) (hl : l ≤ h) (hh : h ≤ mx) (hmx : mx ≤ cap)
    (lo hi mo : Option Value) (h1 : (lo = none ∧ l = 0) ∨ ∃ kk, lo = some (.int kk l)) (h2 : (hi = none ∧ h = len ∧ mo = none) ∨ ∃ kk, hi = some (.int kk h)) (h3 : (mo = none ∧ mx = cap) ∨ ∃ kk, mo = some (.int kk mx)) (w : World) :
    (Instr.sliceAt t (.slice ad len cap) lo hi mo).run P w = .ok (sliced ad l h mx m) w := by
  have hel : P.elem t = e := by simp [Program.elem, ht]
  have ht' : P.underlying t = some (.slice (P.elem t)) := by rw [hel]; exact ht
  rw [run_sliceAt_slice w t _ _ _ _ ht', run_slice_any w t ad len cap ht']
  rw [hel]
  simp only [Instr.sliceBounds]
  rcases h1 with ⟨rfl, rfl⟩ | ⟨k1, rfl⟩ <;> rcases h2 with ⟨rfl, rfl, rfl⟩ | ⟨k2, rfl⟩ <;> rcases h3 with ⟨h3a, rfl⟩ | ⟨k3, h3a⟩ <;> (try subst h3a) <;> (try cases h3a) <;>
    simp [run_sliceBound, sizeT_some hm, hl, hh, hmx, Int.ofNat_le]

theorem rep_part {m : Mem} {full full' : Bool} {esz : Nat} {xs : List V} {u : Value} (hr : RepI m (.imm full esz xs) u) {l h mx len cap : Nat} {ad : Option Addr} (eu : u = .slice ad len cap) (hl : l ≤ h) (hh : h ≤ xs.length) (hmx : h ≤ mx) (hmc : mx ≤ cap) (hf : full' = true → mx = h) :
    RepI m (.imm full' esz ((xs.take h).drop l)) (sliced ad l h mx esz) ∧ len = xs.length := by
  cases hr with
  | none0 _ _ hz =>
    cases eu
    have e1 : h = 0 := by simpa using hh
    subst e1
    obtain rfl : l = 0 := by omega
    obtain rfl : mx = 0 := by omega
    exact ⟨repI_empty hz none, rfl⟩
  | imm _ _ b off cap0 _ val hc hf0 hm hz hlx hs hv sp hp =>
    cases eu
    have hlen : ((xs.take h).drop l).length = h - l := by simp; omega
    refine ⟨?_, rfl⟩
    unfold sliced
    have hget : ∀ (i : Nat) (x : V), ((xs.take h).drop l)[i]? = some x → xs[l + i]? = some x := by
      intro i x hi
      rw [List.getElem?_drop, List.getElem?_take] at hi
      split at hi
      · exact hi
      · cases hi
    by_cases hml : mx = l
    · rw [if_pos hml]
      have e0 : (xs.take h).drop l = [] := by apply List.eq_nil_of_length_eq_zero; omega
      rw [e0, show h - l = 0 by omega, show mx - l = 0 by omega]
      exact RepI.imm full' [] b off 0 esz (fun _ _ => default) (Nat.le_refl 0) (fun _ => rfl) (by simp [maxLen]) hz (fun i x hx => by cases hx) (fun i x j c hx => by cases hx) (fun i x j c hx => by cases hx) sp (.inr rfl)
    · have hsp : sp = none := by
        rcases hp with h | h
        · exact h
        · omega
      subst hsp
      rw [if_neg hml]
      simp only [Option.map_some, addr_add]
      have := RepI.imm (m := m) full' ((xs.take h).drop l) b (off + l * esz) (mx - l) esz (fun i j => val (l + i) j) (by rw [hlen]; omega) (fun hft => by rw [hlen, hf hft]) (by omega) hz
        (fun i x hx => hlx _ x (hget i x hx))
        (fun i x j c hx hj => by
          obtain ⟨h1, h2⟩ := hs _ x j c (hget i x hx) hj
          refine ⟨h1, ?_⟩
          rw [← h2]; congr 1; rw [Nat.add_mul]; omega)
        (fun i x j c hx hj => hv _ x j c (hget i x hx) hj)
      rwa [hlen] at this
end
end Go.Fw
