/- The operations (6): lengths, letters, parts, closures, elements. -/
import Derived.Test.YtcobacfinalleaaFwOps5
import Derived.Laws.Slices
set_option linter.all false
namespace Go.Fw
open Go.RowKit

section
variable {C : Cx} {vb : FuncId → List V → List Blk → Option FOut} {f : FuncId} {ρ : Option Nat} {n : Nat} {o : Oper} {st : St} {α : Type} {k kp : V → St → Option α} {out : α}
  {B τ : Nat} {g : Gh} {a : Act} {w : World} {next : Act → World → Prop} {Q : Exit → Act → World → Prop}

theorem rep_imm {g : Gh} {τ d : Nat} {b : Bool} {m : Nat} {xs : List V} {u : Value} (h : RepS g τ d (.imm b m xs) u) : RepI g.mem (.imm b m xs) u := h

theorem op_len {c : Call} (ho : o.op = .call c) (hb : c.callee = .builtin .len) (h : vop C vb f o st k kp = some out) (hR : R B τ g st a w) (hk : Goes B τ g a w o.dst k out next) : o.wpIn (FW ρ) n C.P a w next Q := by
  unfold vop at h
  rw [ho] at h
  dsimp only at h
  rw [hb] at h
  dsimp only at h
  split at h
  · rename_i x t hx' ht
    obtain ⟨dx, hx⟩ := peek_rep hR x
    have ea : c.args = #[x] := by rw [← Array.toList_inj]; exact hx'
    have et : c.argTypes = #[t] := by rw [← Array.toList_inj]; exact ht
    have fin : ∀ m : Nat, k (.int .i64 m) st = some out → (Builtin.len_ #[t] o.type #[a.eval x]).run C.P w = .ok (.int .i64 m) w → o.wpIn (FW ρ) n C.P a w next Q := by
      intro m h hrun
      refine wp_value (by simp [ho]) (v := .int .i64 m) (w' := w) ?_ (hk (.int .i64 m) st g _ w (Later.refl ..) hR (RepI.int .i64 m) h)
      simp [execOp, ho, resolve, hb, ea, et, invoke, builtin, hrun]
    split at h
    · rename_i s hu hs
      rw [hs] at hx
      have ex := rep_str hx
      exact fin _ h (by rw [ex]; simp [Builtin.len_, run_underlying hu, goInt])
    · cases h
    · rename_i e hu hns
      split at h
      · rename_i m hm
        rcases slen_rep hx hm with ⟨ad, cp, eu⟩ | ⟨s, eu, hsz⟩
        · exact fin _ h (by rw [eu]; simp [Builtin.len_, run_underlying hu, goInt])
        · exfalso
          rw [eu] at hx
          generalize st.peek x = v at hx hm hns
          unfold slen at hm
          split at hm <;> first | cases hm | skip
          all_goals (simp only [RepS, RepA, RepC] at hx)
          · cases hx
          · cases hx
          · cases hx
          · rcases hx with ⟨_, _, _, _, _, _, e, _⟩ | ⟨_, _, _, e⟩ <;> cases e
          · rcases hx with ⟨_, _, _, e, _⟩ | ⟨_, _, _, e⟩ <;> cases e
          · exact hns _ rfl
      · cases h
    · cases h
  · cases h

theorem idx_some {α : Type} {xs : List α} {i : Int} {x : α} (h : idx xs i = some x) : 0 ≤ i ∧ i < xs.length ∧ xs[i.toNat]? = some x := by
  unfold idx at h
  split at h
  · rename_i h0
    have := (List.getElem?_eq_some_iff.1 h).1
    exact ⟨h0, by omega, h⟩
  · cases h

theorem op_index {t : TypeId} {x i : Operand} (ho : o.op = .index t x i) (h : vop C vb f o st k kp = some out) (hR : R B τ g st a w) (hk : Goes B τ g a w o.dst k out next) : o.wpIn (FW ρ) n C.P a w next Q := by
  obtain ⟨dx, hx⟩ := peek_rep hR x
  obtain ⟨di, hi⟩ := peek_rep hR i
  unfold vop at h
  rw [ho] at h
  dsimp only at h
  split at h
  case h_2 => cases h
  rename_i ht
  split at h
  · rename_i s kk j hs hj
    rw [hs] at hx; rw [hj] at hi
    have ex := rep_str hx
    have ei := rep_int hi
    obtain ⟨b, hb, h⟩ := bindO_eq h
    obtain ⟨h0, h1, h2⟩ := idx_some hb
    have hsz : s.data.toList.length = s.size := by rw [Array.length_toList]; rfl
    have hlt : j.toNat < s.size := by omega
    have hget : s[j.toNat]? = some b := by
      rw [Array.getElem?_toList] at h2
      have : s[j.toNat]? = s.data[j.toNat]? := by
        rw [getElem?_pos s j.toNat hlt, getElem?_pos s.data j.toNat hlt]; rfl
      rw [this]; exact h2
    refine wp_value (by simp [ho]) (v := .int .u8 b.toNat) (w' := w) ?_ (hk (.int .u8 b.toNat) st g _ w (Later.refl ..) hR (RepI.int .u8 b.toNat) h)
    simp [execOp, ho, Instr.index, ex, ei, asIntOf, run_underlying ht, h0, hget]
  · cases h

theorem op_field {t : TypeId} {x : Operand} {j : Nat} (ho : o.op = .field t x j) (h : vop C vb f o st k kp = some out) (hR : R B τ g st a w) (hk : Goes B τ g a w o.dst k out next) : o.wpIn (FW ρ) n C.P a w next Q := by
  unfold vop at h
  rw [ho] at h
  dsimp only at h
  split at h
  · rename_i fl hfl
    obtain ⟨fs, hu, hfs⟩ := fieldT_some hfl
    split at h
    · rename_i gg m hg hm
      split at h
      · rename_i cs hcs
        split at h
        · rename_i hle
          split at h
          · rename_i v hv
            obtain ⟨g', l1, hR', hrep⟩ := use_sound hR x
            have hx := hrep 0 0
            have hux : st.useV x = .agg (cs.map demote1) := by unfold St.useV; rw [hcs]; rfl
            rw [hux] at hx
            obtain ⟨us, eu, cu⟩ := cellsS hx
            have hl : us.length = cs.length := by have := cu.1; simpa using this.symm
            have hlen : (((cs.drop fl.offset).take m).map demote1).length = m := by simp; omega
            have h1 : gg = false → fl.offset < us.length ∧ 0 < m := by
              intro hgf
              rcases ofCells_some hv with ⟨e1, _⟩ | ⟨_, e1⟩
              · rw [hgf] at e1; cases e1
              · have : m = 1 := by rw [← hlen, e1]; rfl
                omega
            refine wp_value (by simp [ho]) (v := valT gg ((us.drop fl.offset).take m)) (w' := w) ?_ (hk v _ g' _ w l1 hR' ?_ h)
            · simp [execOp, ho, Instr.field, run_underlying hu, hfs, eu, asAgg, run_part hg hm us fl.offset h1 w]
            · refine rep_ofCells hv (by rw [hlen]; simp; omega) (fun jj y u hy hu' => ?_)
              rw [List.getElem?_map, takeDrop_get] at hy
              rw [takeDrop_get] at hu'
              split at hu'
              · rename_i hjm
                rw [if_pos hjm] at hy
                obtain ⟨c0, hc0, rfl⟩ := Option.map_eq_some_iff.1 hy
                obtain ⟨p, hp⟩ := cu.2 (fl.offset + jj) (demote1 c0) u (by rw [List.getElem?_map, hc0]; rfl) hu'
                exact hp.any (by cases c0 <;> rfl)
              · cases hu'
          · cases h
        · cases h
      · cases h
    · cases h
  · cases h
end
end Go.Fw
