/- The operations (14): make. -/
import Derived.Test.YtcobacfinalleaaFwOps13
set_option linter.all false
namespace Go.Fw
open Go.RowKit

theorem repl_get {α : Type} {n i : Nat} {z x : α} (h : (List.replicate n z)[i]? = some x) : x = z ∧ i < n := by
  have hi := (List.getElem?_eq_some_iff.1 h).1
  have h2 := (List.getElem?_eq_some_iff.1 h).2
  simp at h2 hi
  exact ⟨h2.symm, hi⟩

section
variable {C : Cx} {vb : FuncId → List V → List Blk → Option FOut} {f : FuncId} {ρ : Option Nat} {n : Nat} {o : Oper} {st : St} {α : Type} {k kp : V → St → Option α} {out : α}
  {B τ : Nat} {g : Gh} {a : Act} {w : World} {next : Act → World → Prop} {Q : Exit → Act → World → Prop}

theorem op_makeSlice {t : TypeId} {l c : Operand} (ho : o.op = .makeSlice t l c) (h : vop C vb f o st k kp = some out) (hR : R B τ g st a w) (hk : Goes B τ g a w o.dst k out next) : o.wpIn (FW ρ) n C.P a w next Q := by
  unfold vop at h
  rw [ho] at h
  dsimp only at h
  split at h
  · rename_i e he
    have ht := sliceT he
    split at h
    · rename_i sz by_ z k1 nl k2 nc hsz hby hz hl hc
      rcases condB_cases h with ⟨hcond, h⟩ | ⟨_, h⟩
      · simp only [decide_eq_true_eq] at hcond
        obtain ⟨h0, h1, h2, h3, h4, h5, h6⟩ := hcond
        obtain ⟨dl, hdl⟩ := peek_rep hR l
        obtain ⟨dc, hdc⟩ := peek_rep hR c
        rw [hl] at hdl; rw [hc] at hdc
        have el := rep_int hdl
        have ec := rep_int hdc
        obtain ⟨it, zv, hit, hzv, ez⟩ := zeroT_eq hz
        subst ez
        obtain ⟨c1, c2⟩ := ofVal_cells (g := g) h6
        have hszi : it.size = sz := by unfold sizeT at hsz; rw [hit] at hsz; simpa using hsz
        have hbyi : it.bytes = by_ := by unfold bytesT at hby; rw [hit] at hby; simpa using hby
        have hrun := run_make (P := C.P) w t e it zv ht hit hzv k1 k2 nl nc h0 h1 (by rw [hbyi]; rw [Int.mul_comm]; omega) (by omega)
        obtain ⟨N, rfl⟩ := Int.eq_ofNat_of_zero_le h0
        obtain ⟨M, rfl⟩ := Int.eq_ofNat_of_zero_le (by omega : 0 ≤ nc)
        simp only [Int.toNat_natCast] at hrun h
        rw [hszi] at hrun
        have hzsz : zv.cells.size = sz := by rw [← c1]; exact h4
        split at h
        · rename_i hcnd
          obtain ⟨hfl2, _⟩ := hcnd
          rcases condB_cases h with ⟨hNM, h2'⟩ | ⟨_, h2'⟩
          · simp only [decide_eq_true_eq] at hNM
            have hNM : N = M := by omega
            subst hNM
            let cur := madeCells zv.cells (N * sz)
            obtain ⟨l2, hR2⟩ := new_mem hR cur e
            refine wp_value (by simp [ho]) (v := .slice (some ⟨w.heap.size, 0, none⟩) N N) (w' := w.alloc (.cells cur e)) (by simp only [execOp, ho, el, ec]; exact run_v hrun) (hk _ _ _ _ _ l2 hR2 ?_ h2')
            have hmem : ∀ p, stAt (g.addMem w.heap.size cur.toList).mem w.heap.size p = cur.toList[p]? := by intro p; simp [stAt, Gh.addMem]
            have hz5 : okV (ofVal zv) = true := h6
            obtain ⟨q1, q2⟩ := flat_cells (ofVal_rep g 0 0 zv) hz5 hfl2
            have hcur : ∀ (i j : Nat) (hi : i < N) (hj : j < zv.cells.size), cur.toList[i * sz + j]? = some zv.cells[j] := by
              intro i j hi hj
              have hlt : i * sz + j < N * sz := by
                have : (i + 1) * sz ≤ N * sz := Nat.mul_le_mul_right _ hi
                rw [Nat.add_mul, Nat.one_mul] at this
                omega
              have hmod : (i * sz + j) % zv.cells.size = j := by
                rw [hzsz, Nat.mul_comm, Nat.mul_add_mod]
                exact Nat.mod_eq_of_lt (by omega)
              rw [Array.getElem?_toList]
              simp only [cur, madeCells]
              rw [Array.getElem?_map, Array.getElem?_range]
              rw [if_pos hlt]
              simp only [Option.map_some, hmod]
              rw [getElem!_pos zv.cells j hj]
            have himm := RepI.imm (m := (g.addMem w.heap.size cur.toList).mem) true (List.replicate N (ofVal zv)) w.heap.size 0 N sz (fun i j => (cur.toList[i * sz + j]?).getD default) (by simp) (fun _ => by simp) (by simp only [maxLen]; omega) h5
              (fun i v hv => by obtain ⟨rfl, _⟩ := repl_get hv; exact h4)
              (fun i v j c hv hc => by
                obtain ⟨rfl, hi⟩ := repl_get hv
                have hj : j < zv.cells.size := by rw [← q1]; exact (List.getElem?_eq_some_iff.1 hc).1
                refine ⟨(q2 j c hj hc).1, ?_⟩
                rw [Nat.zero_add, hmem, hcur i j hi hj]; rfl)
              (fun i v j c hv hc => by
                obtain ⟨rfl, hi⟩ := repl_get hv
                have hj : j < zv.cells.size := by rw [← q1]; exact (List.getElem?_eq_some_iff.1 hc).1
                rw [hcur i j hi hj]
                exact (q2 j c hj hc).2.mono l2.mem)
            rw [List.length_replicate] at himm
            exact himm
          · cases h2'
        · have hfl : ((List.replicate M (ofVal zv).cells).flatten).length = M * sz := by simp [h4]
          have hget : ∀ (j : Nat) (x : V), ((List.replicate M (ofVal zv).cells).flatten)[j]? = some x → (ofVal zv).cells[j % sz]? = some x := by
            intro j x hx
            have hj := (List.getElem?_eq_some_iff.1 hx).1
            rw [hfl] at hj
            exact flat_get M (ofVal zv).cells sz h4 h5 j x hx
          obtain ⟨g'', q1, q2, q3, q4, q5, q6⟩ := new_block hR ((List.replicate M (ofVal zv).cells).flatten) (madeCells zv.cells (M * sz)) e (by rw [hfl, size_madeCells]; exact Nat.le_refl _) (fun j x hj hx => by
            have hx' := hget j x hx
            have hjm : j % sz < zv.cells.size := by rw [hzsz]; exact Nat.mod_lt _ h5
            have hv := c2 (.cell st.h.length j) (j % sz) x hjm hx'
            have : (madeCells zv.cells (M * sz))[j] = zv.cells[j % sz] := by
              simp only [madeCells, Array.getElem_map, Array.getElem_range]
              rw [getElem!_pos zv.cells (j % zv.cells.size) (by rw [hzsz]; exact Nat.mod_lt _ h5)]
              congr 1; rw [hzsz]
            rw [this]; exact hv)
          refine wp_value (by simp [ho]) (v := .slice (some ⟨w.heap.size, 0, none⟩) N M) (w' := w.alloc (.cells (madeCells zv.cells (M * sz)) e)) ?_ (hk (.own st.h.length 0 N M) _ g'' _ _ q1 q2 (.inl ⟨_, M, q3, rfl, by omega, by simp only [maxLen]; omega, Nat.le_refl _⟩) h)
          simp only [execOp, ho, el, ec]
          exact run_v hrun
      · cases h
    · cases h
  · cases h
end
end Go.Fw
