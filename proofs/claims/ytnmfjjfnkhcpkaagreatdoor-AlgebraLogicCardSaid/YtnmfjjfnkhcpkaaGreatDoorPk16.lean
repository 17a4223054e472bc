/- Algebra: what the cards' premise says of the tables that are read; a world where it holds. -/
import Derived.Test.YtnmfjjfnkhcpkaaGreatDoorPk15
import Derived.Test.YtnmfjjfnkhcpkaaGreatDoorTie
import Derived.Lib.LaidU8
import Derived.Lay
import Derived.LaidMore
set_option linter.all false
set_option maxRecDepth 100000
namespace Go.Fw
open Go.RowKit

abbrev laidL : List (String × DataW Unit) := Go.Proofs.YtnmfjjfnkhcpkaaGreatDoor.Rows.algebraEvalsRow.laid
theorem var_cells {P : Program} {w : World} {n : String} {g : Nat} {cs : Array Value} (hg : P.globalNamed n = some g) (h : w.var? P n = some cs) : ∃ e fr, w.heap[g]? = some (.cells cs e fr) := by
  simp only [World.var?, hg, Option.bind_some] at h
  split at h
  · rename_i c e fr hc
    cases h
    exact ⟨e, fr, hc⟩
  · cases h
theorem tab_of {P : Program} {w : World} {name : String} {d : DataW Unit} {nums : List Nat} {g t e n : Nat} (hd : d = Lib.tabData .u8 (nums.map fun (n : Nat) => (n : Int))) (hg : P.globalNamed name = some g) (hty : (P.globals[g]?).map (·.type) = some t) (ht : P.underlying t = some (.array n e)) (he : P.underlying e = some (.int .u8)) (hce : P.cellsOf e = 1) (hct : P.cellsOf t = n)
    (h : Lib.VarReads P w name d) : ∃ cur e fr, w.heap[g]? = some (.cells cur e fr) ∧ (nums.map fun (n : Nat) => Value.int .u8 (n : Int)) <+: cur.toList := by
  obtain ⟨g', t', cs, fuel, p, hg', ht', hvar, htr⟩ := h
  obtain rfl := Option.some.inj (hg.symm.trans hg')
  obtain rfl := Option.some.inj (hty.symm.trans ht')
  obtain ⟨e', fr, hh⟩ := var_cells hg hvar
  rw [hd] at htr
  have := Lib.cells_of_tab ht he hce hct htr
  refine ⟨cs, e', fr, hh, ?_⟩
  rw [this, List.map_map]
  exact List.prefix_refl _
theorem pairs_of {P : Program} {w : World} {name : String} {nums : List Nat} {ds : List (DataW Unit)} {g t e n : Nat} {fs : Array Field} (hds : ds = (List.range n).map fun i => .agg ([((nums.getD (2 * i) 0 : Nat) : Int), ((nums.getD (2 * i + 1) 0 : Nat) : Int)].map fun z => .lit (.int .u8 z))) (hlen : nums.length = 2 * n) (hg : P.globalNamed name = some g) (hty : (P.globals[g]?).map (·.type) = some t)
    (ht : P.underlying t = some (.array n e)) (he : P.underlying e = some (.struct fs)) (hfs : fs.size = 2) (hf : ∀ (i : Nat) (f : Field), fs[i]? = some f → P.underlying f.type = some (.int .u8) ∧ f.offset = i ∧ P.cellsOf f.type = 1) (hce : P.cellsOf e = 2)
    (h : Lib.VarReads P w name (.agg ds)) : ∃ cur e fr, w.heap[g]? = some (.cells cur e fr) ∧ (nums.map fun (n : Nat) => Value.int .u8 (n : Int)) <+: cur.toList := by
  obtain ⟨g', t', cs, fuel, p, hg', ht', hvar, htr⟩ := h
  obtain rfl := Option.some.inj (hg.symm.trans hg')
  obtain rfl := Option.some.inj (hty.symm.trans ht')
  obtain ⟨e', fr, hh⟩ := var_cells hg hvar
  refine ⟨cs, e', fr, hh, ?_⟩
  have key : ∀ i, i < n → cs.toList[2 * i]? = some (.int .u8 ((nums.getD (2 * i) 0 : Nat) : Int)) ∧ cs.toList[2 * i + 1]? = some (.int .u8 ((nums.getD (2 * i + 1) 0 : Nat) : Int)) := by
    intro i hi
    obtain ⟨fuel', d, q, hdi, hel⟩ := Lib.array_elem ht htr i hi
    rw [hds] at hdi
    simp only [List.getElem?_map, List.getElem?_range hi, Option.map_some, Option.some.injEq] at hdi
    subst hdi
    rw [hce] at hel
    have hcs := Lib.ints_of_struct he hf (by rw [hce, hfs]) hel
    have e0 := congrArg (·[0]?) hcs
    have e1 := congrArg (·[1]?) hcs
    simp only [List.getElem?_take, List.getElem?_drop] at e0 e1
    constructor
    · simpa [Nat.mul_comm] using e0
    · simpa [Nat.mul_comm] using e1
  have hle : (nums.map fun (n : Nat) => Value.int .u8 (n : Int)).length ≤ cs.toList.length := by
    rw [List.length_map, hlen]
    cases n with
    | zero => omega
    | succ n =>
      have := (List.getElem?_eq_some_iff.1 (key n (by omega)).2).1
      omega
  rw [List.prefix_iff_eq_take]
  apply List.ext_getElem?
  intro j
  rw [List.getElem?_take]
  by_cases hj : j < nums.length
  · rw [if_pos (by rw [List.length_map]; exact hj)]
    obtain ⟨i, hi⟩ : ∃ i, j = 2 * i ∨ j = 2 * i + 1 := ⟨j / 2, by omega⟩
    rcases hi with rfl | rfl
    · rw [(key i (by omega)).1]
      simp [List.getD, hj]
    · rw [(key i (by omega)).2]
      simp [List.getD, hj]
  · rw [if_neg (by rw [List.length_map]; exact hj)]
    rw [List.getElem?_eq_none (by rw [List.length_map]; omega)]
def nums0 : List Nat := (globNums 0).getD []
def nums1 : List Nat := (globNums 1).getD []
def nums4 : List Nat := (globNums 4).getD []
def accDs : List (DataW Unit) := match (Go.Proofs.YtnmfjjfnkhcpkaaGreatDoor.Rows.laid_unicode_utf8_acceptRanges : DataW Unit) with
  | .agg ds => ds
  | _ => []
theorem globOk_of {W : World} (h : laidMetH Go.Proofs.Tryz.prog laidL W) : GlobOk W := by
  rw [MakeChecks.laidMetH_plain _ _ _ (by kernel_rfl)] at h
  obtain ⟨ps, hv, _, _⟩ := h
  have reads := Lib.LaidVars_reads hv
  have r0 := reads "unicode/utf8.first" Go.Proofs.YtnmfjjfnkhcpkaaGreatDoor.Rows.laid_unicode_utf8_first (by simp [laidL, Go.Proofs.YtnmfjjfnkhcpkaaGreatDoor.Rows.algebraEvalsRow])
  have r1 := reads "unicode/utf8.acceptRanges" Go.Proofs.YtnmfjjfnkhcpkaaGreatDoor.Rows.laid_unicode_utf8_acceptRanges (by simp [laidL, Go.Proofs.YtnmfjjfnkhcpkaaGreatDoor.Rows.algebraEvalsRow])
  have r4 := reads "strings.asciiSpace" Go.Proofs.YtnmfjjfnkhcpkaaGreatDoor.Rows.laid_strings_asciiSpace (by simp [laidL, Go.Proofs.YtnmfjjfnkhcpkaaGreatDoor.Rows.algebraEvalsRow])
  have t0 := tab_of (nums := nums0) (g := 0) (t := 150) (e := 5) (n := 256) (by kernel_rfl) (by kernel_rfl) (by kernel_rfl) (by kernel_rfl) (by kernel_rfl) (by kernel_rfl) (by kernel_rfl) r0
  have t4 := tab_of (nums := nums4) (g := 4) (t := 150) (e := 5) (n := 256) (by kernel_rfl) (by kernel_rfl) (by kernel_rfl) (by kernel_rfl) (by kernel_rfl) (by kernel_rfl) (by kernel_rfl) r4
  have e1 : (Go.Proofs.YtnmfjjfnkhcpkaaGreatDoor.Rows.laid_unicode_utf8_acceptRanges : DataW Unit) = .agg accDs := rfl
  rw [e1] at r1
  have t1 := pairs_of (nums := nums1) (g := 1) (t := 153) (e := 152) (n := 16) (fs := #[{ name := "lo", type := 5, offset := 0, embedded := false, tag := "", pkgPath := "unicode/utf8", byteOffset := 0 }, { name := "hi", type := 5, offset := 1, embedded := false, tag := "", pkgPath := "unicode/utf8", byteOffset := 1 }]) (by kernel_rfl) (by kernel_rfl) (by kernel_rfl) (by kernel_rfl) (by kernel_rfl) (by kernel_rfl) rfl (fun i f hf => by
    match i, hf with
    | 0, hf => cases hf; exact ⟨by kernel_rfl, rfl, by kernel_rfl⟩
    | 1, hf => cases hf; exact ⟨by kernel_rfl, rfl, by kernel_rfl⟩
    | i + 2, hf => simp at hf) (by kernel_rfl) r1
  have one : ∀ (g : Nat) (nums : List Nat) (cs : List Value), globNums g = some nums → theGlob g = some cs → (∃ cur e fr, W.heap[g]? = some (.cells cur e fr) ∧ (nums.map fun (n : Nat) => Value.int .u8 (n : Int)) <+: cur.toList) → ∃ cur e fr, W.heap[g]? = some (.cells cur e fr) ∧ cs <+: cur.toList := by
    intro g nums cs h1 h2 h3
    unfold theGlob at h2
    rw [h1] at h2
    cases h2
    exact h3
  intro b cs hb
  have hb0 : globNums b ≠ none := by
    intro e
    unfold theGlob at hb
    rw [e] at hb
    cases hb
  have cases3 : b = 0 ∨ b = 1 ∨ b = 4 := by
    unfold globNums at hb0
    split at hb0
    · exact .inl rfl
    · exact .inr (.inl rfl)
    · exact .inr (.inr rfl)
    · exact absurd rfl hb0
  rcases cases3 with rfl | rfl | rfl
  · exact one 0 nums0 cs (by kernel_rfl) hb t0
  · exact one 1 nums1 cs (by kernel_rfl) hb t1
  · exact one 4 nums4 cs (by kernel_rfl) hb t4
theorem laid_met (os : Os) (args : Array Value) : laidMetH Go.Proofs.Tryz.prog laidL ((World.laidAll Go.Proofs.Tryz.prog os laidL).forCall (fun _ _ => 0) ⟨#[], args, []⟩).memory := by
  rw [MakeChecks.laidMetH_plain _ _ _ (by kernel_rfl)]
  exact laidMet_laidAll _ (by kernel_rfl) (by kernel_rfl)
end Go.Fw
