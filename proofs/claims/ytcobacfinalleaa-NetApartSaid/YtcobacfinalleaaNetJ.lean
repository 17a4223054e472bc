/- Net: what each function answers, in one piece. -/
import Derived.Test.YtcobacfinalleaaNetI
set_option linter.all false
set_option maxHeartbeats 20000000
namespace Go.Fw
open Go.Proofs
abbrev pZ : Pk := ⟨0, 0, ByteArray.empty⟩
def sRes (ps : List Pk) (f t : Int) (s : ByteArray) : List Pk × Int := if okNet ps = false then ([], 6) else if okN f = false ∨ okN t = false then (ps, 2) else if 65536 < s.size then (ps, 4) else if 4096 ≤ ps.length then (ps, 8) else (ps ++ [⟨f, t, s⟩], 0)
def dIdx (ps : List Pk) (i : Int) : Option Pk := if 0 ≤ i then ps[i.toNat]? else none
def dRes (ps : List Pk) (i : Int) : List Pk × Pk × Int := if okNet ps = false then ([], pZ, 6) else match dIdx ps i with
  | some p => (ps.eraseIdx i.toNat, p, 0)
  | none => (ps, pZ, 7)
def cRes (ps : List Pk) (i : Int) : List Pk × Int := if okNet ps = false then ([], 6) else match dIdx ps i with
  | some p => if 4096 ≤ ps.length then (ps, 8) else (ps ++ [p], 0)
  | none => (ps, 7)
theorem dIdx_none {ps : List Pk} {i : Int} (h : dIdx ps i = none) : i < 0 ∨ ps.length ≤ i := by
  unfold dIdx at h
  split at h
  · rw [List.getElem?_eq_none_iff] at h; omega
  · omega
theorem dIdx_some {ps : List Pk} {i : Int} {p : Pk} (h : dIdx ps i = some p) : ∃ n : Nat, i = n ∧ ps[n]? = some p := by
  unfold dIdx at h
  split at h
  · exact ⟨i.toNat, by omega, h⟩
  · cases h
section
variable (ps : List Pk) (f t i : Int) (s : ByteArray)
theorem send_sp : Sp C1 8 [eNet ps, .int .i64 f, .int .i64 t, .str s] (.tup [eNet (sRes ps f t s).1, .int .i64 (sRes ps f t s).2]) := by
  unfold sRes
  cases h : okNet ps with
  | false => exact send_state ps f t s h
  | true =>
    rw [if_neg (by simp)]
    split
    · exact send_range ps f t s h ‹_›
    · rename_i hb
      have hf : okN f = true := by cases e : okN f <;> simp_all
      have ht : okN t = true := by cases e : okN t <;> simp_all
      split
      · exact send_long ps f t s h hf ht ‹_›
      · split
        · exact send_full ps f t s h hf ht (by omega) ‹_›
        · exact send_ok ps f t s h hf ht (by omega) (by omega)
theorem send2_sp : Sp C1 9 [eNet ps, .int .i64 f, .int .i64 t, .str s] (.tup [eNet (sRes ps f t s).1, .int .i64 (sRes ps f t s).2]) := by
  unfold sRes
  cases h : okNet ps with
  | false => exact send2_state ps f t s h
  | true =>
    rw [if_neg (by simp)]
    split
    · exact send2_range ps f t s h ‹_›
    · rename_i hb
      have hf : okN f = true := by cases e : okN f <;> simp_all
      have ht : okN t = true := by cases e : okN t <;> simp_all
      split
      · exact send2_long ps f t s h hf ht ‹_›
      · split
        · exact send2_full ps f t s h hf ht (by omega) ‹_›
        · exact send2_ok ps f t s h hf ht (by omega) (by omega)
theorem deliver_sp : Sp C1 10 [eNet ps, .int .i64 i] (.tup [eNet (dRes ps i).1, ePk (dRes ps i).2.1, .int .i64 (dRes ps i).2.2]) := by
  unfold dRes
  cases h : okNet ps with
  | false => exact deliver_state ps i h
  | true =>
    rw [if_neg (by simp)]
    cases hd : dIdx ps i with
    | none => exact deliver_out ps i h (dIdx_none hd)
    | some p =>
      obtain ⟨n, rfl, hn⟩ := dIdx_some hd
      exact deliver_ok ps n p h hn
theorem deliver2_sp : Sp C1 11 [eNet ps, .int .i64 i] (.tup [eNet (dRes ps i).1, ePk (dRes ps i).2.1, .int .i64 (dRes ps i).2.2]) := by
  unfold dRes
  cases h : okNet ps with
  | false => exact deliver2_state ps i h
  | true =>
    rw [if_neg (by simp)]
    cases hd : dIdx ps i with
    | none => exact deliver2_out ps i h (dIdx_none hd)
    | some p =>
      obtain ⟨n, rfl, hn⟩ := dIdx_some hd
      exact deliver2_ok ps n p h hn
theorem drop_sp : Sp C1 12 [eNet ps, .int .i64 i] (.tup [eNet (dRes ps i).1, .int .i64 (dRes ps i).2.2]) := by
  unfold dRes
  cases h : okNet ps with
  | false => exact drop_state ps i h
  | true =>
    rw [if_neg (by simp)]
    cases hd : dIdx ps i with
    | none => exact drop_out ps i h (dIdx_none hd)
    | some p =>
      obtain ⟨n, rfl, hn⟩ := dIdx_some hd
      exact drop_ok ps n p h hn
theorem drop2_sp : Sp C1 13 [eNet ps, .int .i64 i] (.tup [eNet (dRes ps i).1, .int .i64 (dRes ps i).2.2]) := by
  unfold dRes
  cases h : okNet ps with
  | false => exact drop2_state ps i h
  | true =>
    rw [if_neg (by simp)]
    cases hd : dIdx ps i with
    | none => exact drop2_out ps i h (dIdx_none hd)
    | some p =>
      obtain ⟨n, rfl, hn⟩ := dIdx_some hd
      exact drop2_ok ps n p h hn
theorem copy_sp : Sp C1 14 [eNet ps, .int .i64 i] (.tup [eNet (cRes ps i).1, .int .i64 (cRes ps i).2]) := by
  unfold cRes
  cases h : okNet ps with
  | false => exact copy_state ps i h
  | true =>
    rw [if_neg (by simp)]
    cases hd : dIdx ps i with
    | none => exact copy_out ps i h (dIdx_none hd)
    | some p =>
      obtain ⟨n, rfl, hn⟩ := dIdx_some hd
      dsimp only
      split
      · exact copy_full ps n p h hn ‹_›
      · exact copy_ok ps n p h hn (by omega)
theorem copy2_sp : Sp C1 15 [eNet ps, .int .i64 i] (.tup [eNet (cRes ps i).1, .int .i64 (cRes ps i).2]) := by
  unfold cRes
  cases h : okNet ps with
  | false => exact copy2_state ps i h
  | true =>
    rw [if_neg (by simp)]
    cases hd : dIdx ps i with
    | none => exact copy2_out ps i h (dIdx_none hd)
    | some p =>
      obtain ⟨n, rfl, hn⟩ := dIdx_some hd
      dsimp only
      split
      · exact copy2_full ps n p h hn ‹_›
      · exact copy2_ok ps n p h hn (by omega)
end
theorem pEq_refl (p : Pk) : pEq p p = true := by simp [pEq]
theorem same_refl (ps : List Pk) (h : ps.length * 32 ≤ 2 ^ 47) : Sp C1 17 [eNet ps, eNet ps] (.bool true) :=
  same_yes ps ps h ⟨rfl, fun j p q h1 h2 => by rw [h1] at h2; cases h2; exact pEq_refl p⟩
theorem sRes_len {ps : List Pk} {f t : Int} {s : ByteArray} (h : ps.length * 32 ≤ 2 ^ 47) : (sRes ps f t s).1.length * 32 ≤ 2 ^ 47 := by
  unfold sRes
  repeat' split
  all_goals first | exact h | (simp; omega) | simp
theorem cRes_len {ps : List Pk} {i : Int} (h : ps.length * 32 ≤ 2 ^ 47) : (cRes ps i).1.length * 32 ≤ 2 ^ 47 := by
  unfold cRes
  repeat' split
  all_goals first | exact h | (simp; omega) | simp
theorem dRes_len {ps : List Pk} {i : Int} (h : ps.length * 32 ≤ 2 ^ 47) : (dRes ps i).1.length * 32 ≤ 2 ^ 47 := by
  have := List.length_eraseIdx_le ps i.toNat
  unfold dRes
  repeat' split
  all_goals first | exact h | (simp; omega) | simp
end Go.Fw
