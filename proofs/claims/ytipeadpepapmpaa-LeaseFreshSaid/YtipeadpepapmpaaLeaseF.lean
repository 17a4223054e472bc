/- Lease: each function by one law. -/
import Derived.Test.YtipeadpepapmpaaLeaseE
set_option linter.all false
set_option maxHeartbeats 20000000
namespace Go.Fw
open Go.Proofs

theorem lives_sp : Sp C1 16 [] (.bool true) := Sp.ofVb (sound 40) lives_true rfl

def newNs (n : Int) : List Int := if n < 2 ∨ 8 < n then [] else List.replicate n.toNat 0
def newE (n : Int) : Int := if n < 2 ∨ 8 < n then 2 else 0
theorem newNs_len (n : Int) : (newNs n).length * 8 ≤ 2 ^ 47 := by
  unfold newNs
  split
  · simp
  · simp; omega
theorem new_sp (n : Int) : Sp C1 10 [.int .i64 n] (.tup [eL (newNs n) (newNs n), .int .i64 (newE n)]) := by
  unfold newNs newE
  by_cases h : n < 2
  · rw [if_pos (.inl h), if_pos (.inl h)]; exact new_low n h
  · by_cases h' : 8 < n
    · rw [if_pos (.inr h'), if_pos (.inr h')]; exact new_high n h'
    · rw [if_neg (by omega), if_neg (by omega)]; exact new_ok n (by omega) (by omega)
theorem new2_sp (n : Int) : Sp C1 11 [.int .i64 n] (.tup [eL (newNs n) (newNs n), .int .i64 (newE n)]) := by
  unfold newNs newE
  by_cases h : n < 2
  · rw [if_pos (.inl h), if_pos (.inl h)]; exact new2_low n h
  · by_cases h' : 8 < n
    · rw [if_pos (.inr h'), if_pos (.inr h')]; exact new2_high n h'
    · rw [if_neg (by omega), if_neg (by omega)]; exact new2_ok n (by omega) (by omega)
def chkE (b s : List Int) : Int := if Good b s then 0 else 6
theorem check_sp (b s : List Int) : Sp C1 18 [eL b s] (.int .i64 (chkE b s)) := by
  unfold chkE
  by_cases h : Good b s
  · rw [if_pos h]; exact check_ok b s h.1 h.2.1 h.2.2
  · rw [if_neg h]; exact check_bad b s h
theorem check2_sp (b s : List Int) : Sp C1 19 [eL b s] (.int .i64 (chkE b s)) := by
  unfold chkE
  by_cases h : Good b s
  · rw [if_pos h]; exact check2_ok b s h.1 h.2.1 h.2.2
  · rw [if_neg h]; exact check2_bad b s h

def OutR (b : List Int) (node boot : Int) : Prop := node < 1 ∨ (b.length : Int) ≤ node ∨ boot = 0
instance (b : List Int) (node boot : Int) : Decidable (OutR b node boot) := by unfold OutR; infer_instance
def Stale (b s : List Int) (node boot now : Int) : Prop := boot < b.getD node.toNat 0 ∨ boot = b.getD node.toNat 0 ∧ now < s.getD node.toNat 0
instance (b s : List Int) (node boot now : Int) : Decidable (Stale b s node boot now) := by unfold Stale; infer_instance
def beatE (b s : List Int) (node boot now : Int) : Int := if ¬ Good b s then 6 else if OutR b node boot then 2 else if Stale b s node boot now then 17 else 0
def beatB (b s : List Int) (node boot now : Int) : List Int := if ¬ Good b s then [] else if OutR b node boot then b else if Stale b s node boot now then b else b.set node.toNat boot
def beatS (b s : List Int) (node boot now : Int) : List Int := if ¬ Good b s then [] else if OutR b node boot then s else if Stale b s node boot now then s else s.set node.toNat now
def beatF (b s : List Int) (node boot now : Int) : Bool := if ¬ Good b s then false else if OutR b node boot then false else if Stale b s node boot now then false else boot != b.getD node.toNat 0
theorem beatB_len (b s : List Int) (node boot now : Int) : (beatB b s node boot now).length * 8 ≤ 2 ^ 47 := by
  unfold beatB
  by_cases h : Good b s
  · have := h.2.2
    rw [if_neg (by simpa using h)]
    repeat' split
    all_goals (try simp only [List.length_set]); omega
  · rw [if_pos h]; simp
theorem beatS_len (b s : List Int) (node boot now : Int) : (beatS b s node boot now).length * 8 ≤ 2 ^ 47 := by
  unfold beatS
  by_cases h : Good b s
  · have := h.2.2
    have := h.1
    rw [if_neg (by simpa using h)]
    repeat' split
    all_goals (try simp only [List.length_set]); omega
  · rw [if_pos h]; simp
section
variable {f : FuncId} (b s : List Int) (node boot now : Int)
theorem beat_any (h1 : ¬ Good b s → Sp C1 f [eL b s, .int .i64 node, .int .u64 boot, .int .u64 now] (.tup [eL [] [], .bool false, .int .i64 6]))
    (h2 : b.length = s.length → 2 ≤ b.length → b.length ≤ 8 → node < 1 ∨ b.length ≤ node ∨ boot = 0 → Sp C1 f [eL b s, .int .i64 node, .int .u64 boot, .int .u64 now] (.tup [eL b s, .bool false, .int .i64 2]))
    (h3 : ∀ (k : Nat) (o t : Int), b.length = s.length → 2 ≤ b.length → b.length ≤ 8 → 1 ≤ k → k < b.length → boot ≠ 0 → b[k]? = some o → s[k]? = some t → boot < o ∨ boot = o ∧ now < t → Sp C1 f [eL b s, .int .i64 (k : Int), .int .u64 boot, .int .u64 now] (.tup [eL b s, .bool false, .int .i64 17]))
    (h4 : ∀ (k : Nat) (o t : Int), b.length = s.length → 2 ≤ b.length → b.length ≤ 8 → 1 ≤ k → k < b.length → boot ≠ 0 → b[k]? = some o → s[k]? = some t → ¬ (boot < o ∨ boot = o ∧ now < t) → Sp C1 f [eL b s, .int .i64 (k : Int), .int .u64 boot, .int .u64 now] (.tup [eL (b.set k boot) (s.set k now), .bool (boot != o), .int .i64 0])) :
    Sp C1 f [eL b s, .int .i64 node, .int .u64 boot, .int .u64 now] (.tup [eL (beatB b s node boot now) (beatS b s node boot now), .bool (beatF b s node boot now), .int .i64 (beatE b s node boot now)]) := by
  unfold beatB beatS beatF beatE
  by_cases hg : Good b s
  · simp only [not_true_eq_false, hg, if_false]
    obtain ⟨g1, g2, g3⟩ := hg
    by_cases hr : OutR b node boot
    · simp only [hr, if_true]; exact h2 g1 g2 g3 hr
    · simp only [hr, if_false]
      unfold OutR at hr
      obtain ⟨k, rfl⟩ : ∃ k : Nat, node = (k : Int) := ⟨node.toNat, by omega⟩
      have hk : k < b.length := by omega
      obtain ⟨o, ho⟩ : ∃ o, b[k]? = some o := ⟨b[k], List.getElem?_eq_getElem hk⟩
      obtain ⟨t, ht⟩ : ∃ t, s[k]? = some t := ⟨s[k]'(by omega), List.getElem?_eq_getElem (by omega)⟩
      have e1 : b.getD k 0 = o := by rw [List.getD_eq_getElem?_getD, ho]; rfl
      have e2 : s.getD k 0 = t := by rw [List.getD_eq_getElem?_getD, ht]; rfl
      have es : Stale b s (k : Int) boot now ↔ (boot < o ∨ boot = o ∧ now < t) := by
        unfold Stale; rw [Int.toNat_natCast, e1, e2]
      by_cases hs : Stale b s (k : Int) boot now
      · simp only [hs, if_true]; exact h3 k o t g1 g2 g3 (by omega) hk (by omega) ho ht (es.1 hs)
      · simp only [hs, if_false, Int.toNat_natCast, e1]; exact h4 k o t g1 g2 g3 (by omega) hk (by omega) ho ht (fun h => hs (es.2 h))
  · simp only [hg, not_false_eq_true, if_true]
    exact h1 hg
end
theorem beat_sp (b s : List Int) (node boot now : Int) : Sp C1 12 [eL b s, .int .i64 node, .int .u64 boot, .int .u64 now] (.tup [eL (beatB b s node boot now) (beatS b s node boot now), .bool (beatF b s node boot now), .int .i64 (beatE b s node boot now)]) :=
  beat_any b s node boot now (beat_state b s node boot now) (beat_range b s node boot now) (fun k o t => beat_stale b s k boot now o t) (fun k o t => beat_ok b s k boot now o t)
theorem beat2_sp (b s : List Int) (node boot now : Int) : Sp C1 13 [eL b s, .int .i64 node, .int .u64 boot, .int .u64 now] (.tup [eL (beatB b s node boot now) (beatS b s node boot now), .bool (beatF b s node boot now), .int .i64 (beatE b s node boot now)]) :=
  beat_any b s node boot now (beat2_state b s node boot now) (beat2_range b s node boot now) (fun k o t => beat2_stale b s k boot now o t) (fun k o t => beat2_ok b s k boot now o t)
def aliveL (b s : List Int) (now : Int) : List Bool := if Good b s then (List.range b.length).map (alv b s now) else []
theorem aliveL_len (b s : List Int) (now : Int) : (aliveL b s now).length * 8 ≤ 2 ^ 47 := by
  unfold aliveL
  by_cases h : Good b s
  · have := h.2.2
    rw [if_pos h]; simp; omega
  · rw [if_neg h]; simp
theorem alive_sp (b s : List Int) (now : Int) (hn : U64 now) (hu : ∀ x ∈ s, U64 x) : Sp C1 14 [eL b s, .int .u64 now] (.tup [eB (aliveL b s now), .int .i64 (chkE b s)]) := by
  unfold aliveL chkE
  by_cases h : Good b s
  · rw [if_pos h, if_pos h]; exact alive_ok b s now h.1 h.2.1 h.2.2 hn hu
  · rw [if_neg h, if_neg h]; exact alive_state b s now h
theorem alive2_sp (b s : List Int) (now : Int) (hn : U64 now) (hu : ∀ x ∈ s, U64 x) (hub : ∀ x ∈ b, U64 x) : Sp C1 15 [eL b s, .int .u64 now] (.tup [eB (aliveL b s now), .int .i64 (chkE b s)]) := by
  unfold aliveL chkE
  by_cases h : Good b s
  · rw [if_pos h, if_pos h]; exact alive2_ok b s now h.1 h.2.1 h.2.2 hn hu hub
  · rw [if_neg h, if_neg h]; exact alive2_state b s now h
end Go.Fw
