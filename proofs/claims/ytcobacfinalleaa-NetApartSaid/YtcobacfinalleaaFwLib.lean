/- Small laws of cells, for the proofs of what trees ask. -/
import Derived.Test.YtcobacfinalleaaFwGlue2
set_option linter.all false
namespace Go.Fw

@[simp] theorem cells_int (k : IntKind) (n : Int) : (V.int k n).cells = [V.int k n] := rfl
@[simp] theorem cells_bool (b : Bool) : (V.bool b).cells = [V.bool b] := rfl
@[simp] theorem cells_str (s : ByteArray) : (V.str s).cells = [V.str s] := rfl
@[simp] theorem cells_agg (vs : List V) : (V.agg vs).cells = vs := rfl
@[simp] theorem flat1_int (k : IntKind) (n : Int) : flat1 (V.int k n) = true := rfl
@[simp] theorem flat1_bool (b : Bool) : flat1 (V.bool b) = true := rfl
@[simp] theorem flat1_str (s : ByteArray) : flat1 (V.str s) = true := rfl
@[simp] theorem flat1_imm (f : Bool) (n : Nat) (xs : List V) : flat1 (V.imm f n xs) = true := rfl
@[simp] theorem demote_int (k : IntKind) (n : Int) : demote1 (V.int k n) = V.int k n := rfl
@[simp] theorem demote_bool (b : Bool) : demote1 (V.bool b) = V.bool b := rfl
@[simp] theorem demote_str (s : ByteArray) : demote1 (V.str s) = V.str s := rfl
@[simp] theorem demote_imm (f : Bool) (n : Nat) (xs : List V) : demote1 (V.imm f n xs) = V.imm f n xs := rfl
@[simp] theorem isLin1_int (k : IntKind) (n : Int) : isLin1 (V.int k n) = false := rfl
@[simp] theorem isLin1_bool (b : Bool) : isLin1 (V.bool b) = false := rfl
@[simp] theorem isLin1_str (s : ByteArray) : isLin1 (V.str s) = false := rfl
@[simp] theorem isLin1_imm (f : Bool) (n : Nat) (xs : List V) : isLin1 (V.imm f n xs) = false := rfl
theorem flatMap_one {α : Type} (f : α → V) (h : ∀ x, (f x).cells = [f x]) (xs : List α) : (xs.map f).flatMap V.cells = xs.map f := by
  induction xs with
  | nil => rfl
  | cons x xs ih => simp only [List.map_cons, List.flatMap_cons, h, ih]; rfl
theorem flatMap_int (k : IntKind) (xs : List Int) : (xs.map (V.int k)).flatMap V.cells = xs.map (V.int k) := flatMap_one _ (fun _ => rfl) xs
theorem flatMap_bool (xs : List Bool) : (xs.map V.bool).flatMap V.cells = xs.map V.bool := flatMap_one _ (fun _ => rfl) xs
theorem flatten_one (n : Nat) (v : V) : (List.replicate n [v]).flatten = List.replicate n v := by
  induction n with
  | zero => rfl
  | succ n ih => rw [List.replicate_succ, List.flatten_cons, ih]; rfl
theorem flatten_int (n : Nat) (k : IntKind) (x : Int) : (List.replicate n [V.int k x]).flatten = (List.replicate n x).map (V.int k) := by rw [flatten_one, List.map_replicate]
theorem flatten_bool (n : Nat) (x : Bool) : (List.replicate n [V.bool x]).flatten = (List.replicate n x).map V.bool := by rw [flatten_one, List.map_replicate]
theorem app_int (k : IntKind) (xs : List Int) (x : Int) : xs.map (V.int k) ++ [V.int k x] = (xs ++ [x]).map (V.int k) := by simp
theorem app_bool (xs : List Bool) (x : Bool) : xs.map V.bool ++ [V.bool x] = (xs ++ [x]).map V.bool := by simp
theorem app2_int (k : IntKind) (xs ys : List Int) : xs.map (V.int k) ++ ys.map (V.int k) = (xs ++ ys).map (V.int k) := by simp
theorem set_int (k : IntKind) (xs : List Int) (i : Nat) (x : Int) : setAt (xs.map (V.int k)) i [V.int k x] = (xs.set i x).map (V.int k) := by simp [setAt, List.map_set]
theorem set_bool (xs : List Bool) (i : Nat) (x : Bool) : setAt (xs.map V.bool) i [V.bool x] = (xs.set i x).map V.bool := by simp [setAt, List.map_set]
theorem flat_map {α : Type} (f : α → V) (h : ∀ x, flat1 (f x) = true) (xs : List α) (o n : Nat) : (((xs.map f).drop o).take n).all flat1 = true := by
  rw [List.all_eq_true]
  intro x hx
  obtain ⟨y, _, rfl⟩ := List.mem_map.1 (List.mem_of_mem_drop (List.mem_of_mem_take hx))
  exact h y
theorem nolin_map {α : Type} (f : α → V) (h : ∀ x, isLin1 (f x) = false) {xs : List α} {o n : Nat} : (((xs.map f).drop o).take n).any isLin1 = false := by
  rw [List.any_eq_false]
  intro x hx
  obtain ⟨y, _, rfl⟩ := List.mem_map.1 (List.mem_of_mem_drop (List.mem_of_mem_take hx))
  simp [h y]
/-- A whole array is let out. -/
theorem esc_all {α : Type} (f : α → V) (h : ∀ x, flat1 (f x) = true) {xs : List α} {n : Nat} (hn : n = xs.length) : (decide (0 + n ≤ (xs.map f).length) && (((xs.map f).drop 0).take n).all flat1) = true := by
  rw [flat_map f h, hn]; simp
@[simp] theorem setAt_nil (cs : List V) (o : Nat) : setAt cs o [] = cs := rfl
@[simp] theorem setAt_cons (cs : List V) (o : Nat) (v : V) (vs : List V) : setAt cs o (v :: vs) = setAt (cs.set o v) (o + 1) vs := rfl
@[simp] theorem setAt_length (cs : List V) : ∀ (vs : List V) (o : Nat), (setAt cs o vs).length = cs.length := by
  intro vs
  induction vs generalizing cs with
  | nil => intro o; rfl
  | cons v vs ih => intro o; simp [ih]
@[simp] theorem ofCells_one (v : V) : ofCells false [v] = some v := rfl
@[simp] theorem ofCells_agg (cs : List V) : ofCells true cs = some (.agg cs) := rfl

theorem take_one_drop {α : Type} {xs : List α} {k : Nat} {x : α} (h : xs[k]? = some x) : (xs.drop k).take 1 = [x] := by
  have hlt := (List.getElem?_eq_some_iff.1 h).1
  rw [List.take_one, List.head?_drop, h]
  rfl
/-- An element of an array of one-cell values. -/
theorem own_get {α : Type} (f : α → V) (hd : ∀ x, demote1 (f x) = f x) {xs : List α} {k o : Nat} {x : α} (h : xs[k]? = some x) (ho : o = k) : ofCells false ((((xs.map f).drop o).take 1).map demote1) = some (f x) := by
  subst ho
  rw [← List.map_drop, ← List.map_take, take_one_drop h]
  simp [hd]
theorem idx_map {α β : Type} (f : α → β) {xs : List α} {k : Nat} {x : α} (h : xs[k]? = some x) : idx (xs.map f) (k : Int) = some (f x) := by
  unfold idx
  rw [if_pos (by omega), Int.toNat_natCast, List.getElem?_map, h]
  rfl

theorem idx_map0 {α β : Type} (f : α → β) {xs : List α} {x : α} (h : xs[0]? = some x) : idx (xs.map f) 0 = some (f x) := idx_map f (k := 0) h
theorem idx_map1 {α β : Type} (f : α → β) {xs : List α} {x : α} (h : xs[1]? = some x) : idx (xs.map f) 1 = some (f x) := idx_map f (k := 1) h
theorem idx_map2 {α β : Type} (f : α → β) {xs : List α} {x : α} (h : xs[2]? = some x) : idx (xs.map f) 2 = some (f x) := idx_map f (k := 2) h

theorem setAt_eq (vs cs : List V) (o : Nat) (h : o + vs.length ≤ cs.length) : setAt cs o vs = cs.take o ++ vs ++ cs.drop (o + vs.length) :=
  List.ext_getElem? (fun j => by rw [getElem?_setAt _ _ _ _ h, splice_get _ _ _ _ h])

/-! ### whole numbers -/
theorem max_cast (a b : Nat) : max (a : Int) (b : Int) = ((max a b : Nat) : Int) := by omega
theorem wrap_i64 (x : Int) (h1 : -9223372036854775808 ≤ x) (h2 : x ≤ 9223372036854775807) : IntKind.wrap .i64 x = x := by
  have e : IntKind.wrap .i64 x = if x % 18446744073709551616 ≥ 9223372036854775808 then x % 18446744073709551616 - 18446744073709551616 else x % 18446744073709551616 := by
    unfold IntKind.wrap IntKind.bits IntKind.signed
    simp
  rw [e]
  split <;> omega
theorem wrap_i32 (x : Int) (h1 : -2147483648 ≤ x) (h2 : x ≤ 2147483647) : IntKind.wrap .i32 x = x := by
  have e : IntKind.wrap .i32 x = if x % 4294967296 ≥ 2147483648 then x % 4294967296 - 4294967296 else x % 4294967296 := by
    unfold IntKind.wrap IntKind.bits IntKind.signed
    simp
  rw [e]
  split <;> omega
theorem wrap_u64 (x : Int) (h1 : 0 ≤ x) (h2 : x ≤ 18446744073709551615) : IntKind.wrap .u64 x = x := by
  simp only [IntKind.wrap, IntKind.bits, IntKind.signed, Bool.false_and, Bool.false_eq_true, if_false]
  omega
theorem wrap_u32 (x : Int) (h1 : 0 ≤ x) (h2 : x ≤ 4294967295) : IntKind.wrap .u32 x = x := by
  simp only [IntKind.wrap, IntKind.bits, IntKind.signed, Bool.false_and, Bool.false_eq_true, if_false]
  omega
theorem wrap_u8 (x : Int) (h1 : 0 ≤ x) (h2 : x ≤ 255) : IntKind.wrap .u8 x = x := by
  simp only [IntKind.wrap, IntKind.bits, IntKind.signed, Bool.false_and, Bool.false_eq_true, if_false]
  omega
theorem cast_succ (i : Nat) : ((i : Int) + 1) = ((i + 1 : Nat) : Int) := rfl

/-! ### states of loops -/
def mkFr : Nat → Nat → List (Nat × V) → List V
  | 0, _, _ => []
  | n + 1, i, [] => .undef :: mkFr n (i + 1) []
  | n + 1, i, (j, v) :: r => match i == j with
    | true => v :: mkFr n (i + 1) r
    | false => .undef :: mkFr n (i + 1) ((j, v) :: r)
/-- A state of 'n' slots; those named hold what is named. -/
abbrev mkSt (n : Nat) (live : List (Nat × V)) (h : List Blk) : St := ⟨mkFr n 0 live, h⟩
abbrev keeps (l : List Nat) : List (Nat × Fm) := l.map fun i => (i, .of .keep)

/-- A row that is filled from a place on. -/
def fillGo {α : Type} (f : Nat → α) : Nat → Nat → List α → List α
  | 0, _, os => os
  | k + 1, i, os => fillGo f k (i + 1) (os.set i (f i))
theorem fillGo_length {α : Type} (f : Nat → α) : ∀ (k i : Nat) (os : List α), (fillGo f k i os).length = os.length
  | 0, _, _ => rfl
  | k + 1, i, os => by rw [fillGo, fillGo_length f k]; simp
theorem fillGo_at {α : Type} (f : Nat → α) : ∀ (k i : Nat) (os : List α) (j : Nat), i + k ≤ os.length → (fillGo f k i os)[j]? = if i ≤ j ∧ j < i + k then some (f j) else os[j]?
  | 0, i, os, j, _ => by rw [fillGo, if_neg (by omega)]
  | k + 1, i, os, j, h => by
    rw [fillGo, fillGo_at f k (i + 1) _ j (by simp; omega)]
    by_cases hj : j = i
    · subst hj
      rw [if_neg (by omega), if_pos (by omega), List.getElem?_set_self (by omega)]
    · rw [List.getElem?_set_ne (fun e => hj e.symm)]
      by_cases h1 : i ≤ j ∧ j < i + (k + 1)
      · rw [if_pos h1, if_pos (by omega)]
      · rw [if_neg h1, if_neg (by omega)]
theorem fillGo_all {α : Type} (f : Nat → α) (os : List α) : fillGo f os.length 0 os = (List.range os.length).map f := by
  apply List.ext_getElem?
  intro j
  rw [fillGo_at f _ _ _ _ (by omega)]
  by_cases h : j < os.length
  · rw [if_pos (by omega), List.getElem?_map, List.getElem?_range h]; rfl
  · rw [if_neg (by omega), List.getElem?_eq_none (by omega), List.getElem?_eq_none (by simp; omega)]
end Go.Fw
