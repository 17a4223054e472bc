/- The operations (12): append. -/
import Derived.Test.YtcobacfinalleaaFwOps11
set_option linter.all false
namespace Go.Fw
open Go.RowKit

theorem isPre_take {α : Type} {cs l : List α} (h : cs <+: l) : l.take cs.length = cs := by
  obtain ⟨t, rfl⟩ := h
  simp

theorem Elems.append {m : Mem} {esz : Nat} {xs ys : List V} {cs ds : List Value} (h : Elems m esz xs cs) (k : Elems m esz ys ds) : Elems m esz (xs ++ ys) (cs ++ ds) := by
  obtain ⟨h1, h2, h3, h4⟩ := h
  obtain ⟨k1, _, k3, k4⟩ := k
  refine ⟨by rw [List.length_append, List.length_append, h1, k1, Nat.add_mul], h2, fun i x hx => ?_, fun i x j c hx hc => ?_⟩
  · by_cases hi : i < xs.length
    · rw [List.getElem?_append_left hi] at hx; exact h3 i x hx
    · rw [List.getElem?_append_right (by omega)] at hx; exact k3 _ x hx
  · by_cases hi : i < xs.length
    · rw [List.getElem?_append_left hi] at hx
      obtain ⟨a, v, hv, hr⟩ := h4 i x j c hx hc
      exact ⟨a, v, by rw [List.getElem?_append_left (List.getElem?_eq_some_iff.1 hv).1]; exact hv, hr⟩
    · rw [List.getElem?_append_right (by omega)] at hx
      obtain ⟨a, v, hv, hr⟩ := k4 _ x j c hx hc
      refine ⟨a, v, ?_, hr⟩
      have hle : xs.length * esz ≤ i * esz := Nat.mul_le_mul_right _ (by omega)
      rw [List.getElem?_append_right (by omega), h1]
      rw [← hv]
      congr 1
      rw [Nat.sub_mul]; omega

/-- The cells of a slice that is read. -/
theorem imm_news {m : Mem} {full : Bool} {esz : Nat} {ys : List V} {u : Value} {w : World} (h : RepI m (.imm full esz ys) u) (hm : MemOk m w) (hne : ys ≠ []) :
    ∃ ad c news, u = .slice (some ad) ys.length c ∧ news.length = ys.length * esz ∧ (∀ (j : Nat) (v : Value), news[j]? = some v → w.cell? (ad.add j) = some v) ∧ (∀ v ∈ news, v.oneCell' = true) ∧ Elems m esz ys news := by
  cases h with
  | none0 => exact absurd rfl hne
  | imm _ _ b off cap _ val hc hf hmx hz hl hs hv sp hsp =>
    have hcell : ∀ j, j < ys.length * esz → ∃ (x : V) (c : V), ys[j / esz]? = some x ∧ x.cells[j % esz]? = some c := by
      intro j hj
      have h1 : j / esz < ys.length := Nat.div_lt_of_lt_mul (by rw [Nat.mul_comm]; exact hj)
      have hx := List.getElem?_eq_getElem h1
      have hl' := hl _ _ hx
      have h2 : j % esz < ys[j / esz].cells.length := by rw [hl']; exact Nat.mod_lt _ hz
      exact ⟨_, _, hx, List.getElem?_eq_getElem h2⟩
    let news := (List.range (ys.length * esz)).map fun j => val (j / esz) (j % esz)
    have hlen : news.length = ys.length * esz := by simp [news]
    have hget : ∀ j v, news[j]? = some v → j < ys.length * esz ∧ v = val (j / esz) (j % esz) := by
      intro j v hj
      have hlt := (List.getElem?_eq_some_iff.1 hj).1
      rw [hlen] at hlt
      refine ⟨hlt, ?_⟩
      have := (List.getElem?_eq_some_iff.1 hj).2
      rw [← this]; simp [news]
    refine ⟨⟨b, off, sp⟩, cap, news, rfl, hlen, fun j v hj => ?_, fun v hvm => ?_, hlen, hz, hl, fun i x j c hx hxc => ?_⟩
    · obtain ⟨hlt, rfl⟩ := hget j v hj
      obtain ⟨x, c, hx, hxc⟩ := hcell j hlt
      have hyl : 0 < ys.length := Nat.lt_of_le_of_lt (Nat.zero_le _) (List.getElem?_eq_some_iff.1 hx).1
      have hsp : sp = none := by
        rcases hsp with h | h
        · exact h
        · omega
      subst hsp
      have hst := (hs _ x _ c hx hxc).2
      unfold stAt at hst
      obtain ⟨cs, hcs, hci⟩ := Option.bind_eq_some_iff.1 hst
      obtain ⟨cur, e', fr, hh, tl, htl⟩ := hm.at_ b cs hcs
      rw [addr_add, cell_of_heap hh, ← Array.getElem?_toList, ← htl]
      have : off + j = off + j / esz * esz + j % esz := by rw [Nat.add_assoc, Nat.mul_comm, Nat.div_add_mod]
      rw [this, List.getElem?_append_left (List.getElem?_eq_some_iff.1 hci).1]
      exact hci
    · obtain ⟨j, hj, rfl⟩ := List.mem_iff_getElem.1 hvm
      obtain ⟨hlt, e⟩ := hget j _ (List.getElem?_eq_getElem hj)
      obtain ⟨x, c, hx, hxc⟩ := hcell j hlt
      rw [e]
      exact (hv _ x _ c hx hxc).one (hs _ x _ c hx hxc).1
    · refine ⟨(hs i x j c hx hxc).1, val i j, ?_, hv i x j c hx hxc⟩
      have hi := (List.getElem?_eq_some_iff.1 hx).1
      have hj := (List.getElem?_eq_some_iff.1 hxc).1
      rw [hl i x hx] at hj
      have hlt : i * esz + j < ys.length * esz := by
        have : (i + 1) * esz ≤ ys.length * esz := Nat.mul_le_mul_right _ hi
        rw [Nat.add_mul, Nat.one_mul] at this
        omega
      have hg : news[i * esz + j]? = some (val ((i * esz + j) / esz) ((i * esz + j) % esz)) := by
        simp [news, hlt]
      rw [hg]
      have e1 : (i * esz + j) / esz = i := by
        rw [Nat.add_comm, Nat.add_mul_div_right _ _ hz, Nat.div_eq_of_lt hj, Nat.zero_add]
      have e2 : (i * esz + j) % esz = j := by rw [Nat.mul_comm, Nat.mul_add_mod]; exact Nat.mod_eq_of_lt hj
      rw [e1, e2]

section
variable {B τ : Nat} {g : Gh} {st : St} {a : Act} {w : World}

/-- What grows has grown: in its block, or in a new one. -/
def Gh.grown (g : Gh) (b : Nat) (i : LinI) : Gh where
  mem := fun x => if x = b ∧ i.priv = false then some i.cs else g.mem x
  loc := g.loc
  lin := fun x => if x = b then some i else g.lin x

theorem grow_sound (h : R B τ g st a w) {w' : World} {b d : Nat} {i : LinI} {row : Option Nat} (hg : w.grownBy w' row) (hrow : ∀ k, row = some k → k = b ∧ B ≤ k) (hBb : B ≤ b) (hplace : i.place = .slot τ d 0 0)
    (hold : (∃ i0, g.lin b = some i0 ∧ i0.place = .slot τ d 0 0 ∧ i0.priv = i.priv ∧ i0.cs <+: i.cs) ∨ (g.lin b = none ∧ g.mem b = none ∧ w.heap.size ≤ b))
    (hcur : ∃ cur, w'.heap[b]? = some (.cells cur i.ety (0, 0)) ∧ i.cs <+: cur.toList ∧ cur.size = i.cap * i.esz) (hle : i.cs.length ≤ i.cap * i.esz) (hmx : i.cap ≤ maxLen) (hz : 0 < i.esz) (hfree : ∀ v, st.fr[d]? = some v → isLin3 v = false) :
    Later B τ g (g.grown b i) w w' ∧ R B τ (g.grown b i) st a w' := by
  have hnl : ∀ id, g.loc id ≠ some b := by
    intro id hid
    obtain ⟨h1, h2, h3, h4⟩ := h.heap.fresh id b hid
    rcases hold with ⟨i0, e, _⟩ | ⟨_, _, e⟩
    · rw [h4] at e; cases e
    · omega
  have hmem : MemLe g.mem (g.grown b i).mem := by
    intro x cs hx
    unfold Gh.grown
    dsimp only
    split
    · rename_i e
      obtain ⟨rfl, hp⟩ := e
      rcases hold with ⟨i0, e, e2, e3, e4⟩ | ⟨_, e, _⟩
      · obtain ⟨_, _, _, _, _, _, hs⟩ := h.lin.at_ _ i0 e
        rw [hs (by rw [e3]; exact hp)] at hx
        cases hx
        exact ⟨_, rfl, e4⟩
      · rw [e] at hx; cases hx
    · exact ⟨cs, hx, List.prefix_refl _⟩
  have hblk : ∀ k x, w.heap[k]? = some x → k ≠ b → w'.heap[k]? = some x := by
    intro k x hk hne
    rw [hg.block k (Array.getElem?_eq_some_iff.1 hk).1 (fun e => hne (hrow k e.symm).1)]
    exact hk
  have hlinm : ∀ x i0, g.lin x = some i0 → i0.place ≠ .slot τ d 0 0 → (g.grown b i).lin x = some i0 := by
    intro x i0 hx hne
    unfold Gh.grown
    dsimp only
    split
    · rename_i e; subst e
      rcases hold with ⟨i1, e, e2, _⟩ | ⟨e, _⟩
      · rw [e] at hx; cases hx; exact absurd e2 hne
      · rw [e] at hx; cases hx
    · exact hx
  refine ⟨⟨(Below.refl B w).grown hg h.base (fun k hk => (hrow k hk).2), hmem, fun x hx => ?_, fun _ _ h => h, fun x i0 hx ⟨τ', y, j, k, hp, hne⟩ => hlinm x i0 hx (by rw [hp]; intro e; injection e with e _; exact hne e)⟩, ⟨h.size, fun s v hs hv => ?_, ⟨h.heap.bound, h.heap.inj, ?_, ?_⟩, ⟨?_⟩, ⟨?_⟩, Nat.le_trans h.base hg.size, h.defers⟩⟩
  · unfold Gh.grown; dsimp only; rw [if_neg (by omega)]
  · by_cases hsd : s = d
    · subst hsd
      have hnl := hfree v hv
      have h1 := h.slots s v hs hv
      have h2 : RepS g (τ + 1) s v a.tmps[s] := h1.any hnl
      have h3 := RepS.mono (g' := g.grown b i) hmem (fun _ _ h => h) (fun j k x i0 hx hp => hlinm x i0 hx (by rw [hp]; intro e; injection e with e _; omega)) h2
      exact h3.any hnl
    · exact RepS.mono (g' := g.grown b i) hmem (fun _ _ h => h) (fun j k x i0 hx hp => hlinm x i0 hx (by rw [hp]; intro e; injection e with _ e _; exact hsd e)) (h.slots s v hs hv)
  · intro id x hx
    obtain ⟨h1, h2, h3, h4⟩ := h.heap.fresh id x hx
    have hne : x ≠ b := fun e => hnl id (e ▸ hx)
    refine ⟨h1, Nat.lt_of_lt_of_le h2 hg.size, ?_, ?_⟩
    · unfold Gh.grown; dsimp only; rw [if_neg (by simp [hne])]; exact h3
    · unfold Gh.grown; dsimp only; rw [if_neg hne]; exact h4
  · intro id x cs e hx he
    obtain ⟨cur, h1, h2, h3⟩ := h.heap.blk id x cs e hx he
    have hne : x ≠ b := fun e => hnl id (e ▸ hx)
    exact ⟨cur, hblk x _ h1 hne, h2, fun j c hj hc => RepC.mono (g := g) (g' := g.grown b i) hmem (fun _ _ h => h) (fun y i0 hy hp => hlinm y i0 hy (by rw [hp]; intro e; cases e)) (h3 j c hj hc)⟩
  · intro x cs hx
    unfold Gh.grown at hx
    dsimp only at hx
    split at hx
    · rename_i e
      obtain ⟨rfl, _⟩ := e
      cases hx
      obtain ⟨cur, h1, h2, _⟩ := hcur
      exact ⟨cur, _, _, h1, h2⟩
    · rename_i hne
      by_cases hxb : x = b
      · subst hxb
        -- it is private: there is no shared memory here
        rcases hold with ⟨i0, e, e2, e3, e4⟩ | ⟨_, e, _⟩
        · obtain ⟨_, _, _, _, _, hp, _⟩ := h.lin.at_ _ i0 e
          have : i0.priv = true := by
            rw [e3]
            cases hpr : i.priv with
            | true => rfl
            | false => exact absurd ⟨rfl, hpr⟩ hne
          rw [hp this] at hx; cases hx
        · rw [e] at hx; cases hx
      · obtain ⟨cur, e, fr, h1, h2⟩ := h.mem.at_ x cs hx
        exact ⟨cur, e, fr, hblk x _ h1 hxb, h2⟩
  · intro x i0 hx
    unfold Gh.grown at hx
    dsimp only at hx
    split at hx
    · rename_i e
      subst e
      cases hx
      refine ⟨hBb, hcur, hle, hmx, hz, fun hp => ?_, fun hp => ?_⟩
      · unfold Gh.grown; dsimp only
        rw [if_neg (by simp [hp])]
        rcases hold with ⟨i1, e, e2, e3, e4⟩ | ⟨_, e, _⟩
        · obtain ⟨_, _, _, _, _, hq, _⟩ := h.lin.at_ _ i1 e
          exact hq (by rw [e3]; exact hp)
        · exact e
      · unfold Gh.grown; dsimp only
        rw [if_pos ⟨rfl, hp⟩]
    · rename_i hne
      obtain ⟨h1, ⟨cur, h2, h3, h4⟩, h5, h6, h7, h8, h9⟩ := h.lin.at_ x i0 hx
      refine ⟨h1, ⟨cur, hblk x _ h2 hne, h3, h4⟩, h5, h6, h7, fun hp => ?_, fun hp => ?_⟩
      · unfold Gh.grown; dsimp only; rw [if_neg (by simp [hne])]; exact h8 hp
      · unfold Gh.grown; dsimp only; rw [if_neg (by simp [hne])]; exact h9 hp
end
end Go.Fw
