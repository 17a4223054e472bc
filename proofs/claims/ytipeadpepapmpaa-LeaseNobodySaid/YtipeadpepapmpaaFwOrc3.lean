/- Runs over unknown values: whole calls. -/
import Derived.Test.YtipeadpepapmpaaFwOrc2
set_option linter.all false
namespace Go.Fw

def wall {α β : Type} (m : α → W β) : List α → W (List β)
  | [] => wp []
  | x :: xs => wb (m x) fun y => wb (wall m xs) fun ys => wp (y :: ys)

def wesc1 (P : Program) (h : List Blk) : V → W V
  | .own id off n => match h[id]? with
    | some (.cells cs e) => match isAggT P e, sizeT P e with
      | some false, some 1 => wb (chk (4000 + id) (decide (off + n ≤ cs.length) && ((cs.drop off).take n).all flat1)) fun _ => wp (.imm false 1 ((cs.drop off).take n))
      | some true, some (m + 1) => wb (chk (4000 + id) (decide (off + n * (m + 1) ≤ cs.length) && ((cs.drop off).take (n * (m + 1))).all flat1)) fun _ => wp (.imm false (m + 1) (chunk (m + 1) n (cs.drop off)))
      | _, _ => wf
    | _ => wf
  | .lin p e n xs => wp (.lin p e n xs)
  | v => if flat1 v then wp v else wf
def wesc2 (P : Program) (h : List Blk) : V → W V
  | .agg vs => wb (wall (wesc1 P h) vs) fun vs => wp (.agg vs)
  | v => wesc1 P h v

def wfin (C : Cx) (fn : Func) (pure : Bool) (q : Ex × St) : W FOut := match q.1 with
  | .normal | .ret => wb (lift (optAll (resultV C q.2) fn.results.toList)) fun vs =>
    if pure then (if distinct (fn.results.toList.map (resultKey q.2)) then wb (wall (wesc2 C.P q.2.h) vs) fun vs => wp (.ret (one vs) []) else wf)
    else if vs.all fun v => !isLin2 v && okV v then wp (.ret (one vs) q.2.h) else wf
  | _ => wf

def wcall (C : Cx) (n : Nat) (f : FuncId) (args : List V) (h : List Blk) : W FOut :=
  match C.P.funcs[f]? with
  | some fn => match fn.body with
    | some c => if fn.name == "runtime.NumGoroutine" then wf else
      wb (wexec C (vcall C n) f (n + 1) c ⟨args ++ List.replicate (fn.ntmps - args.length) .undef, h⟩) fun q => wfin C fn (args.all flat2) q
    | none => wf
  | none => wf

theorem snd_wall {α β : Type} {m : α → W β} {g : α → Option β} (h : ∀ x, Snd (m x) (fun y => g x = some y)) : ∀ {xs : List α}, Snd (wall m xs) (fun ys => optAll g xs = some ys)
  | [] => snd_wp rfl
  | x :: xs => by
    unfold wall
    refine snd_wb (h x) (fun y hy => snd_wb (snd_wall h) (fun ys hys => snd_wp ?_))
    unfold optAll
    rw [hy, bindO_some, hys, bindO_some]
theorem snd_wesc1 {P : Program} {h : List Blk} {v : V} : Snd (wesc1 P h v) (fun y => escape1 P h v = some y) := by
  unfold wesc1
  split
  · rename_i id off n
    split
    · rename_i cs e hcs
      split
      · rename_i ha hz
        refine snd_wb snd_chk (fun _ hc => snd_wp ?_)
        unfold escape1
        try dsimp only
        rw [hcs]
        try dsimp only
        rw [ha, hz]
        try dsimp only
        rw [hc, condB_true]
        rfl
      · rename_i m ha hz
        refine snd_wb snd_chk (fun _ hc => snd_wp ?_)
        unfold escape1
        try dsimp only
        rw [hcs]
        try dsimp only
        rw [ha, hz]
        try dsimp only
        rw [hc, condB_true]
      · exact snd_wf
    · exact snd_wf
  · exact snd_wp rfl
  · rename_i v h1 h2
    split
    · rename_i hf
      refine snd_wp ?_
      unfold escape1
      split
      · exact absurd rfl (h1 _ _ _)
      · exact absurd rfl (h2 _ _ _ _)
      · rw [hf, condB_true]
    · exact snd_wf
theorem snd_wesc2 {P : Program} {h : List Blk} {v : V} : Snd (wesc2 P h v) (fun y => escape2 P h v = some y) := by
  by_cases ha : ∃ vs, v = .agg vs
  · obtain ⟨vs, rfl⟩ := ha
    refine snd_wb (snd_wall (fun x => snd_wesc1)) (fun ys hys => snd_wp ?_)
    unfold escape2
    dsimp only
    rw [hys, bindO_some]
  · have e1 : escape2 P h v = escape1 P h v := by cases v <;> first | rfl | exact absurd ⟨_, rfl⟩ ha
    have e2 : wesc2 P h v = wesc1 P h v := by cases v <;> first | rfl | exact absurd ⟨_, rfl⟩ ha
    rw [e1, e2]
    exact snd_wesc1
theorem snd_wfin {C : Cx} {fn : Func} {pure : Bool} {q : Ex × St} : Snd (wfin C fn pure q) (fun out => vfinal C fn pure q.1 q.2 = some out) := by
  obtain ⟨e, st⟩ := q
  have key : Snd (wb (lift (optAll (resultV C st) fn.results.toList)) fun vs =>
    if pure then (if distinct (fn.results.toList.map (resultKey st)) then wb (wall (wesc2 C.P st.h) vs) fun vs => wp (.ret (one vs) []) else wf)
    else if vs.all fun v => !isLin2 v && okV v then wp (.ret (one vs) st.h) else wf) (fun out => vfinal C fn pure .ret st = some out) := by
    refine snd_wb snd_lift (fun vs hvs => ?_)
    split
    · rename_i hp
      split
      · rename_i hd
        refine snd_wb (snd_wall (fun x => snd_wesc2)) (fun ys hys => snd_wp ?_)
        unfold vfinal
        dsimp only
        rw [hvs, bindO_some, if_pos hp, if_pos hd, hys, bindO_some]
      · exact snd_wf
    · rename_i hp
      split
      · rename_i ha
        refine snd_wp ?_
        unfold vfinal
        dsimp only
        rw [hvs, bindO_some, if_neg hp, ha, condB_true]
      · exact snd_wf
  unfold wfin
  cases e with
  | normal => exact key
  | ret => exact key
  | _ => exact snd_wf

/-- A call over unknown values. -/
theorem wcall_ok {C : Cx} {n : Nat} {f : FuncId} {args : List V} {h : List Blk} {out : FOut} (ds : List D) {ds' : List D} {ps : List Prop} (hw : wcall C n f args h ds = some (out, ds', ps)) (hp : All ps) : vcall C (n + 1) f args h = some out := by
  have : Snd (wcall C n f args h) (fun out => vcall C (n + 1) f args h = some out) := by
    unfold wcall
    split
    · rename_i fn hf
      split
      · rename_i c hc
        split
        · exact snd_wf
        · rename_i hn
          refine snd_wb snd_wexec (fun q hq => ?_)
          intro ds a ds' ps e hp
          have := snd_wfin ds a ds' ps e hp
          unfold vcall
          rw [hf]
          dsimp only
          rw [hc]
          dsimp only
          rw [if_neg hn, hq]
          exact this
      · exact snd_wf
    · exact snd_wf
  exact this _ _ _ _ hw hp
end Go.Fw
