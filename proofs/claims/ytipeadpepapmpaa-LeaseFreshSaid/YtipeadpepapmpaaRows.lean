/-
  No cell of these rows narrows 'for every input' (looked for: loops, veiled, ifaces, maps, wideKeys, modest, calm, conditions, laid).
  DERIVED. THE GIVEN ROWS OF THIS SEAT. 6 by the template 'for every input the law returns true; each argument reads behind the call as it read before'; 0 by the template 'total and deterministic' (their statements: YtipeadpepapmpaaTotals.lean).
  GIVEN WITH THE SEED: the statements are not yours to turn. If you find one false, say at which input.
  Laid BY PROGRAM, IN A SANDBOX (cutbox-rows.mjs): the forced cells as the released guide's own fill.sh prints them over the translation d52f713e279d469e… (all of the seat's roots in one cut). By AI agents, Wed Nov 11 2026. No macro, syntax, notation, axiom, sorry.
-/
import Derived.Test.YtipeadpepapmpaaChecked
import GoSem.Claim
import GoSem.ClaimJoined
import GoSem.ClaimMapViews
import Derived.JoinedTies
import Derived.KernelRfl
namespace Go.Proofs.Ytipeadpepapmpaa
/- THE CELL 'sum', in the pinned program and in every row, IS THE sha256 OF THE DUMP (.gsa) THAT YtipeadpepapmpaaProg.lean LOADS. Nothing in Lean hashes anything: it is a label: what it is worth is what the hold of that sum in a sandbox is worth. -/
noncomputable def Try.pinned : Pinned := { name := "ytipeadpepapmpaa", sum := "d52f713e279d469e034d8e65d47c0ce8b23e4c84973a7561241e952eba49a51e", checked := Try.checked }
namespace Rows
def none {H : Type} : Left H := { results := [], args := [] }

/-- 'potsherdlaw15.LeaseDoes': WHATEVER THE INPUT: true; the input reads as it did. -/
def leaseDoesSpec : ChangeSpec := { name := "leaseDoes", fn := fun _ => fun
  | [d1, d2, d3, d4, d5] => { results := [.lit (.bool true)], args := [d1, d2, d3, d4, d5] }
  | _ => none }
def leaseDoesRow : OpenClaim := { program := "ytipeadpepapmpaa", sum := "d52f713e279d469e034d8e65d47c0ce8b23e4c84973a7561241e952eba49a51e", func := "potsherd/potsherdlaw15.LeaseDoes", spec := "leaseDoes", apart := false }
def LeaseDoesSaid : Prop := leaseDoesRow.holds Try.pinned (OpenSpec.ofChange leaseDoesSpec)

/-- ITS FALSE NEIGHBOUR: 'it returns false'. Refute it at one input. -/
def leaseDoesWrong : ChangeSpec := { name := "leaseDoes", fn := fun _ => fun
  | [d1, d2, d3, d4, d5] => { results := [.lit (.bool false)], args := [d1, d2, d3, d4, d5] }
  | _ => none }
def LeaseDoesWrongFalsely : Prop := leaseDoesRow.holds Try.pinned (OpenSpec.ofChange leaseDoesWrong)

/-- 'potsherdlaw15.LeaseWhile': WHATEVER THE INPUT: true; the input reads as it did. -/
def leaseWhileSpec : ChangeSpec := { name := "leaseWhile", fn := fun _ => fun
  | [d1, d2, d3, d4, d5] => { results := [.lit (.bool true)], args := [d1, d2, d3, d4, d5] }
  | _ => none }
def leaseWhileRow : OpenClaim := { program := "ytipeadpepapmpaa", sum := "d52f713e279d469e034d8e65d47c0ce8b23e4c84973a7561241e952eba49a51e", func := "potsherd/potsherdlaw15.LeaseWhile", spec := "leaseWhile", apart := false }
def LeaseWhileSaid : Prop := leaseWhileRow.holds Try.pinned (OpenSpec.ofChange leaseWhileSpec)

/-- ITS FALSE NEIGHBOUR: 'it returns false'. Refute it at one input. -/
def leaseWhileWrong : ChangeSpec := { name := "leaseWhile", fn := fun _ => fun
  | [d1, d2, d3, d4, d5] => { results := [.lit (.bool false)], args := [d1, d2, d3, d4, d5] }
  | _ => none }
def LeaseWhileWrongFalsely : Prop := leaseWhileRow.holds Try.pinned (OpenSpec.ofChange leaseWhileWrong)

/-- 'potsherdlaw15.LeaseFresh': WHATEVER THE INPUT: true; the input reads as it did. -/
def leaseFreshSpec : ChangeSpec := { name := "leaseFresh", fn := fun _ => fun
  | [d1, d2, d3, d4] => { results := [.lit (.bool true)], args := [d1, d2, d3, d4] }
  | _ => none }
def leaseFreshRow : OpenClaim := { program := "ytipeadpepapmpaa", sum := "d52f713e279d469e034d8e65d47c0ce8b23e4c84973a7561241e952eba49a51e", func := "potsherd/potsherdlaw15.LeaseFresh", spec := "leaseFresh", apart := false }
def LeaseFreshSaid : Prop := leaseFreshRow.holds Try.pinned (OpenSpec.ofChange leaseFreshSpec)

/-- ITS FALSE NEIGHBOUR: 'it returns false'. Refute it at one input. -/
def leaseFreshWrong : ChangeSpec := { name := "leaseFresh", fn := fun _ => fun
  | [d1, d2, d3, d4] => { results := [.lit (.bool false)], args := [d1, d2, d3, d4] }
  | _ => none }
def LeaseFreshWrongFalsely : Prop := leaseFreshRow.holds Try.pinned (OpenSpec.ofChange leaseFreshWrong)

/-- 'potsherdlaw15.LeaseNobody': WHATEVER THE INPUT: true; the input reads as it did. -/
def leaseNobodySpec : ChangeSpec := { name := "leaseNobody", fn := fun _ => fun
  | [d1, d2] => { results := [.lit (.bool true)], args := [d1, d2] }
  | _ => none }
def leaseNobodyRow : OpenClaim := { program := "ytipeadpepapmpaa", sum := "d52f713e279d469e034d8e65d47c0ce8b23e4c84973a7561241e952eba49a51e", func := "potsherd/potsherdlaw15.LeaseNobody", spec := "leaseNobody", apart := false }
def LeaseNobodySaid : Prop := leaseNobodyRow.holds Try.pinned (OpenSpec.ofChange leaseNobodySpec)

/-- ITS FALSE NEIGHBOUR: 'it returns false'. Refute it at one input. -/
def leaseNobodyWrong : ChangeSpec := { name := "leaseNobody", fn := fun _ => fun
  | [d1, d2] => { results := [.lit (.bool false)], args := [d1, d2] }
  | _ => none }
def LeaseNobodyWrongFalsely : Prop := leaseNobodyRow.holds Try.pinned (OpenSpec.ofChange leaseNobodyWrong)

/-- 'potsherdlaw14.NetDoes': WHATEVER THE INPUT: true; the input reads as it did. -/
def netDoesSpec : ChangeSpec := { name := "netDoes", fn := fun _ => fun
  | [d1, d2, d3, d4, d5] => { results := [.lit (.bool true)], args := [d1, d2, d3, d4, d5] }
  | _ => none }
def netDoesRow : OpenClaim := { program := "ytipeadpepapmpaa", sum := "d52f713e279d469e034d8e65d47c0ce8b23e4c84973a7561241e952eba49a51e", func := "potsherd/potsherdlaw14.NetDoes", spec := "netDoes", unfollowed := true, recurses := true, apart := false }
def NetDoesSaid : Prop := netDoesRow.holds Try.pinned (OpenSpec.ofChange netDoesSpec)

/-- ITS FALSE NEIGHBOUR: 'it returns false'. Refute it at one input. -/
def netDoesWrong : ChangeSpec := { name := "netDoes", fn := fun _ => fun
  | [d1, d2, d3, d4, d5] => { results := [.lit (.bool false)], args := [d1, d2, d3, d4, d5] }
  | _ => none }
def NetDoesWrongFalsely : Prop := netDoesRow.holds Try.pinned (OpenSpec.ofChange netDoesWrong)

/-- 'potsherdlaw14.NetOnly': WHATEVER THE INPUT: true; the input reads as it did. -/
def netOnlySpec : ChangeSpec := { name := "netOnly", fn := fun _ => fun
  | [d] => { results := [.lit (.bool true)], args := [d] }
  | _ => none }
def netOnlyRow : OpenClaim := { program := "ytipeadpepapmpaa", sum := "d52f713e279d469e034d8e65d47c0ce8b23e4c84973a7561241e952eba49a51e", func := "potsherd/potsherdlaw14.NetOnly", spec := "netOnly", unfollowed := true, recurses := true, apart := false }
def NetOnlySaid : Prop := netOnlyRow.holds Try.pinned (OpenSpec.ofChange netOnlySpec)

/-- ITS FALSE NEIGHBOUR: 'it returns false'. Refute it at one input. -/
def netOnlyWrong : ChangeSpec := { name := "netOnly", fn := fun _ => fun
  | [d] => { results := [.lit (.bool false)], args := [d] }
  | _ => none }
def NetOnlyWrongFalsely : Prop := netOnlyRow.holds Try.pinned (OpenSpec.ofChange netOnlyWrong)

/- THE SECOND FORM. 'bulk': how many values and letters a reading holds, each counted each time it is reached (what is shared counts as often as it is met; a slice's spare places count too). A statement '..UptoSaid' is the law's where the arguments, and the package variables that the reading takes, are together of bulk at most 1048576: NARROWER than '..Said'. Prove '..Said' where nothing that the law and all that it calls make is longer than what came in: it says more and counts as full. Else prove '..UptoSaid'. A law counts once. -/
mutual
def uptoBulk {H : Type} : DataW H → Nat
  | .lit (.string bytes) => bytes.length + 1
  | .lit _ => 1
  | .nil => 1
  | .ptr d => uptoBulk d + 1
  | .slice elems spare => uptoBulkAll elems + uptoBulkAll spare + 1
  | .agg parts => uptoBulkAll parts + 1
  | .iface _ d => uptoBulk d + 1
  | .map entries => uptoBulkEntries entries + 1
  | .held _ => 1
def uptoBulkAll {H : Type} : List (DataW H) → Nat
  | [] => 0
  | d :: r => uptoBulk d + uptoBulkAll r
def uptoBulkEntries {H : Type} : List (Lit × DataW H) → Nat
  | [] => 0
  | x :: r => uptoBulkEntry x + uptoBulkEntries r
def uptoBulkEntry {H : Type} : Lit × DataW H → Nat
  | (.string bytes, d) => bytes.length + uptoBulk d + 1
  | (_, d) => uptoBulk d + 1
 end
def uptoSmall : (H : Type) → List (DataW H) → Bool := fun _ ds => decide (uptoBulkAll ds ≤ 1048576)
def OpenSpec.upto (s : _root_.Go.ChangeSpec) : _root_.Go.OpenSpec := { _root_.Go.OpenSpec.ofChange s with cond := some uptoSmall }

/-- 'potsherdlaw15.LeaseDoes', WHERE WHAT IT READS IS OF BULK AT MOST 1048576: true; the input reads as it did. -/
def leaseDoesUptoRow : OpenClaim := { program := "ytipeadpepapmpaa", sum := "d52f713e279d469e034d8e65d47c0ce8b23e4c84973a7561241e952eba49a51e", func := "potsherd/potsherdlaw15.LeaseDoes", spec := "leaseDoes", apart := false, narrowed := true }
def LeaseDoesUptoSaid : Prop := leaseDoesUptoRow.holds Try.pinned (OpenSpec.upto leaseDoesSpec)

/-- 'potsherdlaw15.LeaseWhile', WHERE WHAT IT READS IS OF BULK AT MOST 1048576: true; the input reads as it did. -/
def leaseWhileUptoRow : OpenClaim := { program := "ytipeadpepapmpaa", sum := "d52f713e279d469e034d8e65d47c0ce8b23e4c84973a7561241e952eba49a51e", func := "potsherd/potsherdlaw15.LeaseWhile", spec := "leaseWhile", apart := false, narrowed := true }
def LeaseWhileUptoSaid : Prop := leaseWhileUptoRow.holds Try.pinned (OpenSpec.upto leaseWhileSpec)

/-- 'potsherdlaw15.LeaseFresh', WHERE WHAT IT READS IS OF BULK AT MOST 1048576: true; the input reads as it did. -/
def leaseFreshUptoRow : OpenClaim := { program := "ytipeadpepapmpaa", sum := "d52f713e279d469e034d8e65d47c0ce8b23e4c84973a7561241e952eba49a51e", func := "potsherd/potsherdlaw15.LeaseFresh", spec := "leaseFresh", apart := false, narrowed := true }
def LeaseFreshUptoSaid : Prop := leaseFreshUptoRow.holds Try.pinned (OpenSpec.upto leaseFreshSpec)

/-- 'potsherdlaw15.LeaseNobody', WHERE WHAT IT READS IS OF BULK AT MOST 1048576: true; the input reads as it did. -/
def leaseNobodyUptoRow : OpenClaim := { program := "ytipeadpepapmpaa", sum := "d52f713e279d469e034d8e65d47c0ce8b23e4c84973a7561241e952eba49a51e", func := "potsherd/potsherdlaw15.LeaseNobody", spec := "leaseNobody", apart := false, narrowed := true }
def LeaseNobodyUptoSaid : Prop := leaseNobodyUptoRow.holds Try.pinned (OpenSpec.upto leaseNobodySpec)

/-- 'potsherdlaw14.NetDoes', WHERE WHAT IT READS IS OF BULK AT MOST 1048576: true; the input reads as it did. -/
def netDoesUptoRow : OpenClaim := { program := "ytipeadpepapmpaa", sum := "d52f713e279d469e034d8e65d47c0ce8b23e4c84973a7561241e952eba49a51e", func := "potsherd/potsherdlaw14.NetDoes", spec := "netDoes", unfollowed := true, recurses := true, apart := false, narrowed := true }
def NetDoesUptoSaid : Prop := netDoesUptoRow.holds Try.pinned (OpenSpec.upto netDoesSpec)

/-- 'potsherdlaw14.NetOnly', WHERE WHAT IT READS IS OF BULK AT MOST 1048576: true; the input reads as it did. -/
def netOnlyUptoRow : OpenClaim := { program := "ytipeadpepapmpaa", sum := "d52f713e279d469e034d8e65d47c0ce8b23e4c84973a7561241e952eba49a51e", func := "potsherd/potsherdlaw14.NetOnly", spec := "netOnly", unfollowed := true, recurses := true, apart := false, narrowed := true }
def NetOnlyUptoSaid : Prop := netOnlyUptoRow.holds Try.pinned (OpenSpec.upto netOnlySpec)

end Rows
end Go.Proofs.Ytipeadpepapmpaa
