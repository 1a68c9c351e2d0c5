/-
  No cell of these rows narrows 'for every input' (looked for: loops, veiled, ifaces, maps, wideKeys, modest, calm, conditions, laid).
  DERIVED. THE GIVEN ROWS OF THIS SEAT. 4 by the template 'for every input the law returns true; each argument reads behind the call as it read before'; 0 by the template 'total and deterministic' (their statements: YtjhdfldadcbkkaaGreatTotals.lean).
  GIVEN WITH THE SEED: the statements are not yours to turn. If you find one false, say at which input.
  Laid BY PROGRAM, IN A SANDBOX (cutbox-rows.mjs): the forced cells as the released guide's own fill.sh prints them over the translation 339de9872f6f8133… (all of the seat's roots in one cut). By AI agents, Wed Nov 11 2026. No macro, syntax, notation, axiom, sorry.
-/
import Derived.Test.YtjhdfldadcbkkaaGreatChecked
import GoSem.Claim
import GoSem.ClaimJoined
import GoSem.ClaimMapViews
import Derived.JoinedTies
import Derived.KernelRfl
namespace Go.Proofs.YtjhdfldadcbkkaaGreat
/- THE CELL 'sum', in the pinned program and in every row, IS THE sha256 OF THE DUMP (.gsa) THAT YtjhdfldadcbkkaaGreatProg.lean LOADS. Nothing in Lean hashes anything: it is a label: what it is worth is what the hold of that sum in a sandbox is worth. -/
noncomputable def Tryz.pinned : Pinned := { name := "ytjhdfldadcbkkaagreat", sum := "339de9872f6f81333d1b065d32f5339e33477c2ab51ed2d13f437b815182a19f", checked := Tryz.checked }
namespace Rows
def none {H : Type} : Left H := { results := [], args := [] }

/-- 'mummerlaw17.HostLoads': WHATEVER THE INPUT: true; the input reads as it did. -/
def hostLoadsSpec : ChangeSpec := { name := "hostLoads", fn := fun _ => fun
  | [d1, d2, d3] => { results := [.lit (.bool true)], args := [d1, d2, d3] }
  | _ => none }
def hostLoadsRow : OpenClaim := { program := "ytjhdfldadcbkkaagreat", sum := "339de9872f6f81333d1b065d32f5339e33477c2ab51ed2d13f437b815182a19f", func := "mummer/mummerlaw17.HostLoads", spec := "hostLoads", inPlace := ["sync/atomic.AddInt64"], unfollowed := true, recurses := true, apart := false }
def HostLoadsSaid : Prop := hostLoadsRow.holds Tryz.pinned (OpenSpec.ofChange hostLoadsSpec)

/-- ITS FALSE NEIGHBOUR: 'it returns false'. Refute it at one input. -/
def hostLoadsWrong : ChangeSpec := { name := "hostLoads", fn := fun _ => fun
  | [d1, d2, d3] => { results := [.lit (.bool false)], args := [d1, d2, d3] }
  | _ => none }
def HostLoadsWrongFalsely : Prop := hostLoadsRow.holds Tryz.pinned (OpenSpec.ofChange hostLoadsWrong)

/-- 'mummerlaw17.HostBegins': WHATEVER THE INPUT: true; the input reads as it did. -/
def hostBeginsSpec : ChangeSpec := { name := "hostBegins", fn := fun _ => fun
  | [d1, d2, d3] => { results := [.lit (.bool true)], args := [d1, d2, d3] }
  | _ => none }
def hostBeginsRow : OpenClaim := { program := "ytjhdfldadcbkkaagreat", sum := "339de9872f6f81333d1b065d32f5339e33477c2ab51ed2d13f437b815182a19f", func := "mummer/mummerlaw17.HostBegins", spec := "hostBegins", inPlace := ["sync/atomic.AddInt64"], unfollowed := true, recurses := true, apart := false }
def HostBeginsSaid : Prop := hostBeginsRow.holds Tryz.pinned (OpenSpec.ofChange hostBeginsSpec)

/-- ITS FALSE NEIGHBOUR: 'it returns false'. Refute it at one input. -/
def hostBeginsWrong : ChangeSpec := { name := "hostBegins", fn := fun _ => fun
  | [d1, d2, d3] => { results := [.lit (.bool false)], args := [d1, d2, d3] }
  | _ => none }
def HostBeginsWrongFalsely : Prop := hostBeginsRow.holds Tryz.pinned (OpenSpec.ofChange hostBeginsWrong)

/-- 'mummerlaw17.HostRuns': WHATEVER THE INPUT: true; the input reads as it did. -/
def hostRunsSpec : ChangeSpec := { name := "hostRuns", fn := fun _ => fun
  | [d1, d2, d3] => { results := [.lit (.bool true)], args := [d1, d2, d3] }
  | _ => none }
def hostRunsRow : OpenClaim := { program := "ytjhdfldadcbkkaagreat", sum := "339de9872f6f81333d1b065d32f5339e33477c2ab51ed2d13f437b815182a19f", func := "mummer/mummerlaw17.HostRuns", spec := "hostRuns", inPlace := ["sync/atomic.AddInt64"], unfollowed := true, recurses := true, apart := false }
def HostRunsSaid : Prop := hostRunsRow.holds Tryz.pinned (OpenSpec.ofChange hostRunsSpec)

/-- ITS FALSE NEIGHBOUR: 'it returns false'. Refute it at one input. -/
def hostRunsWrong : ChangeSpec := { name := "hostRuns", fn := fun _ => fun
  | [d1, d2, d3] => { results := [.lit (.bool false)], args := [d1, d2, d3] }
  | _ => none }
def HostRunsWrongFalsely : Prop := hostRunsRow.holds Tryz.pinned (OpenSpec.ofChange hostRunsWrong)

/-- 'mummerlaw17.HostRemembers': WHATEVER THE INPUT: true; the input reads as it did. -/
def hostRemembersSpec : ChangeSpec := { name := "hostRemembers", fn := fun _ => fun
  | [d1, d2, d3] => { results := [.lit (.bool true)], args := [d1, d2, d3] }
  | _ => none }
def hostRemembersRow : OpenClaim := { program := "ytjhdfldadcbkkaagreat", sum := "339de9872f6f81333d1b065d32f5339e33477c2ab51ed2d13f437b815182a19f", func := "mummer/mummerlaw17.HostRemembers", spec := "hostRemembers", inPlace := ["sync/atomic.AddInt64"], unfollowed := true, recurses := true, apart := false }
def HostRemembersSaid : Prop := hostRemembersRow.holds Tryz.pinned (OpenSpec.ofChange hostRemembersSpec)

/-- ITS FALSE NEIGHBOUR: 'it returns false'. Refute it at one input. -/
def hostRemembersWrong : ChangeSpec := { name := "hostRemembers", fn := fun _ => fun
  | [d1, d2, d3] => { results := [.lit (.bool false)], args := [d1, d2, d3] }
  | _ => none }
def HostRemembersWrongFalsely : Prop := hostRemembersRow.holds Tryz.pinned (OpenSpec.ofChange hostRemembersWrong)

/- THE SECOND FORM. 'bulk': how many values and letters a reading holds, each counted each time it is reached (what is shared counts as often as it is met; a slice's spare places count too). A statement '..UptoSaid' is the law's where the arguments, and the package variables that the reading takes, are together of bulk at most 1048576: NARROWER than '..Said'. Prove '..Said' where nothing that the law and all that it calls make is longer than what came in: it says more and counts as full. Else prove '..UptoSaid'. A law counts once. -/
mutual
def uptoBulk {H : Type} : DataW H → Nat
  | .lit (.string bytes) => bytes.length + 1
  | .lit _ => 1
  | .nil => 1
  | .ptr d => uptoBulk d + 1
  | .slice elems spare => uptoBulkAll elems + uptoBulkAll spare + 1
  | .agg parts => uptoBulkAll parts + 1
  | .iface _ d => uptoBulk d + 1
  | .map entries => uptoBulkEntries entries + 1
  | .held _ => 1
def uptoBulkAll {H : Type} : List (DataW H) → Nat
  | [] => 0
  | d :: r => uptoBulk d + uptoBulkAll r
def uptoBulkEntries {H : Type} : List (Lit × DataW H) → Nat
  | [] => 0
  | x :: r => uptoBulkEntry x + uptoBulkEntries r
def uptoBulkEntry {H : Type} : Lit × DataW H → Nat
  | (.string bytes, d) => bytes.length + uptoBulk d + 1
  | (_, d) => uptoBulk d + 1
 end
def uptoSmall : (H : Type) → List (DataW H) → Bool := fun _ ds => decide (uptoBulkAll ds ≤ 1048576)
def OpenSpec.upto (s : _root_.Go.ChangeSpec) : _root_.Go.OpenSpec := { _root_.Go.OpenSpec.ofChange s with cond := some uptoSmall }

/-- 'mummerlaw17.HostLoads', WHERE WHAT IT READS IS OF BULK AT MOST 1048576: true; the input reads as it did. -/
def hostLoadsUptoRow : OpenClaim := { program := "ytjhdfldadcbkkaagreat", sum := "339de9872f6f81333d1b065d32f5339e33477c2ab51ed2d13f437b815182a19f", func := "mummer/mummerlaw17.HostLoads", spec := "hostLoads", inPlace := ["sync/atomic.AddInt64"], unfollowed := true, recurses := true, apart := false, narrowed := true }
def HostLoadsUptoSaid : Prop := hostLoadsUptoRow.holds Tryz.pinned (OpenSpec.upto hostLoadsSpec)

/-- 'mummerlaw17.HostBegins', WHERE WHAT IT READS IS OF BULK AT MOST 1048576: true; the input reads as it did. -/
def hostBeginsUptoRow : OpenClaim := { program := "ytjhdfldadcbkkaagreat", sum := "339de9872f6f81333d1b065d32f5339e33477c2ab51ed2d13f437b815182a19f", func := "mummer/mummerlaw17.HostBegins", spec := "hostBegins", inPlace := ["sync/atomic.AddInt64"], unfollowed := true, recurses := true, apart := false, narrowed := true }
def HostBeginsUptoSaid : Prop := hostBeginsUptoRow.holds Tryz.pinned (OpenSpec.upto hostBeginsSpec)

/-- 'mummerlaw17.HostRuns', WHERE WHAT IT READS IS OF BULK AT MOST 1048576: true; the input reads as it did. -/
def hostRunsUptoRow : OpenClaim := { program := "ytjhdfldadcbkkaagreat", sum := "339de9872f6f81333d1b065d32f5339e33477c2ab51ed2d13f437b815182a19f", func := "mummer/mummerlaw17.HostRuns", spec := "hostRuns", inPlace := ["sync/atomic.AddInt64"], unfollowed := true, recurses := true, apart := false, narrowed := true }
def HostRunsUptoSaid : Prop := hostRunsUptoRow.holds Tryz.pinned (OpenSpec.upto hostRunsSpec)

/-- 'mummerlaw17.HostRemembers', WHERE WHAT IT READS IS OF BULK AT MOST 1048576: true; the input reads as it did. -/
def hostRemembersUptoRow : OpenClaim := { program := "ytjhdfldadcbkkaagreat", sum := "339de9872f6f81333d1b065d32f5339e33477c2ab51ed2d13f437b815182a19f", func := "mummer/mummerlaw17.HostRemembers", spec := "hostRemembers", inPlace := ["sync/atomic.AddInt64"], unfollowed := true, recurses := true, apart := false, narrowed := true }
def HostRemembersUptoSaid : Prop := hostRemembersUptoRow.holds Tryz.pinned (OpenSpec.upto hostRemembersSpec)

end Rows
end Go.Proofs.YtjhdfldadcbkkaaGreat
