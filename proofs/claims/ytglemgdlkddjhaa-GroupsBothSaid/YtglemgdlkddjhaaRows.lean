/-
  No cell of these rows narrows 'for every input' (looked for: loops, veiled, ifaces, maps, wideKeys, modest, calm, conditions, laid).
  DERIVED. THE GIVEN ROWS OF THIS SEAT. 5 by the template 'for every input the law returns true; each argument reads behind the call as it read before'; 0 by the template 'total and deterministic' (their statements: YtglemgdlkddjhaaTotals.lean).
  GIVEN WITH THE SEED: the statements are not yours to turn. If you find one false, say at which input.
  Laid BY PROGRAM, IN A SANDBOX (cutbox-rows.mjs): the forced cells as the released guide's own fill.sh prints them over the translation d70b495cae44bd37… (all of the seat's roots in one cut). By AI agents, Wed Nov 11 2026. No macro, syntax, notation, axiom, sorry.
-/
import Derived.Test.YtglemgdlkddjhaaChecked
import GoSem.Claim
import GoSem.ClaimJoined
import GoSem.ClaimMapViews
import Derived.JoinedTies
import Derived.KernelRfl
namespace Go.Proofs.Ytglemgdlkddjhaa
/- THE CELL 'sum', in the pinned program and in every row, IS THE sha256 OF THE DUMP (.gsa) THAT YtglemgdlkddjhaaProg.lean LOADS. Nothing in Lean hashes anything: it is a label: what it is worth is what the hold of that sum in a sandbox is worth. -/
noncomputable def Try.pinned : Pinned := { name := "ytglemgdlkddjhaa", sum := "d70b495cae44bd372a56f2f08e1ad95001f7e2650d2cc3d98cb47d57186ac626", checked := Try.checked }
namespace Rows
def none {H : Type} : Left H := { results := [], args := [] }

/-- 'changelinglaw11.GroupsAll': WHATEVER THE INPUT: true; the input reads as it did. -/
def groupsAllSpec : ChangeSpec := { name := "groupsAll", fn := fun _ => fun
  | [d1, d2] => { results := [.lit (.bool true)], args := [d1, d2] }
  | _ => none }
def groupsAllRow : OpenClaim := { program := "ytglemgdlkddjhaa", sum := "d70b495cae44bd372a56f2f08e1ad95001f7e2650d2cc3d98cb47d57186ac626", func := "changeling/changelinglaw11.GroupsAll", spec := "groupsAll", apart := false }
def GroupsAllSaid : Prop := groupsAllRow.holds Try.pinned (OpenSpec.ofChange groupsAllSpec)

/-- ITS FALSE NEIGHBOUR: 'it returns false'. Refute it at one input. -/
def groupsAllWrong : ChangeSpec := { name := "groupsAll", fn := fun _ => fun
  | [d1, d2] => { results := [.lit (.bool false)], args := [d1, d2] }
  | _ => none }
def GroupsAllWrongFalsely : Prop := groupsAllRow.holds Try.pinned (OpenSpec.ofChange groupsAllWrong)

/-- 'changelinglaw11.GroupsOnce': WHATEVER THE INPUT: true; the input reads as it did. -/
def groupsOnceSpec : ChangeSpec := { name := "groupsOnce", fn := fun _ => fun
  | [d] => { results := [.lit (.bool true)], args := [d] }
  | _ => none }
def groupsOnceRow : OpenClaim := { program := "ytglemgdlkddjhaa", sum := "d70b495cae44bd372a56f2f08e1ad95001f7e2650d2cc3d98cb47d57186ac626", func := "changeling/changelinglaw11.GroupsOnce", spec := "groupsOnce", apart := false }
def GroupsOnceSaid : Prop := groupsOnceRow.holds Try.pinned (OpenSpec.ofChange groupsOnceSpec)

/-- ITS FALSE NEIGHBOUR: 'it returns false'. Refute it at one input. -/
def groupsOnceWrong : ChangeSpec := { name := "groupsOnce", fn := fun _ => fun
  | [d] => { results := [.lit (.bool false)], args := [d] }
  | _ => none }
def GroupsOnceWrongFalsely : Prop := groupsOnceRow.holds Try.pinned (OpenSpec.ofChange groupsOnceWrong)

/-- 'changelinglaw11.GroupsBehind': WHATEVER THE INPUT: true; the input reads as it did. -/
def groupsBehindSpec : ChangeSpec := { name := "groupsBehind", fn := fun _ => fun
  | [d] => { results := [.lit (.bool true)], args := [d] }
  | _ => none }
def groupsBehindRow : OpenClaim := { program := "ytglemgdlkddjhaa", sum := "d70b495cae44bd372a56f2f08e1ad95001f7e2650d2cc3d98cb47d57186ac626", func := "changeling/changelinglaw11.GroupsBehind", spec := "groupsBehind", apart := false }
def GroupsBehindSaid : Prop := groupsBehindRow.holds Try.pinned (OpenSpec.ofChange groupsBehindSpec)

/-- ITS FALSE NEIGHBOUR: 'it returns false'. Refute it at one input. -/
def groupsBehindWrong : ChangeSpec := { name := "groupsBehind", fn := fun _ => fun
  | [d] => { results := [.lit (.bool false)], args := [d] }
  | _ => none }
def GroupsBehindWrongFalsely : Prop := groupsBehindRow.holds Try.pinned (OpenSpec.ofChange groupsBehindWrong)

/-- 'changelinglaw11.GroupsBoth': WHATEVER THE INPUT: true; the input reads as it did. -/
def groupsBothSpec : ChangeSpec := { name := "groupsBoth", fn := fun _ => fun
  | [d1, d2, d3] => { results := [.lit (.bool true)], args := [d1, d2, d3] }
  | _ => none }
def groupsBothRow : OpenClaim := { program := "ytglemgdlkddjhaa", sum := "d70b495cae44bd372a56f2f08e1ad95001f7e2650d2cc3d98cb47d57186ac626", func := "changeling/changelinglaw11.GroupsBoth", spec := "groupsBoth", apart := false }
def GroupsBothSaid : Prop := groupsBothRow.holds Try.pinned (OpenSpec.ofChange groupsBothSpec)

/-- ITS FALSE NEIGHBOUR: 'it returns false'. Refute it at one input. -/
def groupsBothWrong : ChangeSpec := { name := "groupsBoth", fn := fun _ => fun
  | [d1, d2, d3] => { results := [.lit (.bool false)], args := [d1, d2, d3] }
  | _ => none }
def GroupsBothWrongFalsely : Prop := groupsBothRow.holds Try.pinned (OpenSpec.ofChange groupsBothWrong)

/-- 'changelinglaw11.GroupsRings': WHATEVER THE INPUT: true; the input reads as it did. -/
def groupsRingsSpec : ChangeSpec := { name := "groupsRings", fn := fun _ => fun
  | [d] => { results := [.lit (.bool true)], args := [d] }
  | _ => none }
def groupsRingsRow : OpenClaim := { program := "ytglemgdlkddjhaa", sum := "d70b495cae44bd372a56f2f08e1ad95001f7e2650d2cc3d98cb47d57186ac626", func := "changeling/changelinglaw11.GroupsRings", spec := "groupsRings", apart := false }
def GroupsRingsSaid : Prop := groupsRingsRow.holds Try.pinned (OpenSpec.ofChange groupsRingsSpec)

/-- ITS FALSE NEIGHBOUR: 'it returns false'. Refute it at one input. -/
def groupsRingsWrong : ChangeSpec := { name := "groupsRings", fn := fun _ => fun
  | [d] => { results := [.lit (.bool false)], args := [d] }
  | _ => none }
def GroupsRingsWrongFalsely : Prop := groupsRingsRow.holds Try.pinned (OpenSpec.ofChange groupsRingsWrong)

/- THE SECOND FORM. 'bulk': how many values and letters a reading holds, each counted each time it is reached (what is shared counts as often as it is met; a slice's spare places count too). A statement '..UptoSaid' is the law's where the arguments, and the package variables that the reading takes, are together of bulk at most 1048576: NARROWER than '..Said'. Prove '..Said' where nothing that the law and all that it calls make is longer than what came in: it says more and counts as full. Else prove '..UptoSaid'. A law counts once. -/
mutual
def uptoBulk {H : Type} : DataW H → Nat
  | .lit (.string bytes) => bytes.length + 1
  | .lit _ => 1
  | .nil => 1
  | .ptr d => uptoBulk d + 1
  | .slice elems spare => uptoBulkAll elems + uptoBulkAll spare + 1
  | .agg parts => uptoBulkAll parts + 1
  | .iface _ d => uptoBulk d + 1
  | .map entries => uptoBulkEntries entries + 1
  | .held _ => 1
def uptoBulkAll {H : Type} : List (DataW H) → Nat
  | [] => 0
  | d :: r => uptoBulk d + uptoBulkAll r
def uptoBulkEntries {H : Type} : List (Lit × DataW H) → Nat
  | [] => 0
  | x :: r => uptoBulkEntry x + uptoBulkEntries r
def uptoBulkEntry {H : Type} : Lit × DataW H → Nat
  | (.string bytes, d) => bytes.length + uptoBulk d + 1
  | (_, d) => uptoBulk d + 1
 end
def uptoSmall : (H : Type) → List (DataW H) → Bool := fun _ ds => decide (uptoBulkAll ds ≤ 1048576)
def OpenSpec.upto (s : _root_.Go.ChangeSpec) : _root_.Go.OpenSpec := { _root_.Go.OpenSpec.ofChange s with cond := some uptoSmall }

/-- 'changelinglaw11.GroupsAll', WHERE WHAT IT READS IS OF BULK AT MOST 1048576: true; the input reads as it did. -/
def groupsAllUptoRow : OpenClaim := { program := "ytglemgdlkddjhaa", sum := "d70b495cae44bd372a56f2f08e1ad95001f7e2650d2cc3d98cb47d57186ac626", func := "changeling/changelinglaw11.GroupsAll", spec := "groupsAll", apart := false, narrowed := true }
def GroupsAllUptoSaid : Prop := groupsAllUptoRow.holds Try.pinned (OpenSpec.upto groupsAllSpec)

/-- 'changelinglaw11.GroupsOnce', WHERE WHAT IT READS IS OF BULK AT MOST 1048576: true; the input reads as it did. -/
def groupsOnceUptoRow : OpenClaim := { program := "ytglemgdlkddjhaa", sum := "d70b495cae44bd372a56f2f08e1ad95001f7e2650d2cc3d98cb47d57186ac626", func := "changeling/changelinglaw11.GroupsOnce", spec := "groupsOnce", apart := false, narrowed := true }
def GroupsOnceUptoSaid : Prop := groupsOnceUptoRow.holds Try.pinned (OpenSpec.upto groupsOnceSpec)

/-- 'changelinglaw11.GroupsBehind', WHERE WHAT IT READS IS OF BULK AT MOST 1048576: true; the input reads as it did. -/
def groupsBehindUptoRow : OpenClaim := { program := "ytglemgdlkddjhaa", sum := "d70b495cae44bd372a56f2f08e1ad95001f7e2650d2cc3d98cb47d57186ac626", func := "changeling/changelinglaw11.GroupsBehind", spec := "groupsBehind", apart := false, narrowed := true }
def GroupsBehindUptoSaid : Prop := groupsBehindUptoRow.holds Try.pinned (OpenSpec.upto groupsBehindSpec)

/-- 'changelinglaw11.GroupsBoth', WHERE WHAT IT READS IS OF BULK AT MOST 1048576: true; the input reads as it did. -/
def groupsBothUptoRow : OpenClaim := { program := "ytglemgdlkddjhaa", sum := "d70b495cae44bd372a56f2f08e1ad95001f7e2650d2cc3d98cb47d57186ac626", func := "changeling/changelinglaw11.GroupsBoth", spec := "groupsBoth", apart := false, narrowed := true }
def GroupsBothUptoSaid : Prop := groupsBothUptoRow.holds Try.pinned (OpenSpec.upto groupsBothSpec)

/-- 'changelinglaw11.GroupsRings', WHERE WHAT IT READS IS OF BULK AT MOST 1048576: true; the input reads as it did. -/
def groupsRingsUptoRow : OpenClaim := { program := "ytglemgdlkddjhaa", sum := "d70b495cae44bd372a56f2f08e1ad95001f7e2650d2cc3d98cb47d57186ac626", func := "changeling/changelinglaw11.GroupsRings", spec := "groupsRings", apart := false, narrowed := true }
def GroupsRingsUptoSaid : Prop := groupsRingsUptoRow.holds Try.pinned (OpenSpec.upto groupsRingsSpec)

end Rows
end Go.Proofs.Ytglemgdlkddjhaa
