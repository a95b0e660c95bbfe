/-
  NARROWER THAN 'FOR EVERY INPUT', by the rows' own cells (each row's printed sentence says how): UnifySame: loops · UnifyGeneral: loops · UnifyBack: loops · UnifyTurns: loops · UnifyNil: loops · UnifyRenames: loops.
  DERIVED. THE GIVEN ROWS OF THIS SEAT. 6 by the template 'for every input the law returns true; each argument reads behind the call as it read before'; 0 by the template 'total and deterministic' (their statements: YtneonbdlgmaofaaTotals.lean).
  GIVEN WITH THE SEED: the statements are not yours to turn. If you find one false, say at which input.
  Laid BY PROGRAM, IN A SANDBOX (cutbox-rows.mjs): the forced cells as the released guide's own fill.sh prints them over the translation b35e7be99b837c1c… (all of the seat's roots in one cut). By AI agents, Wed Nov 11 2026. No macro, syntax, notation, axiom, sorry.
-/
import Derived.Test.YtneonbdlgmaofaaChecked
import GoSem.Claim
import GoSem.ClaimJoined
import GoSem.ClaimMapViews
import Derived.JoinedTies
import Derived.KernelRfl
namespace Go.Proofs.Ytneonbdlgmaofaa
/- THE CELL 'sum', in the pinned program and in every row, IS THE sha256 OF THE DUMP (.gsa) THAT YtneonbdlgmaofaaProg.lean LOADS. Nothing in Lean hashes anything: it is a label: what it is worth is what the hold of that sum in a sandbox is worth. -/
noncomputable def Try.pinned : Pinned := { name := "ytneonbdlgmaofaa", sum := "b35e7be99b837c1cc341c5177efdfa1965bac9458242aa95b2109c6d032dc022", checked := Try.checked }
namespace Rows
def none {H : Type} : Left H := { results := [], args := [] }

/-- 'changelinglaw10.UnifySame': WHATEVER THE INPUT: true; the input reads as it did. -/
def unifySameSpec : ChangeSpec := { name := "unifySame", fn := fun _ => fun
  | [d] => { results := [.lit (.bool true)], args := [d] }
  | _ => none }
def unifySameRow : OpenClaim := { program := "ytneonbdlgmaofaa", sum := "b35e7be99b837c1cc341c5177efdfa1965bac9458242aa95b2109c6d032dc022", func := "changeling/changelinglaw10.UnifySame", spec := "unifySame", recurses := true, loops := true, plainKeys := false, apart := false }
def UnifySameSaid : Prop := unifySameRow.holds Try.pinned (OpenSpec.ofChange unifySameSpec)

/-- ITS FALSE NEIGHBOUR: 'it returns false'. Refute it at one input. -/
def unifySameWrong : ChangeSpec := { name := "unifySame", fn := fun _ => fun
  | [d] => { results := [.lit (.bool false)], args := [d] }
  | _ => none }
def UnifySameWrongFalsely : Prop := unifySameRow.holds Try.pinned (OpenSpec.ofChange unifySameWrong)

/-- 'changelinglaw10.UnifyGeneral': WHATEVER THE INPUT: true; the input reads as it did. -/
def unifyGeneralSpec : ChangeSpec := { name := "unifyGeneral", fn := fun _ => fun
  | [d1, d2] => { results := [.lit (.bool true)], args := [d1, d2] }
  | _ => none }
def unifyGeneralRow : OpenClaim := { program := "ytneonbdlgmaofaa", sum := "b35e7be99b837c1cc341c5177efdfa1965bac9458242aa95b2109c6d032dc022", func := "changeling/changelinglaw10.UnifyGeneral", spec := "unifyGeneral", recurses := true, loops := true, plainKeys := false, apart := false }
def UnifyGeneralSaid : Prop := unifyGeneralRow.holds Try.pinned (OpenSpec.ofChange unifyGeneralSpec)

/-- ITS FALSE NEIGHBOUR: 'it returns false'. Refute it at one input. -/
def unifyGeneralWrong : ChangeSpec := { name := "unifyGeneral", fn := fun _ => fun
  | [d1, d2] => { results := [.lit (.bool false)], args := [d1, d2] }
  | _ => none }
def UnifyGeneralWrongFalsely : Prop := unifyGeneralRow.holds Try.pinned (OpenSpec.ofChange unifyGeneralWrong)

/-- 'changelinglaw10.UnifyBack': WHATEVER THE INPUT: true; the input reads as it did. -/
def unifyBackSpec : ChangeSpec := { name := "unifyBack", fn := fun _ => fun
  | [d1, d2] => { results := [.lit (.bool true)], args := [d1, d2] }
  | _ => none }
def unifyBackRow : OpenClaim := { program := "ytneonbdlgmaofaa", sum := "b35e7be99b837c1cc341c5177efdfa1965bac9458242aa95b2109c6d032dc022", func := "changeling/changelinglaw10.UnifyBack", spec := "unifyBack", recurses := true, loops := true, plainKeys := false, apart := false }
def UnifyBackSaid : Prop := unifyBackRow.holds Try.pinned (OpenSpec.ofChange unifyBackSpec)

/-- ITS FALSE NEIGHBOUR: 'it returns false'. Refute it at one input. -/
def unifyBackWrong : ChangeSpec := { name := "unifyBack", fn := fun _ => fun
  | [d1, d2] => { results := [.lit (.bool false)], args := [d1, d2] }
  | _ => none }
def UnifyBackWrongFalsely : Prop := unifyBackRow.holds Try.pinned (OpenSpec.ofChange unifyBackWrong)

/-- 'changelinglaw10.UnifyTurns': WHATEVER THE INPUT: true; the input reads as it did. -/
def unifyTurnsSpec : ChangeSpec := { name := "unifyTurns", fn := fun _ => fun
  | [d] => { results := [.lit (.bool true)], args := [d] }
  | _ => none }
def unifyTurnsRow : OpenClaim := { program := "ytneonbdlgmaofaa", sum := "b35e7be99b837c1cc341c5177efdfa1965bac9458242aa95b2109c6d032dc022", func := "changeling/changelinglaw10.UnifyTurns", spec := "unifyTurns", recurses := true, loops := true, plainKeys := false, apart := false }
def UnifyTurnsSaid : Prop := unifyTurnsRow.holds Try.pinned (OpenSpec.ofChange unifyTurnsSpec)

/-- ITS FALSE NEIGHBOUR: 'it returns false'. Refute it at one input. -/
def unifyTurnsWrong : ChangeSpec := { name := "unifyTurns", fn := fun _ => fun
  | [d] => { results := [.lit (.bool false)], args := [d] }
  | _ => none }
def UnifyTurnsWrongFalsely : Prop := unifyTurnsRow.holds Try.pinned (OpenSpec.ofChange unifyTurnsWrong)

/-- 'changelinglaw10.UnifyNil': WHATEVER THE INPUT: true; the input reads as it did. -/
def unifyNilSpec : ChangeSpec := { name := "unifyNil", fn := fun _ => fun
  | [d1, d2] => { results := [.lit (.bool true)], args := [d1, d2] }
  | _ => none }
def unifyNilRow : OpenClaim := { program := "ytneonbdlgmaofaa", sum := "b35e7be99b837c1cc341c5177efdfa1965bac9458242aa95b2109c6d032dc022", func := "changeling/changelinglaw10.UnifyNil", spec := "unifyNil", recurses := true, loops := true, plainKeys := false, apart := false }
def UnifyNilSaid : Prop := unifyNilRow.holds Try.pinned (OpenSpec.ofChange unifyNilSpec)

/-- ITS FALSE NEIGHBOUR: 'it returns false'. Refute it at one input. -/
def unifyNilWrong : ChangeSpec := { name := "unifyNil", fn := fun _ => fun
  | [d1, d2] => { results := [.lit (.bool false)], args := [d1, d2] }
  | _ => none }
def UnifyNilWrongFalsely : Prop := unifyNilRow.holds Try.pinned (OpenSpec.ofChange unifyNilWrong)

/-- 'changelinglaw10.UnifyRenames': WHATEVER THE INPUT: true; the input reads as it did. -/
def unifyRenamesSpec : ChangeSpec := { name := "unifyRenames", fn := fun _ => fun
  | [d1, d2] => { results := [.lit (.bool true)], args := [d1, d2] }
  | _ => none }
def unifyRenamesRow : OpenClaim := { program := "ytneonbdlgmaofaa", sum := "b35e7be99b837c1cc341c5177efdfa1965bac9458242aa95b2109c6d032dc022", func := "changeling/changelinglaw10.UnifyRenames", spec := "unifyRenames", recurses := true, loops := true, plainKeys := false, apart := false }
def UnifyRenamesSaid : Prop := unifyRenamesRow.holds Try.pinned (OpenSpec.ofChange unifyRenamesSpec)

/-- ITS FALSE NEIGHBOUR: 'it returns false'. Refute it at one input. -/
def unifyRenamesWrong : ChangeSpec := { name := "unifyRenames", fn := fun _ => fun
  | [d1, d2] => { results := [.lit (.bool false)], args := [d1, d2] }
  | _ => none }
def UnifyRenamesWrongFalsely : Prop := unifyRenamesRow.holds Try.pinned (OpenSpec.ofChange unifyRenamesWrong)

/- THE SECOND FORM. 'bulk': how many values and letters a reading holds, each counted each time it is reached (what is shared counts as often as it is met; a slice's spare places count too). A statement '..UptoSaid' is the law's where the arguments, and the package variables that the reading takes, are together of bulk at most 1048576: NARROWER than '..Said'. Prove '..Said' where nothing that the law and all that it calls make is longer than what came in: it says more and counts as full. Else prove '..UptoSaid'. A law counts once. -/
mutual
def uptoBulk {H : Type} : DataW H → Nat
  | .lit (.string bytes) => bytes.length + 1
  | .lit _ => 1
  | .nil => 1
  | .ptr d => uptoBulk d + 1
  | .slice elems spare => uptoBulkAll elems + uptoBulkAll spare + 1
  | .agg parts => uptoBulkAll parts + 1
  | .iface _ d => uptoBulk d + 1
  | .map entries => uptoBulkEntries entries + 1
  | .held _ => 1
def uptoBulkAll {H : Type} : List (DataW H) → Nat
  | [] => 0
  | d :: r => uptoBulk d + uptoBulkAll r
def uptoBulkEntries {H : Type} : List (Lit × DataW H) → Nat
  | [] => 0
  | x :: r => uptoBulkEntry x + uptoBulkEntries r
def uptoBulkEntry {H : Type} : Lit × DataW H → Nat
  | (.string bytes, d) => bytes.length + uptoBulk d + 1
  | (_, d) => uptoBulk d + 1
 end
def uptoSmall : (H : Type) → List (DataW H) → Bool := fun _ ds => decide (uptoBulkAll ds ≤ 1048576)
def OpenSpec.upto (s : _root_.Go.ChangeSpec) : _root_.Go.OpenSpec := { _root_.Go.OpenSpec.ofChange s with cond := some uptoSmall }

/-- 'changelinglaw10.UnifySame', WHERE WHAT IT READS IS OF BULK AT MOST 1048576: true; the input reads as it did. -/
def unifySameUptoRow : OpenClaim := { program := "ytneonbdlgmaofaa", sum := "b35e7be99b837c1cc341c5177efdfa1965bac9458242aa95b2109c6d032dc022", func := "changeling/changelinglaw10.UnifySame", spec := "unifySame", recurses := true, loops := true, plainKeys := false, apart := false, narrowed := true }
def UnifySameUptoSaid : Prop := unifySameUptoRow.holds Try.pinned (OpenSpec.upto unifySameSpec)

/-- 'changelinglaw10.UnifyGeneral', WHERE WHAT IT READS IS OF BULK AT MOST 1048576: true; the input reads as it did. -/
def unifyGeneralUptoRow : OpenClaim := { program := "ytneonbdlgmaofaa", sum := "b35e7be99b837c1cc341c5177efdfa1965bac9458242aa95b2109c6d032dc022", func := "changeling/changelinglaw10.UnifyGeneral", spec := "unifyGeneral", recurses := true, loops := true, plainKeys := false, apart := false, narrowed := true }
def UnifyGeneralUptoSaid : Prop := unifyGeneralUptoRow.holds Try.pinned (OpenSpec.upto unifyGeneralSpec)

/-- 'changelinglaw10.UnifyBack', WHERE WHAT IT READS IS OF BULK AT MOST 1048576: true; the input reads as it did. -/
def unifyBackUptoRow : OpenClaim := { program := "ytneonbdlgmaofaa", sum := "b35e7be99b837c1cc341c5177efdfa1965bac9458242aa95b2109c6d032dc022", func := "changeling/changelinglaw10.UnifyBack", spec := "unifyBack", recurses := true, loops := true, plainKeys := false, apart := false, narrowed := true }
def UnifyBackUptoSaid : Prop := unifyBackUptoRow.holds Try.pinned (OpenSpec.upto unifyBackSpec)

/-- 'changelinglaw10.UnifyTurns', WHERE WHAT IT READS IS OF BULK AT MOST 1048576: true; the input reads as it did. -/
def unifyTurnsUptoRow : OpenClaim := { program := "ytneonbdlgmaofaa", sum := "b35e7be99b837c1cc341c5177efdfa1965bac9458242aa95b2109c6d032dc022", func := "changeling/changelinglaw10.UnifyTurns", spec := "unifyTurns", recurses := true, loops := true, plainKeys := false, apart := false, narrowed := true }
def UnifyTurnsUptoSaid : Prop := unifyTurnsUptoRow.holds Try.pinned (OpenSpec.upto unifyTurnsSpec)

/-- 'changelinglaw10.UnifyNil', WHERE WHAT IT READS IS OF BULK AT MOST 1048576: true; the input reads as it did. -/
def unifyNilUptoRow : OpenClaim := { program := "ytneonbdlgmaofaa", sum := "b35e7be99b837c1cc341c5177efdfa1965bac9458242aa95b2109c6d032dc022", func := "changeling/changelinglaw10.UnifyNil", spec := "unifyNil", recurses := true, loops := true, plainKeys := false, apart := false, narrowed := true }
def UnifyNilUptoSaid : Prop := unifyNilUptoRow.holds Try.pinned (OpenSpec.upto unifyNilSpec)

/-- 'changelinglaw10.UnifyRenames', WHERE WHAT IT READS IS OF BULK AT MOST 1048576: true; the input reads as it did. -/
def unifyRenamesUptoRow : OpenClaim := { program := "ytneonbdlgmaofaa", sum := "b35e7be99b837c1cc341c5177efdfa1965bac9458242aa95b2109c6d032dc022", func := "changeling/changelinglaw10.UnifyRenames", spec := "unifyRenames", recurses := true, loops := true, plainKeys := false, apart := false, narrowed := true }
def UnifyRenamesUptoSaid : Prop := unifyRenamesUptoRow.holds Try.pinned (OpenSpec.upto unifyRenamesSpec)

end Rows
end Go.Proofs.Ytneonbdlgmaofaa
