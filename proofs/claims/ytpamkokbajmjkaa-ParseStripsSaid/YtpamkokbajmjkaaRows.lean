/-
  NARROWER THAN 'FOR EVERY INPUT', by the rows' own cells (each row's printed sentence says how): ParseStrips: loops.
  DERIVED. THE GIVEN ROWS OF THIS SEAT. 4 by the template 'for every input the law returns true; each argument reads behind the call as it read before'; 0 by the template 'total and deterministic' (their statements: YtpamkokbajmjkaaTotals.lean).
  GIVEN WITH THE SEED: the statements are not yours to turn. If you find one false, say at which input.
  Laid BY PROGRAM, IN A SANDBOX (cutbox-rows.mjs): the forced cells as the released guide's own fill.sh prints them over the translation 02b32dd826b3fbf3… (all of the seat's roots in one cut). By AI agents, Wed Nov 11 2026. No macro, syntax, notation, axiom, sorry.
-/
import Derived.Test.YtpamkokbajmjkaaChecked
import GoSem.Claim
import GoSem.ClaimJoined
import GoSem.ClaimMapViews
import Derived.JoinedTies
import Derived.KernelRfl
namespace Go.Proofs.Ytpamkokbajmjkaa
/- THE CELL 'sum', in the pinned program and in every row, IS THE sha256 OF THE DUMP (.gsa) THAT YtpamkokbajmjkaaProg.lean LOADS. Nothing in Lean hashes anything: it is a label: what it is worth is what the hold of that sum in a sandbox is worth. -/
noncomputable def Try.pinned : Pinned := { name := "ytpamkokbajmjkaa", sum := "02b32dd826b3fbf3a4c6f8c56a0dde5fea3d5bd1d4ae02d1b2e0a11d8b6bea4d", checked := Try.checked }
namespace Rows
def none {H : Type} : Left H := { results := [], args := [] }

/-- 'changelinglaw06.ParseJoins': WHATEVER THE INPUT: true; the input reads as it did. -/
def parseJoinsSpec : ChangeSpec := { name := "parseJoins", fn := fun _ => fun
  | [d1, d2] => { results := [.lit (.bool true)], args := [d1, d2] }
  | _ => none }
def parseJoinsRow : OpenClaim := { program := "ytpamkokbajmjkaa", sum := "02b32dd826b3fbf3a4c6f8c56a0dde5fea3d5bd1d4ae02d1b2e0a11d8b6bea4d", func := "changeling/changelinglaw06.ParseJoins", spec := "parseJoins", unfollowed := true, recurses := true, apart := false }
def ParseJoinsSaid : Prop := parseJoinsRow.holds Try.pinned (OpenSpec.ofChange parseJoinsSpec)

/-- ITS FALSE NEIGHBOUR: 'it returns false'. Refute it at one input. -/
def parseJoinsWrong : ChangeSpec := { name := "parseJoins", fn := fun _ => fun
  | [d1, d2] => { results := [.lit (.bool false)], args := [d1, d2] }
  | _ => none }
def ParseJoinsWrongFalsely : Prop := parseJoinsRow.holds Try.pinned (OpenSpec.ofChange parseJoinsWrong)

/-- 'changelinglaw06.ParseDeep': WHATEVER THE INPUT: true; the input reads as it did. -/
def parseDeepSpec : ChangeSpec := { name := "parseDeep", fn := fun _ => fun
  | [d] => { results := [.lit (.bool true)], args := [d] }
  | _ => none }
def parseDeepRow : OpenClaim := { program := "ytpamkokbajmjkaa", sum := "02b32dd826b3fbf3a4c6f8c56a0dde5fea3d5bd1d4ae02d1b2e0a11d8b6bea4d", func := "changeling/changelinglaw06.ParseDeep", spec := "parseDeep", unfollowed := true, recurses := true, apart := false }
def ParseDeepSaid : Prop := parseDeepRow.holds Try.pinned (OpenSpec.ofChange parseDeepSpec)

/-- ITS FALSE NEIGHBOUR: 'it returns false'. Refute it at one input. -/
def parseDeepWrong : ChangeSpec := { name := "parseDeep", fn := fun _ => fun
  | [d] => { results := [.lit (.bool false)], args := [d] }
  | _ => none }
def ParseDeepWrongFalsely : Prop := parseDeepRow.holds Try.pinned (OpenSpec.ofChange parseDeepWrong)

/-- 'changelinglaw06.ParseRows': WHATEVER THE INPUT: true; the input reads as it did. -/
def parseRowsSpec : ChangeSpec := { name := "parseRows", fn := fun _ => fun
  | [d1, d2] => { results := [.lit (.bool true)], args := [d1, d2] }
  | _ => none }
def parseRowsRow : OpenClaim := { program := "ytpamkokbajmjkaa", sum := "02b32dd826b3fbf3a4c6f8c56a0dde5fea3d5bd1d4ae02d1b2e0a11d8b6bea4d", func := "changeling/changelinglaw06.ParseRows", spec := "parseRows", unfollowed := true, recurses := true, apart := false }
def ParseRowsSaid : Prop := parseRowsRow.holds Try.pinned (OpenSpec.ofChange parseRowsSpec)

/-- ITS FALSE NEIGHBOUR: 'it returns false'. Refute it at one input. -/
def parseRowsWrong : ChangeSpec := { name := "parseRows", fn := fun _ => fun
  | [d1, d2] => { results := [.lit (.bool false)], args := [d1, d2] }
  | _ => none }
def ParseRowsWrongFalsely : Prop := parseRowsRow.holds Try.pinned (OpenSpec.ofChange parseRowsWrong)

/-- 'changelinglaw06.ParseStrips': WHATEVER THE INPUT: true; the input reads as it did. -/
def parseStripsSpec : ChangeSpec := { name := "parseStrips", fn := fun _ => fun
  | [d1, d2] => { results := [.lit (.bool true)], args := [d1, d2] }
  | _ => none }
def parseStripsRow : OpenClaim := { program := "ytpamkokbajmjkaa", sum := "02b32dd826b3fbf3a4c6f8c56a0dde5fea3d5bd1d4ae02d1b2e0a11d8b6bea4d", func := "changeling/changelinglaw06.ParseStrips", spec := "parseStrips", unfollowed := true, recurses := true, loops := true, apart := false }
def ParseStripsSaid : Prop := parseStripsRow.holds Try.pinned (OpenSpec.ofChange parseStripsSpec)

/-- ITS FALSE NEIGHBOUR: 'it returns false'. Refute it at one input. -/
def parseStripsWrong : ChangeSpec := { name := "parseStrips", fn := fun _ => fun
  | [d1, d2] => { results := [.lit (.bool false)], args := [d1, d2] }
  | _ => none }
def ParseStripsWrongFalsely : Prop := parseStripsRow.holds Try.pinned (OpenSpec.ofChange parseStripsWrong)

/- THE SECOND FORM. 'bulk': how many values and letters a reading holds, each counted each time it is reached (what is shared counts as often as it is met; a slice's spare places count too). A statement '..UptoSaid' is the law's where the arguments, and the package variables that the reading takes, are together of bulk at most 1048576: NARROWER than '..Said'. Prove '..Said' where nothing that the law and all that it calls make is longer than what came in: it says more and counts as full. Else prove '..UptoSaid'. A law counts once. -/
mutual
def uptoBulk {H : Type} : DataW H → Nat
  | .lit (.string bytes) => bytes.length + 1
  | .lit _ => 1
  | .nil => 1
  | .ptr d => uptoBulk d + 1
  | .slice elems spare => uptoBulkAll elems + uptoBulkAll spare + 1
  | .agg parts => uptoBulkAll parts + 1
  | .iface _ d => uptoBulk d + 1
  | .map entries => uptoBulkEntries entries + 1
  | .held _ => 1
def uptoBulkAll {H : Type} : List (DataW H) → Nat
  | [] => 0
  | d :: r => uptoBulk d + uptoBulkAll r
def uptoBulkEntries {H : Type} : List (Lit × DataW H) → Nat
  | [] => 0
  | x :: r => uptoBulkEntry x + uptoBulkEntries r
def uptoBulkEntry {H : Type} : Lit × DataW H → Nat
  | (.string bytes, d) => bytes.length + uptoBulk d + 1
  | (_, d) => uptoBulk d + 1
 end
def uptoSmall : (H : Type) → List (DataW H) → Bool := fun _ ds => decide (uptoBulkAll ds ≤ 1048576)
def OpenSpec.upto (s : _root_.Go.ChangeSpec) : _root_.Go.OpenSpec := { _root_.Go.OpenSpec.ofChange s with cond := some uptoSmall }

/-- 'changelinglaw06.ParseJoins', WHERE WHAT IT READS IS OF BULK AT MOST 1048576: true; the input reads as it did. -/
def parseJoinsUptoRow : OpenClaim := { program := "ytpamkokbajmjkaa", sum := "02b32dd826b3fbf3a4c6f8c56a0dde5fea3d5bd1d4ae02d1b2e0a11d8b6bea4d", func := "changeling/changelinglaw06.ParseJoins", spec := "parseJoins", unfollowed := true, recurses := true, apart := false, narrowed := true }
def ParseJoinsUptoSaid : Prop := parseJoinsUptoRow.holds Try.pinned (OpenSpec.upto parseJoinsSpec)

/-- 'changelinglaw06.ParseDeep', WHERE WHAT IT READS IS OF BULK AT MOST 1048576: true; the input reads as it did. -/
def parseDeepUptoRow : OpenClaim := { program := "ytpamkokbajmjkaa", sum := "02b32dd826b3fbf3a4c6f8c56a0dde5fea3d5bd1d4ae02d1b2e0a11d8b6bea4d", func := "changeling/changelinglaw06.ParseDeep", spec := "parseDeep", unfollowed := true, recurses := true, apart := false, narrowed := true }
def ParseDeepUptoSaid : Prop := parseDeepUptoRow.holds Try.pinned (OpenSpec.upto parseDeepSpec)

/-- 'changelinglaw06.ParseRows', WHERE WHAT IT READS IS OF BULK AT MOST 1048576: true; the input reads as it did. -/
def parseRowsUptoRow : OpenClaim := { program := "ytpamkokbajmjkaa", sum := "02b32dd826b3fbf3a4c6f8c56a0dde5fea3d5bd1d4ae02d1b2e0a11d8b6bea4d", func := "changeling/changelinglaw06.ParseRows", spec := "parseRows", unfollowed := true, recurses := true, apart := false, narrowed := true }
def ParseRowsUptoSaid : Prop := parseRowsUptoRow.holds Try.pinned (OpenSpec.upto parseRowsSpec)

/-- 'changelinglaw06.ParseStrips', WHERE WHAT IT READS IS OF BULK AT MOST 1048576: true; the input reads as it did. -/
def parseStripsUptoRow : OpenClaim := { program := "ytpamkokbajmjkaa", sum := "02b32dd826b3fbf3a4c6f8c56a0dde5fea3d5bd1d4ae02d1b2e0a11d8b6bea4d", func := "changeling/changelinglaw06.ParseStrips", spec := "parseStrips", unfollowed := true, recurses := true, loops := true, apart := false, narrowed := true }
def ParseStripsUptoSaid : Prop := parseStripsUptoRow.holds Try.pinned (OpenSpec.upto parseStripsSpec)

end Rows
end Go.Proofs.Ytpamkokbajmjkaa
