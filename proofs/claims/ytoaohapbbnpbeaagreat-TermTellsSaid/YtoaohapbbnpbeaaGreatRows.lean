/-
  NARROWER THAN 'FOR EVERY INPUT', by the rows' own cells (each row's printed sentence says how): TermOf: loops · TermBack: loops · TermApart: loops · TermTells: loops.
  DERIVED. THE GIVEN ROWS OF THIS SEAT. 5 by the template 'for every input the law returns true; each argument reads behind the call as it read before'; 0 by the template 'total and deterministic' (their statements: YtoaohapbbnpbeaaGreatTotals.lean).
  GIVEN WITH THE SEED: the statements are not yours to turn. If you find one false, say at which input.
  Laid BY PROGRAM, IN A SANDBOX (cutbox-rows.mjs): the forced cells as the released guide's own fill.sh prints them over the translation 014aed792d2f1d3a… (all of the seat's roots in one cut). By AI agents, Wed Nov 11 2026. No macro, syntax, notation, axiom, sorry.
-/
import Derived.Test.YtoaohapbbnpbeaaGreatChecked
import GoSem.Claim
import GoSem.ClaimJoined
import GoSem.ClaimMapViews
import Derived.JoinedTies
import Derived.KernelRfl
namespace Go.Proofs.YtoaohapbbnpbeaaGreat
/- THE CELL 'sum', in the pinned program and in every row, IS THE sha256 OF THE DUMP (.gsa) THAT YtoaohapbbnpbeaaGreatProg.lean LOADS. Nothing in Lean hashes anything: it is a label: what it is worth is what the hold of that sum in a sandbox is worth. -/
noncomputable def Tryz.pinned : Pinned := { name := "ytoaohapbbnpbeaagreat", sum := "014aed792d2f1d3a15e8af067c1ed95e985b16bc0f57d6c7567c9bbcbab00e0f", checked := Tryz.checked }
namespace Rows
def none {H : Type} : Left H := { results := [], args := [] }

/-- 'changelinglaw19.TermOf': WHATEVER THE INPUT: true; the input reads as it did. -/
def termOfSpec : ChangeSpec := { name := "termOf", fn := fun _ => fun
  | [d] => { results := [.lit (.bool true)], args := [d] }
  | _ => none }
def termOfRow : OpenClaim := { program := "ytoaohapbbnpbeaagreat", sum := "014aed792d2f1d3a15e8af067c1ed95e985b16bc0f57d6c7567c9bbcbab00e0f", func := "changeling/changelinglaw19.TermOf", spec := "termOf", inPlace := ["internal/abi.NoEscape", "internal/bytealg.MakeNoZero"], unfollowed := true, recurses := true, loops := true, apart := false }
def TermOfSaid : Prop := termOfRow.holds Tryz.pinned (OpenSpec.ofChange termOfSpec)

/-- ITS FALSE NEIGHBOUR: 'it returns false'. Refute it at one input. -/
def termOfWrong : ChangeSpec := { name := "termOf", fn := fun _ => fun
  | [d] => { results := [.lit (.bool false)], args := [d] }
  | _ => none }
def TermOfWrongFalsely : Prop := termOfRow.holds Tryz.pinned (OpenSpec.ofChange termOfWrong)

/-- 'changelinglaw19.TermReads': WHATEVER THE INPUT: true; the input reads as it did. -/
def termReadsSpec : ChangeSpec := { name := "termReads", fn := fun _ => fun
  | [d] => { results := [.lit (.bool true)], args := [d] }
  | _ => none }
def termReadsRow : OpenClaim := { program := "ytoaohapbbnpbeaagreat", sum := "014aed792d2f1d3a15e8af067c1ed95e985b16bc0f57d6c7567c9bbcbab00e0f", func := "changeling/changelinglaw19.TermReads", spec := "termReads", inPlace := ["internal/abi.NoEscape", "internal/bytealg.MakeNoZero"], unfollowed := true, recurses := true, apart := false }
def TermReadsSaid : Prop := termReadsRow.holds Tryz.pinned (OpenSpec.ofChange termReadsSpec)

/-- ITS FALSE NEIGHBOUR: 'it returns false'. Refute it at one input. -/
def termReadsWrong : ChangeSpec := { name := "termReads", fn := fun _ => fun
  | [d] => { results := [.lit (.bool false)], args := [d] }
  | _ => none }
def TermReadsWrongFalsely : Prop := termReadsRow.holds Tryz.pinned (OpenSpec.ofChange termReadsWrong)

/-- 'changelinglaw19.TermBack': WHATEVER THE INPUT: true; the input reads as it did. -/
def termBackSpec : ChangeSpec := { name := "termBack", fn := fun _ => fun
  | [d] => { results := [.lit (.bool true)], args := [d] }
  | _ => none }
def termBackRow : OpenClaim := { program := "ytoaohapbbnpbeaagreat", sum := "014aed792d2f1d3a15e8af067c1ed95e985b16bc0f57d6c7567c9bbcbab00e0f", func := "changeling/changelinglaw19.TermBack", spec := "termBack", inPlace := ["internal/abi.NoEscape", "internal/bytealg.MakeNoZero"], unfollowed := true, recurses := true, loops := true, apart := false }
def TermBackSaid : Prop := termBackRow.holds Tryz.pinned (OpenSpec.ofChange termBackSpec)

/-- ITS FALSE NEIGHBOUR: 'it returns false'. Refute it at one input. -/
def termBackWrong : ChangeSpec := { name := "termBack", fn := fun _ => fun
  | [d] => { results := [.lit (.bool false)], args := [d] }
  | _ => none }
def TermBackWrongFalsely : Prop := termBackRow.holds Tryz.pinned (OpenSpec.ofChange termBackWrong)

/-- 'changelinglaw19.TermApart': WHATEVER THE INPUT: true; the input reads as it did. -/
def termApartSpec : ChangeSpec := { name := "termApart", fn := fun _ => fun
  | [d1, d2] => { results := [.lit (.bool true)], args := [d1, d2] }
  | _ => none }
def termApartRow : OpenClaim := { program := "ytoaohapbbnpbeaagreat", sum := "014aed792d2f1d3a15e8af067c1ed95e985b16bc0f57d6c7567c9bbcbab00e0f", func := "changeling/changelinglaw19.TermApart", spec := "termApart", inPlace := ["internal/abi.NoEscape", "internal/bytealg.MakeNoZero"], unfollowed := true, recurses := true, loops := true, apart := false }
def TermApartSaid : Prop := termApartRow.holds Tryz.pinned (OpenSpec.ofChange termApartSpec)

/-- ITS FALSE NEIGHBOUR: 'it returns false'. Refute it at one input. -/
def termApartWrong : ChangeSpec := { name := "termApart", fn := fun _ => fun
  | [d1, d2] => { results := [.lit (.bool false)], args := [d1, d2] }
  | _ => none }
def TermApartWrongFalsely : Prop := termApartRow.holds Tryz.pinned (OpenSpec.ofChange termApartWrong)

/-- 'changelinglaw19.TermTells': WHATEVER THE INPUT: true; the input reads as it did. -/
def termTellsSpec : ChangeSpec := { name := "termTells", fn := fun _ => fun
  | [d1, d2] => { results := [.lit (.bool true)], args := [d1, d2] }
  | _ => none }
def termTellsRow : OpenClaim := { program := "ytoaohapbbnpbeaagreat", sum := "014aed792d2f1d3a15e8af067c1ed95e985b16bc0f57d6c7567c9bbcbab00e0f", func := "changeling/changelinglaw19.TermTells", spec := "termTells", inPlace := ["internal/abi.NoEscape", "internal/bytealg.MakeNoZero"], unfollowed := true, recurses := true, loops := true, apart := false }
def TermTellsSaid : Prop := termTellsRow.holds Tryz.pinned (OpenSpec.ofChange termTellsSpec)

/-- ITS FALSE NEIGHBOUR: 'it returns false'. Refute it at one input. -/
def termTellsWrong : ChangeSpec := { name := "termTells", fn := fun _ => fun
  | [d1, d2] => { results := [.lit (.bool false)], args := [d1, d2] }
  | _ => none }
def TermTellsWrongFalsely : Prop := termTellsRow.holds Tryz.pinned (OpenSpec.ofChange termTellsWrong)

/- THE SECOND FORM. 'bulk': how many values and letters a reading holds, each counted each time it is reached (what is shared counts as often as it is met; a slice's spare places count too). A statement '..UptoSaid' is the law's where the arguments, and the package variables that the reading takes, are together of bulk at most 1048576: NARROWER than '..Said'. Prove '..Said' where nothing that the law and all that it calls make is longer than what came in: it says more and counts as full. Else prove '..UptoSaid'. A law counts once. -/
mutual
def uptoBulk {H : Type} : DataW H → Nat
  | .lit (.string bytes) => bytes.length + 1
  | .lit _ => 1
  | .nil => 1
  | .ptr d => uptoBulk d + 1
  | .slice elems spare => uptoBulkAll elems + uptoBulkAll spare + 1
  | .agg parts => uptoBulkAll parts + 1
  | .iface _ d => uptoBulk d + 1
  | .map entries => uptoBulkEntries entries + 1
  | .held _ => 1
def uptoBulkAll {H : Type} : List (DataW H) → Nat
  | [] => 0
  | d :: r => uptoBulk d + uptoBulkAll r
def uptoBulkEntries {H : Type} : List (Lit × DataW H) → Nat
  | [] => 0
  | x :: r => uptoBulkEntry x + uptoBulkEntries r
def uptoBulkEntry {H : Type} : Lit × DataW H → Nat
  | (.string bytes, d) => bytes.length + uptoBulk d + 1
  | (_, d) => uptoBulk d + 1
 end
def uptoSmall : (H : Type) → List (DataW H) → Bool := fun _ ds => decide (uptoBulkAll ds ≤ 1048576)
def OpenSpec.upto (s : _root_.Go.ChangeSpec) : _root_.Go.OpenSpec := { _root_.Go.OpenSpec.ofChange s with cond := some uptoSmall }

/-- 'changelinglaw19.TermOf', WHERE WHAT IT READS IS OF BULK AT MOST 1048576: true; the input reads as it did. -/
def termOfUptoRow : OpenClaim := { program := "ytoaohapbbnpbeaagreat", sum := "014aed792d2f1d3a15e8af067c1ed95e985b16bc0f57d6c7567c9bbcbab00e0f", func := "changeling/changelinglaw19.TermOf", spec := "termOf", inPlace := ["internal/abi.NoEscape", "internal/bytealg.MakeNoZero"], unfollowed := true, recurses := true, loops := true, apart := false, narrowed := true }
def TermOfUptoSaid : Prop := termOfUptoRow.holds Tryz.pinned (OpenSpec.upto termOfSpec)

/-- 'changelinglaw19.TermReads', WHERE WHAT IT READS IS OF BULK AT MOST 1048576: true; the input reads as it did. -/
def termReadsUptoRow : OpenClaim := { program := "ytoaohapbbnpbeaagreat", sum := "014aed792d2f1d3a15e8af067c1ed95e985b16bc0f57d6c7567c9bbcbab00e0f", func := "changeling/changelinglaw19.TermReads", spec := "termReads", inPlace := ["internal/abi.NoEscape", "internal/bytealg.MakeNoZero"], unfollowed := true, recurses := true, apart := false, narrowed := true }
def TermReadsUptoSaid : Prop := termReadsUptoRow.holds Tryz.pinned (OpenSpec.upto termReadsSpec)

/-- 'changelinglaw19.TermBack', WHERE WHAT IT READS IS OF BULK AT MOST 1048576: true; the input reads as it did. -/
def termBackUptoRow : OpenClaim := { program := "ytoaohapbbnpbeaagreat", sum := "014aed792d2f1d3a15e8af067c1ed95e985b16bc0f57d6c7567c9bbcbab00e0f", func := "changeling/changelinglaw19.TermBack", spec := "termBack", inPlace := ["internal/abi.NoEscape", "internal/bytealg.MakeNoZero"], unfollowed := true, recurses := true, loops := true, apart := false, narrowed := true }
def TermBackUptoSaid : Prop := termBackUptoRow.holds Tryz.pinned (OpenSpec.upto termBackSpec)

/-- 'changelinglaw19.TermApart', WHERE WHAT IT READS IS OF BULK AT MOST 1048576: true; the input reads as it did. -/
def termApartUptoRow : OpenClaim := { program := "ytoaohapbbnpbeaagreat", sum := "014aed792d2f1d3a15e8af067c1ed95e985b16bc0f57d6c7567c9bbcbab00e0f", func := "changeling/changelinglaw19.TermApart", spec := "termApart", inPlace := ["internal/abi.NoEscape", "internal/bytealg.MakeNoZero"], unfollowed := true, recurses := true, loops := true, apart := false, narrowed := true }
def TermApartUptoSaid : Prop := termApartUptoRow.holds Tryz.pinned (OpenSpec.upto termApartSpec)

/-- 'changelinglaw19.TermTells', WHERE WHAT IT READS IS OF BULK AT MOST 1048576: true; the input reads as it did. -/
def termTellsUptoRow : OpenClaim := { program := "ytoaohapbbnpbeaagreat", sum := "014aed792d2f1d3a15e8af067c1ed95e985b16bc0f57d6c7567c9bbcbab00e0f", func := "changeling/changelinglaw19.TermTells", spec := "termTells", inPlace := ["internal/abi.NoEscape", "internal/bytealg.MakeNoZero"], unfollowed := true, recurses := true, loops := true, apart := false, narrowed := true }
def TermTellsUptoSaid : Prop := termTellsUptoRow.holds Tryz.pinned (OpenSpec.upto termTellsSpec)

end Rows
end Go.Proofs.YtoaohapbbnpbeaaGreat
