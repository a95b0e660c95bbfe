/-
  No cell of these rows narrows 'for every input' (looked for: loops, veiled, ifaces, maps, wideKeys, modest, calm, conditions, laid).
  DERIVED. THE GIVEN ROWS OF THIS SEAT. 8 by the template 'for every input the law returns true; each argument reads behind the call as it read before'; 0 by the template 'total and deterministic' (their statements: YtdmnacjpgaopfaaTotals.lean).
  GIVEN WITH THE SEED: the statements are not yours to turn. If you find one false, say at which input.
  Laid BY PROGRAM, IN A SANDBOX (cutbox-rows.mjs): the forced cells as the released guide's own fill.sh prints them over the translation c016ff572f6ba6d8… (all of the seat's roots in one cut). By AI agents, Wed Nov 11 2026. No macro, syntax, notation, axiom, sorry.
-/
import Derived.Test.YtdmnacjpgaopfaaChecked
import GoSem.Claim
import GoSem.ClaimJoined
import GoSem.ClaimMapViews
import Derived.JoinedTies
import Derived.KernelRfl
namespace Go.Proofs.Ytdmnacjpgaopfaa
/- THE CELL 'sum', in the pinned program and in every row, IS THE sha256 OF THE DUMP (.gsa) THAT YtdmnacjpgaopfaaProg.lean LOADS. Nothing in Lean hashes anything: it is a label: what it is worth is what the hold of that sum in a sandbox is worth. -/
noncomputable def Try.pinned : Pinned := { name := "ytdmnacjpgaopfaa", sum := "c016ff572f6ba6d87aff758501e3a9c6842f3c356d88bc06be194450ba023747", checked := Try.checked }
namespace Rows
def none {H : Type} : Left H := { results := [], args := [] }

/-- 'changelinglaw04.LayoutLays': WHATEVER THE INPUT: true; the input reads as it did. -/
def layoutLaysSpec : ChangeSpec := { name := "layoutLays", fn := fun _ => fun
  | [d] => { results := [.lit (.bool true)], args := [d] }
  | _ => none }
def layoutLaysRow : OpenClaim := { program := "ytdmnacjpgaopfaa", sum := "c016ff572f6ba6d87aff758501e3a9c6842f3c356d88bc06be194450ba023747", func := "changeling/changelinglaw04.LayoutLays", spec := "layoutLays", apart := false }
def LayoutLaysSaid : Prop := layoutLaysRow.holds Try.pinned (OpenSpec.ofChange layoutLaysSpec)

/-- ITS FALSE NEIGHBOUR: 'it returns false'. Refute it at one input. -/
def layoutLaysWrong : ChangeSpec := { name := "layoutLays", fn := fun _ => fun
  | [d] => { results := [.lit (.bool false)], args := [d] }
  | _ => none }
def LayoutLaysWrongFalsely : Prop := layoutLaysRow.holds Try.pinned (OpenSpec.ofChange layoutLaysWrong)

/-- 'changelinglaw04.LayoutRaw': WHATEVER THE INPUT: true; the input reads as it did. -/
def layoutRawSpec : ChangeSpec := { name := "layoutRaw", fn := fun _ => fun
  | [d] => { results := [.lit (.bool true)], args := [d] }
  | _ => none }
def layoutRawRow : OpenClaim := { program := "ytdmnacjpgaopfaa", sum := "c016ff572f6ba6d87aff758501e3a9c6842f3c356d88bc06be194450ba023747", func := "changeling/changelinglaw04.LayoutRaw", spec := "layoutRaw", apart := false }
def LayoutRawSaid : Prop := layoutRawRow.holds Try.pinned (OpenSpec.ofChange layoutRawSpec)

/-- ITS FALSE NEIGHBOUR: 'it returns false'. Refute it at one input. -/
def layoutRawWrong : ChangeSpec := { name := "layoutRaw", fn := fun _ => fun
  | [d] => { results := [.lit (.bool false)], args := [d] }
  | _ => none }
def LayoutRawWrongFalsely : Prop := layoutRawRow.holds Try.pinned (OpenSpec.ofChange layoutRawWrong)

/-- 'changelinglaw04.LayoutKeeps': WHATEVER THE INPUT: true; the input reads as it did. -/
def layoutKeepsSpec : ChangeSpec := { name := "layoutKeeps", fn := fun _ => fun
  | [d] => { results := [.lit (.bool true)], args := [d] }
  | _ => none }
def layoutKeepsRow : OpenClaim := { program := "ytdmnacjpgaopfaa", sum := "c016ff572f6ba6d87aff758501e3a9c6842f3c356d88bc06be194450ba023747", func := "changeling/changelinglaw04.LayoutKeeps", spec := "layoutKeeps", apart := false }
def LayoutKeepsSaid : Prop := layoutKeepsRow.holds Try.pinned (OpenSpec.ofChange layoutKeepsSpec)

/-- ITS FALSE NEIGHBOUR: 'it returns false'. Refute it at one input. -/
def layoutKeepsWrong : ChangeSpec := { name := "layoutKeeps", fn := fun _ => fun
  | [d] => { results := [.lit (.bool false)], args := [d] }
  | _ => none }
def LayoutKeepsWrongFalsely : Prop := layoutKeepsRow.holds Try.pinned (OpenSpec.ofChange layoutKeepsWrong)

/-- 'changelinglaw04.LayoutPairs': WHATEVER THE INPUT: true; the input reads as it did. -/
def layoutPairsSpec : ChangeSpec := { name := "layoutPairs", fn := fun _ => fun
  | [d] => { results := [.lit (.bool true)], args := [d] }
  | _ => none }
def layoutPairsRow : OpenClaim := { program := "ytdmnacjpgaopfaa", sum := "c016ff572f6ba6d87aff758501e3a9c6842f3c356d88bc06be194450ba023747", func := "changeling/changelinglaw04.LayoutPairs", spec := "layoutPairs", apart := false }
def LayoutPairsSaid : Prop := layoutPairsRow.holds Try.pinned (OpenSpec.ofChange layoutPairsSpec)

/-- ITS FALSE NEIGHBOUR: 'it returns false'. Refute it at one input. -/
def layoutPairsWrong : ChangeSpec := { name := "layoutPairs", fn := fun _ => fun
  | [d] => { results := [.lit (.bool false)], args := [d] }
  | _ => none }
def LayoutPairsWrongFalsely : Prop := layoutPairsRow.holds Try.pinned (OpenSpec.ofChange layoutPairsWrong)

/-- 'changelinglaw04.LayoutOnce': WHATEVER THE INPUT: true; the input reads as it did. -/
def layoutOnceSpec : ChangeSpec := { name := "layoutOnce", fn := fun _ => fun
  | [d] => { results := [.lit (.bool true)], args := [d] }
  | _ => none }
def layoutOnceRow : OpenClaim := { program := "ytdmnacjpgaopfaa", sum := "c016ff572f6ba6d87aff758501e3a9c6842f3c356d88bc06be194450ba023747", func := "changeling/changelinglaw04.LayoutOnce", spec := "layoutOnce", apart := false }
def LayoutOnceSaid : Prop := layoutOnceRow.holds Try.pinned (OpenSpec.ofChange layoutOnceSpec)

/-- ITS FALSE NEIGHBOUR: 'it returns false'. Refute it at one input. -/
def layoutOnceWrong : ChangeSpec := { name := "layoutOnce", fn := fun _ => fun
  | [d] => { results := [.lit (.bool false)], args := [d] }
  | _ => none }
def LayoutOnceWrongFalsely : Prop := layoutOnceRow.holds Try.pinned (OpenSpec.ofChange layoutOnceWrong)

/-- 'changelinglaw04.LayoutBraces': WHATEVER THE INPUT: true; the input reads as it did. -/
def layoutBracesSpec : ChangeSpec := { name := "layoutBraces", fn := fun _ => fun
  | [d] => { results := [.lit (.bool true)], args := [d] }
  | _ => none }
def layoutBracesRow : OpenClaim := { program := "ytdmnacjpgaopfaa", sum := "c016ff572f6ba6d87aff758501e3a9c6842f3c356d88bc06be194450ba023747", func := "changeling/changelinglaw04.LayoutBraces", spec := "layoutBraces", apart := false }
def LayoutBracesSaid : Prop := layoutBracesRow.holds Try.pinned (OpenSpec.ofChange layoutBracesSpec)

/-- ITS FALSE NEIGHBOUR: 'it returns false'. Refute it at one input. -/
def layoutBracesWrong : ChangeSpec := { name := "layoutBraces", fn := fun _ => fun
  | [d] => { results := [.lit (.bool false)], args := [d] }
  | _ => none }
def LayoutBracesWrongFalsely : Prop := layoutBracesRow.holds Try.pinned (OpenSpec.ofChange layoutBracesWrong)

/-- 'changelinglaw04.LayoutShift': WHATEVER THE INPUT: true; the input reads as it did. -/
def layoutShiftSpec : ChangeSpec := { name := "layoutShift", fn := fun _ => fun
  | [d1, d2] => { results := [.lit (.bool true)], args := [d1, d2] }
  | _ => none }
def layoutShiftRow : OpenClaim := { program := "ytdmnacjpgaopfaa", sum := "c016ff572f6ba6d87aff758501e3a9c6842f3c356d88bc06be194450ba023747", func := "changeling/changelinglaw04.LayoutShift", spec := "layoutShift", apart := false }
def LayoutShiftSaid : Prop := layoutShiftRow.holds Try.pinned (OpenSpec.ofChange layoutShiftSpec)

/-- ITS FALSE NEIGHBOUR: 'it returns false'. Refute it at one input. -/
def layoutShiftWrong : ChangeSpec := { name := "layoutShift", fn := fun _ => fun
  | [d1, d2] => { results := [.lit (.bool false)], args := [d1, d2] }
  | _ => none }
def LayoutShiftWrongFalsely : Prop := layoutShiftRow.holds Try.pinned (OpenSpec.ofChange layoutShiftWrong)

/-- 'changelinglaw04.LayoutLines': WHATEVER THE INPUT: true; the input reads as it did. -/
def layoutLinesSpec : ChangeSpec := { name := "layoutLines", fn := fun _ => fun
  | [d1, d2] => { results := [.lit (.bool true)], args := [d1, d2] }
  | _ => none }
def layoutLinesRow : OpenClaim := { program := "ytdmnacjpgaopfaa", sum := "c016ff572f6ba6d87aff758501e3a9c6842f3c356d88bc06be194450ba023747", func := "changeling/changelinglaw04.LayoutLines", spec := "layoutLines", apart := false }
def LayoutLinesSaid : Prop := layoutLinesRow.holds Try.pinned (OpenSpec.ofChange layoutLinesSpec)

/-- ITS FALSE NEIGHBOUR: 'it returns false'. Refute it at one input. -/
def layoutLinesWrong : ChangeSpec := { name := "layoutLines", fn := fun _ => fun
  | [d1, d2] => { results := [.lit (.bool false)], args := [d1, d2] }
  | _ => none }
def LayoutLinesWrongFalsely : Prop := layoutLinesRow.holds Try.pinned (OpenSpec.ofChange layoutLinesWrong)

/- THE SECOND FORM. 'bulk': how many values and letters a reading holds, each counted each time it is reached (what is shared counts as often as it is met; a slice's spare places count too). A statement '..UptoSaid' is the law's where the arguments, and the package variables that the reading takes, are together of bulk at most 1048576: NARROWER than '..Said'. Prove '..Said' where nothing that the law and all that it calls make is longer than what came in: it says more and counts as full. Else prove '..UptoSaid'. A law counts once. -/
mutual
def uptoBulk {H : Type} : DataW H → Nat
  | .lit (.string bytes) => bytes.length + 1
  | .lit _ => 1
  | .nil => 1
  | .ptr d => uptoBulk d + 1
  | .slice elems spare => uptoBulkAll elems + uptoBulkAll spare + 1
  | .agg parts => uptoBulkAll parts + 1
  | .iface _ d => uptoBulk d + 1
  | .map entries => uptoBulkEntries entries + 1
  | .held _ => 1
def uptoBulkAll {H : Type} : List (DataW H) → Nat
  | [] => 0
  | d :: r => uptoBulk d + uptoBulkAll r
def uptoBulkEntries {H : Type} : List (Lit × DataW H) → Nat
  | [] => 0
  | x :: r => uptoBulkEntry x + uptoBulkEntries r
def uptoBulkEntry {H : Type} : Lit × DataW H → Nat
  | (.string bytes, d) => bytes.length + uptoBulk d + 1
  | (_, d) => uptoBulk d + 1
 end
def uptoSmall : (H : Type) → List (DataW H) → Bool := fun _ ds => decide (uptoBulkAll ds ≤ 1048576)
def OpenSpec.upto (s : _root_.Go.ChangeSpec) : _root_.Go.OpenSpec := { _root_.Go.OpenSpec.ofChange s with cond := some uptoSmall }

/-- 'changelinglaw04.LayoutLays', WHERE WHAT IT READS IS OF BULK AT MOST 1048576: true; the input reads as it did. -/
def layoutLaysUptoRow : OpenClaim := { program := "ytdmnacjpgaopfaa", sum := "c016ff572f6ba6d87aff758501e3a9c6842f3c356d88bc06be194450ba023747", func := "changeling/changelinglaw04.LayoutLays", spec := "layoutLays", apart := false, narrowed := true }
def LayoutLaysUptoSaid : Prop := layoutLaysUptoRow.holds Try.pinned (OpenSpec.upto layoutLaysSpec)

/-- 'changelinglaw04.LayoutRaw', WHERE WHAT IT READS IS OF BULK AT MOST 1048576: true; the input reads as it did. -/
def layoutRawUptoRow : OpenClaim := { program := "ytdmnacjpgaopfaa", sum := "c016ff572f6ba6d87aff758501e3a9c6842f3c356d88bc06be194450ba023747", func := "changeling/changelinglaw04.LayoutRaw", spec := "layoutRaw", apart := false, narrowed := true }
def LayoutRawUptoSaid : Prop := layoutRawUptoRow.holds Try.pinned (OpenSpec.upto layoutRawSpec)

/-- 'changelinglaw04.LayoutKeeps', WHERE WHAT IT READS IS OF BULK AT MOST 1048576: true; the input reads as it did. -/
def layoutKeepsUptoRow : OpenClaim := { program := "ytdmnacjpgaopfaa", sum := "c016ff572f6ba6d87aff758501e3a9c6842f3c356d88bc06be194450ba023747", func := "changeling/changelinglaw04.LayoutKeeps", spec := "layoutKeeps", apart := false, narrowed := true }
def LayoutKeepsUptoSaid : Prop := layoutKeepsUptoRow.holds Try.pinned (OpenSpec.upto layoutKeepsSpec)

/-- 'changelinglaw04.LayoutPairs', WHERE WHAT IT READS IS OF BULK AT MOST 1048576: true; the input reads as it did. -/
def layoutPairsUptoRow : OpenClaim := { program := "ytdmnacjpgaopfaa", sum := "c016ff572f6ba6d87aff758501e3a9c6842f3c356d88bc06be194450ba023747", func := "changeling/changelinglaw04.LayoutPairs", spec := "layoutPairs", apart := false, narrowed := true }
def LayoutPairsUptoSaid : Prop := layoutPairsUptoRow.holds Try.pinned (OpenSpec.upto layoutPairsSpec)

/-- 'changelinglaw04.LayoutOnce', WHERE WHAT IT READS IS OF BULK AT MOST 1048576: true; the input reads as it did. -/
def layoutOnceUptoRow : OpenClaim := { program := "ytdmnacjpgaopfaa", sum := "c016ff572f6ba6d87aff758501e3a9c6842f3c356d88bc06be194450ba023747", func := "changeling/changelinglaw04.LayoutOnce", spec := "layoutOnce", apart := false, narrowed := true }
def LayoutOnceUptoSaid : Prop := layoutOnceUptoRow.holds Try.pinned (OpenSpec.upto layoutOnceSpec)

/-- 'changelinglaw04.LayoutBraces', WHERE WHAT IT READS IS OF BULK AT MOST 1048576: true; the input reads as it did. -/
def layoutBracesUptoRow : OpenClaim := { program := "ytdmnacjpgaopfaa", sum := "c016ff572f6ba6d87aff758501e3a9c6842f3c356d88bc06be194450ba023747", func := "changeling/changelinglaw04.LayoutBraces", spec := "layoutBraces", apart := false, narrowed := true }
def LayoutBracesUptoSaid : Prop := layoutBracesUptoRow.holds Try.pinned (OpenSpec.upto layoutBracesSpec)

/-- 'changelinglaw04.LayoutShift', WHERE WHAT IT READS IS OF BULK AT MOST 1048576: true; the input reads as it did. -/
def layoutShiftUptoRow : OpenClaim := { program := "ytdmnacjpgaopfaa", sum := "c016ff572f6ba6d87aff758501e3a9c6842f3c356d88bc06be194450ba023747", func := "changeling/changelinglaw04.LayoutShift", spec := "layoutShift", apart := false, narrowed := true }
def LayoutShiftUptoSaid : Prop := layoutShiftUptoRow.holds Try.pinned (OpenSpec.upto layoutShiftSpec)

/-- 'changelinglaw04.LayoutLines', WHERE WHAT IT READS IS OF BULK AT MOST 1048576: true; the input reads as it did. -/
def layoutLinesUptoRow : OpenClaim := { program := "ytdmnacjpgaopfaa", sum := "c016ff572f6ba6d87aff758501e3a9c6842f3c356d88bc06be194450ba023747", func := "changeling/changelinglaw04.LayoutLines", spec := "layoutLines", apart := false, narrowed := true }
def LayoutLinesUptoSaid : Prop := layoutLinesUptoRow.holds Try.pinned (OpenSpec.upto layoutLinesSpec)

end Rows
end Go.Proofs.Ytdmnacjpgaopfaa
