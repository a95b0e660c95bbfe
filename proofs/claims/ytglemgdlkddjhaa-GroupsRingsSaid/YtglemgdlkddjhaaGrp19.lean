/-
The groups, part 19: rows of numbers as a law is handed them.
-/
import Derived.Test.YtglemgdlkddjhaaVm31
import Derived.Test.YtglemgdlkddjhaaGrp18
namespace Go.Proofs.Ytglemgdlkddjhaa.Vm
open Go Go.RowKit

theorem under22 : Try.prog.underlying 22 = some (.slice 28) := by kernel_rfl
theorem under28 : Try.prog.underlying 28 = some (.slice 3) := by kernel_rfl
theorem under3 : Try.prog.underlying 3 = some (.int .i64) := by kernel_rfl
theorem under4 : Try.prog.underlying 4 = some .bool := by kernel_rfl
theorem cells28 : Try.prog.cellsOf 28 = 1 := by kernel_rfl
theorem cells3 : Try.prog.cellsOf 3 = 1 := by kernel_rfl
theorem bytes28 : Try.prog.bytesOf 28 = 24 := by kernel_rfl
theorem bytes3 : Try.prog.bytesOf 3 = 8 := by kernel_rfl

section
variable {w : World} {H : Type} {enc : TypeId × Value → H} {sp : Nat → Bool} {held : Bool}
theorem reads28 : Reads Try.prog enc sp held w 28 fun d vs => Light Try.prog 28 d → ∃ l : List Int, vs = [ints false l] ∧ Big l.length := by
  intro fuel cs d ps h
  obtain ⟨vs, h1, h2⟩ := reads_sl (P := Try.prog) (w := w) (enc := enc) (sp := sp) (held := held) under28 (f := fun n : Int => [V.int .i64 n]) (p := fun _ => True) (by rw [bytes3]; omega) (fun fuel cs d ps h => by
    obtain ⟨vs, k1, n, _, _, rfl⟩ := reads_int (w := w) (enc := enc) (sp := sp) (held := held) under3 fuel cs d ps h
    exact ⟨_, k1, fun _ => ⟨n, rfl, True.intro⟩⟩) fuel cs d ps h
  refine ⟨vs, h1, fun hl => ?_⟩
  obtain ⟨l, k1, k2, _⟩ := h2 hl
  rw [cells3] at k1
  exact ⟨l, k1, Nat.lt_of_le_of_lt k2 (Nat.lt_trans reachBytes_lt (by decide))⟩
theorem reads22 : Reads Try.prog enc sp held w 22 fun d vs => Light Try.prog 22 d → ∃ uses : List (List Int), vs = [rows false uses] ∧ Big uses.length ∧ ∀ r ∈ uses, Big r.length := by
  intro fuel cs d ps h
  obtain ⟨vs, h1, h2⟩ := reads_sl (P := Try.prog) (w := w) (enc := enc) (sp := sp) (held := held) under22 (f := fun r : List Int => [ints false r]) (p := fun r => Big r.length) (by rw [bytes28]; omega) reads28 fuel cs d ps h
  refine ⟨vs, h1, fun hl => ?_⟩
  obtain ⟨l, k1, k2, k3⟩ := h2 hl
  rw [cells28] at k1
  exact ⟨l, k1, Nat.lt_of_le_of_lt k2 (Nat.lt_trans reachBytes_lt (by decide)), k3⟩
end
end Go.Proofs.Ytglemgdlkddjhaa.Vm
