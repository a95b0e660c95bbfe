/-
GroupsBoth: two things are in one group just if they are the same, or each needs the other one. No conditions.
-/
import Derived.Test.YtglemgdlkddjhaaRows
import Derived.Test.YtglemgdlkddjhaaGrp23
import Derived.WalkKit
import Derived.ProofKit
import Derived.OpenShut
import Derived.ShutString
import Derived.ChangeOld
import Derived.Below
import Derived.SizedLaws
namespace Go.Proofs.Ytglemgdlkddjhaa.groupsBoth
open Go.ChangeShapes Go.WideShapes Go.ChangeAt Go.RowKit
set_option linter.unusedVariables false
theorem own : ownKnob Try.prog.godebug = none := by kernel_rfl
set_option maxRecDepth 100000 in
theorem lifted (os : Os) (started : os.Started) (H : Type) (enc : TypeId × Value → H) :
    ReturnsInHanded {} Try.checked os 6 .any (Rows.groupsBothSpec.pre6 enc Try.prog Try.f6 Rows.groupsBothRow.domain false) (Rows.groupsBothSpec.post enc Try.prog Try.f6 false true false false) := by
  refine returnsInHanded_of_change_sized (C := Try.checked) own started (by kernel_rfl) Try.func6
    (ChangeSpec.witness6 (enc := enc) (C := Try.checked) false ⟨#[], #[.slice none 0 0, .int .i64 0, .int .i64 0], []⟩ 8 (by kernel_rfl) (by kernel_rfl) (by kernel_rfl) (by kernel_rfl)) ?_
  intro W base args ds gs before hval0 hW hcnd hsz0 _
  have hsz : (DataW.weightsEach Try.prog (Try.f6.params.toList ++ Rows.groupsBothSpec.plain.varTypes Try.prog) (ds ++ gs)).all (· ≤ reachBytes) = true := hsz0
  have hval : ∀ (j : Nat) t v, Try.f6.params[j]? = some t → args[j]? = some v → Value.okWide Try.prog W .any base t v := hval0
  have hW' := hW
  obtain ⟨p, q, hA0, hV, rfl, hfz, hnd⟩ := hW
  have hA : DataW.TrodAll enc Try.prog W 0 (fun _ => true) true Try.f6.params.toList args.toList ds p := hA0
  rw [Try.params6] at hA hval hsz
  have hA1 := hA
  obtain ⟨v0, vs0, d0, ds0, p0, q0, hargs, rfl, rfl, h0, r0⟩ := trodAll_cons hA
  obtain ⟨v1, vs1, d1, ds1, p1, q1, rfl, rfl, rfl, h1, r1⟩ := trodAll_cons r0
  obtain ⟨v2, vs2, d2, ds2, p2, q2, rfl, rfl, rfl, h2, r2⟩ := trodAll_cons r1
  obtain ⟨rfl, rfl, rfl⟩ := trodAll_nil r2
  obtain rfl : args = #[v0, v1, v2] := by cases args; simp_all
  obtain ⟨rfl, rfl⟩ := trodVars_none hV
  obtain ⟨x0, k0, e0⟩ := Vm.open_slice Vm.under22 (hval 0 22 v0 rfl rfl) Vm.reads22 h0
  obtain ⟨a0, rfl, b0, c0⟩ := e0 (Vm.light_each hsz (j := 0) rfl rfl)
  obtain ⟨a1, k1, rfl, wf1⟩ := Vm.open_intV Vm.under3 (hval 1 3 v1 rfl rfl) h1
  obtain ⟨a2, k2, rfl, wf2⟩ := Vm.open_intV Vm.under3 (hval 2 3 v2 rfl rfl) h2
  refine ((Vm.both_T a0 c0 a1 a2).below (cs := #[v0, v1, v2]) (Vm.RepI.cons k0 (Vm.RepI.cons k1 k2))).mono fun e W' ⟨he, bel⟩ => ?_
  subst he
  exact ⟨_, rfl, _, _, _, [], _, [], hW', trodAll_mk1 (shut_bool Vm.under4 _), Vm.stays (by kernel_rfl) bel (ts := [22, 3, 3]) (by kernel_rfl) hA1, rfl, bel.frame _, fun h => by cases h⟩
theorem over : Rows.groupsBothRow.holds Try.pinned (OpenSpec.ofChange Rows.groupsBothSpec) :=
  OpenClaim.holds_of_wide 6 Try.f6 rfl rfl rfl rfl rfl rfl rfl ⟨rfl, rfl, rfl, rfl, rfl⟩ rfl rfl rfl rfl rfl (by kernel_rfl) Try.func6 (by kernel_rfl)
    (of_decide_eq_true (by kernel_rfl)) (by unfold Func.isWrapper; first | (rw [if_pos (by decide +kernel)]; kernel_rfl) | (rw [if_neg (by decide +kernel)]; exact ⟨rfl, rfl⟩))
    (fun os started H enc _ => lifted os started H enc)
theorem proved : Rows.GroupsBothSaid := over
#print axioms proved
end Go.Proofs.Ytglemgdlkddjhaa.groupsBoth
namespace Go.Proofs.Ytglemgdlkddjhaa
/-- The row, under a short name, for the claim. -/
theorem groupsBoth_holds : Rows.GroupsBothSaid := groupsBoth.proved
end Go.Proofs.Ytglemgdlkddjhaa
