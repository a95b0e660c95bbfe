/-
UnifyGeneral: nothing is made more the same than must be. No conditions.
-/
import Derived.Test.YtneonbdlgmaofaaRows
import Derived.Test.YtneonbdlgmaofaaE3
import Derived.WalkKit
import Derived.ProofKit
import Derived.OpenShut
import Derived.ShutString
import Derived.ChangeOld
import Derived.Below
import Derived.SizedLaws
namespace Go.Proofs.Ytneonbdlgmaofaa.unifyGeneral
open Go.ChangeShapes Go.WideShapes Go.ChangeAt Go.RowKit
set_option linter.unusedVariables false
theorem own : ownKnob Try.prog.godebug = none := by kernel_rfl
set_option maxRecDepth 100000 in
theorem lifted (os : Os) (started : os.Started) (H : Type) (enc : TypeId × Value → H) :
    ReturnsInHanded {} Try.checked os 4 .any (Rows.unifyGeneralSpec.pre6 enc Try.prog Try.f4 Rows.unifyGeneralRow.domain false) (Rows.unifyGeneralSpec.post enc Try.prog Try.f4 false true false false) := by
  refine returnsInHanded_of_change_sized (C := Try.checked) own started (by kernel_rfl) Try.func4
    (ChangeSpec.witness6 (enc := enc) (C := Try.checked) false ⟨#[], #[.slice none 0 0, .slice none 0 0], []⟩ 8 (by kernel_rfl) (by kernel_rfl) (by kernel_rfl) (by kernel_rfl)) ?_
  intro W base args ds gs before hval0 hW hcnd hsz0 _
  have hsz : (DataW.weightsEach Try.prog (Try.f4.params.toList ++ Rows.unifyGeneralSpec.plain.varTypes Try.prog) (ds ++ gs)).all (· ≤ reachBytes) = true := hsz0
  have hval : ∀ (j : Nat) t v, Try.f4.params[j]? = some t → args[j]? = some v → Value.okWide Try.prog W .any base t v := hval0
  have hW' := hW
  obtain ⟨p, q, hA0, hV, rfl, hfz, hnd⟩ := hW
  have hA : DataW.TrodAll enc Try.prog W 0 (fun _ => true) true Try.f4.params.toList args.toList ds p := hA0
  rw [Try.params4] at hA hval hsz
  have hA1 := hA
  obtain ⟨v0, vs0, d0, ds0, p0, q0, hargs, rfl, rfl, h0, r0⟩ := trodAll_cons hA
  obtain ⟨v1, vs1, d1, ds1, p1, q1, rfl, rfl, rfl, h1, r1⟩ := trodAll_cons r0
  obtain ⟨rfl, rfl, rfl⟩ := trodAll_nil r1
  obtain rfl : args = #[v0, v1] := by cases args; simp_all
  obtain ⟨rfl, rfl⟩ := trodVars_none hV
  obtain ⟨x0, k0, e0⟩ := Vm.open_slice Vm.under22 (hval 0 22 v0 rfl rfl) Vm.reads22 h0
  obtain ⟨a0, rfl, b0, c0⟩ := e0 (Vm.light_each hsz (j := 0) rfl rfl)
  obtain ⟨x1, k1, e1⟩ := Vm.open_slice Vm.under27 (hval 1 27 v1 rfl rfl) Vm.reads27 h1
  obtain ⟨a1, rfl, b1, c1⟩ := e1 (Vm.light_each hsz (j := 1) rfl rfl)
  refine ((Vm.generalLaw_Tc a0 c0 b0 a1 c1).below (cs := #[v0, v1]) (Vm.RepI.cons k0 k1)).mono fun e W' ⟨he, bel⟩ => ?_
  subst he
  exact ⟨_, rfl, _, _, _, [], _, [], hW', trodAll_mk1 (shut_bool Vm.under4 _), Vm.stays (by kernel_rfl) bel (ts := [22, 27]) (by kernel_rfl) hA1, rfl, bel.frame _, fun h => by cases h⟩
theorem over : Rows.unifyGeneralRow.holds Try.pinned (OpenSpec.ofChange Rows.unifyGeneralSpec) :=
  OpenClaim.holds_of_wide 4 Try.f4 rfl rfl rfl rfl rfl rfl rfl ⟨rfl, rfl, rfl, rfl, rfl⟩ rfl rfl rfl rfl rfl (by kernel_rfl) Try.func4 (by kernel_rfl)
    (of_decide_eq_true (by kernel_rfl)) (by unfold Func.isWrapper; first | (rw [if_pos (by decide +kernel)]; kernel_rfl) | (rw [if_neg (by decide +kernel)]; exact ⟨rfl, rfl⟩))
    (fun os started H enc _ => lifted os started H enc)
theorem proved : Rows.UnifyGeneralSaid := over
#print axioms proved
end Go.Proofs.Ytneonbdlgmaofaa.unifyGeneral
namespace Go.Proofs.Ytneonbdlgmaofaa
/-- The row, under a short name, for the claim. -/
theorem unifyGeneral_holds : Rows.UnifyGeneralSaid := unifyGeneral.proved
end Go.Proofs.Ytneonbdlgmaofaa
