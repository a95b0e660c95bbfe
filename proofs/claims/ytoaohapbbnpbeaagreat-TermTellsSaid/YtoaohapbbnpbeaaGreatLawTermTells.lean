/-
TermTells: which terms may be, their sizes, expressions and which are the same: the input reads as it did.
-/
import Derived.Test.YtoaohapbbnpbeaaGreatRows
import Derived.Test.YtoaohapbbnpbeaaGreatU5
import Derived.WalkKit
import Derived.ProofKit
import Derived.OpenShut
import Derived.ShutString
import Derived.ChangeOld
import Derived.Below
import Derived.SizedLaws
namespace Go.Proofs.YtoaohapbbnpbeaaGreat.termTells
open Go.ChangeShapes Go.WideShapes Go.ChangeAt Go.RowKit
set_option linter.unusedVariables false
theorem own : ownKnob Tryz.prog.godebug = none := by kernel_rfl
set_option maxRecDepth 100000 in
theorem lifted (os : Os) (started : os.Started) (H : Type) (enc : TypeId × Value → H) :
    ReturnsInHanded {} Tryz.checked os 7 .any (Rows.termTellsSpec.pre6 enc Tryz.prog Tryz.f7 Rows.termTellsRow.domain false) (Rows.termTellsSpec.post enc Tryz.prog Tryz.f7 false true false false) := by
  refine returnsInHanded_of_change_sized (C := Tryz.checked) own started (by kernel_rfl) Tryz.func7
    (ChangeSpec.witness6 (enc := enc) (C := Tryz.checked) false ⟨#[], #[.agg #[.string ⟨#[]⟩, .int .i64 0, .slice none 0 0], .agg #[.string ⟨#[]⟩, .int .i64 0, .slice none 0 0]], []⟩ 8 (by kernel_rfl) (by kernel_rfl) (by kernel_rfl) (by kernel_rfl)) ?_
  intro W base args ds gs before hval0 hW hcnd hsz0 _
  have hsz : (DataW.weightsEach Tryz.prog (Tryz.f7.params.toList ++ Rows.termTellsSpec.plain.varTypes Tryz.prog) (ds ++ gs)).all (· ≤ reachBytes) = true := hsz0
  have hval : ∀ (j : Nat) t v, Tryz.f7.params[j]? = some t → args[j]? = some v → Value.okWide Tryz.prog W .any base t v := hval0
  have hW' := hW
  obtain ⟨p, q, hA0, hV, rfl, hfz, hnd⟩ := hW
  have hA : DataW.TrodAll enc Tryz.prog W 0 (fun _ => true) true Tryz.f7.params.toList args.toList ds p := hA0
  rw [Tryz.params7] at hA hval hsz
  have hA1 := hA
  obtain ⟨v0, vs0, d0, ds0, p0, q0, hargs, rfl, rfl, h0, r0⟩ := trodAll_cons hA
  obtain ⟨v1, vs1, d1, ds1, p1, q1, rfl, rfl, rfl, h1, r1⟩ := trodAll_cons r0
  obtain ⟨rfl, rfl, rfl⟩ := trodAll_nil r1
  obtain rfl : args = #[v0, v1] := by cases args; simp_all
  obtain ⟨rfl, rfl⟩ := trodVars_none hV
  obtain ⟨x0, k0, z0, e0⟩ := Vm.open_structP Vm.under32 (hval 0 32 v0 rfl rfl) Vm.rdTm h0
  obtain ⟨a0, rfl, b0⟩ := e0 (Vm.light_each hsz (j := 0) rfl rfl)
  obtain ⟨x1, k1, z1, e1⟩ := Vm.open_structP Vm.under32 (hval 1 32 v1 rfl rfl) Vm.rdTm h1
  obtain ⟨a1, rfl, b1⟩ := e1 (Vm.light_each hsz (j := 1) rfl rfl)
  refine ((Vm.termTells_T a0 a1 b0 b1).belowL (cs := #[v0, v1]) (Vm.RepL.cons0 k0 k1)).mono fun e W' ⟨he, bel⟩ => ?_
  subst he
  exact ⟨_, rfl, _, _, _, [], _, [], hW', trodAll_mk1 (shut_bool Vm.under4 _), Vm.stays (by kernel_rfl) bel (ts := [32, 32]) (by kernel_rfl) hA1, rfl, bel.frame _, fun h => by cases h⟩
theorem over : Rows.termTellsRow.holds Tryz.pinned (OpenSpec.ofChange Rows.termTellsSpec) :=
  OpenClaim.holds_of_wide 7 Tryz.f7 rfl rfl rfl rfl rfl rfl rfl ⟨rfl, rfl, rfl, rfl, rfl⟩ rfl rfl rfl rfl rfl (by kernel_rfl) Tryz.func7 (by kernel_rfl)
    (of_decide_eq_true (by kernel_rfl)) (by unfold Func.isWrapper; first | (rw [if_pos (by decide +kernel)]; kernel_rfl) | (rw [if_neg (by decide +kernel)]; exact ⟨rfl, rfl⟩))
    (fun os started H enc _ => lifted os started H enc)
theorem proved : Rows.TermTellsSaid := over
#print axioms proved
end Go.Proofs.YtoaohapbbnpbeaaGreat.termTells
namespace Go.Proofs.YtoaohapbbnpbeaaGreat
/-- The row, under a short name, for the claim. -/
theorem termTells_holds : Rows.TermTellsSaid := termTells.proved
end Go.Proofs.YtoaohapbbnpbeaaGreat
