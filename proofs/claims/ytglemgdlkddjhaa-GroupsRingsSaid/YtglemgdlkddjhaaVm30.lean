/-
The value machine, part 30: what is done without a heap is done beside every heap.
-/
import Derived.Test.YtglemgdlkddjhaaVm29
namespace Go.Proofs.Ytglemgdlkddjhaa.Vm
open Go

def hideP : Option Place → Option Place
  | some .arg => some .arg
  | some (.obj _) => some .frame
  | some (.cell _) => some .frame
  | some .frame => some .frame
  | _ => none
def showP : Option Place → Option Place → Option Place
  | some (.obj i), _ => some (.obj i)
  | some (.cell i), _ => some (.cell i)
  | some .frame, _ => some .frame
  | _, some .res => some .res
  | _, _ => none

/-- THE FRAME RULE. -/
theorem T.frame {P : Program} {f : Nat} {args : List V} {r : V} (h : T P f args [] r []) (ha : idsL 0 args = true) (H : Heap) : T P f args H r H := by
  refine ⟨h.1, fun w G own cs bl hok hrep hnd harg => ?_⟩
  let G0 : Gh := ⟨G.imm, []⟩
  let own0 : Nat → Option Place := fun b => hideP (own b)
  have hok0 : Ok w G0 own0 [] := by
    refine ⟨hok.imm, fun b p hp => ?_, rfl, fun i ob hi => by cases hi⟩
    cases hb : own b with
    | none => simp only [own0, hb, hideP] at hp; cases hp
    | some q => exact hok.size b q hb
  have hrep0 : RepL w G0 args cs.toList bl := RepL.trunc (G := G) (G' := G0) (m := 0) (by simp [G0]) (fun _ _ _ h => h) hrep (fun _ _ _ => rfl) ha
  refine (h.2 w G0 own0 cs bl hok0 hrep0 hnd fun b hb => by simp only [own0, harg b hb, hideP]).mono ?_
  rintro e w' ⟨c, rfl, G1, own1, bl1, k1, k2, k3, k4, k5⟩
  have hframe : ∀ b, (∃ i, own b = some (.obj i)) ∨ (∃ i, own b = some (.cell i)) ∨ own b = some .frame → own0 b = some .frame := by
    rintro b (⟨i, hb⟩ | ⟨i, hb⟩ | hb) <;> simp only [own0, hb, hideP]
  have hloc : G1.loc = [] := List.eq_nil_of_length_eq_zero k1.len.symm
  let own2 : Nat → Option Place := fun b => showP (own b) (own1 b)
  refine ⟨c, rfl, ⟨G1.imm, G.loc⟩, own2, bl1, ⟨k1.imm, fun b p hp => ?_, hok.len, fun i ob hi => ?_⟩, ?_, k3, fun b hb => ?_, ?_⟩
  · simp only [own2] at hp
    cases hb : own b with
    | some q =>
      exact Nat.lt_of_lt_of_le (hok.size b q hb) k5.size
    | none =>
      cases hb1 : own1 b with
      | some q => exact k1.size b q hb1
      | none => rw [hb, hb1] at hp; cases hp
  · refine (hok.obj i ob hi).mono k5.imm (loc_refl G) rfl fun b hb => ?_
    obtain ⟨e1, e2, _⟩ := k5.fixed b (hframe b (by rcases hb with hb | hb; exact .inl ⟨i, hb⟩; exact .inr (.inl ⟨i, hb⟩)))
    refine ⟨e1, e2, ?_⟩
    rcases hb with hb | hb <;> simp only [own2, hb, showP]
  · exact RepL.mono (G := G1) (G' := ⟨G1.imm, G.loc⟩) (w := w') (fun _ _ _ h => h) (fun i b v n hi => by rw [hloc] at hi; cases hi) k2 fun _ _ => ⟨rfl, fun _ => rfl⟩
  · have hres := k4 b hb
    have hn : own0 b ≠ some .frame := by
      intro hf
      have := (k5.fixed b hf).2.2
      rw [hres] at this; cases this
    simp only [own2, hres]
    cases ho : own b with
    | none => rfl
    | some q =>
      cases q with
      | obj i => exact absurd (hframe b (.inl ⟨i, ho⟩)) hn
      | cell i => exact absurd (hframe b (.inr (.inl ⟨i, ho⟩))) hn
      | frame => exact absurd (hframe b (.inr (.inr ho))) hn
      | _ => rfl
  · refine ⟨k5.size, k5.imm, loc_refl G, fun b hb => ?_, k5.tape, k5.os, k5.out⟩
    obtain ⟨e1, e2, _⟩ := k5.fixed b (hframe b (.inr (.inr hb)))
    exact ⟨e1, e2, by simp only [own2, hb, showP]⟩
end Go.Proofs.Ytglemgdlkddjhaa.Vm
