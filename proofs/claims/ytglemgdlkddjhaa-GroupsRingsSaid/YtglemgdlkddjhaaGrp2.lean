/-
The groups, part 2: what is reached.
-/
import Derived.Test.YtglemgdlkddjhaaGrp1
import Derived.Test.YtglemgdlkddjhaaVm28
namespace Go.Proofs.Ytglemgdlkddjhaa.Vm
open Go

def Edge (uses : List (List Int)) (a b : Nat) : Prop := ∃ r, uses[a]? = some r ∧ (b : Int) ∈ r
inductive Path (uses : List (List Int)) : Nat → Nat → Prop
  | one {a b : Nat} (h : Edge uses a b) : Path uses a b
  | more {a b c : Nat} (h : Path uses a b) (e : Edge uses b c) : Path uses a c
theorem Path.trans {uses : List (List Int)} {a b c : Nat} (h : Path uses a b) (k : Path uses b c) : Path uses a c := by
  induction k with
  | one e => exact .more h e
  | more _ e ih => exact .more ih e

noncomputable def reachB (uses : List (List Int)) (f k : Nat) : Bool := @decide (Path uses f k) (Classical.propDecidable _)
theorem reachB_iff {uses : List (List Int)} {f k : Nat} : reachB uses f k = true ↔ Path uses f k := by simp [reachB]
noncomputable def reachL (uses : List (List Int)) (f : Nat) : List Int := ((List.range uses.length).filter (reachB uses f)).map fun (k : Nat) => (k : Int)
/-- What layer 11 answers to the question what a thing needs. -/
noncomputable def reachR (uses : List (List Int)) (f : Int) : List Int × Int :=
  if wrongE uses ≠ 0 then ([], wrongE uses) else if 0 ≤ f ∧ f < uses.length then (reachL uses f.toNat, 0) else ([], 1)

theorem cf_set : ∀ {l : List Bool} {k : Nat}, l[k]? = some false → (l.set k true).count false + 1 = l.count false
  | [], k, h => by simp at h
  | b :: l, 0, h => by simp at h; subst h; simp
  | b :: l, k + 1, h => by
    have := cf_set (l := l) (k := k) (by simpa using h)
    simp only [List.set_cons_succ, List.count_cons]
    omega

structure InvR (uses : List (List Int)) (f : Nat) (met : List Bool) (op : List Int) (cur : Option Nat) : Prop where
  len : met.length = uses.length
  sound : ∀ k : Nat, met[k]? = some true → Path uses f k
  opn : ∀ x ∈ op, ∃ k : Nat, x = (k : Int) ∧ k < uses.length ∧ (k = f ∨ met[k]? = some true)
  clos : ∀ k : Nat, k < uses.length → (k = f ∨ met[k]? = some true) → (k : Int) ∈ op ∨ cur = some k ∨ ∀ w, Edge uses k w → met[w]? = some true

theorem edge_lt {uses : List (List Int)} (hok : wrongE uses = 0) {a b : Nat} (h : Edge uses a b) : a < uses.length ∧ b < uses.length := by
  obtain ⟨r, h1, h2⟩ := h
  have ha := (List.getElem?_eq_some_iff.1 h1).1
  unfold wrongE at hok
  split at hok
  · cases hok
  · split at hok
    · rename_i hall
      have := List.all_eq_true.1 (List.all_eq_true.1 hall r (List.mem_of_getElem? h1)) _ h2
      simp at this
      exact ⟨ha, by omega⟩
    · cases hok
theorem row_ok {uses : List (List Int)} (hok : wrongE uses = 0) {a : Nat} {r : List Int} (h : uses[a]? = some r) {x : Int} (hx : x ∈ r) : ∃ k : Nat, x = (k : Int) ∧ k < uses.length := by
  unfold wrongE at hok
  split at hok
  · cases hok
  · split at hok
    · rename_i hall
      have := List.all_eq_true.1 (List.all_eq_true.1 hall r (List.mem_of_getElem? h)) _ hx
      simp at this
      exact ⟨x.toNat, by omega, by omega⟩
    · cases hok
theorem len_ok {uses : List (List Int)} (hok : wrongE uses = 0) : uses.length ≤ 2048 := by
  unfold wrongE at hok
  split at hok
  · cases hok
  · omega

theorem InvR.done {uses : List (List Int)} {f : Nat} {met : List Bool} (h : InvR uses f met [] none) (hok : wrongE uses = 0) (hf : f < uses.length) : ∀ k : Nat, met[k]? = some true ↔ Path uses f k := by
  intro k
  refine ⟨h.sound k, fun hp => ?_⟩
  induction hp with
  | one e =>
    rcases h.clos f hf (.inl rfl) with h1 | h1 | h1
    · cases h1
    · cases h1
    · exact h1 _ e
  | more _ e ih =>
    rcases h.clos _ (edge_lt hok e).1 (.inr ih) with h1 | h1 | h1
    · cases h1
    · cases h1
    · exact h1 _ e
theorem InvR.pop {uses : List (List Int)} {f : Nat} {met : List Bool} {op : List Int} {k : Nat} (h : InvR uses f met (op ++ [(k : Int)]) none) : InvR uses f met op (some k) := by
  refine ⟨h.len, h.sound, fun x hx => h.opn x (List.mem_append_left _ hx), fun j hj hm => ?_⟩
  rcases h.clos j hj hm with h1 | h1 | h1
  · rcases List.mem_append.1 h1 with h1 | h1
    · exact .inl h1
    · rw [List.mem_singleton] at h1
      have : j = k := by omega
      exact .inr (.inl (by rw [this]))
  · cases h1
  · exact .inr (.inr h1)
theorem InvR.push {uses : List (List Int)} {f : Nat} {met : List Bool} {op : List Int} {k w : Nat} (h : InvR uses f met op (some k)) (hk : k = f ∨ met[k]? = some true) (e : Edge uses k w) (hw : w < uses.length) (hm : met[w]? = some false) : InvR uses f (met.set w true) (op ++ [(w : Int)]) (some k) := by
  have hmono : ∀ j : Nat, met[j]? = some true → (met.set w true)[j]? = some true := by
    intro j hj
    rw [List.getElem?_set]
    split
    · subst_vars; rw [if_pos (List.getElem?_eq_some_iff.1 hj).1]
    · exact hj
  have hself : (met.set w true)[w]? = some true := by
    rw [List.getElem?_set, if_pos rfl, if_pos (List.getElem?_eq_some_iff.1 hm).1]
  have hpath : Path uses f w := by
    rcases hk with rfl | hk
    · exact .one e
    · exact .more (h.sound k hk) e
  have hback : ∀ j : Nat, (met.set w true)[j]? = some true → j = w ∨ met[j]? = some true := by
    intro j hj
    rw [List.getElem?_set] at hj
    split at hj
    · exact .inl (by omega)
    · exact .inr hj
  refine ⟨by rw [List.length_set]; exact h.len, fun j hj => ?_, fun x hx => ?_, fun j hj hmj => ?_⟩
  · rcases hback j hj with rfl | hj
    · exact hpath
    · exact h.sound j hj
  · rcases List.mem_append.1 hx with hx | hx
    · obtain ⟨j, h1, h2, h3⟩ := h.opn x hx
      exact ⟨j, h1, h2, h3.imp id (hmono j)⟩
    · rw [List.mem_singleton] at hx
      exact ⟨w, hx, hw, .inr hself⟩
  · by_cases hjw : j = w
    · subst hjw; exact .inl (List.mem_append_right _ (List.mem_singleton.2 rfl))
    · have hmj' : j = f ∨ met[j]? = some true := by
        rcases hmj with h1 | h1
        · exact .inl h1
        · rcases hback j h1 with h2 | h2
          · exact absurd h2 hjw
          · exact .inr h2
      rcases h.clos j hj hmj' with h1 | h1 | h1
      · exact .inl (List.mem_append_left _ h1)
      · exact .inr (.inl h1)
      · exact .inr (.inr fun v hv => hmono v (h1 v hv))
theorem InvR.close {uses : List (List Int)} {f : Nat} {met : List Bool} {op : List Int} {k : Nat} (h : InvR uses f met op (some k)) (hall : ∀ w, Edge uses k w → met[w]? = some true) : InvR uses f met op none := by
  refine ⟨h.len, h.sound, h.opn, fun j hj hm => ?_⟩
  rcases h.clos j hj hm with h1 | h1 | h1
  · exact .inl h1
  · cases h1; exact .inr (.inr hall)
  · exact .inr (.inr h1)
theorem InvR.start {uses : List (List Int)} {f : Nat} (hf : f < uses.length) : InvR uses f (List.replicate uses.length false) [(f : Int)] none := by
  refine ⟨List.length_replicate, fun k hk => ?_, fun x hx => ?_, fun k hk hm => ?_⟩
  · rw [List.getElem?_replicate] at hk; split at hk <;> cases hk
  · rw [List.mem_singleton] at hx; exact ⟨f, hx, hf, .inl rfl⟩
  · rcases hm with rfl | hm
    · exact .inl (List.mem_singleton.2 rfl)
    · rw [List.getElem?_replicate] at hm; split at hm <;> cases hm
end Go.Proofs.Ytglemgdlkddjhaa.Vm
