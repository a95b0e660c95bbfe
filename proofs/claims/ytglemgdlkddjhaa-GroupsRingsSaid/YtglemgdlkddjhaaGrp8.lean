/-
The groups, part 8: the reference's groups: the plain part.
-/
import Derived.Test.YtglemgdlkddjhaaGrp7
namespace Go.Proofs.Ytglemgdlkddjhaa.Vm
open Go

/-- The least thing of a thing's group. -/
noncomputable def headN (uses : List (List Int)) (k : Nat) : Nat := ((List.range uses.length).find? (sameB uses k)).getD k
noncomputable def pickG (uses : List (List Int)) (done : List Bool) : Option Nat := (List.range uses.length).find? fun k => !(done.getD k false) && readyB uses (headN uses k) done
noncomputable def markL (uses : List (List Int)) (k : Nat) (done : List Bool) : List Bool := done.mapIdx fun i b => b || sameB uses k i
noncomputable def groupsF (uses : List (List Int)) : Nat → List Bool → List (List Int)
  | 0, _ => []
  | f + 1, done => match pickG uses done with
    | none => []
    | some k => groupL uses k :: groupsF uses f (markL uses k done)

theorem sameB_self (uses : List (List Int)) (k : Nat) : sameB uses k k = true := by simp [sameB]
theorem outL_head {p : Nat → Bool} {n k : Nat} (hk : k < n) (hp : p k = true) : ∃ l, outL p n = ((((List.range n).find? p).getD k : Nat) : Int) :: l ∧ ((List.range n).find? p).getD k < n := by
  have hex : ((List.range n).find? p).isSome = true := by
    rw [List.find?_isSome]; exact ⟨k, by simpa using hk, hp⟩
  obtain ⟨a, ha⟩ := Option.isSome_iff_exists.1 hex
  have hmem : a < n := by simpa using List.mem_of_find?_eq_some ha
  rw [ha]
  refine ⟨((List.range n).filter p).tail.map fun (k : Nat) => (k : Int), ?_, hmem⟩
  unfold outL
  have : (List.range n).filter p = a :: ((List.range n).filter p).tail := by
    have h1 : ((List.range n).filter p).head? = some a := by rw [List.head?_filter]; exact ha
    cases hf : (List.range n).filter p with
    | nil => rw [hf] at h1; cases h1
    | cons b l => rw [hf] at h1; cases h1; rfl
  rw [this]; rfl
theorem groupL_head {uses : List (List Int)} {k : Nat} (hk : k < uses.length) : ∃ l, groupL uses k = ((headN uses k : Nat) : Int) :: l ∧ headN uses k < uses.length := outL_head hk (sameB_self uses k)
theorem mem_outL {p : Nat → Bool} {n : Nat} {x : Int} (h : x ∈ outL p n) : ∃ i : Nat, x = (i : Int) ∧ i < n ∧ p i = true := by
  unfold outL at h
  obtain ⟨i, h1, rfl⟩ := List.mem_map.1 h
  obtain ⟨h2, h3⟩ := List.mem_filter.1 h1
  exact ⟨i, rfl, by simpa using h2, h3⟩
theorem in_outL {p : Nat → Bool} {n i : Nat} (hi : i < n) (hp : p i = true) : (i : Int) ∈ outL p n := List.mem_map.2 ⟨i, List.mem_filter.2 ⟨by simpa using hi, hp⟩, rfl⟩

theorem count_le : ∀ {a b : List Bool}, a.length = b.length → (∀ i : Nat, a[i]? = some true → b[i]? = some true) → b.count false ≤ a.count false
  | [], [], _, _ => Nat.le_refl _
  | [], _ :: _, h, _ => by cases h
  | _ :: _, [], h, _ => by cases h
  | x :: a, y :: b, hl, h => by
    have ih := count_le (a := a) (b := b) (by simpa using hl) fun i hi => by simpa using h (i + 1) (by simpa using hi)
    have h0 := h 0
    rw [List.count_cons, List.count_cons]
    cases x <;> cases y <;> simp at h0 ⊢ <;> omega
theorem count_lt : ∀ {a b : List Bool}, a.length = b.length → (∀ i : Nat, a[i]? = some true → b[i]? = some true) → (∃ i : Nat, a[i]? = some false ∧ b[i]? = some true) → b.count false < a.count false
  | [], [], _, _, ⟨i, h, _⟩ => by simp at h
  | [], _ :: _, h, _, _ => by cases h
  | _ :: _, [], h, _, _ => by cases h
  | x :: a, y :: b, hl, h, ⟨i, h1, h2⟩ => by
    have hl' : a.length = b.length := by simpa using hl
    have hm : ∀ i : Nat, a[i]? = some true → b[i]? = some true := fun i hi => by simpa using h (i + 1) (by simpa using hi)
    have h0 := h 0
    rw [List.count_cons, List.count_cons]
    match i with
    | 0 =>
      have := count_le hl' hm
      simp at h1 h2; subst h1 h2
      simp; omega
    | i + 1 =>
      have ih := count_lt hl' hm ⟨i, by simpa using h1, by simpa using h2⟩
      cases x <;> cases y <;> simp at h0 ⊢ <;> omega
theorem markL_len {uses : List (List Int)} {k : Nat} {done : List Bool} : (markL uses k done).length = done.length := by simp [markL]
theorem markL_at {uses : List (List Int)} {k i : Nat} {done : List Bool} : (markL uses k done)[i]? = done[i]?.map fun b => b || sameB uses k i := by simp [markL, List.getElem?_mapIdx]
theorem markL_lt {uses : List (List Int)} {k : Nat} {done : List Bool} (hk : done[k]? = some false) : (markL uses k done).count false < done.count false := by
  refine count_lt markL_len.symm (fun i hi => by rw [markL_at, hi]; rfl) ⟨k, hk, by rw [markL_at, hk, sameB_self]; rfl⟩
theorem pickG_some {uses : List (List Int)} {done : List Bool} (hl : done.length = uses.length) {k : Nat} (h : pickG uses done = some k) : k < uses.length ∧ done[k]? = some false ∧ readyB uses (headN uses k) done = true := by
  unfold pickG at h
  have hk : k < uses.length := by simpa using List.mem_of_find?_eq_some h
  have hp := List.find?_some h
  simp only [Bool.and_eq_true, Bool.not_eq_true'] at hp
  refine ⟨hk, ?_, hp.2⟩
  have := hp.1
  rw [List.getD_eq_getElem?_getD, List.getElem?_eq_getElem (by omega)] at this
  rw [List.getElem?_eq_getElem (by omega)]
  exact congrArg some this
theorem groupsF_fuel {uses : List (List Int)} : ∀ (f g : Nat) (done : List Bool), done.length = uses.length → done.count false ≤ f → done.count false ≤ g → groupsF uses f done = groupsF uses g done
  | 0, 0, _, _, _, _ => rfl
  | 0, g + 1, done, hl, h, _ => by
    rw [groupsF, groupsF]
    cases hp : pickG uses done with
    | none => rfl
    | some k =>
      have := markL_lt (uses := uses) (pickG_some hl hp).2.1
      omega
  | f + 1, 0, done, hl, _, h => by
    rw [groupsF, groupsF]
    cases hp : pickG uses done with
    | none => rfl
    | some k =>
      have := markL_lt (uses := uses) (pickG_some hl hp).2.1
      omega
  | f + 1, g + 1, done, hl, hf, hg => by
    rw [groupsF, groupsF]
    cases hp : pickG uses done with
    | none => rfl
    | some k =>
      have := markL_lt (uses := uses) (pickG_some hl hp).2.1
      simp only
      rw [groupsF_fuel f g _ (by rw [markL_len]; exact hl) (by omega) (by omega)]
end Go.Proofs.Ytglemgdlkddjhaa.Vm
