/-
The groups, part 4: what needs what: the plain part.
-/
import Derived.Test.YtglemgdlkddjhaaGrp3
namespace Go.Proofs.Ytglemgdlkddjhaa.Vm
open Go

/-- Over things below K. -/
inductive Via (uses : List (List Int)) (K : Nat) : Nat → Nat → Prop
  | one {a b : Nat} (h : Edge uses a b) : Via uses K a b
  | comp {a b m : Nat} (hm : m < K) (h1 : Via uses K a m) (h2 : Via uses K m b) : Via uses K a b

theorem Via.path {uses : List (List Int)} {K a b : Nat} (h : Via uses K a b) : Path uses a b := by
  induction h with
  | one h => exact .one h
  | comp _ _ _ ih1 ih2 => exact ih1.trans ih2
theorem Path.via {uses : List (List Int)} (hok : wrongE uses = 0) {a b : Nat} (h : Path uses a b) : Via uses uses.length a b := by
  induction h with
  | one h => exact .one h
  | more _ e ih => exact .comp (edge_lt hok e).1 ih (.one e)
theorem Via.split {uses : List (List Int)} {K a b : Nat} (h : Via uses (K + 1) a b) : Via uses K a b ∨ (Via uses K a K ∧ Via uses K K b) := by
  induction h with
  | one h => exact .inl (.one h)
  | @comp a b m hm _ _ ih1 ih2 =>
    by_cases hk : m = K
    · subst hk
      have h1 : Via uses m a m := ih1.elim id (·.1)
      have h2 : Via uses m m b := ih2.elim id (·.2)
      exact .inr ⟨h1, h2⟩
    · have hm : m < K := by omega
      rcases ih1 with h1 | ⟨h1, h1'⟩
      · rcases ih2 with h2 | ⟨h2, h2'⟩
        · exact .inl (.comp hm h1 h2)
        · exact .inr ⟨.comp hm h1 h2, h2'⟩
      · rcases ih2 with h2 | ⟨h2, h2'⟩
        · exact .inr ⟨h1, .comp hm h1' h2⟩
        · exact .inr ⟨h1, h2'⟩

def Has (M : List (List Bool)) (i j : Nat) : Prop := ∃ r, M[i]? = some r ∧ r[j]? = some true
def set2 (M : List (List Bool)) (i j : Nat) (b : Bool) : List (List Bool) := M.set i ((M.getD i []).set j b)
structure Square (n : Nat) (M : List (List Bool)) : Prop where
  len : M.length = n
  rows : ∀ r ∈ M, r.length = n
theorem Square.row {n : Nat} {M : List (List Bool)} (h : Square n M) {i : Nat} (hi : i < n) : ∃ r, M[i]? = some r ∧ r.length = n :=
  ⟨M[i]'(by rw [h.len]; exact hi), List.getElem?_eq_getElem _, h.rows _ (List.getElem_mem _)⟩
theorem Square.cell {n : Nat} {M : List (List Bool)} (h : Square n M) {i j : Nat} (hi : i < n) (hj : j < n) : ∃ r b, M[i]? = some r ∧ r[j]? = some b := by
  obtain ⟨r, h1, h2⟩ := h.row hi
  exact ⟨r, r[j]'(by omega), h1, List.getElem?_eq_getElem _⟩
theorem set2_row {M : List (List Bool)} {i : Nat} {r : List Bool} (h : M[i]? = some r) (j : Nat) (b : Bool) : set2 M i j b = M.set i (r.set j b) := by
  unfold set2
  rw [List.getD_eq_getElem?_getD, h]; rfl
theorem Square.set2 {n : Nat} {M : List (List Bool)} (h : Square n M) {i : Nat} (hi : i < n) (j : Nat) (b : Bool) : Square n (set2 M i j b) := by
  obtain ⟨r, h1, h2⟩ := h.row hi
  rw [set2_row h1]
  refine ⟨by rw [List.length_set]; exact h.len, fun x hx => ?_⟩
  rcases List.mem_or_eq_of_mem_set hx with hx | rfl
  · exact h.rows x hx
  · rw [List.length_set]; exact h2
theorem has_set2 {n : Nat} {M : List (List Bool)} (h : Square n M) {i j : Nat} (hi : i < n) (hj : j < n) (b : Bool) (x y : Nat) : Has (Vm.set2 M i j b) x y ↔ (if x = i ∧ y = j then b = true else Has M x y) := by
  obtain ⟨r, h1, h2⟩ := h.row hi
  rw [set2_row h1]
  unfold Has
  by_cases hx : x = i
  · subst hx
    have e : (M.set x (r.set j b))[x]? = some (r.set j b) := by
      rw [List.getElem?_set, if_pos rfl, if_pos (by rw [h.len]; exact hi)]
    rw [e]
    by_cases hy : y = j
    · subst hy
      rw [if_pos ⟨rfl, rfl⟩]
      constructor
      · rintro ⟨r', h3, h4⟩
        cases h3
        rw [List.getElem?_set, if_pos rfl, if_pos (by omega)] at h4
        exact Option.some.inj h4
      · intro hb
        refine ⟨_, rfl, ?_⟩
        rw [List.getElem?_set, if_pos rfl, if_pos (by omega), hb]
    · rw [if_neg (by omega)]
      constructor
      · rintro ⟨r', h3, h4⟩
        cases h3
        rw [List.getElem?_set, if_neg (by omega)] at h4
        exact ⟨r, h1, h4⟩
      · rintro ⟨r', h3, h4⟩
        rw [h1] at h3; cases h3
        refine ⟨_, rfl, ?_⟩
        rw [List.getElem?_set, if_neg (by omega)]; exact h4
  · rw [if_neg (by omega)]
    have e : (M.set i (r.set j b))[x]? = M[x]? := by rw [List.getElem?_set, if_neg (by omega)]
    rw [e]

/-- While k is worked in: rows below i are done, and row i below j. -/
structure InvW (uses : List (List Int)) (M : List (List Bool)) (k i j : Nat) : Prop where
  sq : Square uses.length M
  sound : ∀ x y, Has M x y → Path uses x y
  old : ∀ x y, x < uses.length → y < uses.length → Via uses k x y → Has M x y
  new : ∀ x y, x < uses.length → y < uses.length → (x < i ∨ (x = i ∧ y < j)) → Via uses (k + 1) x y → Has M x y

theorem InvW.put {uses : List (List Int)} {M : List (List Bool)} {k i j : Nat} (h : InvW uses M k i j) (hk : k < uses.length) (hi : i < uses.length) (hj : j < uses.length) (hik : Has M i k) {b : Bool} (hb : b = true ↔ (Has M i j ∨ Has M k j)) :
    InvW uses (set2 M i j b) k i (j + 1) := by
  have hs := has_set2 h.sq hi hj b
  have hmono : ∀ x y, Has M x y → Has (set2 M i j b) x y := by
    intro x y hm
    rw [hs]
    split
    · rename_i e; obtain ⟨rfl, rfl⟩ := e; exact hb.2 (.inl hm)
    · exact hm
  refine ⟨h.sq.set2 hi j b, fun x y hm => ?_, fun x y hx hy hv => hmono x y (h.old x y hx hy hv), fun x y hx hy hd hv => ?_⟩
  · rw [hs] at hm
    split at hm
    · rename_i e; obtain ⟨rfl, rfl⟩ := e
      rcases hb.1 hm with h1 | h1
      · exact h.sound _ _ h1
      · exact (h.sound _ _ hik).trans (h.sound _ _ h1)
    · exact h.sound _ _ hm
  · by_cases e : x = i ∧ y = j
    · obtain ⟨rfl, rfl⟩ := e
      rw [hs, if_pos ⟨rfl, rfl⟩]
      refine hb.2 ?_
      rcases hv.split with h1 | ⟨_, h1⟩
      · exact .inl (h.old _ _ hx hy h1)
      · exact .inr (h.old _ _ hk hy h1)
    · exact hmono x y (h.new x y hx hy (by omega) hv)
theorem InvW.row {uses : List (List Int)} {M : List (List Bool)} {k i j : Nat} (h : InvW uses M k i j) (hj : uses.length ≤ j) : InvW uses M k (i + 1) 0 :=
  ⟨h.sq, h.sound, h.old, fun x y hx hy hd hv => h.new x y hx hy (by omega) hv⟩
theorem InvW.skip {uses : List (List Int)} {M : List (List Bool)} {k i j : Nat} (h : InvW uses M k i j) (hk : k < uses.length) (hi : i < uses.length) (hik : ¬ Has M i k) : InvW uses M k (i + 1) 0 := by
  refine ⟨h.sq, h.sound, h.old, fun x y hx hy hd hv => ?_⟩
  by_cases e : x = i
  · subst e
    rcases hv.split with h1 | ⟨h1, _⟩
    · exact h.old _ _ hx hy h1
    · exact absurd (h.old _ _ hi hk h1) hik
  · exact h.new x y hx hy (by omega) hv
theorem InvW.next {uses : List (List Int)} {M : List (List Bool)} {k i : Nat} (h : InvW uses M k i 0) (hi : uses.length ≤ i) : InvW uses M (k + 1) 0 0 :=
  ⟨h.sq, h.sound, fun x y hx hy hv => h.new x y hx hy (by omega) hv, fun x y _ _ hd => by omega⟩
theorem InvW.done {uses : List (List Int)} {M : List (List Bool)} {k : Nat} (hok : wrongE uses = 0) (h : InvW uses M k 0 0) (hk : uses.length ≤ k) {x y : Nat} : Has M x y ↔ Path uses x y := by
  refine ⟨h.sound x y, fun hp => ?_⟩
  have hmono : ∀ {a b : Nat}, Via uses uses.length a b → Via uses k a b := by
    intro a b hv
    induction hv with
    | one e => exact .one e
    | comp hm _ _ ih1 ih2 => exact .comp (by omega) ih1 ih2
  have hx : x < uses.length := by
    clear hmono
    induction hp with
    | one e => exact (edge_lt hok e).1
    | more _ _ ih => exact ih
  have hy : y < uses.length := by
    cases hp with
    | one e => exact (edge_lt hok e).2
    | more _ e => exact (edge_lt hok e).2
  exact h.old x y hx hy (hmono (hp.via hok))
end Go.Proofs.Ytglemgdlkddjhaa.Vm
