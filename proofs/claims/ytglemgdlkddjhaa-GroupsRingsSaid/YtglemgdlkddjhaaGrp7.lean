/-
The groups, part 7: the reference's groups: a thing's group; whether it is ready.
-/
import Derived.Test.YtglemgdlkddjhaaGrp6
namespace Go.Proofs.Ytglemgdlkddjhaa.Vm
open Go

noncomputable def sameB (uses : List (List Int)) (k i : Nat) : Bool := i == k || (reachB uses i k && reachB uses k i)
noncomputable def groupL (uses : List (List Int)) (k : Nat) : List Int := outL (sameB uses k) uses.length
theorem needM_len (uses : List (List Int)) : (needM uses).length = uses.length := by simp [needM]
theorem needM_row {uses : List (List Int)} {x : Nat} (h : x < uses.length) : (needM uses)[x]? = some ((List.range uses.length).map (reachB uses x)) := by
  unfold needM; rw [List.getElem?_map, List.getElem?_range h]; rfl
theorem needM_at {uses : List (List Int)} {x y : Nat} (h : y < uses.length) : ((List.range uses.length).map (reachB uses x))[y]? = some (reachB uses x y) := by
  rw [List.getElem?_map, List.getElem?_range h]; rfl

theorem group_T (uses : List (List Int)) (k : Nat) (H : Heap) (hn : uses.length ≤ 2048) (hk : k < uses.length) : T Try.prog 21 [matR (needM uses), .int .i64 k] H (ints true (groupL uses k)) H := by
  refine T.of mix c21 rfl ?_
  unfold v21
  simp only [go_sem, ↓reduceIte, ↓ex_map, matR, boolsR]
  refine WP.loop' (fun m E H' => ∃ i ex, i + m = uses.length ∧ H' = H ∧
    E = ⟨(0, matR (needM uses)) :: (1, .int .i64 k) :: (5, ints true (outL (sameB uses k) i)) :: (6, .int .i64 i) :: ex, .u⟩) (n := uses.length) ⟨0, [], by omega, rfl, by simp [matR, boolsR, ints, outL]⟩ ?_
  rintro m E H' ⟨i, ex, hi, rfl, rfl⟩
  simp only [go_sem, ↓reduceIte, ↓ex_map, matR, boolsR, ints, Int.toNat_natCast, needM_len]
  refine ⟨fun hlt => ?_, fun hge => ?_⟩
  · have h1 : i < uses.length := by omega
    have hb := outL_len (sameB uses k) i
    simp only [needM_row h1, needM_row hk, Option.some.injEq, exists_eq_left', needM_at h1, needM_at hk]
    have yes : sameB uses k i = true → _ := fun hs => (show fits ((outL (sameB uses k) i).length + 1) 8 ∧ outL (sameB uses k) (i + 1) = outL (sameB uses k) i ++ [(i : Int)] from ⟨⟨by omega, by omega⟩, outL_yes hs⟩)
    refine ⟨fun hne => ⟨by omega, by omega, fun h2 => ⟨by omega, by omega, fun h3 => ?_, fun h3 => ?_⟩, fun h2 => ?_⟩, fun heq => ?_⟩
    · have hs : sameB uses k i = true := by simp [sameB, h2, h3]
      refine ⟨(yes hs).1, _, rfl, m - 1, by omega, i + 1, [], by omega, ?_⟩
      rw [inc64 (by omega), (yes hs).2, List.map_append]; rfl
    · have hs : sameB uses k i = false := by
        have : ¬ i = k := by intro e; subst e; simp at hne
        simp [sameB, h3, this]
      refine ⟨_, rfl, m - 1, by omega, i + 1, [], by omega, ?_⟩
      rw [inc64 (by omega), outL_no hs]
    · have hs : sameB uses k i = false := by
        have : ¬ i = k := by intro e; subst e; simp at hne
        simp [sameB, h2, this]
      refine ⟨_, rfl, m - 1, by omega, i + 1, [], by omega, ?_⟩
      rw [inc64 (by omega), outL_no hs]
    · have hs : sameB uses k i = true := by
        have : i = k := by simp at heq; omega
        simp [sameB, this]
      refine ⟨(yes hs).1, _, rfl, m - 1, by omega, i + 1, [], by omega, ?_⟩
      rw [inc64 (by omega), (yes hs).2, List.map_append]; rfl
  · have : i = uses.length := by omega
    subst this; rfl

/-- Whether all that a thing needs, but what needs it, is done. -/
noncomputable def waitB (uses : List (List Int)) (a : Nat) (done : List Bool) (i : Nat) : Bool := reachB uses a i && !(done.getD i false) && !(reachB uses i a)
noncomputable def readyB (uses : List (List Int)) (a : Nat) (done : List Bool) : Bool := (List.range uses.length).all fun i => !(waitB uses a done i)
theorem refReady_T (uses : List (List Int)) (o : Bool) (a : Nat) (l : List Int) (done : List Bool) (id : Nat) (H : Heap) (hn : uses.length ≤ 2048) (ha : a < uses.length) (hd : done.length = uses.length) (hH : getCells H id 0 = some (bvals done)) :
    T Try.prog 22 [matR (needM uses), ints o ((a : Int) :: l), .hsl id 0 0 uses.length 1] H (.bool (readyB uses a done)) H := by
  refine T.of mix c22 rfl ?_
  unfold v22
  simp only [go_sem, ↓reduceIte, ↓ex_map, matR, boolsR, ints]
  refine WP.loop' (fun m E H' => ∃ i ex, i + m = uses.length ∧ H' = H ∧ (∀ j, j < i → waitB uses a done j = false) ∧
    E = ⟨(0, matR (needM uses)) :: (1, ints o ((a : Int) :: l)) :: (2, .hsl id 0 0 uses.length 1) :: (7, .int .i64 i) :: ex, .u⟩) (n := uses.length) ⟨0, [], by omega, rfl, fun j hj => absurd hj (by omega), by simp [matR, boolsR, ints]⟩ ?_
  rintro m E H' ⟨i, ex, hi, rfl, hw, rfl⟩
  by_cases h1 : i < uses.length
  · have hb : (bvals done)[i * 1]? = some (.bool (done[i]'(by omega))) := by
      rw [Nat.mul_one]; unfold bvals; rw [List.getElem?_map, List.getElem?_eq_getElem (by omega)]; rfl
    have hg : done.getD i false = done[i]'(by omega) := by rw [List.getD_eq_getElem?_getD, List.getElem?_eq_getElem (by omega)]; rfl
    unfold getCells at hH
    simp only [go_sem, ↓reduceIte, ↓ex_map, matR, boolsR, ints, Int.toNat_natCast, Int.toNat_zero, needM_len, needM_row h1, needM_row ha, needM_at h1, needM_at ha, Option.some.injEq, exists_eq_left', hH, hb]
    have hnext : waitB uses a done i = false → ∀ j, j < i + 1 → waitB uses a done j = false := by
      intro h j hj
      rcases Nat.lt_or_ge j i with h' | h'
      · exact hw j h'
      · rw [show j = i by omega]; exact h
    refine ⟨fun _ => ⟨by omega, by omega, by omega, i, List.getElem?_range h1, fun h2 => ⟨by omega, by omega, fun h3 => ⟨by omega, by omega, by omega, a, List.getElem?_range ha, fun h4 => ?_, fun h4 => ?_⟩, fun h3 => ?_⟩, fun h2 => ?_⟩, fun h => absurd h1 (by omega)⟩
    · have : readyB uses a done = false := by
        refine all_bad (List.getElem?_range h1) ?_
        simp only [waitB, hg, h2, h3, h4]; rfl
      rw [this]
    · exact ⟨_, rfl, m - 1, by omega, i + 1, [], by omega, hnext (by simp only [waitB, hg, h4]; simp), by rw [inc64 (by omega)]⟩
    · exact ⟨_, rfl, m - 1, by omega, i + 1, [], by omega, hnext (by simp only [waitB, hg, h3]; simp), by rw [inc64 (by omega)]⟩
    · exact ⟨_, rfl, m - 1, by omega, i + 1, [], by omega, hnext (by simp only [waitB, h2]; simp), by rw [inc64 (by omega)]⟩
  · simp only [go_sem, ↓reduceIte, ↓ex_map, matR, boolsR, ints, Int.toNat_natCast, needM_len]
    refine ⟨fun h => absurd h1 (by omega), fun _ => ?_⟩
    have : readyB uses a done = true := by
      unfold readyB
      rw [List.all_eq_true]
      intro j hj
      rw [hw j (by have := List.mem_range.1 hj; omega)]; rfl
    rw [this]
end Go.Proofs.Ytglemgdlkddjhaa.Vm
