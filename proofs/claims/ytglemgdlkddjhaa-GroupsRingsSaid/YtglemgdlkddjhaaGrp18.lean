/-
The groups, part 18: the law GroupsAll.
-/
import Derived.Test.YtglemgdlkddjhaaGrp17
import Derived.Test.YtglemgdlkddjhaaKnown
import Derived.Test.YtglemgdlkddjhaaVm30
namespace Go.Proofs.Ytglemgdlkddjhaa.Vm
open Go

theorem outL_big {p : Nat → Bool} {n : Nat} (h : Big n) : Big (outL p n).length := Nat.lt_of_le_of_lt (outL_len p n) h
theorem groupsF_big {uses : List (List Int)} (hn : Big uses.length) : ∀ (f : Nat) (done : List Bool), (∀ r ∈ groupsF uses f done, Big r.length)
  | 0, _, r, h => by cases h
  | f + 1, done, r, h => by
    rw [groupsF] at h
    split at h
    · cases h
    · rcases List.mem_cons.1 h with rfl | h
      · exact outL_big hn
      · exact groupsF_big hn f _ r h
theorem groupsF_len {uses : List (List Int)} : ∀ (f : Nat) (done : List Bool), (groupsF uses f done).length ≤ f
  | 0, _ => Nat.le_refl _
  | f + 1, done => by
    rw [groupsF]
    split
    · simp
    · have := groupsF_len (uses := uses) f (markL uses ‹_› done)
      simp; omega
theorem groupsR_big {uses : List (List Int)} : Big (groupsR uses).1.length ∧ ∀ r ∈ (groupsR uses).1, Big r.length := by
  unfold groupsR
  split
  · exact ⟨by simp, fun r h => by cases h⟩
  · rename_i h
    have hok : wrongE uses = 0 := by simpa using h
    have hn := len_ok hok
    have := groupsF_len (uses := uses) uses.length (List.replicate uses.length false)
    exact ⟨by simp only; omega, groupsF_big (by omega) _ _⟩
theorem reachR_big {uses : List (List Int)} {f : Int} : Big (reachR uses f).1.length := by
  unfold reachR
  split
  · simp
  · rename_i h
    have hok : wrongE uses = 0 := by simpa using h
    have hn := len_ok hok
    split
    · have := outL_len (reachB uses f.toNat) uses.length
      have e : reachL uses f.toNat = outL (reachB uses f.toNat) uses.length := rfl
      simp only [e]
      omega
    · simp
theorem fewE_ok {uses : List (List Int)} (h : fewE uses = true) : uses.length ≤ 100 ∧ ∀ r ∈ uses, Big r.length := by
  unfold fewE at h
  simp only [Bool.and_eq_true, decide_eq_true_eq, List.all_eq_true] at h
  exact ⟨h.1, fun r hr => by have := h.2 r hr; omega⟩

theorem all_T (uses : List (List Int)) (f : Int) : T Try.prog 3 [rows false uses, .int .i64 f] [] (.bool true) [] := by
  refine T.of0 mix c3 rfl ?_
  unfold v3
  simp only [go_sem, ↓reduceIte, rows]
  refine ⟨_, _, few_T false uses [], ?_⟩
  simp only [go_sem, ↓reduceIte]
  refine ⟨fun _ => ⟨_, _, known_T, ?_⟩, fun hf => ?_⟩
  · simp only [go_sem, ↓reduceIte]
  · obtain ⟨h1, h2⟩ := fewE_ok (by simpa using hf)
    refine ⟨_, _, groups_T false uses h2, ?_⟩
    simp only [go_sem, ↓reduceIte, rows]
    refine ⟨_, _, refGroups_T false uses h2, ?_⟩
    simp only [go_sem, ↓reduceIte, rows]
    refine ⟨_, _, reach_T false uses f h2, ?_⟩
    simp only [go_sem, ↓reduceIte, rows]
    refine ⟨_, _, refReach_T false uses f h2, ?_⟩
    simp only [go_sem, ↓reduceIte, rows, ints]
    refine ⟨_, _, same_T false false (groupsR uses).1 (groupsR uses).1 [] groupsR_big.1 groupsR_big.2, ?_⟩
    simp only [go_sem, ↓reduceIte, rows, ints, beq_self_eq_true]
    refine ⟨_, _, sameInts_T false false (reachR uses f).1 (reachR uses f).1 [] reachR_big, ?_⟩
    simp only [go_sem, ↓reduceIte, rows, ints, beq_self_eq_true]
    refine ⟨_, _, known_T, ?_⟩
    simp only [go_sem, ↓reduceIte]
end Go.Proofs.Ytglemgdlkddjhaa.Vm
