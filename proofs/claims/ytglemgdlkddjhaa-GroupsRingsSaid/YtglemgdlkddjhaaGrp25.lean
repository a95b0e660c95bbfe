/-
The groups, part 25: the law GroupsRings, walked.
-/
import Derived.Test.YtglemgdlkddjhaaGrp24
namespace Go.Proofs.Ytglemgdlkddjhaa.Vm
open Go

theorem rings_T (n : Int) : T Try.prog 7 [.int .i64 n] [] (.bool true) [] := by
  refine T.of0 mix c7 rfl ?_
  unfold v7
  by_cases h1 : n < 1
  · have hA : n < 1 ↔ True := ⟨fun _ => True.intro, fun _ => h1⟩
    simp only [go_sem, ↓reduceIte, hA, decide_true]
    refine ⟨_, _, known_T, ?_⟩
    simp only [go_sem, ↓reduceIte]
  have hA : n < 1 ↔ False := ⟨h1, False.elim⟩
  by_cases h2 : n > 400
  · have hB : n > 400 ↔ True := ⟨fun _ => True.intro, fun _ => h2⟩
    simp only [go_sem, ↓reduceIte, hA, hB, decide_true, decide_false]
    refine ⟨_, _, known_T, ?_⟩
    simp only [go_sem, ↓reduceIte]
  have hB : n > 400 ↔ False := ⟨h2, False.elim⟩
  obtain ⟨N, rfl⟩ := Int.eq_ofNat_of_zero_le (show 0 ≤ n by omega)
  have hN0 : 0 < N := by omega
  have hN : N ≤ 400 := by omega
  simp only [go_sem, ↓reduceIte, hA, hB, decide_false]
  refine WP.loop' (fun m E H => ∃ i ex, i + m = N ∧ H = [] ∧ E = ⟨(0, .int .i64 N) :: (3, rows true (ringL N i)) :: (4, rows true (rowL N i)) :: (5, .int .i64 i) :: ex, .u⟩) (n := N)
    ⟨0, [], by omega, rfl, by simp [rows, ringL, rowL]⟩ ?_
  rintro m E H ⟨i, ex, hi, rfl, rfl⟩
  have hwi := inc64 (i := i) (by omega)
  have hwN : IntKind.i64.wrap (((N : Nat) : Int) - 1) = ((N - 1 : Nat) : Int) := by rw [wrap64 (by omega) (by omega)]; omega
  by_cases hil : i < N
  · have hm : (((i + 1 : Nat) : Int)).tmod ((N : Nat) : Int) = (((i + 1) % N : Nat) : Int) := rfl
    have hmod := Nat.mod_lt (i + 1) hN0
    have hwm : IntKind.i64.wrap (((i + 1) % N : Nat) : Int) = (((i + 1) % N : Nat) : Int) := wrap64 (by omega) (by omega)
    simp only [go_sem, ↓reduceIte, ↓ex_map, rows, ints, Int.toNat_natCast, ↓run_addW, ↓run_subW, hwi, hwN, hm, hwm]
    have hfit : ∀ l, l ≤ 400 → fits (l + 1) 24 := fun l hl => by simp [fits]; omega
    refine ⟨fun _ => ⟨by omega, _, rfl, rfl, hfit _ (by rw [ringL_len]; omega), fun hlt => ⟨hfit _ (by rw [rowL_len]; omega), m - 1, by omega, i + 1, [], by omega, ?_⟩, fun hge => ⟨hfit _ (by rw [rowL_len]; omega), m - 1, by omega, i + 1, [], by omega, ?_⟩⟩, fun h => absurd h (by omega)⟩
    · rw [ringL_succ, rowL_succ, rowE, if_pos (by omega)]; simp
    · rw [ringL_succ, rowL_succ, rowE, if_neg (by omega)]; simp
  · have hin : i = N := by omega
    subst hin
    obtain ⟨m1, hg1, hm1⟩ := ring_groups hN0 hN
    obtain ⟨L, hg2, hL1, hL2⟩ := row_groups hN0 hN
    have hT1 := groups_T true (ringL i i) fun r hr => by
      obtain ⟨k, _, rfl⟩ := List.mem_map.1 hr
      simp
    have hT2 := groups_T true (rowL i i) fun r hr => by
      obtain ⟨k, _, rfl⟩ := List.mem_map.1 hr
      unfold rowE; split <;> simp
    rw [hg1] at hT1
    rw [hg2] at hT2
    simp only [go_sem, ↓reduceIte, ↓ex_map, rows, ints, Int.toNat_natCast]
    refine ⟨fun h => absurd h (by omega), fun _ => ⟨_, _, hT1, ?_⟩⟩
    simp only [go_sem, ↓reduceIte, rows, ints]
    refine ⟨_, _, hT2, ?_⟩
    have hz : ((0 : Int) != 0) = false := rfl
    have hz1 : (((1 : Nat) : Int) != 1) = false := rfl
    have hzi : (((i : Nat) : Int) != ((i : Nat) : Int)) = false := by simp
    have hl0 : (0 : Int) ≤ 0 := Int.le_refl 0
    simp only [go_sem, ↓reduceIte, rows, ints, hz, hz1, hm1, natI_len, hl0, Int.toNat_zero, hzi, hL1]
    refine WP.loop' (fun m E H => ∃ j ex, j + m = i ∧ H = [] ∧ E = ⟨(0, .int .i64 i) :: (8, rows false L) :: (10, .int .i64 j) :: ex, .u⟩) (n := i)
      ⟨0, [], by omega, rfl, by simp [rows, ints]⟩ ?_
    rintro m E H ⟨j, ex, hj, rfl, rfl⟩
    have hwj := inc64 (i := j) (by omega)
    by_cases hji : j < i
    · have hw1 : IntKind.i64.wrap (((i - 1 : Nat) : Int) - ((j : Nat) : Int)) = ((i - 1 - j : Nat) : Int) := by rw [wrap64 (by omega) (by omega)]; omega
      simp only [go_sem, ↓reduceIte, ↓ex_map, rows, ints, Int.toNat_natCast, ↓run_addW, ↓run_subW, hwj, hwN, hw1]
      refine ⟨fun _ => ⟨by omega, _, hL2 j hji, ?_⟩, fun h => absurd h (by omega)⟩
      have hze : (((i - 1 - j : Nat) : Int) != ((i - 1 - j : Nat) : Int)) = false := by simp
      simp only [go_sem, ↓reduceIte, ↓ex_map, rows, ints, Int.toNat_natCast, ↓run_addW, ↓run_subW, hwj, hwN, hw1, hz1, hl0, Int.toNat_zero]
      refine ⟨by omega, _, hL2 j hji, ?_⟩
      simp only [go_sem, ↓reduceIte, hze]
      exact ⟨m - 1, by omega, j + 1, [], by omega, rfl⟩
    · simp only [go_sem, ↓reduceIte, ↓ex_map, rows, ints, Int.toNat_natCast]
      refine ⟨fun h => absurd h (by omega), fun _ => ⟨_, _, known_T, ?_⟩⟩
      simp only [go_sem, ↓reduceIte]
end Go.Proofs.Ytglemgdlkddjhaa.Vm
