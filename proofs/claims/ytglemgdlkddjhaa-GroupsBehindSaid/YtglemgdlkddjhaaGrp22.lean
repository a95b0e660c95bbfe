/-
The groups, part 22: the law GroupsBehind.
-/
import Derived.Test.YtglemgdlkddjhaaGrp21
namespace Go.Proofs.Ytglemgdlkddjhaa.Vm
open Go

theorem behind_T (uses : List (List Int)) (hr : ∀ r ∈ uses, Big r.length) : T Try.prog 5 [rows false uses] [] (.bool true) [] := by
  refine T.of0 mix c5 rfl ?_
  unfold v5
  simp only [go_sem, ↓reduceIte, rows]
  refine ⟨_, _, groups_T false uses hr, ?_⟩
  by_cases hok : wrongE uses = 0
  · obtain ⟨grp, gs, pt⟩ := parted uses hok hr
    have hn := len_ok hok
    obtain ⟨L, hL⟩ : ∃ L, L = (groupsR uses).1 := ⟨_, rfl⟩
    have hLe := pt.eq
    rw [pt.err, ← hL]
    rw [← hL] at hLe
    have hLl : L.length = gs.length := by rw [hLe, List.length_map]
    have hgl : gs.length ≤ 2048 := by
      have h1 := groupsF_len (uses := uses) uses.length (List.replicate uses.length false)
      have h2 : L = groupsF uses uses.length (List.replicate uses.length false) := by rw [hL]; unfold groupsR; rw [if_neg (by simpa using hok)]
      rw [← h2] at h1; omega
    simp only [go_sem, ↓reduceIte, rows, Int.toNat_natCast, cB_zero]
    refine ⟨fun h => absurd h (by simp), fun _ => ⟨by omega, ?_⟩⟩
    refine WP.loop' (fun m E H => ∃ i dm ex, i + m = gs.length ∧ (∀ x, x < uses.length → (dm x = true ↔ grp x ∈ gs.take i)) ∧
        E = ⟨(0, rows false uses) :: (3, rows false L) :: (5, .hsl 0 0 0 uses.length 1) :: (6, .int .i64 i) :: ex, .u⟩ ∧ H = [.cells 0 (cB uses.length dm)]) (n := gs.length)
      ⟨0, fun _ => false, [], by omega, fun x hx => ⟨fun h => (nomatch h), fun h => (nomatch h)⟩, by simp [rows], rfl⟩ ?_
    rintro m E H ⟨i, dm, ex, hi, hdm, rfl, rfl⟩
    have hwi := inc64 (i := i) (by omega)
    simp only [go_sem, ↓reduceIte, ↓ex_map, rows, ints, Int.toNat_natCast, ↓run_addW, hwi, hLl]
    refine ⟨fun hlt => ?_, fun hge => ?_⟩
    · have hig : i < gs.length := by omega
      obtain ⟨g, hgi⟩ : ∃ g, gs[i]? = some g := ⟨_, List.getElem?_eq_getElem hig⟩
      obtain ⟨mem, hmem⟩ : ∃ mem, mem = memL uses.length grp g := ⟨_, rfl⟩
      have hLi : L[i]? = some (natI mem) := by rw [hLe, List.getElem?_map, hgi, hmem]; rfl
      have hml : mem.length ≤ 2048 := by have := memL_len uses.length grp g; rw [hmem]; omega
      refine WP.loop' (fun m' E H => ∃ k dm ex, k + m' = mem.length ∧ (∀ x, x < uses.length → (dm x = true ↔ grp x ∈ gs.take i ∨ x ∈ mem.take k)) ∧
          E = ⟨(0, rows false uses) :: (3, rows false L) :: (5, .hsl 0 0 0 uses.length 1) :: (6, .int .i64 i) :: (7, .int .i64 k) :: ex, .u⟩ ∧ H = [.cells 0 (cB uses.length dm)]) (n := mem.length)
        ⟨0, dm, [], by omega, fun x hx => by simp [hdm x hx], by simp [rows, ints], rfl⟩ ?_
      clear hdm
      rintro m' E H ⟨k, dm, ex, hk, hdm, rfl, rfl⟩
      have hwk := inc64 (i := k) (by omega)
      by_cases hkl : k < mem.length
      · obtain ⟨x, hx⟩ : ∃ x, mem[k]? = some x := ⟨_, List.getElem?_eq_getElem hkl⟩
        have hxm : x ∈ mem := List.mem_of_getElem? hx
        have hxx := memL_lt (by rw [hmem] at hxm; exact hxm)
        have hxI := natI_get' hx
        have hup : ∀ y, y < uses.length → (updN dm x true y = true ↔ grp y ∈ gs.take i ∨ y ∈ mem.take (k + 1)) := by
          intro y hy
          rw [List.take_add_one, hx, List.mem_append]
          by_cases hyx : y = x
          · subst hyx; simp [updN_same]
          · rw [updN_other _ _ hyx, hdm y hy]; simp [hyx]
        simp only [go_sem, ↓reduceIte, ↓ex_map, rows, ints, Int.toNat_natCast, ↓run_addW, hwk]
        refine ⟨by omega, _, hLi, ?_⟩
        simp only [natI_len]
        refine ⟨fun _ => ⟨by omega, _, hLi, by omega, _, hxI, fun _ => ⟨by omega, _, hLi, by omega, _, hxI, fun h => absurd h (by have := hxx.1; omega), fun _ => ⟨by omega, _, hLi, by omega, _, hxI, by omega, by have := hxx.1; omega,
          by rw [Int.toNat_natCast, Nat.mul_one, cB_len]; exact hxx.1, m' - 1, by omega, k + 1, updN dm x true, [], by omega, hup, rfl, by rw [Int.toNat_natCast, Nat.mul_one, cB_set]⟩⟩, fun h => absurd h (by omega)⟩, fun h => absurd h (by omega)⟩
      · have hdm1 : ∀ x, x < uses.length → (dm x = true ↔ grp x ∈ gs.take (i + 1)) := by
          intro x hx
          rw [hdm x hx, List.take_add_one, hgi, List.mem_append, List.take_of_length_le (l := mem) (by omega), hmem]
          constructor
          · rintro (h | h)
            · exact .inl h
            · exact .inr (by simp [(memL_lt h).2])
          · rintro (h | h)
            · exact .inl h
            · right
              simp at h
              rw [← h]; exact memL_in hx
        clear hwk
        simp only [go_sem, ↓reduceIte, ↓ex_map, rows, ints, Int.toNat_natCast, ↓run_addW]
        refine ⟨by omega, _, hLi, ?_⟩
        simp only [natI_len]
        refine ⟨fun h => absurd h (by omega), fun _ => ?_⟩
        refine WP.loop' (fun m' E H => ∃ k ex, k + m' = mem.length ∧ E = ⟨(0, rows false uses) :: (3, rows false L) :: (5, .hsl 0 0 0 uses.length 1) :: (6, .int .i64 i) :: (8, .int .i64 k) :: ex, .u⟩ ∧ H = [.cells 0 (cB uses.length dm)]) (n := mem.length)
          ⟨0, [], by omega, by simp [rows, ints], rfl⟩ ?_
        clear hdm hk hkl
        rintro m' E H ⟨k, ex, hk, rfl, rfl⟩
        have hwk := inc64 (i := k) (by omega)
        by_cases hkl : k < mem.length
        · obtain ⟨x, hx⟩ : ∃ x, mem[k]? = some x := ⟨_, List.getElem?_eq_getElem hkl⟩
          have hxm : x ∈ mem := List.mem_of_getElem? hx
          have hxx := memL_lt (by rw [hmem] at hxm; exact hxm)
          have hxI := natI_get' hx
          have hrow : uses[x]? = some uses[x] := List.getElem?_eq_getElem hxx.1
          have hbig := hr _ (List.getElem_mem hxx.1)
          simp only [go_sem, ↓reduceIte, ↓ex_map, rows, ints, Int.toNat_natCast, ↓run_addW, hwk]
          refine ⟨by omega, _, hLi, ?_⟩
          simp only [natI_len]
          refine ⟨fun _ => ⟨by omega, _, hLi, by omega, _, hxI, by omega, uses[x], by rw [Int.toNat_natCast]; exact hrow, ?_⟩, fun h => absurd h (by omega)⟩
          refine WP.loop' (fun m' E H => ∃ j ex, j + m' = uses[x].length ∧ E = ⟨(0, rows false uses) :: (3, rows false L) :: (5, .hsl 0 0 0 uses.length 1) :: (6, .int .i64 i) :: (8, .int .i64 k) :: (9, ints false uses[x]) :: (10, .int .i64 j) :: ex, .u⟩ ∧ H = [.cells 0 (cB uses.length dm)]) (n := uses[x].length)
            ⟨0, [], by omega, by simp [rows, ints], rfl⟩ ?_
          rintro m'' E H ⟨j, ex, hj, rfl, rfl⟩
          have hwj := inc64 (i := j) (by omega)
          by_cases hjl : j < uses[x].length
          · obtain ⟨t, ht1, ht2, ht3⟩ := nbU_at hok hrow hjl
            have hdt : dm t = true := by
              rw [hdm1 t ht3]
              rcases good_behind pt.good i g hgi x hxx.1 hxx.2 t (List.mem_of_getElem? ht2) with h | h
              · cases h
              · exact h
            have hgt := cB_get (f := dm) ht3
            rw [hdt] at hgt
            simp only [go_sem, ↓reduceIte, ↓ex_map, rows, ints, Int.toNat_natCast, ↓run_addW, hwj]
            refine ⟨fun _ => ⟨by omega, _, ht1, by omega, by omega, ?_⟩, fun h => absurd h (by omega)⟩
            rw [Int.toNat_natCast, Nat.mul_one, hgt]
            simp only [go_sem, ↓reduceIte, ↓ex_map, rows, ints, Int.toNat_natCast, ↓run_addW, hwj]
            exact ⟨m'' - 1, by omega, j + 1, _, by omega, rfl⟩
          · simp only [go_sem, ↓reduceIte, ↓ex_map, rows, ints, Int.toNat_natCast, ↓run_addW, hwk]
            exact ⟨fun h => absurd h (by omega), fun _ => ⟨m' - 1, by omega, k + 1, _, by omega, rfl⟩⟩
        · simp only [go_sem, ↓reduceIte, ↓ex_map, rows, ints, Int.toNat_natCast, ↓run_addW, hwi]
          refine ⟨by omega, _, hLi, ?_⟩
          simp only [natI_len]
          exact ⟨fun h => absurd h (by omega), fun _ => ⟨m - 1, by omega, i + 1, dm, _, by omega, hdm1, rfl, rfl⟩⟩
    · refine ⟨_, _, known_H _, ?_⟩
      simp only [go_sem, ↓reduceIte]
  · rw [groupsR_wrong hok]
    simp only [go_sem, ↓reduceIte, rows]
    refine ⟨fun _ => ⟨fun _ => ⟨_, _, known_T, ?_⟩, fun h => absurd h (by simp)⟩, fun h => absurd h (by simpa using hok)⟩
    simp only [go_sem, ↓reduceIte]
end Go.Proofs.Ytglemgdlkddjhaa.Vm
