/-
The groups, part 21: the law GroupsOnce.
-/
import Derived.Test.YtglemgdlkddjhaaGrp20
namespace Go.Proofs.Ytglemgdlkddjhaa.Vm
open Go

theorem natI_get' {l : List Nat} {i x : Nat} (h : l[i]? = some x) : (natI l)[i]? = some ((x : Nat) : Int) := by
  unfold natI; rw [List.getElem?_map, h]; rfl
theorem cntB_none (n : Nat) : cntB n (fun _ => false) = n := by
  unfold cntB
  rw [List.filter_eq_self.2 (by simp)]; simp
theorem once_T (uses : List (List Int)) (hr : ∀ r ∈ uses, Big r.length) : T Try.prog 4 [rows false uses] [] (.bool true) [] := by
  refine T.of0 mix c4 rfl ?_
  unfold v4
  simp only [go_sem, ↓reduceIte, rows]
  refine ⟨_, _, groups_T false uses hr, ?_⟩
  by_cases hok : wrongE uses = 0
  · obtain ⟨grp, gs, pt⟩ := parted uses hok hr
    have hn := len_ok hok
    obtain ⟨L, hL⟩ : ∃ L, L = (groupsR uses).1 := ⟨_, rfl⟩
    have hLe := pt.eq
    rw [pt.err, ← hL]
    rw [← hL] at hLe
    have hLl : L.length = gs.length := by rw [hLe, List.length_map]
    have hgl : gs.length ≤ 2048 := by
      have h1 := groupsF_len (uses := uses) uses.length (List.replicate uses.length false)
      have h2 : L = groupsF uses uses.length (List.replicate uses.length false) := by rw [hL]; unfold groupsR; rw [if_neg (by simpa using hok)]
      rw [← h2] at h1; omega
    simp only [go_sem, ↓reduceIte, rows, Int.toNat_natCast, cB_zero]
    refine ⟨fun h => absurd h (by simp), fun _ => ⟨by omega, ?_⟩⟩
    refine WP.loop' (fun m E H => ∃ i cnt dm ex, i + m = gs.length ∧ (∀ x, x < uses.length → (dm x = true ↔ grp x ∈ gs.take i)) ∧ cnt + cntB uses.length dm = uses.length ∧
        E = ⟨(0, rows false uses) :: (3, rows false L) :: (5, .hsl 0 0 0 uses.length 1) :: (6, .int .i64 (cnt : Nat)) :: (7, .int .i64 i) :: ex, .u⟩ ∧ H = [.cells 0 (cB uses.length dm)]) (n := gs.length)
      ⟨0, 0, fun _ => false, [], by omega, fun x hx => ⟨fun h => (nomatch h), fun h => (nomatch h)⟩, by rw [cntB_none, Nat.zero_add], by simp [rows], rfl⟩ ?_
    rintro m E H ⟨i, cnt, dm, ex, hi, hdm, hcnt, rfl, rfl⟩
    have hwi := inc64 (i := i) (by omega)
    simp only [go_sem, ↓reduceIte, ↓ex_map, rows, ints, Int.toNat_natCast, ↓run_addW, hwi, hLl]
    refine ⟨fun hlt => ?_, fun hge => ?_⟩
    · have hig : i < gs.length := by omega
      obtain ⟨g, hgi⟩ : ∃ g, gs[i]? = some g := ⟨_, List.getElem?_eq_getElem hig⟩
      obtain ⟨mem, hmem⟩ : ∃ mem, mem = memL uses.length grp g := ⟨_, rfl⟩
      have hLi : L[i]? = some (natI mem) := by rw [hLe, List.getElem?_map, hgi, hmem]; rfl
      have hml : mem.length ≤ 2048 := by have := memL_len uses.length grp g; rw [hmem]; omega
      have hnd := good_nodup pt.good
      have hrise := memL_rise uses.length grp g
      rw [← hmem] at hrise
      refine WP.loop' (fun m' E H => ∃ k cnt dm ex, k + m' = mem.length ∧ (∀ x, x < uses.length → (dm x = true ↔ grp x ∈ gs.take i ∨ x ∈ mem.take k)) ∧ cnt + cntB uses.length dm = uses.length ∧
          E = ⟨(0, rows false uses) :: (3, rows false L) :: (5, .hsl 0 0 0 uses.length 1) :: (6, .int .i64 (cnt : Nat)) :: (7, .int .i64 i) :: (8, .int .i64 k) :: ex, .u⟩ ∧ H = [.cells 0 (cB uses.length dm)]) (n := mem.length)
        ⟨0, cnt, dm, [], by omega, fun x hx => by simp [hdm x hx], hcnt, by simp [rows, ints], rfl⟩ ?_
      clear hdm hcnt
      rintro m' E H ⟨k, cnt, dm, ex, hk, hdm, hcnt, rfl, rfl⟩
      have hwk := inc64 (i := k) (by omega)
      have hwc := inc64 (i := cnt) (by omega)
      by_cases hkl : k < mem.length
      · obtain ⟨x, hx⟩ : ∃ x, mem[k]? = some x := ⟨_, List.getElem?_eq_getElem hkl⟩
        have hxm : x ∈ mem := List.mem_of_getElem? hx
        have hxx := memL_lt (by rw [hmem] at hxm; exact hxm)
        have hxI := natI_get' hx
        have hA : ((x : Nat) : Int) < 0 ↔ False := ⟨fun h => by omega, False.elim⟩
        have hB : ((x : Nat) : Int) ≥ ((uses.length : Nat) : Int) ↔ False := ⟨fun h => by have := hxx.1; omega, False.elim⟩
        have hdx : dm x = false := by
          cases hd : dm x with
          | false => rfl
          | true =>
            exfalso
            rcases (hdm x hxx.1).1 hd with h | h
            · rw [hxx.2] at h
              obtain ⟨j, hj⟩ := List.mem_iff_getElem?.1 h
              rw [List.getElem?_take] at hj
              split at hj
              · have := (List.getElem?_inj (by omega) hnd).1 (hj.trans hgi.symm)
                omega
              · cases hj
            · obtain ⟨j, hj⟩ := List.mem_iff_getElem?.1 h
              rw [List.getElem?_take] at hj
              split at hj
              · have := (List.getElem?_inj (by omega) (hrise.imp (fun h => Nat.ne_of_lt h))).1 (hj.trans hx.symm)
                omega
              · cases hj
        have hgx := cB_get (f := dm) hxx.1
        rw [hdx] at hgx
        have hup : ∀ y, y < uses.length → (updN dm x true y = true ↔ grp y ∈ gs.take i ∨ y ∈ mem.take (k + 1)) := by
          intro y hy
          rw [List.take_add_one, hx, List.mem_append]
          by_cases hyx : y = x
          · subst hyx; simp [updN_same]
          · rw [updN_other _ _ hyx, hdm y hy]; simp [hyx]
        have hupc : cnt + 1 + cntB uses.length (updN dm x true) = uses.length := by have := cntB_upd hxx.1 hdx; omega
        have hcn : cnt ≤ 2048 := by omega
        simp only [go_sem, ↓reduceIte, ↓ex_map, rows, ints, Int.toNat_natCast, ↓run_addW, hwk, hwc]
        refine ⟨by omega, _, hLi, ?_⟩
        simp only [natI_len]
        refine ⟨fun _ => ⟨by omega, _, hLi, by omega, _, hxI, ?_⟩, fun h => absurd h (by omega)⟩
        have htn : (((x : Nat) : Int)).toNat * 1 = x := by rw [Int.toNat_natCast, Nat.mul_one]
        rcases k with _ | k
        · have hk0 : (((0 : Nat) : Int) > 0) ↔ False := ⟨fun h => by omega, False.elim⟩
          simp only [go_sem, ↓reduceIte, ↓ex_map, hA, hB, decide_false, htn, hgx, hk0, cB_len, cB_set]
          exact ⟨by omega, by omega, by omega, by omega, hxx.1, _, rfl, _, rfl, m' - 1, by omega, 1, cnt + 1, updN dm x true, [], by omega, hup, hupc, by rw [hwc]; rfl, rfl⟩
        · obtain ⟨y, hy⟩ : ∃ y, mem[k]? = some y := ⟨_, List.getElem?_eq_getElem (by omega)⟩
          have hyI := natI_get' hy
          have hyx : y < x := by
            have h1 := (List.getElem?_eq_some_iff.1 hy).2
            have h2 := (List.getElem?_eq_some_iff.1 hx).2
            rw [← h1, ← h2]
            exact List.pairwise_iff_getElem.1 hrise k (k + 1) (by omega) (by omega) (by omega)
          have hk0 : (((k + 1 : Nat) : Int) > 0) ↔ True := ⟨fun _ => True.intro, fun _ => by omega⟩
          have hw1 : IntKind.i64.wrap (((k + 1 : Nat) : Int) - 1) = ((k : Nat) : Int) := by rw [wrap64 (by omega) (by omega)]; omega
          simp only [go_sem, ↓reduceIte, ↓ex_map, hA, hB, decide_false, decide_true, htn, hgx, hk0, cB_len, cB_set, ↓run_subW, hw1, Int.toNat_natCast, Nat.mul_one, rows, ints]
          exact ⟨by omega, by omega, by omega, _, hLi, by omega, _, hyI, fun h => absurd h (by omega), fun _ => ⟨by omega, by omega, hxx.1, _, rfl, _, rfl, m' - 1, by omega, k + 1 + 1, cnt + 1, updN dm x true, [], by omega, hup, hupc, by rw [hwc, hwk], rfl⟩⟩
      · simp only [go_sem, ↓reduceIte, ↓ex_map, rows, ints, Int.toNat_natCast, ↓run_addW, hwi]
        refine ⟨by omega, _, hLi, ?_⟩
        simp only [natI_len]
        refine ⟨fun h => absurd h (by omega), fun _ => ⟨m - 1, by omega, i + 1, cnt, dm, [], by omega, fun x hx => ?_, hcnt, rfl, rfl⟩⟩
        rw [hdm x hx, List.take_add_one, hgi, List.mem_append, List.take_of_length_le (l := mem) (by omega), hmem]
        constructor
        · rintro (h | h)
          · exact .inl h
          · exact .inr (by simp [(memL_lt h).2])
        · rintro (h | h)
          · exact .inl h
          · right
            simp at h
            rw [← h]; exact memL_in hx
    · have hc0 : cntB uses.length dm = 0 := by
        unfold cntB
        rw [List.length_eq_zero_iff, List.filter_eq_nil_iff]
        intro x hx
        have hxn : x < uses.length := by simpa using hx
        rw [(hdm x hxn).2 (by rw [List.take_of_length_le (by omega)]; exact parted_in pt hxn)]
        simp
      have hcn : cnt = uses.length := by omega
      subst hcn
      have hbe : (((uses.length : Nat) : Int) == ((uses.length : Nat) : Int)) = true := by simp
      refine ⟨fun _ => ⟨_, _, known_H _, ?_⟩, fun h => absurd h (by rw [hbe]; simp)⟩
      simp only [go_sem, ↓reduceIte]
  · rw [groupsR_wrong hok]
    simp only [go_sem, ↓reduceIte, rows]
    refine ⟨fun _ => ⟨fun _ => ⟨_, _, wrong_T false uses [] hr, ?_⟩, fun h => absurd h (by simp)⟩, fun h => absurd h (by simpa using hok)⟩
    have hbe : (wrongE uses == wrongE uses) = true := by simp
    simp only [go_sem, ↓reduceIte, hbe]
    refine ⟨_, _, known_T, ?_⟩
    simp only [go_sem, ↓reduceIte]
end Go.Proofs.Ytglemgdlkddjhaa.Vm
