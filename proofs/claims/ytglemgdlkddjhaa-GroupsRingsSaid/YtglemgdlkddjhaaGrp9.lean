/-
The groups, part 9: the walk of the reference's Groups.
-/
import Derived.Test.YtglemgdlkddjhaaGrp8
namespace Go.Proofs.Ytglemgdlkddjhaa.Vm
open Go

@[go_sem] theorem run_build1s {P : Program} {K : KK} {s : List Fr} {E : En} {H : Heap} {tk : List Nat} {dst : Option Nat} {os : List VOp} {keep : List Nat} {z : Nat} {o : Bool} {xs : List (List V)} :
    runAct P (.buildSl 1) [.sl o z xs] tk dst os keep s E H K = nextV P (.sl true 1 [[.sl false z xs]]) tk dst os keep s E H K := by
  show (∃ r H', sBuildSl 1 [.sl o z xs] H = some (r, H') ∧ _) = _
  have : sBuildSl 1 [.sl o z xs] H = some (.sl true 1 [[.sl false z xs]], H) := by simp [sBuildSl, elems, solid, scal0, V.cells, inl, plain0, strip0]
  rw [this]
  apply propext
  constructor
  · rintro ⟨r, H', h, k⟩; cases h; exact k
  · intro k; exact ⟨_, _, rfl, k⟩
/-- The first things of a group are marked. -/
def markT (g : List Int) (i : Nat) (done : List Bool) : List Bool := done.mapIdx fun x b => b || (g.take i).contains (x : Int)
theorem markT_len {g : List Int} {i : Nat} {done : List Bool} : (markT g i done).length = done.length := by simp [markT]
theorem markT_zero {g : List Int} {done : List Bool} : markT g 0 done = done := by
  apply List.ext_getElem?
  intro x
  simp [markT, List.getElem?_mapIdx]
theorem markT_succ {g : List Int} {i v : Nat} {done : List Bool} (h : g[i]? = some (v : Int)) : (markT g i done).set v true = markT g (i + 1) done := by
  apply List.ext_getElem?
  intro x
  rw [List.getElem?_set]
  simp only [markT, List.getElem?_mapIdx, List.length_mapIdx, List.take_add_one, h, Option.toList_some, List.contains_append]
  by_cases hv : v = x
  · subst hv
    rw [if_pos rfl]
    by_cases hl : v < done.length
    · rw [if_pos hl, List.getElem?_eq_getElem hl]; simp
    · rw [if_neg hl, List.getElem?_eq_none (by omega)]; rfl
  · rw [if_neg hv]
    have : [(v : Int)].contains (x : Int) = false := by simp; omega
    rw [this]; simp
theorem markT_all {uses : List (List Int)} {k : Nat} {done : List Bool} (hl : done.length = uses.length) : markT (groupL uses k) (groupL uses k).length done = markL uses k done := by
  apply List.ext_getElem?
  intro x
  simp only [markT, markL, List.getElem?_mapIdx, List.take_length]
  by_cases hx : x < done.length
  · rw [List.getElem?_eq_getElem hx]
    simp only [Option.map_some]
    congr 2
    rw [Bool.eq_iff_iff, List.contains_iff_mem]
    constructor
    · intro h
      obtain ⟨i, h1, _, h3⟩ := mem_outL h
      have : x = i := by omega
      rw [this]; exact h3
    · intro h; exact in_outL (by omega) h
  · rw [List.getElem?_eq_none (by omega)]; rfl
@[go_sem] theorem strip_mat (M : List (List Bool)) : strip (matR M) = matR M := rfl
noncomputable def groupsR (uses : List (List Int)) : List (List Int) × Int :=
  if wrongE uses ≠ 0 then ([], wrongE uses) else (groupsF uses uses.length (List.replicate uses.length false), 0)

theorem refGroups_T (o : Bool) (uses : List (List Int)) (hr : ∀ r ∈ uses, Big r.length) : T Try.prog 11 [rows o uses] [] (.tup [rows true (groupsR uses).1, .int .i64 (groupsR uses).2]) [] := by
  refine T.of0 mix c11 rfl ?_
  unfold v11
  simp only [go_sem, ↓reduceIte, rows]
  refine ⟨_, _, wrong_T _ _ _ hr, ?_⟩
  by_cases hok : wrongE uses = 0
  · have hn := len_ok hok
    simp only [go_sem, ↓reduceIte, ↓ex_map, rows, hok, bne_self_eq_false]
    refine ⟨_, _, needs_T false uses hok hr, ?_⟩
    simp only [go_sem, ↓reduceIte, ↓ex_map, rows, zeros_b]
    refine ⟨by omega, ?_⟩
    refine WP.loop' (fun m E H => ∃ k done out ex, done.count false * (uses.length + 1) + (uses.length - k) = m ∧ k ≤ uses.length ∧ done.length = uses.length ∧ out ++ groupsF uses uses.length done = groupsF uses uses.length (List.replicate uses.length false) ∧
      (∀ j, j < k → (!(done.getD j false) && readyB uses (headN uses j) done) = false) ∧ out.length + done.count false ≤ uses.length ∧
      E = ⟨(0, rows o uses) :: (5, matR (needM uses)) :: (6, .hsl 0 0 0 uses.length 1) :: (7, rows true out) :: (8, .int .i64 k) :: ex, .u⟩ ∧ H = [.cells 0 (bvals done)])
      ⟨0, List.replicate uses.length false, [], [], rfl, Nat.zero_le _, List.length_replicate, rfl, fun j hj => absurd hj (by omega), by rw [List.count_replicate_self]; simp, by simp [rows], rfl⟩ ?_
    rintro m E H ⟨k, done, out, ex, hm, hk, hl, hout, hno, hcnt, rfl, rfl⟩
    simp only [go_sem, ↓reduceIte, ↓ex_map, rows, Int.toNat_natCast]
    refine ⟨fun hlt => ?_, fun hge => ?_⟩
    · have h1 : k < uses.length := by omega
      have hb : (bvals done)[k * 1]? = some (.bool (done[k]'(by omega))) := by rw [Nat.mul_one]; unfold bvals; rw [List.getElem?_map, List.getElem?_eq_getElem (by omega)]; rfl
      have hg : done.getD k false = done[k]'(by omega) := by rw [List.getD_eq_getElem?_getD, List.getElem?_eq_getElem (by omega)]; rfl
      obtain ⟨l, hgl, hhd⟩ := groupL_head h1
      refine ⟨_, _, group_T uses k _ hn h1, by omega, by omega, ?_⟩
      rw [hgl]
      cases hdk : done[k]'(by omega) with
      | true =>
        simp only [go_sem, ↓reduceIte, ↓ex_map, rows, Int.toNat_natCast, hb, hdk, ints]
        refine ⟨_, rfl, m - 1, by omega, k + 1, done, out, [], by omega, by omega, hl, hout, fun j hj => ?_, hcnt, by rw [inc64 (by omega)], rfl⟩
        rcases Nat.lt_or_ge j k with h' | h'
        · exact hno j h'
        · rw [show j = k by omega, hg, hdk]; rfl
      | false =>
        simp only [go_sem, ↓reduceIte, ↓ex_map, rows, Int.toNat_natCast, hb, hdk, ints]
        refine ⟨_, _, refReady_T uses false (headN uses k) l done 0 [.cells 0 (bvals done)] hn hhd hl rfl, ?_⟩
        cases hrd : readyB uses (headN uses k) done with
        | false =>
          simp only [go_sem, ↓reduceIte, ↓ex_map, rows, Int.toNat_natCast, hb, hdk, ints]
          refine ⟨_, rfl, m - 1, by omega, k + 1, done, out, [], by omega, by omega, hl, hout, fun j hj => ?_, hcnt, by rw [inc64 (by omega)], rfl⟩
          rcases Nat.lt_or_ge j k with h' | h'
          · exact hno j h'
          · rw [show j = k by omega, hrd, Bool.and_false]
        | true =>
          simp only [go_sem, ↓reduceIte, ↓ex_map, rows, Int.toNat_natCast, hb, hdk, ints]
          have hkf : done[k]? = some false := by rw [List.getElem?_eq_getElem (by omega), hdk]
          have hglen := outL_len (sameB uses k) uses.length
          refine WP.loop' (fun m' E H => ∃ i ex, i + m' = (groupL uses k).length ∧
            E = ⟨(0, rows o uses) :: (5, matR (needM uses)) :: (6, .hsl 0 0 0 uses.length 1) :: (7, rows true out) :: (9, ints true (groupL uses k)) :: (10, .int .i64 i) :: ex, .u⟩ ∧ H = [.cells 0 (bvals (markT (groupL uses k) i done))]) (n := (groupL uses k).length)
            ⟨0, [], by omega, by simp [rows, ints, hgl], by rw [markT_zero]⟩ ?_
          rintro m' E H ⟨i, ex, hi, rfl, rfl⟩
          simp only [go_sem, ↓reduceIte, ↓ex_map, rows, ints, Int.toNat_natCast]
          refine ⟨fun hlt => ?_, fun hge => ?_⟩
          · have h2 : i < (groupL uses k).length := by omega
            obtain ⟨v, hv, hvn, _⟩ := mem_outL (List.getElem_mem h2)
            have hgi : (groupL uses k)[i]? = some (v : Int) := by rw [List.getElem?_eq_getElem h2]; exact congrArg some hv
            refine ⟨by omega, (v : Int), hgi, by omega, by omega, by rw [bvals_len, markT_len]; omega, _, rfl, m' - 1, by omega, i + 1, [], by omega, by rw [inc64 (by unfold groupL at h2; omega)], ?_⟩
            rw [Int.toNat_natCast, Nat.mul_one, set_bvals, markT_succ hgi]
          · have hil : i = (groupL uses k).length := by omega
            subst hil
            have hcf := markL_lt (uses := uses) hkf
            have hpick : pickG uses done = some k := by
              unfold pickG
              rw [List.find?_eq_some_iff_getElem]
              refine ⟨by rw [hg, hdk, hrd]; rfl, k, by simpa using h1, by simp, fun j hj => ?_⟩
              rw [List.getElem_range, hno j hj]; rfl
            have hstep : groupsF uses uses.length done = groupL uses k :: groupsF uses uses.length (markL uses k done) := by
              rw [groupsF_fuel uses.length (uses.length + 1) done hl (by omega) (by omega)]
              rw [groupsF, hpick]
            refine ⟨⟨by omega, by omega⟩, (markL uses k done).count false * (uses.length + 1) + (uses.length - 0), ?_, 0, markL uses k done, out ++ [groupL uses k], [], rfl, Nat.zero_le _, by rw [markL_len]; exact hl, ?_, fun j hj => absurd hj (by omega), ?_, ?_, ?_⟩
            · have : ((markL uses k done).count false + 1) * (uses.length + 1) ≤ done.count false * (uses.length + 1) := Nat.mul_le_mul_right _ hcf
              rw [Nat.add_mul] at this
              omega
            · rw [List.append_assoc, ← hout, hstep]; rfl
            · rw [List.length_append, List.length_singleton]; omega
            · rw [List.map_append]; rfl
            · rw [markT_all hl]
    · have hkn : k = uses.length := by omega
      have hnone : pickG uses done = none := by
        unfold pickG
        rw [List.find?_eq_none]
        intro j hj
        rw [hno j (by have := List.mem_range.1 hj; omega)]; simp
      have : groupsF uses uses.length done = [] := by
        cases hu : uses.length with
        | zero => rfl
        | succ f => rw [groupsF, hnone]
      unfold groupsR
      rw [if_neg (by simpa using hok), ← hout, this, List.append_nil]
  · have h1 : (wrongE uses != 0) = true := by simpa using hok
    simp only [go_sem, ↓reduceIte, ↓ex_map, rows, h1]
    unfold groupsR
    rw [if_pos hok]; rfl
end Go.Proofs.Ytglemgdlkddjhaa.Vm
