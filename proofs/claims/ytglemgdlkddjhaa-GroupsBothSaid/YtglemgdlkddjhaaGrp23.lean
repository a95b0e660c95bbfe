/-
The groups, part 23: the law GroupsBoth.
-/
import Derived.Test.YtglemgdlkddjhaaGrp20
namespace Go.Proofs.Ytglemgdlkddjhaa.Vm
open Go

theorem any_next {l : List Int} {i : Nat} {x b : Int} (h : l[i]? = some x) : (l.take (i + 1)).any (· == b) = ((l.take i).any (· == b) || x == b) := by
  rw [List.take_add_one, h]; simp
theorem any_all {l : List Int} {i : Nat} {b : Int} (h : l.length ≤ i) : (l.take i).any (· == b) = l.any (· == b) := by rw [List.take_of_length_le h]
theorem any_outL {p : Nat → Bool} {n b : Nat} (hb : b < n) : (outL p n).any (· == (b : Int)) = p b := by
  rw [Bool.eq_iff_iff, List.any_eq_true]
  constructor
  · rintro ⟨x, hx, hxb⟩
    obtain ⟨i, rfl, _, h3⟩ := mem_outL hx
    have : i = b := by simp at hxb; omega
    rw [← this]; exact h3
  · intro h; exact ⟨_, in_outL hb h, by simp⟩
theorem any_natI {l : List Nat} {b : Nat} : (natI l).any (· == (b : Int)) = decide (b ∈ l) := by
  rw [Bool.eq_iff_iff, List.any_eq_true, decide_eq_true_eq]
  constructor
  · rintro ⟨x, hx, hxb⟩
    obtain ⟨i, h1, rfl⟩ := List.mem_map.1 hx
    have : i = b := by simp at hxb; omega
    rw [← this]; exact h1
  · intro h; exact ⟨_, List.mem_map.2 ⟨b, h, rfl⟩, by simp⟩

def bothR (a b : Nat) (r : List Int) : Bool := r.any (· == (a : Int)) && r.any (· == (b : Int))
theorem both_T (uses : List (List Int)) (hr : ∀ r ∈ uses, Big r.length) (a b : Int) : T Try.prog 6 [rows false uses, .int .i64 a, .int .i64 b] [] (.bool true) [] := by
  refine T.of0 mix c6 rfl ?_
  unfold v6
  simp only [go_sem, ↓reduceIte, rows]
  refine ⟨_, _, groups_T false uses hr, ?_⟩
  by_cases hok : wrongE uses = 0
  · obtain ⟨grp, gs, pt⟩ := parted uses hok hr
    have hn := len_ok hok
    obtain ⟨L, hL⟩ : ∃ L, L = (groupsR uses).1 := ⟨_, rfl⟩
    have hLe := pt.eq
    rw [pt.err, ← hL]
    rw [← hL] at hLe
    have hLl : L.length = gs.length := by rw [hLe, List.length_map]
    have hgl : gs.length ≤ 2048 := by
      have h1 := groupsF_len (uses := uses) uses.length (List.replicate uses.length false)
      have h2 : L = groupsF uses uses.length (List.replicate uses.length false) := by rw [hL]; unfold groupsR; rw [if_neg (by simpa using hok)]
      rw [← h2] at h1; omega
    by_cases hval : (0 ≤ a ∧ a < uses.length) ∧ (0 ≤ b ∧ b < uses.length)
    · obtain ⟨⟨ha0, han⟩, hb0, hbn⟩ := hval
      obtain ⟨a, rfl⟩ := Int.eq_ofNat_of_zero_le ha0
      obtain ⟨b, rfl⟩ := Int.eq_ofNat_of_zero_le hb0
      have han : a < uses.length := by omega
      have hbn : b < uses.length := by omega
      have hA0 : ((a : Nat) : Int) < 0 ↔ False := ⟨fun h => by omega, False.elim⟩
      have hB0 : ((b : Nat) : Int) < 0 ↔ False := ⟨fun h => by omega, False.elim⟩
      have hAn : ((a : Nat) : Int) ≥ ((uses.length : Nat) : Int) ↔ False := ⟨fun h => by omega, False.elim⟩
      have hBn : ((b : Nat) : Int) ≥ ((uses.length : Nat) : Int) ↔ False := ⟨fun h => by omega, False.elim⟩
      have hRa : reachR uses (a : Int) = (outL (reachB uses a) uses.length, 0) := by
        unfold reachR; rw [if_neg (by simpa using hok), if_pos ⟨by omega, by omega⟩, Int.toNat_natCast]; rfl
      have hRb : reachR uses (b : Int) = (outL (reachB uses b) uses.length, 0) := by
        unfold reachR; rw [if_neg (by simpa using hok), if_pos ⟨by omega, by omega⟩, Int.toNat_natCast]; rfl
      have hTa := reach_T false uses (a : Int) hr
      have hTb := reach_T false uses (b : Int) hr
      rw [hRa] at hTa
      rw [hRb] at hTb
      have hXl := outL_len (reachB uses a) uses.length
      have hYl := outL_len (reachB uses b) uses.length
      have hX := any_outL (p := reachB uses a) hbn
      have hY := any_outL (p := reachB uses b) han
      generalize outL (reachB uses a) uses.length = X at hTa hXl hX
      generalize outL (reachB uses b) uses.length = Y at hTb hYl hY
      have hself : (((a : Nat) : Int) == ((b : Nat) : Int) || (reachB uses a b && reachB uses b a)) = (grp a == grp b) := by
        rw [← sameB_grp hok pt.ok hbn han]
        unfold sameB
        congr 1
        rw [Bool.eq_iff_iff]; simp; omega
      have hz : ((0 : Int) != 0) = false := rfl
      simp only [go_sem, ↓reduceIte, rows, Int.toNat_natCast, hA0, hB0, hAn, hBn, decide_false, hz]
      refine ⟨_, _, hTa, ?_⟩
      simp only [go_sem, ↓reduceIte, rows, ints]
      refine ⟨_, _, hTb, ?_⟩
      simp only [go_sem, ↓reduceIte, rows, ints]
      refine WP.loop' (fun m E H => ∃ i ex, i + m = X.length ∧ H = [] ∧
          E = ⟨(1, .int .i64 a) :: (2, .int .i64 b) :: (7, rows false L) :: (9, ints false X) :: (10, .int .i64 0) :: (11, ints false Y) :: (12, .int .i64 0) :: (13, .bool ((X.take i).any (· == (b : Int)))) :: (14, .bool false) :: (15, .int .i64 i) :: ex, .u⟩) (n := X.length)
        ⟨0, [], by omega, rfl, by simp [rows, ints]⟩ ?_
      rintro m E H ⟨i, ex, hi, rfl, rfl⟩
      have hwi := inc64 (i := i) (by omega)
      by_cases hil : i < X.length
      · have hx := List.getElem?_eq_getElem hil
        have hnx := any_next (b := (b : Int)) hx
        simp only [go_sem, ↓reduceIte, ↓ex_map, rows, ints, Int.toNat_natCast, ↓run_addW, hwi]
        refine ⟨fun _ => ⟨fun h => ⟨by omega, _, hx, m - 1, by omega, i + 1, [], by omega, ?_⟩, fun h => ⟨m - 1, by omega, i + 1, [], by omega, ?_⟩⟩, fun h => absurd h (by omega)⟩
        · rw [hnx, h]; rfl
        · rw [hnx, show (X.take i).any (· == (b : Int)) = true by simpa using h]; rfl
      · simp only [go_sem, ↓reduceIte, ↓ex_map, rows, ints, Int.toNat_natCast]
        refine ⟨fun h => absurd h (by omega), fun _ => ?_⟩
        rw [any_all (by omega), hX]
        generalize reachB uses a b = to at hself
        refine WP.loop' (fun m E H => ∃ i ex, i + m = Y.length ∧ H = [] ∧
            E = ⟨(1, .int .i64 a) :: (2, .int .i64 b) :: (7, rows false L) :: (10, .int .i64 0) :: (11, ints false Y) :: (12, .int .i64 0) :: (13, .bool to) :: (14, .bool ((Y.take i).any (· == (a : Int)))) :: (16, .int .i64 i) :: ex, .u⟩) (n := Y.length)
          ⟨0, [], by omega, rfl, by simp [rows, ints]⟩ ?_
        clear hi hwi hil
        rintro m E H ⟨i, ex, hi, rfl, rfl⟩
        have hwi := inc64 (i := i) (by omega)
        by_cases hil : i < Y.length
        · have hx := List.getElem?_eq_getElem hil
          have hnx := any_next (b := (a : Int)) hx
          simp only [go_sem, ↓reduceIte, ↓ex_map, rows, ints, Int.toNat_natCast, ↓run_addW, hwi]
          refine ⟨fun _ => ⟨fun h => ⟨by omega, _, hx, m - 1, by omega, i + 1, [], by omega, ?_⟩, fun h => ⟨m - 1, by omega, i + 1, [], by omega, ?_⟩⟩, fun h => absurd h (by omega)⟩
          · rw [hnx, h]; rfl
          · rw [hnx, show (Y.take i).any (· == (a : Int)) = true by simpa using h]; rfl
        · simp only [go_sem, ↓reduceIte, ↓ex_map, rows, ints, Int.toNat_natCast]
          refine ⟨fun h => absurd h (by omega), fun _ => ?_⟩
          rw [any_all (by omega), hY]
          generalize reachB uses b a = back at hself
          refine WP.loop' (fun m E H => ∃ i ex, i + m = L.length ∧ H = [] ∧
              E = ⟨(1, .int .i64 a) :: (2, .int .i64 b) :: (7, rows false L) :: (10, .int .i64 0) :: (12, .int .i64 0) :: (13, .bool to) :: (14, .bool back) :: (17, .bool ((L.take i).any (bothR a b))) :: (18, .int .i64 i) :: ex, .u⟩) (n := L.length)
            ⟨0, [], by omega, rfl, by simp [rows, ints]⟩ ?_
          clear hi hwi hil
          rintro m E H ⟨i, ex, hi, rfl, rfl⟩
          have hwi := inc64 (i := i) (by omega)
          by_cases hil : i < L.length
          · obtain ⟨g, hgi⟩ : ∃ g, gs[i]? = some g := ⟨_, List.getElem?_eq_getElem (by omega)⟩
            obtain ⟨R, hR⟩ : ∃ R, L[i]? = some R := ⟨_, List.getElem?_eq_getElem hil⟩
            have hRl : R.length ≤ 2048 := by
              have h1 : R = natI (memL uses.length grp g) := by
                rw [hLe, List.getElem?_map, hgi] at hR; exact (Option.some.inj hR).symm
              rw [h1, natI_len]
              have := memL_len uses.length grp g
              omega
            have hnx : (L.take (i + 1)).any (bothR a b) = ((L.take i).any (bothR a b) || bothR a b R) := by rw [List.take_add_one, hR]; simp
            generalize (L.take i).any (bothR a b) = inn at hnx
            simp only [go_sem, ↓reduceIte, ↓ex_map, rows, ints, Int.toNat_natCast, ↓run_addW, hwi]
            refine ⟨fun _ => ?_, fun h => absurd h (by omega)⟩
            refine WP.loop' (fun m E H => ∃ k ex, k + m = R.length ∧ H = [] ∧
                E = ⟨(1, .int .i64 a) :: (2, .int .i64 b) :: (7, rows false L) :: (10, .int .i64 0) :: (12, .int .i64 0) :: (13, .bool to) :: (14, .bool back) :: (17, .bool inn) :: (18, .int .i64 i) ::
                  (19, .bool ((R.take k).any (· == (a : Int)))) :: (20, .bool ((R.take k).any (· == (b : Int)))) :: (21, .int .i64 k) :: ex, .u⟩) (n := R.length)
              ⟨0, [], by omega, rfl, by simp [rows, ints]⟩ ?_
            rintro m' E H ⟨k, ex, hk, rfl, rfl⟩
            have hwk := inc64 (i := k) (by omega)
            by_cases hkl : k < R.length
            · have hx := List.getElem?_eq_getElem hkl
              have hna := any_next (b := (a : Int)) hx
              have hnb := any_next (b := (b : Int)) hx
              generalize (R.take k).any (· == (a : Int)) = one at hna
              generalize (R.take k).any (· == (b : Int)) = two at hnb
              simp only [go_sem, ↓reduceIte, ↓ex_map, rows, ints, Int.toNat_natCast, ↓run_addW, hwk]
              refine ⟨by omega, _, hR, fun _ => ⟨fun h1 => ⟨by omega, _, hR, by omega, _, hx, fun h2 => ⟨by omega, _, hR, by omega, _, hx, m' - 1, by omega, k + 1, [], by omega, ?_⟩, fun h2 => ⟨m' - 1, by omega, k + 1, [], by omega, ?_⟩⟩,
                fun h1 => ⟨fun h2 => ⟨by omega, _, hR, by omega, _, hx, m' - 1, by omega, k + 1, [], by omega, ?_⟩, fun h2 => ⟨m' - 1, by omega, k + 1, [], by omega, ?_⟩⟩⟩, fun h => absurd h (by omega)⟩
              · rw [hna, hnb, h1, h2]; rfl
              · rw [hna, hnb, h1, show two = true by simpa using h2]; rfl
              · rw [hna, hnb, h2, show one = true by simpa using h1]; rfl
              · rw [hna, hnb, show one = true by simpa using h1, show two = true by simpa using h2]; rfl
            · have hnx' : (L.take (i + 1)).any (bothR a b) = (inn || (R.any (· == (a : Int)) && R.any (· == (b : Int)))) := hnx
              rw [any_all (by omega), any_all (by omega)]
              generalize R.any (· == (a : Int)) = one at hnx'
              generalize R.any (· == (b : Int)) = two at hnx'
              cases inn <;> cases one <;> cases two <;> simp only [go_sem, ↓reduceIte, ↓ex_map, rows, ints, Int.toNat_natCast, ↓run_addW, hwi] <;>
                exact ⟨by omega, _, hR, fun h => absurd h (by omega), fun _ => ⟨m - 1, by omega, i + 1, [], by omega, by rw [hnx']; rfl⟩⟩
          · rw [List.take_of_length_le (by omega)]
            have hin : L.any (bothR a b) = (((a : Nat) : Int) == ((b : Nat) : Int) || (to && back)) := by
              rw [hself, Bool.eq_iff_iff, beq_iff_eq, List.any_eq_true]
              constructor
              · rintro ⟨r, hr1, hr2⟩
                rw [hLe] at hr1
                obtain ⟨g, _, rfl⟩ := List.mem_map.1 hr1
                unfold bothR at hr2
                rw [any_natI, any_natI] at hr2
                simp only [Bool.and_eq_true, decide_eq_true_eq] at hr2
                rw [(memL_lt hr2.1).2, (memL_lt hr2.2).2]
              · intro he
                refine ⟨natI (memL uses.length grp (grp a)), by rw [hLe]; exact List.mem_map.2 ⟨grp a, parted_in pt han, rfl⟩, ?_⟩
                unfold bothR
                rw [any_natI, any_natI]
                simp only [Bool.and_eq_true, decide_eq_true_eq]
                exact ⟨memL_in han, by rw [he]; exact memL_in hbn⟩
            generalize L.any (bothR a b) = inn at hin
            have hzz : ((0 : Int) == 0) = true := rfl
            cases hab : (((a : Nat) : Int) == ((b : Nat) : Int)) <;> rw [hab] at hin <;> cases to <;> cases back <;> cases inn <;>
              first
              | (exfalso; revert hin; decide)
              | (simp only [go_sem, ↓reduceIte, ↓ex_map, rows, ints, Int.toNat_natCast, hab, hzz]
                 refine ⟨fun h => absurd h (by omega), fun _ => ?_⟩
                 refine ⟨fun _ => ⟨_, _, known_T, ?_⟩, fun h => absurd h (by decide)⟩
                 simp only [go_sem, ↓reduceIte])
    · have hz : ((0 : Int) != 0) = false := rfl
      by_cases hA0 : a < 0
      · have hA : a < 0 ↔ True := ⟨fun _ => True.intro, fun _ => hA0⟩
        simp only [go_sem, ↓reduceIte, rows, hz, hA, decide_true]
        refine ⟨_, _, known_T, ?_⟩
        simp only [go_sem, ↓reduceIte]
      have hA : a < 0 ↔ False := ⟨hA0, False.elim⟩
      by_cases hB0 : b < 0
      · have hB : b < 0 ↔ True := ⟨fun _ => True.intro, fun _ => hB0⟩
        simp only [go_sem, ↓reduceIte, rows, hz, hA, hB, decide_true, decide_false]
        refine ⟨_, _, known_T, ?_⟩
        simp only [go_sem, ↓reduceIte]
      have hB : b < 0 ↔ False := ⟨hB0, False.elim⟩
      by_cases hAn : a ≥ ((uses.length : Nat) : Int)
      · have hC : a ≥ ((uses.length : Nat) : Int) ↔ True := ⟨fun _ => True.intro, fun _ => hAn⟩
        simp only [go_sem, ↓reduceIte, rows, hz, hA, hB, hC, decide_true, decide_false]
        refine ⟨_, _, known_T, ?_⟩
        simp only [go_sem, ↓reduceIte]
      have hC : a ≥ ((uses.length : Nat) : Int) ↔ False := ⟨hAn, False.elim⟩
      have hD : b ≥ ((uses.length : Nat) : Int) ↔ True := ⟨fun _ => True.intro, fun _ => by omega⟩
      simp only [go_sem, ↓reduceIte, rows, hz, hA, hB, hC, hD, decide_true, decide_false]
      refine ⟨_, _, known_T, ?_⟩
      simp only [go_sem, ↓reduceIte]
  · rw [groupsR_wrong hok]
    have hz : (wrongE uses != 0) = true := by simpa using hok
    simp only [go_sem, ↓reduceIte, rows, hz]
    refine ⟨_, _, known_T, ?_⟩
    simp only [go_sem, ↓reduceIte]
end Go.Proofs.Ytglemgdlkddjhaa.Vm
