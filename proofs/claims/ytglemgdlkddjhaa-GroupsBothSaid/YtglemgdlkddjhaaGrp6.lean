/-
The groups, part 6: the reference's Reach.
-/
import Derived.Test.YtglemgdlkddjhaaGrp5
namespace Go.Proofs.Ytglemgdlkddjhaa.Vm
open Go

@[go_sem] theorem run_build0 {P : Program} {K : KK} {s : List Fr} {E : En} {H : Heap} {tk : List Nat} {dst : Option Nat} {os : List VOp} {keep : List Nat} {z : Nat} :
    runAct P (.buildSl z) [] tk dst os keep s E H K = nextV P (.sl true z []) tk dst os keep s E H K := by
  show (∃ r H', sBuildSl z [] H = some (r, H') ∧ _) = _
  apply propext
  constructor
  · rintro ⟨r, H', h, k⟩; cases h; exact k
  · intro k; exact ⟨_, _, rfl, k⟩
def outL (p : Nat → Bool) (i : Nat) : List Int := ((List.range i).filter p).map fun (k : Nat) => (k : Int)
theorem outL_yes {p : Nat → Bool} {i : Nat} (h : p i = true) : outL p (i + 1) = outL p i ++ [(i : Int)] := by
  unfold outL
  rw [List.range_succ, List.filter_append, List.map_append]
  simp [h]
theorem outL_no {p : Nat → Bool} {i : Nat} (h : p i = false) : outL p (i + 1) = outL p i := by
  unfold outL
  rw [List.range_succ, List.filter_append, List.map_append]
  simp [h]
theorem outL_len (p : Nat → Bool) (i : Nat) : (outL p i).length ≤ i := by
  unfold outL
  rw [List.length_map]
  have := List.length_filter_le p (List.range i)
  rwa [List.length_range] at this

theorem refReach_T (o : Bool) (uses : List (List Int)) (f : Int) (hr : ∀ r ∈ uses, Big r.length) : T Try.prog 13 [rows o uses, .int .i64 f] [] (.tup [ints true (reachR uses f).1, .int .i64 (reachR uses f).2]) [] := by
  refine T.of0 mix c13 rfl ?_
  unfold v13
  simp only [go_sem, ↓reduceIte, rows]
  refine ⟨_, _, wrong_T _ _ _ hr, ?_⟩
  by_cases hok : wrongE uses = 0
  · have hn := len_ok hok
    simp only [go_sem, ↓reduceIte, ↓ex_map, rows, hok, BEq.rfl, bne_self_eq_false]
    refine ⟨fun hpos => ⟨fun hge => ⟨fun _ => ?_, fun h => absurd h (by decide)⟩, fun hlt => ⟨_, _, needs_T false uses hok hr, ?_⟩⟩, fun hneg => ⟨fun _ => ?_, fun h => absurd h (by decide)⟩⟩
    · unfold reachR; rw [if_neg (by simpa using hok), if_neg (by omega)]; rfl
    · obtain ⟨k, rfl⟩ := Int.eq_ofNat_of_zero_le (show 0 ≤ f by omega)
      have hk : k < uses.length := by omega
      have hrow : (needM uses)[k]? = some ((List.range uses.length).map (reachB uses k)) := by
        unfold needM; rw [List.getElem?_map, List.getElem?_range hk]; rfl
      refine WP.loop' (fun m E H => ∃ i ex, i + m = uses.length ∧ H = [] ∧
        E = ⟨(0, rows o uses) :: (1, .int .i64 k) :: (7, matR (needM uses)) :: (8, ints true (outL (reachB uses k) i)) :: (9, .int .i64 i) :: ex, .u⟩) (n := uses.length) ⟨0, [], by omega, rfl, by simp [rows, ints, outL]⟩ ?_
      rintro m E H ⟨i, ex, hi, rfl, rfl⟩
      simp only [go_sem, ↓reduceIte, ↓ex_map, rows, ints, matR, boolsR, Int.toNat_natCast]
      refine ⟨fun hlt => ?_, fun hge => ?_⟩
      · have h1 : i < uses.length := by omega
        refine ⟨by omega, _, hrow, by omega, reachB uses k i, by rw [List.getElem?_map, List.getElem?_range h1]; rfl, fun hb => ?_, fun hb => ?_⟩
        · have := outL_len (reachB uses k) i
          refine ⟨⟨by omega, by omega⟩, _, rfl, m - 1, by omega, i + 1, [], by omega, ?_⟩
          rw [inc64 (by omega), outL_yes hb, List.map_append]; rfl
        · refine ⟨_, rfl, m - 1, by omega, i + 1, [], by omega, ?_⟩
          rw [inc64 (by omega), outL_no (by simpa using hb)]
      · have : i = uses.length := by omega
        subst this
        unfold reachR
        rw [if_neg (by simpa using hok), if_pos (by omega)]; rfl
    · unfold reachR; rw [if_neg (by simpa using hok), if_neg (by omega)]; rfl
  · have h0 : (wrongE uses == 0) = false := by simpa using hok
    have h1 : (wrongE uses != 0) = true := by simpa using hok
    simp only [go_sem, ↓reduceIte, ↓ex_map, rows, h0, h1]
    unfold reachR
    rw [if_pos hok]; rfl
end Go.Proofs.Ytglemgdlkddjhaa.Vm
