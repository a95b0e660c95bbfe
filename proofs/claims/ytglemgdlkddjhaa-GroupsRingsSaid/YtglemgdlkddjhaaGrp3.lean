/-
The groups, part 3: the walk of Reach.
-/
import Derived.Test.YtglemgdlkddjhaaGrp2
namespace Go.Proofs.Ytglemgdlkddjhaa.Vm
open Go
def ivals (l : List Int) : List V := l.map fun n => V.int .i64 n
def bvals (l : List Bool) : List V := l.map fun b => V.bool b
theorem set_bvals (l : List Bool) (i : Nat) (b : Bool) : (bvals l).set i (.bool b) = bvals (l.set i b) := by simp [bvals, List.map_set]
theorem set_ivals (l : List Int) (i : Nat) (n : Int) : (ivals l).set i (.int .i64 n) = ivals (l.set i n) := by simp [ivals, List.map_set]
theorem bvals_len (l : List Bool) : (bvals l).length = l.length := by simp [bvals]
theorem ivals_len (l : List Int) : (ivals l).length = l.length := by simp [ivals]
theorem zeros_b (n : Nat) : (List.replicate n [V.bool false]).flatten = bvals (List.replicate n false) := by
  induction n with
  | zero => rfl
  | succ n ih => rw [List.replicate_succ, List.flatten_cons, ih, List.replicate_succ]; rfl
theorem drop_last {op : List Int} (h : 0 < op.length) : ∃ op' x, op = op' ++ [x] := ⟨op.dropLast, op.getLast (by intro e; simp [e] at h), (List.dropLast_concat_getLast _).symm⟩

def metL (met : List Bool) (i : Nat) : List Int := ((List.range i).filter fun k => met[k]? == some true).map fun (k : Nat) => (k : Int)
theorem metL_yes {met : List Bool} {i : Nat} (h : met[i]? = some true) : metL met (i + 1) = metL met i ++ [(i : Int)] := by
  unfold metL
  rw [List.range_succ, List.filter_append, List.map_append]
  simp [h]
theorem metL_no {met : List Bool} {i : Nat} (h : met[i]? ≠ some true) : metL met (i + 1) = metL met i := by
  unfold metL
  rw [List.range_succ, List.filter_append, List.map_append]
  simp [h]
theorem metL_len (met : List Bool) (i : Nat) : (metL met i).length ≤ i := by
  unfold metL
  rw [List.length_map]
  have := List.length_filter_le (fun k => met[k]? == some true) (List.range i)
  rwa [List.length_range] at this

theorem reach_T (o : Bool) (uses : List (List Int)) (f : Int) (hr : ∀ r ∈ uses, Big r.length) : T Try.prog 12 [rows o uses, .int .i64 f] [] (.tup [ints true (reachR uses f).1, .int .i64 (reachR uses f).2]) [] := by
  refine T.of0 mix c12 rfl ?_
  unfold v12
  simp only [go_sem, ↓reduceIte, rows]
  refine ⟨_, _, right_T _ _ _ hr, ?_⟩
  simp only [go_sem, ↓reduceIte, rows, zeros_b, bne_iff_ne, List.length_singleton]
  refine ⟨fun hw => ?_, fun hw => ?_⟩
  · unfold reachR; rw [if_pos (by simpa using hw)]; rfl
  have hok : wrongE uses = 0 := by simpa using hw
  have hn := len_ok hok
  refine ⟨fun hpos => ⟨fun hge => ?_, fun hlt => ⟨by omega, ?_⟩⟩, fun hneg => ?_⟩
  · unfold reachR; rw [if_neg (by simpa using hw), if_neg (by omega)]; rfl
  · obtain ⟨k, rfl⟩ := Int.eq_ofNat_of_zero_le (show 0 ≤ f by omega)
    have hk : k < uses.length := by omega
    refine WP.loop' (fun n E H => ∃ met op rest ver ex, InvR uses k met op none ∧ 2 * met.count false + op.length ≤ n ∧ n ≤ 4097 ∧
      E = ⟨(0, rows o uses) :: (7, .hsl 0 0 0 uses.length 1) :: (8, .hsl 1 ver 0 op.length 1) :: ex, .u⟩ ∧ H = [.cells 0 (bvals met), .cells ver (ivals (op ++ rest))])
      ⟨List.replicate uses.length false, [(k : Int)], [], 0, [], .start hk, Nat.le_refl _, ?_, by simp [rows], by simp [ivals]⟩ ?_
    · rw [List.count_replicate_self]; simp; omega
    rintro n E H ⟨met, op, rest, ver, ex, inv, hn, hn2, rfl, rfl⟩
    simp only [go_sem, ↓reduceIte, ↓ex_map, rows, ints]
    refine ⟨fun hgt => ?_, fun hle => ?_⟩
    · obtain ⟨op, x, rfl⟩ := drop_last (show 0 < op.length by omega)
      obtain ⟨w, rfl, hwn, hwm⟩ := inv.opn x (List.mem_append_right _ (List.mem_singleton.2 rfl))
      have hopl : op.length + 1 ≤ n := by simp at hn; omega
      simp only [List.length_append, List.length_singleton]
      have hidx : (ivals (op ++ [(w : Int)] ++ rest))[((op.length : Int)).toNat * 1]? = some (.int .i64 w) := by
        simp [ivals]
      refine ⟨(op.length : Int), by rw [wrap64 (by omega) (by omega)]; omega, by omega, by omega, ?_⟩
      rw [hidx]
      simp only [go_sem, ↓reduceIte, ↓ex_map, rows, ints, List.drop_zero, Int.toNat_natCast]
      refine ⟨(op.length : Int), by rw [wrap64 (by omega) (by omega)]; omega, ⟨by omega, by omega⟩, by omega, uses[w], List.getElem?_eq_getElem hwn, ?_⟩
      have hrow : uses[w]? = some uses[w] := List.getElem?_eq_getElem hwn
      have inv' := inv.pop
      have hbig := hr _ (List.getElem_mem hwn)
      refine WP.loop' (fun m E H => ∃ met op rest ver i, i + m = uses[w].length ∧ InvR uses k met op (some w) ∧ (w = k ∨ met[w]? = some true) ∧ (∀ j, j < i → ∀ v : Nat, uses[w][j]? = some (v : Int) → met[v]? = some true) ∧
        2 * met.count false + op.length + 1 ≤ n ∧
        E = ⟨[(0, rows o uses), (7, .hsl 0 0 0 uses.length 1), (8, .hsl 1 ver 0 op.length 1), (50, ints false uses[w]), (51, .int .i64 uses[w].length), (52, .int .i64 i)], .u⟩ ∧ H = [.cells 0 (bvals met), .cells ver (ivals (op ++ rest))]) (n := uses[w].length)
        ⟨met, op, [(w : Int)] ++ rest, ver, 0, by omega, inv', hwm, fun j hj => absurd hj (by omega), by simp at hn; omega, by simp [rows, ints], by simp⟩ ?_
      clear inv inv' hidx hgt hn hwm hopl
      rintro m E H ⟨met, op, rest, ver, i, hi, inv, hwm, hall, hn, rfl, rfl⟩
      simp only [go_sem, ↓reduceIte, ↓ex_map, rows, ints, Int.toNat_natCast]
      refine ⟨fun hlt => ?_, fun hge => ?_⟩
      · have h1 : i < uses[w].length := by omega
        obtain ⟨v, hv, hvn⟩ := row_ok hok hrow (List.getElem_mem h1)
        refine ⟨by omega, uses[w][i], List.getElem?_eq_getElem h1, by rw [hv]; omega, by rw [hv]; omega, ?_⟩
        have hml : v < met.length := by rw [inv.len]; exact hvn
        have hb : (bvals met)[(uses[w][i]).toNat * 1]? = some (.bool met[v]) := by
          rw [hv]; simp [bvals, hml]
        rw [hb]
        simp only [go_sem, ↓reduceIte, ↓ex_map, rows, ints, Int.toNat_natCast, hv, set_bvals]
        refine ⟨fun hm => ?_, fun hm => ?_⟩
        · have hm : met[v] = false := by simpa using hm
          have hmv : met[v]? = some false := by rw [List.getElem?_eq_getElem hml, hm]
          have hcf := cf_set hmv
          have e : Edge uses w v := ⟨_, hrow, by rw [← hv]; exact List.getElem_mem h1⟩
          refine ⟨by omega, by omega, by rw [bvals_len]; omega, ⟨by omega, by omega⟩, by rw [ivals_len, List.length_append]; omega, _, rfl, m - 1, by omega, met.set v true, op ++ [(v : Int)], [], ver + 1, i + 1, by omega, inv.push hwm e hvn hmv, ?_, ?_, ?_, ?_, ?_⟩
          · refine hwm.imp id fun h => ?_
            rw [List.getElem?_set]
            by_cases hvw : v = w
            · rw [if_pos hvw, if_pos hml]
            · rw [if_neg hvw]; exact h
          · intro j hj u hu
            rw [List.getElem?_set]
            by_cases huv : v = u
            · subst huv; rw [if_pos rfl, if_pos hml]
            · rw [if_neg huv]
              rcases Nat.lt_or_ge j i with h' | h'
              · exact hall j h' u hu
              · have : j = i := by omega
                subst this
                rw [List.getElem?_eq_getElem h1, hv] at hu
                exact absurd (by simp at hu; omega) huv
          · rw [List.length_append, List.length_singleton]; omega
          · rw [inc64 (by omega)]; simp
          · simp [ivals, Nat.mul_one]
        · refine ⟨_, rfl, m - 1, by omega, met, op, rest, ver, i + 1, by omega, inv, hwm, ?_, hn, by rw [inc64 (by omega)], rfl⟩
          intro j hj u hu
          rcases Nat.lt_or_ge j i with h' | h'
          · exact hall j h' u hu
          · have : j = i := by omega
            subst this
            rw [List.getElem?_eq_getElem h1, hv] at hu
            have : v = u := by simp at hu; omega
            subst this
            have hm : met[v] = true := by simpa using hm
            rw [List.getElem?_eq_getElem hml, hm]
      · refine ⟨n - 1, by omega, met, op, rest, ver, _, inv.close ?_, by omega, by omega, rfl, rfl⟩
        rintro v ⟨r, h1, h2⟩
        rw [hrow] at h1; cases h1
        obtain ⟨j, hj⟩ := List.mem_iff_getElem?.1 h2
        exact hall j (by have := (List.getElem?_eq_some_iff.1 hj).1; omega) v hj
    · have : op = [] := List.eq_nil_of_length_eq_zero (by omega)
      subst this
      have hdone := inv.done hok hk
      have hml := inv.len
      refine WP.loop' (fun m E H => ∃ i, i + m = uses.length ∧ H = [.cells 0 (bvals met), .cells ver (ivals ([] ++ rest))] ∧
        E = ⟨[(12, ints true (metL met i)), (69, .hsl 0 0 0 uses.length 1), (70, .int .i64 uses.length), (71, .int .i64 i)], .u⟩) (n := uses.length) ⟨0, by omega, rfl, rfl⟩ ?_
      rintro m E H ⟨i, hi, rfl, rfl⟩
      simp only [go_sem, ↓reduceIte, ↓ex_map, rows, ints, Int.toNat_natCast]
      refine ⟨fun hlt => ?_, fun hge => ?_⟩
      · have h1 : i < met.length := by omega
        have hb : (bvals met)[i * 1]? = some (.bool met[i]) := by simp [bvals, h1]
        refine ⟨by omega, by omega, ?_⟩
        rw [hb]
        simp only [go_sem, ↓reduceIte, ↓ex_map, rows, ints, Int.toNat_natCast]
        refine ⟨fun hm => ⟨⟨by have := metL_len met i; omega, by have := metL_len met i; omega⟩, _, rfl, m - 1, by omega, i + 1, by omega, ?_⟩, fun hm => ⟨_, rfl, m - 1, by omega, i + 1, by omega, ?_⟩⟩
        · rw [inc64 (by omega), metL_yes (by rw [List.getElem?_eq_getElem h1, hm]), List.map_append]; rfl
        · rw [inc64 (by omega), metL_no (by rw [List.getElem?_eq_getElem h1, hm]; simp)]
      · have : i = uses.length := by omega
        subst this
        have : metL met uses.length = reachL uses k := by
          unfold metL reachL
          congr 1
          apply List.filter_congr
          intro j _
          rw [Bool.eq_iff_iff, reachB_iff, ← hdone j]
          simp
        unfold reachR
        rw [if_neg (by simpa using hw), if_pos (by omega), Int.toNat_natCast, this]
  · unfold reachR; rw [if_neg (by simpa using hw), if_neg (by omega)]; rfl
end Go.Proofs.Ytglemgdlkddjhaa.Vm
