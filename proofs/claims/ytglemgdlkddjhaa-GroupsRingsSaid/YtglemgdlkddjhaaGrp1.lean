/-
The groups, part 1: the small functions.
-/
import Derived.Test.YtglemgdlkddjhaaTab
import Derived.Test.YtglemgdlkddjhaaVm26
namespace Go.Proofs.Ytglemgdlkddjhaa.Vm
open Go
def ints (o : Bool) (l : List Int) : V := .sl o 1 (l.map fun n => [.int .i64 n])
def rows (o : Bool) (l : List (List Int)) : V := .sl o 1 (l.map fun r => [ints false r])
theorem take_succ_eq {α : Type} {a b : List α} {i : Nat} {x : α} (h : a.take i = b.take i) (ha : a[i]? = some x) (hb : b[i]? = some x) : a.take (i + 1) = b.take (i + 1) := by
  rw [List.take_add_one, List.take_add_one, h, ha, hb]
abbrev Big (n : Nat) : Prop := n < 4611686018427387904
theorem inc64 {i : Nat} (h : Big i) : IntKind.i64.wrap ((i : Int) + 1) = ((i + 1 : Nat) : Int) := by
  rw [wrap64 (by omega) (by omega)]; rfl

theorem sameInts_T (o1 o2 : Bool) (a b : List Int) (H : Heap) (hb : Big a.length) : T Try.prog 15 [ints o1 a, ints o2 b] H (.bool (a == b)) H := by
  refine T.of mix c15 rfl ?_
  unfold v15
  simp only [go_sem, ↓reduceIte, ints]
  refine ⟨fun h => ?_, fun h => ?_⟩
  · have : a ≠ b := by rintro rfl; simp at h
    simp [this]
  · have hlen : a.length = b.length := by simp at h; omega
    refine WP.loop' (fun n E H' => H' = H ∧ ∃ i, i + n = a.length ∧ a.take i = b.take i ∧ E = ⟨[(0, ints o1 a), (1, ints o2 b), (5, .int .i64 i)], .u⟩) (n := a.length) ⟨rfl, 0, by simp, by simp, rfl⟩ ?_
    rintro n E H' ⟨rfl, i, hi, heq, rfl⟩
    simp only [go_sem, ↓reduceIte, ↓ex_map, ints, Int.toNat_natCast, List.length_map, decide_eq_true_eq, decide_eq_false_iff_not]
    refine ⟨fun hlt => ?_, fun hge => ?_⟩
    · have h1 : i < a.length := by omega
      have h2 : i < b.length := by omega
      refine ⟨by omega, a[i], List.getElem?_eq_getElem h1, by omega, b[i], List.getElem?_eq_getElem h2, fun hne => ?_, fun he => ⟨_, rfl, n - 1, by omega, i + 1, by omega, ?_, ?_⟩⟩
      · have : a ≠ b := by rintro rfl; simp at hne
        simp [this]
      · have he : a[i] = b[i] := by simpa using he
        exact take_succ_eq heq (List.getElem?_eq_getElem h1) (by rw [he]; exact List.getElem?_eq_getElem h2)
      · rw [inc64 (by omega)]
    · have : i = a.length := by omega
      subst this
      rw [List.take_of_length_le (Nat.le_refl _), List.take_of_length_le (by omega)] at heq
      simp [heq]

theorem same_T (o1 o2 : Bool) (a b : List (List Int)) (H : Heap) (hb : Big a.length) (hr : ∀ r ∈ a, Big r.length) : T Try.prog 14 [rows o1 a, rows o2 b] H (.bool (a == b)) H := by
  refine T.of mix c14 rfl ?_
  unfold v14
  simp only [go_sem, ↓reduceIte, rows]
  refine ⟨fun h => ?_, fun h => ?_⟩
  · have : a ≠ b := by rintro rfl; simp at h
    simp [this]
  · have hlen : a.length = b.length := by simp at h; omega
    refine WP.loop' (fun n E H' => H' = H ∧ ∃ i, i + n = a.length ∧ a.take i = b.take i ∧ E = ⟨[(0, rows o1 a), (1, rows o2 b), (5, .int .i64 i)], .u⟩) (n := a.length) ⟨rfl, 0, by simp, by simp, rfl⟩ ?_
    rintro n E H' ⟨rfl, i, hi, heq, rfl⟩
    simp only [go_sem, ↓reduceIte, ↓ex_map, rows, Int.toNat_natCast, List.length_map, decide_eq_true_eq, decide_eq_false_iff_not, List.append_nil]
    refine ⟨fun hlt => ?_, fun hge => ?_⟩
    · have h1 : i < a.length := by omega
      have h2 : i < b.length := by omega
      refine ⟨by omega, a[i], List.getElem?_eq_getElem h1, by omega, b[i], List.getElem?_eq_getElem h2, _, _, sameInts_T _ _ _ _ _ (hr _ (List.getElem_mem h1)), ?_⟩
      simp only [go_sem, ↓reduceIte, ↓ex_map, rows, Int.toNat_natCast]
      refine ⟨fun hne => ?_, fun he => ⟨_, rfl, n - 1, by omega, i + 1, by omega, ?_, ?_⟩⟩
      · have : a ≠ b := by rintro rfl; simp at hne
        simp [this]
      · have he : a[i] = b[i] := by simpa using he
        exact take_succ_eq heq (List.getElem?_eq_getElem h1) (by rw [he]; exact List.getElem?_eq_getElem h2)
      · rw [inc64 (by omega)]
    · have : i = a.length := by omega
      subst this
      rw [List.take_of_length_le (Nat.le_refl _), List.take_of_length_le (by omega)] at heq
      simp [heq]

/-- What is wrong with rows of uses. -/
def okRow (n : Nat) (l : List Int) : Bool := l.all fun k => decide (0 ≤ k) && decide (k < n)
def wrongE (uses : List (List Int)) : Int := if uses.length > 2048 then 2 else if uses.all (okRow uses.length) then 0 else 1

theorem all_take {α : Type} {p : α → Bool} {l : List α} {i : Nat} (h : ∀ j, j < i → ∀ x, l[j]? = some x → p x = true) (hi : l.length ≤ i) : l.all p = true := by
  rw [List.all_eq_true]
  intro x hx
  obtain ⟨j, hj⟩ := List.mem_iff_getElem?.1 hx
  exact h j (by have := (List.getElem?_eq_some_iff.1 hj).1; omega) x hj
theorem all_bad {α : Type} {p : α → Bool} {l : List α} {x : α} {i : Nat} (h : l[i]? = some x) (hp : p x = false) : l.all p = false := by
  cases hl : l.all p with
  | false => rfl
  | true => rw [List.all_eq_true.1 hl x (List.mem_of_getElem? h)] at hp; cases hp

theorem right_T (o : Bool) (uses : List (List Int)) (H : Heap) (hr : ∀ r ∈ uses, Big r.length) : T Try.prog 17 [rows o uses] H (.int .i64 (wrongE uses)) H := by
  refine T.of mix c17 rfl ?_
  unfold v17
  simp only [go_sem, ↓reduceIte, rows, List.length_map, decide_eq_true_eq, decide_eq_false_iff_not]
  refine ⟨fun h => ?_, fun h => ?_⟩
  · rw [wrongE, if_pos (by omega)]
  have hlen : ¬ uses.length > 2048 := by omega
  refine WP.loop' (fun n E H' => H' = H ∧ ∃ i, i + n = uses.length ∧ (∀ j, j < i → ∀ x, uses[j]? = some x → okRow uses.length x = true) ∧
    E = ⟨[(0, rows o uses), (10, rows false uses), (11, .int .i64 uses.length), (12, .int .i64 i)], .u⟩) (n := uses.length) ⟨rfl, 0, by simp, fun j hj => by omega, rfl⟩ ?_
  rintro n E H' ⟨rfl, i, hi, hok, rfl⟩
  simp only [go_sem, ↓reduceIte, ↓ex_map, rows, ints, Int.toNat_natCast, List.length_map, decide_eq_true_eq, decide_eq_false_iff_not]
  refine ⟨fun hlt => ?_, fun hge => ?_⟩
  · have h1 : i < uses.length := by omega
    have hbig := hr _ (List.getElem_mem h1)
    refine ⟨by omega, uses[i], List.getElem?_eq_getElem h1, ?_⟩
    refine WP.loop' (fun m E H1 => H1 = H' ∧ ∃ k, k + m = uses[i].length ∧ (∀ j, j < k → ∀ x, uses[i][j]? = some x → (decide (0 ≤ x) && decide (x < uses.length)) = true) ∧
      E = ⟨[(0, rows o uses), (10, rows false uses), (11, .int .i64 uses.length), (12, .int .i64 i), (16, ints false uses[i]), (17, .int .i64 uses[i].length), (18, .int .i64 k)], .u⟩) (n := uses[i].length) ⟨rfl, 0, by simp, fun j hj => by omega, rfl⟩ ?_
    rintro m E H1 ⟨rfl, k, hk, hokk, rfl⟩
    simp only [go_sem, ↓reduceIte, ↓ex_map, rows, ints, Int.toNat_natCast, List.length_map, decide_eq_true_eq, decide_eq_false_iff_not]
    refine ⟨fun hlt => ?_, fun hge => ?_⟩
    · have h2 : k < uses[i].length := by omega
      refine ⟨by omega, uses[i][k], List.getElem?_eq_getElem h2, ?_⟩
      refine ⟨fun hpos => ⟨fun hge => ?_, fun hlt => ⟨_, rfl, m - 1, by omega, k + 1, by omega, ?_, by rw [inc64 (by omega)]⟩⟩, fun hneg => ?_⟩
      · rw [wrongE, if_neg hlen, all_bad (List.getElem?_eq_getElem h1) (all_bad (List.getElem?_eq_getElem h2) (by simp; omega))]; rfl
      · intro j hj x hx
        rcases Nat.lt_or_ge j k with h' | h'
        · exact hokk j h' x hx
        · have : j = k := by omega
          subst this
          rw [List.getElem?_eq_getElem h2] at hx; cases hx
          simp; omega
      · rw [wrongE, if_neg hlen, all_bad (List.getElem?_eq_getElem h1) (all_bad (List.getElem?_eq_getElem h2) (by simp; omega))]; rfl
    · refine ⟨_, rfl, n - 1, by omega, i + 1, by omega, ?_, by rw [inc64 (by omega)]⟩
      intro j hj x hx
      rcases Nat.lt_or_ge j i with h' | h'
      · exact hok j h' x hx
      · have : j = i := by omega
        subst this
        rw [List.getElem?_eq_getElem h1] at hx; cases hx
        exact all_take hokk (by omega)
  · rw [wrongE, if_neg hlen, if_pos (all_take hok (by omega))]

theorem wrong_T (o : Bool) (uses : List (List Int)) (H : Heap) (hr : ∀ r ∈ uses, Big r.length) : T Try.prog 16 [rows o uses] H (.int .i64 (wrongE uses)) H := by
  refine T.of mix c16 rfl ?_
  unfold v16
  simp only [go_sem, ↓reduceIte, rows, List.length_map, decide_eq_true_eq, decide_eq_false_iff_not]
  refine ⟨fun h => ?_, fun h => ?_⟩
  · rw [wrongE, if_pos (by omega)]
  have hlen : ¬ uses.length > 2048 := by omega
  refine WP.loop' (fun n E H' => H' = H ∧ ∃ i, i + n = uses.length ∧ (∀ j, j < i → ∀ x, uses[j]? = some x → okRow uses.length x = true) ∧
    E = ⟨[(0, rows o uses), (3, .int .i64 i)], .u⟩) (n := uses.length) ⟨rfl, 0, by simp, fun j hj => by omega, rfl⟩ ?_
  rintro n E H' ⟨rfl, i, hi, hok, rfl⟩
  simp only [go_sem, ↓reduceIte, ↓ex_map, rows, ints, Int.toNat_natCast, List.length_map, decide_eq_true_eq, decide_eq_false_iff_not]
  refine ⟨fun hlt => ?_, fun hge => ?_⟩
  · have h1 : i < uses.length := by omega
    have hbig := hr _ (List.getElem_mem h1)
    refine WP.loop' (fun m E H1 => H1 = H' ∧ ∃ k, k + m = uses[i].length ∧ (∀ j, j < k → ∀ x, uses[i][j]? = some x → (decide (0 ≤ x) && decide (x < uses.length)) = true) ∧
      E = ⟨[(0, rows o uses), (3, .int .i64 i), (4, .int .i64 k)], .u⟩) (n := uses[i].length) ⟨rfl, 0, by simp, fun j hj => by omega, rfl⟩ ?_
    rintro m E H1 ⟨rfl, k, hk, hokk, rfl⟩
    simp only [go_sem, ↓reduceIte, ↓ex_map, rows, ints, Int.toNat_natCast, List.length_map, decide_eq_true_eq, decide_eq_false_iff_not]
    refine ⟨by omega, uses[i], List.getElem?_eq_getElem h1, fun hlt => ?_, fun hge => ?_⟩
    · have h2 : k < uses[i].length := by omega
      refine ⟨by omega, uses[i], List.getElem?_eq_getElem h1, by omega, uses[i][k], List.getElem?_eq_getElem h2, ?_⟩
      refine ⟨fun hpos => ⟨by omega, uses[i], List.getElem?_eq_getElem h1, by omega, uses[i][k], List.getElem?_eq_getElem h2, fun hge => ?_, fun hlt => ⟨_, rfl, m - 1, by omega, k + 1, by omega, ?_, by rw [inc64 (by omega)]⟩⟩, fun hneg => ?_⟩
      · rw [wrongE, if_neg hlen, all_bad (List.getElem?_eq_getElem h1) (all_bad (List.getElem?_eq_getElem h2) (by simp; omega))]; rfl
      · intro j hj x hx
        rcases Nat.lt_or_ge j k with h' | h'
        · exact hokk j h' x hx
        · have : j = k := by omega
          subst this
          rw [List.getElem?_eq_getElem h2] at hx; cases hx
          simp; omega
      · rw [wrongE, if_neg hlen, all_bad (List.getElem?_eq_getElem h1) (all_bad (List.getElem?_eq_getElem h2) (by simp; omega))]; rfl
    · refine ⟨_, rfl, n - 1, by omega, i + 1, by omega, ?_, by rw [inc64 (by omega)]⟩
      intro j hj x hx
      rcases Nat.lt_or_ge j i with h' | h'
      · exact hok j h' x hx
      · have : j = i := by omega
        subst this
        rw [List.getElem?_eq_getElem h1] at hx; cases hx
        exact all_take hokk (by omega)
  · rw [wrongE, if_neg hlen, if_pos (all_take hok (by omega))]

def fewE (uses : List (List Int)) : Bool := decide (uses.length ≤ 100) && uses.all fun r => decide (r.length ≤ 200)
theorem few_T (o : Bool) (uses : List (List Int)) (H : Heap) : T Try.prog 8 [rows o uses] H (.bool (fewE uses)) H := by
  refine T.of mix c8 rfl ?_
  unfold v8
  simp only [go_sem, ↓reduceIte, rows, List.length_map, decide_eq_true_eq, decide_eq_false_iff_not]
  refine ⟨fun h => ?_, fun h => ?_⟩
  · rw [fewE, decide_eq_false (by omega), Bool.false_and]
  have hlen : uses.length ≤ 100 := by omega
  refine WP.loop' (fun n E H' => H' = H ∧ ∃ i, i + n = uses.length ∧ (∀ j, j < i → ∀ x, uses[j]? = some x → decide (x.length ≤ 200) = true) ∧
    E = ⟨[(0, rows o uses), (3, .int .i64 i)], .u⟩) (n := uses.length) ⟨rfl, 0, by simp, fun j hj => by omega, rfl⟩ ?_
  rintro n E H' ⟨rfl, i, hi, hok, rfl⟩
  simp only [go_sem, ↓reduceIte, ↓ex_map, rows, ints, Int.toNat_natCast, List.length_map, decide_eq_true_eq, decide_eq_false_iff_not]
  refine ⟨fun hlt => ?_, fun hge => ?_⟩
  · have h1 : i < uses.length := by omega
    refine ⟨by omega, uses[i], List.getElem?_eq_getElem h1, fun hbig => ?_, fun hsm => ⟨_, rfl, n - 1, by omega, i + 1, by omega, ?_, by rw [inc64 (by omega)]⟩⟩
    · rw [fewE, all_bad (List.getElem?_eq_getElem h1) (by simp; omega), Bool.and_false]
    · intro j hj x hx
      rcases Nat.lt_or_ge j i with h' | h'
      · exact of_decide_eq_true (hok j h' x hx)
      · have : j = i := by omega
        subst this
        rw [List.getElem?_eq_getElem h1] at hx; cases hx
        omega
  · rw [fewE, decide_eq_true hlen, Bool.true_and, all_take hok (by omega)]
end Go.Proofs.Ytglemgdlkddjhaa.Vm
