/-
The groups, part 15: needs and ready.
-/
import Derived.Test.YtglemgdlkddjhaaGrp14
namespace Go.Proofs.Ytglemgdlkddjhaa.Vm
open Go

def natI (l : List Nat) : List Int := l.map fun (k : Nat) => (k : Int)
theorem natI_len (l : List Nat) : (natI l).length = l.length := by simp [natI]
theorem natI_get {l : List Nat} {i : Nat} (h : i < l.length) : (natI l)[i]? = some ((l[i] : Nat) : Int) := by simp [natI, h]
def needsB (uses : List (List Int)) (grp : Nat → Nat) (L : List Nat) (dn : Nat → Bool) : Bool := L.all fun k => (nbU uses k).all fun t => dn (grp t) || grp t == grp k
def memL (n : Nat) (grp : Nat → Nat) (g : Nat) : List Nat := (List.range n).filter fun x => grp x == g
def memC (n : Nat) (grp : Nat → Nat) (many : Nat) : List V := (List.range many).map fun g => ints true (natI (memL n grp g))
theorem memC_len (n : Nat) (grp : Nat → Nat) (many : Nat) : (memC n grp many).length = many := by simp [memC]
theorem memC_get {n : Nat} {grp : Nat → Nat} {many g : Nat} (h : g < many) : (memC n grp many)[g]? = some (ints true (natI (memL n grp g))) := by simp [memC, List.getElem?_range h]

theorem needs24_T (uses : List (List Int)) (hok : wrongE uses = 0) (hr : ∀ r ∈ uses, Big r.length) (grp : Nat → Nat) (many : Nat) (hg : ∀ x, x < uses.length → grp x < many) (L : List Nat) (hL : ∀ k ∈ L, k < uses.length) (hLl : L.length ≤ 2048) (dn : Nat → Bool) (id : Nat) (H : Heap)
    (hH : getCells H id 0 = some (cB many dn)) : T Try.prog 24 [rows false uses, ints false (tabN uses.length grp), ints false (natI L), .hsl id 0 0 many 1] H (.bool (needsB uses grp L dn)) H := by
  refine T.of mix c24 rfl ?_
  unfold v24
  simp only [go_sem, ↓reduceIte, rows, ints]
  refine WP.loop' (fun m E H' => H' = H ∧ ∃ i ex, i + m = L.length ∧ (∀ j, j < i → ∀ k, L[j]? = some k → ((nbU uses k).all fun t => dn (grp t) || grp t == grp k) = true) ∧
      E = ⟨(0, rows false uses) :: (1, ints false (tabN uses.length grp)) :: (3, .hsl id 0 0 many 1) :: (13, ints false (natI L)) :: (14, .int .i64 L.length) :: (15, .int .i64 i) :: ex, .u⟩) (n := L.length)
    ⟨rfl, 0, [], by omega, fun j hj => absurd hj (Nat.not_lt_zero _), by simp [rows, ints, natI]⟩ ?_
  rintro m E H' ⟨rfl, i, ex, hi, hall, rfl⟩
  have hwi := inc64 (i := i) (by omega)
  simp only [go_sem, ↓reduceIte, ↓ex_map, rows, ints, Int.toNat_natCast, ↓run_addW, hwi]
  refine ⟨fun hlt => ?_, fun hge => ?_⟩
  · have hiL : i < L.length := by omega
    have hk := hL _ (List.getElem_mem hiL)
    generalize hkk : L[i] = k at hk
    have hrow : uses[k]? = some uses[k] := List.getElem?_eq_getElem hk
    have hbig := hr _ (List.getElem_mem hk)
    have hdeg : (nbU uses k).length = uses[k].length := by rw [nbU_eq hrow]; simp
    refine ⟨by omega, _, natI_get hiL, by omega, uses[k], by rw [hkk]; exact hrow, ?_⟩
    rw [hkk]
    refine WP.loop' (fun m' E H1 => H1 = H' ∧ ∃ j ex, j + m' = uses[k].length ∧ (∀ y, y < j → ∀ t, (nbU uses k)[y]? = some t → (dn (grp t) || grp t == grp k) = true) ∧
        E = ⟨(0, rows false uses) :: (1, ints false (tabN uses.length grp)) :: (3, .hsl id 0 0 many 1) :: (10, .int .i64 k) :: (13, ints false (natI L)) :: (14, .int .i64 L.length) :: (15, .int .i64 i) :: (22, ints false uses[k]) :: (23, .int .i64 uses[k].length) :: (24, .int .i64 j) :: ex, .u⟩) (n := uses[k].length)
      ⟨rfl, 0, [], by omega, fun j hj => absurd hj (Nat.not_lt_zero _), by simp [rows, ints]⟩ ?_
    rintro m' E H1 ⟨rfl, j, ex, hj, hallj, rfl⟩
    have hwj := inc64 (i := j) (by omega)
    by_cases hjl : j < uses[k].length
    · obtain ⟨t, ht1, ht2, ht3⟩ := nbU_at hok hrow hjl
      have htt := tabN_get (f := grp) ht3
      have htk := tabN_get (f := grp) hk
      have hgt := cB_get (f := dn) (hg t ht3)
      simp only [go_sem, ↓reduceIte, ↓ex_map, rows, ints, Int.toNat_natCast, ↓run_addW, hwj, ↓hH]
      refine ⟨fun _ => ⟨by omega, _, ht1, by omega, _, by rw [Int.toNat_natCast]; exact htt, by omega, by have := hg t ht3; omega, ?_⟩, fun h => absurd h (by omega)⟩
      rw [Int.toNat_natCast, Nat.mul_one, hgt]
      simp only [go_sem, ↓reduceIte, ↓ex_map, rows, ints, Int.toNat_natCast, ↓run_addW, hwj, ↓hH]
      have hstep : (dn (grp t) || grp t == grp k) = true → ∀ y, y < j + 1 → ∀ t, (nbU uses k)[y]? = some t → (dn (grp t) || grp t == grp k) = true := by
        intro ht y hy t' ht'
        by_cases hyj : y < j
        · exact hallj y hyj t' ht'
        · have : y = j := by omega
          subst this
          rw [ht2] at ht'; cases ht'; exact ht
      refine ⟨fun hd => ⟨by omega, _, htt, by omega, _, htk, fun hne => ?_, fun he => ⟨m' - 1, by omega, j + 1, _, by omega, hstep ?_, rfl⟩⟩, fun hd => ⟨m' - 1, by omega, j + 1, _, by omega, hstep ?_, rfl⟩⟩
      · have : needsB uses grp L dn = false := by
          refine all_bad (x := k) (i := i) (by rw [List.getElem?_eq_getElem hiL, hkk]) (all_bad (x := t) (i := j) ht2 ?_)
          simp at hne hd ⊢
          exact ⟨hd, by omega⟩
        rw [this]
      · simp at he ⊢
        exact .inr (by omega)
      · simp at hd ⊢
        exact .inl hd
    · simp only [go_sem, ↓reduceIte, ↓ex_map, rows, ints, Int.toNat_natCast, ↓run_addW, hwj, ↓hH, hwi]
      refine ⟨fun h => absurd h (by omega), fun _ => ⟨m - 1, by omega, i + 1, _, by omega, ?_, rfl⟩⟩
      intro y hy x hx
      by_cases hyi : y < i
      · exact hall y hyi x hx
      · have : y = i := by omega
        subst this
        rw [List.getElem?_eq_getElem hiL, hkk] at hx
        cases hx
        exact all_take (fun y hy t ht => hallj y hy t ht) (by omega)
  · have hb : needsB uses grp L dn = true := all_take hall (by omega)
    rw [hb]

theorem find_first {n i : Nat} {p : Nat → Bool} (hi : i < n) (hp : p i = true) (h : ∀ j, j < i → p j = false) : (List.range n).find? p = some i := by
  rw [List.find?_eq_some_iff_getElem]
  refine ⟨hp, i, by simpa using hi, by simp, fun j hj => ?_⟩
  simp [h j hj]
theorem find_none {n : Nat} {p : Nat → Bool} (h : ∀ j, j < n → p j = false) : (List.range n).find? p = none := by
  rw [List.find?_eq_none]
  intro x hx
  simp [h x (by simpa using hx)]
/-- The next group. -/
def readyP (uses : List (List Int)) (grp : Nat → Nat) (dn : Nat → Bool) (k : Nat) : Bool := !dn (grp k) && ((memL uses.length grp (grp k)).head? == some k && needsB uses grp (memL uses.length grp (grp k)) dn)
def readyG (uses : List (List Int)) (grp : Nat → Nat) (dn : Nat → Bool) : Nat := match (List.range uses.length).find? (readyP uses grp dn) with
  | some k => grp k
  | none => 0
theorem memL_lt {n : Nat} {grp : Nat → Nat} {g k : Nat} (h : k ∈ memL n grp g) : k < n ∧ grp k = g := by
  obtain ⟨h1, h2⟩ := List.mem_filter.1 h
  exact ⟨by simpa using h1, by simpa using h2⟩
theorem memL_in {n : Nat} {grp : Nat → Nat} {k : Nat} (h : k < n) : k ∈ memL n grp (grp k) := List.mem_filter.2 ⟨by simpa using h, by simp⟩
theorem memL_len (n : Nat) (grp : Nat → Nat) (g : Nat) : (memL n grp g).length ≤ n := by
  have := List.length_filter_le (fun x => grp x == g) (List.range n)
  rwa [List.length_range] at this
theorem ready19_T (uses : List (List Int)) (hok : wrongE uses = 0) (hr : ∀ r ∈ uses, Big r.length) (grp : Nat → Nat) (many : Nat) (hg : ∀ x, x < uses.length → grp x < many) (dn : Nat → Bool) :
    T Try.prog 19 [rows false uses, ints false (tabN uses.length grp), .hsl 0 0 0 many 1, .hsl 1 0 0 many 1] [.cells 0 (memC uses.length grp many), .cells 0 (cB many dn)] (.int .i64 (readyG uses grp dn)) [.cells 0 (memC uses.length grp many), .cells 0 (cB many dn)] := by
  refine T.of mix c19 rfl ?_
  have hn := len_ok hok
  unfold v19
  simp only [go_sem, ↓reduceIte, rows, ints]
  refine WP.loop' (fun m E H' => H' = [.cells 0 (memC uses.length grp many), .cells 0 (cB many dn)] ∧ ∃ i ex, i + m = uses.length ∧ (∀ j, j < i → readyP uses grp dn j = false) ∧
      E = ⟨(0, rows false uses) :: (1, ints false (tabN uses.length grp)) :: (2, .hsl 0 0 0 many 1) :: (3, .hsl 1 0 0 many 1) :: (12, .int .i64 uses.length) :: (13, .int .i64 i) :: ex, .u⟩) (n := uses.length)
    ⟨rfl, 0, [], by omega, fun j hj => absurd hj (Nat.not_lt_zero _), by simp [rows, ints]⟩ ?_
  rintro m E H' ⟨rfl, i, ex, hi, hall, rfl⟩
  have hwi := inc64 (i := i) (by omega)
  by_cases hlt : i < uses.length
  · have hti := tabN_get (f := grp) hlt
    have hgm := hg i hlt
    have hmem := memL_in (grp := grp) hlt
    obtain ⟨x, L, hL⟩ : ∃ x L, memL uses.length grp (grp i) = x :: L := by
      cases hm : memL uses.length grp (grp i) with
      | nil => rw [hm] at hmem; cases hmem
      | cons x L => exact ⟨x, L, rfl⟩
    simp only [go_sem, ↓reduceIte, ↓ex_map, rows, ints, Int.toNat_natCast, ↓run_addW, hwi]
    refine ⟨fun _ => ⟨by omega, _, hti, ?_⟩, fun h => absurd h (by omega)⟩
    have hT := needs24_T uses hok hr grp many hg (memL uses.length grp (grp i)) (fun k hk => (memL_lt hk).1) (Nat.le_trans (memL_len ..) hn) dn 1 [.cells 0 (memC uses.length grp many), .cells 0 (cB many dn)] rfl
    have hP : readyP uses grp dn i = (!dn (grp i) && (x == i && needsB uses grp (memL uses.length grp (grp i)) dn)) := by
      unfold readyP
      congr 2
      rw [hL, List.head?_cons]
      by_cases h : x = i <;> simp [h]
    have hnext : readyP uses grp dn i = false → ∀ j, j < i + 1 → readyP uses grp dn j = false := by
      intro h j hj
      by_cases hji : j < i
      · exact hall j hji
      · have : j = i := by omega
        rw [this]; exact h
    have hgot : readyP uses grp dn i = true → readyG uses grp dn = grp i := by
      intro h
      unfold readyG
      rw [find_first hlt h hall]
    have hl0 : (0 : Int) ≤ 0 := Int.le_refl 0
    generalize needsB uses grp (memL uses.length grp (grp i)) dn = nb at hT hP
    rw [hL] at hT
    simp only [go_sem, ↓reduceIte, ↓ex_map, rows, ints, Int.toNat_natCast, ↓run_addW, hwi, Nat.mul_one, cB_get hgm, memC_get hgm, hL, natI, Int.toNat_zero, hl0]
    refine ⟨by omega, by omega, fun hd => ⟨by omega, by omega, fun hx => ⟨by omega, by omega, _, _, hT, ?_⟩, fun hx => ?_⟩, fun hd => ?_⟩
    · simp only [go_sem, ↓reduceIte, ↓run_addW, hwi]
      refine ⟨fun hb => ?_, fun hb => ⟨m - 1, by omega, i + 1, _, by omega, hnext ?_, rfl⟩⟩
      · rw [hgot]
        have : (x == i) = true := by simp at hx ⊢; omega
        rw [hP, hd, this, hb]; rfl
      · rw [hP, hb]; simp
    · refine ⟨m - 1, by omega, i + 1, _, by omega, hnext ?_, rfl⟩
      rw [hP]
      have : (x == i) = false := by simp at hx ⊢; omega
      rw [this]; simp
    · refine ⟨m - 1, by omega, i + 1, _, by omega, hnext ?_, rfl⟩
      rw [hP, hd]; rfl
  · simp only [go_sem, ↓reduceIte, ↓ex_map, rows, ints, Int.toNat_natCast]
    refine ⟨fun h => absurd h (by omega), fun _ => ?_⟩
    unfold readyG
    rw [find_none fun j hj => hall j (by omega)]
    rfl
end Go.Proofs.Ytglemgdlkddjhaa.Vm
