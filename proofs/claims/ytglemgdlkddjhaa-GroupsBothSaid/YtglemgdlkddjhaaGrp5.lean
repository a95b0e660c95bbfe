/-
The groups, part 5: the walk of Needs.
-/
import Derived.Test.YtglemgdlkddjhaaGrp4
namespace Go.Proofs.Ytglemgdlkddjhaa.Vm
open Go

def robj (r : List Bool) : Obj := .cells 0 (bvals r)
def hcell (n j : Nat) : V := .hsl (j + 1) 0 0 n 1
def mcells (n i : Nat) : List V := (List.range i).map (hcell n) ++ List.replicate (n - i) (.sl true 1 [])
theorem mcells_len {n i : Nat} (h : i ≤ n) : (mcells n i).length = n := by simp [mcells]; omega
theorem mcells_get {n i j : Nat} (h : j < i) : (mcells n i)[j]? = some (hcell n j) := by
  unfold mcells
  rw [List.getElem?_append_left (by simpa using h)]
  simp [h]
theorem mcells_set {n i : Nat} (h : i < n) : (mcells n i).set i (hcell n i) = mcells n (i + 1) := by
  apply List.ext_getElem?
  intro k
  rw [List.getElem?_set]
  have hl := mcells_len (n := n) (i := i) (by omega)
  by_cases hk : i = k
  · subst hk
    rw [if_pos rfl, if_pos (by omega), mcells_get (by omega)]
  · rw [if_neg hk]
    rcases Nat.lt_or_ge k i with h' | h'
    · rw [mcells_get h', mcells_get (by omega)]
    · unfold mcells
      rw [List.getElem?_append_right (by simp; omega), List.getElem?_append_right (by simp; omega)]
      simp only [List.length_map, List.length_range, List.getElem?_replicate]
      by_cases hkn : k < n
      · rw [if_pos (by omega), if_pos (by omega)]
      · rw [if_neg (by omega), if_neg (by omega)]
@[go_sem] theorem getRow {o : Obj} {M : List (List Bool)} {i : Nat} : getCells (o :: M.map robj) (i + 1) 0 = M[i]?.map bvals := by
  unfold getCells
  rw [List.getElem?_cons_succ, List.getElem?_map]
  cases M[i]? with
  | none => rfl
  | some r => rfl
theorem setRow {o : Obj} {M : List (List Bool)} {i : Nat} {r : List Bool} : (o :: M.map robj).set (i + 1) (.cells 0 (bvals r)) = o :: (M.set i r).map robj := by
  rw [List.set_cons_succ, List.map_set]; rfl

def boolsR (r : List Bool) : V := .sl false 1 (r.map fun b => [.bool b])
def matR (M : List (List Bool)) : V := .sl false 1 (M.map fun r => [boolsR r])
theorem chunks1 : ∀ l : List V, chunks 1 l.length l = l.map fun x => [x]
  | [] => rfl
  | x :: l => by
    show ([x] :: chunks 1 l.length l) = _
    rw [chunks1 l]; rfl
theorem mapM_all {α β : Type} {f : α → Option β} {g : α → β} : ∀ {l : List α}, (∀ x ∈ l, f x = some (g x)) → l.mapM f = some (l.map g)
  | [], _ => rfl
  | x :: l, h => by
    rw [List.mapM_cons, h x (List.mem_cons_self ..), mapM_all fun y hy => h y (List.mem_cons_of_mem _ hy)]
    rfl
theorem fix_bools {H : Heap} {d id n : Nat} {r : List Bool} (h : getCells H id 0 = some (bvals r)) (hn : r.length = n) : fixV 0 H (d + 2) (.hsl id 0 0 n 1) = some (boolsR r) := by
  subst hn
  have h1 : cut (bvals r) 0 (r.length * 1) = some (bvals r) := by
    simp [cut, bvals]
    apply List.take_of_length_le; simp
  have h2 : (bvals r).mapM (fixV 0 H (d + 1)) = some (bvals r) := by
    have := mapM_all (f := fixV 0 H (d + 1)) (g := fun x => x) (l := bvals r) (by
      intro x hx
      obtain ⟨b, _, rfl⟩ := List.mem_map.1 hx
      rfl)
    simpa using this
  have h3 : inl (bvals r) = some (bvals r) := by
    unfold inl
    rw [if_pos (by simp [bvals, plain0])]
    congr 1
    simp [bvals, Function.comp_def, strip0]
  have h4 := chunks1 (bvals r)
  rw [bvals_len] at h4
  show (if id < 0 then _ else _) = _
  rw [if_neg (by omega), h, Option.bind_some, h1, Option.bind_some, h2, Option.bind_some, h3, Option.map_some, h4]
  simp [boolsR, bvals, Function.comp_def]
theorem fix_mat {n : Nat} {M : List (List Bool)} (h : Square n M) : fixV 0 (.cells 0 (mcells n n) :: M.map robj) 8 (.hsl 0 0 0 n 1) = some (matR M) := by
  have hl := mcells_len (n := n) (i := n) (by omega)
  have hm : mcells n n = (List.range n).map (hcell n) := by simp [mcells]
  have h1 : cut (mcells n n) 0 (n * 1) = some (mcells n n) := by
    simp [cut, hl]
    apply List.take_of_length_le; omega
  have h2 : (mcells n n).mapM (fixV 0 (.cells 0 (mcells n n) :: M.map robj) 7) = some (M.map boolsR) := by
    have := mapM_all (f := fun j => fixV 0 (.cells 0 (mcells n n) :: M.map robj) 7 (hcell n j)) (g := fun j => boolsR (M.getD j [])) (l := List.range n) (by
      intro j hj
      have hj : j < n := by simpa using hj
      obtain ⟨r, k1, k2⟩ := h.row hj
      rw [List.getD_eq_getElem?_getD, k1]
      exact fix_bools (by rw [getRow, k1]; rfl) k2)
    rw [hm, List.mapM_map]
    rw [hm] at this
    refine Eq.trans this ?_
    congr 1
    apply List.ext_getElem?
    intro k
    rw [List.getElem?_map, List.getElem?_map]
    by_cases hk : k < n
    · obtain ⟨r, k1, k2⟩ := h.row hk
      simp [hk, k1]
    · rw [List.getElem?_eq_none (by simp; omega), List.getElem?_eq_none (by rw [h.len]; omega)]; rfl
  have h3 : inl (M.map boolsR) = some (M.map boolsR) := by
    unfold inl
    rw [if_pos (by simp [boolsR, plain0])]
    congr 1
    simp [boolsR, Function.comp_def, strip0]
  have h4 := chunks1 (M.map boolsR)
  rw [List.length_map, h.len] at h4
  show (if 0 < 0 then _ else _) = _
  rw [if_neg (by omega)]
  show ((some (mcells n n)).bind _) = _
  rw [Option.bind_some, h1, Option.bind_some, h2, Option.bind_some, h3, Option.map_some, h4]
  simp [matR, Function.comp_def]
theorem getD_row {M : List (List Bool)} {r : List Bool} {i : Nat} (h : M.length = i) : (M ++ [r])[i]? = some r := by
  subst h; simp
/-- What needs what. -/
noncomputable def needM (uses : List (List Int)) : List (List Bool) := (List.range uses.length).map fun i => (List.range uses.length).map (reachB uses i)
theorem needM_eq {uses : List (List Int)} {M : List (List Bool)} (h : Square uses.length M) (hp : ∀ x y, Has M x y ↔ Path uses x y) : M = needM uses := by
  apply List.ext_getElem?
  intro x
  unfold needM
  rw [List.getElem?_map]
  by_cases hx : x < uses.length
  · obtain ⟨r, h1, h2⟩ := h.row hx
    rw [h1, List.getElem?_range hx, Option.map_some]
    congr 1
    apply List.ext_getElem?
    intro y
    rw [List.getElem?_map]
    by_cases hy : y < uses.length
    · rw [List.getElem?_range hy, Option.map_some, List.getElem?_eq_getElem (by omega)]
      congr 1
      rw [Bool.eq_iff_iff, reachB_iff, ← hp x y]
      constructor
      · intro e; exact ⟨r, h1, by rw [List.getElem?_eq_getElem (by omega), e]⟩
      · rintro ⟨r', k1, k2⟩
        rw [h1] at k1; cases k1
        rw [List.getElem?_eq_getElem (by omega)] at k2
        exact Option.some.inj k2
    · rw [List.getElem?_eq_none (by omega), List.getElem?_eq_none (by simp; omega)]; rfl
  · rw [List.getElem?_eq_none (by rw [h.len]; omega), List.getElem?_eq_none (by simp; omega)]; rfl

theorem needs_T (o : Bool) (uses : List (List Int)) (hok : wrongE uses = 0) (hr : ∀ r ∈ uses, Big r.length) : T Try.prog 20 [rows o uses] [] (matR (needM uses)) [] := by
  refine T.of0 mix c20 rfl ?_
  unfold v20
  have hn := len_ok hok
  simp only [go_sem, ↓reduceIte, rows]
  refine ⟨by omega, ?_⟩
  refine WP.loop' (fun m E H => ∃ i M ex, i + m = uses.length ∧ M.length = i ∧ (∀ r ∈ M, r.length = uses.length) ∧ (∀ x y, x < i → (Has M x y ↔ Edge uses x y)) ∧
    E = ⟨(0, rows o uses) :: (3, .int .i64 uses.length) :: (4, .hsl 0 0 0 uses.length 1) :: (5, .int .i64 i) :: ex, .u⟩ ∧ H = .cells 0 (mcells uses.length i) :: M.map robj) (n := uses.length)
    ⟨0, [], [], by omega, rfl, (fun _ h => by cases h), fun x y hx => absurd hx (by omega), by simp [rows], by simp [mcells]⟩ ?_
  rintro m E H ⟨i, M, ex, hi, hM, hMr, hMe, rfl, rfl⟩
  simp only [go_sem, ↓reduceIte, ↓ex_map, rows, ints, Int.toNat_natCast]
  refine ⟨fun hlt => ?_, fun hge => ?_⟩
  · have h1 : i < uses.length := by omega
    have hrow : uses[i]? = some uses[i] := List.getElem?_eq_getElem h1
    have hbig := hr _ (List.getElem_mem h1)
    refine ⟨by omega, by omega, by omega, by rw [mcells_len (by omega)]; omega, ?_⟩
    refine WP.loop' (fun m' E H => ∃ k r ex, k + m' = uses[i].length ∧ r.length = uses.length ∧ (∀ y : Nat, r[y]? = some true ↔ ∃ j, j < k ∧ uses[i][j]? = some (y : Int)) ∧
      E = ⟨(0, rows o uses) :: (3, .int .i64 uses.length) :: (4, .hsl 0 0 0 uses.length 1) :: (5, .int .i64 i) :: (6, .int .i64 k) :: ex, .u⟩ ∧ H = .cells 0 (mcells uses.length (i + 1)) :: (M ++ [r]).map robj) (n := uses[i].length)
      ⟨0, List.replicate uses.length false, [], by omega, List.length_replicate, fun y => ⟨fun h => ?_, fun ⟨j, hj, _⟩ => absurd hj (by omega)⟩, by simp [rows, ints], ?_⟩ ?_
    · rw [List.getElem?_replicate] at h; split at h <;> cases h
    · rw [zeros_b, hM, Nat.mul_one]
      have := mcells_set h1
      unfold hcell at this
      rw [this]; simp [robj]
    rintro m' E H ⟨k, r, ex, hk, hrl, hre, rfl, rfl⟩
    simp only [go_sem, ↓reduceIte, ↓ex_map, rows, ints, Int.toNat_natCast]
    refine ⟨by omega, uses[i], hrow, fun hlt => ?_, fun hge => ?_⟩
    · have h2 : k < uses[i].length := by omega
      obtain ⟨v, hv, hvn⟩ := row_ok hok hrow (List.getElem_mem h2)
      refine ⟨by omega, by omega, ?_⟩
      rw [Nat.mul_one, mcells_get (by omega)]
      unfold hcell
      simp only [go_sem, ↓reduceIte, ↓ex_map, ↓getRow, rows, ints, Int.toNat_natCast]
      refine ⟨by omega, uses[i], hrow, by omega, uses[i][k], List.getElem?_eq_getElem h2, by rw [hv]; omega, by rw [hv]; omega, ?_⟩
      rw [getD_row hM, Option.map_some, hv, Int.toNat_natCast, Nat.mul_one]
      have hset := set_bvals r v true
      simp only [go_sem, ↓reduceIte, ↓ex_map, ↓getRow, rows, ints, Int.toNat_natCast]
      refine ⟨by rw [bvals_len]; omega, _, rfl, m' - 1, by omega, k + 1, r.set v true, _, by omega, by rw [List.length_set]; exact hrl, fun y => ?_, by rw [inc64 (by omega)], ?_⟩
      · rw [List.getElem?_set]
        by_cases hvy : v = y
        · subst hvy
          rw [if_pos rfl, if_pos (by omega)]
          exact ⟨fun _ => ⟨k, by omega, by rw [List.getElem?_eq_getElem h2, hv]⟩, fun _ => rfl⟩
        · rw [if_neg hvy, hre y]
          constructor
          · rintro ⟨j, hj, hu⟩; exact ⟨j, by omega, hu⟩
          · rintro ⟨j, hj, hu⟩
            refine ⟨j, ?_, hu⟩
            rcases Nat.lt_or_ge j k with h' | h'
            · exact h'
            · have : j = k := by omega
              subst this
              rw [List.getElem?_eq_getElem h2, hv] at hu
              exact absurd (by simp at hu; omega) hvy
      · rw [hset]
        have := setRow (o := .cells 0 (mcells uses.length (i + 1))) (M := M ++ [r]) (i := i) (r := r.set v true)
        rw [List.set_cons_succ] at this
        rw [this]
        congr 2
        subst hM
        simp
    · refine ⟨_, rfl, m - 1, by omega, i + 1, M ++ [r], _, by omega, by simp [hM], ?_, ?_, by rw [inc64 (by omega)], rfl⟩
      · intro x hx
        rcases List.mem_append.1 hx with hx | hx
        · exact hMr x hx
        · rw [List.mem_singleton] at hx; rw [hx]; exact hrl
      · intro x y hx
        rcases Nat.lt_or_ge x i with h' | h'
        · rw [← hMe x y h']
          unfold Has
          rw [List.getElem?_append_left (by omega)]
        · have : x = i := by omega
          subst this
          unfold Has Edge
          rw [getD_row hM, hrow]
          simp only [Option.some.injEq, exists_eq_left', hre]
          constructor
          · rintro ⟨j, _, hj⟩; exact List.mem_of_getElem? hj
          · intro h
            obtain ⟨j, hj⟩ := List.mem_iff_getElem?.1 h
            exact ⟨j, by have := (List.getElem?_eq_some_iff.1 hj).1; omega, hj⟩
  · have hin : i = uses.length := by omega
    subst hin
    have inv0 : InvW uses M 0 0 0 := by
      refine ⟨⟨hM, hMr⟩, fun x y h => ?_, fun x y hx hy hv => ?_, fun x y _ _ hd => by omega⟩
      · have hx : x < uses.length := by
          obtain ⟨r, h1, _⟩ := h
          have := (List.getElem?_eq_some_iff.1 h1).1
          omega
        exact .one ((hMe x y hx).1 h)
      · rw [hMe x y hx]
        cases hv with
        | one e => exact e
        | comp hm _ _ => omega
    refine WP.loop' (fun m E H => ∃ k M ex, k + m = uses.length ∧ InvW uses M k 0 0 ∧
      E = ⟨(3, .int .i64 uses.length) :: (4, .hsl 0 0 0 uses.length 1) :: (7, .int .i64 k) :: ex, .u⟩ ∧ H = .cells 0 (mcells uses.length uses.length) :: M.map robj) (n := uses.length)
      ⟨0, M, [], by omega, inv0, rfl, rfl⟩ ?_
    clear inv0 hMe hMr hM hi hge
    rintro m1 E H ⟨k, M, ex, hk, inv, rfl, rfl⟩
    simp only [go_sem, ↓reduceIte, ↓ex_map, ↓getRow, Int.toNat_natCast]
    refine ⟨fun hlt => ?_, fun hge => ?_⟩
    · have hkn : k < uses.length := by omega
      refine WP.loop' (fun m E H => ∃ i M ex, i + m = uses.length ∧ InvW uses M k i 0 ∧
        E = ⟨(3, .int .i64 uses.length) :: (4, .hsl 0 0 0 uses.length 1) :: (7, .int .i64 k) :: (8, .int .i64 i) :: ex, .u⟩ ∧ H = .cells 0 (mcells uses.length uses.length) :: M.map robj) (n := uses.length)
        ⟨0, M, [], by omega, inv, rfl, rfl⟩ ?_
      clear inv
      rintro m2 E H ⟨i, M, ex, hi, inv, rfl, rfl⟩
      simp only [go_sem, ↓reduceIte, ↓ex_map, ↓getRow, Int.toNat_natCast]
      refine ⟨fun hlt => ?_, fun hge => ?_⟩
      · have hin : i < uses.length := by omega
        refine WP.loop' (fun m E H => ∃ j M ex, j + m = uses.length ∧ InvW uses M k i j ∧
          E = ⟨(3, .int .i64 uses.length) :: (4, .hsl 0 0 0 uses.length 1) :: (7, .int .i64 k) :: (8, .int .i64 i) :: (9, .int .i64 j) :: ex, .u⟩ ∧ H = .cells 0 (mcells uses.length uses.length) :: M.map robj) (n := uses.length)
          ⟨0, M, [], by omega, inv, rfl, rfl⟩ ?_
        clear inv
        rintro m3 E H ⟨j, M, ex, hj, inv, rfl, rfl⟩
        obtain ⟨ri, hri, hril⟩ := inv.sq.row hin
        obtain ⟨rk, hrk, hrkl⟩ := inv.sq.row hkn
        have hci : (mcells uses.length uses.length)[i * 1]? = some (.hsl (i + 1) 0 0 uses.length 1) := by rw [Nat.mul_one]; exact mcells_get hin
        have hck : (mcells uses.length uses.length)[k * 1]? = some (.hsl (k + 1) 0 0 uses.length 1) := by rw [Nat.mul_one]; exact mcells_get hkn
        have hik : (bvals ri)[k * 1]? = some (.bool (ri[k]'(by omega))) := by rw [Nat.mul_one]; unfold bvals; rw [List.getElem?_map, List.getElem?_eq_getElem (by omega)]; rfl
        by_cases hjn : j < uses.length
        · have hij : (bvals ri)[j * 1]? = some (.bool (ri[j]'(by omega))) := by rw [Nat.mul_one]; unfold bvals; rw [List.getElem?_map, List.getElem?_eq_getElem (by omega)]; rfl
          have hkj : (bvals rk)[j * 1]? = some (.bool (rk[j]'(by omega))) := by rw [Nat.mul_one]; unfold bvals; rw [List.getElem?_map, List.getElem?_eq_getElem (by omega)]; rfl
          simp only [go_sem, ↓reduceIte, ↓ex_map, ↓getRow, Int.toNat_natCast, hci, hck, hri, hrk, Option.map_some, hik, hij, hkj]
          have hset : ∀ b : Bool, (M.map robj).set i (.cells 0 ((bvals ri).set (j * 1) (.bool b))) = (set2 M i j b).map robj := by
            intro b; rw [Nat.mul_one, set_bvals, set2_row hri, List.map_set]; rfl
          have hasi : ∀ (y : Nat) (hy : y < uses.length), Has M i y ↔ ri[y]'(by omega) = true := by
            intro y hy
            constructor
            · rintro ⟨r, h1, h2⟩
              rw [hri] at h1; cases h1
              rw [List.getElem?_eq_getElem (by omega)] at h2
              exact Option.some.inj h2
            · intro h; exact ⟨ri, hri, by rw [List.getElem?_eq_getElem (by omega), h]⟩
          have hask : ∀ (y : Nat) (hy : y < uses.length), Has M k y ↔ rk[y]'(by omega) = true := by
            intro y hy
            constructor
            · rintro ⟨r, h1, h2⟩
              rw [hrk] at h1; cases h1
              rw [List.getElem?_eq_getElem (by omega)] at h2
              exact Option.some.inj h2
            · intro h; exact ⟨rk, hrk, by rw [List.getElem?_eq_getElem (by omega), h]⟩
          refine ⟨fun _ => ⟨by omega, by omega, by omega, by omega, fun hk1 => ⟨by omega, by omega, by omega, by omega, by omega, by omega, fun hj0 => ?_, fun hj1 => ?_⟩, fun hk0 => ?_⟩, fun h => absurd hjn (by omega)⟩
          · refine ⟨by omega, by omega, by omega, by omega, by omega, by omega, by rw [bvals_len]; omega, _, rfl, m3 - 1, by omega, j + 1, set2 M i j (rk[j]'(by omega)), _, by omega, inv.put hkn hin hjn ((hasi k hkn).2 hk1) ?_, by rw [inc64 (by omega)], by rw [hset]⟩
            rw [hasi j hjn, hask j hjn, hj0]
            simp
          · refine ⟨by omega, by omega, by rw [bvals_len]; omega, _, rfl, m3 - 1, by omega, j + 1, set2 M i j true, _, by omega, inv.put hkn hin hjn ((hasi k hkn).2 hk1) ?_, by rw [inc64 (by omega)], by rw [hset]⟩
            rw [hasi j hjn]
            simp at hj1
            simp [hj1]
          · refine ⟨_, rfl, m2 - 1, by omega, i + 1, M, _, by omega, inv.skip hkn hin (fun h => ?_), by rw [inc64 (by omega)], rfl⟩
            have := (hasi k hkn).1 h
            simp [this] at hk0
        · simp only [go_sem, ↓reduceIte, ↓ex_map, ↓getRow, Int.toNat_natCast, hci, hck, hri, hrk, Option.map_some, hik]
          refine ⟨fun h => absurd h (by omega), fun _ => ⟨_, rfl, m2 - 1, by omega, i + 1, M, _, by omega, inv.row (by omega), by rw [inc64 (by omega)], rfl⟩⟩
      · refine ⟨_, rfl, m1 - 1, by omega, k + 1, M, _, by omega, inv.next (by omega), by rw [inc64 (by omega)], rfl⟩
    · exact ⟨matR M, fix_mat inv.sq, congrArg matR (needM_eq inv.sq fun x y => inv.done hok (by omega))⟩
end Go.Proofs.Ytglemgdlkddjhaa.Vm
