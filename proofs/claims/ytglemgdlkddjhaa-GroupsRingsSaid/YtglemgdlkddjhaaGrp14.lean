/-
The groups, part 14: find.
-/
import Derived.Test.YtglemgdlkddjhaaGrp13
namespace Go.Proofs.Ytglemgdlkddjhaa.Vm
open Go

def tabN (n : Nat) (f : Nat → Nat) : List Int := (List.range n).map fun i => ((f i : Nat) : Int)
theorem tabN_len (n : Nat) (f : Nat → Nat) : (tabN n f).length = n := by simp [tabN]
theorem tabN_get {n i : Nat} {f : Nat → Nat} (h : i < n) : (tabN n f)[i]? = some ((f i : Nat) : Int) := by simp [tabN, List.getElem?_range h]
theorem cN_eq (n : Nat) (f : Nat → Nat) : cN n f = ivals (tabN n f) := by simp [cN, ivals, tabN]
theorem cN_zero (n : Nat) : (List.replicate n [V.int .i64 0]).flatten = cN n fun _ => 0 := by
  rw [cN]
  induction n with
  | zero => rfl
  | succ n ih =>
    rw [List.replicate_succ', List.flatten_append, ih, List.range_succ, List.map_append]; rfl
theorem cB_zero (n : Nat) : (List.replicate n [V.bool false]).flatten = cB n fun _ => false := by
  rw [cB]
  induction n with
  | zero => rfl
  | succ n ih =>
    rw [List.replicate_succ', List.flatten_append, ih, List.range_succ, List.map_append]; rfl
theorem fix_ints {H : Heap} {d id n : Nat} {r : List Int} (h : getCells H id 0 = some (ivals r)) (hn : r.length = n) : fixV 0 H (d + 2) (.hsl id 0 0 n 1) = some (ints false r) := by
  subst hn
  have h1 : cut (ivals r) 0 (r.length * 1) = some (ivals r) := by
    simp [cut, ivals]
    apply List.take_of_length_le; simp
  have h2 : (ivals r).mapM (fixV 0 H (d + 1)) = some (ivals r) := by
    have := mapM_all (f := fixV 0 H (d + 1)) (g := fun x => x) (l := ivals r) (by
      intro x hx
      obtain ⟨b, _, rfl⟩ := List.mem_map.1 hx
      rfl)
    simpa using this
  have h3 : inl (ivals r) = some (ivals r) := by
    unfold inl
    rw [if_pos (by simp [ivals, plain0])]
    congr 1
    simp [ivals, Function.comp_def, strip0]
  have h4 := chunks1 (ivals r)
  rw [ivals_len] at h4
  show (if id < 0 then _ else _) = _
  rw [if_neg (by omega), h, Option.bind_some, h1, Option.bind_some, h2, Option.bind_some, h3, Option.map_some, h4]
  simp [ints, ivals, Function.comp_def]

def fs0 : FS := ⟨fun _ => 0, fun _ => 0, fun _ => 0, fun _ => false, [], 0, 0⟩
theorem inv0 (n : Nat) (nb : Nat → List Nat) : Inv n nb fs0 [] := by
  refine { rise := .nil, inn := fun x => (by simp [fs0]), opn := fun x hx => (nomatch hx), onx := fun x => Nat.le_refl _, inj := fun a b h => absurd h (Nat.lt_irrefl _), cnt := ?_, mny := Nat.le_refl _, vis := fun x hx => absurd rfl hx, frd := .nil, fro := fun p hp => (nomatch hp), frr := fun p hp => (nomatch hp), lowr := fun v hv => (nomatch hv), lows := fun v hv => (nomatch hv), base := fun v hv => (nomatch hv), seen := fun v hv => (nomatch hv), back := fun v hv => (nomatch hv), clos := fun x hx => absurd rfl hx, cgrp := fun x hx => absurd rfl hx, cmem := fun g hg => absurd hg (Nat.not_lt_zero _), csam := fun x y hx => absurd rfl hx }
  simp only [fs0, zeros]
  rw [List.filter_eq_self.2 (by simp)]; simp

theorem find_T (o : Bool) (uses : List (List Int)) (hok : wrongE uses = 0) (hr : ∀ r ∈ uses, Big r.length) :
    ∃ r H', T Try.prog 18 [rows o uses] [] r H' ∧ ∃ s, r = .tup [ints false (tabN uses.length s.grp), .int .i64 s.mny] ∧ H' = [] ∧ Inv uses.length (nbU uses) s [] ∧ ∀ x, x < uses.length → s.ord x ≠ 0 := by
  refine T.of_ex mix c18 0 rfl ?_
  have hn := len_ok hok
  generalize hK : endX _ _ _ _ = K
  unfold v18
  simp only [go_sem, ↓reduceIte, rows, Int.toNat_natCast, cN_zero, cB_zero]
  refine ⟨⟨by omega, by omega, by omega⟩, ⟨by omega, by omega, by omega⟩, ⟨by omega, by omega, by omega⟩, ⟨by omega, by omega, by omega⟩, ?_⟩
  refine WP.loop' (fun m E H => ∃ i s ex, i + m = uses.length ∧ Inv uses.length (nbU uses) s [] ∧ (∀ x, x < i → s.ord x ≠ 0) ∧
      E = ⟨(5, .ptr 4 0 0) :: (21, .int .i64 uses.length) :: (22, .int .i64 i) :: ex, .u⟩ ∧ (H = HA uses.length (rows false uses) s ∨ ∃ ver rl jl, H = HB uses.length (rows false uses) s ver (nV rl) (nV jl) [])) (n := uses.length)
    ⟨0, fs0, [], by omega, inv0 _ _, fun x hx => absurd hx (Nat.not_lt_zero _), rfl, .inl rfl⟩ ?_
  rintro m E H ⟨i, s, ex, hi, inv, hord, rfl, hH⟩
  have hend : ∀ {ver rl jl E}, i = uses.length → H = HA uses.length (rows false uses) s ∨ H = HB uses.length (rows false uses) s ver rl jl [] →
      K .ret ⟨(2, .hsl 3 0 0 uses.length 1) :: (3, .int .i64 s.mny) :: E, .u⟩ H := by
    intro ver rl jl E hi h
    have hg : getCells H 3 0 = some (ivals (tabN uses.length s.grp)) := by
      rw [← cN_eq]
      rcases h with rfl | rfl <;> rfl
    rw [← hK]
    refine endX_of trivial (Nat.le_refl _) (Nat.zero_le _) rfl (r0 := .tup [.hsl 3 0 0 uses.length 1, .int .i64 s.mny]) ?_ ?_ ⟨s, rfl, rfl, inv, fun x hx => hord x (by omega)⟩
    · simp [v18, resV, resL, res1, pack, En.f, getE_cons]
    · rw [fixd_tup2, fix_ints hg (tabN_len _ _), fixd_int]; rfl
  have hwi := inc64 (i := i) (by omega)
  by_cases hlt : i < uses.length
  · by_cases h0 : s.ord i = 0
    · have hnx : s.nx ≤ 2048 := by have := inv.cnt; omega
      have hop := inv.empty
      have hcall : ∃ r H', T Try.prog 23 [.ptr 4 0 0, .int .i64 i] H r H' ∧ ∃ s' ver rl jl, H' = HB uses.length (rows false uses) s' ver (nV rl) (nV jl) [] ∧ Inv uses.length (nbU uses) s' [] ∧ More (enterS s i) s' := by
        rcases hH with rfl | ⟨ver, rl, jl, rfl⟩
        · obtain ⟨r, H', h1, s', ver, rl, _, h2, h3, h4⟩ := look_T hok hr inv hlt h0 (by simp [HA]) (rl0 := []) (jl := [i, 0]) (enterA_T uses.length (rows false uses) s i hlt hnx hop rfl)
          exact ⟨r, H', h1, s', ver, rl, _, h2, h3, h4⟩
        · obtain ⟨r, H', h1, s', ver, rl, _, h2, h3, h4⟩ := look_T hok hr inv hlt h0 (by simp [HB]) (rl0 := []) (jl := jl) (enter_T uses.length (rows false uses) s ver (nV rl) (nV jl) i hlt hnx (by rw [hop]; simp) rfl (ids_nV _ _))
          exact ⟨r, H', h1, s', ver, rl, _, h2, h3, h4⟩
      obtain ⟨r, H', hT, s', ver', rl', jl', hH', inv', more⟩ := hcall
      have hfin : ∃ m', m' < m ∧ ∃ i_1 s ex, i_1 + m' = uses.length ∧ Inv uses.length (nbU uses) s [] ∧ (∀ x, x < i_1 → s.ord x ≠ 0) ∧
          (⟨[(5, .ptr 4 0 0), (21, .int .i64 uses.length), (22, .int .i64 ((i + 1 : Nat) : Int))], .u⟩ : En) = ⟨(5, .ptr 4 0 0) :: (21, .int .i64 uses.length) :: (22, .int .i64 i_1) :: ex, .u⟩ ∧
          (H' = HA uses.length (rows false uses) s ∨ ∃ ver rl jl, H' = HB uses.length (rows false uses) s ver (nV rl) (nV jl) []) := by
        refine ⟨m - 1, by omega, i + 1, s', [], by omega, inv', fun x hx => more x ?_, rfl, .inr ⟨ver', rl', jl', hH'⟩⟩
        by_cases hxi : x = i
        · subst hxi; rw [enter_ordk]; omega
        · rw [enter_ord hxi]; exact hord x (by omega)
      rcases hH with rfl | ⟨ver, rl, jl, rfl⟩
      · rw [HA] at hT ⊢
        simp only [go_sem, ↓reduceIte, Int.toNat_natCast, Nat.mul_one, cN_get hlt, ↓run_addW, hwi]
        exact ⟨fun _ => ⟨by omega, by omega, fun _ => ⟨r, H', hT, hfin⟩, fun h => absurd h (by simp [h0])⟩, fun h => absurd h (by omega)⟩
      · rw [HB_def s] at hT ⊢
        simp only [go_sem, ↓reduceIte, Int.toNat_natCast, Nat.mul_one, cN_get hlt, ↓run_addW, hwi]
        exact ⟨fun _ => ⟨by omega, by omega, fun _ => ⟨r, H', hT, hfin⟩, fun h => absurd h (by simp [h0])⟩, fun h => absurd h (by omega)⟩
    · have hord' : ∀ x, x < i + 1 → s.ord x ≠ 0 := by
        intro x hx
        by_cases hxi : x = i
        · subst hxi; exact h0
        · exact hord x (by omega)
      rcases hH with rfl | ⟨ver, rl, jl, rfl⟩
      · rw [HA]
        simp only [go_sem, ↓reduceIte, Int.toNat_natCast, Nat.mul_one, cN_get hlt, ↓run_addW, hwi]
        exact ⟨fun _ => ⟨by omega, by omega, fun h => absurd h (by simp; omega), fun _ => ⟨m - 1, by omega, i + 1, s, _, by omega, inv, hord', rfl, .inl rfl⟩⟩, fun h => absurd h (by omega)⟩
      · rw [HB_def s]
        simp only [go_sem, ↓reduceIte, Int.toNat_natCast, Nat.mul_one, cN_get hlt, ↓run_addW, hwi]
        exact ⟨fun _ => ⟨by omega, by omega, fun h => absurd h (by simp; omega), fun _ => ⟨m - 1, by omega, i + 1, s, _, by omega, inv, hord', rfl, .inr ⟨ver, rl, jl, rfl⟩⟩⟩, fun h => absurd h (by omega)⟩
  · rcases hH with rfl | ⟨ver, rl, jl, rfl⟩
    · have := hend (ver := 0) (rl := []) (jl := []) (E := []) (by omega) (.inl rfl)
      rw [HA] at this ⊢
      simp only [go_sem, ↓reduceIte, Int.toNat_natCast]
      exact ⟨fun h => absurd h (by omega), fun _ => this⟩
    · have := hend (ver := ver) (rl := nV rl) (jl := nV jl) (E := []) (by omega) (.inr rfl)
      rw [HB_def s] at this ⊢
      simp only [go_sem, ↓reduceIte, Int.toNat_natCast]
      exact ⟨fun h => absurd h (by omega), fun _ => this⟩
end Go.Proofs.Ytglemgdlkddjhaa.Vm
