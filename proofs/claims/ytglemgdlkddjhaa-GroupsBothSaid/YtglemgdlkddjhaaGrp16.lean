/-
The groups, part 16: Groups.
-/
import Derived.Test.YtglemgdlkddjhaaGrp15
namespace Go.Proofs.Ytglemgdlkddjhaa.Vm
open Go

def outF (uses : List (List Int)) (grp : Nat → Nat) : Nat → (Nat → Bool) → List (List Int)
  | 0, _ => []
  | f + 1, dn => natI (memL uses.length grp (readyG uses grp dn)) :: outF uses grp f (updN dn (readyG uses grp dn) true)
theorem memC_zero (grp : Nat → Nat) (many : Nat) : (List.replicate many [V.sl true 1 []]).flatten = memC 0 grp many := by
  show _ = (List.range many).map fun _ => V.sl true 1 []
  induction many with
  | zero => rfl
  | succ n ih => rw [List.replicate_succ', List.flatten_append, ih, List.range_succ, List.map_append]; rfl
theorem memL_succ (n : Nat) (grp : Nat → Nat) (g : Nat) : memL (n + 1) grp g = if grp n == g then memL n grp g ++ [n] else memL n grp g := by
  unfold memL
  rw [List.range_succ, List.filter_append]
  by_cases h : grp n == g <;> simp [h]
theorem memC_set (n : Nat) (grp : Nat → Nat) (many : Nat) : (memC n grp many).set (grp n) (ints true (natI (memL n grp (grp n) ++ [n]))) = memC (n + 1) grp many := by
  apply List.ext_getElem?
  intro j
  rw [List.getElem?_set, memC_len]
  by_cases hj : j < many
  · rw [memC_get hj, memC_get hj, memL_succ]
    by_cases hg : grp n = j
    · subst hg; rw [if_pos rfl, if_pos hj]; simp
    · rw [if_neg hg, if_neg (by simpa using hg)]
  · rw [List.getElem?_eq_none (by rw [memC_len]; omega), List.getElem?_eq_none (by rw [memC_len]; omega)]
    split
    · rw [if_neg (by omega)]
    · rfl

theorem groupsRaw_T (o : Bool) (uses : List (List Int)) (hok : wrongE uses = 0) (hr : ∀ r ∈ uses, Big r.length) : ∃ s, Inv uses.length (nbU uses) s [] ∧ (∀ x, x < uses.length → s.ord x ≠ 0) ∧
    T Try.prog 10 [rows o uses] [] (.tup [rows true (outF uses s.grp s.mny fun _ => false), .int .i64 0]) [] := by
  have hn := len_ok hok
  obtain ⟨_, _, hfind, s, rfl, rfl, inv, hord⟩ := find_T false uses hok hr
  have hop := inv.empty
  have hg : ∀ x, x < uses.length → s.grp x < s.mny := fun x hx => inv.cgrp x (hord x hx) (by rw [hop]; exact List.not_mem_nil)
  have hmn : s.mny ≤ 2048 := by have := inv.mny; have := inv.cnt; omega
  refine ⟨s, inv, hord, ?_⟩
  generalize s.mny = many at hfind hg hmn ⊢
  generalize s.grp = grp at hfind hg ⊢
  refine T.of0 mix c10 rfl ?_
  unfold v10
  simp only [go_sem, ↓reduceIte, rows]
  refine ⟨_, _, right_T _ _ _ hr, ?_⟩
  simp only [go_sem, ↓reduceIte, rows, hok]
  refine ⟨fun h => absurd h (by simp), fun _ => ⟨_, _, hfind, ?_⟩⟩
  simp only [go_sem, ↓reduceIte, rows, ints, Int.toNat_natCast, tabN_len]
  refine ⟨by omega, ?_⟩
  refine WP.loop' (fun m E H => ∃ i ex, i + m = uses.length ∧ E = ⟨(0, rows o uses) :: (5, ints false (tabN uses.length grp)) :: (6, .int .i64 many) :: (7, .hsl 0 0 0 many 1) :: (25, ints false (tabN uses.length grp)) :: (26, .int .i64 uses.length) :: (27, .int .i64 i) :: ex, .u⟩ ∧
      H = [.cells 0 (memC i grp many)]) (n := uses.length)
    ⟨0, [], by omega, by simp [rows, ints], by rw [memC_zero]⟩ ?_
  rintro m E H ⟨i, ex, hi, rfl, rfl⟩
  have hwi := inc64 (i := i) (by omega)
  by_cases hlt : i < uses.length
  · have hti := tabN_get (f := grp) hlt
    have hgm := hg i hlt
    have hm := memC_get (n := i) (grp := grp) hgm
    simp only [go_sem, ↓reduceIte, ↓ex_map, rows, ints, Int.toNat_natCast, ↓run_addW, hwi]
    refine ⟨fun _ => ⟨by omega, _, hti, ?_⟩, fun h => absurd h (by omega)⟩
    simp only [go_sem, ↓reduceIte, ↓ex_map, rows, ints, Int.toNat_natCast, ↓run_addW, hwi, Nat.mul_one, hm, memC_len]
    refine ⟨by omega, by omega, ?_, by omega, by omega, by rw [List.length_set, memC_len]; omega, m - 1, by omega, i + 1, _, by omega, rfl, ?_⟩
    · have := memL_len i grp (grp i)
      rw [natI_len]; exact fits_big (by omega)
    · rw [List.set_set, ← memC_set]
      simp [ints, natI]
  · simp only [go_sem, ↓reduceIte, ↓ex_map, rows, ints, Int.toNat_natCast, cB_zero]
    refine ⟨fun h => absurd h (by omega), fun _ => ⟨by omega, ?_⟩⟩
    have hin : i = uses.length := by omega
    subst hin
    refine WP.loop' (fun m E H => ∃ j dn acc ex, j + m = many ∧ acc.length = j ∧ acc ++ outF uses grp m dn = outF uses grp many (fun _ => false) ∧
        E = ⟨(0, rows o uses) :: (5, ints false (tabN uses.length grp)) :: (7, .hsl 0 0 0 many 1) :: (10, .hsl 1 0 0 many 1) :: (11, rows true acc) :: (45, .int .i64 many) :: (46, .int .i64 j) :: ex, .u⟩ ∧
        H = [.cells 0 (memC uses.length grp many), .cells 0 (cB many dn)]) (n := many)
      ⟨0, fun _ => false, [], [], by omega, rfl, rfl, by simp [rows, ints], rfl⟩ ?_
    rintro m E H ⟨j, dn, acc, ex, hj, hacc, hout, rfl, rfl⟩
    have hwj := inc64 (i := j) (by omega)
    by_cases hjm : j < many
    · have hG : readyG uses grp dn < many := by
        unfold readyG
        split
        · rename_i k hk
          exact hg k (by simpa using List.mem_of_find?_eq_some hk)
        · omega
      have hT := ready19_T uses hok hr grp many hg dn
      generalize hgg : readyG uses grp dn = g at hT hG
      simp only [go_sem, ↓reduceIte, ↓ex_map, rows, ints, Int.toNat_natCast, ↓run_addW, hwj]
      refine ⟨fun _ => ⟨_, _, hT, ?_⟩, fun h => absurd h (by omega)⟩
      simp only [go_sem, ↓reduceIte, ↓ex_map, rows, ints, Int.toNat_natCast, ↓run_addW, hwj, Nat.mul_one, memC_get hG, cB_len, cB_set]
      refine ⟨by omega, by omega, by omega, by omega, by omega, ?_, ?_⟩
      · simp [fits]; omega
      · obtain ⟨m, rfl⟩ : ∃ m', m = m' + 1 := ⟨m - 1, by omega⟩
        refine ⟨m, by omega, j + 1, updN dn g true, acc ++ [natI (memL uses.length grp g)], [], by omega, by simp [hacc], ?_, ?_, rfl⟩
        · rw [← hout, outF, hgg, List.append_assoc]; rfl
        · simp [rows, ints]
    · simp only [go_sem, ↓reduceIte, ↓ex_map, rows, ints, Int.toNat_natCast]
      refine ⟨fun h => absurd h (by omega), fun _ => ?_⟩
      have : m = 0 := by omega
      subst this
      rw [outF, List.append_nil] at hout
      rw [← hout]
end Go.Proofs.Ytglemgdlkddjhaa.Vm
