/-
The groups, part 24: the law GroupsRings.
-/
import Derived.Test.YtglemgdlkddjhaaGrp20
namespace Go.Proofs.Ytglemgdlkddjhaa.Vm
open Go

def ringL (N i : Nat) : List (List Int) := (List.range i).map fun k => [(((k + 1) % N : Nat) : Int)]
def rowE (N k : Nat) : List Int := if k + 1 < N then [((k + 1 : Nat) : Int)] else []
def rowL (N i : Nat) : List (List Int) := (List.range i).map (rowE N)
theorem ringL_len (N i : Nat) : (ringL N i).length = i := by simp [ringL]
theorem rowL_len (N i : Nat) : (rowL N i).length = i := by simp [rowL]
theorem ringL_succ (N i : Nat) : ringL N (i + 1) = ringL N i ++ [[(((i + 1) % N : Nat) : Int)]] := by unfold ringL; rw [List.range_succ, List.map_append]; rfl
theorem rowL_succ (N i : Nat) : rowL N (i + 1) = rowL N i ++ [rowE N i] := by unfold rowL; rw [List.range_succ, List.map_append]; rfl
theorem ringL_get {N k : Nat} (h : k < N) : (ringL N N)[k]? = some [(((k + 1) % N : Nat) : Int)] := by simp [ringL, List.getElem?_range h]
theorem rowL_get {N k : Nat} (h : k < N) : (rowL N N)[k]? = some (rowE N k) := by simp [rowL, List.getElem?_range h]
theorem wrongE_ok {uses : List (List Int)} (hl : uses.length ≤ 2048) (h : ∀ r ∈ uses, ∀ x ∈ r, 0 ≤ x ∧ x < uses.length) : wrongE uses = 0 := by
  unfold wrongE
  rw [if_neg (by omega), if_pos]
  rw [List.all_eq_true]
  intro r hr
  unfold okRow
  rw [List.all_eq_true]
  intro x hx
  have := h r hr x hx
  simp [this.1, this.2]
theorem ring_ok {N : Nat} (h0 : 0 < N) (hN : N ≤ 400) : wrongE (ringL N N) = 0 := by
  refine wrongE_ok (by rw [ringL_len]; omega) fun r hr x hx => ?_
  obtain ⟨k, _, rfl⟩ := List.mem_map.1 hr
  rw [List.mem_singleton] at hx
  rw [ringL_len, hx]
  have := Nat.mod_lt (k + 1) h0
  omega
theorem row_okN {N : Nat} (hN : N ≤ 400) : wrongE (rowL N N) = 0 := by
  refine wrongE_ok (by rw [rowL_len]; omega) fun r hr x hx => ?_
  obtain ⟨k, _, rfl⟩ := List.mem_map.1 hr
  unfold rowE at hx
  split at hx
  · rw [List.mem_singleton] at hx
    rw [rowL_len, hx]; omega
  · cases hx
theorem ring_nb {N k : Nat} (h : k < N) : nbU (ringL N N) k = [(k + 1) % N] := by
  rw [nbU_eq (ringL_get h), List.map_singleton, Int.toNat_natCast]
theorem row_nb {N k : Nat} (h : k < N) : nbU (rowL N N) k = if k + 1 < N then [k + 1] else [] := by
  rw [nbU_eq (rowL_get h)]
  unfold rowE
  split
  · rw [List.map_singleton, Int.toNat_natCast]
  · rfl
theorem ring_up {N : Nat} : ∀ (d a : Nat), a + d < N → Rch (nbU (ringL N N)) a (a + d)
  | 0, a, _ => .refl a
  | d + 1, a, h => by
    refine .step (ring_up d a (by omega)) ?_
    rw [ring_nb (by omega), List.mem_singleton, Nat.mod_eq_of_lt (by omega)]; omega
theorem ring_all {N a b : Nat} (ha : a < N) (hb : b < N) : Rch (nbU (ringL N N)) a b := by
  have h1 : Rch (nbU (ringL N N)) a (N - 1) := by
    have := ring_up (N := N) (N - 1 - a) a (by omega)
    rwa [show a + (N - 1 - a) = N - 1 by omega] at this
  have h2 : Rch (nbU (ringL N N)) (N - 1) 0 := by
    refine .one ?_
    rw [ring_nb (by omega), List.mem_singleton, show N - 1 + 1 = N by omega, Nat.mod_self]
  have h3 : Rch (nbU (ringL N N)) 0 b := by
    have := ring_up (N := N) b 0 (by omega)
    rwa [Nat.zero_add] at this
  exact h1.trans (h2.trans h3)
theorem row_le {N a b : Nat} (h : Rch (nbU (rowL N N)) a b) (ha : a < N) : a ≤ b ∧ b < N := by
  refine h.inv (Q := fun x => a ≤ x ∧ x < N) ?_ ⟨Nat.le_refl _, ha⟩
  rintro x ⟨h1, h2⟩ w hw
  rw [row_nb h2] at hw
  split at hw
  · rw [List.mem_singleton] at hw; omega
  · cases hw

theorem ring_groups {N : Nat} (h0 : 0 < N) (hN : N ≤ 400) : ∃ m : List Nat, groupsR (ringL N N) = ([natI m], 0) ∧ m.length = N := by
  obtain ⟨grp, gs, pt⟩ := parted (ringL N N) (ring_ok h0 hN) fun r hr => by
    obtain ⟨k, _, rfl⟩ := List.mem_map.1 hr
    simp
  have hlen := ringL_len N N
  have hsame : ∀ x y, x < N → y < N → grp x = grp y := fun x y hx hy => (pt.ok.same x y (by omega) (by omega)).2 ⟨ring_all hx hy, ring_all hy hx⟩
  have hin := parted_in pt (x := 0) (by omega)
  match gs, pt, hin with
  | [], _, hin => cases hin
  | [g], pt, hin =>
    have hg : grp 0 = g := by simpa using hin
    refine ⟨memL (ringL N N).length grp g, Prod.ext pt.eq pt.err, ?_⟩
    unfold memL
    rw [List.filter_eq_self.2, List.length_range, hlen]
    intro x hx
    rw [hlen] at hx
    simp only [beq_iff_eq]
    rw [← hg]; exact hsame x 0 (by simpa using hx) h0
  | g :: g' :: gs, pt, _ =>
    exfalso
    obtain ⟨x, hx, hxg⟩ := pt.ok.mem 0 (by simp)
    obtain ⟨y, hy, hyg⟩ := pt.ok.mem 1 (by simp)
    have := hsame x y (by omega) (by omega)
    omega

theorem row_list {N : Nat} {grp : Nat → Nat} {many : Nat} (hg : GrpOk (rowL N N) grp many) : ∀ (gs : List Nat) (dn : Nat → Bool) (c : Nat), Good (rowL N N) grp many dn gs → c ≤ N → (∀ x, x < N → (dn (grp x) = true ↔ N - c ≤ x)) →
    ∀ (i g : Nat), gs[i]? = some g → c + i < N ∧ memL N grp g = [N - 1 - c - i]
  | [], _, _, _, _, _, i, g, h => by simp at h
  | g0 :: gs, dn, c, hgood, hc, hdn, i, g, hi => by
    have hlen := rowL_len N N
    obtain ⟨h1, h2, h3, h4⟩ := hgood
    have hinj : ∀ x y, x < N → y < N → grp x = grp y → x = y := by
      intro x y hx hy he
      obtain ⟨k1, k2⟩ := (hg.same x y (by omega) (by omega)).1 he
      have := row_le k1 hx
      have := row_le k2 hy
      omega
    obtain ⟨x, hx, hxg⟩ := hg.mem g0 h2
    rw [hlen] at hx
    have hxc : x < N - c := by
      rcases Nat.lt_or_ge x (N - c) with h | h
      · exact h
      · have := (hdn x hx).2 h
        rw [hxg, h1] at this; cases this
    have hxe : x = N - 1 - c := by
      by_cases hxN : x + 1 < N
      · have := h3 x (by omega) hxg (x + 1) (by rw [row_nb hx, if_pos hxN]; simp)
        rcases this with h | h
        · have := (hdn (x + 1) hxN).1 h
          omega
        · have := hinj (x + 1) x hxN hx (by rw [h, hxg])
          omega
      · omega
    have hmem : memL N grp g0 = [x] := by
      have hall : ∀ y, y ∈ memL N grp g0 ↔ y = x := by
        intro y
        constructor
        · intro hy
          obtain ⟨k1, k2⟩ := memL_lt hy
          exact hinj y x k1 hx (by rw [k2, hxg])
        · rintro rfl
          rw [← hxg]; exact memL_in hx
      have hr := memL_rise N grp g0
      match hm : memL N grp g0, hall, hr with
      | [], hall, _ => exact absurd ((hall x).2 rfl) List.not_mem_nil
      | [y], hall, _ => rw [(hall y).1 (List.mem_cons_self ..)]
      | y :: z :: l, hall, hr =>
        exfalso
        have k1 := (hall y).1 (List.mem_cons_self ..)
        have k2 := (hall z).1 (List.mem_cons_of_mem _ (List.mem_cons_self ..))
        have := (List.pairwise_cons.1 hr).1 z (List.mem_cons_self ..)
        omega
    match i with
    | 0 =>
      simp at hi; subst hi
      exact ⟨by omega, by rw [hmem, hxe]; rfl⟩
    | i + 1 =>
      obtain ⟨k1, k2⟩ := row_list hg gs (updN dn g0 true) (c + 1) h4 (by omega) (fun y hy => by
        by_cases hyx : grp y = g0
        · rw [hyx, updN_same]
          have : y = x := hinj y x hy hx (by rw [hyx, hxg])
          simp; omega
        · rw [updN_other _ _ hyx, hdn y hy]
          have : y ≠ x := by rintro rfl; exact hyx hxg
          omega) i g (by simpa using hi)
      exact ⟨by omega, by rw [k2]; congr 1; omega⟩

theorem row_groups {N : Nat} (h0 : 0 < N) (hN : N ≤ 400) : ∃ L, groupsR (rowL N N) = (L, 0) ∧ L.length = N ∧ ∀ i, i < N → L[i]? = some [((N - 1 - i : Nat) : Int)] := by
  obtain ⟨grp, gs, pt⟩ := parted (rowL N N) (row_okN hN) fun r hr => by
    obtain ⟨k, _, rfl⟩ := List.mem_map.1 hr
    unfold rowE; split <;> simp
  have hlen := rowL_len N N
  have hlist := row_list pt.ok gs (fun _ => false) 0 pt.good (Nat.zero_le _) (fun x hx => ⟨fun h => (nomatch h), fun h => absurd h (by omega)⟩)
  have hle : gs.length ≤ N := by
    rcases Nat.lt_or_ge N gs.length with h | h
    · have := (hlist N _ (List.getElem?_eq_getElem h)).1
      omega
    · exact h
  have hge : N ≤ gs.length := by
    have hin := parted_in pt (x := 0) (by omega)
    obtain ⟨i, hi⟩ := List.mem_iff_getElem?.1 hin
    obtain ⟨k1, k2⟩ := hlist i _ hi
    have h3 := memL_in (n := N) (grp := grp) h0
    rw [k2, List.mem_singleton] at h3
    have := (List.getElem?_eq_some_iff.1 hi).1
    omega
  refine ⟨(groupsR (rowL N N)).1, Prod.ext rfl pt.err, by rw [pt.eq, List.length_map]; omega, fun i hi => ?_⟩
  obtain ⟨g, hgi⟩ : ∃ g, gs[i]? = some g := ⟨_, List.getElem?_eq_getElem (by omega)⟩
  rw [pt.eq, List.getElem?_map, hgi, hlen]
  obtain ⟨_, k2⟩ := hlist i g hgi
  simp only [Option.map_some, k2]
  simp [natI]
end Go.Proofs.Ytglemgdlkddjhaa.Vm
