/- What the reference's lexer comes to (2): numbers, and all tokens. -/
import Derived.Test.YtdjcelbicmpobaaSpecF
import Derived.Test.YtdjcelbicmpobaaSpecK
import Derived.Test.YtdjcelbicmpobaaH20
namespace Go.Proofs.Ytdjcelbicmpobaa.Lx
open Go.RowKit Go.Proofs.YtdjcelbicmpobaaW.PrintWords Go.Proofs.YtdjcelbicmpobaaW.PrintLast Go.Proofs.Ytdjcelbicmpobaa.H

/-! ### The digits of a number -/
def dig (n : Nat) : UInt8 := UInt8.ofNat (48 + n)
def digs (u : Nat) : L := if u < 10 then [dig u] else digs (u / 10) ++ [dig (u % 10)]
termination_by u
theorem digs_small {u : Nat} (h : u < 10) : digs u = [dig u] := by rw [digs, if_pos h]
theorem digs_big {u : Nat} (h : ¬ u < 10) : digs u = digs (u / 10) ++ [dig (u % 10)] := by rw [digs, if_neg h]
theorem one_digit : ∀ d : Fin 10, (⟨#[48, 49, 50, 51, 52, 53, 54, 55, 56, 57]⟩ : ByteArray).extract d.val (d.val + 1) = str [dig d.val] := by
  intro d
  apply dat_inj
  rw [dat_str]
  revert d
  decide +kernel
theorem dig_nat : ∀ d : Fin 10, (dig d.val).toNat = 48 + d.val := by decide +kernel
theorem dig_toNat {n : Nat} (h : n < 10) : (dig n).toNat = 48 + n := dig_nat ⟨n, h⟩
theorem digs_len : ∀ (m u : Nat), u < 10 ^ m → 0 < m → (digs u).length ≤ m
  | 0, u, h, h0 => by omega
  | m + 1, u, h, _ => by
    by_cases hu : u < 10
    · rw [digs_small hu]; simp
    · rw [digs_big hu, List.length_append, List.length_singleton]
      rw [Nat.pow_succ] at h
      cases m with
      | zero => omega
      | succ m =>
        have := digs_len (m + 1) (u / 10) (by omega) (by omega)
        omega
theorem digs_digit : ∀ (m u : Nat), u ≤ m → ∀ c ∈ digs u, isDigit c := by
  intro m
  induction m with
  | zero =>
    intro u h c hc
    rw [digs_small (by omega)] at hc
    obtain rfl := List.mem_singleton.1 hc
    unfold isDigit
    rw [dig_toNat (by omega)]
    omega
  | succ m ih =>
    intro u h c hc
    by_cases hu : u < 10
    · rw [digs_small hu] at hc
      obtain rfl := List.mem_singleton.1 hc
      unfold isDigit
      rw [dig_toNat hu]
      omega
    · rw [digs_big hu] at hc
      rcases List.mem_append.1 hc with hc | hc
      · exact ih (u / 10) (by omega) c hc
      · obtain rfl := List.mem_singleton.1 hc
        unfold isDigit
        rw [dig_toNat (Nat.mod_lt _ (by decide))]
        have := Nat.mod_lt u (show 10 > 0 by decide)
        omega
theorem digs_ne (u : Nat) : digs u ≠ [] := by
  by_cases h : u < 10
  · rw [digs_small h]; simp
  · rw [digs_big h]; simp
/-- A number whose digits begin with a 0 is 0. -/
theorem digs_head : ∀ (m u : Nat), u ≤ m → (digs u).head? = some 48 → u = 0 := by
  intro m
  induction m with
  | zero => intro u h _; omega
  | succ m ih =>
    intro u h hh
    by_cases hu : u < 10
    · rw [digs_small hu] at hh
      simp only [List.head?_cons, Option.some.injEq] at hh
      have := dig_toNat hu
      rw [hh] at this
      simp at this
      omega
    · rw [digs_big hu] at hh
      have hne := digs_ne (u / 10)
      have := ih (u / 10) (by omega) (by
        revert hne hh
        cases digs (u / 10) with
        | nil => intro _ h; exact absurd rfl h
        | cons a b => intro h _; simpa using h)
      omega
theorem numv_digs : ∀ (m u : Nat), u ≤ m → numv (digs u) = u := by
  intro m
  induction m with
  | zero =>
    intro u h
    obtain rfl : u = 0 := by omega
    decide +kernel
  | succ m ih =>
    intro u h
    by_cases hu : u < 10
    · rw [digs_small hu]
      show 0 * 10 + ((dig u).toNat - 48) = u
      rw [dig_toNat hu]; omega
    · rw [digs_big hu, numv_snoc, ih (u / 10) (by omega), dig_toNat (Nat.mod_lt _ (by decide))]
      omega
theorem snoc_ind {P : L → Prop} (h0 : P []) (h1 : ∀ t c, P t → P (t ++ [c])) : ∀ t, P t := by
  intro t
  rw [← List.reverse_reverse t]
  induction t.reverse with
  | nil => exact h0
  | cons c r ih => rw [List.reverse_cons]; exact h1 _ _ ih
theorem dig_of {c : UInt8} (h : isDigit c) : dig (c.toNat - 48) = c := by
  unfold isDigit at h
  apply UInt8.toNat_inj.1
  rw [dig_toNat (by omega)]
  omega
/-- The digits of a row of digits' number are that row, if it has no 0 ahead. -/
theorem digs_numv : ∀ t : L, (∀ c ∈ t, isDigit c) → t ≠ [] → ¬ (t.head? = some 48 ∧ t.length > 1) → digs (numv t) = t := by
  refine snoc_ind (by simp) ?_
  intro t c ih hd _ hh
  have hc : isDigit c := hd c (by simp)
  have hc2 := hc
  unfold isDigit at hc2
  cases t with
  | nil =>
    rw [List.nil_append, show numv [c] = c.toNat - 48 by show 0 * 10 + (c.toNat - 48) = _; omega, digs_small (by omega), dig_of hc]
  | cons d r =>
    have hd0 : ¬ d = 48 := by
      intro e
      exact hh ⟨by rw [e]; rfl, by simp⟩
    have iht := ih (fun x hx => hd x (by simp at hx ⊢; rcases hx with hx | hx <;> simp [hx])) (by simp) (by intro x; exact hd0 (by have := x.1; simpa using this))
    have hpos : 0 < numv (d :: r) := by
      rcases Nat.eq_zero_or_pos (numv (d :: r)) with h0 | h0
      · rw [h0, digs_small (by decide)] at iht
        injection iht with e1 e2
        exact absurd (e1.symm.trans (by decide +kernel)) hd0
      · exact h0
    rw [numv_snoc, digs_big (by omega), show (numv (d :: r) * 10 + (c.toNat - 48)) / 10 = numv (d :: r) by omega, show (numv (d :: r) * 10 + (c.toNat - 48)) % 10 = c.toNat - 48 by omega, iht, dig_of hc]
theorem digs_numv_iff {t : L} (hd : ∀ c ∈ t, isDigit c) (hne : t ≠ []) : digs (numv t) = t ↔ ¬ (t.head? = some 48 ∧ t.length > 1) := by
  constructor
  · intro h hh
    have h1 : (digs (numv t)).head? = some 48 := by rw [h]; exact hh.1
    have h2 := digs_head _ _ (Nat.le_refl _) h1
    rw [h2, digs_small (by decide)] at h
    have := congrArg List.length h
    simp at this
    omega
  · exact digs_numv t hd hne

theorem digits_ev : ∀ (m u : Nat), u ≤ m → u < 18446744073709551616 → Ev (fun k => changelingref01_Digits.f k (u : Int)) (str (digs u)) := by
  intro m
  induction m with
  | zero =>
    intro u h hu
    obtain rfl : u = 0 := by omega
    exact Ev.of (fun k => changelingref01_Digits.mono _ k) (k := 1) (by decide +kernel)
  | succ m ih =>
    intro u h hu
    refine Ev.succ ?_
    by_cases h10 : u < 10
    · have k1 : (u : Int) < 10 := by omega
      have k2 : 0 ≤ (u : Int) := by omega
      have hw : IntKind.u64.wrap ((u : Int) + 1) = ((u + 1 : Nat) : Int) := by rw [u64 (by omega) (by omega)]; omega
      have k3 : (u : Int) ≤ ((u + 1 : Nat) : Int) := by omega
      have k4 : ((u + 1 : Nat) : Int) ≤ 10 := by omega
      simp only [changelingref01_Digits.f, if_pos k1, if_pos k2, hw, if_pos k3, if_pos k4, Int.toNat_natCast]
      exact Ev.some (by rw [digs_small h10]; exact one_digit ⟨u, h10⟩)
    · have k1 : ¬ ((u : Int) < 10) := by omega
      have ed : Int.tdiv (u : Int) 10 = ((u / 10 : Nat) : Int) := by rw [Int.tdiv_eq_ediv_of_nonneg (by omega)]; omega
      have em : Int.tmod (u : Int) 10 = ((u % 10 : Nat) : Int) := by rw [Int.tmod_eq_emod_of_nonneg (by omega)]; omega
      have hlt := Nat.mod_lt u (show 10 > 0 by decide)
      have k2 : 0 ≤ ((u % 10 : Nat) : Int) := by omega
      have hw : IntKind.u64.wrap (((u % 10 : Nat) : Int) + 1) = ((u % 10 + 1 : Nat) : Int) := by rw [u64 (by omega) (by omega)]; omega
      have k3 : ((u % 10 : Nat) : Int) ≤ ((u % 10 + 1 : Nat) : Int) := by omega
      have k4 : ((u % 10 + 1 : Nat) : Int) ≤ 10 := by omega
      have hone := one_digit ⟨u % 10, hlt⟩
      simp only at hone
      simp only [changelingref01_Digits.f, if_neg k1, ed, em, hw, if_pos k2, if_pos k3, if_pos k4, Int.toNat_natCast, hone]
      rw [u64 (by omega) (by omega)]
      refine Ev.bind (ih (u / 10) (by omega) (by omega)) ?_
      have hlen := digs_len 20 (u / 10) (by have : (10 : Nat) ^ 20 = 100000000000000000000 := by decide
                                            omega) (by decide)
      have k5 : (str (digs (u / 10))).size + (str [dig (u % 10)]).size ≤ 9223372036854775807 := by rw [size_str, size_str]; simp; omega
      simp only [if_pos k5]
      refine Ev.some ?_
      rw [digs_big h10]
      apply dat_inj
      rw [dat_append, dat_str, dat_str, dat_str]

theorem size_eq {n : Nat} (h : n < 9223372036854775808) : changelingref01_Size.f (n : Int) = some (n : Int) := by
  unfold changelingref01_Size.f
  rw [if_neg (by omega), u64 (by omega) (by omega)]

theorem text_ev {u : Nat} (h : u < 9223372036854775808) : Ev (fun k => changelingref01_Text.f k (u : Int)) (str (digs u)) := by
  have hd := digits_ev u u (Nat.le_refl _) (by omega)
  have h0 : ¬ ((u : Int) < 0) := by omega
  have hs := size_eq h
  unfold changelingref01_Text.f
  simp only [if_neg h0, hs, Option.bind_some]
  exact Ev.bind (f := fun _ t => some t) hd (Ev.now _)

theorem plain_loop {s : ByteArray} (hs : s.size ≤ 19) (hd : ∀ c ∈ dat s, isDigit c) : ∀ (l : L) (i : Nat), (dat s).drop i = l → i ≤ s.size →
    Ev (fun k => changelingref01_plain.l0 k s (numv ((dat s).take i) : Int) (i : Int)) ((numv (dat s) : Int), true)
  | [], i, h, hi => by
    have e := drop_nil h hi
    have h1 : ¬ ((i : Int) < (s.size : Int)) := by omega
    have h2 : (dat s).take i = dat s := by rw [e, ← dat_length]; exact List.take_length
    refine Ev.succ ?_
    simp only [changelingref01_plain.l0, if_neg h1, h2]
    exact Ev.now _
  | c :: r, i, h, hi => by
    obtain ⟨hlt, hb, hr⟩ := bt_of_drop h
    have ht := take_snoc h
    have hc : isDigit c := hd c (by have : c ∈ (dat s).drop i := by rw [h]; simp
                                    exact List.mem_of_mem_drop this)
    have hm := numv_lt ((dat s).take i) (fun x hx => hd x (List.mem_of_mem_take hx))
    have hm2 : 10 ^ ((dat s).take i).length ≤ 1000000000000000000 := by
      refine Nat.le_trans (Nat.pow_le_pow_right (by decide) (?_ : _ ≤ 18)) (by decide)
      rw [List.length_take]
      omega
    have ih := plain_loop hs hd r (i + 1) hr (by omega)
    have k1 : (i : Int) < (s.size : Int) := by omega
    have k2 : 0 ≤ (i : Int) := by omega
    unfold isDigit at hc
    have k3 : ¬ (bt s (i : Int) < 48) := by rw [hb]; omega
    have k4 : ¬ (bt s (i : Int) > 57) := by rw [hb]; omega
    refine Ev.succ ?_
    simp only [changelingref01_plain.l0, if_pos k1, if_pos k2, if_neg k3, if_neg k4]
    rw [w64 (by omega) (by omega), hb]
    rw [ht, numv_snoc] at ih
    have e1 : ((i + 1 : Nat) : Int) = (i : Int) + 1 := by omega
    rw [e1] at ih
    generalize numv ((dat s).take i) = u at *
    rw [u64 (x := (u : Int) * 10) (by omega) (by omega)]
    rw [show ((c.toNat : Int) - 48) % 256 = (c.toNat : Int) - 48 by omega]
    rw [u64 (by omega) (by omega)]
    rw [show (u : Int) * 10 + ((c.toNat : Int) - 48) = ((u * 10 + (c.toNat - 48) : Nat) : Int) by omega]
    exact ih

theorem min_text : changelingref01_Text.f 60 (-9223372036854775808) = some (str ([45] ++ leastL)) := by decide +kernel

theorem rparse_ev {s : ByteArray} (hd : ∀ c ∈ dat s, isDigit c) (hne : dat s ≠ []) : Ev (fun k => changelingref01_Parse.f k s) (parseS (dat s)) := by
  cases hds : dat s with
  | nil => exact absurd hds hne
  | cons c r =>
    obtain ⟨hlt, hb, hr⟩ := bt_of_drop (s := s) (i := 0) (by rw [List.drop_zero]; exact hds)
    have hc : isDigit c := hd c (by rw [hds]; simp)
    unfold isDigit at hc
    have hlen : s.size = r.length + 1 := by rw [← dat_length, hds]; rfl
    have k1 : (s.size : Int) > 0 := by omega
    have hb0 : bt s 0 = (c.toNat : Int) := hb
    have k3 : (bt s 0 == 45) = false := by rw [hb0, beq_eq_false_iff_ne]; omega
    unfold changelingref01_Parse.f
    simp only [if_pos k1, k3]
    refine Ev.succ ?_
    simp only [changelingref01_Parse.j0, if_neg (show ¬ (false = true) by decide)]
    refine Ev.succ ?_
    simp only [changelingref01_Parse.j1]
    by_cases h19 : (s.size : Int) > 19
    · refine Ev.bind (a := ((0 : Int), false)) ?_ ?_
      · unfold changelingref01_plain.f
        simp only [if_neg (show ¬ ((s.size : Int) = 0) by omega), decide_eq_true h19]
        refine Ev.succ ?_
        simp only [changelingref01_plain.j0, if_pos True.intro]
        exact Ev.now _
      · simp only [if_neg (show ¬ (false = true) by decide)]
        refine Ev.some ?_
        unfold parseS
        rw [if_pos (Or.inl (by simp only [List.length_cons]; omega))]
    · have hv := numv_lt (dat s) hd
      rw [dat_length] at hv
      have hv2 : numv (dat s) < 10000000000000000000 := Nat.lt_of_lt_of_le hv (pow_19 (by omega))
      refine Ev.bind (a := ((numv (dat s) : Int), true)) ?_ ?_
      · unfold changelingref01_plain.f
        simp only [if_neg (show ¬ ((s.size : Int) = 0) by omega), decide_eq_false h19]
        refine Ev.succ ?_
        simp only [changelingref01_plain.j0, if_neg (show ¬ (false = true) by decide)]
        have := plain_loop (s := s) (by omega) hd (dat s) 0 (by simp) (by omega)
        simpa [numv] using this
      · simp only [if_pos True.intro]
        have hle19 : ¬ (c :: r).length > 19 := by simp only [List.length_cons]; omega
        have hiff := digs_numv_iff hd hne
        clear hv
        generalize hu : numv (dat s) = u at *
        have hu2 : numv (c :: r) = u := by rw [← hds]; exact hu
        by_cases hbig : (u : Int) > 9223372036854775808
        · refine Ev.pos hbig (Ev.some ?_)
          unfold parseS
          have h3 : numv (c :: r) > 9223372036854775807 := by omega
          rw [if_pos (Or.inr (Or.inr h3))]
        · refine Ev.neg hbig ?_
          have hsg : changelingref01_signed.f (u : Int) false = some (wrap64 (u : Int)) := by unfold changelingref01_signed.f; exact if_neg (by decide)
          have hsg2 : Ev (fun _ => changelingref01_signed.f (u : Int) false) (wrap64 (u : Int)) := ⟨0, fun _ _ => hsg⟩
          refine Ev.bind hsg2 ?_
          by_cases hedge : u = 9223372036854775808
          · have hw : wrap64 (u : Int) = -9223372036854775808 := by unfold wrap64; omega
            rw [hw]
            refine Ev.bind (Ev.of (fun k => changelingref01_Text.mono _ k) min_text) ?_
            have hne2 : ¬ ((str ([45] ++ leastL)).toList = s.toList) := by
              rw [toList_dat, toList_dat, dat_str, hds]
              intro e
              have e1 : (45 : UInt8) = c := by injection e
              have e2 : c.toNat = 45 := by rw [← e1]; rfl
              omega
            refine Ev.neg hne2 (Ev.some ?_)
            unfold parseS
            have h3 : numv (c :: r) > 9223372036854775807 := by omega
            rw [if_pos (Or.inr (Or.inr h3))]
          · have hw : wrap64 (u : Int) = (u : Int) := by unfold wrap64; omega
            rw [hw]
            have hlt2 : u < 9223372036854775808 := by clear hiff hu hu2 hd hne hds hsg hsg2 hw; omega
            refine Ev.bind (a := str (digs u)) (text_ev hlt2) ?_
            by_cases he : digs u = dat s
            · refine Ev.pos (show (str (digs u)).toList = s.toList by rw [toList_dat, toList_dat, dat_str]; exact he) ?_
              refine Ev.bind hsg2 (Ev.some ?_)
              rw [hw]
              have hno := hiff.1 he
              rw [hds] at hno
              have h3 : ¬ ((c :: r).length > 19 ∨ ((c :: r).head? = some 48 ∧ (c :: r).length > 1) ∨ numv (c :: r) > 9223372036854775807) := by
                intro hh
                rcases hh with hh | hh | hh
                · exact hle19 hh
                · exact hno hh
                · rw [hu2] at hh; exact absurd hlt2 (Nat.not_lt.2 hh)
              unfold parseS
              rw [if_neg h3, hu2]
            · refine Ev.neg (show ¬ ((str (digs u)).toList = s.toList) by rw [toList_dat, toList_dat, dat_str]; exact he) (Ev.some ?_)
              have hno : (c :: r).head? = some 48 ∧ (c :: r).length > 1 := by
                rw [← hds]
                exact Classical.not_not.1 (fun hh => he (hiff.2 hh))
              unfold parseS
              rw [if_pos (Or.inr (Or.inl hno))]

theorem rnumber_ev {s : ByteArray} (hd : ∀ c ∈ dat s, isDigit c) (hne : dat s ≠ []) : Ev (fun k => changelingref02_number.f k s) (valS (dat s)) := by
  unfold changelingref02_number.f
  simp only [toList_dat]
  by_cases h : dat s = leastL
  · simp only [if_pos (show dat s = ([57, 50, 50, 51, 51, 55, 50, 48, 51, 54, 56, 53, 52, 55, 55, 53, 56, 48, 56] : List UInt8) from h)]
    exact Ev.some (by unfold valS; rw [if_pos h])
  · simp only [if_neg (show ¬ (dat s = ([57, 50, 50, 51, 51, 55, 50, 48, 51, 54, 56, 53, 52, 55, 55, 53, 56, 48, 56] : List UInt8)) from h)]
    refine Ev.bind (f := fun _ b => some (b.1, b.2)) (rparse_ev hd hne) ?_
    exact Ev.some (by unfold valS parseS; rw [if_neg h])

end Go.Proofs.Ytdjcelbicmpobaa.Lx
