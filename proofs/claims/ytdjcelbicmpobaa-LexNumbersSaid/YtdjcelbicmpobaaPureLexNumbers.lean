/- LexNumbers: for every number, the digits of its size are one token, with that number. No condition. -/
import Derived.Test.YtdjcelbicmpobaaH32
import Derived.Test.YtdjcelbicmpobaaSpecG
import Derived.OpenShut
namespace Go.Proofs.Ytdjcelbicmpobaa.Pure
open Go.RowKit Go.Proofs.Ytdjcelbicmpobaa.H Go.Proofs.YtdjcelbicmpobaaW.PrintWords Go.Proofs.YtdjcelbicmpobaaW.PrintLast Go.Proofs.Ytdjcelbicmpobaa.Lx

theorem digit_cls : ∀ n : Fin 256, 48 ≤ n.val → n.val ≤ 57 → cls n.val = 3 := by decide +kernel
theorem digit_cls' {c : UInt8} (h : isDigit c) : cls c.toNat = 3 := digit_cls ⟨c.toNat, c.toNat_lt⟩ h.1 h.2
theorem run_digits : ∀ r : L, (∀ c ∈ r, isDigit c) → runL 3 r = r
  | [], _ => rfl
  | c :: r, h => by
    rw [runL_cons, goes_3, digit_cls' (h c (by simp)), run_digits r (fun x hx => h x (by simp [hx]))]
    rfl
theorem least_num : numv leastL = 9223372036854775808 := by decide +kernel
/-- What the digits of a number come to. -/
theorem val_digs {u : Nat} (h : u ≤ 9223372036854775808) : valS (digs u) = (if u = 9223372036854775808 then -9223372036854775808 else (u : Int), 0) := by
  have hn := numv_digs u u (Nat.le_refl _)
  unfold valS
  by_cases hl : digs u = leastL
  · have hu : u = 9223372036854775808 := by rw [← hn, hl]; exact least_num
    rw [if_pos hl, if_pos hu]
  · have hu : ¬ u = 9223372036854775808 := by
      intro e
      refine hl ?_
      have h1 := digs_numv leastL (by unfold leastL isDigit; decide) (by decide) (by decide)
      rw [least_num] at h1
      rw [e, h1]
    have hlen := digs_len 19 u (Nat.lt_of_le_of_lt h (by decide)) (by decide)
    have h3 : ¬ ((digs u).length > 19 ∨ ((digs u).head? = some 48 ∧ (digs u).length > 1) ∨ numv (digs u) > 9223372036854775807) := by
      intro hh
      rcases hh with hh | hh | hh
      · exact absurd hh (Nat.not_lt.2 hlen)
      · have h0 := digs_head u u (Nat.le_refl _) hh.1
        have h1 := hh.2
        rw [h0, digs_small (by decide)] at h1
        exact absurd h1 (by decide)
      · rw [hn] at hh
        omega
    rw [if_neg hl, if_neg h3, if_neg hu, hn]

theorem toks_digs {u : Nat} (h : u ≤ 9223372036854775808) : allToks (str (digs u)) = ([tok 4 (digs u) (if u = 9223372036854775808 then -9223372036854775808 else (u : Int)) (1, 1)], 0, 0, 0) := by
  have hd := digs_digit u u (Nat.le_refl _)
  have hlen := digs_len 19 u (Nat.lt_of_le_of_lt h (by decide)) (by decide)
  have hv := val_digs h
  unfold allToks
  rw [size_str, dat_str, if_neg (Nat.not_lt.2 (Nat.le_trans hlen (by decide)))]
  generalize hg : digs u = t at *
  have hne : t ≠ [] := by rw [← hg]; exact digs_ne u
  cases t with
  | nil => exact absurd rfl hne
  | cons c r =>
    have hc : isDigit c := hd c (by simp)
    have h3 := digit_cls' hc
    have hb : blankN (c :: r) = 0 := by
      unfold isDigit at hc
      refine blankN_none ?_ ?_
      · rintro (e | e) <;> (rw [e] at hc; revert hc; decide)
      · rintro ⟨e, _⟩; rw [e] at hc; revert hc; decide
    have hdr : (c :: r : L).drop (blankN (c :: r)) = c :: r := by rw [hb]; rfl
    have hcz : ¬ cls c.toNat = 0 := by rw [h3]; decide
    have ht : tokL c r = c :: r := by unfold tokL; rw [h3, run_digits r (fun x hx => hd x (by simp [hx]))]
    have hk : kindS (cls c.toNat) (c :: r) = 4 := by rw [h3]; rfl
    have he : errOf (kindS (cls c.toNat) (tokL c r)) (tokL c r) 0 = 0 := by
      rw [errOf_neg (by intro hh; exact absurd hh.2 (by decide)), ht, hk]
      unfold err0
      rw [if_pos rfl, hv]
    have hp : adv (1, 1) ((c :: r : L).take (blankN (c :: r))) = (1, 1) := by rw [hb]; rfl
    have hrest : ∀ p, toks p 1 ((c :: r : L).drop (c :: r).length) = ([], 0, 0, 0) := by
      intro p
      rw [List.drop_length]
      exact toks_end (by simp)
    rw [toks_one hdr hcz he, hp]
    simp only [Nat.zero_add, hrest, ht, hk, if_pos True.intro, hv]

theorem one_digs {u : Nat} (h : u ≤ 9223372036854775808) : Ev (fun k => lex_One.f k (str (digs u))) (4, str (digs u), (if u = 9223372036854775808 then -9223372036854775808 else (u : Int)), 1, 1, false, true) := by
  have hlen := digs_len 19 u (Nat.lt_of_le_of_lt h (by decide)) (by decide)
  have ht := tokens_ev (s := str (digs u)) (by rw [size_str]; exact Nat.le_trans hlen (by decide))
  rw [toks_digs h] at ht
  unfold lex_One.f
  refine Ev.bind ht ?_
  refine Ev.pos rfl (Ev.pos rfl (Ev.pos (show (0 : Int) < 1 by decide) (Ev.pos rfl (Ev.some rfl))))

theorem size_neg {n : Int} (h0 : -9223372036854775808 ≤ n) (h1 : n < 0) : changelingref01_Size.f n = some (((-n).toNat : Nat) : Int) := by
  unfold changelingref01_Size.f
  rw [if_pos h1]
  refine congrArg some ?_
  show (-(n % 18446744073709551616)) % 18446744073709551616 = _
  omega

theorem LexNumbers : changelinglaw02_LexNumbers.Pure := by
  intro n hwf
  obtain ⟨h0, h1⟩ := bounds_i64 hwf
  refine Ev.rounds (g := fun k => changelinglaw02_LexNumbers.f k n) ?_
  unfold changelinglaw02_LexNumbers.f
  have go : ∀ u : Nat, changelingref01_Size.f n = some (u : Int) → u ≤ 9223372036854775808 → (n < 0 → n = -9223372036854775808 → u = 9223372036854775808) → (n < 0 → ¬ n = -9223372036854775808 → (u : Int) = -n ∧ ¬ u = 9223372036854775808) → (¬ n < 0 → (u : Int) = n ∧ ¬ u = 9223372036854775808) →
      Ev (fun k => (changelingref01_Size.f n).bind fun t344 => ((changelingref01_Digits.f k t344).bind fun t345 => ((lex_One.f k t345).bind fun bt346 => (if n < 0 then (if n = (-9223372036854775808) then (if bt346.2.2.2.2.2.2 = true then (if bt346.1 = 4 then (if bt346.2.2.1 = n then (if bt346.2.1.toList = t345.toList then ((changelinglaw02_known.f k).bind fun t354 => (some t354)) else (some false)) else (some false)) else (some false)) else (some false)) else (if bt346.2.2.2.2.2.2 = true then (if bt346.1 = 4 then (if bt346.2.2.1 = (wrap64 (-n)) then (if bt346.2.1.toList = t345.toList then ((changelinglaw02_known.f k).bind fun t355 => (some t355)) else (some false)) else (some false)) else (some false)) else (some false))) else (if bt346.2.2.2.2.2.2 = true then (if bt346.1 = 4 then (if bt346.2.2.1 = n then (if bt346.2.1.toList = t345.toList then ((changelinglaw02_known.f k).bind fun t356 => (some t356)) else (some false)) else (some false)) else (some false)) else (some false))))) ) true := by
    intro u hs hu a1 a2 a3
    rw [hs]
    refine Ev.bind (g := fun _ => some (u : Int)) (Ev.now _) ?_
    refine Ev.bind (digits_ev u u (Nat.le_refl _) (Nat.lt_of_le_of_lt hu (by decide))) ?_
    refine Ev.bind (one_digs hu) ?_
    have fin := Ev.bind known_ev (Ev.now true)
    by_cases hn : n < 0
    · refine Ev.pos hn ?_
      by_cases hm : n = -9223372036854775808
      · refine Ev.pos hm (Ev.pos rfl (Ev.pos rfl (Ev.pos ?_ (Ev.pos rfl fin))))
        show (if u = 9223372036854775808 then -9223372036854775808 else (u : Int)) = n
        rw [if_pos (a1 hn hm), hm]
      · refine Ev.neg hm (Ev.pos rfl (Ev.pos rfl (Ev.pos ?_ (Ev.pos rfl fin))))
        show (if u = 9223372036854775808 then -9223372036854775808 else (u : Int)) = wrap64 (-n)
        have h5 := a2 hn hm
        rw [if_neg h5.2, h5.1]
        unfold wrap64
        omega
    · refine Ev.neg hn (Ev.pos rfl (Ev.pos rfl (Ev.pos ?_ (Ev.pos rfl fin))))
      show (if u = 9223372036854775808 then -9223372036854775808 else (u : Int)) = n
      have h5 := a3 hn
      rw [if_neg h5.2, h5.1]
  by_cases hn : n < 0
  · exact go (-n).toNat (size_neg h0 hn) (by omega) (by omega) (by omega) (by omega)
  · have e : n = ((n.toNat : Nat) : Int) := by omega
    have hs : changelingref01_Size.f n = some ((n.toNat : Nat) : Int) := by
      have := Lx.size_eq (n := n.toNat) (by omega)
      rw [← e] at this
      rw [this, ← e]
    exact go n.toNat hs (by omega) (by omega) (by omega) (by omega)

end Go.Proofs.Ytdjcelbicmpobaa.Pure
