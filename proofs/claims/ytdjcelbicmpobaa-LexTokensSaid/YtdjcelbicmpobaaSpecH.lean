/- What the reference's lexer comes to (3): all tokens are those of 'toks'; a row of tokens is the same as itself; the fixed calls. -/
import Derived.Test.YtdjcelbicmpobaaSpecG
import Derived.Test.YtdjcelbicmpobaaH22
import Derived.Test.YtdjcelbicmpobaaH23
namespace Go.Proofs.Ytdjcelbicmpobaa.Lx
open Go.RowKit Go.Proofs.YtdjcelbicmpobaaW.PrintWords Go.Proofs.YtdjcelbicmpobaaW.PrintLast Go.Proofs.Ytdjcelbicmpobaa.H

theorem w_nat (a b : Nat) (h : a + b ≤ 1000000000000000000) : wrap64 ((a : Int) + (b : Int)) = ((a + b : Nat) : Int) := by
  rw [w64 (by omega) (by omega)]; omega
theorem allR_nil (p : Int × Int) (l : L) : allR [] (toks p 0 l) = toks p 0 l := by
  have hsh := toks_shape l.length l p 0 (Nat.le_refl _)
  unfold allR
  simp only [List.nil_append]
  by_cases hq : (toks p 0 l).2.1 = 0
  · rw [if_pos hq]
  · rw [if_neg hq]; exact Prod.ext (hsh.2 hq).symm rfl
theorem sum_le {i b t d n len : Nat} (h1 : i + len = n) (h2 : len - b = t + d) (h3 : b ≤ len) (e : Nat) (h4 : e ≤ d) : i + b + t + e ≤ n := by omega

theorem rfault_ev {c : UInt8} {r : L} (hc : ¬ cls c.toNat = 0) : Ev (fun k => changelingref02_fault.f k (str (tokL c r))) (err0 (kindS (cls c.toNat) (tokL c r)) (tokL c r)) := by
  unfold changelingref02_fault.f
  have hk := rkind_ev (s := str (tokL c r)) (c := c) (r := runL (cls c.toNat) r) (by rw [dat_str]; rfl) hc
  rw [dat_str] at hk
  refine Ev.bind hk ?_
  by_cases h4 : kindS (cls c.toNat) (tokL c r) = 4
  · refine Ev.pos h4 ?_
    have h3 := kindS_4.1 h4
    have hv := rnumber_ev (s := str (tokL c r)) (by rw [dat_str]; exact digits_tok h3) (by rw [dat_str]; simp [tokL])
    rw [dat_str] at hv
    exact Ev.bind hv (Ev.some (by unfold err0; rw [if_pos h4]))
  · refine Ev.neg h4 ?_
    rw [size_str]
    by_cases h32 : (tokL c r).length > 32
    · exact Ev.pos (show ((tokL c r).length : Int) > 32 by omega) (Ev.some (by unfold err0; rw [if_neg h4, if_pos h32]))
    · exact Ev.neg (show ¬ (((tokL c r).length : Int) > 32) by omega) (Ev.some (by unfold err0; rw [if_neg h4, if_neg h32]))

theorem rtokens_loop {s : ByteArray} (hs : s.size ≤ 140737488351232) : ∀ (m : Nat) (l : L) (i : Nat) (out : List S34), l.length ≤ m → (dat s).drop i = l → i ≤ s.size → out.length ≤ 2048 →
    Ev (fun k => changelingref02_Tokens.l0 k s out ((i + blankN l : Nat) : Int)) (allR out (toks (adv (1, 1) ((dat s).take i)) out.length l)) := by
  intro m
  induction m with
  | zero =>
    intro l i out hm h hi ho
    obtain rfl : l = [] := List.eq_nil_of_length_eq_zero (by omega)
    have e := drop_nil h hi
    have h1 : ¬ (((i + blankN [] : Nat) : Int) < (s.size : Int)) := by rw [blankN_nil]; omega
    refine Ev.succ ?_
    simp only [changelingref02_Tokens.l0, if_neg h1]
    exact Ev.some (by rw [toks_end (by simp)]; simp [allR])
  | succ m ih =>
    intro l i out hm h hi ho
    have hlen := drop_len h hi
    have hbl := blankN_le l.length l (Nat.le_refl _)
    have hdrop := drop_add h (blankN l)
    refine Ev.succ ?_
    simp only [changelingref02_Tokens.l0]
    cases hd : l.drop (blankN l) with
    | nil =>
      have hl0 := congrArg List.length hd
      simp only [List.length_drop, List.length_nil] at hl0
      refine Ev.neg (show ¬ (((i + blankN l : Nat) : Int) < (s.size : Int)) by omega) ?_
      exact Ev.some (by rw [toks_end hd]; simp [allR])
    | cons c r =>
      have hl0 := congrArg List.length hd
      simp only [List.length_drop, List.length_cons] at hl0
      rw [hd] at hdrop
      have hadv : adv (1, 1) ((dat s).take (i + blankN l)) = adv (adv (1, 1) ((dat s).take i)) (l.take (blankN l)) := by
        rw [← adv_append, ← h, ← List.take_add]
      have hplace := place_ev hs (n := i + blankN l) (by omega)
      rw [hadv] at hplace
      generalize hp1 : adv (adv (1, 1) ((dat s).take i)) (l.take (blankN l)) = p1 at *
      refine Ev.pos (show ((i + blankN l : Nat) : Int) < (s.size : Int) by omega) ?_
      refine Ev.pos (show 0 ≤ ((i + blankN l : Nat) : Int) by omega) ?_
      refine Ev.pos (show ((i + blankN l : Nat) : Int) ≤ (s.size : Int) by omega) ?_
      rw [Int.toNat_natCast]
      have hsub : dat (s.extract (i + blankN l) s.size) = c :: r := by
        rw [dat_extract, hdrop, List.take_of_length_le]
        simp only [List.length_cons]
        omega
      have hsubsz : (s.extract (i + blankN l) s.size).size ≤ 140737488351232 := by rw [← dat_length, hsub]; simp only [List.length_cons]; omega
      refine Ev.bind (rlength_ev hsubsz hsub) ?_
      by_cases hc : cls c.toNat = 0
      · refine Ev.pos (show ((tokLen (c :: r) : Nat) : Int) = 0 by simp [tokLen, hc]) ?_
        refine Ev.bind hplace (Ev.some ?_)
        rw [toks_none hd hc, hp1]
        simp [allR]
      · have htk : tokLen (c :: r) = (tokL c r).length := by rw [tokLen_eq hc]; rfl
        have hrl := runL_le (cls c.toNat) r
        have htl : (tokL c r).length = (runL (cls c.toNat) r).length + 1 := rfl
        have hL1 : ((c :: r).drop (tokL c r).length).length ≤ m := by simp only [List.length_drop, List.length_cons]; omega
        have hL2 : i + blankN l + (tokL c r).length ≤ s.size := by omega
        have hL3 : r.length + 1 - (tokL c r).length ≤ 140737488351232 := by omega
        have hL4 : r.length + 1 - (tokL c r).length ≤ s.size - (i + blankN l + (tokL c r).length) := by omega
        have hL5 : l.length - blankN l = (tokL c r).length + (r.length + 1 - (tokL c r).length) := by omega
        rw [htk]
        have hw : wrap64 (((i + blankN l : Nat) : Int) + ((tokL c r).length : Int)) = ((i + blankN l + (tokL c r).length : Nat) : Int) := w_nat _ _ (by omega)
        refine Ev.neg (show ¬ (((tokL c r).length : Int) = 0) by omega) ?_
        rw [hw]
        refine Ev.pos (show ((i + blankN l : Nat) : Int) ≤ ((i + blankN l + (tokL c r).length : Nat) : Int) by omega) ?_
        refine Ev.pos (show ((i + blankN l + (tokL c r).length : Nat) : Int) ≤ (s.size : Int) by omega) ?_
        rw [Int.toNat_natCast, extract_tok hdrop]
        refine Ev.bind (rfault_ev hc) ?_
        have bad : ∀ e : Int, e ≠ 0 → errOf (kindS (cls c.toNat) (tokL c r)) (tokL c r) out.length = e → Ev (fun k => changelingref02_Tokens.j2 k s out ((i + blankN l : Nat) : Int) ((tokL c r).length : Int) (str (tokL c r)) e) (allR out (toks (adv (1, 1) ((dat s).take i)) out.length l)) := by
          intro e hne he
          refine Ev.succ ?_
          simp only [changelingref02_Tokens.j2]
          refine Ev.neg hne ?_
          refine Ev.bind hplace (Ev.some ?_)
          rw [toks_bad hd hc (by rw [he]; exact hne), hp1, he]
          simp [allR, hne]
        by_cases he0 : err0 (kindS (cls c.toNat) (tokL c r)) (tokL c r) = 0
        · refine Ev.pos he0 ?_
          refine Ev.succ ?_
          by_cases hfull : out.length ≥ 2048
          · have hf : ((out.length : Int) == 2048) = true := by rw [beq_iff_eq]; omega
            simp only [changelingref02_Tokens.j1, hf, if_true]
            exact bad 2 (by decide) (errOf_pos he0 hfull)
          · have hf : ((out.length : Int) == 2048) = false := by rw [beq_eq_false_iff_ne]; omega
            simp only [changelingref02_Tokens.j1, hf, if_neg (show ¬ (false = true) by decide)]
            have hfull2 : out.length + 1 ≤ 2048 := Nat.not_le.1 hfull
            have he : errOf (kindS (cls c.toNat) (tokL c r)) (tokL c r) out.length = 0 := by rw [errOf_neg (fun hh => hfull hh.2)]; exact he0
            refine Ev.succ ?_
            simp only [changelingref02_Tokens.j2]
            refine Ev.pos he0 ?_
            have hk := rkind_ev (s := str (tokL c r)) (c := c) (r := runL (cls c.toNat) r) (by rw [dat_str]; rfl) hc
            rw [dat_str] at hk
            refine Ev.bind hk ?_
            refine Ev.bind hplace ?_
            rw [hw]
            have hnx : (dat s).drop (i + blankN l + (tokL c r).length) = (c :: r).drop (tokL c r).length := drop_add hdrop _
            have hrest : dat (s.extract (i + blankN l + (tokL c r).length) s.size) = (c :: r).drop (tokL c r).length := by
              rw [dat_extract, hnx, List.take_of_length_le]
              simp only [List.length_drop, List.length_cons]
              exact hL4
            have hrsz : (s.extract (i + blankN l + (tokL c r).length) s.size).size ≤ 140737488351232 := by rw [← dat_length, hrest]; simp only [List.length_drop, List.length_cons]; exact hL3
            have hblank := rblank_ev hrsz _ ((c :: r).drop (tokL c r).length) 0 (Nat.le_refl _) (by rw [List.drop_zero]; exact hrest) (Nat.zero_le _)
            rw [Nat.zero_add] at hblank
            have hb2 := blankN_le _ ((c :: r).drop (tokL c r).length) (Nat.le_refl _)
            simp only [List.length_drop, List.length_cons] at hb2
            have hw2 : wrap64 (((i + blankN l + (tokL c r).length : Nat) : Int) + ((blankN ((c :: r).drop (tokL c r).length) : Nat) : Int)) = ((i + blankN l + (tokL c r).length + blankN ((c :: r).drop (tokL c r).length) : Nat) : Int) := by
              refine w_nat _ _ (Nat.le_trans (sum_le hlen hL5 hbl _ hb2) (Nat.le_trans hs (by decide)))
            have hadv2 : adv (1, 1) ((dat s).take (i + blankN l + (tokL c r).length)) = adv p1 (tokL c r) := by
              rw [List.take_add, adv_append, hadv, hdrop, ← htk, take_tok hc]
            have go : ∀ n : Int, n = (if kindS (cls c.toNat) (tokL c r) = 4 then (valS (tokL c r)).1 else 0) → Ev (fun k => changelingref02_Tokens.l0 k s (out ++ [(⟨kindS (cls c.toNat) (tokL c r), str (tokL c r), n, ⟨p1.1, p1.2⟩, false⟩ : S34)]) ((i + blankN l + (tokL c r).length + blankN ((c :: r).drop (tokL c r).length) : Nat) : Int)) (allR out (toks (adv (1, 1) ((dat s).take i)) out.length l)) := by
              intro n hn
              have ih1 := ih ((c :: r).drop (tokL c r).length) (i + blankN l + (tokL c r).length) (out ++ [(⟨kindS (cls c.toNat) (tokL c r), str (tokL c r), n, ⟨p1.1, p1.2⟩, false⟩ : S34)]) hL1 hnx hL2 (by rw [List.length_append, List.length_singleton]; exact hfull2)
              refine cast (congrArg _ ?_) ih1
              rw [toks_one hd hc he, hp1, hadv2, hn]
              simp only [List.length_append, List.length_singleton]
              generalize toks (adv p1 (tokL c r)) (out.length + 1) ((c :: r).drop (tokL c r).length) = q
              unfold allR tok
              by_cases hq : q.2.1 = 0
              · simp only [if_pos hq, List.append_assoc, List.singleton_append]
              · simp only [if_neg hq]
            have kl : out.length < 2513169434916 := Nat.lt_of_le_of_lt ho (by decide)
            have k5 : 0 ≤ ((i + blankN l + (tokL c r).length : Nat) : Int) := Int.natCast_nonneg _
            have k6 : ((i + blankN l + (tokL c r).length : Nat) : Int) ≤ (s.size : Int) := Int.ofNat_le.2 hL2
            by_cases h4 : kindS (cls c.toNat) (tokL c r) = 4
            · refine Ev.pos h4 ?_
              have h3 := kindS_4.1 h4
              have hv := rnumber_ev (s := str (tokL c r)) (by rw [dat_str]; exact digits_tok h3) (by rw [dat_str]; simp [tokL])
              rw [dat_str] at hv
              refine Ev.bind hv ?_
              refine Ev.pos kl (Ev.pos k5 (Ev.pos k6 ?_))
              rw [Int.toNat_natCast]
              refine Ev.bind hblank ?_
              rw [hw2]
              exact go _ (by rw [if_pos h4])
            · refine Ev.neg h4 ?_
              refine Ev.pos kl (Ev.pos k5 (Ev.pos k6 ?_))
              rw [Int.toNat_natCast]
              refine Ev.bind hblank ?_
              rw [hw2]
              exact go _ (by rw [if_neg h4])
        · refine Ev.neg he0 ?_
          refine Ev.succ ?_
          simp only [changelingref02_Tokens.j1, if_neg (show ¬ (false = true) by decide)]
          exact bad _ he0 (errOf_neg (fun hh => he0 hh.1))

theorem rtokens_ev {s : ByteArray} (hs : s.size ≤ 140737488351232) : Ev (fun k => changelingref02_Tokens.f k s) (allToks s) := by
  unfold changelingref02_Tokens.f allToks
  by_cases h : s.size > 8192
  · simp only [if_pos h, if_pos (show (s.size : Int) > 8192 by omega)]
    exact Ev.now _
  · simp only [if_neg h, if_neg (show ¬ ((s.size : Int) > 8192) by omega)]
    have hb := rblank_ev hs _ (dat s) 0 (Nat.le_refl _) (by simp) (by omega)
    refine Ev.bind hb ?_
    have hl := rtokens_loop hs (dat s).length (dat s) 0 [] (Nat.le_refl _) (by simp) (by omega) (by simp)
    have e : allR [] (toks (adv (1, 1) ((dat s).take 0)) ([] : List S34).length (dat s)) = toks (1, 1) 0 (dat s) := allR_nil (1, 1) (dat s)
    rw [e] at hl
    exact hl

/-! ### A row of tokens is the same as itself -/
theorem same_loop (x : List S34) (hx : x.length ≤ 1000000) : ∀ (d i : Nat), x.length - i = d → i ≤ x.length → Ev (fun k => changelingref02_Same.l0 k x x (i : Int)) true
  | 0, i, hd, hi => by
    refine Ev.succ ?_
    simp only [changelingref02_Same.l0]
    exact Ev.neg (show ¬ ((i : Int) < (x.length : Int)) by omega) (Ev.now _)
  | d + 1, i, hd, hi => by
    have k1 : (i : Int) < (x.length : Int) := by omega
    refine Ev.succ ?_
    simp only [changelingref02_Same.l0, beq_self_eq_true, Bool.not_true, Bool.or_false, if_neg (show ¬ (false = true) by decide)]
    refine Ev.pos k1 (Ev.pos (show 0 ≤ (i : Int) by omega) (Ev.pos k1 ?_))
    rw [w64 (by omega) (by omega)]
    have ih := same_loop x hx d (i + 1) (by omega) (by omega)
    rw [show ((i + 1 : Nat) : Int) = (i : Int) + 1 by omega] at ih
    exact ih
theorem same_ev (x : List S34) (hx : x.length ≤ 1000000) : Ev (fun k => changelingref02_Same.f k x x) true := by
  unfold changelingref02_Same.f
  exact Ev.pos rfl (same_loop x hx x.length 0 (by omega) (by omega))

theorem known_all : changelinglaw02_known.f 80 = some true := by decide +kernel
theorem known_ev : Ev (fun k => changelinglaw02_known.f k) true := Ev.of (fun k => changelinglaw02_known.mono k) known_all

theorem toks_count : ∀ (m : Nat) (l : L) (p : Int × Int) (n : Nat), l.length ≤ m → n ≤ 2048 → n + (toks p n l).1.length ≤ 2048 := by
  intro m
  induction m with
  | zero =>
    intro l p n h hn
    obtain rfl : l = [] := List.eq_nil_of_length_eq_zero (by omega)
    rw [toks_end (by simp)]
    simpa using hn
  | succ m ih =>
    intro l p n h hn
    cases hd : l.drop (blankN l) with
    | nil => rw [toks_end hd]; simpa using hn
    | cons c r =>
      by_cases hc : cls c.toNat = 0
      · rw [toks_none hd hc]; simpa using hn
      · by_cases he : errOf (kindS (cls c.toNat) (tokL c r)) (tokL c r) n = 0
        · rw [toks_one hd hc he]
          have hl := congrArg List.length hd
          simp only [List.length_drop, List.length_cons] at hl
          have hn2 : n < 2048 := by
            rcases Nat.lt_or_ge n 2048 with h2 | h2
            · exact h2
            · exfalso
              unfold errOf at he
              by_cases h0 : err0 (kindS (cls c.toNat) (tokL c r)) (tokL c r) = 0
              · have := errOf_pos h0 h2
                unfold errOf at this
                rw [this] at he
                exact absurd he (by decide)
              · have := errOf_neg (n := n) (fun hh => h0 hh.1)
                unfold errOf at this
                rw [this] at he
                exact h0 he
          have ih1 := ih ((c :: r).drop (tokL c r).length) (adv (adv p (l.take (blankN l))) (tokL c r)) (n + 1) (by simp only [List.length_drop, List.length_cons, tokL]; omega) (by omega)
          show n + (if _ then _ else _ : List S34).length ≤ 2048
          split
          · simp only [List.length_cons]; omega
          · simpa using hn
        · rw [toks_bad hd hc he]; simpa using hn
theorem all_count (s : ByteArray) : (allToks s).1.length ≤ 2048 := by
  unfold allToks
  split
  · simp
  · have := toks_count (dat s).length (dat s) (1, 1) 0 (Nat.le_refl _) (by omega)
    omega
end Go.Proofs.Ytdjcelbicmpobaa.Lx
