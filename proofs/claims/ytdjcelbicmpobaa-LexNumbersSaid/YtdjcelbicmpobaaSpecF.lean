/- What the reference's lexer comes to (1): blanks, lengths, kinds, places. -/
import Derived.Test.YtdjcelbicmpobaaSpecE
import Derived.Test.YtdjcelbicmpobaaH12
import Derived.Test.YtdjcelbicmpobaaH14
import Derived.Test.YtdjcelbicmpobaaH15
import Derived.Test.YtdjcelbicmpobaaH16
namespace Go.Proofs.Ytdjcelbicmpobaa.Lx
open Go.RowKit Go.Proofs.YtdjcelbicmpobaaW.PrintWords Go.Proofs.YtdjcelbicmpobaaW.PrintLast Go.Proofs.Ytdjcelbicmpobaa.H

theorem rline_ev {s : ByteArray} (hs : s.size ≤ 140737488351232) {R : Int} : ∀ (l : L) (i : Nat), (dat s).drop i = l → i ≤ s.size →
    Ev (fun k => changelingref02_blank.l0 k s ((i + eolN l : Nat) : Int)) R → Ev (fun k => changelingref02_blank.l1 k s (i : Int)) R
  | [], i, h, hi, hR => by
    have e := drop_nil h hi
    have h1 : ¬ ((i : Int) < (s.size : Int)) := by omega
    refine Ev.succ ?_
    simp only [changelingref02_blank.l1, if_neg h1]
    simpa [eolN] using hR
  | c :: r, i, h, hi, hR => by
    obtain ⟨hlt, hb, hr⟩ := bt_of_drop h
    have k1 : (i : Int) < (s.size : Int) := by omega
    have k2 : 0 ≤ (i : Int) := by omega
    refine Ev.succ ?_
    by_cases hc : c = 10
    · have k3 : bt s (i : Int) = 10 := by rw [hb, c10]; exact hc
      simp only [changelingref02_blank.l1, if_pos k1, if_pos k2, if_pos k3]
      simpa [eolN, hc] using hR
    · have k3 : ¬ (bt s (i : Int) = 10) := by rw [hb, c10]; exact hc
      simp only [changelingref02_blank.l1, if_pos k1, if_pos k2, if_neg k3]
      have ih := rline_ev hs (R := R) r (i + 1) hr (by omega) (by
        have e : i + 1 + eolN r = i + eolN (c :: r) := by simp only [eolN, if_neg hc]; omega
        rw [e]; exact hR)
      rw [w64 (by omega) (by omega)]
      rw [show ((i + 1 : Nat) : Int) = (i : Int) + 1 by omega] at ih
      exact ih

theorem rblank_ev {s : ByteArray} (hs : s.size ≤ 140737488351232) : ∀ (n : Nat) (l : L) (i : Nat), l.length ≤ n → (dat s).drop i = l → i ≤ s.size →
    Ev (fun k => changelingref02_blank.l0 k s (i : Int)) ((i + blankN l : Nat) : Int) := by
  intro n
  induction n with
  | zero =>
    intro l i hn h hi
    obtain rfl : l = [] := List.eq_nil_of_length_eq_zero (by omega)
    have e := drop_nil h hi
    have h1 : ¬ ((i : Int) < (s.size : Int)) := by omega
    refine Ev.succ ?_
    simp only [changelingref02_blank.l0, if_neg h1]
    exact Ev.some (by simp [blankN_nil])
  | succ n ih =>
    intro l i hn h hi
    cases l with
    | nil =>
      have e := drop_nil h hi
      have h1 : ¬ ((i : Int) < (s.size : Int)) := by omega
      refine Ev.succ ?_
      simp only [changelingref02_blank.l0, if_neg h1]
      exact Ev.some (by simp [blankN_nil])
    | cons c r =>
      obtain ⟨hlt, hb, hr⟩ := bt_of_drop h
      have k1 : (i : Int) < (s.size : Int) := by omega
      have k2 : 0 ≤ (i : Int) := by omega
      have e1 : ((i + 1 : Nat) : Int) = (i : Int) + 1 := by omega
      have hlen := drop_len h hi
      simp only [List.length_cons] at hn hlen
      have yes : (c = 32 ∨ c = 10) → Ev (fun k => changelingref02_blank.j1 k s (i : Int) true) ((i + blankN (c :: r) : Nat) : Int) := by
        intro hb
        refine Ev.succ ?_
        simp only [changelingref02_blank.j1, if_pos True.intro]
        have ih1 := ih r (i + 1) (by omega) hr (by omega)
        rw [w64 (by omega) (by omega), blankN_blank hb]
        rw [e1, show i + 1 + blankN r = i + (blankN r + 1) by omega] at ih1
        exact ih1
      refine Ev.succ ?_
      by_cases hc : c = 32
      · have k3 : bt s (i : Int) = 32 := by rw [hb, c32]; exact hc
        simp only [changelingref02_blank.l0, if_pos k1, if_pos k2, if_pos k3]
        exact yes (.inl hc)
      · have k3 : ¬ (bt s (i : Int) = 32) := by rw [hb, c32]; exact hc
        simp only [changelingref02_blank.l0, if_pos k1, if_pos k2, if_neg k3]
        by_cases hc1 : c = 10
        · have k4 : (bt s (i : Int) == 10) = true := by rw [beq_iff_eq, hb, c10]; exact hc1
          rw [k4]
          exact yes (.inr hc1)
        · have k4 : (bt s (i : Int) == 10) = false := by rw [beq_eq_false_iff_ne, hb]; exact fun e => hc1 ((c10 c).1 e)
          rw [k4]
          have nb : ¬ (c = 32 ∨ c = 10) := by simp [hc, hc1]
          have stop : ¬ (c = 45 ∧ r.head? = some 45) → Ev (fun k => changelingref02_blank.j2 k s (i : Int) false) ((i + blankN (c :: r) : Nat) : Int) := by
            intro hno
            refine Ev.succ ?_
            simp only [changelingref02_blank.j2, if_neg (show ¬ (false = true) by decide)]
            exact Ev.some (by simp [blankN_none nb hno])
          refine Ev.succ ?_
          simp only [changelingref02_blank.j1, if_neg (show ¬ (false = true) by decide), if_pos k1, if_pos k2]
          by_cases hc2 : c = 45
          · have k5 : bt s (i : Int) = 45 := by rw [hb, c45]; exact hc2
            have hw : wrap64 ((i : Int) + 1) = ((i + 1 : Nat) : Int) := by rw [w64 (by omega) (by omega)]; omega
            simp only [if_pos k5, hw]
            cases r with
            | nil =>
              have k6 : ¬ (((i + 1 : Nat) : Int) < (s.size : Int)) := by have := drop_nil hr (by omega); omega
              simp only [if_neg k6]
              exact stop (by simp)
            | cons d r2 =>
              obtain ⟨hlt2, hb2, hr2⟩ := bt_of_drop hr
              have k6 : (((i + 1 : Nat) : Int) < (s.size : Int)) := by omega
              have k7 : 0 ≤ ((i + 1 : Nat) : Int) := by omega
              simp only [if_pos k6, if_pos k7]
              by_cases hd : d = 45
              · have k8 : (bt s ((i + 1 : Nat) : Int) == 45) = true := by rw [beq_iff_eq, hb2, c45]; exact hd
                rw [k8]
                refine Ev.succ ?_
                simp only [changelingref02_blank.j2, if_pos True.intro]
                subst hc2
                have hh : (d :: r2 : L).head? = some 45 := by simp [hd]
                have hl : eolN (45 :: d :: r2) = eolN (d :: r2) + 1 := by simp [eolN]
                have hle := eolN_le (d :: r2)
                simp only [List.length_cons] at hle hn hlen
                refine rline_ev hs (45 :: d :: r2) i h hi ?_
                have ih1 := ih ((d :: r2).drop (eolN (d :: r2))) (i + (eolN (d :: r2) + 1)) (by simp; omega) (by rw [drop_add h, List.drop_succ_cons]) (by omega)
                rw [hl, blankN_remark hh]
                rw [show i + (eolN (d :: r2) + 1) + blankN (List.drop (eolN (d :: r2)) (d :: r2)) = i + (eolN (d :: r2) + 1 + blankN (List.drop (eolN (d :: r2)) (d :: r2))) by omega] at ih1
                exact ih1
              · have k8 : (bt s ((i + 1 : Nat) : Int) == 45) = false := by rw [beq_eq_false_iff_ne, hb2]; exact fun e => hd ((c45 d).1 e)
                rw [k8]
                exact stop (by simp [hd])
          · have k5 : ¬ (bt s (i : Int) = 45) := by rw [hb, c45]; exact hc2
            simp only [if_neg k5]
            exact stop (by simp [hc2])

/-! ### Classes -/
theorem rsmall : ∀ n : Fin 256, changelingref02_Small.f ((n.val : Nat) : Int) = some (cls n.val == 1) := by decide +kernel
theorem rlarge : ∀ n : Fin 256, changelingref02_Large.f ((n.val : Nat) : Int) = some (cls n.val == 2) := by decide +kernel
theorem rdigit : ∀ n : Fin 256, changelingref02_Digit.f ((n.val : Nat) : Int) = some (cls n.val == 3) := by decide +kernel
theorem rmark : ∀ n : Fin 256, changelingref02_In.f 12 ((n.val : Nat) : Int) (⟨#[40, 41, 123, 125, 59, 92]⟩ : ByteArray) = some (cls n.val == 4) := by decide +kernel
theorem rsign : ∀ n : Fin 256, changelingref02_Sign.f 24 ((n.val : Nat) : Int) = some (cls n.val == 5) := by decide +kernel
theorem rinner : ∀ n : Fin 256, changelingref02_Inner.f ((n.val : Nat) : Int) = some (goes 1 n.val) := by decide +kernel
theorem small_eq (c : UInt8) : changelingref02_Small.f (c.toNat : Int) = some (cls c.toNat == 1) := rsmall ⟨c.toNat, c.toNat_lt⟩
theorem large_eq (c : UInt8) : changelingref02_Large.f (c.toNat : Int) = some (cls c.toNat == 2) := rlarge ⟨c.toNat, c.toNat_lt⟩
theorem digit_eq (c : UInt8) : changelingref02_Digit.f (c.toNat : Int) = some (cls c.toNat == 3) := rdigit ⟨c.toNat, c.toNat_lt⟩
theorem inner_eq (c : UInt8) : changelingref02_Inner.f (c.toNat : Int) = some (goes 1 c.toNat) := rinner ⟨c.toNat, c.toNat_lt⟩
theorem mark_ev (c : UInt8) : Ev (fun k => changelingref02_In.f k (c.toNat : Int) (⟨#[40, 41, 123, 125, 59, 92]⟩ : ByteArray)) (cls c.toNat == 4) := Ev.of (fun k => changelingref02_In.mono _ _ k) (rmark ⟨c.toNat, c.toNat_lt⟩)
theorem sign_ev (c : UInt8) : Ev (fun k => changelingref02_Sign.f k (c.toNat : Int)) (cls c.toNat == 5) := Ev.of (fun k => changelingref02_Sign.mono _ k) (rsign ⟨c.toNat, c.toNat_lt⟩)
theorem goes_21 (n : Nat) : goes 2 n = goes 1 n := by simp [goes]
theorem goes_3 (n : Nat) : goes 3 n = (cls n == 3) := by simp [goes]
theorem goes_5 (n : Nat) : goes 5 n = (cls n == 5) := by simp [goes]
theorem goes_4 (n : Nat) : goes 4 n = false := by simp [goes]
theorem runL_cons {k : Int} {d : UInt8} {r : L} : runL k (d :: r) = if goes k d.toNat then d :: runL k r else [] := by
  unfold runL
  rw [List.takeWhile_cons]

theorem rrun0 {s : ByteArray} (hs : s.size ≤ 140737488351232) : ∀ (l : L) (i : Nat), (dat s).drop i = l → i ≤ s.size →
    Ev (fun k => changelingref02_length.l0 k s (i : Int)) ((i + (runL 1 l).length : Nat) : Int)
  | [], i, h, hi => by
    have e := drop_nil h hi
    have h1 : ¬ ((i : Int) < (s.size : Int)) := by omega
    refine Ev.succ ?_
    simp only [changelingref02_length.l0, if_neg h1]
    exact Ev.some (by simp [runL])
  | d :: r, i, h, hi => by
    obtain ⟨hlt, hb, hr⟩ := bt_of_drop h
    have k1 : (i : Int) < (s.size : Int) := by omega
    have k2 : 0 ≤ (i : Int) := by omega
    refine Ev.succ ?_
    simp only [changelingref02_length.l0, if_pos k1, if_pos k2, hb, inner_eq, Option.bind_some, runL_cons]
    by_cases hg : goes 1 d.toNat = true
    · simp only [if_pos hg, List.length_cons]
      rw [w64 (by omega) (by omega)]
      have ih := rrun0 hs r (i + 1) hr (by omega)
      rw [show ((i + 1 : Nat) : Int) = (i : Int) + 1 by omega, show i + 1 + (runL 1 r).length = i + ((runL 1 r).length + 1) by omega] at ih
      exact ih
    · simp only [if_neg hg]
      exact Ev.some (by simp)
theorem rrun1 {s : ByteArray} (hs : s.size ≤ 140737488351232) : ∀ (l : L) (i : Nat), (dat s).drop i = l → i ≤ s.size →
    Ev (fun k => changelingref02_length.l1 k s (i : Int)) ((i + (runL 3 l).length : Nat) : Int)
  | [], i, h, hi => by
    have e := drop_nil h hi
    have h1 : ¬ ((i : Int) < (s.size : Int)) := by omega
    refine Ev.succ ?_
    simp only [changelingref02_length.l1, if_neg h1]
    exact Ev.some (by simp [runL])
  | d :: r, i, h, hi => by
    obtain ⟨hlt, hb, hr⟩ := bt_of_drop h
    have k1 : (i : Int) < (s.size : Int) := by omega
    have k2 : 0 ≤ (i : Int) := by omega
    refine Ev.succ ?_
    simp only [changelingref02_length.l1, if_pos k1, if_pos k2, hb, digit_eq, Option.bind_some, runL_cons, ← goes_3]
    by_cases hg : goes 3 d.toNat = true
    · simp only [if_pos hg, List.length_cons]
      rw [w64 (by omega) (by omega)]
      have ih := rrun1 hs r (i + 1) hr (by omega)
      rw [show ((i + 1 : Nat) : Int) = (i : Int) + 1 by omega, show i + 1 + (runL 3 r).length = i + ((runL 3 r).length + 1) by omega] at ih
      exact ih
    · simp only [if_neg hg]
      exact Ev.some (by simp)
theorem rrun2 {s : ByteArray} (hs : s.size ≤ 140737488351232) : ∀ (l : L) (i : Nat), (dat s).drop i = l → i ≤ s.size →
    Ev (fun k => changelingref02_length.l2 k s (i : Int)) ((i + (runL 5 l).length : Nat) : Int)
  | [], i, h, hi => by
    have e := drop_nil h hi
    have h1 : ¬ ((i : Int) < (s.size : Int)) := by omega
    refine Ev.succ ?_
    simp only [changelingref02_length.l2, if_neg h1]
    exact Ev.some (by simp [runL])
  | d :: r, i, h, hi => by
    obtain ⟨hlt, hb, hr⟩ := bt_of_drop h
    have k1 : (i : Int) < (s.size : Int) := by omega
    have k2 : 0 ≤ (i : Int) := by omega
    refine Ev.succ ?_
    simp only [changelingref02_length.l2, if_pos k1, if_pos k2, hb, runL_cons]
    refine Ev.bind (sign_ev d) ?_
    rw [← goes_5]
    by_cases hg : goes 5 d.toNat = true
    · simp only [if_pos hg, List.length_cons]
      rw [w64 (by omega) (by omega)]
      have ih := rrun2 hs r (i + 1) hr (by omega)
      rw [show ((i + 1 : Nat) : Int) = (i : Int) + 1 by omega, show i + 1 + (runL 5 r).length = i + ((runL 5 r).length + 1) by omega] at ih
      exact ih
    · simp only [if_neg hg]
      exact Ev.some (by simp)

theorem rlength_ev {s : ByteArray} (hs : s.size ≤ 140737488351232) {c : UInt8} {r : L} (h : dat s = c :: r) : Ev (fun k => changelingref02_length.f k s) ((tokLen (c :: r) : Nat) : Int) := by
  obtain ⟨hlt, hb, hr⟩ := bt_of_drop (s := s) (i := 0) (by rw [List.drop_zero]; exact h)
  have hb0 : bt s 0 = (c.toNat : Int) := hb
  have k2 : 0 < (s.size : Int) := by omega
  obtain ⟨h0, h5⟩ := cls_range c
  unfold changelingref02_length.f
  simp only [if_pos k2, hb0]
  refine Ev.bind (mark_ev c) ?_
  have fin : ∀ {b : Int}, cls c.toNat = b → b ≠ 0 → ((1 + (runL b r).length : Nat) : Int) = ((tokLen (c :: r) : Nat) : Int) := by
    intro b e hb; subst e; simp only [tokLen, if_neg hb]; omega
  by_cases e4 : cls c.toNat = 4
  · simp only [e4, beq_self_eq_true, if_true]
    refine Ev.some ?_
    have := fin e4 (by decide)
    have hn : runL 4 r = [] := by cases r <;> simp [goes_4, runL]
    rw [hn] at this
    exact this
  · have n4 : ¬ ((cls c.toNat == 4) = true) := by simpa using e4
    simp only [if_neg n4, small_eq, large_eq, Option.bind_some]
    have big : Ev (fun k => changelingref02_length.l0 k s 1) ((1 + (runL 1 r).length : Nat) : Int) := rrun0 hs r 1 hr (by omega)
    by_cases e1 : cls c.toNat = 1
    · simp only [e1, beq_self_eq_true, if_true]
      refine Ev.succ ?_
      simp only [changelingref02_length.j0, if_pos True.intro]
      rw [fin e1 (by decide)] at big
      exact big
    · have n1 : ¬ ((cls c.toNat == 1) = true) := by simpa using e1
      simp only [if_neg n1]
      refine Ev.succ ?_
      by_cases e2 : cls c.toNat = 2
      · simp only [e2, changelingref02_length.j0, beq_self_eq_true, if_true]
        have e12 : runL 2 r = runL 1 r := by unfold runL; congr 1
        rw [← e12, fin e2 (by decide)] at big
        exact big
      · have n2 : ¬ ((cls c.toNat == 2) = true) := by simpa using e2
        simp only [changelingref02_length.j0, if_neg n2, if_pos k2, hb0, digit_eq, Option.bind_some]
        by_cases e3 : cls c.toNat = 3
        · simp only [e3, beq_self_eq_true, if_true]
          have := rrun1 hs r 1 hr (by omega)
          rw [fin e3 (by decide)] at this
          exact this
        · have n3 : ¬ ((cls c.toNat == 3) = true) := by simpa using e3
          simp only [if_neg n3]
          refine Ev.bind (sign_ev c) ?_
          by_cases e5 : cls c.toNat = 5
          · simp only [e5, beq_self_eq_true, if_true]
            have := rrun2 hs r 1 hr (by omega)
            rw [fin e5 (by decide)] at this
            exact this
          · have n5 : ¬ ((cls c.toNat == 5) = true) := by simpa using e5
            simp only [if_neg n5]
            refine Ev.some ?_
            have ez : cls c.toNat = 0 := by omega
            simp only [tokLen, if_pos ez]
            rfl

/-! ### Kinds -/
theorem has_loop (ws : List ByteArray) (s : ByteArray) (hw : ws.length ≤ 1000) : ∀ (l : List ByteArray) (i : Nat), ws.drop i = l → i ≤ ws.length → Ev (fun k => changelingref02_Has.l0 k ws s (i : Int)) (l.any fun w => decide (dat w = dat s))
  | [], i, h, hi => by
    have e : i = ws.length := by have := congrArg List.length h; rw [List.length_drop] at this; simp at this; omega
    have h1 : ¬ ((i : Int) < (ws.length : Int)) := by omega
    refine Ev.succ ?_
    simp only [changelingref02_Has.l0, if_neg h1]
    exact Ev.some (by simp)
  | w :: r, i, h, hi => by
    have hl : i < ws.length := by
      rcases Nat.lt_or_ge i ws.length with hlt | hge
      · exact hlt
      · rw [List.drop_eq_nil_of_le hge] at h; cases h
    have hd := List.drop_eq_getElem_cons hl
    rw [h] at hd
    injection hd with h1 h2
    have k1 : (i : Int) < (ws.length : Int) := by omega
    have k2 : 0 ≤ (i : Int) := by omega
    have hrd : rdOf ByteArray.empty ws (i : Int) = w := by unfold rdOf; rw [Int.toNat_natCast, List.getD_eq_getElem?_getD, List.getElem?_eq_getElem hl, h1]; rfl
    refine Ev.succ ?_
    simp only [changelingref02_Has.l0, if_pos k1, if_pos k2, hrd, toList_dat]
    by_cases hc : dat w = dat s
    · simp only [if_pos hc]
      exact Ev.some (by simp [hc])
    · simp only [if_neg hc]
      rw [w64 (by omega) (by omega)]
      have ih := has_loop ws s hw r (i + 1) h2.symm (by omega)
      rw [show ((i + 1 : Nat) : Int) = (i : Int) + 1 by omega] at ih
      refine cast (congrArg _ ?_) ih
      simp [hc]
theorem has_words (s : ByteArray) : Ev (fun k => changelingref02_Has.f k (words.map str) s) (isWord (dat s)) := by
  have h := has_loop (words.map str) s (by decide) (words.map str) 0 rfl (by decide)
  unfold changelingref02_Has.f
  refine cast (congrArg _ ?_) h
  unfold isWord
  rw [List.any_map, List.contains_eq_any_beq]
  refine List.any_congr rfl (fun w => ?_) 
  simp only [Function.comp, dat_str]
  rw [Bool.eq_iff_iff, decide_eq_true_eq, beq_iff_eq]
  exact ⟨Eq.symm, Eq.symm⟩
theorem words_f : changelingref02_Words.f = some (words.map str) := rfl
theorem words_cls : ∀ t ∈ words, t ≠ [] ∧ cls (t.headD 0).toNat = 1 := by decide +kernel
theorem word_cls {t : L} (h : isWord t = true) : ∃ c r, t = c :: r ∧ cls c.toNat = 1 := by
  have hm : t ∈ words := List.contains_iff_mem.1 h
  obtain ⟨h1, h2⟩ := words_cls t hm
  cases t with
  | nil => exact absurd rfl h1
  | cons c r => exact ⟨c, r, rfl, h2⟩

theorem rkind_ev {s : ByteArray} {c : UInt8} {r : L} (h : dat s = c :: r) (hc : ¬ cls c.toNat = 0) : Ev (fun k => changelingref02_kindOf.f k s) (kindS (cls c.toNat) (dat s)) := by
  obtain ⟨hlt, hb, hr⟩ := bt_of_drop (s := s) (i := 0) (by rw [List.drop_zero]; exact h)
  have hb0 : bt s 0 = (c.toNat : Int) := hb
  have k2 : 0 < (s.size : Int) := by omega
  obtain ⟨h0, h5⟩ := cls_range c
  have yes : kindS (cls c.toNat) (dat s) = 5 → Ev (fun k => changelingref02_kindOf.j0 k s true) (kindS (cls c.toNat) (dat s)) := by
    intro e
    rw [e]
    refine Ev.succ ?_
    simp only [changelingref02_kindOf.j0, if_pos True.intro]
    exact Ev.now _
  have head : ∀ {d : UInt8} {t : L}, dat s = d :: t → c = d := by intro d t e; rw [h] at e; injection e
  unfold changelingref02_kindOf.f
  simp only [if_pos k2, hb0]
  refine Ev.bind (mark_ev c) ?_
  by_cases e4 : cls c.toNat = 4
  · simp only [e4, beq_self_eq_true, if_true]
    rw [e4] at yes
    exact yes (by simp [kindS])
  · have n4 : ¬ ((cls c.toNat == 4) = true) := by simpa using e4
    simp only [if_neg n4, toList_dat]
    by_cases a1 : dat s = [95]
    · simp only [if_pos a1]
      refine yes ?_
      rw [head a1, a1]; decide +kernel
    · simp only [if_neg a1]
      by_cases a2 : dat s = [61]
      · simp only [if_pos a2]
        refine yes ?_
        rw [head a2, a2]; decide +kernel
      · simp only [if_neg a2]
        by_cases a3 : dat s = [124]
        · simp only [if_pos a3]
          refine yes ?_
          rw [head a3, a3]; decide +kernel
        · simp only [if_neg a3]
          by_cases a4 : dat s = [45, 62]
          · have a4b : (dat s == ([45, 62] : L)) = true := beq_iff_eq.2 a4
            rw [a4b]
            refine yes ?_
            rw [head a4, a4]; decide +kernel
          · have a4b : (dat s == ([45, 62] : L)) = false := beq_eq_false_iff_ne.2 a4
            rw [a4b]
            refine Ev.succ ?_
            simp only [changelingref02_kindOf.j0, if_neg (show ¬ (false = true) by decide), words_f, Option.bind_some]
            refine Ev.bind (has_words s) ?_
            by_cases hw : isWord (dat s) = true
            · simp only [hw, if_true]
              refine Ev.some ?_
              obtain ⟨d, t, e, hd⟩ := word_cls hw
              rw [← head e] at hd
              rw [hd]
              simp [kindS, hw, a1]
            · have hwf : isWord (dat s) = false := by simpa using hw
              simp only [hwf, if_neg (show ¬ (false = true) by decide), if_pos k2, hb0, small_eq, large_eq, digit_eq, Option.bind_some]
              by_cases e1 : cls c.toNat = 1
              · simp only [e1, beq_self_eq_true, if_true]
                exact Ev.some (by simp [kindS, hwf, a1])
              · have n1 : ¬ ((cls c.toNat == 1) = true) := by simpa using e1
                simp only [if_neg n1]
                by_cases e2 : cls c.toNat = 2
                · simp only [e2, beq_self_eq_true, if_true]
                  exact Ev.some (by simp [kindS])
                · have n2 : ¬ ((cls c.toNat == 2) = true) := by simpa using e2
                  simp only [if_neg n2]
                  by_cases e3 : cls c.toNat = 3
                  · simp only [e3, beq_self_eq_true, if_true]
                    exact Ev.some (by simp [kindS])
                  · have n3 : ¬ ((cls c.toNat == 3) = true) := by simpa using e3
                    simp only [if_neg n3]
                    have e5 : cls c.toNat = 5 := by omega
                    exact Ev.some (by rw [e5]; simp [kindS, a2, a3, a4])

/-! ### Places -/
theorem take_snoc {s : ByteArray} {i : Nat} {c : UInt8} {r : L} (h : (dat s).drop i = c :: r) : (dat s).take (i + 1) = (dat s).take i ++ [c] := by
  have hl : i < (dat s).length := by rw [dat_length]; exact (bt_of_drop h).1
  have hd := List.drop_eq_getElem_cons hl
  rw [h] at hd
  injection hd with h1 _
  rw [List.take_succ_eq_append_getElem hl, h1]
theorem place_loop {s : ByteArray} (hs : s.size ≤ 140737488351232) {n : Nat} (hn : n ≤ s.size) : ∀ (d : Nat) (i : Nat), n - i = d → i ≤ n →
    Ev (fun k => changelingref02_Place.l0 k s (n : Int) (i : Int) (adv (1, 1) ((dat s).take i)).1 (adv (1, 1) ((dat s).take i)).2) (adv (1, 1) ((dat s).take n))
  | 0, i, hd, hi => by
    have h1 : ¬ ((i : Int) < (n : Int)) := by omega
    obtain rfl : i = n := by omega
    refine Ev.succ ?_
    simp only [changelingref02_Place.l0, if_neg h1]
    exact Ev.some rfl
  | d + 1, i, hd, hi => by
    have k0 : (i : Int) < (n : Int) := by omega
    have k1 : (i : Int) < (s.size : Int) := by omega
    have k2 : 0 ≤ (i : Int) := by omega
    have hl : i < (dat s).length := by rw [dat_length]; omega
    have hdr := List.drop_eq_getElem_cons hl
    obtain ⟨_, hb, _⟩ := bt_of_drop hdr
    have ht := take_snoc hdr
    have ih := place_loop hs hn d (i + 1) (by omega) (by omega)
    have hb2 := adv_le ((dat s).take i) (1, 1) 1 (by decide) (by decide)
    have hlt : ((dat s).take i).length = i := by rw [List.length_take]; omega
    rw [ht, adv_append, adv_cons, adv_nil, show ((i + 1 : Nat) : Int) = (i : Int) + 1 by omega] at ih
    rw [hlt] at hb2
    generalize adv (1, 1) ((dat s).take i) = p at *
    clear hdr ht
    generalize (dat s)[i] = c at *
    refine Ev.succ ?_
    by_cases hc : c = 10
    · have k3 : bt s (i : Int) = 10 := by rw [hb, c10]; exact hc
      simp only [changelingref02_Place.l0, if_pos k0, if_pos k1, if_pos k2, if_pos k3]
      rw [w64 (by omega) (by omega), w64 (by omega) (by omega)]
      simp only [step, if_pos hc] at ih
      exact ih
    · have k3 : ¬ (bt s (i : Int) = 10) := by rw [hb, c10]; exact hc
      simp only [changelingref02_Place.l0, if_pos k0, if_pos k1, if_pos k2, if_neg k3]
      rw [w64 (by omega) (by omega), w64 (by omega) (by omega)]
      simp only [step, if_neg hc] at ih
      exact ih
theorem place_ev {s : ByteArray} (hs : s.size ≤ 140737488351232) {n : Nat} (hn : n ≤ s.size) : Ev (fun k => changelingref02_Place.f k s (n : Int)) (adv (1, 1) ((dat s).take n)) := by
  have h := place_loop hs hn n 0 (by omega) (by omega)
  exact h

end Go.Proofs.Ytdjcelbicmpobaa.Lx
