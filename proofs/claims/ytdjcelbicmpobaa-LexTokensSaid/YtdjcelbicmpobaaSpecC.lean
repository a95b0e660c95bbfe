/- What the program's lexer comes to (2): kinds, numbers, the next token, all tokens. -/
import Derived.Test.YtdjcelbicmpobaaSpecB
import Derived.Test.YtdjcelbicmpobaaH11
namespace Go.Proofs.Ytdjcelbicmpobaa.Lx
open Go.RowKit Go.Proofs.YtdjcelbicmpobaaW.PrintWords Go.Proofs.YtdjcelbicmpobaaW.PrintLast Go.Proofs.Ytdjcelbicmpobaa.H

theorem word_eq (s : ByteArray) : lex_Word.f s = some (isWord (dat s)) := by
  unfold lex_Word.f
  simp only [toList_dat]
  generalize dat s = t
  (repeat' split) <;> simp_all [isWord, words]
theorem kind_eq (b : Int) (s : ByteArray) : lex_kind.f b s = some (kindS b (dat s)) := by
  unfold lex_kind.f kindS
  simp only [toList_dat, word_eq, Option.bind_some]
  (repeat' split) <;> simp_all

/-! ### Numbers -/
theorem u64 {x : Int} (h0 : 0 ≤ x) (h1 : x < 18446744073709551616) : IntKind.u64.wrap x = x := by
  show x % 18446744073709551616 = x
  omega
def isDigit (c : UInt8) : Prop := 48 ≤ c.toNat ∧ c.toNat ≤ 57
theorem numv_snoc (t : L) (c : UInt8) : numv (t ++ [c]) = numv t * 10 + (c.toNat - 48) := by simp [numv]
theorem fold_lt : ∀ (t : L) (u : Nat), (∀ c ∈ t, isDigit c) → t.foldl (fun u c => u * 10 + (c.toNat - 48)) u + 1 ≤ (u + 1) * 10 ^ t.length
  | [], u, _ => by simp
  | c :: r, u, h => by
    have h1 := fold_lt r (u * 10 + (c.toNat - 48)) (fun x hx => h x (by simp [hx]))
    have h2 := h c (by simp)
    unfold isDigit at h2
    simp only [List.foldl_cons, List.length_cons, Nat.pow_succ]
    refine Nat.le_trans h1 ?_
    rw [Nat.mul_comm (10 ^ r.length) 10, ← Nat.mul_assoc]
    exact Nat.mul_le_mul_right _ (by omega)
theorem numv_lt (t : L) (h : ∀ c ∈ t, isDigit c) : numv t < 10 ^ t.length := by
  have := fold_lt t 0 h
  unfold numv
  omega
theorem pow_19 {n : Nat} (h : n ≤ 19) : 10 ^ n ≤ 10000000000000000000 := Nat.le_trans (Nat.pow_le_pow_right (by decide) h) (by decide)

/-- What a row of digits without a sign comes to. -/
def parseS (t : L) : Int × Int :=
  if t.length > 19 ∨ (t.head? = some 48 ∧ t.length > 1) ∨ numv t > 9223372036854775807 then (0, 11) else ((numv t : Int), 0)

theorem parse_end (u : Nat) (hu : u < 10000000000000000000) : Ev (fun k => num_Parse.j4 k false (u : Int) true) (if u > 9223372036854775807 then (0, 11) else ((u : Int), 0)) := by
  refine Ev.succ ?_
  simp only [num_Parse.j4, if_pos True.intro]
  by_cases h1 : (u : Int) > 9223372036854775808
  · simp only [if_pos h1]
    refine Ev.succ ?_
    simp only [num_Parse.j5, if_pos True.intro]
    exact Ev.some (by rw [if_pos (by omega)])
  · simp only [if_neg h1]
    by_cases h2 : (u : Int) = 9223372036854775808
    · simp only [if_pos h2]
      refine Ev.succ ?_
      simp only [num_Parse.j5, Bool.not_false, if_pos True.intro]
      exact Ev.some (by rw [if_pos (by omega)])
    · simp only [if_neg h2]
      refine Ev.succ ?_
      simp only [num_Parse.j5, if_neg (show ¬ (false = true) by decide)]
      refine Ev.some ?_
      rw [if_neg (by omega)]
      refine Prod.ext ?_ rfl
      show wrap64 (u : Int) = (u : Int)
      unfold wrap64
      omega
theorem parse_loop {s : ByteArray} (hs : s.size ≤ 19) (hd : ∀ c ∈ dat s, isDigit c) : ∀ (l : L) (i : Nat), (dat s).drop i = l → i ≤ s.size →
    Ev (fun k => num_Parse.l0 k s false (numv ((dat s).take i) : Int) true (i : Int)) (if numv (dat s) > 9223372036854775807 then (0, 11) else ((numv (dat s) : Int), 0))
  | [], i, h, hi => by
    have e := drop_nil h hi
    have h1 : ¬ ((i : Int) < (s.size : Int)) := by omega
    have h2 : (dat s).take i = dat s := by rw [e, ← dat_length]; exact List.take_length
    have h3 := numv_lt (dat s) hd
    rw [dat_length] at h3
    refine Ev.succ ?_
    simp only [num_Parse.l0, if_neg h1, h2]
    exact parse_end _ (Nat.lt_of_lt_of_le h3 (pow_19 hs))
  | c :: r, i, h, hi => by
    obtain ⟨hlt, hb, hr⟩ := bt_of_drop h
    have hl : i < (dat s).length := by rw [dat_length]; exact hlt
    have hget : (dat s)[i] = c := by
      have := List.drop_eq_getElem_cons hl
      rw [h] at this
      injection this with a _
      exact a.symm
    have hc : isDigit c := hd c (by rw [← hget]; exact List.getElem_mem hl)
    have ht : (dat s).take (i + 1) = (dat s).take i ++ [c] := by rw [List.take_succ_eq_append_getElem hl, hget]
    have hm := numv_lt ((dat s).take i) (fun x hx => hd x (List.mem_of_mem_take hx))
    have hm2 : 10 ^ ((dat s).take i).length ≤ 1000000000000000000 := by
      refine Nat.le_trans (Nat.pow_le_pow_right (by decide) (?_ : _ ≤ 18)) (by decide)
      rw [List.length_take]
      omega
    have ih := parse_loop hs hd r (i + 1) hr (by omega)
    have k1 : (i : Int) < (s.size : Int) := by omega
    have k2 : 0 ≤ (i : Int) := by omega
    unfold isDigit at hc
    have k3 : ¬ (bt s (i : Int) < 48) := by rw [hb]; omega
    have k4 : ¬ (bt s (i : Int) > 57) := by rw [hb]; omega
    refine Ev.succ ?_
    simp only [num_Parse.l0, if_pos k1, if_pos k2, if_neg k3, if_neg k4]
    rw [w64 (by omega) (by omega), hb]
    rw [ht, numv_snoc] at ih
    have e1 : ((i + 1 : Nat) : Int) = (i : Int) + 1 := by omega
    rw [e1] at ih
    generalize numv ((dat s).take i) = u at *
    rw [u64 (x := (u : Int) * 10) (by omega) (by omega)]
    rw [show ((c.toNat : Int) - 48) % 256 = (c.toNat : Int) - 48 by omega]
    rw [u64 (by omega) (by omega)]
    rw [show (u : Int) * 10 + ((c.toNat : Int) - 48) = ((u * 10 + (c.toNat - 48) : Nat) : Int) by omega]
    exact ih

theorem parse_ev {s : ByteArray} (hd : ∀ c ∈ dat s, isDigit c) (hne : dat s ≠ []) : Ev (fun k => num_Parse.f k s) (parseS (dat s)) := by
  cases hds : dat s with
  | nil => exact absurd hds hne
  | cons c r =>
    obtain ⟨hlt, hb, hr⟩ := bt_of_drop (s := s) (i := 0) (by rw [List.drop_zero]; exact hds)
    have hc : isDigit c := hd c (by rw [hds]; simp)
    unfold isDigit at hc
    have hlen : s.size = r.length + 1 := by rw [← dat_length, hds]; rfl
    have k1 : (s.size : Int) > 0 := by omega
    have k2 : 0 < (s.size : Int) := by omega
    have hb0 : bt s 0 = (c.toNat : Int) := hb
    have k3 : (bt s 0 == 45) = false := by rw [hb0, beq_eq_false_iff_ne]; omega
    unfold num_Parse.f
    simp only [if_pos k1, k3]
    refine Ev.succ ?_
    simp only [num_Parse.j0, if_neg (show ¬ (false = true) by decide)]
    refine Ev.succ ?_
    have k4 : ¬ (dat s = ([] : L)) := by rw [hds]; simp
    simp only [num_Parse.j1, toList_dat, if_neg k4, if_pos k2]
    have bad : Ev (fun k => num_Parse.j2 k s false true) ((0, 11) : Int × Int) := by
      refine Ev.succ ?_
      simp only [num_Parse.j2, if_pos True.intro]
      exact Ev.now _
    by_cases h19 : (s.size : Int) > 19
    · simp only [if_pos h19]
      refine cast (congrArg _ ?_) bad
      unfold parseS
      rw [if_pos (Or.inl (by simp only [List.length_cons]; omega))]
    · simp only [if_neg h19]
      have good : (parseS (c :: r) = if numv (dat s) > 9223372036854775807 then (0, 11) else ((numv (dat s) : Int), 0)) → Ev (fun k => num_Parse.j2 k s false false) (parseS (c :: r)) := by
        intro e
        refine Ev.succ ?_
        simp only [num_Parse.j2, if_neg (show ¬ (false = true) by decide)]
        rw [e]
        have hl := parse_loop (s := s) (by omega) hd (dat s) 0 (by simp) (by omega)
        simpa [numv] using hl
      by_cases h48 : bt s 0 = 48
      · simp only [if_pos h48]
        have hc48 : c = 48 := (u8_eq (c := c) (d := 48)).1 (by rw [← hb0, h48]; rfl)
        by_cases h1 : (s.size : Int) > 1
        · rw [decide_eq_true h1]
          refine cast (congrArg _ ?_) bad
          unfold parseS
          rw [if_pos (Or.inr (Or.inl ⟨by rw [hc48]; rfl, by simp only [List.length_cons]; omega⟩))]
        · rw [decide_eq_false h1]
          refine good ?_
          unfold parseS
          rw [hds]
          by_cases hv : numv (c :: r) > 9223372036854775807
          · rw [if_pos (Or.inr (Or.inr hv)), if_pos hv]
          · rw [if_neg hv, if_neg (by simp only [List.length_cons]; intro hh; rcases hh with hh | hh | hh <;> omega)]
      · simp only [if_neg h48]
        have hc48 : ¬ (c = 48) := fun e => h48 (by rw [hb0, e]; rfl)
        refine good ?_
        unfold parseS
        rw [hds]
        by_cases hv : numv (c :: r) > 9223372036854775807
        · rw [if_pos (Or.inr (Or.inr hv)), if_pos hv]
        · rw [if_neg hv, if_neg (by simp only [List.length_cons, List.head?_cons, Option.some.injEq]; intro hh; rcases hh with hh | hh | hh <;> first | omega | exact hc48 hh.1)]

theorem least_val : num_Parse.f 60 ((⟨#[45]⟩ : ByteArray) ++ str leastL) = some (-9223372036854775808, 0) := by decide +kernel
theorem value_ev {s : ByteArray} (hd : ∀ c ∈ dat s, isDigit c) (hne : dat s ≠ []) : Ev (fun k => lex_value.f k s) (valS (dat s)) := by
  unfold lex_value.f
  by_cases h : dat s = leastL
  · have h2 : s.toList = ([57, 50, 50, 51, 51, 55, 50, 48, 51, 54, 56, 53, 52, 55, 55, 53, 56, 48, 56] : List UInt8) := by rw [toList_dat]; exact h
    have hsz : s.size = 19 := by rw [← dat_length, h]; rfl
    have h3 : 1 + s.size ≤ 9223372036854775807 := by omega
    simp only [if_pos h2, if_pos h3]
    have e : s = str leastL := by rw [← h, str_dat]
    rw [e]
    refine Ev.bind (g := fun k => num_Parse.f k ((⟨#[45]⟩ : ByteArray) ++ str leastL)) (f := fun _ b => some (b.1, b.2)) (Ev.of (fun k => num_Parse.mono _ k) least_val) ?_
    exact Ev.some (by rw [dat_str]; unfold valS; rw [if_pos rfl])
  · have h2 : ¬ (s.toList = ([57, 50, 50, 51, 51, 55, 50, 48, 51, 54, 56, 53, 52, 55, 55, 53, 56, 48, 56] : List UInt8)) := by rw [toList_dat]; exact h
    simp only [if_neg h2]
    refine Ev.bind (f := fun _ b => some (b.1, b.2)) (parse_ev hd hne) ?_
    exact Ev.some (by unfold valS parseS; rw [if_neg h])

end Go.Proofs.Ytdjcelbicmpobaa.Lx
