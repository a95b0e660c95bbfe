/- What the program's lexer comes to, told by the plain functions of SpecA: blanks, classes, kinds. -/
import Derived.Test.YtdjcelbicmpobaaSpecA
import Derived.Test.YtdjcelbicmpobaaH4
import Derived.Test.YtdjcelbicmpobaaH6
import Derived.Test.YtdjcelbicmpobaaH7
import Derived.Test.YtdjcelbicmpobaaH11
namespace Go.Proofs.Ytdjcelbicmpobaa.Lx
open Go.RowKit Go.Proofs.YtdjcelbicmpobaaW.PrintWords Go.Proofs.YtdjcelbicmpobaaW.PrintLast Go.Proofs.Ytdjcelbicmpobaa.H

theorem Ev.succ {α : Type} {g : Nat → Option α} {r : α} (h : Ev (fun k => g (k + 1)) r) : Ev g r := Ev.step (fun _ => rfl) h
theorem Ev.some {α : Type} {r r' : α} (h : r = r') : Ev (fun _ => Option.some r) r' := by subst h; exact Ev.now r

theorem u8_eq {c d : UInt8} : ((c.toNat : Int) = (d.toNat : Int)) ↔ c = d := by
  constructor
  · intro h; exact UInt8.toNat_inj.1 (by omega)
  · rintro rfl; rfl
theorem c10 (c : UInt8) : ((c.toNat : Int) = 10) ↔ c = 10 := u8_eq (d := 10)
theorem c32 (c : UInt8) : ((c.toNat : Int) = 32) ↔ c = 32 := u8_eq (d := 32)
theorem c45 (c : UInt8) : ((c.toNat : Int) = 45) ↔ c = 45 := u8_eq (d := 45)

theorem remark_ev {s : ByteArray} (hs : s.size ≤ 140737488351232) (line : Int) : ∀ (l : L) (i : Nat) (col : Int), (dat s).drop i = l → i ≤ s.size → 0 ≤ col → col ≤ i + 1 →
    Ev (fun k => lex_reader_remark.l0 k s (i : Int) line col) (s, ((i + eolN l : Nat) : Int), line, col + eolN l)
  | [], i, col, h, hi, _, _ => by
    have e := drop_nil h hi
    have h1 : ¬ ((i : Int) < (s.size : Int)) := by omega
    refine Ev.succ ?_
    simp only [lex_reader_remark.l0, if_neg h1]
    exact Ev.some (by simp [eolN])
  | c :: r, i, col, h, hi, h0, h1 => by
    obtain ⟨hlt, hb, hr⟩ := bt_of_drop h
    have k1 : (i : Int) < (s.size : Int) := by omega
    have k2 : 0 ≤ (i : Int) := by omega
    refine Ev.succ ?_
    by_cases hc : c = 10
    · have k3 : bt s (i : Int) = 10 := by rw [hb, c10]; exact hc
      simp only [lex_reader_remark.l0, if_pos k1, if_pos k2, if_pos k3]
      exact Ev.some (by simp [eolN, hc])
    · have k3 : ¬ (bt s (i : Int) = 10) := by rw [hb, c10]; exact hc
      simp only [lex_reader_remark.l0, if_pos k1, if_pos k2, if_neg k3]
      have ih := remark_ev hs line r (i + 1) (col + 1) hr (by omega) (by omega) (by omega)
      rw [w64 (by omega) (by omega), w64 (by omega) (by omega)]
      have e : ((i + 1 : Nat) : Int) = (i : Int) + 1 := by omega
      rw [e] at ih
      refine cast (congrArg _ ?_) ih
      simp only [eolN, if_neg hc]
      refine Prod.ext rfl (Prod.ext ?_ (Prod.ext rfl ?_))
      · show ((i + 1 + eolN r : Nat) : Int) = ((i + (eolN r + 1) : Nat) : Int); omega
      · show col + 1 + (eolN r : Int) = col + ((eolN r + 1 : Nat) : Int); omega

theorem eolN_plain : ∀ l : L, ∀ c ∈ l.take (eolN l), c ≠ 10
  | [], c, h => by simp at h
  | d :: r, c, h => by
    simp only [eolN] at h
    split at h
    · simp at h
    · rename_i hd
      simp only [List.take_succ_cons, List.mem_cons] at h
      rcases h with rfl | h
      · exact hd
      · exact eolN_plain r c h

theorem drop_add {s : ByteArray} {i : Nat} {l : L} (h : (dat s).drop i = l) (j : Nat) : (dat s).drop (i + j) = l.drop j := by rw [← h, List.drop_drop]

/-- What is told where blanks end. -/
def skipR (s : ByteArray) (i : Nat) (p : Int × Int) (l : L) : Bool × ByteArray × Int × Int × Int :=
  (decide (((i + blankN l : Nat) : Int) < (s.size : Int)), s, ((i + blankN l : Nat) : Int), (adv p (l.take (blankN l))).1, (adv p (l.take (blankN l))).2)

theorem skip_ev {s : ByteArray} (hs : s.size ≤ 140737488351232) : ∀ (n : Nat) (l : L) (i : Nat) (line col : Int), l.length ≤ n → (dat s).drop i = l → i ≤ s.size → 0 ≤ line → line ≤ i + 1 → 0 ≤ col → col ≤ i + 1 →
    Ev (fun k => lex_reader_skip.l0 k s (i : Int) line col) (skipR s i (line, col) l) := by
  intro n
  induction n with
  | zero =>
    intro l i line col hn h hi _ _ _ _
    obtain rfl : l = [] := List.eq_nil_of_length_eq_zero (by omega)
    have e := drop_nil h hi
    have h1 : ¬ ((i : Int) < (s.size : Int)) := by omega
    refine Ev.succ ?_
    simp only [lex_reader_skip.l0, if_neg h1]
    exact Ev.some (by simp [skipR, blankN_nil, adv_nil])
  | succ n ih =>
    intro l i line col hn h hi a0 a1 b0 b1
    cases l with
    | nil =>
      have e := drop_nil h hi
      have h1 : ¬ ((i : Int) < (s.size : Int)) := by omega
      refine Ev.succ ?_
      simp only [lex_reader_skip.l0, if_neg h1]
      exact Ev.some (by simp [skipR, blankN_nil, adv_nil])
    | cons c r =>
      obtain ⟨hlt, hb, hr⟩ := bt_of_drop h
      have k1 : (i : Int) < (s.size : Int) := by omega
      have k2 : 0 ≤ (i : Int) := by omega
      have e1 : ((i + 1 : Nat) : Int) = (i : Int) + 1 := by omega
      have hlen := drop_len h hi
      simp only [List.length_cons] at hn hlen
      refine Ev.succ ?_
      by_cases hc : c = 32
      · have k3 : bt s (i : Int) = 32 := by rw [hb, c32]; exact hc
        simp only [lex_reader_skip.l0, if_pos k1, if_pos k2, if_pos k3]
        have ih1 := ih r (i + 1) line (col + 1) (by omega) hr (by omega) (by omega) (by omega) (by omega) (by omega)
        rw [w64 (by omega) (by omega), w64 (by omega) (by omega)]
        rw [e1] at ih1
        refine cast (congrArg _ ?_) ih1
        have hbn := blankN_blank (r := r) (Or.inl hc : c = 32 ∨ c = 10)
        have hst : step (line, col) c = (line, col + 1) := by rw [hc]; rfl
        simp only [skipR, hbn, List.take_succ_cons, adv_cons, hst]
        rw [show i + 1 + blankN r = i + (blankN r + 1) by omega]
      · have k3 : ¬ (bt s (i : Int) = 32) := by rw [hb, c32]; exact hc
        by_cases hc1 : c = 10
        · have k4 : bt s (i : Int) = 10 := by rw [hb, c10]; exact hc1
          simp only [lex_reader_skip.l0, if_pos k1, if_pos k2, if_neg k3, if_pos k4]
          have ih1 := ih r (i + 1) (line + 1) 1 (by omega) hr (by omega) (by omega) (by omega) (by omega) (by omega)
          rw [w64 (by omega) (by omega), w64 (by omega) (by omega)]
          rw [e1] at ih1
          refine cast (congrArg _ ?_) ih1
          have hbn := blankN_blank (r := r) (Or.inr hc1 : c = 32 ∨ c = 10)
          have hst : step (line, col) c = (line + 1, 1) := by rw [hc1]; rfl
          simp only [skipR, hbn, List.take_succ_cons, adv_cons, hst]
          rw [show i + 1 + blankN r = i + (blankN r + 1) by omega]
        · have k4 : ¬ (bt s (i : Int) = 10) := by rw [hb, c10]; exact hc1
          have nb : ¬ (c = 32 ∨ c = 10) := by simp [hc, hc1]
          have stop : ¬ (c = 45 ∧ r.head? = some 45) → Ev (fun _ => some (decide ((i : Int) < (s.size : Int)), s, (i : Int), line, col)) (skipR s i (line, col) (c :: r)) := by
            intro hno
            exact Ev.some (by simp [skipR, blankN_none nb hno, adv_nil])
          by_cases hc2 : c = 45
          · have k5 : bt s (i : Int) = 45 := by rw [hb, c45]; exact hc2
            have hw : wrap64 ((i : Int) + 1) = ((i + 1 : Nat) : Int) := by rw [w64 (by omega) (by omega)]; omega
            simp only [lex_reader_skip.l0, if_pos k1, if_pos k2, if_neg k3, if_neg k4, if_pos k5]
            rw [hw]
            cases r with
            | nil =>
              have k6 : ¬ (((i + 1 : Nat) : Int) < (s.size : Int)) := by have := drop_nil hr (by omega); omega
              simp only [if_neg k6]
              exact stop (by simp)
            | cons d r2 =>
              obtain ⟨hlt2, hb2, hr2⟩ := bt_of_drop hr
              have k6 : (((i + 1 : Nat) : Int) < (s.size : Int)) := by omega
              have k7 : 0 ≤ ((i + 1 : Nat) : Int) := by omega
              simp only [if_pos k6, if_pos k7]
              by_cases hd : d = 45
              · have k8 : bt s ((i + 1 : Nat) : Int) = 45 := by rw [hb2, c45]; exact hd
                simp only [if_pos k8]
                subst hc2
                have hh : (d :: r2 : L).head? = some 45 := by simp [hd]
                have hl : eolN (45 :: d :: r2) = eolN (d :: r2) + 1 := by simp [eolN]
                have hle := eolN_le (d :: r2)
                simp only [List.length_cons] at hle hn hlen
                have rm := remark_ev hs line (45 :: d :: r2) i col h hi b0 b1
                refine Ev.bind (g := fun k => lex_reader_remark.f k s (i : Int) line col) (f := fun k b => lex_reader_skip.l0 k b.1 b.2.1 b.2.2.1 b.2.2.2) rm ?_
                rw [hl]
                have ih1 := ih ((d :: r2).drop (eolN (d :: r2))) (i + (eolN (d :: r2) + 1)) line (col + ((eolN (d :: r2) + 1 : Nat) : Int)) (by simp; omega) (by rw [drop_add h, List.drop_succ_cons]) (by omega) (by omega) (by omega) (by omega) (by omega)
                refine cast (congrArg _ ?_) ih1
                simp only [skipR, blankN_remark hh]
                rw [show i + (eolN (d :: r2) + 1) + blankN (List.drop (eolN (d :: r2)) (d :: r2)) = i + (eolN (d :: r2) + 1 + blankN (List.drop (eolN (d :: r2)) (d :: r2))) by omega]
                rw [List.take_add (l := 45 :: d :: r2), adv_append, adv_plain (l := (45 :: d :: r2).take (eolN (d :: r2) + 1)) (by rw [← hl]; exact eolN_plain _)]
                simp only [List.length_take, List.length_cons, List.drop_succ_cons]
                rw [show min (eolN (d :: r2) + 1) (r2.length + 1 + 1) = eolN (d :: r2) + 1 by omega]
              · have k8 : ¬ (bt s ((i + 1 : Nat) : Int) = 45) := by rw [hb2, c45]; exact hd
                simp only [if_neg k8]
                exact stop (by simp [hd])
          · have k5 : ¬ (bt s (i : Int) = 45) := by rw [hb, c45]; exact hc2
            simp only [lex_reader_skip.l0, if_pos k1, if_pos k2, if_neg k3, if_neg k4, if_neg k5]
            exact stop (by simp [hc2])

/-! ### Classes and kinds -/
theorem class_all : ∀ n : Fin 256, lex_classOf.f 8 ((n.val : Nat) : Int) = some (cls n.val) := by decide +kernel
theorem goes_all : ∀ b : Fin 6, ∀ n : Fin 256, lex_goesOn.f 12 ((b.val : Nat) : Int) ((n.val : Nat) : Int) = some (goes b.val n.val) := by decide +kernel
theorem cls_lt : ∀ n : Fin 256, 0 ≤ cls n.val ∧ cls n.val ≤ 5 := by decide +kernel
theorem class_ev (c : UInt8) : Ev (fun k => lex_classOf.f k (c.toNat : Int)) (cls c.toNat) :=
  Ev.of (fun k => lex_classOf.mono _ k) (class_all ⟨c.toNat, c.toNat_lt⟩)
theorem cls_range (c : UInt8) : 0 ≤ cls c.toNat ∧ cls c.toNat ≤ 5 := cls_lt ⟨c.toNat, c.toNat_lt⟩
theorem goes_ev (b c : UInt8) : Ev (fun k => lex_goesOn.f k (cls b.toNat) (c.toNat : Int)) (goes (cls b.toNat) c.toNat) := by
  obtain ⟨h0, h1⟩ := cls_range b
  have h := goes_all ⟨(cls b.toNat).toNat, by omega⟩ ⟨c.toNat, c.toNat_lt⟩
  simp only [Int.toNat_of_nonneg h0] at h
  exact Ev.of (fun k => lex_goesOn.mono _ _ k) h

theorem word_eq (s : ByteArray) : lex_Word.f s = some (isWord (dat s)) := by
  unfold lex_Word.f
  simp only [toList_dat]
  generalize dat s = t
  (repeat' split) <;> simp_all [isWord, words]
theorem kind_eq (b : Int) (s : ByteArray) : lex_kind.f b s = some (kindS b (dat s)) := by
  unfold lex_kind.f kindS
  simp only [toList_dat, word_eq, Option.bind_some]
  (repeat' split) <;> simp_all

/-! ### Numbers -/
theorem u64 {x : Int} (h0 : 0 ≤ x) (h1 : x < 18446744073709551616) : IntKind.u64.wrap x = x := by
  show x % 18446744073709551616 = x
  omega
def isDigit (c : UInt8) : Prop := 48 ≤ c.toNat ∧ c.toNat ≤ 57
theorem numv_snoc (t : L) (c : UInt8) : numv (t ++ [c]) = numv t * 10 + (c.toNat - 48) := by simp [numv]
theorem fold_lt : ∀ (t : L) (u : Nat), (∀ c ∈ t, isDigit c) → t.foldl (fun u c => u * 10 + (c.toNat - 48)) u + 1 ≤ (u + 1) * 10 ^ t.length
  | [], u, _ => by simp
  | c :: r, u, h => by
    have h1 := fold_lt r (u * 10 + (c.toNat - 48)) (fun x hx => h x (by simp [hx]))
    have h2 := h c (by simp)
    unfold isDigit at h2
    simp only [List.foldl_cons, List.length_cons, Nat.pow_succ]
    refine Nat.le_trans h1 ?_
    rw [Nat.mul_comm (10 ^ r.length) 10, ← Nat.mul_assoc]
    exact Nat.mul_le_mul_right _ (by omega)
theorem numv_lt (t : L) (h : ∀ c ∈ t, isDigit c) : numv t < 10 ^ t.length := by
  have := fold_lt t 0 h
  unfold numv
  omega
theorem pow_19 {n : Nat} (h : n ≤ 19) : 10 ^ n ≤ 10000000000000000000 := Nat.le_trans (Nat.pow_le_pow_right (by decide) h) (by decide)

/-- What a row of digits without a sign comes to. -/
def parseS (t : L) : Int × Int :=
  if t.length > 19 ∨ (t.head? = some 48 ∧ t.length > 1) ∨ numv t > 9223372036854775807 then (0, 11) else ((numv t : Int), 0)

theorem parse_end (u : Nat) (hu : u < 10000000000000000000) : Ev (fun k => num_Parse.j4 k false (u : Int) true) (if u > 9223372036854775807 then (0, 11) else ((u : Int), 0)) := by
  refine Ev.succ ?_
  simp only [num_Parse.j4, if_pos True.intro]
  by_cases h1 : (u : Int) > 9223372036854775808
  · simp only [if_pos h1]
    refine Ev.succ ?_
    simp only [num_Parse.j5, if_pos True.intro]
    exact Ev.some (by rw [if_pos (by omega)])
  · simp only [if_neg h1]
    by_cases h2 : (u : Int) = 9223372036854775808
    · simp only [if_pos h2]
      refine Ev.succ ?_
      simp only [num_Parse.j5, Bool.not_false, if_pos True.intro]
      exact Ev.some (by rw [if_pos (by omega)])
    · simp only [if_neg h2]
      refine Ev.succ ?_
      simp only [num_Parse.j5, if_neg (show ¬ (false = true) by decide)]
      refine Ev.some ?_
      rw [if_neg (by omega)]
      refine Prod.ext ?_ rfl
      show wrap64 (u : Int) = (u : Int)
      unfold wrap64
      omega
theorem parse_loop {s : ByteArray} (hs : s.size ≤ 19) (hd : ∀ c ∈ dat s, isDigit c) : ∀ (l : L) (i : Nat), (dat s).drop i = l → i ≤ s.size →
    Ev (fun k => num_Parse.l0 k s false (numv ((dat s).take i) : Int) true (i : Int)) (if numv (dat s) > 9223372036854775807 then (0, 11) else ((numv (dat s) : Int), 0))
  | [], i, h, hi => by
    have e := drop_nil h hi
    have h1 : ¬ ((i : Int) < (s.size : Int)) := by omega
    have h2 : (dat s).take i = dat s := by rw [e, ← dat_length]; exact List.take_length
    have h3 := numv_lt (dat s) hd
    rw [dat_length] at h3
    refine Ev.succ ?_
    simp only [num_Parse.l0, if_neg h1, h2]
    exact parse_end _ (Nat.lt_of_lt_of_le h3 (pow_19 hs))
  | c :: r, i, h, hi => by
    obtain ⟨hlt, hb, hr⟩ := bt_of_drop h
    have hl : i < (dat s).length := by rw [dat_length]; exact hlt
    have hget : (dat s)[i] = c := by
      have := List.drop_eq_getElem_cons hl
      rw [h] at this
      injection this with a _
      exact a.symm
    have hc : isDigit c := hd c (by rw [← hget]; exact List.getElem_mem hl)
    have ht : (dat s).take (i + 1) = (dat s).take i ++ [c] := by rw [List.take_succ_eq_append_getElem hl, hget]
    have hm := numv_lt ((dat s).take i) (fun x hx => hd x (List.mem_of_mem_take hx))
    have hm2 : 10 ^ ((dat s).take i).length ≤ 1000000000000000000 := by
      refine Nat.le_trans (Nat.pow_le_pow_right (by decide) (?_ : _ ≤ 18)) (by decide)
      rw [List.length_take]
      omega
    have ih := parse_loop hs hd r (i + 1) hr (by omega)
    have k1 : (i : Int) < (s.size : Int) := by omega
    have k2 : 0 ≤ (i : Int) := by omega
    unfold isDigit at hc
    have k3 : ¬ (bt s (i : Int) < 48) := by rw [hb]; omega
    have k4 : ¬ (bt s (i : Int) > 57) := by rw [hb]; omega
    refine Ev.succ ?_
    simp only [num_Parse.l0, if_pos k1, if_pos k2, if_neg k3, if_neg k4]
    rw [w64 (by omega) (by omega), hb]
    rw [ht, numv_snoc] at ih
    have e1 : ((i + 1 : Nat) : Int) = (i : Int) + 1 := by omega
    rw [e1] at ih
    generalize numv ((dat s).take i) = u at *
    rw [u64 (x := (u : Int) * 10) (by omega) (by omega)]
    rw [show ((c.toNat : Int) - 48) % 256 = (c.toNat : Int) - 48 by omega]
    rw [u64 (by omega) (by omega)]
    rw [show (u : Int) * 10 + ((c.toNat : Int) - 48) = ((u * 10 + (c.toNat - 48) : Nat) : Int) by omega]
    exact ih

theorem parse_ev {s : ByteArray} (hd : ∀ c ∈ dat s, isDigit c) (hne : dat s ≠ []) : Ev (fun k => num_Parse.f k s) (parseS (dat s)) := by
  cases hds : dat s with
  | nil => exact absurd hds hne
  | cons c r =>
    obtain ⟨hlt, hb, hr⟩ := bt_of_drop (s := s) (i := 0) (by rw [List.drop_zero]; exact hds)
    have hc : isDigit c := hd c (by rw [hds]; simp)
    unfold isDigit at hc
    have hlen : s.size = r.length + 1 := by rw [← dat_length, hds]; rfl
    have k1 : (s.size : Int) > 0 := by omega
    have k2 : 0 < (s.size : Int) := by omega
    have hb0 : bt s 0 = (c.toNat : Int) := hb
    have k3 : (bt s 0 == 45) = false := by rw [hb0, beq_eq_false_iff_ne]; omega
    unfold num_Parse.f
    simp only [if_pos k1, k3]
    refine Ev.succ ?_
    simp only [num_Parse.j0, if_neg (show ¬ (false = true) by decide)]
    refine Ev.succ ?_
    have k4 : ¬ (dat s = ([] : L)) := by rw [hds]; simp
    simp only [num_Parse.j1, toList_dat, if_neg k4, if_pos k2]
    have bad : Ev (fun k => num_Parse.j2 k s false true) ((0, 11) : Int × Int) := by
      refine Ev.succ ?_
      simp only [num_Parse.j2, if_pos True.intro]
      exact Ev.now _
    by_cases h19 : (s.size : Int) > 19
    · simp only [if_pos h19]
      refine cast (congrArg _ ?_) bad
      unfold parseS
      rw [if_pos (Or.inl (by simp only [List.length_cons]; omega))]
    · simp only [if_neg h19]
      have good : (parseS (c :: r) = if numv (dat s) > 9223372036854775807 then (0, 11) else ((numv (dat s) : Int), 0)) → Ev (fun k => num_Parse.j2 k s false false) (parseS (c :: r)) := by
        intro e
        refine Ev.succ ?_
        simp only [num_Parse.j2, if_neg (show ¬ (false = true) by decide)]
        rw [e]
        have hl := parse_loop (s := s) (by omega) hd (dat s) 0 (by simp) (by omega)
        simpa [numv] using hl
      by_cases h48 : bt s 0 = 48
      · simp only [if_pos h48]
        have hc48 : c = 48 := (u8_eq (c := c) (d := 48)).1 (by rw [← hb0, h48]; rfl)
        by_cases h1 : (s.size : Int) > 1
        · rw [decide_eq_true h1]
          refine cast (congrArg _ ?_) bad
          unfold parseS
          rw [if_pos (Or.inr (Or.inl ⟨by rw [hc48]; rfl, by simp only [List.length_cons]; omega⟩))]
        · rw [decide_eq_false h1]
          refine good ?_
          unfold parseS
          rw [hds]
          by_cases hv : numv (c :: r) > 9223372036854775807
          · rw [if_pos (Or.inr (Or.inr hv)), if_pos hv]
          · rw [if_neg hv, if_neg (by simp only [List.length_cons]; intro hh; rcases hh with hh | hh | hh <;> omega)]
      · simp only [if_neg h48]
        have hc48 : ¬ (c = 48) := fun e => h48 (by rw [hb0, e]; rfl)
        refine good ?_
        unfold parseS
        rw [hds]
        by_cases hv : numv (c :: r) > 9223372036854775807
        · rw [if_pos (Or.inr (Or.inr hv)), if_pos hv]
        · rw [if_neg hv, if_neg (by simp only [List.length_cons, List.head?_cons, Option.some.injEq]; intro hh; rcases hh with hh | hh | hh <;> first | omega | exact hc48 hh.1)]

theorem least_val : num_Parse.f 60 ((⟨#[45]⟩ : ByteArray) ++ str leastL) = some (-9223372036854775808, 0) := by decide +kernel
theorem value_ev {s : ByteArray} (hd : ∀ c ∈ dat s, isDigit c) (hne : dat s ≠ []) : Ev (fun k => lex_value.f k s) (valS (dat s)) := by
  unfold lex_value.f
  by_cases h : dat s = leastL
  · have h2 : s.toList = ([57, 50, 50, 51, 51, 55, 50, 48, 51, 54, 56, 53, 52, 55, 55, 53, 56, 48, 56] : List UInt8) := by rw [toList_dat]; exact h
    have hsz : s.size = 19 := by rw [← dat_length, h]; rfl
    have h3 : 1 + s.size ≤ 9223372036854775807 := by omega
    simp only [if_pos h2, if_pos h3]
    have e : s = str leastL := by rw [← h, str_dat]
    rw [e]
    refine Ev.bind (g := fun k => num_Parse.f k ((⟨#[45]⟩ : ByteArray) ++ str leastL)) (f := fun _ b => some (b.1, b.2)) (Ev.of (fun k => num_Parse.mono _ k) least_val) ?_
    exact Ev.some (by rw [dat_str]; unfold valS; rw [if_pos rfl])
  · have h2 : ¬ (s.toList = ([57, 50, 50, 51, 51, 55, 50, 48, 51, 54, 56, 53, 52, 55, 55, 53, 56, 48, 56] : List UInt8)) := by rw [toList_dat]; exact h
    simp only [if_neg h2]
    refine Ev.bind (f := fun _ b => some (b.1, b.2)) (parse_ev hd hne) ?_
    exact Ev.some (by unfold valS parseS; rw [if_neg h])

end Go.Proofs.Ytdjcelbicmpobaa.Lx
