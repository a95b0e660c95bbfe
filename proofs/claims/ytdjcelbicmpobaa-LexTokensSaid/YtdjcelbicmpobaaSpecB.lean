/- What the program's lexer comes to, told by the plain functions of SpecA: blanks, classes, kinds. -/
import Derived.Test.YtdjcelbicmpobaaSpecA
import Derived.Test.YtdjcelbicmpobaaH4
import Derived.Test.YtdjcelbicmpobaaH6
import Derived.Test.YtdjcelbicmpobaaH7
namespace Go.Proofs.Ytdjcelbicmpobaa.Lx
open Go.RowKit Go.Proofs.YtdjcelbicmpobaaW.PrintWords Go.Proofs.YtdjcelbicmpobaaW.PrintLast Go.Proofs.Ytdjcelbicmpobaa.H

theorem Ev.succ {α : Type} {g : Nat → Option α} {r : α} (h : Ev (fun k => g (k + 1)) r) : Ev g r := Ev.step (fun _ => rfl) h
theorem Ev.some {α : Type} {r r' : α} (h : r = r') : Ev (fun _ => Option.some r) r' := by subst h; exact Ev.now r

theorem u8_eq {c d : UInt8} : ((c.toNat : Int) = (d.toNat : Int)) ↔ c = d := by
  constructor
  · intro h; exact UInt8.toNat_inj.1 (by omega)
  · rintro rfl; rfl
theorem c10 (c : UInt8) : ((c.toNat : Int) = 10) ↔ c = 10 := u8_eq (d := 10)
theorem c32 (c : UInt8) : ((c.toNat : Int) = 32) ↔ c = 32 := u8_eq (d := 32)
theorem c45 (c : UInt8) : ((c.toNat : Int) = 45) ↔ c = 45 := u8_eq (d := 45)

theorem remark_ev {s : ByteArray} (hs : s.size ≤ 140737488351232) (line : Int) : ∀ (l : L) (i : Nat) (col : Int), (dat s).drop i = l → i ≤ s.size → 0 ≤ col → col ≤ i + 1 →
    Ev (fun k => lex_reader_remark.l0 k s (i : Int) line col) (s, ((i + eolN l : Nat) : Int), line, col + eolN l)
  | [], i, col, h, hi, _, _ => by
    have e := drop_nil h hi
    have h1 : ¬ ((i : Int) < (s.size : Int)) := by omega
    refine Ev.succ ?_
    simp only [lex_reader_remark.l0, if_neg h1]
    exact Ev.some (by simp [eolN])
  | c :: r, i, col, h, hi, h0, h1 => by
    obtain ⟨hlt, hb, hr⟩ := bt_of_drop h
    have k1 : (i : Int) < (s.size : Int) := by omega
    have k2 : 0 ≤ (i : Int) := by omega
    refine Ev.succ ?_
    by_cases hc : c = 10
    · have k3 : bt s (i : Int) = 10 := by rw [hb, c10]; exact hc
      simp only [lex_reader_remark.l0, if_pos k1, if_pos k2, if_pos k3]
      exact Ev.some (by simp [eolN, hc])
    · have k3 : ¬ (bt s (i : Int) = 10) := by rw [hb, c10]; exact hc
      simp only [lex_reader_remark.l0, if_pos k1, if_pos k2, if_neg k3]
      have ih := remark_ev hs line r (i + 1) (col + 1) hr (by omega) (by omega) (by omega)
      rw [w64 (by omega) (by omega), w64 (by omega) (by omega)]
      have e : ((i + 1 : Nat) : Int) = (i : Int) + 1 := by omega
      rw [e] at ih
      refine cast (congrArg _ ?_) ih
      simp only [eolN, if_neg hc]
      refine Prod.ext rfl (Prod.ext ?_ (Prod.ext rfl ?_))
      · show ((i + 1 + eolN r : Nat) : Int) = ((i + (eolN r + 1) : Nat) : Int); omega
      · show col + 1 + (eolN r : Int) = col + ((eolN r + 1 : Nat) : Int); omega

theorem eolN_plain : ∀ l : L, ∀ c ∈ l.take (eolN l), c ≠ 10
  | [], c, h => by simp at h
  | d :: r, c, h => by
    simp only [eolN] at h
    split at h
    · simp at h
    · rename_i hd
      simp only [List.take_succ_cons, List.mem_cons] at h
      rcases h with rfl | h
      · exact hd
      · exact eolN_plain r c h

theorem drop_add {s : ByteArray} {i : Nat} {l : L} (h : (dat s).drop i = l) (j : Nat) : (dat s).drop (i + j) = l.drop j := by rw [← h, List.drop_drop]

/-- What is told where blanks end. -/
def skipR (s : ByteArray) (i : Nat) (p : Int × Int) (l : L) : Bool × ByteArray × Int × Int × Int :=
  (decide (((i + blankN l : Nat) : Int) < (s.size : Int)), s, ((i + blankN l : Nat) : Int), (adv p (l.take (blankN l))).1, (adv p (l.take (blankN l))).2)

theorem skip_ev {s : ByteArray} (hs : s.size ≤ 140737488351232) : ∀ (n : Nat) (l : L) (i : Nat) (line col : Int), l.length ≤ n → (dat s).drop i = l → i ≤ s.size → 0 ≤ line → line ≤ i + 1 → 0 ≤ col → col ≤ i + 1 →
    Ev (fun k => lex_reader_skip.l0 k s (i : Int) line col) (skipR s i (line, col) l) := by
  intro n
  induction n with
  | zero =>
    intro l i line col hn h hi _ _ _ _
    obtain rfl : l = [] := List.eq_nil_of_length_eq_zero (by omega)
    have e := drop_nil h hi
    have h1 : ¬ ((i : Int) < (s.size : Int)) := by omega
    refine Ev.succ ?_
    simp only [lex_reader_skip.l0, if_neg h1]
    exact Ev.some (by simp [skipR, blankN_nil, adv_nil])
  | succ n ih =>
    intro l i line col hn h hi a0 a1 b0 b1
    cases l with
    | nil =>
      have e := drop_nil h hi
      have h1 : ¬ ((i : Int) < (s.size : Int)) := by omega
      refine Ev.succ ?_
      simp only [lex_reader_skip.l0, if_neg h1]
      exact Ev.some (by simp [skipR, blankN_nil, adv_nil])
    | cons c r =>
      obtain ⟨hlt, hb, hr⟩ := bt_of_drop h
      have k1 : (i : Int) < (s.size : Int) := by omega
      have k2 : 0 ≤ (i : Int) := by omega
      have e1 : ((i + 1 : Nat) : Int) = (i : Int) + 1 := by omega
      have hlen := drop_len h hi
      simp only [List.length_cons] at hn hlen
      refine Ev.succ ?_
      by_cases hc : c = 32
      · have k3 : bt s (i : Int) = 32 := by rw [hb, c32]; exact hc
        simp only [lex_reader_skip.l0, if_pos k1, if_pos k2, if_pos k3]
        have ih1 := ih r (i + 1) line (col + 1) (by omega) hr (by omega) (by omega) (by omega) (by omega) (by omega)
        rw [w64 (by omega) (by omega), w64 (by omega) (by omega)]
        rw [e1] at ih1
        refine cast (congrArg _ ?_) ih1
        have hbn := blankN_blank (r := r) (Or.inl hc : c = 32 ∨ c = 10)
        have hst : step (line, col) c = (line, col + 1) := by rw [hc]; rfl
        simp only [skipR, hbn, List.take_succ_cons, adv_cons, hst]
        rw [show i + 1 + blankN r = i + (blankN r + 1) by omega]
      · have k3 : ¬ (bt s (i : Int) = 32) := by rw [hb, c32]; exact hc
        by_cases hc1 : c = 10
        · have k4 : bt s (i : Int) = 10 := by rw [hb, c10]; exact hc1
          simp only [lex_reader_skip.l0, if_pos k1, if_pos k2, if_neg k3, if_pos k4]
          have ih1 := ih r (i + 1) (line + 1) 1 (by omega) hr (by omega) (by omega) (by omega) (by omega) (by omega)
          rw [w64 (by omega) (by omega), w64 (by omega) (by omega)]
          rw [e1] at ih1
          refine cast (congrArg _ ?_) ih1
          have hbn := blankN_blank (r := r) (Or.inr hc1 : c = 32 ∨ c = 10)
          have hst : step (line, col) c = (line + 1, 1) := by rw [hc1]; rfl
          simp only [skipR, hbn, List.take_succ_cons, adv_cons, hst]
          rw [show i + 1 + blankN r = i + (blankN r + 1) by omega]
        · have k4 : ¬ (bt s (i : Int) = 10) := by rw [hb, c10]; exact hc1
          have nb : ¬ (c = 32 ∨ c = 10) := by simp [hc, hc1]
          have stop : ¬ (c = 45 ∧ r.head? = some 45) → Ev (fun _ => some (decide ((i : Int) < (s.size : Int)), s, (i : Int), line, col)) (skipR s i (line, col) (c :: r)) := by
            intro hno
            exact Ev.some (by simp [skipR, blankN_none nb hno, adv_nil])
          by_cases hc2 : c = 45
          · have k5 : bt s (i : Int) = 45 := by rw [hb, c45]; exact hc2
            have hw : wrap64 ((i : Int) + 1) = ((i + 1 : Nat) : Int) := by rw [w64 (by omega) (by omega)]; omega
            simp only [lex_reader_skip.l0, if_pos k1, if_pos k2, if_neg k3, if_neg k4, if_pos k5]
            rw [hw]
            cases r with
            | nil =>
              have k6 : ¬ (((i + 1 : Nat) : Int) < (s.size : Int)) := by have := drop_nil hr (by omega); omega
              simp only [if_neg k6]
              exact stop (by simp)
            | cons d r2 =>
              obtain ⟨hlt2, hb2, hr2⟩ := bt_of_drop hr
              have k6 : (((i + 1 : Nat) : Int) < (s.size : Int)) := by omega
              have k7 : 0 ≤ ((i + 1 : Nat) : Int) := by omega
              simp only [if_pos k6, if_pos k7]
              by_cases hd : d = 45
              · have k8 : bt s ((i + 1 : Nat) : Int) = 45 := by rw [hb2, c45]; exact hd
                simp only [if_pos k8]
                subst hc2
                have hh : (d :: r2 : L).head? = some 45 := by simp [hd]
                have hl : eolN (45 :: d :: r2) = eolN (d :: r2) + 1 := by simp [eolN]
                have hle := eolN_le (d :: r2)
                simp only [List.length_cons] at hle hn hlen
                have rm := remark_ev hs line (45 :: d :: r2) i col h hi b0 b1
                refine Ev.bind (g := fun k => lex_reader_remark.f k s (i : Int) line col) (f := fun k b => lex_reader_skip.l0 k b.1 b.2.1 b.2.2.1 b.2.2.2) rm ?_
                rw [hl]
                have ih1 := ih ((d :: r2).drop (eolN (d :: r2))) (i + (eolN (d :: r2) + 1)) line (col + ((eolN (d :: r2) + 1 : Nat) : Int)) (by simp; omega) (by rw [drop_add h, List.drop_succ_cons]) (by omega) (by omega) (by omega) (by omega) (by omega)
                refine cast (congrArg _ ?_) ih1
                simp only [skipR, blankN_remark hh]
                rw [show i + (eolN (d :: r2) + 1) + blankN (List.drop (eolN (d :: r2)) (d :: r2)) = i + (eolN (d :: r2) + 1 + blankN (List.drop (eolN (d :: r2)) (d :: r2))) by omega]
                rw [List.take_add (l := 45 :: d :: r2), adv_append, adv_plain (l := (45 :: d :: r2).take (eolN (d :: r2) + 1)) (by rw [← hl]; exact eolN_plain _)]
                simp only [List.length_take, List.length_cons, List.drop_succ_cons]
                rw [show min (eolN (d :: r2) + 1) (r2.length + 1 + 1) = eolN (d :: r2) + 1 by omega]
              · have k8 : ¬ (bt s ((i + 1 : Nat) : Int) = 45) := by rw [hb2, c45]; exact hd
                simp only [if_neg k8]
                exact stop (by simp [hd])
          · have k5 : ¬ (bt s (i : Int) = 45) := by rw [hb, c45]; exact hc2
            simp only [lex_reader_skip.l0, if_pos k1, if_pos k2, if_neg k3, if_neg k4, if_neg k5]
            exact stop (by simp [hc2])

/-! ### Classes and kinds -/
theorem class_all : ∀ n : Fin 256, lex_classOf.f 8 ((n.val : Nat) : Int) = some (cls n.val) := by decide +kernel
theorem goes_all : ∀ b : Fin 6, ∀ n : Fin 256, lex_goesOn.f 12 ((b.val : Nat) : Int) ((n.val : Nat) : Int) = some (goes b.val n.val) := by decide +kernel
theorem cls_lt : ∀ n : Fin 256, 0 ≤ cls n.val ∧ cls n.val ≤ 5 := by decide +kernel
theorem class_ev (c : UInt8) : Ev (fun k => lex_classOf.f k (c.toNat : Int)) (cls c.toNat) :=
  Ev.of (fun k => lex_classOf.mono _ k) (class_all ⟨c.toNat, c.toNat_lt⟩)
theorem cls_range (c : UInt8) : 0 ≤ cls c.toNat ∧ cls c.toNat ≤ 5 := cls_lt ⟨c.toNat, c.toNat_lt⟩
theorem goes_ev (b c : UInt8) : Ev (fun k => lex_goesOn.f k (cls b.toNat) (c.toNat : Int)) (goes (cls b.toNat) c.toNat) := by
  obtain ⟨h0, h1⟩ := cls_range b
  have h := goes_all ⟨(cls b.toNat).toNat, by omega⟩ ⟨c.toNat, c.toNat_lt⟩
  simp only [Int.toNat_of_nonneg h0] at h
  exact Ev.of (fun k => lex_goesOn.mono _ _ k) h

end Go.Proofs.Ytdjcelbicmpobaa.Lx
