/- What the program's lexer comes to (3): the next token, and all tokens of a source. -/
import Derived.Test.YtdjcelbicmpobaaSpecB
namespace Go.Proofs.Ytdjcelbicmpobaa.Lx
open Go.RowKit Go.Proofs.YtdjcelbicmpobaaW.PrintWords Go.Proofs.YtdjcelbicmpobaaW.PrintLast Go.Proofs.Ytdjcelbicmpobaa.H

theorem kindS_4 {b : Int} {t : L} : kindS b t = 4 ↔ b = 3 := by
  unfold kindS
  (repeat' split) <;> simp_all
theorem digit_of_goes : ∀ n : Fin 256, goes 3 n.val = true → 48 ≤ n.val ∧ n.val ≤ 57 := by decide +kernel
theorem digit_of_cls : ∀ n : Fin 256, cls n.val = 3 → 48 ≤ n.val ∧ n.val ≤ 57 := by decide +kernel
theorem takeWhile_all {α : Type} (p : α → Bool) : ∀ (l : List α) (x : α), x ∈ l.takeWhile p → p x = true
  | [], _, h => by simp at h
  | a :: r, x, h => by
    rw [List.takeWhile_cons] at h
    split at h
    · rename_i ha
      rcases List.mem_cons.1 h with rfl | h
      · exact ha
      · exact takeWhile_all p r x h
    · simp at h
/-- The token that begins here. -/
def tokL (c : UInt8) (r : L) : L := c :: runL (cls c.toNat) r
theorem digits_tok {c : UInt8} {r : L} (h : cls c.toNat = 3) : ∀ x ∈ tokL c r, isDigit x := by
  intro x hx
  rcases List.mem_cons.1 hx with rfl | hx
  · exact digit_of_cls ⟨x.toNat, x.toNat_lt⟩ h
  · rw [h] at hx
    exact digit_of_goes ⟨x.toNat, x.toNat_lt⟩ (takeWhile_all (fun c : UInt8 => goes 3 c.toNat) _ _ hx)
theorem take_tok {c : UInt8} {r : L} (h : ¬ cls c.toNat = 0) : (c :: r).take (tokLen (c :: r)) = tokL c r := by
  simp only [tokLen, if_neg h, List.take_succ_cons, runL_take, tokL]
theorem tokLen_eq {c : UInt8} {r : L} (h : ¬ cls c.toNat = 0) : tokLen (c :: r) = (runL (cls c.toNat) r).length + 1 := by simp only [tokLen, if_neg h]

def err0 (k : Int) (t : L) : Int := if k = 4 then (valS t).2 else if t.length > 32 then 2 else 0
abbrev NextR := Int × ByteArray × Int × Int × Int × Bool × Int × ByteArray × Int × Int × Int
/-- What is told of the token that begins at i with the byte c, r behind it. -/
def nextR (s : ByteArray) (i : Nat) (p : Int × Int) (c : UInt8) (r : L) : NextR :=
  if cls c.toNat = 0 then (0, ⟨#[]⟩, 0, 0, 0, false, 20, s, (i : Int), p.1, p.2)
  else
    let t := tokL c r
    let k := kindS (cls c.toNat) t
    if err0 k t = 0 then (k, str t, if k = 4 then (valS t).1 else 0, p.1, p.2, false, 0, s, ((i + t.length : Nat) : Int), p.1, p.2 + t.length)
    else (0, ⟨#[]⟩, 0, 0, 0, false, err0 k t, s, ((i + t.length : Nat) : Int), p.1, p.2 + t.length)

theorem extract_tok {s : ByteArray} {i : Nat} {c : UInt8} {r : L} (h : (dat s).drop i = c :: r) :
    s.extract i (i + (tokL c r).length) = str (tokL c r) := by
  apply dat_inj
  rw [dat_extract, h, dat_str, Nat.add_sub_cancel_left]
  simp only [tokL, List.length_cons, List.take_succ_cons, runL_take]

theorem next_tail {s : ByteArray} (hs : s.size ≤ 140737488351232) {i : Nat} {c : UInt8} {r : L} (h : (dat s).drop i = c :: r) (hi : i ≤ s.size) (p : Int × Int) (hp : 0 ≤ p.2 ∧ p.2 ≤ i + 1) (hc : ¬ cls c.toNat = 0) :
    Ev (fun k => lex_reader_next.j1 k (cls c.toNat) (i : Int) s ((i + (tokL c r).length : Nat) : Int) p.1 p.2 0 ⟨#[]⟩ 0 p.1 p.2 false) (nextR s i p c r) := by
  have hlen := drop_len h hi
  have hrl := runL_le (cls c.toNat) r
  have htl : (tokL c r).length = (runL (cls c.toNat) r).length + 1 := rfl
  simp only [List.length_cons] at hlen
  have k1 : 0 ≤ (i : Int) := by omega
  have k2 : (i : Int) ≤ ((i + (tokL c r).length : Nat) : Int) := by omega
  have k3 : ((i + (tokL c r).length : Nat) : Int) ≤ (s.size : Int) := by omega
  refine Ev.succ ?_
  simp only [lex_reader_next.j1, if_pos k1, if_pos k2, if_pos k3, kind_eq, Option.bind_some, Int.toNat_natCast, extract_tok h, dat_str]
  rw [w64 (x := ((i + (tokL c r).length : Nat) : Int) - (i : Int)) (by omega) (by omega), w64 (by omega) (by omega)]
  rw [show p.2 + (((i + (tokL c r).length : Nat) : Int) - (i : Int)) = p.2 + ((tokL c r).length : Int) by omega]
  by_cases h4 : kindS (cls c.toNat) (tokL c r) = 4
  · have h3 := kindS_4.1 h4
    simp only [if_pos h4]
    refine Ev.succ ?_
    simp only [lex_reader_next.j2, if_neg (show ¬ (false = true) by decide), if_pos h4]
    have hv := value_ev (s := str (tokL c r)) (by rw [dat_str]; exact digits_tok h3) (by rw [dat_str]; simp [tokL])
    rw [dat_str] at hv
    refine Ev.bind (g := fun k => lex_value.f k (str (tokL c r))) (f := fun _ b => if b.2 = 0 then some (kindS (cls c.toNat) (tokL c r), str (tokL c r), b.1, p.1, p.2, false, 0, s, ((i + (tokL c r).length : Nat) : Int), p.1, p.2 + ((tokL c r).length : Int)) else some (0, (⟨#[]⟩ : ByteArray), 0, 0, 0, false, b.2, s, ((i + (tokL c r).length : Nat) : Int), p.1, p.2 + ((tokL c r).length : Int))) hv ?_
    by_cases he : (valS (tokL c r)).2 = 0
    · simp only [if_pos he]
      refine Ev.some ?_
      simp only [nextR, if_neg hc, err0, if_pos h4, if_pos he]
    · simp only [if_neg he]
      refine Ev.some ?_
      simp only [nextR, if_neg hc, err0, if_pos h4, if_neg he]
  · simp only [if_neg h4]
    refine Ev.succ ?_
    by_cases h32 : (tokL c r).length > 32
    · have h5 : (((str (tokL c r)).size : Int) > 32) := by rw [size_str]; omega
      have h6 : decide (((str (tokL c r)).size : Int) > 32) = true := decide_eq_true h5
      simp only [lex_reader_next.j2, h6, if_pos True.intro]
      refine Ev.some ?_
      have he : ¬ ((2 : Int) = 0) := by decide
      simp only [nextR, if_neg hc, err0, if_neg h4, if_pos h32, if_neg he]
    · have h5 : ¬ (((str (tokL c r)).size : Int) > 32) := by rw [size_str]; omega
      have h6 : decide (((str (tokL c r)).size : Int) > 32) = false := decide_eq_false h5
      simp only [lex_reader_next.j2, h6, if_neg (show ¬ (false = true) by decide), if_neg h4, if_pos True.intro]
      refine Ev.some ?_
      simp only [nextR, if_neg hc, err0, if_neg h4, if_neg h32, if_pos True.intro]

theorem next_loop {s : ByteArray} (hs : s.size ≤ 140737488351232) {c : UInt8} {R : NextR} (from_ line col : Int) : ∀ (l : L) (j : Nat), (dat s).drop j = l → j ≤ s.size →
    Ev (fun k => lex_reader_next.j1 k (cls c.toNat) from_ s ((j + (runL (cls c.toNat) l).length : Nat) : Int) line col 0 ⟨#[]⟩ 0 line col false) R →
    Ev (fun k => lex_reader_next.l0 k (cls c.toNat) from_ s (j : Int) line col 0 ⟨#[]⟩ 0 line col false) R
  | [], j, h, hj, hR => by
    have e := drop_nil h hj
    have h1 : ¬ ((j : Int) < (s.size : Int)) := by omega
    refine Ev.succ ?_
    simp only [lex_reader_next.l0, if_neg h1]
    simpa [runL] using hR
  | d :: r, j, h, hj, hR => by
    obtain ⟨hlt, hb, hr⟩ := bt_of_drop h
    have k1 : (j : Int) < (s.size : Int) := by omega
    have k2 : 0 ≤ (j : Int) := by omega
    refine Ev.succ ?_
    simp only [lex_reader_next.l0, if_pos k1, if_pos k2, hb]
    refine Ev.bind (goes_ev c d) ?_
    by_cases hg : goes (cls c.toNat) d.toNat = true
    · simp only [if_pos hg]
      rw [w64 (by omega) (by omega)]
      have ih := next_loop hs (c := c) (R := R) from_ line col r (j + 1) hr (by omega) (by
        refine cast (congrArg (fun x => Ev x R) ?_) hR
        funext k
        unfold runL
        rw [List.takeWhile_cons, if_pos hg, List.length_cons, Nat.add_assoc j 1, Nat.add_comm 1])
      rw [show ((j + 1 : Nat) : Int) = (j : Int) + 1 by omega] at ih
      exact ih
    · simp only [if_neg hg]
      refine cast (congrArg (fun x => Ev x R) ?_) hR
      funext k
      unfold runL
      rw [List.takeWhile_cons, if_neg hg, List.length_nil, Nat.add_zero]

theorem next_ev {s : ByteArray} (hs : s.size ≤ 140737488351232) {i : Nat} {c : UInt8} {r : L} (h : (dat s).drop i = c :: r) (hi : i ≤ s.size) (p : Int × Int) (hp : 0 ≤ p.2 ∧ p.2 ≤ i + 1) :
    Ev (fun k => lex_reader_next.f k s (i : Int) p.1 p.2) (nextR s i p c r) := by
  obtain ⟨hlt, hb, hr⟩ := bt_of_drop h
  have k1 : (i : Int) < (s.size : Int) := by omega
  have k2 : 0 ≤ (i : Int) := by omega
  unfold lex_reader_next.f
  simp only [if_pos k1, if_pos k2, hb]
  refine Ev.bind (class_ev c) ?_
  by_cases hc : cls c.toNat = 0
  · simp only [if_pos hc]
    refine Ev.some ?_
    simp only [nextR, if_pos hc]
  · simp only [if_neg hc]
    rw [w64 (by omega) (by omega)]
    have hl := next_loop hs (c := c) (R := nextR s i p c r) (i : Int) p.1 p.2 r (i + 1) hr (by omega) (by
      have ht := next_tail hs h hi p hp hc
      refine cast (congrArg (fun x => Ev x (nextR s i p c r)) ?_) ht
      funext k
      rw [show i + (tokL c r).length = i + 1 + (runL (cls c.toNat) r).length by simp only [tokL, List.length_cons]; omega])
    rw [show ((i + 1 : Nat) : Int) = (i : Int) + 1 by omega] at hl
    exact hl

/-! ### All tokens -/
theorem toks_end {p : Int × Int} {n : Nat} {l : L} (h : l.drop (blankN l) = []) : toks p n l = ([], 0, 0, 0) := by
  rw [toks]
  split
  · rfl
  · rename_i h2; rw [h] at h2; cases h2
theorem toks_none {p : Int × Int} {n : Nat} {l : L} {c : UInt8} {r : L} (h : l.drop (blankN l) = c :: r) (hc : cls c.toNat = 0) :
    toks p n l = ([], 20, (adv p (l.take (blankN l))).1, (adv p (l.take (blankN l))).2) := by
  rw [toks]
  split
  · rename_i h2; rw [h] at h2; cases h2
  · rename_i h2; rw [h] at h2; injection h2 with e1 e2; subst e1; subst e2; rw [dif_pos hc]
theorem toks_bad {p : Int × Int} {n : Nat} {l : L} {c : UInt8} {r : L} (h : l.drop (blankN l) = c :: r) (hc : ¬ cls c.toNat = 0) (he : ¬ errOf (kindS (cls c.toNat) (tokL c r)) (tokL c r) n = 0) :
    toks p n l = ([], errOf (kindS (cls c.toNat) (tokL c r)) (tokL c r) n, (adv p (l.take (blankN l))).1, (adv p (l.take (blankN l))).2) := by
  rw [toks]
  split
  · rename_i h2; rw [h] at h2; cases h2
  · rename_i h2; rw [h] at h2; injection h2 with e1 e2; subst e1; subst e2; rw [dif_neg hc]; simp only [take_tok hc, if_neg he]
theorem toks_one {p : Int × Int} {n : Nat} {l : L} {c : UInt8} {r : L} (h : l.drop (blankN l) = c :: r) (hc : ¬ cls c.toNat = 0) (he : errOf (kindS (cls c.toNat) (tokL c r)) (tokL c r) n = 0) :
    toks p n l = (if (toks (adv (adv p (l.take (blankN l))) (tokL c r)) (n + 1) ((c :: r).drop (tokL c r).length)).2.1 = 0 then tok (kindS (cls c.toNat) (tokL c r)) (tokL c r) (if kindS (cls c.toNat) (tokL c r) = 4 then (valS (tokL c r)).1 else 0) (adv p (l.take (blankN l))) :: (toks (adv (adv p (l.take (blankN l))) (tokL c r)) (n + 1) ((c :: r).drop (tokL c r).length)).1 else [],
      (toks (adv (adv p (l.take (blankN l))) (tokL c r)) (n + 1) ((c :: r).drop (tokL c r).length)).2) := by
  rw [toks]
  split
  · rename_i h2; rw [h] at h2; cases h2
  · rename_i h2; rw [h] at h2; injection h2 with e1 e2; subst e1; subst e2
    rw [dif_neg hc]
    simp only [take_tok hc, if_pos he]
    rw [tokLen_eq hc]
    rfl
end Go.Proofs.Ytdjcelbicmpobaa.Lx
