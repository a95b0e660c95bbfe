/- What the program's lexer comes to (4): all tokens of a source are those of 'toks'. -/
import Derived.Test.YtdjcelbicmpobaaSpecD
namespace Go.Proofs.Ytdjcelbicmpobaa.Lx
open Go.RowKit Go.Proofs.YtdjcelbicmpobaaW.PrintWords Go.Proofs.YtdjcelbicmpobaaW.PrintLast Go.Proofs.Ytdjcelbicmpobaa.H

theorem errOf_pos {k : Int} {t : L} {n : Nat} (h : err0 k t = 0) (hn : n ≥ 2048) : errOf k t n = 2 := by
  unfold errOf; show (if err0 k t = 0 ∧ n ≥ 2048 then 2 else err0 k t) = 2; rw [if_pos ⟨h, hn⟩]
theorem errOf_neg {k : Int} {t : L} {n : Nat} (h : ¬ (err0 k t = 0 ∧ n ≥ 2048)) : errOf k t n = err0 k t := by
  unfold errOf; show (if err0 k t = 0 ∧ n ≥ 2048 then 2 else err0 k t) = err0 k t; rw [if_neg h]

/-- Where nothing is wrong, nothing is told of a place; where something is, there are no tokens. -/
theorem toks_shape : ∀ (m : Nat) (l : L) (p : Int × Int) (n : Nat), l.length ≤ m → ((toks p n l).2.1 = 0 → (toks p n l).2 = (0, 0, 0)) ∧ ((toks p n l).2.1 ≠ 0 → (toks p n l).1 = []) := by
  intro m
  induction m with
  | zero =>
    intro l p n h
    obtain rfl : l = [] := List.eq_nil_of_length_eq_zero (by omega)
    rw [toks_end (by simp)]
    simp
  | succ m ih =>
    intro l p n h
    cases hd : l.drop (blankN l) with
    | nil => rw [toks_end hd]; simp
    | cons c r =>
      by_cases hc : cls c.toNat = 0
      · rw [toks_none hd hc]; simp
      · by_cases he : errOf (kindS (cls c.toNat) (tokL c r)) (tokL c r) n = 0
        · rw [toks_one hd hc he]
          have hl := congrArg List.length hd
          simp only [List.length_drop, List.length_cons] at hl
          have ih1 := ih ((c :: r).drop (tokL c r).length) (adv (adv p (l.take (blankN l))) (tokL c r)) (n + 1) (by simp only [List.length_drop, List.length_cons, tokL]; omega)
          refine ⟨ih1.1, fun hne => ?_⟩
          show (if _ then _ else _) = []
          rw [if_neg hne]
        · rw [toks_bad hd hc he]
          exact ⟨fun h0 => absurd h0 he, fun _ => rfl⟩

theorem step_le {p : Int × Int} {b : Int} (c : UInt8) (h : 0 ≤ p.1 ∧ p.1 ≤ b ∧ 0 ≤ p.2 ∧ p.2 ≤ b) (hb : 0 ≤ b) : 0 ≤ (step p c).1 ∧ (step p c).1 ≤ b + 1 ∧ 0 ≤ (step p c).2 ∧ (step p c).2 ≤ b + 1 := by
  unfold step
  split <;> (refine ⟨?_, ?_, ?_, ?_⟩ <;> dsimp only <;> omega)
theorem adv_le : ∀ (l : L) (p : Int × Int) (b : Int), 0 ≤ b → 0 ≤ p.1 ∧ p.1 ≤ b ∧ 0 ≤ p.2 ∧ p.2 ≤ b → 0 ≤ (adv p l).1 ∧ (adv p l).1 ≤ b + l.length ∧ 0 ≤ (adv p l).2 ∧ (adv p l).2 ≤ b + l.length
  | [], p, b, hb, h => by simp only [adv_nil, List.length_nil]; omega
  | c :: r, p, b, hb, h => by
    have := adv_le r (step p c) (b + 1) (by omega) (step_le c h hb)
    simp only [adv_cons, List.length_cons]
    omega

theorem newline_cls : cls (10 : UInt8).toNat = 0 := by decide +kernel
theorem newline_goes : ∀ b : Fin 6, goes ((b.val : Nat) : Int) 10 = false := by decide +kernel
theorem tok_plain {c : UInt8} {r : L} (hc : ¬ cls c.toNat = 0) : ∀ x ∈ tokL c r, x ≠ 10 := by
  intro x hx e
  subst e
  rcases List.mem_cons.1 hx with e | hx
  · rw [← e] at hc; exact hc newline_cls
  · have h := takeWhile_all (fun d : UInt8 => goes (cls c.toNat) d.toNat) _ _ hx
    obtain ⟨h0, h1⟩ := cls_range c
    have h2 := newline_goes ⟨(cls c.toNat).toNat, by omega⟩
    simp only [Int.toNat_of_nonneg h0] at h2
    have h3 : goes (cls c.toNat) 10 = true := h
    rw [h2] at h3
    cases h3

/-- All tokens from i on, behind some that are known. -/
def allR (out : List S34) (q : List S34 × Int × Int × Int) : List S34 × Int × Int × Int := (if q.2.1 = 0 then out ++ q.1 else [], q.2)

theorem tokens_loop {s : ByteArray} (hs : s.size ≤ 140737488351232) : ∀ (m : Nat) (l : L) (i : Nat) (p : Int × Int) (out : List S34), l.length ≤ m → (dat s).drop i = l → i ≤ s.size → 0 ≤ p.1 ∧ p.1 ≤ i + 1 ∧ 0 ≤ p.2 ∧ p.2 ≤ i + 1 → out.length ≤ 2048 →
    Ev (fun k => lex_Tokens.l0 k out s (i : Int) p.1 p.2) (allR out (toks p out.length l)) := by
  intro m
  induction m with
  | zero =>
    intro l i p out hm h hi hp ho
    obtain rfl : l = [] := List.eq_nil_of_length_eq_zero (by omega)
    refine Ev.succ ?_
    simp only [lex_Tokens.l0]
    refine Ev.bind (g := fun k => lex_reader_skip.f k s (i : Int) p.1 p.2) (skip_ev hs 0 [] i p.1 p.2 (by simp) h hi hp.1 hp.2.1 hp.2.2.1 hp.2.2.2) ?_
    have e := drop_nil h hi
    have hsk : (skipR s i (p.1, p.2) []).1 = false := by simp only [skipR, blankN_nil]; exact decide_eq_false (by omega)
    simp only [hsk, if_neg (show ¬ (false = true) by decide)]
    exact Ev.some (by rw [toks_end (by simp)]; simp [allR])
  | succ m ih =>
    intro l i p out hm h hi hp ho
    have hlen := drop_len h hi
    have hbl := blankN_le l.length l (Nat.le_refl _)
    have hdrop := drop_add h (blankN l)
    have hadv := adv_le (l.take (blankN l)) p (i + 1) (by omega) hp
    rw [List.length_take, Nat.min_eq_left hbl] at hadv
    refine Ev.succ ?_
    simp only [lex_Tokens.l0]
    refine Ev.bind (g := fun k => lex_reader_skip.f k s (i : Int) p.1 p.2) (skip_ev hs l.length l i p.1 p.2 (Nat.le_refl _) h hi hp.1 hp.2.1 hp.2.2.1 hp.2.2.2) ?_
    cases hd : l.drop (blankN l) with
    | nil =>
      have hl0 := congrArg List.length hd
      simp only [List.length_drop, List.length_nil] at hl0
      have hsk : (skipR s i (p.1, p.2) l).1 = false := by simp only [skipR]; exact decide_eq_false (by omega)
      simp only [hsk, if_neg (show ¬ (false = true) by decide)]
      exact Ev.some (by rw [toks_end hd]; simp [allR])
    | cons c r =>
      have hl0 := congrArg List.length hd
      simp only [List.length_drop, List.length_cons] at hl0
      have hsk : (skipR s i (p.1, p.2) l).1 = true := by simp only [skipR]; exact decide_eq_true (by omega)
      simp only [hsk, if_pos True.intro]
      rw [hd] at hdrop
      have hnx := next_ev hs hdrop (by omega) (adv p (l.take (blankN l))) ⟨hadv.2.2.1, by omega⟩
      refine Ev.bind (g := fun k => lex_reader_next.f k (skipR s i (p.1, p.2) l).2.1 (skipR s i (p.1, p.2) l).2.2.1 (skipR s i (p.1, p.2) l).2.2.2.1 (skipR s i (p.1, p.2) l).2.2.2.2) hnx ?_
      generalize hp1 : adv p (l.take (blankN l)) = p1 at *
      have e1 : (skipR s i (p.1, p.2) l).2.2.2.1 = p1.1 := by rw [← hp1]; rfl
      have e2 : (skipR s i (p.1, p.2) l).2.2.2.2 = p1.2 := by rw [← hp1]; rfl
      rw [e1, e2]
      by_cases hc : cls c.toNat = 0
      · have hn : nextR s (i + blankN l) p1 c r = (0, ⟨#[]⟩, 0, 0, 0, false, 20, s, ((i + blankN l : Nat) : Int), p1.1, p1.2) := by simp only [nextR, if_pos hc]
        rw [hn]
        simp only [if_neg (show ¬ ((20 : Int) = 0) by decide)]
        refine Ev.succ ?_
        simp only [lex_Tokens.j1, if_neg (show ¬ (false = true) by decide), if_neg (show ¬ ((20 : Int) = 0) by decide)]
        refine Ev.some ?_
        rw [toks_none hd hc, hp1]
        simp [allR]
      · by_cases he0 : err0 (kindS (cls c.toNat) (tokL c r)) (tokL c r) = 0
        · have hn : nextR s (i + blankN l) p1 c r = (kindS (cls c.toNat) (tokL c r), str (tokL c r), if kindS (cls c.toNat) (tokL c r) = 4 then (valS (tokL c r)).1 else 0, p1.1, p1.2, false, 0, s, ((i + blankN l + (tokL c r).length : Nat) : Int), p1.1, p1.2 + (tokL c r).length) := by simp only [nextR, if_neg hc, if_pos he0]
          rw [hn]
          simp only [if_pos True.intro]
          by_cases hfull : out.length ≥ 2048
          · rw [decide_eq_true (show (out.length : Int) ≥ 2048 by omega)]
            refine Ev.succ ?_
            simp only [lex_Tokens.j1, if_pos True.intro]
            refine Ev.some ?_
            have he := errOf_pos (n := out.length) he0 hfull
            rw [toks_bad hd hc (by rw [he]; decide), hp1, he]
            simp [allR]
          · rw [decide_eq_false (show ¬ ((out.length : Int) ≥ 2048) by omega)]
            refine Ev.succ ?_
            have k1 : out.length < 2513169434916 := by omega
            simp only [lex_Tokens.j1, if_neg (show ¬ (false = true) by decide), if_pos True.intro, if_pos k1]
            have he : errOf (kindS (cls c.toNat) (tokL c r)) (tokL c r) out.length = 0 := by rw [errOf_neg (fun hh => hfull hh.2)]; exact he0
            have hp2 : adv p1 (tokL c r) = (p1.1, p1.2 + (tokL c r).length) := adv_plain (tok_plain hc)
            have htl := runL_le (cls c.toNat) r
            have htk : (tokL c r).length = (runL (cls c.toNat) r).length + 1 := rfl
            have ih1 := ih ((c :: r).drop (tokL c r).length) (i + blankN l + (tokL c r).length) (p1.1, p1.2 + (tokL c r).length) (out ++ [tok (kindS (cls c.toNat) (tokL c r)) (tokL c r) (if kindS (cls c.toNat) (tokL c r) = 4 then (valS (tokL c r)).1 else 0) p1])
              (by simp only [List.length_drop, List.length_cons]; omega) (drop_add hdrop _) (by omega) ⟨by show 0 ≤ p1.1; omega, by show p1.1 ≤ _; omega, by show 0 ≤ p1.2 + _; omega, by show p1.2 + _ ≤ _; omega⟩ (by simp; omega)
            refine cast (congrArg _ ?_) ih1
            rw [toks_one hd hc he, hp1, hp2]
            simp only [List.length_append, List.length_singleton]
            generalize toks (p1.1, p1.2 + ((tokL c r).length : Int)) (out.length + 1) ((c :: r).drop (tokL c r).length) = q
            unfold allR
            by_cases hq : q.2.1 = 0
            · simp only [if_pos hq, List.append_assoc, List.singleton_append]
            · simp only [if_neg hq]
        · have hn : nextR s (i + blankN l) p1 c r = (0, ⟨#[]⟩, 0, 0, 0, false, err0 (kindS (cls c.toNat) (tokL c r)) (tokL c r), s, ((i + blankN l + (tokL c r).length : Nat) : Int), p1.1, p1.2 + (tokL c r).length) := by simp only [nextR, if_neg hc, if_neg he0]
          rw [hn]
          simp only [if_neg he0]
          refine Ev.succ ?_
          simp only [lex_Tokens.j1, if_neg (show ¬ (false = true) by decide), if_neg he0]
          refine Ev.some ?_
          have he : errOf (kindS (cls c.toNat) (tokL c r)) (tokL c r) out.length = err0 (kindS (cls c.toNat) (tokL c r)) (tokL c r) := errOf_neg (fun hh => he0 hh.1)
          rw [toks_bad hd hc (by rw [he]; exact he0), hp1, he]
          simp only [allR, if_neg he0]

/-- All tokens of a source. -/
def allToks (s : ByteArray) : List S34 × Int × Int × Int := if s.size > 8192 then ([], 2, 1, 1) else toks (1, 1) 0 (dat s)
theorem tokens_ev {s : ByteArray} (hs : s.size ≤ 140737488351232) : Ev (fun k => lex_Tokens.f k s) (allToks s) := by
  unfold lex_Tokens.f allToks
  by_cases h : s.size > 8192
  · simp only [if_pos h, if_pos (show (s.size : Int) > 8192 by omega)]
    exact Ev.now _
  · simp only [if_neg h, if_neg (show ¬ ((s.size : Int) > 8192) by omega)]
    have hl := tokens_loop hs (dat s).length (dat s) 0 (1, 1) [] (Nat.le_refl _) (by simp) (by omega) (by refine ⟨?_, ?_, ?_, ?_⟩ <;> dsimp only <;> omega) (by simp)
    refine cast (congrArg _ ?_) hl
    have hsh := toks_shape (dat s).length (dat s) (1, 1) 0 (Nat.le_refl _)
    unfold allR
    simp only [List.nil_append, List.length_nil]
    by_cases hq : (toks (1, 1) 0 (dat s)).2.1 = 0
    · rw [if_pos hq]
    · rw [if_neg hq]; exact Prod.ext (hsh.2 hq).symm rfl
end Go.Proofs.Ytdjcelbicmpobaa.Lx
