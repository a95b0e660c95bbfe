/- Tokens alike: the same but for their places; tokens' texts with blanks between. -/
import Derived.Test.YtdjcelbicmpobaaSpecM
import Derived.Test.YtdjcelbicmpobaaH25
namespace Go.Proofs.Ytdjcelbicmpobaa.Lx
open Go.RowKit Go.Proofs.YtdjcelbicmpobaaW.PrintWords Go.Proofs.YtdjcelbicmpobaaW.PrintLast Go.Proofs.Ytdjcelbicmpobaa.H

def alike (a b : S34) : Prop := a.f0 = b.f0 ∧ a.f1 = b.f1 ∧ a.f2 = b.f2 ∧ a.f4 = b.f4
inductive Alike : List S34 → List S34 → Prop
  | nil : Alike [] []
  | cons {a b x y} : alike a b → Alike x y → Alike (a :: x) (b :: y)
theorem Alike.length {x y : List S34} (h : Alike x y) : x.length = y.length := by
  induction h with
  | nil => rfl
  | cons _ _ ih => simp [ih]
theorem Alike.at_ {x y : List S34} (h : Alike x y) : ∀ (i : Nat) (hx : i < x.length) (hy : i < y.length), alike x[i] y[i] := by
  induction h with
  | nil => intro i hx; simp at hx
  | cons ha _ ih =>
    intro i hx hy
    cases i with
    | zero => exact ha
    | succ i => exact ih i (by simpa using hx) (by simpa using hy)
theorem rd34 {x : List S34} {i : Nat} (h : i < x.length) : rd_T34 x (i : Int) = x[i] := by
  unfold rd_T34
  rw [Int.toNat_natCast, List.getD_eq_getElem?_getD, List.getElem?_eq_getElem h]
  rfl
theorem alike_loop {x y : List S34} (h : Alike x y) (hx : x.length ≤ 1000000) : ∀ (d i : Nat), x.length - i = d → i ≤ x.length → Ev (fun k => changelingref02_Alike.l0 k x y (i : Int)) true
  | 0, i, hd, hi => by
    refine Ev.succ ?_
    simp only [changelingref02_Alike.l0]
    exact Ev.neg (show ¬ ((i : Int) < (x.length : Int)) by omega) (Ev.now _)
  | d + 1, i, hd, hi => by
    have hl := h.length
    have k1 : i < x.length := by omega
    have k2 : i < y.length := by omega
    obtain ⟨a1, a2, a3, a4⟩ := h.at_ i k1 k2
    refine Ev.succ ?_
    simp only [changelingref02_Alike.l0]
    rw [rd34 k1, rd34 k2]
    refine Ev.pos (show (i : Int) < (x.length : Int) by omega) (Ev.pos (show 0 ≤ (i : Int) by omega) (Ev.pos (show (i : Int) < (y.length : Int) by omega) ?_))
    refine Ev.pos a1 (Ev.pos (by rw [a2]) (Ev.pos a3 (Ev.neg (by rw [a4]; simp) ?_)))
    rw [w64 (by omega) (by omega)]
    have ih := alike_loop h hx d (i + 1) (by omega) (by omega)
    rw [show ((i + 1 : Nat) : Int) = (i : Int) + 1 by omega] at ih
    exact ih
theorem alike_ev {x y : List S34} (h : Alike x y) (hx : x.length ≤ 1000000) : Ev (fun k => changelingref02_Alike.f k x y) true := by
  unfold changelingref02_Alike.f
  exact Ev.pos (by rw [h.length]) (alike_loop h hx x.length 0 (by omega) (by omega))
theorem Alike.refl : ∀ x : List S34, Alike x x
  | [] => .nil
  | _ :: x => .cons ⟨rfl, rfl, rfl, rfl⟩ (Alike.refl x)

/-- The place turns nothing but places. -/
theorem toks_move : ∀ (m : Nat) (l : L) (p q : Int × Int) (n : Nat), l.length ≤ m → (toks p n l).2.1 = (toks q n l).2.1 ∧ Alike (toks p n l).1 (toks q n l).1 := by
  intro m
  induction m with
  | zero =>
    intro l p q n h
    obtain rfl : l = [] := List.eq_nil_of_length_eq_zero (by omega)
    rw [toks_end (by simp), toks_end (by simp)]
    exact ⟨rfl, .nil⟩
  | succ m ih =>
    intro l p q n h
    cases hd : l.drop (blankN l) with
    | nil => rw [toks_end hd, toks_end hd]; exact ⟨rfl, .nil⟩
    | cons c r =>
      by_cases hc : cls c.toNat = 0
      · rw [toks_none hd hc, toks_none hd hc]; exact ⟨rfl, .nil⟩
      · by_cases he : errOf (kindS (cls c.toNat) (tokL c r)) (tokL c r) n = 0
        · have hl := congrArg List.length hd
          simp only [List.length_drop, List.length_cons] at hl
          rw [toks_one hd hc he, toks_one hd hc he]
          obtain ⟨i1, i2⟩ := ih ((c :: r).drop (tokL c r).length) (adv (adv p (l.take (blankN l))) (tokL c r)) (adv (adv q (l.take (blankN l))) (tokL c r)) (n + 1) (by simp only [List.length_drop, List.length_cons, tokL]; omega)
          refine ⟨i1, ?_⟩
          show Alike (if _ then _ else _) (if _ then _ else _)
          by_cases h0 : (toks (adv (adv p (l.take (blankN l))) (tokL c r)) (n + 1) ((c :: r).drop (tokL c r).length)).2.1 = 0
          · have h0q : (toks (adv (adv q (l.take (blankN l))) (tokL c r)) (n + 1) ((c :: r).drop (tokL c r).length)).2.1 = 0 := by rw [← i1]; exact h0
            rw [if_pos h0, if_pos h0q]
            exact .cons ⟨rfl, rfl, rfl, rfl⟩ i2
          · have h0q : ¬ (toks (adv (adv q (l.take (blankN l))) (tokL c r)) (n + 1) ((c :: r).drop (tokL c r).length)).2.1 = 0 := by rw [← i1]; exact h0
            rw [if_neg h0, if_neg h0q]
            exact .nil
        · rw [toks_bad hd hc he, toks_bad hd hc he]; exact ⟨rfl, .nil⟩

/-- The texts of tokens, a blank behind each. -/
def flat (x : List S34) : L := x.flatMap fun t => dat t.f1 ++ [32]
theorem blank32 : Blank [32] := Blank.cons (.inl rfl) Blank.nil
theorem stops_32 {c : UInt8} {X : L} : Stops (cls c.toNat) (32 :: X) := by
  intro y Y' h
  injection h with h1 _
  subst h1
  have : ∀ b : Fin 6, goes ((b.val : Nat) : Int) 32 = false := by decide +kernel
  obtain ⟨h0, h5⟩ := cls_range c
  have h2 := this ⟨(cls c.toNat).toNat, by omega⟩
  simp only [Int.toNat_of_nonneg h0] at h2
  exact h2

theorem toks_flat : ∀ (m : Nat) (l : L) (p q : Int × Int) (n : Nat), l.length ≤ m → (toks p n l).2.1 = 0 → (toks q n (flat (toks p n l).1)).2 = (0, 0, 0) ∧ Alike (toks p n l).1 (toks q n (flat (toks p n l).1)).1 := by
  intro m
  induction m with
  | zero =>
    intro l p q n h h0
    obtain rfl : l = [] := List.eq_nil_of_length_eq_zero (by omega)
    rw [toks_end (p := p) (l := []) (by simp)]
    show (toks q n []).2 = _ ∧ Alike [] (toks q n []).1
    rw [toks_end (by simp)]
    exact ⟨rfl, .nil⟩
  | succ m ih =>
    intro l p q n h h0
    cases hd : l.drop (blankN l) with
    | nil =>
      rw [toks_end hd]
      show (toks q n []).2 = _ ∧ Alike [] (toks q n []).1
      rw [toks_end (by simp)]
      exact ⟨rfl, .nil⟩
    | cons c r =>
      by_cases hc : cls c.toNat = 0
      · rw [toks_none hd hc] at h0; exact absurd h0 (show ¬ ((20 : Int) = 0) by decide)
      · by_cases he : errOf (kindS (cls c.toNat) (tokL c r)) (tokL c r) n = 0
        · have hl := congrArg List.length hd
          simp only [List.length_drop, List.length_cons] at hl
          have hb0 : blankN (c :: r) = 0 := by rw [← hd]; exact blankN_drop l
          rw [toks_one hd hc he] at h0 ⊢
          have h0' : (toks (adv (adv p (l.take (blankN l))) (tokL c r)) (n + 1) ((c :: r).drop (tokL c r).length)).2.1 = 0 := h0
          obtain ⟨i1, i2⟩ := ih ((c :: r).drop (tokL c r).length) (adv (adv p (l.take (blankN l))) (tokL c r)) (adv (adv q (tokL c r)) [32]) (n + 1) (by simp only [List.length_drop, List.length_cons, tokL]; omega) h0'
          simp only [if_pos h0']
          generalize (toks (adv (adv p (l.take (blankN l))) (tokL c r)) (n + 1) ((c :: r).drop (tokL c r).length)).1 = x at *
          have hf : flat (tok (kindS (cls c.toNat) (tokL c r)) (tokL c r) (if kindS (cls c.toNat) (tokL c r) = 4 then (valS (tokL c r)).1 else 0) (adv p (l.take (blankN l))) :: x) = tokL c r ++ (32 :: flat x) := by
            unfold flat
            rw [List.flatMap_cons]
            show (dat (str (tokL c r)) ++ [32]) ++ _ = _
            rw [dat_str, List.append_assoc]
            rfl
          rw [hf, toks_tok hb0 hc stops_32 he]
          have hb := toks_blank blank32 (adv q (tokL c r)) (n + 1) (flat x)
          rw [show ([32] : L) ++ flat x = 32 :: flat x from rfl] at hb
          rw [hb]
          have i1' : (toks (adv (adv q (tokL c r)) [32]) (n + 1) (flat x)).2.1 = 0 := by rw [i1]
          refine ⟨i1, ?_⟩
          show Alike _ (if _ then _ else _)
          rw [if_pos i1']
          exact .cons ⟨rfl, rfl, rfl, rfl⟩ i2
        · rw [toks_bad hd hc he] at h0; exact absurd h0 he
end Go.Proofs.Ytdjcelbicmpobaa.Lx
