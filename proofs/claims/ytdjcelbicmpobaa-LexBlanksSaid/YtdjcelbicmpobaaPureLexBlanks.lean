/- LexBlanks: for every source, token and kind of blank, a blank more ahead of the token turns nothing but places. No condition but that the source's bytes lie within the form's reach. -/
import Derived.Test.YtdjcelbicmpobaaH29
import Derived.Test.YtdjcelbicmpobaaSpecN
namespace Go.Proofs.Ytdjcelbicmpobaa.Pure
open Go.RowKit Go.Proofs.Ytdjcelbicmpobaa.H Go.Proofs.YtdjcelbicmpobaaW.PrintWords Go.Proofs.YtdjcelbicmpobaaW.PrintLast Go.Proofs.Ytdjcelbicmpobaa.Lx

theorem stops_app {k : Int} {A P X B : L} (hA : ∀ e, Stops k (A.take e)) (hP : Stops k (P ++ X)) (e : Nat) (h : B = A.take e ++ (P ++ X)) : Stops k B := by
  intro y Y' hy
  rw [h] at hy
  cases ht : A.take e with
  | nil => rw [ht, List.nil_append] at hy; exact hP y Y' hy
  | cons z Z =>
    rw [ht, List.cons_append] at hy
    injection hy with h1 _
    rw [← h1]
    exact hA e z Z ht
theorem drop_parts {l A B C : L} (h : l = A ++ (B ++ C)) (a e : Nat) (ha : A.length = a) : l.drop (a + (B.length + e)) = C.drop e := by
  subst ha
  rw [h, List.drop_length_add_append, List.drop_length_add_append]

/-- Blanks laid ahead of a token. -/
theorem toks_insert {P : L} (hB : Blank P) (hP : ∀ (c : UInt8) (X : L), Stops (cls c.toNat) (P ++ X)) : ∀ (m : Nat) (l : L) (p q : Int × Int) (n : Nat), l.length ≤ m → (toks p n l).2.1 = 0 → ∀ (i : Nat) (hi : i < (toks p n l).1.length),
    ∃ e, e < l.length ∧ ((toks p n l).1[i]).f3 = ⟨(adv p (l.take e)).1, (adv p (l.take e)).2⟩ ∧ (toks q n (l.take e ++ (P ++ l.drop e))).2 = (0, 0, 0) ∧ Lx.Alike (toks p n l).1 (toks q n (l.take e ++ (P ++ l.drop e))).1 := by
  intro m
  induction m with
  | zero =>
    intro l p q n h _ i hi
    obtain rfl : l = [] := List.eq_nil_of_length_eq_zero (by omega)
    rw [toks_end (by simp)] at hi
    simp at hi
  | succ m ih =>
    intro l p q n h h0 i hi
    cases hd : l.drop (blankN l) with
    | nil => rw [toks_end hd] at hi; simp at hi
    | cons c r =>
      have hBl := blank_take (l := l) (by rw [hd]; simp)
      have hl := congrArg List.length hd
      simp only [List.length_drop, List.length_cons] at hl
      by_cases hc : cls c.toNat = 0
      · rw [toks_none hd hc] at hi; simp at hi
      · by_cases he : errOf (kindS (cls c.toNat) (tokL c r)) (tokL c r) n = 0
        · have hb0 : blankN (c :: r) = 0 := by rw [← hd]; exact blankN_drop l
          have hT := toks_one (p := p) hd hc he
          have h0' : (toks (adv (adv p (l.take (blankN l))) (tokL c r)) (n + 1) ((c :: r).drop (tokL c r).length)).2.1 = 0 := by rw [hT] at h0; exact h0
          rw [if_pos h0'] at hT
          have hlen : (l.take (blankN l)).length = blankN l := by rw [List.length_take]; omega
          cases i with
          | zero =>
            refine ⟨blankN l, by omega, ?_, ?_⟩
            · simp only [hT]; rfl
            · rw [toks_blank hBl, toks_blank hB, hd]
              have hsame : toks p n l = toks (adv p (l.take (blankN l))) n (c :: r) := by
                have h1 := toks_blank hBl p n (c :: r)
                rw [← hd, List.take_append_drop] at h1
                rw [← hd]
                exact h1
              have hmv := toks_move (c :: r).length (c :: r) (adv p (l.take (blankN l))) (adv (adv q (l.take (blankN l))) P) n (Nat.le_refl _)
              rw [← hsame] at hmv
              refine ⟨(toks_shape (c :: r).length (c :: r) _ n (Nat.le_refl _)).1 ?_, hmv.2⟩
              rw [← hmv.1]
              exact h0
          | succ i =>
            have htl : (tokL c r).length = (runL (cls c.toNat) r).length + 1 := rfl
            have hrl := runL_le (cls c.toNat) r
            simp only [hT, List.length_cons] at hi
            obtain ⟨e, h1, h2, h3, h4⟩ := ih ((c :: r).drop (tokL c r).length) (adv (adv p (l.take (blankN l))) (tokL c r)) (adv (adv q (l.take (blankN l))) (tokL c r)) (n + 1) (by simp only [List.length_drop, List.length_cons]; omega) h0' i (by omega)
            have htk := take_parts (text_parts hd hc) (blankN l) e hlen
            have hdk := drop_parts (text_parts hd hc) (blankN l) e hlen
            simp only [List.length_drop, List.length_cons] at h1
            refine ⟨blankN l + ((tokL c r).length + e), by omega, ?_, ?_⟩
            · simp only [hT, List.getElem_cons_succ]
              rw [htk, adv_append, adv_append]
              exact h2
            · rw [htk, hdk, List.append_assoc, List.append_assoc, toks_blank hBl]
              have hst : Stops (cls c.toNat) (((c :: r).drop (tokL c r).length).take e ++ (P ++ ((c :: r).drop (tokL c r).length).drop e)) :=
                stops_app (A := (c :: r).drop (tokL c r).length) (fun e' => stops_take e') (hP c _) e rfl
              rw [toks_tok hb0 hc hst he]
              have h3' : (toks (adv (adv q (l.take (blankN l))) (tokL c r)) (n + 1) (((c :: r).drop (tokL c r).length).take e ++ (P ++ ((c :: r).drop (tokL c r).length).drop e))).2.1 = 0 := by rw [h3]
              refine ⟨h3, ?_⟩
              simp only [if_pos h3']
              rw [hT]
              exact .cons ⟨rfl, rfl, rfl, rfl⟩ h4
        · rw [toks_bad hd hc he] at hi; simp at hi

theorem goes_blank : ∀ b : Fin 6, goes ((b.val : Nat) : Int) 32 = false ∧ goes ((b.val : Nat) : Int) 10 = false := by decide +kernel
theorem stops_blank {c y : UInt8} {X : L} (hy : y = 32 ∨ y = 10) : Stops (cls c.toNat) (y :: X) := by
  intro z Z h
  injection h with h1 _
  subst h1
  obtain ⟨h0, h5⟩ := cls_range c
  have h2 := goes_blank ⟨(cls c.toNat).toNat, by omega⟩
  simp only [Int.toNat_of_nonneg h0] at h2
  rcases hy with rfl | rfl
  · exact h2.1
  · exact h2.2
theorem blank10 : Blank [10] := Blank.cons (.inr rfl) Blank.nil
def markL : L := [32, 45, 45, 32, 97, 32, 114, 101, 109, 97, 114, 107, 32, 61, 32, 49, 10]
theorem blankMark : Blank markL := Blank.cons (.inl rfl) (Blank.remark (A := [32, 97, 32, 114, 101, 109, 97, 114, 107, 32, 61, 32, 49]) (P := []) (by decide) blank10)

theorem blanks_tail {s : ByteArray} (hs : s.size ≤ 140737488351232) {P : L} (hB : Blank P) (hP : ∀ (c : UInt8) (X : L), Stops (cls c.toNat) (P ++ X)) (hlen : P.length ≤ 100) (he : (allToks s).2.1 = 0) (i : Nat) (hi : i < (allToks s).1.length) :
    Ev (fun k => changelinglaw02_LexBlanks.j3 k s (i : Int) (allToks s).1 (str P)) true := by
  have kn := Ev.bind known_ev (Ev.now true)
  have hsz : s.size ≤ 8192 := by
    rcases Nat.lt_or_ge 8192 s.size with h | h
    · unfold allToks at he; rw [if_pos h] at he; exact absurd he (show ¬ ((2 : Int) = 0) by decide)
    · exact h
  have hcount := all_count s
  have hall : allToks s = toks (1, 1) 0 (dat s) := by unfold allToks; rw [if_neg (Nat.not_lt.2 hsz)]
  rw [hall] at he hi hcount ⊢
  obtain ⟨e, h1, h2, h3, h4⟩ := toks_insert hB hP (dat s).length (dat s) (1, 1) (1, 1) 0 (Nat.le_refl _) he i hi
  rw [dat_length] at h1
  refine Ev.succ ?_
  simp only [changelinglaw02_LexBlanks.j3]
  rw [rd34 hi, h2]
  refine Ev.pos (Int.natCast_nonneg _) (Ev.pos (Int.ofNat_lt.2 hi) ?_)
  refine Ev.bind (offset_ev hs (n := e) (Nat.le_of_lt h1)) ?_
  refine Ev.neg (show ¬ ((e : Int) > (s.size : Int)) by omega) ?_
  rw [size_str, w64 (by omega) (by omega)]
  refine Ev.succ ?_
  by_cases hbig : (s.size : Int) > 8192 - (P.length : Int)
  · rw [decide_eq_true hbig]
    simp only [changelinglaw02_LexBlanks.j4, if_pos True.intro]
    exact kn
  · rw [decide_eq_false hbig]
    simp only [changelinglaw02_LexBlanks.j4, if_neg (show ¬ (false = true) by decide)]
    have ha : dat (s.extract 0 e) = (dat s).take e := by rw [dat_extract, List.drop_zero, Nat.sub_zero]
    have hb : dat (s.extract e s.size) = (dat s).drop e := by
      rw [dat_extract, List.take_of_length_le]
      rw [List.length_drop, dat_length]
      exact Nat.le_refl _
    have has : (s.extract 0 e).size = e := by rw [← dat_length, ha, List.length_take, dat_length]; omega
    have hbs : (s.extract e s.size).size = s.size - e := by rw [← dat_length, hb, List.length_drop, dat_length]
    have hab : ((s.extract 0 e) ++ str P).size = e + P.length := by rw [← dat_length, dat_append, List.length_append, dat_length, has, dat_str]
    have hcat : ((s.extract 0 e) ++ str P) ++ s.extract e s.size = str ((dat s).take e ++ (P ++ (dat s).drop e)) := by
      apply dat_inj
      rw [dat_append, dat_append, dat_str, dat_str, ha, hb, List.append_assoc]
    have hcs : (str ((dat s).take e ++ (P ++ (dat s).drop e))).size ≤ 8192 := by
      rw [← hcat, ← dat_length, dat_append, List.length_append, dat_length, dat_length, hab, hbs]
      omega
    rw [Int.toNat_natCast]
    refine Ev.pos (Int.natCast_nonneg _) (Ev.pos (show (e : Int) ≤ (s.size : Int) by omega) (Ev.pos (by rw [has, size_str]; omega) (Ev.pos (by rw [hab, hbs]; omega) ?_)))
    rw [hcat]
    have ht := tokens_ev (s := str ((dat s).take e ++ (P ++ (dat s).drop e))) (Nat.le_trans hcs (by decide))
    have hall2 : allToks (str ((dat s).take e ++ (P ++ (dat s).drop e))) = toks (1, 1) 0 ((dat s).take e ++ (P ++ (dat s).drop e)) := by unfold allToks; rw [if_neg (Nat.not_lt.2 hcs), dat_str]
    rw [hall2] at ht
    refine Ev.bind ht ?_
    rw [h3]
    refine Ev.pos (by decide) ?_
    exact Ev.bind (alike_ev h4 (Nat.le_trans hcount (by decide))) (Ev.pos rfl kn)

theorem LexBlanks : changelinglaw02_LexBlanks.Pure := by
  intro s which kind hs _ _
  refine Ev.rounds (g := fun k => changelinglaw02_LexBlanks.f k s which kind) ?_
  have kn := Ev.bind known_ev (Ev.now true)
  unfold changelinglaw02_LexBlanks.f
  refine Ev.bind (tokens_ev hs) ?_
  have none_ : (allToks s).1.length = 0 → Ev (fun k => changelinglaw02_LexBlanks.j0 k s which kind (allToks s).1 true) true := by
    intro h
    refine Ev.succ ?_
    simp only [changelinglaw02_LexBlanks.j0, if_pos True.intro]
    exact Ev.pos (by rw [h]; rfl) kn
  by_cases he : (allToks s).2.1 = 0
  · refine Ev.pos he ?_
    by_cases hz : (allToks s).1.length = 0
    · have : (((allToks s).1.length : Int) == 0) = true := by rw [hz]; rfl
      rw [this]
      exact none_ hz
    · have : (((allToks s).1.length : Int) == 0) = false := by rw [beq_eq_false_iff_ne]; omega
      rw [this]
      have out : Ev (fun k => changelinglaw02_LexBlanks.j1 k s which kind (allToks s).1 true) true := by
        refine Ev.succ ?_
        simp only [changelinglaw02_LexBlanks.j1, if_pos True.intro]
        exact kn
      refine Ev.succ ?_
      simp only [changelinglaw02_LexBlanks.j0, if_neg (show ¬ (false = true) by decide)]
      by_cases h1 : which < 0
      · exact Ev.pos h1 out
      · refine Ev.neg h1 ?_
        by_cases h2 : which ≥ ((allToks s).1.length : Int)
        · rw [decide_eq_true h2]; exact out
        · rw [decide_eq_false h2]
          obtain ⟨i, rfl⟩ := Int.eq_ofNat_of_zero_le (Int.not_lt.1 h1)
          have hi : i < (allToks s).1.length := by omega
          refine Ev.succ ?_
          simp only [changelinglaw02_LexBlanks.j1, if_neg (show ¬ (false = true) by decide)]
          by_cases k1 : kind = 1
          · refine Ev.pos k1 ?_
            refine Ev.succ ?_
            simp only [changelinglaw02_LexBlanks.j2]
            refine Ev.neg (by omega) ?_
            exact blanks_tail hs blank10 (fun c X => stops_blank (.inr rfl)) (by decide) he i hi
          · refine Ev.neg k1 ?_
            refine Ev.succ ?_
            simp only [changelinglaw02_LexBlanks.j2]
            by_cases k2 : kind = 2
            · refine Ev.pos k2 ?_
              exact blanks_tail hs blankMark (fun c X => stops_blank (.inl rfl)) (by decide) he i hi
            · refine Ev.neg k2 ?_
              exact blanks_tail hs blank32 (fun c X => stops_blank (.inl rfl)) (by decide) he i hi
  · refine Ev.neg he ?_
    refine none_ ?_
    unfold allToks at he ⊢
    split
    · rfl
    · rename_i h
      rw [if_neg h] at he
      rw [(toks_shape (dat s).length (dat s) (1, 1) 0 (Nat.le_refl _)).2 he]
      rfl
end Go.Proofs.Ytdjcelbicmpobaa.Pure
