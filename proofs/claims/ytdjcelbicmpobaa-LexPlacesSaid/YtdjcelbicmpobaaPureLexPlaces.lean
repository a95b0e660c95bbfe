/- LexPlaces: for every source, each token stands at the place that is told, and these rise. No condition but that the source's bytes lie within the form's reach. -/
import Derived.Test.YtdjcelbicmpobaaH28
import Derived.Test.YtdjcelbicmpobaaSpecN
namespace Go.Proofs.Ytdjcelbicmpobaa.Pure
open Go.RowKit Go.Proofs.Ytdjcelbicmpobaa.H Go.Proofs.YtdjcelbicmpobaaW.PrintWords Go.Proofs.YtdjcelbicmpobaaW.PrintLast Go.Proofs.Ytdjcelbicmpobaa.Lx

/-- A token stands at byte e. -/
def Stands (p : Int × Int) (l : L) (t : S34) (e : Nat) : Prop := e + (dat t.f1).length ≤ l.length ∧ 0 < (dat t.f1).length ∧ t.f3 = ⟨(adv p (l.take e)).1, (adv p (l.take e)).2⟩ ∧ (l.drop e).take (dat t.f1).length = dat t.f1

theorem toks_stand : ∀ (m : Nat) (l : L) (p : Int × Int) (n : Nat), l.length ≤ m → ∃ f : Nat → Nat, (∀ (i : Nat) (hi : i < (toks p n l).1.length), Stands p l ((toks p n l).1[i]) (f i)) ∧ ∀ i, i + 1 < (toks p n l).1.length → f i < f (i + 1) := by
  intro m
  induction m with
  | zero =>
    intro l p n h
    obtain rfl : l = [] := List.eq_nil_of_length_eq_zero (by omega)
    rw [toks_end (by simp)]
    exact ⟨fun _ => 0, fun i hi => by simp at hi, fun i hi => by simp at hi⟩
  | succ m ih =>
    intro l p n h
    have empty : (toks p n l).1 = [] → ∃ f : Nat → Nat, (∀ (i : Nat) (hi : i < (toks p n l).1.length), Stands p l ((toks p n l).1[i]) (f i)) ∧ ∀ i, i + 1 < (toks p n l).1.length → f i < f (i + 1) := by
      intro e
      rw [e]
      exact ⟨fun _ => 0, fun i hi => by simp at hi, fun i hi => by simp at hi⟩
    cases hd : l.drop (blankN l) with
    | nil => exact empty (by rw [toks_end hd])
    | cons c r =>
      by_cases hc : cls c.toNat = 0
      · exact empty (by rw [toks_none hd hc])
      · by_cases he : errOf (kindS (cls c.toNat) (tokL c r)) (tokL c r) n = 0
        · have hl := congrArg List.length hd
          simp only [List.length_drop, List.length_cons] at hl
          have hlen : (l.take (blankN l)).length = blankN l := by rw [List.length_take]; omega
          have htl : (tokL c r).length = (runL (cls c.toNat) r).length + 1 := rfl
          have hrl := runL_le (cls c.toNat) r
          have hT := toks_one (p := p) hd hc he
          by_cases h0 : (toks (adv (adv p (l.take (blankN l))) (tokL c r)) (n + 1) ((c :: r).drop (tokL c r).length)).2.1 = 0
          · rw [if_pos h0] at hT
            obtain ⟨f, g1, g2⟩ := ih ((c :: r).drop (tokL c r).length) (adv (adv p (l.take (blankN l))) (tokL c r)) (n + 1) (by simp only [List.length_drop, List.length_cons]; omega)
            rw [hT]
            refine ⟨fun i => match i with | 0 => blankN l | i + 1 => blankN l + ((tokL c r).length + f i), ?_, ?_⟩
            · intro i hi
              cases i with
              | zero =>
                have htx : dat (tok (kindS (cls c.toNat) (tokL c r)) (tokL c r) (if kindS (cls c.toNat) (tokL c r) = 4 then (valS (tokL c r)).1 else 0) (adv p (l.take (blankN l)))).f1 = tokL c r := dat_str _
                simp only [List.getElem_cons_zero]
                unfold Stands
                rw [htx]
                refine ⟨by omega, by omega, rfl, ?_⟩
                rw [hd]
                have := take_tok (r := r) hc
                rw [tokLen_eq hc] at this
                exact this
              | succ i =>
                simp only [List.getElem_cons_succ]
                simp only [List.length_cons] at hi
                obtain ⟨a1, a2, a3, a4⟩ := g1 i (by omega)
                simp only [List.length_drop, List.length_cons] at a1
                refine ⟨by omega, a2, ?_, ?_⟩
                · rw [take_parts (text_parts hd hc) (blankN l) (f i) hlen, adv_append, adv_append]
                  exact a3
                · have hdk : l.drop (blankN l + ((tokL c r).length + f i)) = ((c :: r).drop (tokL c r).length).drop (f i) := by
                    conv => lhs; rw [text_parts hd hc]
                    have hbe : blankN l = (l.take (blankN l)).length := hlen.symm
                    have := text_parts hd hc
                    rw [← this]
                    rw [← List.drop_drop, ← List.drop_drop, hd]
                  rw [hdk]
                  exact a4
            · intro i hi
              simp only [List.length_cons] at hi
              cases i with
              | zero => show blankN l < blankN l + ((tokL c r).length + f 0); omega
              | succ i =>
                have := g2 i (by omega)
                show blankN l + ((tokL c r).length + f i) < blankN l + ((tokL c r).length + f (i + 1))
                omega
          · rw [if_neg h0] at hT
            exact empty (by rw [hT])
        · exact empty (by rw [toks_bad hd hc he])

theorem adv_pos : ∀ (l : L) (p : Int × Int), 1 ≤ p.1 ∧ 1 ≤ p.2 → 1 ≤ (adv p l).1 ∧ 1 ≤ (adv p l).2
  | [], _, h => h
  | c :: r, p, h => by
    refine adv_pos r (Lx.step p c) ?_
    unfold Lx.step
    split <;> dsimp only <;> omega
theorem after_plt {p q : Int × Int} (h : plt p q) : changelinglaw02_after.f q.1 q.2 p.1 p.2 = some true := by
  unfold changelinglaw02_after.f
  by_cases h1 : q.1 > p.1
  · rw [if_pos h1]
  · have h2 : q.1 = p.1 ∧ q.2 > p.2 := by unfold plt at h; omega
    rw [if_neg h1, if_pos h2.1, decide_eq_true h2.2]

theorem w_nat' (a b : Nat) (h : a + b ≤ 1000000000000000000) : wrap64 ((a : Int) + (b : Int)) = ((a + b : Nat) : Int) := by
  rw [w64 (by omega) (by omega)]; omega
theorem int_of (a b : Nat) (h : a < b) : (a : Int) < (b : Int) := by omega
theorem place_step {s : ByteArray} (hs : s.size ≤ 8192) {x : List S34} (hx : x.length ≤ 2048) {f : Nat → Nat} (g1 : ∀ (i : Nat) (hi : i < x.length), Stands (1, 1) (dat s) (x[i]) (f i)) (g2 : ∀ i, i + 1 < x.length → f i < f (i + 1)) (i : Nat) (k1 : i < x.length)
    (ih : Ev (fun k => changelinglaw02_LexPlaces.l0 k s x ((i + 1 : Nat) : Int)) true) : Ev (fun k => changelinglaw02_LexPlaces.l0 k s x (i : Int)) true := by
  obtain ⟨a1, a2, a3, a4⟩ := g1 i k1
  have hpos := adv_pos ((dat s).take (f i)) (1, 1) (by decide)
  rw [dat_length s] at a1
  have hsz : (x[i]).f1.size = (dat (x[i]).f1).length := (dat_length _).symm
  have hfs : f i < s.size := by omega
  have hoff := offset_ev (s := s) (Nat.le_trans hs (by decide)) (n := f i) (Nat.le_of_lt hfs)
  have good : Ev (fun k => changelinglaw02_LexPlaces.j2 k s x (i : Int) false) true := by
    refine Ev.succ ?_
    simp only [changelinglaw02_LexPlaces.j2, if_neg (show ¬ (false = true) by decide)]
    have hw : wrap64 ((i : Int) + 1) = ((i + 1 : Nat) : Int) := w_nat' i 1 (by omega)
    rw [hw]
    exact ih
  have prev : ∀ j, i = j + 1 → changelinglaw02_after.f (adv (1, 1) ((dat s).take (f i))).1 (adv (1, 1) ((dat s).take (f i))).2 ((rd_T34 x (wrap64 ((i : Int) - 1))).f3.f0) ((rd_T34 x (wrap64 ((i : Int) - 1))).f3.f1) = some true ∧ 0 ≤ wrap64 ((i : Int) - 1) ∧ wrap64 ((i : Int) - 1) < (x.length : Int) := by
    intro j hj
    subst hj
    obtain ⟨b1, b2, b3, b4⟩ := g1 j (by omega)
    have hlt := g2 j k1
    have hw1 : wrap64 (((j + 1 : Nat) : Int) - 1) = (j : Int) := by rw [w64 (by omega) (by omega)]; omega
    rw [hw1, rd34 (show j < x.length by omega), b3]
    exact ⟨after_plt (plt_take (s := s) hlt (Nat.le_of_lt hfs)), Int.natCast_nonneg _, int_of _ _ (by omega)⟩
  clear g1 g2
  generalize hlen : (dat (x[i]).f1).length = len at *
  have hw : wrap64 ((f i : Int) + (len : Int)) = ((f i + len : Nat) : Int) := w_nat' _ _ (Nat.le_trans a1 (Nat.le_trans hs (by decide)))
  have hw2 : wrap64 ((s.size : Int) - (f i : Int)) = (s.size : Int) - (f i : Int) := by rw [w64 (by omega) (by omega)]
  have z1 : ¬ ((adv (1, 1) ((dat s).take (f i))).1 < 1) := Int.not_lt.2 hpos.1
  have z2 : ¬ ((adv (1, 1) ((dat s).take (f i))).2 < 1) := Int.not_lt.2 hpos.2
  have z3 : ((len : Int) == 0) = false := by rw [beq_eq_false_iff_ne]; omega
  have z4 : ¬ ((f i : Int) ≥ (s.size : Int)) := by omega
  have z5 : ¬ ((s.size : Int) - (f i : Int) < (len : Int)) := by omega
  have z6 : (f i : Int) ≤ ((f i + len : Nat) : Int) := by omega
  have z7 : ((f i + len : Nat) : Int) ≤ (s.size : Int) := by omega
  refine Ev.succ ?_
  simp only [changelinglaw02_LexPlaces.l0]
  rw [rd34 k1, a3, hsz]
  refine Ev.pos (int_of _ _ k1) (Ev.pos (Int.natCast_nonneg _) (Ev.neg z1 (Ev.neg z2 ?_)))
  rw [z3]
  refine Ev.succ ?_
  simp only [changelinglaw02_LexPlaces.j1, if_neg (show ¬ (false = true) by decide)]
  rw [hsz]
  refine Ev.bind hoff ?_
  rw [hw, hw2]
  refine Ev.neg z4 (Ev.neg z5 (Ev.pos (Int.natCast_nonneg _) (Ev.pos z6 (Ev.pos z7 ?_))))
  rw [Int.toNat_natCast, Int.toNat_natCast]
  refine Ev.pos (by rw [toList_dat, toList_dat, dat_extract, Nat.add_sub_cancel_left]; exact a4) ?_
  cases hi0 : i with
  | zero =>
    rw [hi0] at good
    exact Ev.neg (show ¬ (((0 : Nat) : Int) > 0) by decide) good
  | succ j =>
    obtain ⟨p1, p2, p3⟩ := prev j hi0
    rw [← hi0]
    refine Ev.pos (show (i : Int) > 0 by omega) (Ev.pos p2 (Ev.pos p3 ?_))
    rw [p1]
    exact Ev.bind (g := fun _ => some true) (Ev.now true) good
theorem places_loop {s : ByteArray} (hs : s.size ≤ 8192) {x : List S34} (hx : x.length ≤ 2048) {f : Nat → Nat} (g1 : ∀ (i : Nat) (hi : i < x.length), Stands (1, 1) (dat s) (x[i]) (f i)) (g2 : ∀ i, i + 1 < x.length → f i < f (i + 1)) (d : Nat) : ∀ (i : Nat), x.length - i = d → i ≤ x.length → Ev (fun k => changelinglaw02_LexPlaces.l0 k s x (i : Int)) true := by
  induction d with
  | zero =>
    intro i hd hi
    refine Ev.succ ?_
    simp only [changelinglaw02_LexPlaces.l0]
    exact Ev.neg (show ¬ ((i : Int) < (x.length : Int)) by omega) (Ev.bind known_ev (Ev.now true))
  | succ d ih =>
    intro i hd hi
    exact place_step hs hx g1 g2 i (by omega) (ih (i + 1) (by omega) (by omega))

theorem LexPlaces : changelinglaw02_LexPlaces.Pure := by
  intro s hs
  refine Ev.rounds (g := fun k => changelinglaw02_LexPlaces.f k s) ?_
  have kn := Ev.bind known_ev (Ev.now true)
  unfold changelinglaw02_LexPlaces.f
  refine Ev.bind (tokens_ev hs) ?_
  by_cases he : (allToks s).2.1 = 0
  · refine Ev.pos he ?_
    have hsz : s.size ≤ 8192 := by
      rcases Nat.lt_or_ge 8192 s.size with h | h
      · unfold allToks at he; rw [if_pos h] at he; exact absurd he (show ¬ ((2 : Int) = 0) by decide)
      · exact h
    have hcount := all_count s
    have hall : allToks s = toks (1, 1) 0 (dat s) := by unfold allToks; rw [if_neg (Nat.not_lt.2 hsz)]
    rw [hall] at hcount ⊢
    obtain ⟨f, g1, g2⟩ := toks_stand (dat s).length (dat s) (1, 1) 0 (Nat.le_refl _)
    exact places_loop hsz hcount g1 g2 _ 0 rfl (Nat.zero_le _)
  · refine Ev.neg he ?_
    refine Ev.pos ?_ kn
    have : (allToks s).1 = [] := by
      unfold allToks at he ⊢
      split
      · rfl
      · rename_i h
        rw [if_neg h] at he
        exact (toks_shape (dat s).length (dat s) (1, 1) 0 (Nat.le_refl _)).2 he
    rw [this]
    rfl
end Go.Proofs.Ytdjcelbicmpobaa.Pure
