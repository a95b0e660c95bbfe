/- LexBack: for every source, the texts of its tokens, a blank behind each, are the same tokens again. No condition but that the source's bytes lie within the form's reach. -/
import Derived.Test.YtdjcelbicmpobaaH26
import Derived.Test.YtdjcelbicmpobaaSpecN
namespace Go.Proofs.Ytdjcelbicmpobaa.Pure
open Go.RowKit Go.Proofs.Ytdjcelbicmpobaa.H Go.Proofs.YtdjcelbicmpobaaW.PrintWords Go.Proofs.YtdjcelbicmpobaaW.PrintLast Go.Proofs.Ytdjcelbicmpobaa.Lx

/-- How long the texts are together, a blank behind each. -/
theorem flat_snoc (x : List S34) (t : S34) : flat (x ++ [t]) = flat x ++ dat t.f1 ++ [32] := by simp [flat]
theorem flat_take {x : List S34} {i : Nat} (h : i < x.length) : flat (x.take (i + 1)) = flat (x.take i) ++ dat (x[i]).f1 ++ [32] := by
  rw [List.take_succ_eq_append_getElem h, flat_snoc]

theorem flat_le : ∀ (m : Nat) (l : L) (p : Int × Int) (n : Nat), l.length ≤ m → (flat (toks p n l).1).length ≤ 2 * l.length := by
  intro m
  induction m with
  | zero =>
    intro l p n h
    obtain rfl : l = [] := List.eq_nil_of_length_eq_zero (by omega)
    rw [toks_end (by simp)]; simp [flat]
  | succ m ih =>
    intro l p n h
    cases hd : l.drop (blankN l) with
    | nil => rw [toks_end hd]; simp [flat]
    | cons c r =>
      by_cases hc : cls c.toNat = 0
      · rw [toks_none hd hc]; simp [flat]
      · by_cases he : errOf (kindS (cls c.toNat) (tokL c r)) (tokL c r) n = 0
        · have hl := congrArg List.length hd
          simp only [List.length_drop, List.length_cons] at hl
          have htl : (tokL c r).length = (runL (cls c.toNat) r).length + 1 := rfl
          have hrl := runL_le (cls c.toNat) r
          rw [toks_one hd hc he]
          have ih1 := ih ((c :: r).drop (tokL c r).length) (adv (adv p (l.take (blankN l))) (tokL c r)) (n + 1) (by simp only [List.length_drop, List.length_cons]; omega)
          simp only [List.length_drop, List.length_cons] at ih1
          show (flat (if _ then _ else _)).length ≤ _
          split
          · unfold flat at ih1 ⊢
            rw [List.flatMap_cons]
            show ((dat (str (tokL c r)) ++ [32]) ++ _).length ≤ _
            rw [dat_str, List.length_append, List.length_append, List.length_singleton]
            omega
          · simp [flat]
        · rw [toks_bad hd hc he]; simp [flat]

theorem back_write {s : ByteArray} {x : List S34} (hx : x.length ≤ 2048) (hf : (flat x).length ≤ 8192) {R : Bool} (fin : Ev (fun k => changelinglaw02_LexBack.l1 k x (str (flat x)) (x.length : Int)) R) : ∀ (d i : Nat), x.length - i = d → i ≤ x.length → (flat (x.take i)).length ≤ 8192 →
    Ev (fun k => changelinglaw02_LexBack.l1 k x (str (flat (x.take i))) (i : Int)) R
  | 0, i, hd, hi, _ => by
    obtain rfl : i = x.length := by omega
    rw [List.take_length]
    exact fin
  | d + 1, i, hd, hi, hfi => by
    have k1 : i < x.length := by omega
    have hsplit := flat_take k1
    have hle : (flat (x.take (i + 1))).length ≤ (flat x).length := by
      conv => rhs; rw [← List.take_append_drop (i + 1) x]
      unfold flat
      rw [List.flatMap_append, List.length_append]
      omega
    have ih := back_write (s := s) hx hf fin d (i + 1) (by omega) (by omega) (by omega)
    rw [hsplit] at ih hle
    simp only [List.length_append, List.length_singleton] at hle
    have hsz : (x[i]).f1.size = (dat (x[i]).f1).length := (dat_length _).symm
    refine Ev.succ ?_
    simp only [changelinglaw02_LexBack.l1]
    rw [rd34 k1]
    have hcat : (str (flat (x.take i)) ++ (x[i]).f1) ++ (⟨#[32]⟩ : ByteArray) = str (flat (x.take i) ++ dat (x[i]).f1 ++ [32]) := by
      apply dat_inj
      rw [dat_append, dat_append, dat_str, dat_str]
      rfl
    have hcat1 : (str (flat (x.take i)) ++ (x[i]).f1).size = (flat (x.take i)).length + (dat (x[i]).f1).length := by
      rw [← dat_length, dat_append, dat_str, List.length_append]
    refine Ev.pos (show (i : Int) < (x.length : Int) by omega) (Ev.pos (show 0 ≤ (i : Int) by omega) (Ev.pos (by rw [size_str, hsz]; omega) (Ev.pos (by rw [hcat1]; omega) ?_)))
    rw [hcat, w64 (by omega) (by omega)]
    rw [show ((i + 1 : Nat) : Int) = (i : Int) + 1 by omega] at ih
    exact ih

theorem back_count {s : ByteArray} {x : List S34} (hx : x.length ≤ 2048) (hf : (flat x).length ≤ 20000) {R : Bool} (fin : Ev (fun k => if ((flat x).length : Int) > 8192 then (if (s.size : Int) ≤ 8192 then ((changelinglaw02_known.f k).bind fun t267 => (some t267)) else (some false)) else (changelinglaw02_LexBack.l1 k x (⟨#[]⟩ : ByteArray) 0)) R) : ∀ (d i : Nat), x.length - i = d → i ≤ x.length → (flat (x.take i)).length ≤ 20000 →
    Ev (fun k => changelinglaw02_LexBack.l0 k s x ((flat (x.take i)).length : Int) (i : Int)) R
  | 0, i, hd, hi, _ => by
    obtain rfl : i = x.length := by omega
    rw [List.take_length]
    refine Ev.succ ?_
    simp only [changelinglaw02_LexBack.l0]
    exact Ev.neg (show ¬ ((x.length : Int) < (x.length : Int)) by omega) fin
  | d + 1, i, hd, hi, hfi => by
    have k1 : i < x.length := by omega
    have hsplit := flat_take k1
    have hle : (flat (x.take (i + 1))).length ≤ (flat x).length := by
      conv => rhs; rw [← List.take_append_drop (i + 1) x]
      unfold flat
      rw [List.flatMap_append, List.length_append]
      omega
    have ih := back_count (s := s) hx hf fin d (i + 1) (by omega) (by omega) (by omega)
    rw [hsplit] at ih hle
    simp only [List.length_append, List.length_singleton] at hle ih
    have hsz : (x[i]).f1.size = (dat (x[i]).f1).length := (dat_length _).symm
    refine Ev.succ ?_
    simp only [changelinglaw02_LexBack.l0]
    rw [rd34 k1, hsz]
    refine Ev.pos (show (i : Int) < (x.length : Int) by omega) (Ev.pos (show 0 ≤ (i : Int) by omega) ?_)
    rw [w64 (x := ((flat (x.take i)).length : Int) + ((dat (x[i]).f1).length : Int)) (by omega) (by omega), w64 (x := _ + 1) (by omega) (by omega), w64 (x := (i : Int) + 1) (by omega) (by omega)]
    rw [show ((i + 1 : Nat) : Int) = (i : Int) + 1 by omega, show (((flat (x.take i)).length + (dat (x[i]).f1).length + 1 : Nat) : Int) = ((flat (x.take i)).length : Int) + ((dat (x[i]).f1).length : Int) + 1 by omega] at ih
    exact ih

theorem LexBack : changelinglaw02_LexBack.Pure := by
  intro s hs
  refine Ev.rounds (g := fun k => changelinglaw02_LexBack.f k s) ?_
  have kn := Ev.bind known_ev (Ev.now true)
  unfold changelinglaw02_LexBack.f
  refine Ev.bind (tokens_ev hs) ?_
  by_cases he : (allToks s).2.1 = 0
  · refine Ev.pos he ?_
    have hsz : s.size ≤ 8192 := by
      rcases Nat.lt_or_ge 8192 s.size with h | h
      · unfold allToks at he; rw [if_pos h] at he; exact absurd he (by decide)
      · exact h
    have hall : allToks s = toks (1, 1) 0 (dat s) := by unfold allToks; rw [if_neg (Nat.not_lt.2 hsz)]
    have hcount := all_count s
    rw [hall] at he hcount ⊢
    have hfl := flat_le (dat s).length (dat s) (1, 1) 0 (Nat.le_refl _)
    have hback := toks_flat (dat s).length (dat s) (1, 1) (1, 1) 0 (Nat.le_refl _) he
    rw [dat_length] at hfl
    generalize (toks (1, 1) 0 (dat s)).1 = x at *
    refine back_count (s := s) hcount (by omega) ?_ x.length 0 (by omega) (by omega) (by simp [flat])
    by_cases hn : (flat x).length > 8192
    · exact Ev.pos (show ((flat x).length : Int) > 8192 by omega) (Ev.pos (show (s.size : Int) ≤ 8192 by omega) kn)
    · refine Ev.neg (show ¬ (((flat x).length : Int) > 8192) by omega) ?_
      refine back_write (s := s) hcount (by omega) ?_ x.length 0 (by omega) (by omega) (by simp [flat])
      refine Ev.succ ?_
      simp only [changelinglaw02_LexBack.l1]
      refine Ev.neg (show ¬ ((x.length : Int) < (x.length : Int)) by omega) ?_
      have ht := tokens_ev (s := str (flat x)) (by rw [size_str]; omega)
      have hall2 : allToks (str (flat x)) = toks (1, 1) 0 (flat x) := by unfold allToks; rw [size_str, if_neg hn, dat_str]
      rw [hall2] at ht
      refine Ev.bind ht ?_
      rw [hback.1]
      refine Ev.pos (by decide) ?_
      exact Ev.bind (alike_ev hback.2 (by omega)) (Ev.pos rfl kn)
  · refine Ev.neg he ?_
    have hsh : (allToks s).1 = [] := by
      unfold allToks at he ⊢
      split
      · rfl
      · rename_i h
        rw [if_neg h] at he
        exact (toks_shape (dat s).length (dat s) (1, 1) 0 (Nat.le_refl _)).2 he
    rw [hsh]
    exact Ev.pos rfl kn
end Go.Proofs.Ytdjcelbicmpobaa.Pure
