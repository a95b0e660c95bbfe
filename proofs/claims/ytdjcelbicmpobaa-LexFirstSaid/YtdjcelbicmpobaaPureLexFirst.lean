/- LexFirst: for every source, what stands ahead of the first error has none. No condition but that the source's bytes lie within the form's reach. -/
import Derived.Test.YtdjcelbicmpobaaH30
import Derived.Test.YtdjcelbicmpobaaSpecM
namespace Go.Proofs.Ytdjcelbicmpobaa.Pure
open Go.RowKit Go.Proofs.Ytdjcelbicmpobaa.H Go.Proofs.YtdjcelbicmpobaaW.PrintWords Go.Proofs.YtdjcelbicmpobaaW.PrintLast Go.Proofs.Ytdjcelbicmpobaa.Lx

theorem LexFirst : changelinglaw02_LexFirst.Pure := by
  intro s hs
  refine Ev.rounds (g := fun k => changelinglaw02_LexFirst.f k s) ?_
  have fin := Ev.bind known_ev (Ev.now true)
  unfold changelinglaw02_LexFirst.f
  refine Ev.bind (tokens_ev hs) ?_
  by_cases he : (allToks s).2.1 = 0
  · refine Ev.pos he ?_
    refine Ev.succ ?_
    simp only [changelinglaw02_LexFirst.j0, if_pos True.intro]
    exact Ev.pos he fin
  · refine Ev.neg he ?_
    refine Ev.succ ?_
    by_cases hbig : s.size > 8192
    · have hall : allToks s = ([], 2, 1, 1) := by unfold allToks; rw [if_pos hbig]
      rw [decide_eq_true (show (s.size : Int) > 8192 by omega), hall]
      simp only [changelinglaw02_LexFirst.j0, if_pos True.intro]
      exact Ev.neg (by decide) (Ev.pos (by decide) fin)
    · have hall : allToks s = toks (1, 1) 0 (dat s) := by unfold allToks; rw [if_neg hbig]
      rw [decide_eq_false (show ¬ ((s.size : Int) > 8192) by omega), hall]
      rw [hall] at he
      obtain ⟨e, h1, h2, h3⟩ := toks_first (dat s).length (dat s) (1, 1) 0 (Nat.le_refl _) he
      rw [dat_length] at h1
      simp only [changelinglaw02_LexFirst.j0, if_neg (show ¬ (false = true) by decide)]
      rw [h2]
      refine Ev.bind (offset_ev hs (n := e) (by omega)) ?_
      refine Ev.neg (show ¬ ((e : Int) ≥ (s.size : Int)) by omega) (Ev.pos (show 0 ≤ (e : Int) by omega) (Ev.pos (show (e : Int) ≤ (s.size : Int) by omega) ?_))
      rw [Int.toNat_natCast]
      have hsub : dat (s.extract 0 e) = (dat s).take e := by rw [dat_extract, List.drop_zero, Nat.sub_zero]
      have hsz : (s.extract 0 e).size = e := by rw [← dat_length, hsub, List.length_take, dat_length]; omega
      have ht := tokens_ev (s := s.extract 0 e) (by omega)
      have hall2 : allToks (s.extract 0 e) = toks (1, 1) 0 ((dat s).take e) := by unfold allToks; rw [if_neg (by omega), hsub]
      rw [hall2] at ht
      refine Ev.bind ht ?_
      rw [h3]
      exact Ev.pos (by decide) fin

end Go.Proofs.Ytdjcelbicmpobaa.Pure
