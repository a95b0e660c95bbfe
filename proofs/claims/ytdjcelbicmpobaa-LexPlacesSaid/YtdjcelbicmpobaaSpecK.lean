/- The fixed calls of the statements; how many tokens there are at most. -/
import Derived.Test.YtdjcelbicmpobaaSpecE
import Derived.Test.YtdjcelbicmpobaaH23
namespace Go.Proofs.Ytdjcelbicmpobaa.Lx
open Go.RowKit Go.Proofs.YtdjcelbicmpobaaW.PrintWords Go.Proofs.YtdjcelbicmpobaaW.PrintLast Go.Proofs.Ytdjcelbicmpobaa.H

theorem Ev.pos {α : Type} {c : Prop} [Decidable c] {a b : Nat → Option α} {r : α} (h : c) (k : Ev a r) : Ev (fun n => if c then a n else b n) r := Ev.congr (fun _ => if_pos h) k
theorem Ev.neg {α : Type} {c : Prop} [Decidable c] {a b : Nat → Option α} {r : α} (h : ¬ c) (k : Ev b r) : Ev (fun n => if c then a n else b n) r := Ev.congr (fun _ => if_neg h) k
theorem known_all : changelinglaw02_known.f 80 = some true := by decide +kernel
theorem known_ev : Ev (fun k => changelinglaw02_known.f k) true := Ev.of (fun k => changelinglaw02_known.mono k) known_all

theorem toks_count : ∀ (m : Nat) (l : L) (p : Int × Int) (n : Nat), l.length ≤ m → n ≤ 2048 → n + (toks p n l).1.length ≤ 2048 := by
  intro m
  induction m with
  | zero =>
    intro l p n h hn
    obtain rfl : l = [] := List.eq_nil_of_length_eq_zero (by omega)
    rw [toks_end (by simp)]
    simpa using hn
  | succ m ih =>
    intro l p n h hn
    cases hd : l.drop (blankN l) with
    | nil => rw [toks_end hd]; simpa using hn
    | cons c r =>
      by_cases hc : cls c.toNat = 0
      · rw [toks_none hd hc]; simpa using hn
      · by_cases he : errOf (kindS (cls c.toNat) (tokL c r)) (tokL c r) n = 0
        · rw [toks_one hd hc he]
          have hl := congrArg List.length hd
          simp only [List.length_drop, List.length_cons] at hl
          have hn2 : n < 2048 := by
            rcases Nat.lt_or_ge n 2048 with h2 | h2
            · exact h2
            · exfalso
              unfold errOf at he
              by_cases h0 : err0 (kindS (cls c.toNat) (tokL c r)) (tokL c r) = 0
              · have := errOf_pos h0 h2
                unfold errOf at this
                rw [this] at he
                exact absurd he (by decide)
              · have := errOf_neg (n := n) (fun hh => h0 hh.1)
                unfold errOf at this
                rw [this] at he
                exact h0 he
          have ih1 := ih ((c :: r).drop (tokL c r).length) (adv (adv p (l.take (blankN l))) (tokL c r)) (n + 1) (by simp only [List.length_drop, List.length_cons, tokL]; omega) (by omega)
          show n + (if _ then _ else _ : List S34).length ≤ 2048
          split
          · simp only [List.length_cons]; omega
          · simpa using hn
        · rw [toks_bad hd hc he]; simpa using hn
theorem all_count (s : ByteArray) : (allToks s).1.length ≤ 2048 := by
  unfold allToks
  split
  · simp
  · have := toks_count (dat s).length (dat s) (1, 1) 0 (Nat.le_refl _) (by omega)
    omega
end Go.Proofs.Ytdjcelbicmpobaa.Lx
