/- LexTokens: for every source, the program's tokens and fault are the reference's. No condition but that the source's bytes lie within the form's reach. -/
import Derived.Test.YtdjcelbicmpobaaH24
import Derived.Test.YtdjcelbicmpobaaSpecH
namespace Go.Proofs.Ytdjcelbicmpobaa.Pure
open Go.RowKit Go.Proofs.Ytdjcelbicmpobaa.H Go.Proofs.YtdjcelbicmpobaaW.PrintWords Go.Proofs.YtdjcelbicmpobaaW.PrintLast Go.Proofs.Ytdjcelbicmpobaa.Lx

theorem LexTokens : changelinglaw02_LexTokens.Pure := by
  intro s hs
  refine Ev.rounds (g := fun k => changelinglaw02_LexTokens.f k s) ?_
  unfold changelinglaw02_LexTokens.f
  refine Ev.bind (tokens_ev hs) ?_
  refine Ev.bind (rtokens_ev hs) ?_
  refine Ev.bind (same_ev _ (Nat.le_trans (all_count s) (by decide))) ?_
  simp only [beq_self_eq_true, Bool.and_true, if_true]
  exact Ev.bind known_ev (Ev.now _)

end Go.Proofs.Ytdjcelbicmpobaa.Pure
