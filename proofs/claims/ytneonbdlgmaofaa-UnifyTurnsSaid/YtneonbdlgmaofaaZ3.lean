/-
Types that are made the same, part 9: a type's variables.
Types that are made the same, part 10: the program's places, renamed types.
Types that are made the same, part 11: renamed types, the plain part.
Types that are made the same, part 12: a renamed type is its own renamed form (plain).
UnifyRenames: the law, walked.
Types that are made the same, part 15: the store in memory.
Types that are made the same, part 16: functions at any heap; head.
Types that are made the same, part 17: sees.
Types that are made the same, part 18: resolve.
Types that are made the same, part 24 (plain): nothing is made more the same than must be.
Types that are made the same, part 19: Resolve.
Types that are made the same, part 20: leaves, in a store that knows nothing.
Types that are made the same, part 25: occurs.
UnifyNil: the law, walked.
Types that are made the same, part 26: the store while types are made the same; bind, becomes.
Types that are made the same, part 27: alike.
Types that are made the same, part 28: same; rows of pairs.
Types that are made the same, part 29: same; what makes rows of pairs the same.
Types that are made the same, part 30: Unify.
Types that are made the same, part 31: rows of pairs handed to a law; few, joined.
UnifySame: the law, walked.
UnifyGeneral: the law, walked.
UnifyBack: the law, walked.
The value machine, part 35: places that are held, told apart; arguments as they stand in lists; loops over a range.
UnifyTurns: the law, walked: two stores side by side.
Types that are made the same, part 14: types as a law is handed them.
-/
import Derived.Test.YtneonbdlgmaofaaZ2
import Derived.Test.YtneonbdlgmaofaaZ0
set_option linter.unusedVariables false
set_option linter.unusedSimpArgs false
set_option linter.constructorNameAsVariable false
namespace Go.Proofs.Ytneonbdlgmaofaa.Vm
open Go
set_option linter.unusedSimpArgs false

mutual
def varsF : Ty → List Int → List Int
  | .mk k n _ xs, l => if k = 1 then (if n ∈ l then l else l ++ [n]) else varsL xs l
def varsL : List Ty → List Int → List Int
  | [], l => l
  | a :: xs, l => varsL xs (varsF a l)
end
theorem varsL_app : ∀ {a b : List Ty} {l : List Int}, varsL (a ++ b) l = varsL b (varsL a l)
  | [], b, l => by simp [varsL]
  | x :: a, b, l => by rw [List.cons_append, varsL, varsL, varsL_app]
theorem varsL_push {xs : List Ty} {i : Nat} {a : Ty} {l : List Int} (h : xs[i]? = some a) : varsL (xs.take (i + 1)) l = varsF a (varsL (xs.take i) l) := by
  rw [List.take_add_one, h, varsL_app]; simp [varsL]
mutual
theorem varsF_len : ∀ (t : Ty) (l : List Int), (varsF t l).length ≤ l.length + tySize t
  | .mk k n s xs, l => by
    have := varsL_len xs l
    rw [varsF, tySize]
    split
    · split
      · omega
      · simp
    · omega
theorem varsL_len : ∀ (xs : List Ty) (l : List Int), (varsL xs l).length ≤ l.length + tysSize xs
  | [], l => by simp [varsL]
  | a :: xs, l => by
    have h1 := varsF_len a l
    have h2 := varsL_len xs (varsF a l)
    rw [varsL, tysSize]; omega
end
theorem int_push {l : List Int} {i : Nat} {a : Int} (h : l[i]? = some a) : List.map (fun n => [V.int .i64 n]) (List.take i l) ++ [[V.int .i64 a]] = List.map (fun n => [V.int .i64 n]) (List.take (i + 1) l) := by
  rw [List.take_add_one, h]; simp only [List.map_append]; rfl
theorem not_mem_of {l : List Int} {n : Int} (h : ∀ j < l.length, l[j]? ≠ some n) : n ∉ l := by
  intro hm
  obtain ⟨j, hj⟩ := List.mem_iff_getElem?.1 hm
  exact h j (List.getElem?_eq_some_iff.1 hj).1 hj
@[go_sem] theorem fin0_ints {H : Heap} {R : V → Prop} {o : Bool} {l : List Int} : fin0 H (intsV o l) R = R (intsV o l) := fin0_sl

theorem refVars_T (t : Ty) : Bd t → ∀ (l : List Int), l.length + tySize t ≤ 1000000000 → ∀ (o o1 : Bool), ∃ o', T Try.prog 23 [tyV o t, intsV o1 l] [] (intsV o' (varsF t l)) [] := by
  induction t using Ty.ind with
  | h k n s xs ih =>
    intro hb l hl o o1
    have key : ∀ R : V → Prop, (∀ o', R (intsV o' (varsF (Ty.mk k n s xs) l))) → ∃ r, T Try.prog 23 [tyV o (Ty.mk k n s xs), intsV o1 l] [] r [] ∧ R r := by
      intro R hR
      rw [tySize] at hl
      refine T.of0x mix c_r10_Vars rfl ?_
      unfold v_r10_Vars
      simp only [tyV, tyO, Ty.k, Ty.n, Ty.s, Ty.as, intsV, go_sem, ↓reduceIte]
      by_cases hk : k = 1
      · subst hk
        refine ⟨fun _ => ?_, fun h => by simp at h⟩
        refine WP.loop' (fun m E H' => ∃ (i : Nat) (ex : List (Nat × V)), i + m = l.length ∧ (∀ j < i, l[j]? ≠ some n) ∧
          H' = [Obj.cells 0 [.int .i64 1, .int .i64 n, .str s, .sl o 4 (xs.map tyC)]] ∧
          E = ⟨(1, intsV o1 l) :: (2, .ptr 0 0 0) :: (5, .int .i64 i) :: ex, .u⟩) (n := l.length) ⟨0, _, by omega, fun j hj => by omega, rfl, rfl⟩ ?_
        rintro m E H' ⟨i, ex, hi, hno, rfl, rfl⟩
        have hw := inc64 (i := i) (by omega)
        simp only [intsV, go_sem, ↓reduceIte, ↓ex_map, ↓run_addW, hw, Int.toNat_natCast]
        refine ⟨fun hlt => ?_, fun hge => ?_⟩
        · have hix : i < l.length := by omega
          refine ⟨by omega, _, List.getElem?_eq_getElem hix, fun he => ?_, fun he => ⟨m - 1, by omega, i + 1, _, by omega, fun j hj => ?_, rfl⟩⟩
          · have := hR o1
            rw [varsF, if_pos rfl, if_pos (by simp at he; rw [← he]; exact List.getElem_mem hix)] at this
            exact this
          · by_cases hj' : j < i
            · exact hno j hj'
            · have : j = i := by omega
              subst this
              rw [List.getElem?_eq_getElem hix]
              simp at he ⊢; exact he
        · refine WP.loop' (fun m E H' => ∃ (i : Nat) (ex : List (Nat × V)), i + m = l.length ∧
            H' = [Obj.cells 0 [.int .i64 1, .int .i64 n, .str s, .sl o 4 (xs.map tyC)]] ∧
            E = ⟨(1, intsV o1 l) :: (2, .ptr 0 0 0) :: (6, intsV true (l.take i)) :: (7, .int .i64 i) :: ex, .u⟩) (n := l.length) ⟨0, _, by omega, rfl, rfl⟩ ?_
          rintro m E H' ⟨i, ex, hi', rfl, rfl⟩
          have hw := inc64 (i := i) (by omega)
          simp only [intsV, go_sem, ↓reduceIte, ↓ex_map, ↓run_addW, hw, Int.toNat_natCast]
          refine ⟨fun hlt => ?_, fun hge => ?_⟩
          · have hix : i < l.length := by omega
            have hg := List.getElem?_eq_getElem hix
            have hfit : fits (i + 1) 8 := ⟨by omega, by omega⟩
            have hmin : min i l.length = i := by omega
            refine ⟨by omega, _, hg, ?_⟩
            have hpush := int_push hg
            simp only [List.length_take, hmin, hfit, hpush, true_and]
            exact ⟨m - 1, by omega, i + 1, _, by omega, rfl⟩
          · rw [List.take_of_length_le (by omega)]
            have hfit : fits (l.length + 1) 8 := ⟨by omega, by omega⟩
            have := hR true
            rw [varsF, if_pos rfl, if_neg (not_mem_of fun j hj => hno j (by omega))] at this
            rw [intsV, List.map_append] at this
            exact ⟨hfit, this⟩
      · refine ⟨fun h => by simp at h; exact absurd h hk, fun _ => ?_⟩
        refine WP.loop' (fun m E H' => ∃ (i : Nat) (oi : Bool) (ex : List (Nat × V)), i + m = xs.length ∧
          H' = [Obj.cells 0 [.int .i64 k, .int .i64 n, .str s, .sl o 4 (xs.map tyC)]] ∧
          E = ⟨(1, intsV oi (varsL (xs.take i) l)) :: (2, .ptr 0 0 0) :: (8, .int .i64 i) :: ex, .u⟩) (n := xs.length) ⟨0, o1, _, by omega, rfl, rfl⟩ ?_
        rintro m E H' ⟨i, oi, ex, hi, rfl, rfl⟩
        have hw := inc64 (i := i) (by have := hb.len; omega)
        simp only [intsV, go_sem, ↓reduceIte, ↓ex_map, ↓run_addW, hw, Int.toNat_natCast]
        refine ⟨fun hlt => ?_, fun hge => ?_⟩
        · have hix : i < xs.length := by omega
          have hg := List.getElem?_eq_getElem hix
          have hp := tysSize_push hg
          have h1 := varsL_len (xs.take i) l
          have h2 := tysSize_take xs (i + 1)
          obtain ⟨o', hT⟩ := ih _ (List.getElem_mem hix) (hb.arg _ (List.getElem_mem hix)) (varsL (xs.take i) l) (by omega) false oi
          rw [← tyC_agg] at hT
          refine ⟨by omega, _, hg, _, _, hT.frame (by rw [tyC_agg]; rfl) _, ?_⟩
          rw [← varsL_push hg]
          simp only [intsV, go_sem, ↓reduceIte, ↓run_addW, hw]
          exact ⟨m - 1, by omega, i + 1, o', _, by omega, rfl⟩
        · have := hR oi
          rw [varsF, if_neg hk] at this
          rw [List.take_of_length_le (by omega)]
          exact this
    obtain ⟨r, hT, o', rfl⟩ := key (fun r => ∃ o', r = intsV o' (varsF (Ty.mk k n s xs) l)) fun o' => ⟨o', rfl⟩
    exact ⟨o', hT⟩

theorem has_T (l : List Int) (hl : l.length ≤ 1000000000) (n : Int) (o : Bool) : T Try.prog 42 [intsV o l, .int .i64 n] [] (.bool (decide (n ∈ l))) [] := by
  refine T.of0 mix c_unify_has rfl ?_
  unfold v_unify_has
  simp only [intsV, go_sem, ↓reduceIte]
  refine WP.loop' (fun m E H' => ∃ (i : Nat) (ex : List (Nat × V)), i + m = l.length ∧ (∀ j < i, l[j]? ≠ some n) ∧
    E = ⟨(1, .int .i64 n) :: (7, intsV o l) :: (8, .int .i64 l.length) :: (9, .int .i64 i) :: ex, .u⟩) (n := l.length) ⟨0, _, by omega, fun j hj => by omega, rfl⟩ ?_
  rintro m E H' ⟨i, ex, hi, hno, rfl⟩
  have hw := inc64 (i := i) (by omega)
  simp only [intsV, go_sem, ↓reduceIte, ↓ex_map, ↓run_addW, hw, Int.toNat_natCast]
  refine ⟨fun hlt => ?_, fun hge => ?_⟩
  · have hix : i < l.length := by omega
    refine ⟨by omega, _, List.getElem?_eq_getElem hix, fun he => ?_, fun he => ⟨m - 1, by omega, i + 1, _, by omega, fun j hj => ?_, rfl⟩⟩
    · simp at he
      rw [decide_eq_true]
      rw [← he]; exact List.getElem_mem hix
    · by_cases hj' : j < i
      · exact hno j hj'
      · have : j = i := by omega
        subst this
        rw [List.getElem?_eq_getElem hix]
        simp at he ⊢; exact he
  · rw [decide_eq_false]
    exact not_mem_of fun j hj => hno j (by omega)

theorem vars_T (t : Ty) : Bd t → Rt t → ∀ (l : List Int), l.length + tySize t ≤ 1000000000 → ∀ o : Bool, T Try.prog 38 [tyV o t, intsV true l] [] (intsV true (varsF t l)) [] := by
  induction t using Ty.ind with
  | h k n s xs ih =>
    intro hb hr l hl o
    have key : ∀ R : V → Prop, (R (intsV true (varsF (Ty.mk k n s xs) l))) → ∃ r, T Try.prog 38 [tyV o (Ty.mk k n s xs), intsV true l] [] r [] ∧ R r := by
      intro R hR
      rw [tySize] at hl
      refine T.of0x mix c_unify_vars rfl ?_
      unfold v_unify_vars
      simp only [tyV, tyO, Ty.k, Ty.n, Ty.s, Ty.as, intsV, go_sem, ↓reduceIte]
      by_cases hk : k = 1
      · have hx : xs = [] := by
          cases hr with
          | var => rfl
          | con => cases hk
          | fn => cases hk
        subst hk hx
        refine ⟨fun _ => ⟨_, _, (has_T l (by omega) n false).frame rfl _, ?_⟩, fun h => by simp at h⟩
        have hfit : fits (l.length + 1) 8 := ⟨by omega, by omega⟩
        simp only [go_sem, ↓reduceIte]
        rw [varsF, if_pos rfl] at hR
        refine ⟨fun h => ⟨hfit, ?_⟩, fun h => ?_⟩
        · rw [if_neg (by simpa using h), intsV, List.map_append] at hR
          refine WP.loop' (fun m E H' => E = ⟨[(1, .sl true 1 (List.map (fun n => [V.int .i64 n]) l ++ [[.int .i64 n]])), (23, .sl false 4 []), (24, .int .i64 0), (25, .int .i64 0)], .u⟩) (n := 0) rfl ?_
          rintro m E H' rfl
          simp only [go_sem, ↓reduceIte]
          exact ⟨fun h => absurd h (by omega), fun _ => hR⟩
        · rw [if_pos (by simpa using h), intsV] at hR
          refine WP.loop' (fun m E H' => E = ⟨[(1, .sl true 1 (List.map (fun n => [V.int .i64 n]) l)), (23, .sl false 4 []), (24, .int .i64 0), (25, .int .i64 0)], .u⟩) (n := 0) rfl ?_
          rintro m E H' rfl
          simp only [go_sem, ↓reduceIte]
          exact ⟨fun h => absurd h (by omega), fun _ => hR⟩
      · refine ⟨fun h => by simp at h; exact absurd h hk, fun _ => ?_⟩
        refine WP.loop' (fun m E H' => ∃ (i : Nat) (ex : List (Nat × V)), i + m = xs.length ∧
          E = ⟨(1, intsV true (varsL (xs.take i) l)) :: (23, .sl false 4 (xs.map tyC)) :: (24, .int .i64 xs.length) :: (25, .int .i64 i) :: ex, .u⟩) (n := xs.length) ⟨0, _, by omega, rfl⟩ ?_
        rintro m E H' ⟨i, ex, hi, rfl⟩
        have hw := inc64 (i := i) (by have := hb.len; omega)
        simp only [intsV, go_sem, ↓reduceIte, ↓ex_map, ↓run_addW, hw, Int.toNat_natCast]
        refine ⟨fun hlt => ?_, fun hge => ?_⟩
        · have hix : i < xs.length := by omega
          have hg := List.getElem?_eq_getElem hix
          have hp := tysSize_push hg
          have h1 := varsL_len (xs.take i) l
          have h2 := tysSize_take xs (i + 1)
          have hT := ih _ (List.getElem_mem hix) (hb.arg _ (List.getElem_mem hix)) (hr.args _ (List.getElem_mem hix)) (varsL (xs.take i) l) (by omega) false
          rw [← tyC_agg] at hT
          refine ⟨by omega, _, hg, _, _, hT.frame (by rw [tyC_agg]; rfl) _, ?_⟩
          rw [← varsL_push hg]
          simp only [intsV, go_sem, ↓reduceIte, ↓run_addW, hw]
          exact ⟨m - 1, by omega, i + 1, _, by omega, rfl⟩
        · have := hR
          rw [varsF, if_neg hk] at this
          rw [List.take_of_length_le (by omega)]
          exact this
    obtain ⟨r, hT, rfl⟩ := key (fun r => r = intsV true (varsF (Ty.mk k n s xs) l)) rfl
    exact hT
theorem Vars_T (t : Ty) (hb : Bd t) (hr : Rt t) (hl : tySize t ≤ 1000000000) (o : Bool) : T Try.prog 34 [tyV o t] [] (intsV true (varsF t [])) [] := by
  obtain ⟨k, n, s, xs⟩ := t
  refine T.of0 mix c_unify_Vars rfl ?_
  unfold v_unify_Vars
  have h1 := right_T _ hb false
  have h2 := vars_T _ hb hr [] (by simpa using hl) o
  rw [(right_iff _).2 hr] at h1
  have e : intsV true [] = .sl true 1 [] := rfl
  rw [e] at h2
  simp only [tyV, tyO, Ty.k, Ty.n, Ty.s, Ty.as, go_sem, ↓reduceIte] at h1 h2 ⊢
  refine ⟨_, _, h1.frame rfl _, ?_⟩
  simp only [go_sem, ↓reduceIte]
  refine ⟨_, _, h2.frame rfl _, ?_⟩
  simp only [intsV, go_sem, ↓reduceIte]
end Go.Proofs.Ytneonbdlgmaofaa.Vm
namespace Go.Proofs.Ytneonbdlgmaofaa.Vm
open Go
set_option linter.unusedSimpArgs false

@[go_sem] theorem tyO_len {o : Bool} {a : Ty} : (tyO o a).length = 4 := rfl
@[go_sem] theorem tyO_take {o : Bool} {a : Ty} : List.take 4 (tyO o a) = tyO o a := rfl
@[go_sem] theorem tyO_drop0 {o : Bool} {a : Ty} : List.drop 0 (tyO o a) = tyO o a := rfl
@[go_sem] theorem tyO_strip {o : Bool} {a : Ty} : List.map strip0 (tyO o a) = tyO false a := rfl
@[go_sem] theorem put_tyO {a b c d : V} {o : Bool} {t : Ty} : put [a, b, c, d] 0 (tyO o t) = tyO o t := rfl
@[go_sem] theorem put_tyOO {o o' : Bool} {t u : Ty} : put (tyO o t) 0 (tyO o' u) = tyO o' u := rfl
@[go_sem] theorem agg_tyO {o : Bool} {t : Ty} : V.agg (tyO o t) = tyV o t := rfl
@[go_sem] theorem store_tyV {P : Program} {K : KK} {s : List Fr} {E : En} {H : Heap} {tk : List Nat} {dst : Option Nat} {os : List VOp} {keep : List Nat} {id ver off : Nat} {o : Bool} {t : Ty} :
    runAct P (.store 4) [.ptr id ver off, tyV o t] tk dst os keep s E H K = storeA P (getCells H id ver) id ver off (tyO o t) tk dst os keep s E H K :=
  store_agg (tyO_plain _ _) rfl

theorem subst_T (vs : List Int) (ws : List Ty) (hv : vs.length ≤ 1000000000) (hws : ∀ w ∈ ws, Bd w) (t : Ty) : Bd t → ∀ (o o1 o2 : Bool), ∃ o', T Try.prog 39 [tyV o t, intsV o1 vs, tysV o2 ws] [] (tyV o' (subF vs ws t)) [] := by
  induction t using Ty.ind with
  | h k n s xs ih =>
    intro hb o o1 o2
    have key : ∀ R : V → Prop, (∀ o', R (tyV o' (subF vs ws (Ty.mk k n s xs)))) → ∃ r, T Try.prog 39 [tyV o (Ty.mk k n s xs), intsV o1 vs, tysV o2 ws] [] r [] ∧ R r := by
      intro R hR
      refine T.of0x mix c_unify_subst rfl ?_
      unfold v_unify_subst
      simp only [tyV, tyO, Ty.k, Ty.n, Ty.s, Ty.as, intsV, tysV, go_sem, ↓reduceIte]
      by_cases hk : k = 1
      · subst hk
        refine ⟨fun _ => ?_, fun h => by simp at h⟩
        refine WP.loop' (fun m E H' => ∃ (i : Nat) (ex : List (Nat × V)), i + m = vs.length ∧ (∀ j < i, vs[j]? ≠ some n) ∧
          H' = [Obj.cells 0 [.int .i64 1, .int .i64 n, .str s, .sl o 4 (xs.map tyC)], Obj.cells 0 [.int .i64 0, .int .i64 0, .str [], .sl true 4 []]] ∧
          E = ⟨(2, tysV o2 ws) :: (3, .ptr 0 0 0) :: (6, .ptr 1 0 0) :: (15, intsV o1 vs) :: (16, .int .i64 vs.length) :: (17, .int .i64 i) :: ex, .u⟩) (n := vs.length) ⟨0, _, by omega, fun j hj => by omega, rfl, rfl⟩ ?_
        rintro m E H' ⟨i, ex, hi, hno, rfl, rfl⟩
        have hw := inc64 (i := i) (by omega)
        simp only [intsV, tysV, go_sem, ↓reduceIte, ↓ex_map, ↓run_addW, hw, Int.toNat_natCast]
        have hdone : (∀ j < vs.length, vs[j]? ≠ some n) → subF vs ws (Ty.mk 1 n s xs) = Ty.mk 1 n s xs := by
          intro h; rw [subF, if_pos rfl, atV_none h]
        refine ⟨fun hlt => ?_, fun hge => ?_⟩
        · have hix : i < vs.length := by omega
          have hstep : ∀ (he : (vs[i] == n) = false), ∀ j < i + 1, ¬ vs[j]? = some n := by
            intro he j hj
            by_cases hj' : j < i
            · exact hno j hj'
            · have : j = i := by omega
              subst this
              rw [List.getElem?_eq_getElem hix]
              simp at he ⊢; exact he
          refine ⟨by omega, _, List.getElem?_eq_getElem hix, fun he => ?_, fun he => ⟨fun he' => (by rw [he] at he'; cases he'), fun _ => ⟨m - 1, by omega, i + 1, _, by omega, hstep he, rfl⟩⟩⟩
          have hv' : vs[i]? = some n := by rw [List.getElem?_eq_getElem hix]; simp at he; rw [he]
          refine ⟨fun hlw => ?_, fun hlw => ⟨fun _ => ?_, fun he' => (by rw [he] at he'; cases he')⟩⟩
          · have hiw : i < ws.length := by omega
            have hgw := List.getElem?_eq_getElem hiw
            obtain ⟨o', hT⟩ := copied_T ws[i] (hws _ (List.getElem_mem hiw)) false
            refine ⟨by omega, _, hgw, _, _, hT.ty _, ?_⟩
            simp only [go_sem, ↓reduceIte]
            have := hR o'
            rw [subF, if_pos rfl, atV_at hno hv', hgw] at this
            exact this
          · have := hR o
            rw [subF, if_pos rfl, atV_at hno hv', List.getElem?_eq_none (by omega)] at this
            exact this
        · have := hR o
          rw [hdone (fun j hj => hno j (by omega))] at this
          exact this
      · refine ⟨fun h => by simp at h; exact absurd h hk, fun _ => ?_⟩
        refine WP.loop' (fun m E H' => ∃ (i : Nat) (rest : Heap) (ex : List (Nat × V)), i + m = xs.length ∧
          H' = Obj.cells 0 [.int .i64 k, .int .i64 n, .str s, .sl o 4 (xs.map tyC)] :: Obj.cells 0 [.int .i64 0, .int .i64 0, .str [], .sl true 4 []] :: Obj.cells 0 [.int .i64 k, .int .i64 0, .str s, .sl true 4 (((xs.take i).map (subF vs ws)).map tyC)] :: rest ∧
          E = ⟨(1, intsV o1 vs) :: (2, tysV o2 ws) :: (6, .ptr 1 0 0) :: (9, .ptr 2 0 0) :: (50, .sl false 4 (xs.map tyC)) :: (51, .int .i64 xs.length) :: (52, .int .i64 i) :: ex, .u⟩) (n := xs.length) ⟨0, [], _, by omega, rfl, rfl⟩ ?_
        rintro m E H' ⟨i, rest, ex, hi, rfl, rfl⟩
        have hw := inc64 (i := i) (by have := hb.len; omega)
        simp only [intsV, tysV, go_sem, ↓reduceIte, ↓ex_map, ↓run_addW, hw, Int.toNat_natCast]
        refine ⟨fun hlt => ?_, fun hge => ?_⟩
        · have hix : i < xs.length := by omega
          have hg := List.getElem?_eq_getElem hix
          obtain ⟨o', hT⟩ := ih _ (List.getElem_mem hix) (hb.arg _ (List.getElem_mem hix)) false false false
          rw [← tyC_agg] at hT
          refine ⟨by omega, _, hg, _, hT, by rw [tyC_agg]; rfl, ?_⟩
          have hfit : fits (i + 1) 56 := ⟨by have := hb.len; omega, by have := hb.len; omega⟩
          have hmin : min i xs.length = i := by omega
          have hpush := ty_push (subF vs ws) hg
          simp only [go_sem, ↓reduceIte, ↓run_addW, hw, List.length_take, hmin, hfit, hpush]
          exact ⟨m - 1, by omega, i + 1, _, _, by omega, rfl, rfl⟩
        · have := hR true
          rw [subF, if_neg hk, subL_eq] at this
          rw [List.take_of_length_le (by omega)]
          exact this
    obtain ⟨r, hT, o', rfl⟩ := key (fun r => ∃ o', r = tyV o' (subF vs ws (Ty.mk k n s xs))) fun o' => ⟨o', rfl⟩
    exact ⟨o', hT⟩
theorem Subst_T (vs : List Int) (ws : List Ty) (hv : vs.length ≤ 1000000000) (hws : ∀ w ∈ ws, Bd w) (t : Ty) (hb : Bd t) (hr : Rt t) (o o1 o2 : Bool) : ∃ o', T Try.prog 35 [tyV o t, intsV o1 vs, tysV o2 ws] [] (tyV o' (subF vs ws t)) [] := by
  have key : ∀ R : V → Prop, (∀ o', R (tyV o' (subF vs ws t))) → ∃ r, T Try.prog 35 [tyV o t, intsV o1 vs, tysV o2 ws] [] r [] ∧ R r := by
    intro R hR
    obtain ⟨k, n, s, xs⟩ := t
    refine T.of0x mix c_unify_Subst rfl ?_
    unfold v_unify_Subst
    have h1 := right_T _ hb false
    obtain ⟨o', h2⟩ := subst_T vs ws hv hws _ hb o o1 o2
    rw [(right_iff _).2 hr] at h1
    generalize hX : subF vs ws (Ty.mk k n s xs) = X at h2 hR
    generalize hX : tyV o' X = Y at h2
    simp only [tyV, tyO, Ty.k, Ty.n, Ty.s, Ty.as, intsV, tysV, go_sem, ↓reduceIte] at h1 h2 ⊢
    subst hX
    refine ⟨_, _, h1.frame rfl _, ?_⟩
    simp only [go_sem, ↓reduceIte]
    refine ⟨_, _, h2.frame rfl _, ?_⟩
    simp only [go_sem, ↓reduceIte]
    exact hR _
  obtain ⟨r, hT, o', rfl⟩ := key (fun r => ∃ o', r = tyV o' (subF vs ws t)) fun o' => ⟨o', rfl⟩
  exact ⟨o', hT⟩
theorem var_T (n : Int) : ∃ o', T Try.prog 33 [.int .i64 n] [] (tyV o' (vr n)) [] := by
  have key : ∀ R : V → Prop, (∀ o', R (tyV o' (vr n))) → ∃ r, T Try.prog 33 [.int .i64 n] [] r [] ∧ R r := by
    intro R hR
    refine T.of0x mix c_unify_variable rfl ?_
    unfold v_unify_variable
    simp only [go_sem, ↓reduceIte]
    exact hR _
  obtain ⟨r, hT, o', rfl⟩ := key (fun r => ∃ o', r = tyV o' (vr n)) fun o' => ⟨o', rfl⟩
  exact ⟨o', hT⟩
theorem refVar_T (n : Int) : ∃ o', T Try.prog 22 [.int .i64 n] [] (tyV o' (vr n)) [] := by
  have key : ∀ R : V → Prop, (∀ o', R (tyV o' (vr n))) → ∃ r, T Try.prog 22 [.int .i64 n] [] r [] ∧ R r := by
    intro R hR
    refine T.of0x mix c_r10_Var rfl ?_
    unfold v_r10_Var
    simp only [go_sem, ↓reduceIte]
    exact hR _
  obtain ⟨r, hT, o', rfl⟩ := key (fun r => ∃ o', r = tyV o' (vr n)) fun o' => ⟨o', rfl⟩
  exact ⟨o', hT⟩
end Go.Proofs.Ytneonbdlgmaofaa.Vm
namespace Go.Proofs.Ytneonbdlgmaofaa.Vm
open Go
set_option linter.unusedSimpArgs false

def ix : List Int → Int → Nat
  | [], _ => 0
  | a :: l, v => if a = v then 0 else ix l v + 1
theorem ix_get : ∀ {l : List Int} {v : Int}, v ∈ l → l[ix l v]? = some v
  | a :: l, v, h => by
    unfold ix
    split
    · rename_i e; subst e; rfl
    · rename_i e
      rcases List.mem_cons.1 h with rfl | h
      · exact absurd rfl e
      · simpa using ix_get h
theorem ix_lt {l : List Int} {v : Int} (h : v ∈ l) : ix l v < l.length := (List.getElem?_eq_some_iff.1 (ix_get h)).1
theorem ix_inj {l : List Int} {v w : Int} (hv : v ∈ l) (hw : w ∈ l) (h : ix l v = ix l w) : v = w := by
  have h1 := ix_get hv
  rw [h, ix_get hw] at h1
  exact (Option.some.inj h1).symm
theorem ix_map {f : Int → Int} : ∀ {l : List Int} {v : Int}, v ∈ l → (∀ a ∈ l, ∀ b ∈ l, f a = f b → a = b) → ix (l.map f) (f v) = ix l v
  | a :: l, v, h, hi => by
    rw [List.map_cons]
    unfold ix
    by_cases e : a = v
    · subst e; simp
    · have hm : v ∈ l := by
        rcases List.mem_cons.1 h with rfl | h
        · exact absurd rfl e
        · exact h
      have : f a ≠ f v := fun e2 => e (hi a (List.mem_cons_self ..) v h e2)
      rw [if_neg this, if_neg e, ix_map hm fun a ha b hb => hi a (List.mem_cons_of_mem _ ha) b (List.mem_cons_of_mem _ hb)]
mutual
def mapT (f : Int → Int) : Ty → Ty
  | .mk k n s xs => if k = 1 then .mk k (f n) s xs else .mk k n s (mapL f xs)
def mapL (f : Int → Int) : List Ty → List Ty
  | [] => []
  | a :: xs => mapT f a :: mapL f xs
end
theorem mapL_eq (f : Int → Int) : ∀ l : List Ty, mapL f l = l.map (mapT f)
  | [] => rfl
  | a :: l => by rw [mapL, mapL_eq f l]; rfl
theorem Occ.args {v : Int} {k n : Int} {s : List UInt8} {xs : List Ty} (hk : k ≠ 1) : Occ v (.mk k n s xs) ↔ ∃ a ∈ xs, Occ v a := by
  constructor
  · intro h
    cases h with
    | var => exact absurd rfl hk
    | arg _ ha h => exact ⟨_, ha, h⟩
  · rintro ⟨a, ha, h⟩; exact .arg hk ha h
mutual
theorem mapT_size (f : Int → Int) : ∀ t : Ty, tySize (mapT f t) = tySize t
  | .mk k n s xs => by
    rw [mapT]
    split
    · rw [tySize, tySize]
    · rw [tySize, tySize, mapL_size f xs]
theorem mapL_size (f : Int → Int) : ∀ l : List Ty, tysSize (mapL f l) = tysSize l
  | [] => rfl
  | a :: l => by rw [mapL, tysSize, tysSize, mapT_size f a, mapL_size f l]
end
theorem mapT_bd (f : Int → Int) (t : Ty) : Bd t → Bd (mapT f t) := by
  induction t using Ty.ind with
  | h k n s xs ih =>
    intro hb
    rw [mapT]
    split
    · exact .mk hb.len hb.arg
    · rw [mapL_eq]
      refine .mk (by rw [List.length_map]; exact hb.len) fun a ha => ?_
      obtain ⟨b, hb', rfl⟩ := List.mem_map.1 ha
      exact ih b hb' (hb.arg b hb')
theorem mapT_rt (f : Int → Int) (t : Ty) : Rt t → (∀ v, Occ v t → 0 ≤ f v ∧ f v ≤ 1073741824) → Rt (mapT f t) := by
  induction t using Ty.ind with
  | h k n s xs ih =>
    intro hr hf
    rw [mapT]
    cases hr with
    | var h0 h1 =>
      rw [if_pos rfl]
      have := hf n (.var rfl)
      exact .var this.1 this.2
    | con hs h =>
      rw [if_neg (by omega), mapL_eq]
      refine .con hs fun a ha => ?_
      obtain ⟨b, hb, rfl⟩ := List.mem_map.1 ha
      exact ih b hb (h b hb) fun v hv => hf v (.arg (by omega) hb hv)
    | fn hl h =>
      rw [if_neg (by omega), mapL_eq]
      refine .fn (by rw [List.length_map]; exact hl) fun a ha => ?_
      obtain ⟨b, hb, rfl⟩ := List.mem_map.1 ha
      exact ih b hb (h b hb) fun v hv => hf v (.arg (by omega) hb hv)
theorem mapT_congr {f g : Int → Int} (t : Ty) : (∀ v, Occ v t → f v = g v) → mapT f t = mapT g t := by
  induction t using Ty.ind with
  | h k n s xs ih =>
    intro h
    rw [mapT, mapT]
    split
    · rename_i hk; subst hk; rw [h n (.var rfl)]
    · rename_i hk
      rw [mapL_eq, mapL_eq]
      congr 1
      exact List.map_congr_left fun a ha => ih a ha fun v hv => h v (.arg hk ha hv)
theorem mapT_comp {f g : Int → Int} (t : Ty) : mapT g (mapT f t) = mapT (fun v => g (f v)) t := by
  induction t using Ty.ind with
  | h k n s xs ih =>
    rw [mapT]
    conv => rhs; rw [mapT]
    split
    · rename_i hk; rw [mapT, if_pos hk]
    · rename_i hk
      rw [mapT, if_neg hk, mapL_eq, mapL_eq, mapL_eq, List.map_map]
      congr 1
      exact List.map_congr_left fun a ha => ih a ha
mutual
theorem mem_vars : ∀ (t : Ty) (l : List Int) (v : Int), v ∈ varsF t l ↔ v ∈ l ∨ Occ v t
  | .mk k n s xs, l, v => by
    rw [varsF]
    by_cases hk : k = 1
    · subst hk
      rw [if_pos rfl, Occ.var_iff rfl]
      show _ ↔ v ∈ l ∨ n = v
      by_cases hm : n ∈ l
      · rw [if_pos hm]
        constructor
        · exact .inl
        · rintro (h | rfl)
          · exact h
          · exact hm
      · rw [if_neg hm, List.mem_append, List.mem_singleton]
        constructor <;> rintro (h | h) <;> first | exact .inl h | exact .inr h.symm
    · rw [if_neg hk, mem_varsL xs l v, Occ.args hk]
theorem mem_varsL : ∀ (xs : List Ty) (l : List Int) (v : Int), v ∈ varsL xs l ↔ v ∈ l ∨ ∃ a ∈ xs, Occ v a
  | [], l, v => by simp [varsL]
  | a :: xs, l, v => by
    rw [varsL, mem_varsL xs (varsF a l) v, mem_vars a l v]
    simp [or_assoc]
end
mutual
theorem vars_map (f : Int → Int) : ∀ (t : Ty) (l : List Int), (∀ a b, (a ∈ l ∨ Occ a t) → (b ∈ l ∨ Occ b t) → f a = f b → a = b) → varsF (mapT f t) (l.map f) = (varsF t l).map f
  | .mk k n s xs, l, h => by
    rw [mapT]
    by_cases hk : k = 1
    · subst hk
      rw [if_pos rfl, varsF, varsF, if_pos rfl, if_pos rfl]
      by_cases hm : n ∈ l
      · rw [if_pos hm, if_pos (List.mem_map_of_mem hm)]
      · rw [if_neg hm, if_neg, List.map_append]
        · rfl
        · intro hm2
          obtain ⟨a, ha, e⟩ := List.mem_map.1 hm2
          have := h a n (.inl ha) (.inr (.var rfl)) e
          subst this; exact hm ha
    · rw [if_neg hk, varsF, varsF, if_neg hk, if_neg hk]
      exact vars_mapL f xs l fun a b ha hb => h a b (ha.imp id (Occ.args hk).2) (hb.imp id (Occ.args hk).2)
theorem vars_mapL (f : Int → Int) : ∀ (xs : List Ty) (l : List Int), (∀ a b, (a ∈ l ∨ ∃ x ∈ xs, Occ a x) → (b ∈ l ∨ ∃ x ∈ xs, Occ b x) → f a = f b → a = b) → varsL (mapL f xs) (l.map f) = (varsL xs l).map f
  | [], l, h => rfl
  | x :: xs, l, h => by
    rw [mapL, varsL, varsL, vars_map f x l fun a b ha hb => h a b (ha.imp id fun h => ⟨x, List.mem_cons_self .., h⟩) (hb.imp id fun h => ⟨x, List.mem_cons_self .., h⟩)]
    refine vars_mapL f xs (varsF x l) fun a b ha hb => ?_
    have cv : ∀ a, (a ∈ varsF x l ∨ ∃ y ∈ xs, Occ a y) → (a ∈ l ∨ ∃ y ∈ x :: xs, Occ a y) := by
      rintro a (h | ⟨y, hy, h⟩)
      · rcases (mem_vars x l a).1 h with h | h
        · exact .inl h
        · exact .inr ⟨x, List.mem_cons_self .., h⟩
      · exact .inr ⟨y, List.mem_cons_of_mem _ hy, h⟩
    exact h a b (cv a ha) (cv b hb)
end
end Go.Proofs.Ytneonbdlgmaofaa.Vm
namespace Go.Proofs.Ytneonbdlgmaofaa.Vm
open Go
set_option linter.unusedSimpArgs false

def rowV (g : Nat → Int) (n : Nat) : List Ty := (List.range n).map fun i => vr (g i)
theorem rowV_get {g : Nat → Int} {n i : Nat} (h : i < n) : (rowV g n)[i]? = some (vr (g i)) := by
  simp [rowV, h]
theorem rowV_len {g : Nat → Int} {n : Nat} : (rowV g n).length = n := by simp [rowV]
theorem rowV_push {g : Nat → Int} {i : Nat} : (rowV g i).map tyC ++ [tyC (vr (g i))] = (rowV g (i + 1)).map tyC := by
  simp [rowV, List.range_succ]
theorem atV_ix : ∀ {l : List Int} {ws : List Ty} {v : Int}, v ∈ l → atV l ws v = ws[ix l v]?
  | a :: l, ws, v, h => by
    unfold atV ix
    split
    · cases ws <;> rfl
    · rename_i e
      have hm : v ∈ l := by
        rcases List.mem_cons.1 h with rfl | h
        · exact absurd rfl e
        · exact h
      rw [atV_ix hm]
      cases ws <;> simp
theorem sub_map {l : List Int} {g : Nat → Int} (t : Ty) : Rt t → (∀ v, Occ v t → v ∈ l) → subF l (rowV g l.length) t = mapT (fun v => g (ix l v)) t := by
  induction t using Ty.ind with
  | h k n s xs ih =>
    intro hr hm
    cases hr with
    | var h0 h1 =>
      have hn := hm n (.var rfl)
      rw [subF, mapT, if_pos rfl, if_pos rfl, atV_ix hn, rowV_get (ix_lt hn)]
      rfl
    | con hs h =>
      rw [subF, mapT, if_neg (by omega), if_neg (by omega), subL_eq, mapL_eq]
      congr 1
      exact List.map_congr_left fun a ha => ih a ha (h a ha) fun v hv => hm v (.arg (by omega) ha hv)
    | fn hl h =>
      rw [subF, mapT, if_neg (by omega), if_neg (by omega), subL_eq, mapL_eq]
      congr 1
      exact List.map_congr_left fun a ha => ih a ha (h a ha) fun v hv => hm v (.arg (by omega) ha hv)
def renF (t : Ty) : Ty := subF (varsF t []) (rowV (fun i => (i : Int)) (varsF t []).length) t
theorem occ_vars {t : Ty} {v : Int} : Occ v t → v ∈ varsF t [] := fun h => (mem_vars t [] v).2 (.inr h)
theorem vars_occ {t : Ty} {v : Int} (h : v ∈ varsF t []) : Occ v t := ((mem_vars t [] v).1 h).resolve_left (by simp)
theorem ren_map {t : Ty} (hr : Rt t) : renF t = mapT (fun v => (ix (varsF t []) v : Int)) t := sub_map t hr fun _ => occ_vars
theorem ren_same {t : Ty} (hr : Rt t) {f : Int → Int} (hf : ∀ v, Occ v t → 0 ≤ f v ∧ f v ≤ 1073741824) (hi : ∀ a b, Occ a t → Occ b t → f a = f b → a = b) : renF (mapT f t) = renF t := by
  have hv : varsF (mapT f t) [] = (varsF t []).map f := vars_map f t [] fun a b ha hb => hi a b (ha.resolve_left (by simp)) (hb.resolve_left (by simp))
  rw [ren_map (mapT_rt f t hr hf), mapT_comp, ren_map hr, hv]
  refine mapT_congr t fun v hv => ?_
  rw [ix_map (occ_vars hv) fun a ha b hb => hi a b (vars_occ ha) (vars_occ hb)]
theorem vars_small {t : Ty} {m : Nat} (h : tySize t ≤ m) : (varsF t []).length ≤ m := by
  have := varsF_len t []
  simp at this; omega
theorem ren_facts {t : Ty} (hr : Rt t) (hb : Bd t) (hs : tySize t ≤ 300) : Rt (renF t) ∧ Bd (renF t) ∧ tySize (renF t) ≤ 300 ∧ renF (renF t) = renF t := by
  have hl := vars_small hs
  have e := ren_map hr
  have hf : ∀ v, Occ v t → (0 : Int) ≤ (ix (varsF t []) v : Int) ∧ (ix (varsF t []) v : Int) ≤ 1073741824 := fun v hv => by
    have := ix_lt (occ_vars hv); omega
  refine ⟨by rw [e]; exact mapT_rt _ t hr hf, by rw [e]; exact mapT_bd _ t hb, by rw [e, mapT_size]; exact hs, ?_⟩
  conv => lhs; rw [e]
  exact ren_same hr hf fun a b ha hb h => ix_inj (occ_vars ha) (occ_vars hb) (by omega)
theorem sub_facts {t : Ty} (hr : Rt t) (hb : Bd t) (hs : tySize t ≤ 300) {by' : Int} (h0 : 0 ≤ by') (h1 : by' ≤ 1000) {u : Ty}
    (hu : u = subF (varsF t []) (rowV (fun i => by' + (varsF t []).length - i) (varsF t []).length) t) : Rt u ∧ Bd u ∧ tySize u ≤ 300 ∧ renF u = renF t := by
  have hl := vars_small hs
  have e := sub_map (l := varsF t []) (g := fun i => by' + (varsF t []).length - i) t hr fun v => occ_vars
  rw [← hu] at e
  have hf : ∀ v, Occ v t → (0 : Int) ≤ by' + (varsF t []).length - (ix (varsF t []) v : Int) ∧ by' + (varsF t []).length - (ix (varsF t []) v : Int) ≤ 1073741824 := fun v hv => by
    have := ix_lt (occ_vars hv); omega
  refine ⟨by rw [e]; exact mapT_rt _ t hr hf, by rw [e]; exact mapT_bd _ t hb, by rw [e, mapT_size]; exact hs, ?_⟩
  rw [e]
  exact ren_same hr hf fun a b ha hb h => ix_inj (occ_vars ha) (occ_vars hb) (by omega)
theorem bd_vr (n : Int) : Bd (vr n) := .mk (by simp) fun a h => by cases h
theorem bd_row {g : Nat → Int} {n : Nat} : ∀ w ∈ rowV g n, Bd w := by
  intro w hw
  obtain ⟨i, _, rfl⟩ := List.mem_map.1 hw
  exact bd_vr _

theorem rename_T (t : Ty) (hb : Bd t) (hr : Rt t) (hs : tySize t ≤ 1000000) (o : Bool) : ∃ o', T Try.prog 24 [tyV o t] [] (tyV o' (renF t)) [] := by
  have key : ∀ R : V → Prop, (∀ o', R (tyV o' (renF t))) → ∃ r, T Try.prog 24 [tyV o t] [] r [] ∧ R r := by
    intro R hR
    have hl := vars_small hs
    have h1 := Vars_T t hb hr (by omega) false
    have h2 := fun o1 o2 => Subst_T (varsF t []) (rowV (fun i => (i : Int)) (varsF t []).length) (by omega) bd_row t hb hr o o1 o2
    obtain ⟨k, n, s, xs⟩ := t
    refine T.of0x mix c_unify_Rename rfl ?_
    unfold v_unify_Rename
    generalize hX : renF (Ty.mk k n s xs) = X at hR
    unfold renF at hX
    generalize varsF (Ty.mk k n s xs) [] = l at h1 h2 hX hl
    simp only [tyV, tyO, Ty.k, Ty.n, Ty.s, Ty.as, go_sem, ↓reduceIte] at h1 ⊢
    refine ⟨_, _, h1.frame rfl _, ?_⟩
    simp only [intsV, go_sem, ↓reduceIte]
    refine WP.loop' (fun m E H' => ∃ (i : Nat) (ex : List (Nat × V)), i + m = l.length ∧
      H' = [Obj.cells 0 [.int .i64 k, .int .i64 n, .str s, .sl o 4 (xs.map tyC)], Obj.cells 0 [.int .i64 0, .int .i64 0, .str [], .sl true 4 []]] ∧
      E = ⟨(1, .ptr 0 0 0) :: (2, .ptr 1 0 0) :: (3, intsV true l) :: (4, tysV true (rowV (fun i => (i : Int)) i)) :: (9, .int .i64 l.length) :: (10, .int .i64 i) :: ex, .u⟩) (n := l.length) ⟨0, _, by omega, rfl, rfl⟩ ?_
    rintro m E H' ⟨i, ex, hi, rfl, rfl⟩
    have hw := inc64 (i := i) (by omega)
    have hfit : fits (i + 1) 56 := ⟨by omega, by omega⟩
    simp only [intsV, tysV, go_sem, ↓reduceIte, ↓ex_map, ↓run_addW, hw, Int.toNat_natCast]
    refine ⟨fun hlt => ?_, fun hge => ?_⟩
    · obtain ⟨o', hT⟩ := var_T (i : Int)
      refine ⟨_, _, hT.frame rfl _, ?_⟩
      simp only [go_sem, ↓reduceIte, ↓run_addW, hw, rowV_len, hfit, rowV_push (g := fun i => (i : Int))]
      exact ⟨m - 1, by omega, i + 1, _, by omega, rfl⟩
    · have : i = l.length := by omega
      subst this
      obtain ⟨o', hT⟩ := h2 true true
      rw [hX] at hT
      refine ⟨_, _, hT.frame rfl _, ?_⟩
      simp only [go_sem, ↓reduceIte]
      exact hR _
  obtain ⟨r, hT, o', rfl⟩ := key (fun r => ∃ o', r = tyV o' (renF t)) fun o' => ⟨o', rfl⟩
  exact ⟨o', hT⟩
end Go.Proofs.Ytneonbdlgmaofaa.Vm
namespace Go.Proofs.Ytneonbdlgmaofaa.Vm
open Go
set_option linter.unusedSimpArgs false

section
variable {P : Program} {K : KK} {s : List Fr} {E : En} {H : Heap} {tk : List Nat} {dst : Option Nat} {os : List VOp} {keep : List Nat}
@[go_sem] theorem run_build0 {z : Nat} : runAct P (.buildSl z) [] tk dst os keep s E H K = runOps P os keep s ((stripEn tk E).setO dst (.sl true z [])) H K := by
  show (∃ r H', sBuildSl z [] H = some (r, H') ∧ _) = _
  apply propext
  constructor
  · rintro ⟨r, H', h, k⟩; cases h; exact k
  · intro k; exact ⟨_, _, rfl, k⟩
@[go_sem] theorem run_boxTy {o : Bool} {t : Ty} : runAct P .box [tyV o t] tk dst os keep s E H K = nextV P (.ptr H.length 0 0) tk dst os keep s E (H ++ [.cells 0 (tyO o t)]) K := by
  show runAct P .box [.agg (tyO o t)] tk dst os keep s E H K = _
  rw [run_box, thawL_all (tyO_plain o t)]
end
attribute [go_sem] tyC_agg
@[go_sem] theorem tyO_get0 {o : Bool} {t : Ty} : (tyO o t)[0]? = some (.int .i64 t.k) := rfl
@[go_sem] theorem tyO_get1 {o : Bool} {t : Ty} : (tyO o t)[1]? = some (.int .i64 t.n) := rfl
@[go_sem] theorem tyO_get2 {o : Bool} {t : Ty} : (tyO o t)[2]? = some (.str t.s) := rfl
@[go_sem] theorem tyO_get3 {o : Bool} {t : Ty} : (tyO o t)[3]? = some (.sl o 4 (t.as.map tyC)) := rfl
theorem szF_le {t : Ty} {m : Nat} (h : szF t m ≤ m) : tySize t ≤ m := by
  unfold szF at h; split at h <;> omega
theorem renames_T (t : Ty) (hb : Bd t) (by' : Int) (o : Bool) : T Try.prog 8 [tyV o t, .int .i64 by'] [] (.bool true) [] := by
  have hk := known_T
  have h1 := refRight_T t hb false
  have h2 := refSize_T t hb false 300 (by omega)
  refine T.of0 mix c_l10_UnifyRenames rfl ?_
  unfold v_l10_UnifyRenames
  simp only [go_sem, ↓reduceIte]
  refine ⟨_, _, h1.frame rfl _, ?_⟩
  simp only [go_sem, ↓reduceIte]
  have hkn : ∀ H, ∃ r H', T Try.prog 10 [] H r H' ∧ strip r = .bool true := fun H => ⟨_, _, known_H H, rfl⟩
  refine ⟨fun hR => ?_, fun _ => ⟨_, _, known_H _, by simp only [go_sem, ↓reduceIte]⟩⟩
  have hr : Rt t := (right_iff t).1 (by simpa using hR)
  refine ⟨_, _, h2.frame rfl _, ?_⟩
  simp only [go_sem, ↓reduceIte]
  refine ⟨fun hS => ⟨fun hlo => ⟨fun hhi => ⟨_, _, known_H _, by simp only [go_sem, ↓reduceIte]⟩, fun hhi => ?_⟩, fun _ => ⟨_, _, known_H _, by simp only [go_sem, ↓reduceIte]⟩⟩, fun _ => ⟨_, _, known_H _, by simp only [go_sem, ↓reduceIte]⟩⟩
  have hs : tySize t ≤ 300 := szF_le (by omega)
  obtain ⟨o1, hv⟩ := refVars_T t hb [] (by simp; omega) false true
  have hl := vars_small hs
  refine ⟨_, _, hv.frame rfl _, ?_⟩
  obtain ⟨f1, f2, f3, f4⟩ := ren_facts hr hb hs
  obtain ⟨g1, g2, g3, g4⟩ := sub_facts hr hb hs (by' := by') (by omega) (by omega) rfl
  have hsub := fun (o o1 o2 : Bool) => refSubst_T (varsF t []) (rowV (fun i => by' + (varsF t []).length - i) (varsF t []).length) (by omega) t hb o o1 o2
  generalize hU : subF (varsF t []) (rowV (fun i => by' + (varsF t []).length - i) (varsF t []).length) t = U at g1 g2 g3 g4 hsub
  generalize hX : renF t = X at f1 f2 f3 f4 g4
  have hren := fun o => rename_T t hb hr (by omega) o
  rw [hX] at hren
  have hren2 := fun o => rename_T X f2 f1 (by omega) o
  rw [f4] at hren2
  have hren3 := fun o => rename_T U g2 g1 (by omega) o
  rw [g4] at hren3
  generalize varsF t [] = l at hl hv hU hsub
  refine WP.loop' (fun m E H' => ∃ (i : Nat) (ex : List (Nat × V)), i + m = l.length ∧ H' = [Obj.cells 0 (tyO o t)] ∧
    E = ⟨(1, .int .i64 by') :: (2, .ptr 0 0 0) :: (5, intsV o1 l) :: (6, tysV true (rowV (fun i => by' + l.length - i) i)) :: (7, .int .i64 i) :: ex, .u⟩) (n := l.length) ⟨0, _, by omega, rfl, rfl⟩ ?_
  rintro m E H' ⟨i, ex, hi, rfl, rfl⟩
  have hw := inc64 (i := i) (by omega)
  have hfit : fits (i + 1) 56 := ⟨by omega, by omega⟩
  simp only [intsV, tysV, go_sem, ↓reduceIte, ↓ex_map, ↓run_addW, ↓run_subW, hw, Int.toNat_natCast]
  refine ⟨fun hlt => ?_, fun hge => ?_⟩
  · rw [wrapn (n := by' + l.length) (by omega) (by omega), wrapn (n := by' + l.length - i) (by omega) (by omega)]
    obtain ⟨o', hT⟩ := refVar_T (by' + l.length - i)
    refine ⟨_, _, hT.frame rfl _, ?_⟩
    simp only [go_sem, ↓reduceIte, ↓run_addW, hw, rowV_len, hfit, rowV_push (g := fun i => by' + l.length - i)]
    exact ⟨m - 1, by omega, i + 1, _, by omega, rfl⟩
  · have : i = l.length := by omega
    subst this
    obtain ⟨o2, hT⟩ := hren false
    refine ⟨_, _, hT.frame rfl _, ?_⟩
    simp only [go_sem, ↓reduceIte]
    obtain ⟨o3, hT3⟩ := hsub o o1 true
    obtain ⟨o4, hT4⟩ := hren3 o3
    obtain ⟨o5, hT5⟩ := hren2 o2
    have hE := fun o o' => refSame_T X f2 X f2 o o'
    rw [(tyEq_iff X X).2 rfl] at hE
    refine ⟨_, hT3, rfl, _, hT4, rfl, _, hE false o4, rfl, ?_⟩
    simp only [go_sem, ↓reduceIte]
    refine ⟨_, hT5, rfl, _, hE false o5, rfl, ?_⟩
    simp only [go_sem, ↓reduceIte]
    refine ⟨_, hk, rfl, ?_⟩
    simp only [go_sem, ↓reduceIte]
theorem renames_Tc (t : Ty) (hb : Bd t) (by' : Int) : T Try.prog 8 [.agg (tyC t), .int .i64 by'] [] (.bool true) [] := by rw [tyC_agg]; exact renames_T t hb by' false
end Go.Proofs.Ytneonbdlgmaofaa.Vm
namespace Go.Proofs.Ytneonbdlgmaofaa.Vm
open Go
set_option linter.unusedSimpArgs false

/-! ### Maps -/
theorem findV_spec {κ β : Type} [DecidableEq κ] {ka : Bool} {ks : List K3} {key : κ → V} (hk : ∀ a b, eqV ks ka (key a) (key b) = some (decide (a = b))) (val : β → V) (k : κ) :
    ∀ (L : List (κ × β)) (i : Nat), findV ka ks (key k) (L.map fun p => (key p.1, val p.2)) i = some ((L.findIdx? (fun p => p.1 = k)).map (i + ·))
  | [], i => by simp [findV, hk]
  | p :: L, i => by
    rw [List.map_cons, findV, hk, Option.bind_some, List.findIdx?_cons]
    by_cases h : p.1 = k
    · subst h; simp
    · rw [if_neg (by simpa using fun e => h e.symm), if_neg (by simpa using h), findV_spec hk val k L (i + 1)]
      congr 1
      rw [Option.map_map]
      congr 1
      funext j
      simp; omega
def esS (σ : Sub) : List (V × V) := σ.map fun p => (.int .i64 p.1, tyV false p.2)
theorem key_int (a b : Int) : eqV [.i] false (.int .i64 a) (.int .i64 b) = some (decide (a = b)) := by
  simp [eqV, eqCells, eqScal]
  rfl
theorem key_pair (a b : Int × Int) : eqV [.i, .i] true (.agg [.int .i64 a.1, .int .i64 a.2]) (.agg [.int .i64 b.1, .int .i64 b.2]) = some (decide (a = b)) := by
  obtain ⟨a1, a2⟩ := a
  obtain ⟨b1, b2⟩ := b
  by_cases h1 : a1 = b1 <;> by_cases h2 : a2 = b2 <;> simp [eqV, eqCells, eqScal, h1, h2]
theorem look_idx : ∀ (σ : Sub) (n : Int), (σ.findIdx? (fun p => p.1 = n)).bind (fun j => σ[j]?.map (·.2)) = look σ n ∧ ∀ j, σ.findIdx? (fun p => p.1 = n) = some j → ∃ t, σ[j]? = some (n, t)
  | [], n => ⟨rfl, fun j h => by cases h⟩
  | p :: σ, n => by
    obtain ⟨h1, h2⟩ := look_idx σ n
    rw [List.findIdx?_cons, look]
    by_cases h : p.1 = n
    · subst h
      exact ⟨by simp, fun j hj => by simp at hj; subst hj; exact ⟨p.2, rfl⟩⟩
    · rw [if_neg (by simpa using h), if_neg h]
      refine ⟨?_, fun j hj => ?_⟩
      · rw [← h1]; cases σ.findIdx? (fun p => decide (p.1 = n)) <;> simp
      · obtain ⟨i, hi, rfl⟩ := Option.map_eq_some_iff.1 hj
        exact h2 i hi
def zeroTy : Ty := .mk 0 0 [] []
section
variable {P : Program} {K : KK} {s : List Fr} {E : En} {H : Heap} {tk : List Nat} {dst : Option Nat} {os : List VOp} {keep : List Nat} {q : Nat} {σ : Sub} {n : Int}
theorem lookup_some (h : H[q]? = some (.map (esS σ))) {t : Ty} (hl : look σ n = some t) {zs : List V} {agg : Bool} :
    runAct P (.lookup false [.i] true zs agg) [.map q, .int .i64 n] tk dst os keep s E H K = nextV P (.tup [tyV false t, .bool true]) tk dst os keep s E H K := by
  have e : sLookup false [.i] true zs agg [.map q, .int .i64 n] H = some (.tup [tyV false t, .bool true], H) := by
    obtain ⟨h1, h2⟩ := look_idx σ n
    unfold sLookup mapOf
    simp only [h, Option.bind_some]
    rw [show findV false [.i] (.int .i64 n) (esS σ) 0 = _ from findV_spec (key := fun n => V.int .i64 n) key_int (tyV false) n σ 0]
    cases hf : σ.findIdx? (fun p => decide (p.1 = n)) with
    | none => rw [hf] at h1; simp at h1; rw [← h1] at hl; cases hl
    | some j =>
      obtain ⟨t', ht'⟩ := h2 j hf
      rw [hf, Option.bind_some, ht'] at h1
      rw [hl] at h1
      cases h1
      simp [esS, ht']
  show (∃ r H', sLookup false [.i] true zs agg [.map q, .int .i64 n] H = some (r, H') ∧ _) = _
  rw [e]
  apply propext
  constructor
  · rintro ⟨r, H', h, k⟩; cases h; exact k
  · intro k; exact ⟨_, _, rfl, k⟩
theorem lookup_none (h : H[q]? = some (.map (esS σ))) (hl : look σ n = none) :
    runAct P (.lookup false [.i] true [.int .i64 0, .int .i64 0, .str [], .sl false 4 []] true) [.map q, .int .i64 n] tk dst os keep s E H K = nextV P (.tup [tyV false zeroTy, .bool false]) tk dst os keep s E H K := by
  have e : sLookup false [.i] true [.int .i64 0, .int .i64 0, .str [], .sl false 4 []] true [.map q, .int .i64 n] H = some (.tup [tyV false zeroTy, .bool false], H) := by
    obtain ⟨h1, h2⟩ := look_idx σ n
    unfold sLookup mapOf
    simp only [h, Option.bind_some]
    rw [show findV false [.i] (.int .i64 n) (esS σ) 0 = _ from findV_spec (key := fun n => V.int .i64 n) key_int (tyV false) n σ 0]
    cases hf : σ.findIdx? (fun p => decide (p.1 = n)) with
    | none => rfl
    | some j =>
      obtain ⟨t', ht'⟩ := h2 j hf
      rw [hf, Option.bind_some, ht'] at h1
      rw [hl] at h1
      cases h1
  show (∃ r H', sLookup false [.i] true [.int .i64 0, .int .i64 0, .str [], .sl false 4 []] true [.map q, .int .i64 n] H = some (r, H') ∧ _) = _
  rw [e]
  apply propext
  constructor
  · rintro ⟨r, H', h, k⟩; cases h; exact k
  · intro k; exact ⟨_, _, rfl, k⟩
theorem update_new (h : H[q]? = some (.map (esS σ))) (hl : look σ n = none) {t : Ty} :
    runAct P (.mapUpdate false [.i]) [.map q, .int .i64 n, tyV false t] tk dst os keep s E H K = nextV P (.tup []) tk dst os keep s E (H.set q (.map (esS (σ ++ [(n, t)])))) K := by
  have e : sMapUpdate false [.i] [.map q, .int .i64 n, tyV false t] H = some (.tup [], H.set q (.map (esS (σ ++ [(n, t)])))) := by
    obtain ⟨h1, h2⟩ := look_idx σ n
    unfold sMapUpdate mapOf
    simp only [h, Option.bind_some]
    rw [show findV false [.i] (.int .i64 n) (esS σ) 0 = _ from findV_spec (key := fun n => V.int .i64 n) key_int (tyV false) n σ 0]
    cases hf : σ.findIdx? (fun p => decide (p.1 = n)) with
    | none => simp [esS]
    | some j =>
      obtain ⟨t', ht'⟩ := h2 j hf
      rw [hf, Option.bind_some, ht'] at h1
      rw [hl] at h1
      cases h1
  show (∃ r H', sMapUpdate false [.i] [.map q, .int .i64 n, tyV false t] H = some (r, H') ∧ _) = _
  rw [e]
  apply propext
  constructor
  · rintro ⟨r, H', h, k⟩; cases h; exact k
  · intro k; exact ⟨_, _, rfl, k⟩
end
end Go.Proofs.Ytneonbdlgmaofaa.Vm
namespace Go.Proofs.Ytneonbdlgmaofaa.Vm
open Go
set_option linter.unusedSimpArgs false

/-- What stands in a heap is as it was, or names only what was there. -/
def SameK (H H' : Heap) : Prop := ∀ (i : Nat) (ob : Obj), H'[i]? = some ob → H[i]? = some ob ∨ idsO H.length ob = true
theorem SameK.refl (H : Heap) : SameK H H := fun _ _ h => .inl h
theorem SameK.set {A B : Heap} (h : SameK A B) {i : Nat} {o : Obj} (ho : idsO A.length o = true) : SameK A (B.set i o) := by
  intro j ob hj
  rw [List.getElem?_set] at hj
  split at hj
  · split at hj
    · cases hj; exact .inr ho
    · cases hj
  · exact h j ob hj
theorem SameK.trans {A B C : Heap} (h : SameK A B) (hl : B.length = A.length) (k : SameK B C) : SameK A C := by
  intro i ob hi
  rcases k i ob hi with h1 | h1
  · exact h i ob h1
  · rw [hl] at h1; exact .inr h1
@[go_sem] theorem strip_map {i : Nat} : strip (.map i) = .map i := rfl
@[go_sem] theorem strip0_map {i : Nat} : strip0 (.map i) = .map i := rfl
@[go_sem] theorem strip_nilmap : strip .nilmap = .nilmap := rfl
@[go_sem] theorem strip0_nilmap : strip0 .nilmap = .nilmap := rfl
@[go_sem] theorem stripA_ty {o : Bool} {t : Ty} : stripA (tyV o t) = tyV false t := rfl
@[go_sem] theorem drop4_ty {o : Bool} {t : Ty} : List.drop 4 (tyO o t) = [] := rfl
@[go_sem] theorem drop4_tyC {t : Ty} : List.drop 4 (tyC t) = [] := by rw [tyC_eq]; rfl
/-- How a function ends that leaves a heap as long as it was behind. -/
def outH (H0 : Heap) (Q : Heap → Prop) (H : Heap) : Prop := ∃ H1 l, H = H1 ++ l ∧ H1.length = H0.length ∧ SameK H0 H1 ∧ Q H1
def finH (H0 : Heap) (v : V) (R : V → Heap → Prop) (H : Heap) : Prop := ∃ r, fixV H0.length H 8 v = some r ∧ outH H0 (R r) H
def endH (H0 : Heap) (rs : List VRes) (R : V → Heap → Prop) : KK := fun x E H => (match x with | .exit _ => False | _ => True) ∧ ∃ r0, resV H0.length H E.f rs = some r0 ∧ finH H0 r0 R H
theorem T.of_H {P : Program} (hmix : P.follows .mixedOrders = true) {f : Nat} {vf : VFunc} (hc : chkFn P f vf = true) {args : List V} {H : Heap} {R : V → Heap → Prop} (hl : Nat.ble args.length vf.n = true)
    (h : run P vf.body [] ⟨args.zipIdx.map fun p => (p.2, p.1), .tup []⟩ H (endH H vf.results R)) : ∃ r H', T P f args H r H' ∧ R r H' := by
  obtain ⟨x, E1, H1, h1, h2, r0, h3, r, h4, H2, l, rfl, h5, h6, h7⟩ := wp_sound h
  rw [env0_eq] at h1
  have ht : (H2 ++ l).take H.length = H2 := by rw [← h5]; simp
  refine ⟨r, H2, ?_, h7⟩
  have := T_of (m := H.length) hmix hc (Nat.le_of_ble_eq_true hl) h1 (by intro id e; subst e; exact h2) (Nat.le_refl _) (by simp; omega) h3 h4 (fun i ob hi hob => by
    rw [List.getElem?_append_left (by omega)] at hob
    exact h6 i ob hob)
  rw [ht] at this
  exact this
/-- The cell that a function answers. -/
def cellX (H0 : Heap) (v : V) (n : Nat) (R : V → Heap → Prop) (H : Heap) : Prop := match v with
  | .ptr id ver off => H0.length ≤ id ∧ ∃ cs, getCells H id ver = some cs ∧ off + n ≤ cs.length ∧ finH H0 (.agg ((cs.drop off).take n)) R H
  | _ => False
section
variable {R : V → Heap → Prop} {l : List (Nat × V)} {d : V} {H H0 : Heap} {t u n : Nat} {Q : Heap → Prop}
@[go_sem] theorem cellX_ptr {id ver off : Nat} : cellX H0 (.ptr id ver off) n R H = (H0.length ≤ id ∧ exO (getCells H id ver) fun cs => off + n ≤ cs.length ∧ finH H0 (.agg ((cs.drop off).take n)) R H) := (rfl)
theorem endH_cell0 {x : X} (hx : (match x with | .exit _ => False | _ => True)) (h : cellX H0 (getE l d t) n R H) : endH H0 [.cell t n true] R x ⟨l, d⟩ H := by
  have e : (En.f ⟨l, d⟩) t = getE l d t := rfl
  refine ⟨hx, ?_⟩
  unfold cellX at h
  unfold resV
  simp only [e]
  revert h
  generalize getE l d t = v
  intro h
  cases v <;> first | exact h.elim | skip
  rename_i id ver off
  obtain ⟨h1, cs, h2, h3, h4⟩ := h
  refine ⟨.agg ((cs.drop off).take n), ?_, h4⟩
  simp [h2, cut, h3, h1, mk]
@[go_sem] theorem endH_tmp : endH H0 [.tmp t] R .ret ⟨l, d⟩ H = finH H0 (getE l d t) R H := by simp [endH, finH, resV, resL, res1, pack, En.f]
@[go_sem] theorem endH_tmpN : endH H0 [.tmp t] R .normal ⟨l, d⟩ H = finH H0 (getE l d t) R H := by simp [endH, finH, resV, resL, res1, pack, En.f]
@[go_sem] theorem endH_nil : endH H0 [] R .ret ⟨l, d⟩ H = outH H0 (R (.tup [])) H := by simp [endH, finH, resV, resL, pack, fixV]
@[go_sem] theorem endH_nilN : endH H0 [] R .normal ⟨l, d⟩ H = outH H0 (R (.tup [])) H := by simp [endH, finH, resV, resL, pack, fixV]
@[go_sem] theorem finH_int {k : IntKind} {n : Int} : finH H0 (.int k n) R H = outH H0 (R (.int k n)) H := by simp [finH, fixV]
@[go_sem] theorem finH_bool {b : Bool} : finH H0 (.bool b) R H = outH H0 (R (.bool b)) H := by simp [finH, fixV]
@[go_sem] theorem finH_sl {o : Bool} {z : Nat} {xs : List (List V)} : finH H0 (.sl o z xs) R H = outH H0 (R (.sl o z xs)) H := by simp [finH, fixV]
theorem fix_ty (m : Nat) (H : Heap) (d : Nat) (o : Bool) (t : Ty) : fixV m H (d + 2) (tyV o t) = some (tyV o t) := by
  unfold tyV tyO
  simp [fixV]
@[go_sem] theorem finH_ty {o : Bool} {t : Ty} : finH H0 (tyV o t) R H = outH H0 (R (tyV o t)) H := by
  unfold finH
  rw [fix_ty _ _ 6]
  simp
theorem out_app {l : Heap} (h : Q H) : outH H Q (H ++ l) := ⟨H, l, rfl, rfl, SameK.refl H, h⟩
theorem out_self (h : Q H) : outH H Q H := ⟨H, [], by simp, rfl, SameK.refl H, h⟩
theorem out_set {l : Heap} {i : Nat} {o : Obj} (ho : idsO H.length o = true) (h : Q (H.set i o)) : outH H Q (H.set i o ++ l) := ⟨_, l, rfl, by simp, (SameK.refl H).set ho, h⟩
/-! ### What stands where -/
theorem gc_appN {l : Heap} {i v : Nat} : getCells (H ++ l) (H.length + i) v = getCells l i v := by
  unfold getCells
  rw [List.getElem?_append_right (by omega), Nat.add_sub_cancel_left]
theorem gc_app0 {l : Heap} {v : Nat} : getCells (H ++ l) H.length v = getCells l 0 v := gc_appN (i := 0)
theorem set_appN {l : Heap} {i : Nat} {o : Obj} : (H ++ l).set (H.length + i) o = H ++ l.set i o := by
  rw [List.set_append, if_neg (by omega), Nat.add_sub_cancel_left]
theorem set_app0 {l : Heap} {o : Obj} : (H ++ l).set H.length o = H ++ l.set 0 o := set_appN (i := 0)
theorem set_appL {l : Heap} {i : Nat} {o : Obj} (h : i < H.length) : (H ++ l).set i o = H.set i o ++ l := by
  rw [List.set_append, if_pos h]
end
/-- The store in memory. -/
structure St (H : Heap) (p q : Nat) (σ : Sub) (nx : Int) (tr dn : V) : Prop where
  cells : getCells H p 0 = some [.map q, .int .i64 nx, tr, dn]
  map : H[q]? = some (.map (esS σ))
  ids : idsL H.length [tr, dn] = true
theorem St.lp {H : Heap} {p q : Nat} {σ : Sub} {nx : Int} {tr dn : V} (h : St H p q σ nx tr dn) : p < H.length := gc_lt h.cells
theorem St.lq {H : Heap} {p q : Nat} {σ : Sub} {nx : Int} {tr dn : V} (h : St H p q σ nx tr dn) : q < H.length := (List.getElem?_eq_some_iff.1 h.map).1
theorem St.app {H : Heap} {p q : Nat} {σ : Sub} {nx : Int} {tr dn : V} (h : St H p q σ nx tr dn) (l : Heap) : getCells (H ++ l) p 0 = some [.map q, .int .i64 nx, tr, dn] ∧ (H ++ l)[q]? = some (.map (esS σ)) :=
  ⟨by rw [gc_app h.lp]; exact h.cells, by rw [List.getElem?_append_left h.lq]; exact h.map⟩

theorem St.appS {H : Heap} {p q : Nat} {σ : Sub} {nx : Int} {tr dn : V} (h : St H p q σ nx tr dn) (l : Heap) : St (H ++ l) p q σ nx tr dn :=
  ⟨(h.app l).1, (h.app l).2, idsL_mono (by simp) _ h.ids⟩
theorem St.setC {H : Heap} {p q : Nat} {σ : Sub} {nx : Int} {tr dn : V} (h : St H p q σ nx tr dn) (nx' : Int) {tr' dn' : V} (hi : idsL H.length [tr', dn'] = true) : St (H.set p (.cells 0 [.map q, .int .i64 nx', tr', dn'])) p q σ nx' tr' dn' := by
  refine ⟨gc_same h.lp, ?_, by rw [List.length_set]; exact hi⟩
  rw [List.getElem?_set_ne]
  · exact h.map
  · intro e
    have h1 := gc_some.1 h.cells
    rw [e, h.map] at h1
    cases h1
theorem St.idsC {H : Heap} {p q : Nat} {σ : Sub} {nx : Int} {tr dn : V} (h : St H p q σ nx tr dn) (nx' : Int) {tr' dn' : V} (hi : idsL H.length [tr', dn'] = true) : idsO H.length (.cells 0 [.map q, .int .i64 nx', tr', dn']) = true := by
  have := h.lq
  simp only [idsO, idsL, idsV, Bool.and_eq_true, decide_eq_true_eq] at hi ⊢
  exact ⟨this, trivial, hi.1, hi.2.1, trivial⟩

inductive HeadN (σ : Sub) : Nat → Ty → Ty → Prop
  | here {t} (h : t.k ≠ 1 ∨ look σ t.n = none) : HeadN σ 0 t t
  | go {n t u h} (hk : t.k = 1) (hl : look σ t.n = some u) (hh : HeadN σ n u h) : HeadN σ (n + 1) t h
theorem Head.n {σ : Sub} {t h : Ty} (hh : Head σ t h) : ∃ n, HeadN σ n t h := by
  induction hh with
  | here h => exact ⟨0, .here h⟩
  | go hk hl _ ih => obtain ⟨n, ih⟩ := ih; exact ⟨n + 1, .go hk hl ih⟩

theorem head_T {H : Heap} {p q : Nat} {σ : Sub} {nx : Int} {tr dn : V} (hs : St H p q σ nx tr dn) {t h : Ty} (hh : Head σ t h) (o : Bool) : ∃ o', T Try.prog 36 [.ptr p 0 0, tyV o t] H (tyV o' h) H := by
  have key : ∀ R : V → Heap → Prop, (∀ o', R (tyV o' h) H) → ∃ r H', T Try.prog 36 [.ptr p 0 0, tyV o t] H r H' ∧ R r H' := by
    intro R hR
    obtain ⟨n, hn⟩ := hh.n
    refine T.of_H mix c_unify_Store_head rfl ?_
    unfold v_unify_Store_head
    simp only [go_sem, ↓reduceIte, List.append_assoc, gc_appN, gc_app0, set_appN, set_app0]
    refine WP.loop' (fun m E H' => ∃ (o : Bool) (u : Ty) (rest : Heap) (ex : List (Nat × V)), HeadN σ m u h ∧ H' = H ++ (.cells 0 (tyO o u) :: .cells 0 [.int .i64 0, .int .i64 0, .str [], .sl true 4 []] :: rest) ∧
      E = ⟨(0, .ptr p 0 0) :: (3, .ptr H.length 0 0) :: (4, .ptr (H.length + 1) 0 0) :: ex, .u⟩) (n := n) ⟨o, t, [], _, hn, rfl, rfl⟩ ?_
    rintro m E H' ⟨o, u, rest, ex, hm, rfl, rfl⟩
    obtain ⟨a1, a2⟩ := hs.app (.cells 0 (tyO o u) :: .cells 0 [.int .i64 0, .int .i64 0, .str [], .sl true 4 []] :: rest)
    cases hm with
    | here hst =>
      by_cases hk : h.k = 1
      · have hk' : (h.k == 1) = true := by simpa using hk
        have hl := hst.resolve_left (fun h => h hk)
        simp only [go_sem, ↓reduceIte, List.append_assoc, gc_appN, gc_app0, set_appN, set_app0, hk', ↓a1, ↓lookup_none a2 hl, forall_const, true_and, Bool.true_eq_false, false_implies, and_true]
        refine endH_cell0 trivial ?_
        simp only [go_sem, ↓reduceIte, gc_appN, gc_app0]
        exact ⟨by omega, out_app (hR _)⟩
      · have hk' : (h.k == 1) = false := by simpa using hk
        simp only [go_sem, ↓reduceIte, List.append_assoc, gc_appN, gc_app0, set_appN, set_app0, hk', ↓a1, forall_const, true_and, Bool.false_eq_true, false_implies, and_true]
        refine endH_cell0 trivial ?_
        simp only [go_sem, ↓reduceIte, gc_appN, gc_app0]
        exact ⟨by omega, out_app (hR _)⟩
    | go hk hl hh =>
      have hk' : (u.k == 1) = true := by simpa using hk
      simp only [go_sem, ↓reduceIte, List.append_assoc, gc_appN, gc_app0, set_appN, set_app0, hk', ↓a1, ↓lookup_some a2 hl, forall_const, true_and, Bool.true_eq_false, false_implies, and_true]
      exact ⟨_, by omega, _, _, _, _, hh, rfl, rfl⟩
  obtain ⟨r, H', hT, o', rfl, rfl⟩ := key (fun r H' => ∃ o', r = tyV o' h ∧ H' = H) fun o' => ⟨o', rfl, rfl⟩
  exact ⟨o', hT⟩
end Go.Proofs.Ytneonbdlgmaofaa.Vm
namespace Go.Proofs.Ytneonbdlgmaofaa.Vm
open Go
set_option linter.unusedSimpArgs false

def Nx (n : Int) : Prop := 0 ≤ n ∧ n ≤ 1073741825
@[go_sem] theorem mk_k {k n : Int} {s : List UInt8} {xs : List Ty} : (Ty.mk k n s xs).k = k := rfl
@[go_sem] theorem mk_n {k n : Int} {s : List UInt8} {xs : List Ty} : (Ty.mk k n s xs).n = n := rfl
@[go_sem] theorem mk_s {k n : Int} {s : List UInt8} {xs : List Ty} : (Ty.mk k n s xs).s = s := rfl
@[go_sem] theorem mk_as {k n : Int} {s : List UInt8} {xs : List Ty} : (Ty.mk k n s xs).as = xs := rfl
section
variable {P : Program} {K : KK} {s : List Fr} {E : En} {H : Heap} {tk : List Nat} {dst : Option Nat} {os : List VOp} {keep : List Nat}
theorem run_max64 {a b : Int} : runAct P .max [.int .i64 a, .int .i64 b] tk dst os keep s E H K = nextV P (.int .i64 (max a b)) tk dst os keep s E H K := by
  have : (if b > a then b else a) = max a b := by split <;> omega
  show (IntKind.i64 = IntKind.i64 ∧ nextV P (.int .i64 (if b > a then b else a)) tk dst os keep s E H K) = _
  rw [this]; simp
theorem run_min64 {a b : Int} : runAct P .min [.int .i64 a, .int .i64 b] tk dst os keep s E H K = nextV P (.int .i64 (min a b)) tk dst os keep s E H K := by
  have : (if b < a then b else a) = min a b := by split <;> omega
  show (IntKind.i64 = IntKind.i64 ∧ nextV P (.int .i64 (if b < a then b else a)) tk dst os keep s E H K) = _
  rw [this]; simp
theorem gc_appSN {l : Heap} {p i v : Nat} {o : Obj} : getCells (H.set p o ++ l) (H.length + i) v = getCells l i v := by
  have := gc_appN (H := H.set p o) (l := l) (i := i) (v := v)
  rwa [List.length_set] at this
theorem gc_appS {l : Heap} {p v : Nat} {o : Obj} : getCells (H.set p o ++ l) H.length v = getCells l 0 v := gc_appSN (i := 0)
theorem set_appSN {l : Heap} {p i : Nat} {o o' : Obj} : (H.set p o ++ l).set (H.length + i) o' = H.set p o ++ l.set i o' := by
  have := set_appN (H := H.set p o) (l := l) (i := i) (o := o')
  rwa [List.length_set] at this
theorem set_appS {l : Heap} {p : Nat} {o o' : Obj} : (H.set p o ++ l).set H.length o' = H.set p o ++ l.set 0 o' := set_appSN (i := 0)
end
theorem set_setC {H : Heap} {p : Nat} {a b : Obj} {l : Heap} (h : p < H.length) : (H.set p a ++ l).set p b = H.set p b ++ l := by
  rw [set_appL (by simpa using h), List.set_set]
theorem sees_T (t : Ty) : Bd t → Rt t → ∀ (H : Heap) (p q : Nat) (σ : Sub) (nx : Int) (tr dn : V), St H p q σ nx tr dn → Nx nx → ∀ o : Bool,
    ∃ nx', Nx nx' ∧ T Try.prog 28 [.ptr p 0 0, tyV o t] H (.tup []) (H.set p (.cells 0 [.map q, .int .i64 nx', tr, dn])) := by
  induction t using Ty.ind with
  | h k n s xs ih =>
    intro hb hr H p q σ nx tr dn hs hx o
    have key : ∀ R : V → Heap → Prop, (∀ nx', Nx nx' → R (.tup []) (H.set p (.cells 0 [.map q, .int .i64 nx', tr, dn]))) → ∃ r H', T Try.prog 28 [.ptr p 0 0, tyV o (Ty.mk k n s xs)] H r H' ∧ R r H' := by
      intro R hR
      have hself : H.set p (.cells 0 [.map q, .int .i64 nx, tr, dn]) = H := by
        have h1 := gc_some.1 hs.cells
        obtain ⟨h2, h3⟩ := List.getElem?_eq_some_iff.1 h1
        rw [← h3]; simp
      have hex : ∀ (nx' : Int) (l : Heap), Nx nx' → outH H (R (.tup [])) (H.set p (.cells 0 [.map q, .int .i64 nx', tr, dn]) ++ l) := fun nx' l h => out_set (hs.idsC nx' hs.ids) (hR nx' h)
      refine T.of_H mix c_unify_Store_sees rfl ?_
      unfold v_unify_Store_sees
      obtain ⟨a1, a2⟩ := hs.app [.cells 0 (tyO o (Ty.mk k n s xs))]
      simp only [go_sem, ↓reduceIte, List.append_assoc, gc_appN, gc_app0, set_appN, set_app0]
      by_cases hk : k = 1
      · have hn : xs = [] ∧ 0 ≤ n ∧ n ≤ 1073741824 := by
          cases hr with
          | var h0 h1 => exact ⟨rfl, h0, h1⟩
          | con => cases hk
          | fn => cases hk
        obtain ⟨rfl, h0, h1⟩ := hn
        subst hk
        have hwn : IntKind.i64.wrap (n + 1) = n + 1 := wrapn (by omega) (by omega)
        refine ⟨fun _ => ?_, fun h => by simp at h⟩
        simp only [go_sem, ↓reduceIte, List.append_assoc, gc_appN, gc_app0, set_appN, set_app0, set_appL hs.lp, gc_appS, gc_appSN, set_appS, set_appSN, ↓a1, ↓run_addW, hwn, ↓run_max64]
        refine WP.loop' (fun m E H' => E = ⟨[(0, .ptr p 0 0), (21, .sl false 4 []), (22, .int .i64 ((0 : Nat) : Int)), (23, .int .i64 0)], .u⟩ ∧ H' = H.set p (.cells 0 [.map q, .int .i64 (max nx (n + 1)), tr, dn]) ++ [.cells 0 (tyO o (Ty.mk 1 n s []))]) (n := 0) ⟨rfl, rfl⟩ ?_
        rintro m E H' ⟨rfl, rfl⟩
        simp only [go_sem, ↓reduceIte]
        exact ⟨fun h => absurd h (by omega), fun _ => hex _ _ ⟨by have := hx.1; omega, by have := hx.2; omega⟩⟩
      · refine ⟨fun h => by simp at h; exact absurd h hk, fun _ => ?_⟩
        refine WP.loop' (fun m E H' => ∃ (i : Nat) (nx' : Int) (l : Heap) (ex : List (Nat × V)), i + m = xs.length ∧ Nx nx' ∧ H' = H.set p (.cells 0 [.map q, .int .i64 nx', tr, dn]) ++ l ∧
          E = ⟨(0, .ptr p 0 0) :: (21, .sl false 4 (xs.map tyC)) :: (22, .int .i64 xs.length) :: (23, .int .i64 i) :: ex, .u⟩) (n := xs.length) ⟨0, nx, _, _, by omega, hx, by rw [hself], rfl⟩ ?_
        rintro m E H' ⟨i, nx', l, ex, hi, hx', rfl, rfl⟩
        have hw := inc64 (i := i) (by have := hb.len; omega)
        simp only [go_sem, ↓reduceIte, ↓ex_map, ↓run_addW, hw, Int.toNat_natCast]
        refine ⟨fun hlt => ?_, fun hge => hex _ _ hx'⟩
        have hix : i < xs.length := by omega
        have hg := List.getElem?_eq_getElem hix
        obtain ⟨nx2, hx2, hT⟩ := ih _ (List.getElem_mem hix) (hb.arg _ (List.getElem_mem hix)) (hr.args _ (List.getElem_mem hix)) (H.set p (.cells 0 [.map q, .int .i64 nx', tr, dn]) ++ (l ++ [.cells 0 (tyC xs[i])])) p q σ nx' tr dn ((hs.setC nx' hs.ids).appS _) hx' false
        rw [set_setC hs.lp] at hT
        refine ⟨by omega, _, hg, ?_⟩
        simp only [go_sem, ↓reduceIte, List.append_assoc, gc_appN, set_appN]
        rw [tyC_eq] at hT
        refine ⟨_, _, hT, ?_⟩
        simp only [go_sem, ↓reduceIte, ↓run_addW, hw]
        exact ⟨_, rfl, m - 1, by omega, i + 1, nx2, _, _, by omega, hx2, rfl, rfl⟩
    obtain ⟨r, H', hT, nx', h1, rfl, rfl⟩ := key (fun r H' => ∃ nx', Nx nx' ∧ r = .tup [] ∧ H' = H.set p (.cells 0 [.map q, .int .i64 nx', tr, dn])) fun nx' h => ⟨nx', h, rfl, rfl⟩
    exact ⟨nx', h1, hT⟩
end Go.Proofs.Ytneonbdlgmaofaa.Vm
namespace Go.Proofs.Ytneonbdlgmaofaa.Vm
open Go
set_option linter.unusedSimpArgs false

mutual
/-- A type as it is known, if it is not too large; and the count. -/
def rsoF : Ty → Nat → Ty × Nat
  | .mk k n s xs, c => match rsoL [] xs (c + 1) with
    | (some ys, c') => (.mk k n s ys, c')
    | (none, c') => (zeroTy, c')
def rsoL : List Ty → List Ty → Nat → Option (List Ty) × Nat
  | acc, [], c => (some acc, c)
  | acc, a :: xs, c => if 256 < c then (none, c) else rsoL (acc ++ [(rsoF a c).1]) xs (rsoF a c).2
end
mutual
theorem rsoF_le : ∀ (t : Ty) (c : Nat), c ≤ 256 → (rsoF t c).2 ≤ 257
  | .mk k n s xs, c, h => by
    have := rsoL_le [] xs (c + 1) (by omega)
    rw [rsoF]
    split <;> (rename_i e; rw [e] at this; exact this)
theorem rsoL_le : ∀ (acc xs : List Ty) (c : Nat), c ≤ 257 → (rsoL acc xs c).2 ≤ 257
  | acc, [], c, h => by rw [rsoL]; exact h
  | acc, a :: xs, c, h => by
    rw [rsoL]
    split
    · exact h
    · exact rsoL_le _ xs _ (rsoF_le a c (by omega))
end
theorem Full.open {σ : Sub} {t f : Ty} (hs : ∀ p ∈ σ, Rt p.2) (ht : Rt t) (hf : Full σ t f) : ∃ h, Head σ t h ∧ Rt h ∧ h.k = f.k ∧ h.n = f.n ∧ h.s = f.s ∧ h.as.length = f.as.length ∧
    ∀ (i : Nat) a g, h.as[i]? = some a → f.as[i]? = some g → Full σ a g := by
  induction hf with
  | @var t hk hl =>
    refine ⟨t, .here (.inr hl), ht, rfl, rfl, rfl, rfl, ?_⟩
    have := ht.var1 hk
    intro i a g h1 _
    rw [this.1] at h1
    simp [vr, Ty.as] at h1
  | known hk hl _ ih =>
    obtain ⟨h, h1, h2⟩ := ih (hs _ (look_mem hl))
    exact ⟨h, .go hk hl h1, h2⟩
  | con hk hl h => exact ⟨_, .here (.inl hk), ht, rfl, rfl, rfl, hl, h⟩
theorem Head.bd {σ : Sub} (hs : ∀ p ∈ σ, Bd p.2) {t h : Ty} (hh : Head σ t h) (ht : Bd t) : Bd h := by
  induction hh with
  | here _ => exact ht
  | go _ hl _ ih => exact ih (hs _ (look_mem hl))
theorem Bd.as {t : Ty} (h : Bd t) : t.as.length * 56 ≤ 140737488355328 ∧ ∀ a ∈ t.as, Bd a := by cases h with | mk h1 h2 => exact ⟨h1, h2⟩
/-- What is known is right. -/
structure Good (σ : Sub) : Prop where
  rt : ∀ p ∈ σ, Rt p.2
  bd : ∀ p ∈ σ, Bd p.2

/-- All that stands in a heap names what is there. -/
def Cl (H : Heap) : Prop := H.all (idsO H.length) = true
theorem Cl.set {H : Heap} (h : Cl H) {i : Nat} {o : Obj} (ho : idsO H.length o = true) : Cl (H.set i o) := by
  unfold Cl at h ⊢
  rw [List.length_set, List.all_eq_true] at *
  intro x hx
  rcases List.mem_or_eq_of_mem_set hx with h' | rfl
  · exact h x h'
  · exact ho
theorem idsO_le {m m' : Nat} (h : m ≤ m') {ob : Obj} (ho : idsO m ob = true) : idsO m' ob = true := by
  cases ob with
  | dead => rfl
  | hole t => rfl
  | cells v cs => exact idsL_mono h _ ho
  | map es =>
    simp only [idsO, Bool.and_eq_true] at ho ⊢
    exact ⟨idsL_mono h _ ho.1, idsL_mono h _ ho.2⟩
theorem Cl.app {H l : Heap} (h : Cl H) (hl : l.all (idsO (H.length + l.length)) = true) : Cl (H ++ l) := by
  unfold Cl at h ⊢
  rw [List.all_append, List.length_append, Bool.and_eq_true]
  refine ⟨?_, hl⟩
  rw [List.all_eq_true] at *
  intro x hx
  exact idsO_le (by omega) (h x hx)
theorem Cl.same {H H' : Heap} (h : Cl H) (hl : H'.length = H.length) (hs : SameK H H') : Cl H' := by
  unfold Cl at h ⊢
  rw [List.all_eq_true] at *
  intro x hx
  obtain ⟨i, hi⟩ := List.mem_iff_getElem?.1 hx
  rw [hl]
  rcases hs i x hi with h1 | h1
  · exact h x (List.mem_of_getElem? h1)
  · exact h1
theorem finH_lit {R : V → Heap → Prop} {H H0 : Heap} {a b : Int} {s : List UInt8} {o : Bool} {xs : List Ty} : finH H0 (.agg [.int .i64 a, .int .i64 b, .str s, .sl o 4 (xs.map tyC)]) R H = outH H0 (R (tyV o (.mk a b s xs))) H := finH_ty (t := .mk a b s xs)
theorem finH_lit0 {R : V → Heap → Prop} {H H0 : Heap} {a b : Int} {s : List UInt8} {o : Bool} : finH H0 (.agg [.int .i64 a, .int .i64 b, .str s, .sl o 4 []]) R H = outH H0 (R (tyV o (.mk a b s []))) H := finH_ty (t := .mk a b s [])
def resC (p c : Nat) : Obj := .cells 0 [.ptr p 0 0, .int .i64 c]
theorem resolve_T {σ : Sub} (hg : Good σ) (f : Ty) : ∀ t : Ty, Full σ t f → Rt t → Bd t → ∀ (H : Heap) (p q r : Nat) (nx : Int) (tr dn : V) (c : Nat), St H p q σ nx tr dn → Cl H → r ≠ p → getCells H r 0 = some [.ptr p 0 0, .int .i64 c] → c ≤ 256 → ∀ o : Bool,
    ∃ o', T Try.prog 29 [.ptr r 0 0, tyV o t] H (tyV o' (rsoF f c).1) (H.set r (resC p (rsoF f c).2)) := by
  induction f using Ty.ind with
  | h k n s fs ih =>
    intro t hf ht hb H p q r nx tr dn c hs hcl hrp hr hc o
    have key : ∀ R : V → Heap → Prop, (∀ o', R (tyV o' (rsoF (Ty.mk k n s fs) c).1) (H.set r (resC p (rsoF (Ty.mk k n s fs) c).2))) → ∃ r1 H', T Try.prog 29 [.ptr r 0 0, tyV o t] H r1 H' ∧ R r1 H' := by
      intro R hR
      have hlr := gc_lt hr
      have hrq : r ≠ q := by
        rintro rfl
        have h1 := gc_some.1 hr
        rw [hs.map] at h1
        cases h1
      have hidc : ∀ c', idsO H.length (resC p c') = true := by
        intro c'
        have := hs.lp
        simp [resC, idsO, idsL, idsV, this]
      have hstC : ∀ c', St (H.set r (resC p c')) p q σ nx tr dn := fun c' => ⟨by rw [gc_ne hrp]; exact hs.cells, by rw [List.getElem?_set_ne hrq]; exact hs.map, by rw [List.length_set]; exact hs.ids⟩
      have hrC : ∀ c', getCells (H.set r (resC p c')) r 0 = some [.ptr p 0 0, .int .i64 (c' : Nat)] := fun c' => gc_same hlr
      have hself : H.set r (resC p c) = H := by
        have h1 := gc_some.1 hr
        obtain ⟨h2, h3⟩ := List.getElem?_eq_some_iff.1 h1
        unfold resC
        rw [← h3]; simp
      obtain ⟨h, hh, hrt, hk, hn, hs', hlen, hargs⟩ := hf.open hg.rt ht
      have hbh := hh.bd hg.bd hb
      obtain ⟨hb1, hb2⟩ := hbh.as
      have hex : ∀ (o' : Bool) (x : Ty) (c' : Nat) (l : Heap), (rsoF (Ty.mk k n s fs) c) = (x, c') → outH H (R (tyV o' x)) (H.set r (resC p c') ++ l) := fun o' x c' l h => by
        have := hR o'
        rw [h] at this
        exact out_set (hidc c') this
      generalize hX : rsoF (Ty.mk k n s fs) c = X at hex
      rw [rsoF] at hX
      refine T.of_H mix c_unify_resolver_resolve rfl ?_
      unfold v_unify_resolver_resolve
      have b1 : ∀ l, getCells (H ++ l) r 0 = some [.ptr p 0 0, .int .i64 c] := fun l => by rw [gc_app hlr]; exact hr
      simp only [go_sem, ↓reduceIte, List.append_assoc, gc_appN, gc_app0, set_appN, set_app0, ↓b1]
      obtain ⟨o1, hT⟩ := head_T (hs.appS [Obj.cells 0 (tyO false t), Obj.cells 0 [V.int .i64 0, V.int .i64 0, V.str [], V.sl true 4 []]]) hh o
      refine ⟨_, _, hT, ?_⟩
      have hwc := inc64 (i := c) (by omega)
      have b2 : ∀ (c' : Nat) (l : Heap), getCells (H.set r (.cells 0 [.ptr p 0 0, .int .i64 (c' : Nat)]) ++ l) r 0 = some [.ptr p 0 0, .int .i64 (c' : Nat)] := fun c' l => by rw [gc_app (by simpa using hlr)]; exact hrC c'
      simp only [go_sem, ↓reduceIte, List.append_assoc, gc_appN, gc_app0, set_appN, set_app0, gc_appS, gc_appSN, set_appS, set_appSN, set_appL hlr, ↓b1, ↓b2, ↓run_addW, hwc]
      refine WP.loop' (fun m E H' => ∃ (i ci : Nat) (ys : List Ty) (rest : Heap) (ex : List (Nat × V)), i + m = h.as.length ∧ ys.length = i ∧ ci ≤ 257 ∧ rsoL [] fs (c + 1) = rsoL ys (fs.drop i) ci ∧
        H' = H.set r (.cells 0 [.ptr p 0 0, .int .i64 (ci : Nat)]) ++ (.cells 0 (tyO o1 h) :: .cells 0 [.int .i64 0, .int .i64 0, .str [], .sl true 4 []] :: .cells 0 [.int .i64 h.k, .int .i64 h.n, .str h.s, .sl true 4 (ys.map tyC)] :: rest) ∧
        E = ⟨(0, .ptr r 0 0) :: (3, .ptr H.length 0 0) :: (4, .ptr (H.length + 1) 0 0) :: (5, .ptr (H.length + 2) 0 0) :: (29, .sl false 4 (h.as.map tyC)) :: (30, .int .i64 h.as.length) :: (31, .int .i64 i) :: ex, .u⟩) (n := h.as.length)
        ⟨0, c + 1, [], [], _, by omega, rfl, by omega, rfl, rfl, by rw [List.length_set]; rfl⟩ ?_
      rintro m E H' ⟨i, ci, ys, rest, ex, hi, hyl, hci, heq, rfl, rfl⟩
      have hw := inc64 (i := i) (by omega)
      simp only [go_sem, ↓reduceIte, ↓ex_map, ↓run_addW, hw, Int.toNat_natCast, List.append_assoc, gc_appS, gc_appSN, set_appS, set_appSN, set_appL hlr, List.length_set, ↓b2]
      refine ⟨fun hlt => ?_, fun hge => ?_⟩
      · have hia : i < h.as.length := by omega
        have hga := List.getElem?_eq_getElem hia
        have hlen' : h.as.length = fs.length := hlen
        have hif : i < fs.length := by omega
        have hgf := List.getElem?_eq_getElem hif
        rw [List.drop_eq_getElem_cons hif, rsoL] at heq
        refine ⟨by omega, _, hga, ?_⟩
        refine ⟨fun hbig => ?_, fun hbig => ?_⟩
        · refine endH_cell0 trivial ?_
          rw [if_pos (by omega)] at heq
          rw [heq] at hX
          simp only [go_sem, ↓reduceIte, gc_appS, gc_appSN, finH_lit0]
          exact ⟨by omega, hex _ zeroTy ci _ hX.symm⟩
        · rw [if_neg (by omega)] at heq
          have hle := rsoF_le fs[i] ci (by omega)
          obtain ⟨o2, hT2⟩ := ih _ (List.getElem_mem hif) h.as[i] (hargs i _ _ hga hgf) (hrt.args _ (List.getElem_mem hia)) (hb2 _ (List.getElem_mem hia)) (H.set r (resC p ci)) p q r nx tr dn ci (hstC ci) (hcl.set (hidc ci)) hrp (hrC ci) (by omega) false
          rw [List.set_set] at hT2
          have hcl2 : List.all (H.set r (resC p ci)) (idsO H.length) = true := by have := hcl.set (i := r) (hidc ci); unfold Cl at this; rwa [List.length_set] at this
          refine ⟨by omega, by omega, _, H.set r (resC p ci), _, _, rfl, by simp, by simp, hT2, by simp [idsL, idsV, tyV, tyO, hlr], hcl2, ?_⟩
          have hfit : fits (ys.length + 1) 56 := ⟨by omega, by omega⟩
          unfold resC
          simp only [go_sem, ↓reduceIte, ↓run_addW, hw, gc_appS, gc_appSN, set_appS, set_appSN, hfit]
          exact ⟨m - 1, by omega, i + 1, _, ys ++ [(rsoF fs[i] ci).1], _, _, by omega, by simp; omega, hle, heq, by simp only [List.map_append]; rfl, rfl⟩
      · refine endH_cell0 trivial ?_
        rw [List.drop_eq_nil_of_le (by have : h.as.length = fs.length := hlen; omega), rsoL] at heq
        rw [heq] at hX
        simp only [go_sem, ↓reduceIte, gc_appS, gc_appSN, finH_lit, finH_lit0]
        rw [show h.k = k from hk, show h.n = n from hn, show h.s = s from hs']
        exact ⟨by omega, hex true _ ci _ hX.symm⟩
    obtain ⟨r1, H', hT, o', rfl, rfl⟩ := key (fun r1 H' => ∃ o', r1 = tyV o' (rsoF (Ty.mk k n s fs) c).1 ∧ H' = H.set r (resC p (rsoF (Ty.mk k n s fs) c).2)) fun o' => ⟨o', rfl, rfl⟩
    exact ⟨o', hT⟩
end Go.Proofs.Ytneonbdlgmaofaa.Vm
namespace Go.Proofs.Ytneonbdlgmaofaa.Vm

theorem Full.rt {σ : Sub} (hs : ∀ p ∈ σ, Rt p.2) {t f : Ty} (h : Full σ t f) : Rt t → Rt f := by
  induction h with
  | var _ _ => exact fun h => h
  | known _ hl _ ih => exact fun _ => ih (hs _ (look_mem hl))
  | @con k n s xs fs hk hl _ ih =>
    intro hr
    have hall : ∀ f ∈ fs, Rt f := by
      intro f hf
      obtain ⟨i, hi⟩ := List.mem_iff_getElem?.1 hf
      have hlt : i < xs.length := by have := (List.getElem?_eq_some_iff.1 hi).1; omega
      exact ih i _ _ (List.getElem?_eq_getElem hlt) hi (hr.args _ (List.getElem_mem hlt))
    cases hr with
    | var => exact absurd rfl hk
    | con hs' _ => exact .con hs' hall
    | fn hl' _ => exact .fn (by omega) hall
section
variable {vs : List Int} {ws : List Ty}
theorem sub_con {k n : Int} {s : List UInt8} {xs : List Ty} (hk : k ≠ 1) : subF vs ws (.mk k n s xs) = .mk k 0 s (xs.map (subF vs ws)) := by
  rw [subF, if_neg hk, subL_eq]
/-- What is known is so with types in the variables' places too. -/
def Rsp (vs : List Int) (ws : List Ty) (σ : Sub) : Prop := ∀ n t, look σ n = some t → subF vs ws (vr n) = subF vs ws t
theorem Rsp.full {σ : Sub} (hr : Rsp vs ws σ) (hs : ∀ p ∈ σ, Rt p.2) {t f : Ty} (h : Full σ t f) : Rt t → subF vs ws t = subF vs ws f := by
  induction h with
  | var _ _ => exact fun _ => rfl
  | known hk hl _ ih =>
    intro ht
    rw [(ht.var1 hk).1, hr _ _ hl]
    exact ih (hs _ (look_mem hl))
  | @con k n s xs fs hk hl _ ih =>
    intro ht
    rw [sub_con hk, sub_con hk]
    congr 1
    refine list_ext2 (by simp [hl]) fun i x y hx hy => ?_
    rw [List.getElem?_map, Option.map_eq_some_iff] at hx hy
    obtain ⟨a, ha, rfl⟩ := hx
    obtain ⟨f, hf, rfl⟩ := hy
    exact ih i a f ha hf (ht.args _ (List.mem_of_getElem? ha))
theorem Rsp.head {σ : Sub} (hr : Rsp vs ws σ) (hs : ∀ p ∈ σ, Rt p.2) {t h : Ty} (hh : Head σ t h) : Rt t → subF vs ws t = subF vs ws h := by
  induction hh with
  | here _ => exact fun _ => rfl
  | go hk hl _ ih =>
    intro ht
    rw [(ht.var1 hk).1, hr _ _ hl]
    exact ih (hs _ (look_mem hl))
theorem Rsp.bind {σ : Sub} (hr : Rsp vs ws σ) {n : Int} {t : Ty} (h : subF vs ws (vr n) = subF vs ws t) : Rsp vs ws (σ ++ [(n, t)]) := by
  intro m u hm
  rw [look_app] at hm
  cases hl : look σ m with
  | some u' => rw [hl] at hm; cases hm; exact hr m _ hl
  | none =>
    rw [hl] at hm
    simp only [look] at hm
    split at hm
    · rename_i e
      cases hm; subst e; exact h
    · cases hm
theorem tysSize_map_le {f : Ty → Ty} {xs : List Ty} {a : Ty} (h : a ∈ xs) : tySize (f a) ≤ tysSize (xs.map f) := tysSize_mem (List.mem_map_of_mem h)
theorem occ_size {n : Int} (t : Ty) : Rt t → Occ n t → tySize (subF vs ws (vr n)) ≤ tySize (subF vs ws t) ∧ (t.k ≠ 1 → tySize (subF vs ws (vr n)) < tySize (subF vs ws t)) := by
  induction t using Ty.ind with
  | h k m s xs ih =>
    intro hr ho
    by_cases hk : k = 1
    · subst hk
      have e := (hr.var1 rfl).1
      have hn : m = n := (Occ.var_iff (t := .mk 1 m s xs) rfl).1 ho
      rw [e]
      rw [show (Ty.mk 1 m s xs).n = n from hn]
      exact ⟨Nat.le_refl _, fun h => absurd rfl h⟩
    · obtain ⟨a, ha, hoa⟩ := (Occ.args hk).1 ho
      have h1 := (ih a ha (hr.args _ ha) hoa).1
      have h2 := tysSize_map_le (f := subF vs ws) ha
      rw [sub_con hk, tySize]
      exact ⟨by omega, fun _ => by omega⟩
theorem U.mgu {σ : Sub} {l : List (Ty × Ty)} {σ' : Sub} {e : Int} (h : U σ l σ' e) (hl : RtL l) (hs : ∀ p ∈ σ, Rt p.2) (hr : Rsp vs ws σ) (hq : ∀ p ∈ l, subF vs ws p.1 = subF vs ws p.2) : e = 0 ∧ Rsp vs ws σ' := by
  induction h with
  | nil => exact ⟨rfl, hr⟩
  | same _ _ _ _ _ _ ih => exact ih hl.tail hs hr fun p hp => hq p (List.mem_cons_of_mem _ hp)
  | @bindv σ a b x y l σ' e ha hb hx hy hn hU ih =>
    have l1 := ha.lookn hx
    have l2 := hb.lookn hy
    have pa := (hl _ (List.mem_cons_self ..)).1
    have pb := (hl _ (List.mem_cons_self ..)).2
    have rx := (ha.rt hs pa).var1 hx
    have ry := (hb.rt hs pb).var1 hy
    have q0 := hq _ (List.mem_cons_self ..)
    have q : subF vs ws x = subF vs ws y := by rw [← hr.head hs ha pa, ← hr.head hs hb pb]; exact q0
    rw [rx.1, ry.1] at q
    have hg : Grows σ (σ ++ [(max x.n y.n, vr (min x.n y.n))]) ∧ Rsp vs ws (σ ++ [(max x.n y.n, vr (min x.n y.n))]) := by
      rcases Int.le_total x.n y.n with h | h
      · rw [Int.max_eq_right h, Int.min_eq_left h]
        exact ⟨grows_bind l2 (fun _ => not_focc_var l1 hn) fun _ => .var rx.2.1 rx.2.2, hr.bind q.symm⟩
      · rw [Int.max_eq_left h, Int.min_eq_right h]
        exact ⟨grows_bind l1 (fun _ => not_focc_var l2 (Ne.symm hn)) fun _ => .var ry.2.1 ry.2.2, hr.bind q⟩
    exact ih hl.tail (hg.1.rt hs) hg.2 fun p hp => hq p (List.mem_cons_of_mem _ hp)
  | @bindl σ a b x y l σ' e ha hb hx hy ho hU ih =>
    have pa := (hl _ (List.mem_cons_self ..)).1
    have pb := (hl _ (List.mem_cons_self ..)).2
    have rx := (ha.rt hs pa).var1 hx
    have q : subF vs ws x = subF vs ws y := by rw [← hr.head hs ha pa, ← hr.head hs hb pb]; exact hq _ (List.mem_cons_self ..)
    rw [rx.1] at q
    have hg := grows_bind (ha.lookn hx) (fun _ => ho) fun hs => hb.rt hs pb
    exact ih hl.tail (hg.rt hs) (hr.bind q) fun p hp => hq p (List.mem_cons_of_mem _ hp)
  | @cycl σ a b x y l ha hb hx hy ho =>
    exfalso
    have pa := (hl _ (List.mem_cons_self ..)).1
    have pb := (hl _ (List.mem_cons_self ..)).2
    have rx := (ha.rt hs pa).var1 hx
    have ry := hb.rt hs pb
    have q : subF vs ws x = subF vs ws y := by rw [← hr.head hs ha pa, ← hr.head hs hb pb]; exact hq _ (List.mem_cons_self ..)
    obtain ⟨f, h1, h2⟩ := ho
    have h3 := (occ_size (vs := vs) (ws := ws) f (h1.rt hs ry) h2).2 (by rw [h1.conk hy]; exact hy)
    rw [← hr.full hs h1 ry, ← q, rx.1] at h3
    exact absurd h3 (Nat.lt_irrefl _)
  | @bindr σ a b x y l σ' e ha hb hx hy ho hU ih =>
    have pa := (hl _ (List.mem_cons_self ..)).1
    have pb := (hl _ (List.mem_cons_self ..)).2
    have ry := (hb.rt hs pb).var1 hy
    have q : subF vs ws x = subF vs ws y := by rw [← hr.head hs ha pa, ← hr.head hs hb pb]; exact hq _ (List.mem_cons_self ..)
    rw [ry.1] at q
    have hg := grows_bind (hb.lookn hy) (fun _ => ho) fun hs => ha.rt hs pa
    exact ih hl.tail (hg.rt hs) (hr.bind q.symm) fun p hp => hq p (List.mem_cons_of_mem _ hp)
  | @cycr σ a b x y l ha hb hx hy ho =>
    exfalso
    have pa := (hl _ (List.mem_cons_self ..)).1
    have pb := (hl _ (List.mem_cons_self ..)).2
    have ry := (hb.rt hs pb).var1 hy
    have rx := ha.rt hs pa
    have q : subF vs ws x = subF vs ws y := by rw [← hr.head hs ha pa, ← hr.head hs hb pb]; exact hq _ (List.mem_cons_self ..)
    obtain ⟨f, h1, h2⟩ := ho
    have h3 := (occ_size (vs := vs) (ws := ws) f (h1.rt hs rx) h2).2 (by rw [h1.conk hx]; exact hx)
    rw [← hr.full hs h1 rx, q, ry.1] at h3
    exact absurd h3 (Nat.lt_irrefl _)
  | @clash σ a b x y l ha hb hx hy hc =>
    exfalso
    have pa := (hl _ (List.mem_cons_self ..)).1
    have pb := (hl _ (List.mem_cons_self ..)).2
    have q : subF vs ws x = subF vs ws y := by rw [← hr.head hs ha pa, ← hr.head hs hb pb]; exact hq _ (List.mem_cons_self ..)
    rw [← x.eta, ← y.eta, sub_con hx, sub_con hy] at q
    injection q with q1 q2 q3 q4
    have := congrArg List.length q4
    simp at this
    exact hc ⟨q1, q3, this⟩
  | @args σ a b x y l σ1 σ' e ha hb hx hy hc hU1 hU ih1 ih2 =>
    have pa := (hl _ (List.mem_cons_self ..)).1
    have pb := (hl _ (List.mem_cons_self ..)).2
    have rx := ha.rt hs pa
    have ry := hb.rt hs pb
    have hz := RtL.zip rx.args ry.args
    have q : subF vs ws x = subF vs ws y := by rw [← hr.head hs ha pa, ← hr.head hs hb pb]; exact hq _ (List.mem_cons_self ..)
    rw [← x.eta, ← y.eta, sub_con hx, sub_con hy] at q
    injection q with q1 q2 q3 q4
    have h1 := ih1 hz hs hr fun p hp => by
      obtain ⟨i, hi⟩ := List.mem_iff_getElem?.1 hp
      rw [List.getElem?_zip_eq_some] at hi
      have h1 : (x.as.map (subF vs ws))[i]? = some (subF vs ws p.1) := by rw [List.getElem?_map, hi.1]; rfl
      rw [q4, List.getElem?_map, hi.2] at h1
      exact (Option.some.inj h1).symm
    exact ih2 hl.tail ((hU1.grows hz hs).rt hs) h1.2 fun p hp => hq p (List.mem_cons_of_mem _ hp)
  | @bad σ a b x y l σ1 e ha hb hx hy hc hU1 he ih1 =>
    exfalso
    have pa := (hl _ (List.mem_cons_self ..)).1
    have pb := (hl _ (List.mem_cons_self ..)).2
    have rx := ha.rt hs pa
    have ry := hb.rt hs pb
    have hz := RtL.zip rx.args ry.args
    have q : subF vs ws x = subF vs ws y := by rw [← hr.head hs ha pa, ← hr.head hs hb pb]; exact hq _ (List.mem_cons_self ..)
    rw [← x.eta, ← y.eta, sub_con hx, sub_con hy] at q
    injection q with q1 q2 q3 q4
    have h1 := ih1 hz hs hr fun p hp => by
      obtain ⟨i, hi⟩ := List.mem_iff_getElem?.1 hp
      rw [List.getElem?_zip_eq_some] at hi
      have h1 : (x.as.map (subF vs ws))[i]? = some (subF vs ws p.1) := by rw [List.getElem?_map, hi.1]; rfl
      rw [q4, List.getElem?_map, hi.2] at h1
      exact (Option.some.inj h1).symm
    exact he h1.1
end
/-- What is resolved is what the type is, as it is known, if it is not too large. -/
theorem rso_all : ∀ (t : Ty) (c : Nat), c ≤ (rsoF t c).2 ∧ ((rsoF t c).2 ≤ 256 → (rsoF t c).1 = t) := by
  intro t
  induction t using Ty.ind with
  | h k n s xs ih =>
    intro c
    have key : ∀ (l acc : List Ty) (c : Nat), (∀ a ∈ l, a ∈ xs) → c ≤ (rsoL acc l c).2 ∧ ((rsoL acc l c).2 ≤ 256 → (rsoL acc l c).1 = some (acc ++ l)) := by
      intro l
      induction l with
      | nil => intro acc c _; rw [rsoL]; exact ⟨Nat.le_refl _, fun _ => by simp⟩
      | cons a l ihl =>
        intro acc c hsub
        rw [rsoL]
        split
        · rename_i hbig
          exact ⟨Nat.le_refl _, fun h => by omega⟩
        · have h1 := ih a (hsub a (List.mem_cons_self ..)) c
          have h2 := ihl (acc ++ [(rsoF a c).1]) (rsoF a c).2 fun b hb => hsub b (List.mem_cons_of_mem _ hb)
          refine ⟨by omega, fun h => ?_⟩
          rw [h2.2 h, h1.2 (by omega)]; simp
    have h1 := key xs [] (c + 1) fun _ h => h
    rw [rsoF]
    split <;> (rename_i e; rw [e] at h1)
    · refine ⟨by have := h1.1; simp at this ⊢; omega, fun h => ?_⟩
      have := h1.2 h
      simp at this
      subst this; rfl
    · refine ⟨by have := h1.1; simp at this ⊢; omega, fun h => ?_⟩
      have := h1.2 h
      cases this
end Go.Proofs.Ytneonbdlgmaofaa.Vm
namespace Go.Proofs.Ytneonbdlgmaofaa.Vm
open Go
set_option linter.unusedSimpArgs false

/-- A cell and a number are what is answered. -/
def cellY (H0 : Heap) (v w : V) (n : Nat) (R : V → Heap → Prop) (H : Heap) : Prop := match v with
  | .ptr id ver off => exO (getCells H id ver) fun cs => off + n ≤ cs.length ∧ finH H0 (.tup [.agg (((cs.drop off).take n).map strip0), w]) R H
  | _ => False
section
variable {R : V → Heap → Prop} {l : List (Nat × V)} {d : V} {H H0 : Heap} {t u n : Nat}
@[go_sem] theorem cellY_ptr {id ver off : Nat} {w : V} : cellY H0 (.ptr id ver off) w n R H = exO (getCells H id ver) fun cs => off + n ≤ cs.length ∧ finH H0 (.tup [.agg (((cs.drop off).take n).map strip0), w]) R H := (rfl)
theorem endH_cell2 (h : cellY H0 (getE l d t) (getE l d u) n R H) : endH H0 [.cell t n true, .tmp u] R .ret ⟨l, d⟩ H := by
  have e : ∀ i, (En.f ⟨l, d⟩) i = getE l d i := fun _ => rfl
  unfold cellY at h
  unfold endH resV resL res1 resL res1 resL
  simp only [e]
  revert h
  generalize getE l d t = v
  intro h
  cases v <;> first | exact h.elim | skip
  rename_i id ver off
  obtain ⟨cs, h4, h5, h6⟩ := h
  refine ⟨trivial, _, ?_, h6⟩
  simp [h4, cut, h5, mk, pack]
@[go_sem] theorem finH_ty2 {o : Bool} {t : Ty} {k : IntKind} {e : Int} : finH H0 (.tup [tyV o t, .int k e]) R H = outH H0 (R (.tup [tyV o t, .int k e])) H := by
  unfold finH
  rw [fixd_tup2, fix_ty _ _ 5]
  simp [fixV]
end
section
variable {P : Program} {K : KK} {s : List Fr} {E : En} {H : Heap} {tk : List Nat} {dst : Option Nat} {os : List VOp} {keep : List Nat}
theorem nil_ptr {a b c : Nat} : runAct P (.isNil false) [.ptr a b c, .nilp] tk dst os keep s E H K = runOps P os keep s ((stripEn tk E).setO dst (.bool false)) H K := by
  show (∃ b, some false = some b ∧ runOps P os keep s ((stripEn tk E).setO dst (.bool (b != false))) H K) = _
  simp
theorem nil_ptrT {a b c : Nat} : runAct P (.isNil true) [.ptr a b c, .nilp] tk dst os keep s E H K = runOps P os keep s ((stripEn tk E).setO dst (.bool true)) H K := by
  show (∃ b, some false = some b ∧ runOps P os keep s ((stripEn tk E).setO dst (.bool (b != true))) H K) = _
  simp
theorem nil_nilp : runAct P (.isNil false) [.nilp, .nilp] tk dst os keep s E H K = runOps P os keep s ((stripEn tk E).setO dst (.bool true)) H K := by
  show (∃ b, some true = some b ∧ runOps P os keep s ((stripEn tk E).setO dst (.bool (b != false))) H K) = _
  simp
theorem nil_map {a : Nat} : runAct P (.isNil false) [.map a, .nilmap] tk dst os keep s E H K = runOps P os keep s ((stripEn tk E).setO dst (.bool false)) H K := by
  show (∃ b, some false = some b ∧ runOps P os keep s ((stripEn tk E).setO dst (.bool (b != false))) H K) = _
  simp
end
theorem zero_lit : V.agg [V.int .i64 0, V.int .i64 0, V.str [], V.sl false 4 []] = tyV false zeroTy := rfl
def resR (f : Ty) : V := if 256 < (rsoF f 0).2 then .tup [tyV false zeroTy, .int .i64 102] else .tup [tyV false (rsoF f 0).1, .int .i64 0]
theorem Resolve_nil (t : Ty) (o : Bool) (H : Heap) : T Try.prog 11 [.nilp, tyV o t] H (.tup [tyV false zeroTy, .int .i64 3]) H := by
  have key : ∀ R : V → Heap → Prop, R (.tup [tyV false zeroTy, .int .i64 3]) H → ∃ r H', T Try.prog 11 [.nilp, tyV o t] H r H' ∧ R r H' := by
    intro R hR
    refine T.of_H mix c_unify_Store_Resolve rfl ?_
    unfold v_unify_Store_Resolve
    simp only [go_sem, ↓reduceIte, List.append_assoc, gc_appN, gc_app0, set_appN, set_app0, ↓nil_nilp]
    refine endH_cell2 ?_
    simp only [go_sem, ↓reduceIte, gc_appN, gc_app0]
    rw [zero_lit, finH_ty2]
    exact out_app hR
  obtain ⟨r, H', hT, rfl, rfl⟩ := key (fun r H' => r = .tup [tyV false zeroTy, .int .i64 3] ∧ H' = H) ⟨rfl, rfl⟩
  exact hT
theorem Resolve_bad {H : Heap} {p q : Nat} {σ : Sub} {nx : Int} {tr dn : V} (hs : St H p q σ nx tr dn) (t : Ty) (hb : Bd t) (hr : rightB t = false) (o : Bool) : T Try.prog 11 [.ptr p 0 0, tyV o t] H (.tup [tyV false zeroTy, .int .i64 1]) H := by
  have key : ∀ R : V → Heap → Prop, R (.tup [tyV false zeroTy, .int .i64 1]) H → ∃ r H', T Try.prog 11 [.ptr p 0 0, tyV o t] H r H' ∧ R r H' := by
    intro R hR
    have h1 := right_T t hb false
    rw [hr] at h1
    refine T.of_H mix c_unify_Store_Resolve rfl ?_
    unfold v_unify_Store_Resolve
    have b1 := fun l => (hs.app l).1
    simp only [go_sem, ↓reduceIte, List.append_assoc, gc_appN, gc_app0, set_appN, set_app0, ↓nil_ptr, ↓b1, ↓nil_map]
    refine ⟨_, _, h1.frame rfl _, ?_⟩
    simp only [go_sem, ↓reduceIte, List.append_assoc, gc_appN, gc_app0, set_appN, set_app0]
    refine endH_cell2 ?_
    simp only [go_sem, ↓reduceIte, gc_appN, gc_app0]
    rw [zero_lit, finH_ty2]
    exact out_app hR
  obtain ⟨r, H', hT, rfl, rfl⟩ := key (fun r H' => r = .tup [tyV false zeroTy, .int .i64 1] ∧ H' = H) ⟨rfl, rfl⟩
  exact hT
theorem Resolve_T {H : Heap} {p q : Nat} {σ : Sub} {nx : Int} {tr dn : V} (hg : Good σ) (hs : St H p q σ nx tr dn) (hcl : Cl H) (hx : Nx nx) {t f : Ty} (hb : Bd t) (hr : Rt t) (hf : Full σ t f) (o : Bool) :
    ∃ nx', Nx nx' ∧ T Try.prog 11 [.ptr p 0 0, tyV o t] H (resR f) (H.set p (.cells 0 [.map q, .int .i64 nx', tr, dn])) := by
  have key : ∀ R : V → Heap → Prop, (∀ nx', Nx nx' → R (resR f) (H.set p (.cells 0 [.map q, .int .i64 nx', tr, dn]))) → ∃ r H', T Try.prog 11 [.ptr p 0 0, tyV o t] H r H' ∧ R r H' := by
    intro R hR
    have h1 := right_T t hb false
    rw [(right_iff t).2 hr] at h1
    refine T.of_H mix c_unify_Store_Resolve rfl ?_
    unfold v_unify_Store_Resolve
    have b1 := fun l => (hs.app l).1
    simp only [go_sem, ↓reduceIte, List.append_assoc, gc_appN, gc_app0, set_appN, set_app0, ↓nil_ptr, ↓b1, ↓nil_map]
    refine ⟨_, _, h1.frame rfl _, ?_⟩
    simp only [go_sem, ↓reduceIte, List.append_assoc, gc_appN, gc_app0, set_appN, set_app0]
    obtain ⟨nx', hx', hT⟩ := sees_T t hb hr _ p q σ nx tr dn (hs.appS [.cells 0 (tyO o t), .cells 0 [.int .i64 0, .int .i64 0, .str [], .sl true 4 []]]) hx false
    rw [set_appL hs.lp] at hT
    refine ⟨_, _, hT, ?_⟩
    have hs2 := hs.setC nx' hs.ids
    have hcl2 := hcl.set (i := p) (hs.idsC nx' hs.ids)
    have hlen : (H.set p (.cells 0 [.map q, .int .i64 nx', tr, dn])).length = H.length := List.length_set ..
    have hex : ∀ (l : Heap), outH H (R (resR f)) (H.set p (.cells 0 [.map q, .int .i64 nx', tr, dn]) ++ l) := fun l => out_set (hs.idsC nx' hs.ids) (hR nx' hx')
    generalize H.set p (.cells 0 [.map q, .int .i64 nx', tr, dn]) = A at hT hs2 hcl2 hlen hex
    have hA : ∀ (l : Heap) (i v : Nat), getCells (A ++ l) (H.length + i) v = getCells l i v := fun l i v => by rw [← hlen]; exact gc_appN
    have hA0 : ∀ (l : Heap) (v : Nat), getCells (A ++ l) H.length v = getCells l 0 v := fun l v => hA l 0 v
    have hB : ∀ (l : Heap) (i : Nat) (o : Obj), (A ++ l).set (H.length + i) o = A ++ l.set i o := fun l i v => by rw [← hlen]; exact set_appN
    have hB0 : ∀ (l : Heap) (o : Obj), (A ++ l).set H.length o = A ++ l.set 0 o := fun l v => hB l 0 v
    simp only [go_sem, ↓reduceIte, List.append_assoc, hA, hA0, hB, hB0, hlen]
    obtain ⟨o', hT2⟩ := resolve_T hg f t hf hr hb (A ++ [.cells 0 (tyO false t), .cells 0 [.int .i64 0, .int .i64 0, .str [], .sl true 4 []], .cells 0 [.ptr p 0 0, .int .i64 0]]) p q (H.length + 2) nx' tr dn 0 (hs2.appS _)
      (hcl2.app (by have := hs.lp; simp [idsO, idsL, idsV, tyO, hlen]; omega)) (by have := hs.lp; omega) (by rw [hA]; rfl) (by omega) o
    rw [hB] at hT2
    refine ⟨_, _, hT2, ?_⟩
    have hle := rsoF_le f 0 (by omega)
    unfold resR at hex
    generalize rsoF f 0 = X at hex hle
    obtain ⟨x, c⟩ := X
    unfold resC
    simp only [go_sem, ↓reduceIte, List.append_assoc, hA, hA0, hB, hB0, hlen] at hex ⊢
    refine ⟨fun hc => ?_, fun hc => ?_⟩
    · refine endH_cell2 ?_
      rw [if_pos (by omega)] at hex
      simp only [go_sem, ↓reduceIte, List.append_assoc, hA, hA0, hB, hB0, hlen]
      rw [zero_lit, finH_ty2]
      exact hex _
    · refine endH_cell2 ?_
      rw [if_neg (by omega)] at hex
      simp only [go_sem, ↓reduceIte, List.append_assoc, hA, hA0, hB, hB0, hlen]
      exact hex _
  obtain ⟨r, H', hT, nx', hx', rfl, rfl⟩ := key (fun r H' => ∃ nx', Nx nx' ∧ r = resR f ∧ H' = H.set p (.cells 0 [.map q, .int .i64 nx', tr, dn])) fun nx' h => ⟨nx', h, rfl, rfl⟩
  exact ⟨nx', hx', hT⟩
end Go.Proofs.Ytneonbdlgmaofaa.Vm
namespace Go.Proofs.Ytneonbdlgmaofaa.Vm
open Go
set_option linter.unusedSimpArgs false

def esN (S : List Int) : List (V × V) := S.map fun n => (.int .i64 n, .bool true)
theorem idxN (S : List Int) (n : Int) : (S.findIdx? (fun a => a = n)).isSome = decide (n ∈ S) := by
  rw [List.findIdx?_isSome]
  by_cases h : n ∈ S
  · rw [decide_eq_true h, List.any_eq_true]; exact ⟨n, h, by simp⟩
  · rw [decide_eq_false h, List.any_eq_false]
    intro x hx e
    simp at e; subst e; exact h hx
theorem findN (S : List Int) (n : Int) : findV false [.i] (.int .i64 n) (esN S) 0 = some (S.findIdx? (fun a => a = n)) := by
  have := findV_spec (key := fun n => V.int .i64 n) key_int (fun _ : Unit => V.bool true) n (S.map fun n => (n, ())) 0
  rw [List.map_map] at this
  show findV false [.i] (.int .i64 n) (S.map _) 0 = _
  rw [show (S.map fun n => (V.int .i64 n, V.bool true)) = List.map ((fun p : Int × Unit => (V.int .i64 p.1, V.bool true)) ∘ fun n => (n, ())) S from rfl, this, List.findIdx?_map]
  congr 1
  have : (fun p : Int × Unit => decide (p.1 = n)) ∘ (fun n => (n, ())) = fun a => decide (a = n) := rfl
  rw [this]
  cases S.findIdx? (fun a => decide (a = n)) <;> simp
section
variable {P : Program} {K : KK} {s : List Fr} {E : En} {H : Heap} {tk : List Nat} {dst : Option Nat} {os : List VOp} {keep : List Nat} {m : Nat} {S : List Int} {n : Int}
theorem lookupN (h : H[m]? = some (.map (esN S))) :
    runAct P (.lookup false [.i] false [.bool false] false) [.map m, .int .i64 n] tk dst os keep s E H K = nextV P (.bool (decide (n ∈ S))) tk dst os keep s E H K := by
  have e : sLookup false [.i] false [.bool false] false [.map m, .int .i64 n] H = some (.bool (decide (n ∈ S)), H) := by
    unfold sLookup mapOf
    simp only [h, Option.bind_some]
    rw [findN]
    have := idxN S n
    cases hf : S.findIdx? (fun a => decide (a = n)) with
    | none => rw [hf] at this; simp at this; simp [mk, this]
    | some j =>
      rw [hf] at this
      have hm : n ∈ S := by simpa using this
      obtain ⟨hj, _⟩ := List.findIdx?_eq_some_iff_getElem.1 hf
      simp [esN, hm, List.getElem?_eq_getElem hj]
  show (∃ r H', sLookup false [.i] false [.bool false] false [.map m, .int .i64 n] H = some (r, H') ∧ _) = _
  rw [e]
  apply propext
  constructor
  · rintro ⟨r, H', h, k⟩; cases h; exact k
  · intro k; exact ⟨_, _, rfl, k⟩
theorem updateN (h : H[m]? = some (.map (esN S))) (hn : n ∉ S) :
    runAct P (.mapUpdate false [.i]) [.map m, .int .i64 n, .bool true] tk dst os keep s E H K = nextV P (.tup []) tk dst os keep s E (H.set m (.map (esN (S ++ [n])))) K := by
  have e : sMapUpdate false [.i] [.map m, .int .i64 n, .bool true] H = some (.tup [], H.set m (.map (esN (S ++ [n])))) := by
    unfold sMapUpdate mapOf
    simp only [h, Option.bind_some]
    rw [findN]
    have := idxN S n
    cases hf : S.findIdx? (fun a => decide (a = n)) with
    | none => simp [esN]
    | some j => rw [hf] at this; simp at this; exact absurd this hn
  show (∃ r H', sMapUpdate false [.i] [.map m, .int .i64 n, .bool true] H = some (r, H') ∧ _) = _
  rw [e]
  apply propext
  constructor
  · rintro ⟨r, H', h, k⟩; cases h; exact k
  · intro k; exact ⟨_, _, rfl, k⟩
end
theorem nodup_bound : ∀ (M : Nat) (l : List Int), l.Nodup → (∀ x ∈ l, 0 ≤ x ∧ x < M) → l.length ≤ M
  | 0, [], _, _ => Nat.le_refl _
  | 0, x :: l, _, h => by have := h x (List.mem_cons_self ..); omega
  | M + 1, l, hn, h => by
    have h1 := nodup_bound M (l.filter (fun x => x ≠ (M : Int))) (hn.filter _) fun x hx => by
      rw [List.mem_filter] at hx
      have := h x hx.1
      have h2 : x ≠ (M : Int) := by simpa using hx.2
      omega
    have h2 : l.length ≤ (l.filter (fun x => x ≠ (M : Int))).length + 1 := by
      have h3 : l.length = (l.filter (fun x => x ≠ (M : Int))).length + (l.filter (fun x => x = (M : Int))).length := by
        clear h1 h hn
        induction l with
        | nil => rfl
        | cons a l ih =>
          by_cases e : a = (M : Int)
          · simp [e] at ih ⊢; omega
          · simp [e] at ih ⊢; omega
      have h4 : (l.filter (fun x => x = (M : Int))).length ≤ 1 := by
        have hn2 := hn.filter (fun x => decide (x = (M : Int)))
        have hall : ∀ x ∈ l.filter (fun x => decide (x = (M : Int))), x = (M : Int) := fun x hx => by simpa using (List.mem_filter.1 hx).2
        generalize l.filter (fun x => decide (x = (M : Int))) = k at hn2 hall
        match k, hn2, hall with
        | [], _, _ => simp
        | [_], _, _ => simp
        | a :: b :: k, hn2, hall =>
          have ha := hall a (List.mem_cons_self ..)
          have hb := hall b (List.mem_cons_of_mem _ (List.mem_cons_self ..))
          exact absurd (ha.trans hb.symm) ((List.pairwise_cons.1 hn2).1 b (List.mem_cons_self ..))
      omega
    omega
/-- The variables seen. -/
def SeenOk (S : List Int) (l : List Int) : Prop := S.Nodup ∧ (∀ x ∈ S, 0 ≤ x ∧ x < ((1073741825 : Nat) : Int)) ∧ l.length ≤ S.length
theorem leaves_T (t : Ty) : Bd t → Rt t → ∀ (H : Heap) (p q m : Nat) (nx : Int) (tr dn : V) (S l : List Int), St H p q [] nx tr dn → H[m]? = some (.map (esN S)) → m ≠ p → m ≠ q → SeenOk S l → ∀ o : Bool,
    ∃ S' l', SeenOk S' l' ∧ T Try.prog 32 [.ptr p 0 0, tyV o t, intsV true l, .map m] H (intsV true l') (H.set m (.map (esN S'))) := by
  induction t using Ty.ind with
  | h k n s xs ih =>
    intro hb hr H p q m nx tr dn S l hs hm hmp hmq hS o
    have key : ∀ R : V → Heap → Prop, (∀ S' l', SeenOk S' l' → R (intsV true l') (H.set m (.map (esN S')))) → ∃ r H', T Try.prog 32 [.ptr p 0 0, tyV o (Ty.mk k n s xs), intsV true l, .map m] H r H' ∧ R r H' := by
      intro R hR
      have hlm : m < H.length := (List.getElem?_eq_some_iff.1 hm).1
      have hself : H.set m (.map (esN S)) = H := by
        obtain ⟨h2, h3⟩ := List.getElem?_eq_some_iff.1 hm
        rw [← h3]; simp
      have hidm : ∀ S', idsO H.length (.map (esN S')) = true := by
        intro S'
        have h1 : ∀ L : List Int, idsL H.length (L.map fun n => V.int .i64 n) = true := fun L => by induction L with | nil => rfl | cons a L ih => simp [idsL, idsV, ih]
        have h2 : ∀ L : List Int, idsL H.length (L.map fun _ => V.bool true) = true := fun L => by induction L with | nil => rfl | cons a L ih => simp [idsL, idsV, ih]
        simp only [idsO, esN, List.map_map, Function.comp_def, h1, h2, Bool.and_self]
      have hex : ∀ (S' l' : List Int) (L : Heap), SeenOk S' l' → outH H (R (intsV true l')) (H.set m (.map (esN S')) ++ L) := fun S' l' L h => out_set (hidm S') (hR S' l' h)
      have hstM : ∀ S', St (H.set m (.map (esN S'))) p q [] nx tr dn := fun S' => ⟨by rw [gc_ne hmp]; exact hs.cells, by rw [List.getElem?_set_ne hmq]; exact hs.map, by rw [List.length_set]; exact hs.ids⟩
      refine T.of_H mix c_unify_Store_leaves rfl ?_
      unfold v_unify_Store_leaves
      have b1 := fun L => (hs.app L).1
      have b2 := fun L => (hs.app L).2
      have b3 : ∀ L, (H ++ L)[m]? = some (.map (esN S)) := fun L => by rw [List.getElem?_append_left hlm]; exact hm
      have b4 : ∀ S' L, getCells (H.set m (.map (esN S')) ++ L) p 0 = some [.map q, .int .i64 nx, tr, dn] := fun S' L => ((hstM S').app L).1
      have b5 : ∀ S' L, (H.set m (.map (esN S')) ++ L)[q]? = some (.map (esS [])) := fun S' L => ((hstM S').app L).2
      simp only [intsV, go_sem, ↓reduceIte, List.append_assoc, gc_appN, gc_app0, set_appN, set_app0, ↓b1, ↓lookupN (b3 _)]
      by_cases hk : k = 1
      · have hn : xs = [] ∧ 0 ≤ n ∧ n ≤ 1073741824 := by
          cases hr with
          | var h0 h1 => exact ⟨rfl, h0, h1⟩
          | con => cases hk
          | fn => cases hk
        obtain ⟨rfl, h0, h1⟩ := hn
        subst hk
        refine ⟨fun _ => ⟨fun hin => ?_, fun hout => ?_⟩, fun h => by simp at h⟩
        · have := hex S l [.cells 0 (tyO o (Ty.mk 1 n s []))] hS
          rw [hself] at this
          exact this
        · have hnS : n ∉ S := by simpa using hout
          have hS2 : SeenOk (S ++ [n]) (l ++ [n]) := by
            refine ⟨?_, ?_, by have := hS.2.2; simp; omega⟩
            · rw [List.nodup_append]
              exact ⟨hS.1, by simp, fun a ha b hb => by rw [List.mem_singleton.1 hb]; exact fun e => hnS (e ▸ ha)⟩
            · intro x hx
              rcases List.mem_append.1 hx with hx | hx
              · exact hS.2.1 x hx
              · rw [List.mem_singleton.1 hx]; omega
          have hlen := nodup_bound _ _ hS2.1 hS2.2.1
          have hlen2 := hS2.2.2
          simp at hlen hlen2
          have hfit : fits (l.length + 1) 8 := ⟨by omega, by omega⟩
          simp only [intsV, go_sem, ↓reduceIte, List.append_assoc, gc_appN, gc_app0, set_appN, set_app0, ↓updateN (b3 _) hnS, set_appL hlm]
          simp only [intsV, go_sem, ↓reduceIte, List.append_assoc, gc_appN, gc_app0, set_appN, set_app0, gc_appS, gc_appSN, set_appS, set_appSN, ↓b4, ↓lookup_none (b5 _ _) rfl, List.length_set, hfit]
          have := hex (S ++ [n]) (l ++ [n]) [Obj.cells 0 (tyO o (Ty.mk 1 n s [])), Obj.cells 0 (tyO false zeroTy)] hS2
          rw [intsV, List.map_append] at this
          exact this
      · refine ⟨fun h => by simp at h; exact absurd h hk, fun _ => ?_⟩
        refine WP.loop' (fun M E H' => ∃ (i : Nat) (S' l' : List Int) (L : Heap) (ex : List (Nat × V)), i + M = xs.length ∧ SeenOk S' l' ∧ H' = H.set m (.map (esN S')) ++ L ∧
          E = ⟨(0, .ptr p 0 0) :: (2, intsV true l') :: (3, .map m) :: (47, .sl false 4 (xs.map tyC)) :: (48, .int .i64 xs.length) :: (49, .int .i64 i) :: ex, .u⟩) (n := xs.length) ⟨0, S, l, _, _, by omega, hS, by rw [hself], rfl⟩ ?_
        rintro M E H' ⟨i, S', l', L, ex, hi, hS', rfl, rfl⟩
        have hw := inc64 (i := i) (by have := hb.len; omega)
        simp only [intsV, go_sem, ↓reduceIte, ↓ex_map, ↓run_addW, hw, Int.toNat_natCast, List.append_assoc, gc_appN, set_appN]
        refine ⟨fun hlt => ?_, fun hge => hex _ _ _ hS'⟩
        have hix : i < xs.length := by omega
        have hg := List.getElem?_eq_getElem hix
        obtain ⟨S2, l2, hS2, hT⟩ := ih _ (List.getElem_mem hix) (hb.arg _ (List.getElem_mem hix)) (hr.args _ (List.getElem_mem hix)) (H.set m (.map (esN S')) ++ (L ++ [.cells 0 (tyO false xs[i])])) p q m nx tr dn S' l' ((hstM S').appS _)
          (by rw [List.getElem?_append_left (by simpa using hlm)]; simp [hlm]) hmp hmq hS' false
        rw [set_appL (by simpa using hlm), List.set_set] at hT
        refine ⟨by omega, _, hg, _, _, hT, ?_⟩
        simp only [intsV, go_sem, ↓reduceIte, ↓run_addW, hw]
        exact ⟨M - 1, by omega, i + 1, S2, l2, _, _, by omega, hS2, rfl, rfl⟩
    obtain ⟨r, H', hT, S', l', h, rfl, rfl⟩ := key (fun r H' => ∃ S' l', SeenOk S' l' ∧ r = intsV true l' ∧ H' = H.set m (.map (esN S'))) fun S' l' h => ⟨S', l', h, rfl, rfl⟩
    exact ⟨S', l', h, hT⟩
end Go.Proofs.Ytneonbdlgmaofaa.Vm
namespace Go.Proofs.Ytneonbdlgmaofaa.Vm
open Go
set_option linter.unusedSimpArgs false

theorem idsN (m : Nat) (S : List Int) : idsO m (.map (esN S)) = true := by
  have h1 : ∀ L : List Int, idsL m (L.map fun n => V.int .i64 n) = true := fun L => by induction L with | nil => rfl | cons a L ih => simp [idsL, idsV, ih]
  have h2 : ∀ L : List Int, idsL m (L.map fun _ => V.bool true) = true := fun L => by induction L with | nil => rfl | cons a L ih => simp [idsL, idsV, ih]
  simp only [idsO, esN, List.map_map, Function.comp_def, h1, h2, Bool.and_self]
theorem St.setM {H : Heap} {p q m : Nat} {σ : Sub} {nx : Int} {tr dn : V} (hs : St H p q σ nx tr dn) (hmp : m ≠ p) (hmq : m ≠ q) (o : Obj) : St (H.set m o) p q σ nx tr dn :=
  ⟨by rw [gc_ne hmp]; exact hs.cells, by rw [List.getElem?_set_ne hmq]; exact hs.map, by rw [List.length_set]; exact hs.ids⟩
theorem focc_con {σ : Sub} {n k m : Int} {s : List UInt8} {xs fs : List Ty} (hk : k ≠ 1) (hl : xs.length = fs.length) (h : ∀ (i : Nat) a f, xs[i]? = some a → fs[i]? = some f → Full σ a f) :
    FOcc σ n (.mk k m s xs) ↔ ∃ a ∈ xs, FOcc σ n a := by
  have hf : Full σ (.mk k m s xs) (.mk k m s fs) := .con hk hl h
  rw [FOcc.iff hf, Occ.args hk]
  constructor
  · rintro ⟨g, hg, ho⟩
    obtain ⟨i, hi⟩ := List.mem_iff_getElem?.1 hg
    have hlt : i < xs.length := by have := (List.getElem?_eq_some_iff.1 hi).1; omega
    exact ⟨_, List.getElem_mem hlt, g, h i _ _ (List.getElem?_eq_getElem hlt) hi, ho⟩
  · rintro ⟨a, ha, g, hg, ho⟩
    obtain ⟨i, hi⟩ := List.mem_iff_getElem?.1 ha
    have hlt : i < fs.length := by have := (List.getElem?_eq_some_iff.1 hi).1; omega
    have := (h i _ _ hi (List.getElem?_eq_getElem hlt)).det hg
    exact ⟨_, List.getElem_mem hlt, by rw [this]; exact ho⟩
theorem occurs_T {σ : Sub} (hg : Good σ) {rk : Int → Nat} (hrk : ∀ n u, look σ n = some u → ∀ v, Occ v u → rk v < rk n) {n : Int} (hn : look σ n = none) {t f : Ty} (hf : Full σ t f) :
    Rt t → Bd t → ∀ (H : Heap) (p q m : Nat) (nx : Int) (tr dn : V) (S : List Int), St H p q σ nx tr dn → H[m]? = some (.map (esN S)) → m ≠ p → m ≠ q → (∀ v ∈ S, ¬ FOcc σ n (vr v) ∨ ∀ w, Occ w t → rk w < rk v) → ∀ o : Bool,
    ∃ S' b, T Try.prog 43 [.ptr p 0 0, .int .i64 n, tyV o t, .map m] H (.bool b) (H.set m (.map (esN S'))) ∧ (b = true ↔ FOcc σ n t) ∧ (b = false → ∀ v ∈ S', v ∈ S ∨ ¬ FOcc σ n (vr v)) := by
  have shell : ∀ (t : Ty) (H : Heap) (p m : Nat) (S : List Int) (o : Bool), (∀ R : V → Heap → Prop, (∀ S' b, (b = true ↔ FOcc σ n t) → (b = false → ∀ v ∈ S', v ∈ S ∨ ¬ FOcc σ n (vr v)) → R (.bool b) (H.set m (.map (esN S')))) → ∃ r H', T Try.prog 43 [.ptr p 0 0, .int .i64 n, tyV o t, .map m] H r H' ∧ R r H') →
      ∃ S' b, T Try.prog 43 [.ptr p 0 0, .int .i64 n, tyV o t, .map m] H (.bool b) (H.set m (.map (esN S'))) ∧ (b = true ↔ FOcc σ n t) ∧ (b = false → ∀ v ∈ S', v ∈ S ∨ ¬ FOcc σ n (vr v)) := by
    intro t H p m S o key
    obtain ⟨r, H', hT, S', b, h1, h2, rfl, rfl⟩ := key (fun r H' => ∃ S' b, (b = true ↔ FOcc σ n t) ∧ (b = false → ∀ v ∈ S', v ∈ S ∨ ¬ FOcc σ n (vr v)) ∧ r = .bool b ∧ H' = H.set m (.map (esN S'))) fun S' b h1 h2 => ⟨S', b, h1, h2, rfl, rfl⟩
    exact ⟨S', b, hT, h1, h2⟩
  induction hf with
  | @var t hk hl =>
    intro hr hb H p q m nx tr dn S hs hm hmp hmq hS o
    refine shell t H p m S o fun R hR => ?_
    have hlm : m < H.length := (List.getElem?_eq_some_iff.1 hm).1
    have hself : H.set m (.map (esN S)) = H := by
      obtain ⟨h2, h3⟩ := List.getElem?_eq_some_iff.1 hm
      rw [← h3]; simp
    have hfo : FOcc σ n t ↔ t.n = n := by rw [FOcc.iff (.var hk hl), Occ.var_iff hk]
    have hex : ∀ (b : Bool) (L : Heap), (b = true ↔ FOcc σ n t) → outH H (R (.bool b)) (H ++ L) := fun b L h => by
      have := hR S b h (fun _ v hv => .inl hv)
      rw [hself] at this
      exact out_app this
    refine T.of_H mix c_unify_Store_occurs rfl ?_
    unfold v_unify_Store_occurs
    have b1 := fun L => (hs.app L).1
    have b2 := fun L => (hs.app L).2
    have hk' : (t.k == 1) = true := by simpa using hk
    simp only [go_sem, ↓reduceIte, List.append_assoc, gc_appN, gc_app0, set_appN, set_app0, hk', ↓b1, ↓lookup_none (b2 _) hl, forall_const, true_and, Bool.true_eq_false, false_implies, and_true]
    refine ⟨fun h => hex _ _ (by rw [hfo]; simpa using h), fun h => hex _ _ (by rw [hfo]; simpa using h)⟩
  | @known t u f hk hl hf ih =>
    intro hr hb H p q m nx tr dn S hs hm hmp hmq hS o
    refine shell t H p m S o fun R hR => ?_
    have hlm : m < H.length := (List.getElem?_eq_some_iff.1 hm).1
    have hself : H.set m (.map (esN S)) = H := by
      obtain ⟨h2, h3⟩ := List.getElem?_eq_some_iff.1 hm
      rw [← h3]; simp
    have hfo : FOcc σ n t ↔ FOcc σ n u := FOcc.known hk hl
    have htn : t.n ≠ n := by intro e; rw [e, hn] at hl; cases hl
    have htn' : (t.n == n) = false := by simpa using htn
    have hvr := (hr.var1 hk).1
    have b1 := fun L => (hs.app L).1
    have b2 := fun L => (hs.app L).2
    have b3 : ∀ L, (H ++ L)[m]? = some (.map (esN S)) := fun L => by rw [List.getElem?_append_left hlm]; exact hm
    have hk' : (t.k == 1) = true := by simpa using hk
    have bt : (true == false) = false := rfl
    refine T.of_H mix c_unify_Store_occurs rfl ?_
    unfold v_unify_Store_occurs
    simp only [go_sem, ↓reduceIte, List.append_assoc, gc_appN, gc_app0, set_appN, set_app0, hk', htn', ↓b1, ↓lookup_some (b2 _) hl, ↓lookupN (b3 _), Bool.not_true, forall_const, true_and, Bool.true_eq_false, Bool.false_eq_true, false_implies, and_true]
    refine ⟨fun hin => ?_, fun hout => ?_⟩
    · have hne : ¬ FOcc σ n t := by
        intro h
        rcases hS t.n hin with h1 | h1
        · rw [hvr] at h; exact h1 h
        · exact Nat.lt_irrefl _ (h1 t.n ((Occ.var_iff hk).2 rfl))
      have := hR S false ⟨(fun h => by cases h), fun h => absurd h hne⟩ (fun _ v hv => .inl hv)
      rw [hself] at this
      exact out_app this
    · have hS1 : ∀ v ∈ S ++ [t.n], ¬ FOcc σ n (vr v) ∨ ∀ w, Occ w u → rk w < rk v := by
        intro v hv
        rcases List.mem_append.1 hv with hv | hv
        · rcases hS v hv with h1 | h1
          · exact .inl h1
          · exact .inr fun w hw => Nat.lt_trans (hrk t.n u hl w hw) (h1 t.n ((Occ.var_iff hk).2 rfl))
        · rw [List.mem_singleton.1 hv]
          exact .inr fun w hw => hrk t.n u hl w hw
      obtain ⟨S', b, hT, h1, h2⟩ := ih (hg.rt _ (look_mem hl)) (hg.bd _ (look_mem hl)) (H.set m (.map (esN (S ++ [t.n]))) ++ [Obj.cells 0 (tyO o t), Obj.cells 0 (tyO false u)]) p q m nx tr dn (S ++ [t.n])
        ((hs.setM hmp hmq _).appS _) (by rw [List.getElem?_append_left (by simpa using hlm)]; simp [hlm]) hmp hmq hS1 false
      rw [set_appL (by simpa using hlm), List.set_set] at hT
      simp only [go_sem, ↓reduceIte, List.append_assoc, gc_appN, gc_app0, set_appN, set_app0, ↓updateN (b3 _) hout, set_appL hlm, gc_appS, gc_appSN, set_appS, set_appSN]
      refine ⟨_, _, hT, ?_⟩
      simp only [go_sem, ↓reduceIte]
      refine out_set (idsN _ _) (hR S' b (h1.trans hfo.symm) fun hb' v hv => ?_)
      rcases h2 hb' v hv with h3 | h3
      · rcases List.mem_append.1 h3 with h3 | h3
        · exact .inl h3
        · right
          rw [List.mem_singleton.1 h3, ← hvr, hfo, ← h1, hb']
          exact fun h => by cases h
      · exact .inr h3
  | @con k m' s xs fs hk hlen hf ih =>
    intro hr hb H p q m nx tr dn S hs hm hmp hmq hS o
    refine shell _ H p m S o fun R hR => ?_
    have hlm : m < H.length := (List.getElem?_eq_some_iff.1 hm).1
    have hself : H.set m (.map (esN S)) = H := by
      obtain ⟨h2, h3⟩ := List.getElem?_eq_some_iff.1 hm
      rw [← h3]; simp
    have hfo := focc_con (σ := σ) (n := n) (m := m') (s := s) hk hlen hf
    have hk' : (k == 1) = false := by simpa using hk
    refine T.of_H mix c_unify_Store_occurs rfl ?_
    unfold v_unify_Store_occurs
    simp only [go_sem, ↓reduceIte, List.append_assoc, gc_appN, gc_app0, set_appN, set_app0, hk', forall_const, true_and, Bool.true_eq_false, Bool.false_eq_true, false_implies, and_true]
    refine WP.loop' (fun M E H' => ∃ (i : Nat) (S' : List Int) (L : Heap) (ex : List (Nat × V)), i + M = xs.length ∧ (∀ v ∈ S', v ∈ S ∨ ¬ FOcc σ n (vr v)) ∧ (∀ j < i, ∀ a, xs[j]? = some a → ¬ FOcc σ n a) ∧ H' = H.set m (.map (esN S')) ++ L ∧
      E = ⟨(0, .ptr p 0 0) :: (1, .int .i64 n) :: (3, .map m) :: (47, .sl false 4 (xs.map tyC)) :: (48, .int .i64 xs.length) :: (49, .int .i64 i) :: ex, .u⟩) (n := xs.length) ⟨0, S, _, _, by omega, fun v hv => .inl hv, fun j hj => by omega, by rw [hself], rfl⟩ ?_
    rintro M E H' ⟨i, S', L, ex, hi, hS', hno, rfl, rfl⟩
    have hw := inc64 (i := i) (by have := hb.len; omega)
    simp only [go_sem, ↓reduceIte, ↓ex_map, ↓run_addW, hw, Int.toNat_natCast, List.append_assoc, gc_appN, set_appN]
    refine ⟨fun hlt => ?_, fun hge => ?_⟩
    · have hix : i < xs.length := by omega
      have hif : i < fs.length := by omega
      have hgx := List.getElem?_eq_getElem hix
      obtain ⟨S2, b, hT, h1, h2⟩ := ih i _ _ hgx (List.getElem?_eq_getElem hif) (hr.args _ (List.getElem_mem hix)) (hb.arg _ (List.getElem_mem hix)) (H.set m (.map (esN S')) ++ (L ++ [.cells 0 (tyO false xs[i])])) p q m nx tr dn S' ((hs.setM hmp hmq _).appS _)
        (by rw [List.getElem?_append_left (by simpa using hlm)]; simp [hlm]) hmp hmq (fun v hv => by
          rcases hS' v hv with h3 | h3
          · rcases hS v h3 with h4 | h4
            · exact .inl h4
            · exact .inr fun w hw => h4 w ((Occ.args hk).2 ⟨_, List.getElem_mem hix, hw⟩)
          · exact .inl h3) false
      rw [set_appL (by simpa using hlm), List.set_set] at hT
      refine ⟨by omega, _, hgx, _, _, hT, ?_⟩
      simp only [go_sem, ↓reduceIte, ↓run_addW, hw]
      refine ⟨fun hbt => ?_, fun hbf => ⟨M - 1, by omega, i + 1, S2, _, _, by omega, fun v hv => ?_, fun j hj a ha => ?_, rfl, rfl⟩⟩
      · refine out_set (idsN _ _) (hR S2 true ⟨fun _ => hfo.2 ⟨_, List.getElem_mem hix, h1.1 hbt⟩, fun _ => rfl⟩ fun h => by cases h)
      · rcases h2 hbf v hv with h3 | h3
        · exact hS' v h3
        · exact .inr h3
      · by_cases hj' : j < i
        · exact hno j hj' a ha
        · have : j = i := by omega
          subst this
          rw [hgx] at ha
          cases ha
          intro hc
          rw [h1.2 hc] at hbf; cases hbf
    · refine out_set (idsN _ _) (hR S' false ⟨(fun h => by cases h), fun h => ?_⟩ fun _ => hS')
      exfalso
      obtain ⟨a, ha, hfa⟩ := hfo.1 h
      obtain ⟨j, hj⟩ := List.mem_iff_getElem?.1 ha
      exact hno j (by have := (List.getElem?_eq_some_iff.1 hj).1; omega) a hj hfa
end Go.Proofs.Ytneonbdlgmaofaa.Vm
namespace Go.Proofs.Ytneonbdlgmaofaa.Vm
open Go
set_option linter.unusedSimpArgs false

section
variable {R : V → Heap → Prop} {l : List (Nat × V)} {d : V} {H H0 : Heap} {t u : Nat}
@[go_sem] theorem endH_two : endH H0 [.tmp t, .tmp u] R .ret ⟨l, d⟩ H = finH H0 (.tup [getE l d t, getE l d u]) R H := by simp [endH, finH, resV, resL, res1, pack, En.f]
@[go_sem] theorem finH_sl2 {o : Bool} {z : Nat} {xs : List (List V)} {k : IntKind} {e : Int} : finH H0 (.tup [.sl o z xs, .int k e]) R H = outH H0 (R (.tup [.sl o z xs, .int k e])) H := by
  unfold finH
  rw [fixd_tup2]
  simp [fixV]
end
section
variable {P : Program} {K : KK} {s : List Fr} {E : En} {H : Heap} {tk : List Nat} {dst : Option Nat} {os : List VOp} {keep : List Nat}
theorem run_makeMap : runAct P .makeMap [] tk dst os keep s E H K = nextV P (.map H.length) tk dst os keep s E (H ++ [.map []]) K := by
  show (∃ r H', sMakeMap [] H = some (r, H') ∧ _) = _
  apply propext
  constructor
  · rintro ⟨r, H', h, k⟩; cases h; exact k
  · intro k; exact ⟨_, _, rfl, k⟩
end
theorem Leaves_nil (t : Ty) (o : Bool) (H : Heap) : T Try.prog 20 [.nilp, tyV o t] H (.tup [intsV true [], .int .i64 3]) H := by
  have key : ∀ R : V → Heap → Prop, R (.tup [intsV true [], .int .i64 3]) H → ∃ r H', T Try.prog 20 [.nilp, tyV o t] H r H' ∧ R r H' := by
    intro R hR
    refine T.of_H mix c_unify_Store_Leaves rfl ?_
    unfold v_unify_Store_Leaves
    simp only [go_sem, ↓reduceIte, List.append_assoc, gc_appN, gc_app0, set_appN, set_app0, ↓nil_nilp]
    exact out_app hR
  obtain ⟨r, H', hT, rfl, rfl⟩ := key (fun r H' => r = .tup [intsV true [], .int .i64 3] ∧ H' = H) ⟨rfl, rfl⟩
  exact hT
theorem Leaves_bad {H : Heap} {p q : Nat} {σ : Sub} {nx : Int} {tr dn : V} (hs : St H p q σ nx tr dn) (t : Ty) (hb : Bd t) (hr : rightB t = false) (o : Bool) : T Try.prog 20 [.ptr p 0 0, tyV o t] H (.tup [intsV true [], .int .i64 1]) H := by
  have key : ∀ R : V → Heap → Prop, R (.tup [intsV true [], .int .i64 1]) H → ∃ r H', T Try.prog 20 [.ptr p 0 0, tyV o t] H r H' ∧ R r H' := by
    intro R hR
    have h1 := right_T t hb false
    rw [hr] at h1
    refine T.of_H mix c_unify_Store_Leaves rfl ?_
    unfold v_unify_Store_Leaves
    have b1 := fun l => (hs.app l).1
    simp only [go_sem, ↓reduceIte, List.append_assoc, gc_appN, gc_app0, set_appN, set_app0, ↓nil_ptr, ↓b1, ↓nil_map]
    refine ⟨_, _, h1.frame rfl _, ?_⟩
    simp only [go_sem, ↓reduceIte, List.append_assoc, gc_appN, gc_app0, set_appN, set_app0]
    exact out_app hR
  obtain ⟨r, H', hT, rfl, rfl⟩ := key (fun r H' => r = .tup [intsV true [], .int .i64 1] ∧ H' = H) ⟨rfl, rfl⟩
  exact hT
theorem Leaves_T {H : Heap} {p q : Nat} {nx : Int} {tr dn : V} (hs : St H p q [] nx tr dn) (hx : Nx nx) {t : Ty} (hb : Bd t) (hr : Rt t) (o : Bool) :
    ∃ nx' l', Nx nx' ∧ T Try.prog 20 [.ptr p 0 0, tyV o t] H (.tup [intsV true l', .int .i64 0]) (H.set p (.cells 0 [.map q, .int .i64 nx', tr, dn])) := by
  have key : ∀ R : V → Heap → Prop, (∀ nx' l', Nx nx' → R (.tup [intsV true l', .int .i64 0]) (H.set p (.cells 0 [.map q, .int .i64 nx', tr, dn]))) → ∃ r H', T Try.prog 20 [.ptr p 0 0, tyV o t] H r H' ∧ R r H' := by
    intro R hR
    have h1 := right_T t hb false
    rw [(right_iff t).2 hr] at h1
    refine T.of_H mix c_unify_Store_Leaves rfl ?_
    unfold v_unify_Store_Leaves
    have b1 := fun l => (hs.app l).1
    simp only [go_sem, ↓reduceIte, List.append_assoc, gc_appN, gc_app0, set_appN, set_app0, ↓nil_ptr, ↓b1, ↓nil_map]
    refine ⟨_, _, h1.frame rfl _, ?_⟩
    simp only [go_sem, ↓reduceIte, List.append_assoc, gc_appN, gc_app0, set_appN, set_app0]
    obtain ⟨nx', hx', hT⟩ := sees_T t hb hr _ p q [] nx tr dn (hs.appS [.cells 0 (tyO o t)]) hx false
    rw [set_appL hs.lp] at hT
    refine ⟨_, _, hT, ?_⟩
    have hs2 := hs.setC nx' hs.ids
    have hlen : (H.set p (.cells 0 [.map q, .int .i64 nx', tr, dn])).length = H.length := List.length_set ..
    have hex : ∀ (l' : List Int) (l : Heap), outH H (R (.tup [intsV true l', .int .i64 0])) (H.set p (.cells 0 [.map q, .int .i64 nx', tr, dn]) ++ l) := fun l' l => out_set (hs.idsC nx' hs.ids) (hR nx' l' hx')
    generalize H.set p (.cells 0 [.map q, .int .i64 nx', tr, dn]) = A at hT hs2 hlen hex
    have hA : ∀ (l : Heap) (i v : Nat), getCells (A ++ l) (H.length + i) v = getCells l i v := fun l i v => by rw [← hlen]; exact gc_appN
    have hA0 : ∀ (l : Heap) (v : Nat), getCells (A ++ l) H.length v = getCells l 0 v := fun l v => hA l 0 v
    have hB : ∀ (l : Heap) (i : Nat) (o : Obj), (A ++ l).set (H.length + i) o = A ++ l.set i o := fun l i v => by rw [← hlen]; exact set_appN
    have hB0 : ∀ (l : Heap) (o : Obj), (A ++ l).set H.length o = A ++ l.set 0 o := fun l v => hB l 0 v
    simp only [go_sem, ↓reduceIte, List.append_assoc, hA, hA0, hB, hB0, hlen, ↓run_makeMap]
    obtain ⟨S', l', _, hT2⟩ := leaves_T t hb hr (A ++ [.cells 0 (tyO false t), .map []]) p q (H.length + 1) nx' tr dn [] [] (hs2.appS _)
      (by rw [← hlen, List.getElem?_append_right (by omega)]; simp [esN]) (by have := hs.lp; omega) (by have := hs.lq; omega) ⟨List.nodup_nil, (fun x h => by cases h), Nat.le_refl _⟩ o
    rw [hB] at hT2
    refine ⟨_, _, hT2, ?_⟩
    simp only [intsV, go_sem, ↓reduceIte, List.append_assoc, hA, hA0, hB, hB0, hlen]
    exact hex _ _
  obtain ⟨r, H', hT, nx', l', hx', rfl, rfl⟩ := key (fun r H' => ∃ nx' l', Nx nx' ∧ r = .tup [intsV true l', .int .i64 0] ∧ H' = H.set p (.cells 0 [.map q, .int .i64 nx', tr, dn])) fun nx' l' h => ⟨nx', l', h, rfl, rfl⟩
  exact ⟨nx', l', hx', hT⟩
theorem Unify_nil (t u : Ty) (o o' : Bool) (H : Heap) : T Try.prog 18 [.nilp, tyV o t, tyV o' u] H (.int .i64 3) H := by
  have key : ∀ R : V → Heap → Prop, R (.int .i64 3) H → ∃ r H', T Try.prog 18 [.nilp, tyV o t, tyV o' u] H r H' ∧ R r H' := by
    intro R hR
    refine T.of_H mix c_unify_Store_Unify rfl ?_
    unfold v_unify_Store_Unify
    simp only [go_sem, ↓reduceIte, List.append_assoc, gc_appN, gc_app0, set_appN, set_app0, ↓nil_nilp]
    exact out_app hR
  obtain ⟨r, H', hT, rfl, rfl⟩ := key (fun r H' => r = .int .i64 3 ∧ H' = H) ⟨rfl, rfl⟩
  exact hT
theorem Fresh_nil : ∃ o', T Try.prog 21 [.nilp] [] (tyV o' (vr 0)) [] := by
  have key : ∀ R : V → Prop, (∀ o', R (tyV o' (vr 0))) → ∃ r, T Try.prog 21 [.nilp] [] r [] ∧ R r := by
    intro R hR
    obtain ⟨o1, hT⟩ := var_T 0
    refine T.of0x mix c_unify_Store_Fresh rfl ?_
    unfold v_unify_Store_Fresh
    simp only [go_sem, ↓reduceIte, ↓nil_nilp]
    refine ⟨_, _, hT.frame rfl _, ?_⟩
    simp only [go_sem, ↓reduceIte]
    exact hR _
  obtain ⟨r, hT, o', rfl⟩ := key (fun r => ∃ o', r = tyV o' (vr 0)) fun o' => ⟨o', rfl⟩
  exact ⟨o', hT⟩
@[go_sem] theorem scal0_map {i : Nat} : scal0 (.map i) = true := (rfl)
@[go_sem] theorem plainC_map {i : Nat} : plainC (.map i) = true := (rfl)
@[go_sem] theorem plainC_nilmap : plainC .nilmap = true := (rfl)
/-- A new store behind a heap. -/
theorem New_T (H : Heap) : T Try.prog 19 [] H (.ptr (H.length + 1) 0 0) (H ++ [.map [], .cells 0 [.map H.length, .int .i64 0, .sl true 1 [], .nilmap]]) := by
  refine T.of_h mix c_unify_New (H.length + 2) rfl ?_
  unfold v_unify_New
  simp only [go_sem, ↓reduceIte, List.append_assoc, gc_appN, gc_app0, set_appN, set_app0, ↓run_makeMap]
  refine ⟨trivial, by omega, by simp, fun i ob hi hob => ?_, .ptr (H.length + 1) 0 0, by simp [resV, resL, res1, pack, En.f, getE_cons], .ptr (H.length + 1) 0 0, by simp [fixV], rfl, ?_⟩
  · by_cases h : i < H.length
    · rw [List.getElem?_append_left h] at hob; exact .inl hob
    · right
      rw [List.getElem?_append_right (by omega)] at hob
      rcases (by omega : i - H.length = 0 ∨ i - H.length = 1) with hj | hj
      · rw [hj] at hob; simp at hob; subst hob; rfl
      · rw [hj] at hob; simp at hob; subst hob; simp [idsO, idsL, idsV]
  · rw [List.take_of_length_le (by simp)]
theorem new_St (H : Heap) : St (H ++ [.map [], .cells 0 [.map H.length, .int .i64 0, .sl true 1 [], .nilmap]]) (H.length + 1) H.length [] 0 (.sl true 1 []) .nilmap :=
  ⟨by rw [gc_appN]; rfl, by rw [List.getElem?_append_right (Nat.le_refl _)]; simp [esS], by simp [idsL, idsV]⟩
theorem new_Cl {H : Heap} (h : Cl H) : Cl (H ++ [.map [], .cells 0 [.map H.length, .int .i64 0, .sl true 1 [], .nilmap]]) :=
  h.app (by simp [idsO, idsL, idsV])
/-- A function without a heap that is in the way. -/
theorem T.hp {P : Program} {f : Nat} {args : List V} {r : V} (h : T P f args [] r []) (hi : idsL 0 args = true) (H : Heap) : ∃ r' H', T P f args H r' H' ∧ r' = r ∧ H' = H := ⟨r, H, h.frame hi H, rfl, rfl⟩

theorem zero_litT : V.agg [V.int .i64 0, V.int .i64 0, V.str [], V.sl true 4 []] = tyV true zeroTy := rfl
theorem St.self {H : Heap} {p q : Nat} {σ : Sub} {nx : Int} {tr dn : V} (h : St H p q σ nx tr dn) : H.set p (.cells 0 [.map q, .int .i64 nx, tr, dn]) = H := by
  obtain ⟨h2, h3⟩ := List.getElem?_eq_some_iff.1 (gc_some.1 h.cells)
  rw [← h3]; simp
theorem good_nil : Good [] := ⟨(fun p h => by cases h), (fun p h => by cases h)⟩
theorem resolveW {H : Heap} {p q : Nat} {nx : Int} {tr dn : V} (hs : St H p q [] nx tr dn) (hcl : Cl H) (hx : Nx nx) {t : Ty} (hb : Bd t) (o : Bool) :
    ∃ y e nx', Nx nx' ∧ T Try.prog 11 [.ptr p 0 0, tyV o t] H (.tup [tyV false y, .int .i64 e]) (H.set p (.cells 0 [.map q, .int .i64 nx', tr, dn])) ∧ (e = 1 ↔ rightB t = false) ∧ (e = 0 ∨ y = zeroTy) := by
  cases hr : rightB t with
  | false =>
    refine ⟨zeroTy, 1, nx, hx, ?_, by simp, .inr rfl⟩
    rw [hs.self]
    exact Resolve_bad hs t hb hr o
  | true =>
    obtain ⟨f, hf⟩ := full_exists (σ := []) ⟨fun _ => 0, fun n u h => by cases h⟩ t
    obtain ⟨nx', hx', hT⟩ := Resolve_T good_nil hs hcl hx hb ((right_iff t).1 hr) hf o
    unfold resR at hT
    split at hT
    · exact ⟨zeroTy, 102, nx', hx', hT, by simp, .inr rfl⟩
    · exact ⟨_, 0, nx', hx', hT, by simp, .inl rfl⟩
theorem leavesW {H : Heap} {p q : Nat} {nx : Int} {tr dn : V} (hs : St H p q [] nx tr dn) (hx : Nx nx) {t : Ty} (hb : Bd t) (o : Bool) :
    ∃ l e nx', Nx nx' ∧ T Try.prog 20 [.ptr p 0 0, tyV o t] H (.tup [intsV true l, .int .i64 e]) (H.set p (.cells 0 [.map q, .int .i64 nx', tr, dn])) ∧ (e = 1 ↔ rightB t = false) ∧ (e = 0 ∨ l = []) := by
  cases hr : rightB t with
  | false =>
    refine ⟨[], 1, nx, hx, ?_, by simp, .inr rfl⟩
    rw [hs.self]
    exact Leaves_bad hs t hb hr o
  | true =>
    obtain ⟨nx', l, hx', hT⟩ := Leaves_T hs hx hb ((right_iff t).1 hr) o
    exact ⟨l, 0, nx', hx', hT, by simp, .inl rfl⟩

theorem nil_T (a b : Ty) (hb : Bd a) (hb' : Bd b) : T Try.prog 7 [tyV false a, tyV false b] [] (.bool true) [] := by
  have hk := known_T
  have hz : Bd zeroTy := .mk (by simp) fun a h => by cases h
  have hR := refRight_T a hb false
  obtain ⟨o9, hfr⟩ := Fresh_nil
  obtain ⟨o8, hv0⟩ := refVar_T 0
  refine T.of0 mix c_l10_UnifyNil rfl ?_
  unfold v_l10_UnifyNil
  simp only [go_sem, ↓reduceIte]
  refine ⟨_, _, Resolve_nil a false _, ?_⟩
  simp only [go_sem, ↓reduceIte]
  refine ⟨_, _, Leaves_nil a false _, ?_⟩
  simp only [intsV, go_sem, ↓reduceIte]
  refine ⟨_, _, New_T _, ?_⟩
  simp only [go_sem, ↓reduceIte, ↓nil_ptr]
  have hst : St [Obj.cells 0 (tyO false a), Obj.cells 0 (tyO false b), Obj.cells 0 (tyO false zeroTy), Obj.map [], Obj.cells 0 [V.map 3, V.int .i64 0, V.sl true 1 [], V.nilmap]] 4 3 [] 0 (.sl true 1 []) .nilmap :=
    new_St [Obj.cells 0 (tyO false a), Obj.cells 0 (tyO false b), Obj.cells 0 (tyO false zeroTy)]
  have hcl : Cl [Obj.cells 0 (tyO false a), Obj.cells 0 (tyO false b), Obj.cells 0 (tyO false zeroTy), Obj.map [], Obj.cells 0 [V.map 3, V.int .i64 0, V.sl true 1 [], V.nilmap]] := by
    unfold Cl; simp [idsO, idsL, idsV, tyO]
  obtain ⟨y, e, nx1, hx1, hT, he1, he2⟩ := resolveW hst hcl (by unfold Nx; omega) hb false
  have hst2 := hst.setC nx1 hst.ids
  simp only [List.set_cons_succ, List.set_cons_zero] at hT hst2
  refine ⟨_, _, hT, ?_⟩
  simp only [go_sem, ↓reduceIte]
  refine ⟨_, _, hR.frame rfl _, ?_⟩
  simp only [go_sem, ↓reduceIte]
  obtain ⟨l, e3, nx2, hx2, hT2, he3, he4⟩ := leavesW (hst2.appS [Obj.cells 0 (tyO false y)]) hx1 hb false
  simp only [List.set_cons_succ, List.set_cons_zero, List.cons_append, List.nil_append] at hT2
  refine ⟨_, _, hT2, ?_⟩
  have hE := fun o o' => refSame_T zeroTy hz zeroTy hz o o'
  rw [(tyEq_iff zeroTy zeroTy).2 rfl] at hE
  have hV := fun o o' => refSame_T (vr 0) (bd_vr 0) (vr 0) (bd_vr 0) o o'
  rw [(tyEq_iff (vr 0) (vr 0)).2 rfl] at hV
  have e33 : ((3 : Int) != 3) = false := rfl
  have e3' : ((3 : Int) == 3) = true := rfl
  have q1 : (((e3 == 1) == rightB a && true) != false) = false := by
    cases hrb : rightB a with
    | false => rw [he3.2 hrb]; rfl
    | true =>
      have : e3 ≠ 1 := fun h => by rw [he3.1 h] at hrb; cases hrb
      simp [this]
  have q2 : (((e == 1) == !rightB a && true) != false) = true := by
    cases hrb : rightB a with
    | false => rw [he1.2 hrb]; rfl
    | true =>
      have : e ≠ 1 := fun h => by rw [he1.1 h] at hrb; cases hrb
      simp [this]
  have q3 : ((e3 != 0) = true → l = []) := fun h => he4.resolve_left (by simpa using h)
  have q4 : ((e == 0) = false → y = zeroTy) := fun h => he2.resolve_left (by simpa using h)
  simp only [intsV, go_sem, ↓reduceIte, e33, q1, forall_const, false_implies, true_and, and_true, Bool.false_eq_true, Bool.true_eq_false]
  have hl0 : (e3 != 0) = true → ((l.length : Int) != 0) = false := fun h => by rw [q3 h]; rfl
  refine ⟨fun hne => ⟨(fun h => by rw [hl0 hne] at h; cases h), fun _ => ?_⟩, fun _ => ?_⟩
  all_goals
    refine ⟨_, _, Unify_nil a b false false _, ?_⟩
    simp only [go_sem, ↓reduceIte, e3', zero_lit, zero_litT, forall_const, false_implies, true_and, and_true, Bool.false_eq_true, Bool.true_eq_false]
    refine ⟨_, _, (hE false true).frame rfl _, ?_⟩
    simp only [go_sem, ↓reduceIte]
    refine ⟨_, _, hfr.frame rfl _, ?_⟩
    simp only [go_sem, ↓reduceIte]
    refine ⟨_, _, hv0.frame rfl _, ?_⟩
    simp only [go_sem, ↓reduceIte]
    refine ⟨_, _, (hV o9 o8).frame rfl _, ?_⟩
    simp only [go_sem, ↓reduceIte, q2, forall_const, false_implies, true_and, and_true, Bool.false_eq_true, Bool.true_eq_false]
  all_goals
    refine ⟨fun h0 => ?_, fun _ => ⟨_, _, known_H _, by simp only [go_sem, ↓reduceIte]⟩⟩
    rw [q4 h0, zero_litT]
    refine ⟨_, _, (hE false true).frame rfl _, ?_⟩
    simp only [go_sem, ↓reduceIte]
    exact ⟨_, _, known_H _, by simp only [go_sem, ↓reduceIte]⟩
theorem nil_Tc (a b : Ty) (hb : Bd a) (hb' : Bd b) : T Try.prog 7 [.agg (tyC a), .agg (tyC b)] [] (.bool true) [] := by rw [tyC_agg, tyC_agg]; exact nil_T a b hb hb'
end Go.Proofs.Ytneonbdlgmaofaa.Vm
namespace Go.Proofs.Ytneonbdlgmaofaa.Vm
open Go
set_option linter.unusedSimpArgs false

def esD (D : List (Int × Int)) : List (V × V) := D.map fun p => (.agg [.int .i64 p.1, .int .i64 p.2], .bool true)
/-- The store while types are made the same. -/
structure SU (H : Heap) (p q d : Nat) (σ : Sub) (nx : Int) (Tr : List Int) (D : List (Int × Int)) : Prop where
  st : St H p q σ nx (intsV true Tr) (.map d)
  dn : H[d]? = some (.map (esD D))
  dq : d ≠ q
  room : Tr.length + cnt σ ≤ 1073741825
theorem SU.ld {H : Heap} {p q d : Nat} {σ : Sub} {nx : Int} {Tr : List Int} {D : List (Int × Int)} (h : SU H p q d σ nx Tr D) : d < H.length := (List.getElem?_eq_some_iff.1 h.dn).1
theorem SU.pq {H : Heap} {p q d : Nat} {σ : Sub} {nx : Int} {Tr : List Int} {D : List (Int × Int)} (h : SU H p q d σ nx Tr D) : p ≠ q := by
  rintro rfl
  have h1 := gc_some.1 h.st.cells
  rw [h.st.map] at h1; cases h1
theorem SU.pd {H : Heap} {p q d : Nat} {σ : Sub} {nx : Int} {Tr : List Int} {D : List (Int × Int)} (h : SU H p q d σ nx Tr D) : p ≠ d := by
  rintro rfl
  have h1 := gc_some.1 h.st.cells
  rw [h.dn] at h1; cases h1
theorem SU.app {H : Heap} {p q d : Nat} {σ : Sub} {nx : Int} {Tr : List Int} {D : List (Int × Int)} (h : SU H p q d σ nx Tr D) (l : Heap) : SU (H ++ l) p q d σ nx Tr D :=
  ⟨h.st.appS l, by rw [List.getElem?_append_left h.ld]; exact h.dn, h.dq, h.room⟩
/-- Only the store has changed. -/
def Upd (p q d : Nat) (H H' : Heap) : Prop := H'.length = H.length ∧ ∀ i, i ≠ p → i ≠ q → i ≠ d → H'[i]? = H[i]?
theorem Upd.refl (p q d : Nat) (H : Heap) : Upd p q d H H := ⟨rfl, fun _ _ _ _ => rfl⟩
theorem Upd.trans {p q d : Nat} {A B C : Heap} (h : Upd p q d A B) (k : Upd p q d B C) : Upd p q d A C := ⟨k.1.trans h.1, fun i h1 h2 h3 => (k.2 i h1 h2 h3).trans (h.2 i h1 h2 h3)⟩
theorem Upd.split {p q d : Nat} {H l H' : Heap} (h : Upd p q d (H ++ l) H') (hp : p < H.length) (hq : q < H.length) (hd : d < H.length) : ∃ H1, H' = H1 ++ l ∧ Upd p q d H H1 := by
  have hl := h.1
  rw [List.length_append] at hl
  refine ⟨H'.take H.length, ?_, by simp; omega, fun i h1 h2 h3 => ?_⟩
  · apply List.ext_getElem?
    intro i
    by_cases hi : i < H.length
    · rw [List.getElem?_append_left (by simp; omega), List.getElem?_take, if_pos hi]
    · rw [h.2 i (by omega) (by omega) (by omega), List.getElem?_append_right (by omega), List.getElem?_append_right (by simp; omega)]
      congr 1
      simp; omega
  · by_cases hi : i < H.length
    · rw [List.getElem?_take, if_pos hi, h.2 i h1 h2 h3, List.getElem?_append_left hi]
    · rw [List.getElem?_eq_none (by simp; omega), List.getElem?_eq_none (by omega)]
theorem Upd.set {p q d : Nat} {H : Heap} {i : Nat} (hi : i = p ∨ i = q ∨ i = d) (o : Obj) : Upd p q d H (H.set i o) := by
  refine ⟨by simp, fun j h1 h2 h3 => ?_⟩
  rw [List.getElem?_set_ne]
  rcases hi with rfl | rfl | rfl
  · exact fun e => h1 e.symm
  · exact fun e => h2 e.symm
  · exact fun e => h3 e.symm
theorem idsS (m : Nat) (σ : Sub) : idsO m (.map (esS σ)) = true := by
  have h1 : ∀ L : Sub, idsL m (L.map fun p => V.int .i64 p.1) = true := fun L => by induction L with | nil => rfl | cons a L ih => simp [idsL, idsV, ih]
  have h2 : ∀ L : Sub, idsL m (L.map fun p => tyV false p.2) = true := fun L => by
    induction L with
    | nil => rfl
    | cons a L ih => rw [List.map_cons, idsL, ih]; rfl
  simp only [idsO, esS, List.map_map, Function.comp_def, h1, h2, Bool.and_self]
theorem idsD (m : Nat) (D : List (Int × Int)) : idsO m (.map (esD D)) = true := by
  have h1 : ∀ L : List (Int × Int), idsL m (L.map fun p => V.agg [.int .i64 p.1, .int .i64 p.2]) = true := fun L => by induction L with | nil => rfl | cons a L ih => simp [idsL, idsV, ih]
  have h2 : ∀ L : List (Int × Int), idsL m (L.map fun _ => V.bool true) = true := fun L => by induction L with | nil => rfl | cons a L ih => simp [idsL, idsV, ih]
  simp only [idsO, esD, List.map_map, Function.comp_def, h1, h2, Bool.and_self]
theorem SU.same {H H1 : Heap} {p q d : Nat} {σ : Sub} {nx : Int} {Tr : List Int} {D : List (Int × Int)} (h : SU H1 p q d σ nx Tr D) (hu : Upd p q d H H1) : SameK H H1 := by
  intro i ob hi
  have hlq := h.st.lq
  have hld := h.ld
  rw [hu.1] at hlq hld
  by_cases h1 : i = p
  · subst h1
    rw [gc_some.1 h.st.cells] at hi
    cases hi
    right; simp [idsO, idsL, idsV, intsV, hlq, hld]
  · by_cases h2 : i = q
    · subst h2; rw [h.st.map] at hi; cases hi; exact .inr (idsS _ _)
    · by_cases h3 : i = d
      · subst h3; rw [h.dn] at hi; cases hi; exact .inr (idsD _ _)
      · left; rw [← hu.2 i h1 h2 h3]; exact hi
theorem SU.out {H H1 : Heap} {p q d : Nat} {σ : Sub} {nx : Int} {Tr : List Int} {D : List (Int × Int)} {Q : Heap → Prop} (h : SU H1 p q d σ nx Tr D) (hu : Upd p q d H H1) (l : Heap) (hQ : Q H1) : outH H Q (H1 ++ l) :=
  ⟨H1, l, rfl, hu.1, h.same hu, hQ⟩
def bindH (H : Heap) (p q : Nat) (σ : Sub) (nx : Int) (Tr : List Int) (dn : V) (n : Int) (t : Ty) : Heap := (H.set q (.map (esS (σ ++ [(n, t)])))).set p (.cells 0 [.map q, .int .i64 nx, intsV true (Tr ++ [n]), dn])
theorem SU.bind {H : Heap} {p q d : Nat} {σ : Sub} {nx : Int} {Tr : List Int} {D : List (Int × Int)} (h : SU H p q d σ nx Tr D) {n : Int} {t : Ty} (hn : look σ n = none) (h0 : 0 ≤ n) (h1 : n ≤ 1073741824) :
    SU (bindH H p q σ nx Tr (.map d) n t) p q d (σ ++ [(n, t)]) nx (Tr ++ [n]) D ∧ Upd p q d H (bindH H p q σ nx Tr (.map d) n t) := by
  have hlp := h.st.lp
  have hlq := h.st.lq
  have hld := h.ld
  refine ⟨⟨⟨gc_same (by simpa using hlp), ?_, by simp [bindH, idsL, idsV, intsV, hld]⟩, ?_, h.dq, ?_⟩, (Upd.set (.inr (.inl rfl)) _).trans (Upd.set (.inl rfl) _)⟩
  · unfold bindH
    rw [List.getElem?_set_ne h.pq]; simp [hlq]
  · unfold bindH
    rw [List.getElem?_set_ne h.pd, List.getElem?_set_ne h.dq.symm]; exact h.dn
  · have := cnt_lt (More.app σ [(n, t)]) h0 h1 hn (by rw [look_app, hn]; simp [look])
    have := h.room
    simp; omega
theorem bind_T {H : Heap} {p q d : Nat} {σ : Sub} {nx : Int} {Tr : List Int} {D : List (Int × Int)} (h : SU H p q d σ nx Tr D) {n : Int} {t : Ty} (hn : look σ n = none) (h0 : 0 ≤ n) (h1 : n ≤ 1073741824) (o : Bool) :
    T Try.prog 40 [.ptr p 0 0, .int .i64 n, tyV o t] H (.tup []) (bindH H p q σ nx Tr (.map d) n t) := by
  have key : ∀ R : V → Heap → Prop, R (.tup []) (bindH H p q σ nx Tr (.map d) n t) → ∃ r H', T Try.prog 40 [.ptr p 0 0, .int .i64 n, tyV o t] H r H' ∧ R r H' := by
    intro R hR
    obtain ⟨h2, h3⟩ := h.bind (t := t) hn h0 h1
    have hout := fun l => h2.out (Q := R (.tup [])) h3 l hR
    unfold bindH at hout
    refine T.of_H mix c_unify_Store_bind rfl ?_
    unfold v_unify_Store_bind
    have b1 := fun L => (h.st.app L).1
    have b2 := fun L => (h.st.app L).2
    have b3 : ∀ o L, getCells (H.set q o ++ L) p 0 = some [.map q, .int .i64 nx, intsV true Tr, .map d] := fun o L => by
      rw [gc_app (by simpa using h.st.lp), gc_ne h.pq.symm]; exact h.st.cells
    have hroom := h.room
    have hfit : fits (Tr.length + 1) 8 := ⟨by omega, by omega⟩
    simp only [go_sem, ↓reduceIte, List.append_assoc, gc_appN, gc_app0, set_appN, set_app0, ↓b1, ↓update_new (b2 _) hn, set_appL h.st.lq]
    have hlpA : p < (H.set q (.map (esS (σ ++ [(n, t)])))).length := by simpa using h.st.lp
    have b3' := b3 (.map (esS (σ ++ [(n, t)])))
    generalize H.set q (.map (esS (σ ++ [(n, t)]))) = A at hlpA b3' hout
    have b4 : ∀ c L, getCells (A.set p (.cells 0 c) ++ L) p 0 = some c := fun c L => by rw [gc_app (by simpa using hlpA)]; exact gc_same hlpA
    have b5 : ∀ o L, (A ++ L).set p o = A.set p o ++ L := fun o L => set_appL hlpA
    have b6 : ∀ o o' L, (A.set p o ++ L).set p o' = A.set p o' ++ L := fun o o' L => by rw [set_appL (by simpa using hlpA), List.set_set]
    simp only [go_sem, ↓reduceIte, ↓b3', b4, b5, b6, intsV, List.length_map, hfit]
    rw [intsV, List.map_append] at hout
    exact hout _
  obtain ⟨r, H', hT, rfl, rfl⟩ := key (fun r H' => r = .tup [] ∧ H' = bindH H p q σ nx Tr (.map d) n t) ⟨rfl, rfl⟩
  exact hT
theorem becomes_T {H : Heap} {p q d : Nat} {σ : Sub} {nx : Int} {Tr : List Int} {D : List (Int × Int)} (h : SU H p q d σ nx Tr D) (hg : Good σ) (ha : Acyc σ) {n : Int} {t : Ty} (hn : look σ n = none) (h0 : 0 ≤ n) (h1 : n ≤ 1073741824)
    (hr : Rt t) (hb : Bd t) (o : Bool) :
    (FOcc σ n t → T Try.prog 41 [.ptr p 0 0, .int .i64 n, tyV o t] H (.int .i64 101) H) ∧ (¬ FOcc σ n t → T Try.prog 41 [.ptr p 0 0, .int .i64 n, tyV o t] H (.int .i64 0) (bindH H p q σ nx Tr (.map d) n t)) := by
  have key : ∀ R : V → Heap → Prop, (FOcc σ n t → R (.int .i64 101) H) → (¬ FOcc σ n t → R (.int .i64 0) (bindH H p q σ nx Tr (.map d) n t)) → ∃ r H', T Try.prog 41 [.ptr p 0 0, .int .i64 n, tyV o t] H r H' ∧ R r H' := by
    intro R hR1 hR2
    obtain ⟨rk, hrk⟩ := ha
    obtain ⟨f, hf⟩ := full_exists ⟨rk, hrk⟩ t
    obtain ⟨S', b, hT, h2, h3⟩ := occurs_T hg hrk hn hf hr hb (H ++ [.cells 0 (tyO o t), .map []]) p q (H.length + 1) nx (intsV true Tr) (.map d) [] (h.st.appS _)
      (by rw [List.getElem?_append_right (by omega)]; simp [esN]) (by have := h.st.lp; omega) (by have := h.st.lq; omega) (fun v hv => by cases hv) false
    rw [set_appN] at hT
    refine T.of_H mix c_unify_Store_becomes rfl ?_
    unfold v_unify_Store_becomes
    simp only [go_sem, ↓reduceIte, List.append_assoc, gc_appN, gc_app0, set_appN, set_app0, ↓run_makeMap]
    refine ⟨_, _, hT, ?_⟩
    simp only [go_sem, ↓reduceIte, List.append_assoc, gc_appN, gc_app0, set_appN, set_app0]
    refine ⟨fun hbt => out_app (hR1 (h2.1 hbt)), fun hbf => ?_⟩
    have hno : ¬ FOcc σ n t := fun hc => by rw [h2.2 hc] at hbf; cases hbf
    have hb2 := bind_T (h.app [.cells 0 (tyO false t), .map (esN S')]) (t := t) hn h0 h1 o
    have e : bindH (H ++ [.cells 0 (tyO false t), .map (esN S')]) p q σ nx Tr (.map d) n t = bindH H p q σ nx Tr (.map d) n t ++ [.cells 0 (tyO false t), .map (esN S')] := by
      unfold bindH
      rw [set_appL h.st.lq, set_appL (by simpa using h.st.lp)]
    rw [e] at hb2
    refine ⟨_, _, hb2, ?_⟩
    obtain ⟨k1, k2⟩ := h.bind (t := t) hn h0 h1
    exact k1.out k2 _ (hR2 hno)
  constructor
  · intro hc
    obtain ⟨r, H', hT, h2⟩ := key (fun r H' => r = .int .i64 101 ∧ H' = H) (fun _ => ⟨rfl, rfl⟩) (fun hn => absurd hc hn)
    obtain ⟨rfl, rfl⟩ := h2
    exact hT
  · intro hc
    obtain ⟨r, H', hT, h2⟩ := key (fun r H' => r = .int .i64 0 ∧ H' = bindH H p q σ nx Tr (.map d) n t) (fun h => absurd h hc) (fun _ => ⟨rfl, rfl⟩)
    obtain ⟨rfl, rfl⟩ := h2
    exact hT
end Go.Proofs.Ytneonbdlgmaofaa.Vm
namespace Go.Proofs.Ytneonbdlgmaofaa.Vm
open Go
set_option linter.unusedSimpArgs false

structure SubOk (σ : Sub) : Prop where
  good : Good σ
  keys : KeyOk σ
  acyc : Acyc σ
def EqvD (σ : Sub) (D : List (Int × Int)) : Prop := ∀ p ∈ D, Eqv σ (vr p.1) (vr p.2)
/-- How the store stands behind. -/
def PostU (H H' : Heap) (p q d : Nat) (σ σ1 : Sub) (nx : Int) (Tr : List Int) (e : Int) : Prop :=
  ∃ τ D', σ1 = σ ++ τ ∧ SU H' p q d σ1 nx (Tr ++ τ.map (·.1)) D' ∧ Upd p q d H H' ∧ (e = 0 → EqvD σ1 D')
def FnT (f : Nat) (σ : Sub) (a b : Ty) (σ1 : Sub) (e : Int) : Prop := ∀ (H : Heap) (p q d : Nat) (nx : Int) (Tr : List Int) (D : List (Int × Int)) (o o' : Bool), SU H p q d σ nx Tr D → EqvD σ D →
  ∃ H', T Try.prog f [.ptr p 0 0, tyV o a, tyV o' b] H (.int .i64 e) H' ∧ PostU H H' p q d σ σ1 nx Tr e
theorem FnT.of {f : Nat} {σ : Sub} {a b : Ty} {σ1 : Sub} {e : Int} (h : ∀ (H : Heap) (p q d : Nat) (nx : Int) (Tr : List Int) (D : List (Int × Int)) (o o' : Bool), SU H p q d σ nx Tr D → EqvD σ D →
    ∀ R : V → Heap → Prop, (∀ H', PostU H H' p q d σ σ1 nx Tr e → R (.int .i64 e) H') → ∃ r H', T Try.prog f [.ptr p 0 0, tyV o a, tyV o' b] H r H' ∧ R r H') : FnT f σ a b σ1 e := by
  intro H p q d nx Tr D o o' hs hD
  obtain ⟨r, H', hT, h2⟩ := h H p q d nx Tr D o o' hs hD (fun r H' => r = .int .i64 e ∧ PostU H H' p q d σ σ1 nx Tr e) fun H' h => ⟨rfl, h⟩
  obtain ⟨rfl, h3⟩ := h2
  exact ⟨H', hT, h3⟩
theorem post_refl {H : Heap} {p q d : Nat} {σ : Sub} {nx : Int} {Tr : List Int} {D : List (Int × Int)} (hs : SU H p q d σ nx Tr D) (hD : EqvD σ D) (e : Int) : PostU H H p q d σ σ nx Tr e :=
  ⟨[], D, by simp, by simpa using hs, Upd.refl .., fun _ => hD⟩
theorem post_bind {H : Heap} {p q d : Nat} {σ : Sub} {nx : Int} {Tr : List Int} {D : List (Int × Int)} (hs : SU H p q d σ nx Tr D) (hD : EqvD σ D) {n : Int} {t : Ty} (hn : look σ n = none) (h0 : 0 ≤ n) (h1 : n ≤ 1073741824) (ha : Acyc (σ ++ [(n, t)])) (e : Int) :
    PostU H (bindH H p q σ nx Tr (.map d) n t) p q d σ (σ ++ [(n, t)]) nx Tr e := by
  obtain ⟨h2, h3⟩ := hs.bind (t := t) hn h0 h1
  exact ⟨[(n, t)], D, rfl, h2, h3, fun _ p hp => (hD p hp).more (More.app _ _) ha⟩
theorem PostU.out {H H' : Heap} {p q d : Nat} {σ σ1 : Sub} {nx : Int} {Tr : List Int} {e : Int} {Q : Heap → Prop} (h : PostU H H' p q d σ σ1 nx Tr e) (l : Heap) (hQ : Q H') : outH H Q (H' ++ l) := by
  obtain ⟨τ, D', _, h1, h2, _⟩ := h
  exact h1.out h2 l hQ
theorem alike_vv {σ : Sub} {x y : Ty} (kx : x.k = 1) (ky : y.k = 1) (hn : x.n = y.n) : FnT 37 σ x y σ 0 := by
  refine FnT.of fun H p q d nx Tr D o o' hs hD R hR => ?_
  have kx' : (x.k == 1) = true := by simpa using kx
  have ky' : (y.k == 1) = true := by simpa using ky
  have hn' : (x.n != y.n) = false := by simpa using hn
  refine T.of_H mix c_unify_Store_alike rfl ?_
  unfold v_unify_Store_alike
  simp only [go_sem, ↓reduceIte, List.append_assoc, gc_appN, gc_app0, set_appN, set_app0, kx', ky', hn', forall_const, true_and, Bool.true_eq_false, Bool.false_eq_true, false_implies, and_true]
  exact out_app (hR H (post_refl hs hD 0))
theorem alike_bind {σ : Sub} (hok : SubOk σ) {x y : Ty} (kx : x.k = 1) (ky : y.k = 1) (hn : x.n ≠ y.n) (lx : look σ x.n = none) (ly : look σ y.n = none) (rx : Rt x) (ry : Rt y) : FnT 37 σ x y (σ ++ [(max x.n y.n, vr (min x.n y.n))]) 0 := by
  refine FnT.of fun H p q d nx Tr D o o' hs hD R hR => ?_
  have kx' : (x.k == 1) = true := by simpa using kx
  have ky' : (y.k == 1) = true := by simpa using ky
  have hn' : (x.n != y.n) = true := by simpa using hn
  have vx := rx.var1 kx
  have vy := ry.var1 ky
  have hm : look σ (max x.n y.n) = none ∧ 0 ≤ max x.n y.n ∧ max x.n y.n ≤ 1073741824 ∧ Acyc (σ ++ [(max x.n y.n, vr (min x.n y.n))]) := by
    rcases Int.le_total x.n y.n with h | h
    · rw [Int.max_eq_right h, Int.min_eq_left h]
      exact ⟨ly, vy.2.1, vy.2.2, acyc_bind hok.acyc ly (not_focc_var lx hn)⟩
    · rw [Int.max_eq_left h, Int.min_eq_right h]
      exact ⟨lx, vx.2.1, vx.2.2, acyc_bind hok.acyc lx (not_focc_var ly (Ne.symm hn))⟩
  have hp := post_bind hs hD (t := vr (min x.n y.n)) hm.1 hm.2.1 hm.2.2.1 hm.2.2.2 0
  obtain ⟨o1, hv⟩ := var_T (min x.n y.n)
  have hb := bind_T (hs.app [.cells 0 (tyO o x), .cells 0 (tyO o' y)]) (t := vr (min x.n y.n)) hm.1 hm.2.1 hm.2.2.1 o1
  have e : bindH (H ++ [.cells 0 (tyO o x), .cells 0 (tyO o' y)]) p q σ nx Tr (.map d) (max x.n y.n) (vr (min x.n y.n)) = bindH H p q σ nx Tr (.map d) (max x.n y.n) (vr (min x.n y.n)) ++ [.cells 0 (tyO o x), .cells 0 (tyO o' y)] := by
    unfold bindH
    rw [set_appL hs.st.lq, set_appL (by simpa using hs.st.lp)]
  rw [e] at hb
  refine T.of_H mix c_unify_Store_alike rfl ?_
  unfold v_unify_Store_alike
  simp only [go_sem, ↓reduceIte, List.append_assoc, gc_appN, gc_app0, set_appN, set_app0, kx', ky', hn', ↓run_max64, ↓run_min64, forall_const, true_and, Bool.true_eq_false, Bool.false_eq_true, false_implies, and_true]
  refine ⟨_, hv, rfl, _, _, hb, ?_⟩
  exact hp.out _ (hR _ hp)
theorem alike_v {σ : Sub} (hok : SubOk σ) {x y : Ty} (kx : x.k = 1) (ky : y.k ≠ 1) (lx : look σ x.n = none) (rx : Rt x) (ry : Rt y) (by' : Bd y) :
    (FOcc σ x.n y → FnT 37 σ x y σ 101 ∧ FnT 37 σ y x σ 101) ∧ (¬ FOcc σ x.n y → FnT 37 σ x y (σ ++ [(x.n, y)]) 0 ∧ FnT 37 σ y x (σ ++ [(x.n, y)]) 0) := by
  have kx' : (x.k == 1) = true := by simpa using kx
  have ky' : (y.k == 1) = false := by simpa using ky
  have vx := rx.var1 kx
  have eB : ∀ (H : Heap) (p q d : Nat) (nx : Int) (Tr : List Int) (D : List (Int × Int)) (l : Heap), SU H p q d σ nx Tr D → bindH (H ++ l) p q σ nx Tr (.map d) x.n y = bindH H p q σ nx Tr (.map d) x.n y ++ l := by
    intro H p q d nx Tr D l hs
    unfold bindH
    rw [set_appL hs.st.lq, set_appL (by simpa using hs.st.lp)]
  refine ⟨fun ho => ⟨?_, ?_⟩, fun ho => ⟨?_, ?_⟩⟩
  all_goals
    refine FnT.of fun H p q d nx Tr D o o' hs hD R hR => ?_
    refine T.of_H mix c_unify_Store_alike rfl ?_
    unfold v_unify_Store_alike
    simp only [go_sem, ↓reduceIte, List.append_assoc, gc_appN, gc_app0, set_appN, set_app0, kx', ky', forall_const, true_and, Bool.true_eq_false, Bool.false_eq_true, false_implies, and_true]
  · refine ⟨_, _, (becomes_T (hs.app [.cells 0 (tyO o x), .cells 0 (tyO false y)]) hok.good hok.acyc lx vx.2.1 vx.2.2 ry by' o').1 ho, ?_⟩
    simp only [go_sem, ↓reduceIte]
    exact out_app (hR H (post_refl hs hD 101))
  · refine ⟨_, _, (becomes_T (hs.app [.cells 0 (tyO false y), .cells 0 (tyO o' x)]) hok.good hok.acyc lx vx.2.1 vx.2.2 ry by' o).1 ho, ?_⟩
    simp only [go_sem, ↓reduceIte]
    exact out_app (hR H (post_refl hs hD 101))
  · have hp := post_bind hs hD (t := y) lx vx.2.1 vx.2.2 (acyc_bind hok.acyc lx ho) 0
    have hb := (becomes_T (hs.app [.cells 0 (tyO o x), .cells 0 (tyO false y)]) hok.good hok.acyc lx vx.2.1 vx.2.2 ry by' o').2 ho
    rw [eB H p q d nx Tr D _ hs] at hb
    refine ⟨_, _, hb, ?_⟩
    simp only [go_sem, ↓reduceIte]
    exact hp.out _ (hR _ hp)
  · have hp := post_bind hs hD (t := y) lx vx.2.1 vx.2.2 (acyc_bind hok.acyc lx ho) 0
    have hb := (becomes_T (hs.app [.cells 0 (tyO false y), .cells 0 (tyO o' x)]) hok.good hok.acyc lx vx.2.1 vx.2.2 ry by' o).2 ho
    rw [eB H p q d nx Tr D _ hs] at hb
    refine ⟨_, _, hb, ?_⟩
    simp only [go_sem, ↓reduceIte]
    exact hp.out _ (hR _ hp)
theorem alike_clash {σ : Sub} {x y : Ty} (kx : x.k ≠ 1) (ky : y.k ≠ 1) (hc : ¬ (x.k = y.k ∧ x.s = y.s ∧ x.as.length = y.as.length)) : FnT 37 σ x y σ 100 := by
  refine FnT.of fun H p q d nx Tr D o o' hs hD R hR => ?_
  have kx' : (x.k == 1) = false := by simpa using kx
  have ky' : (y.k == 1) = false := by simpa using ky
  have hout : ∀ l, outH H (R (.int .i64 100)) (H ++ l) := fun l => out_app (hR H (post_refl hs hD 100))
  refine T.of_H mix c_unify_Store_alike rfl ?_
  unfold v_unify_Store_alike
  by_cases e1 : x.k = y.k
  · have e1' : (x.k != y.k) = false := by simpa using e1
    by_cases e2 : x.s = y.s
    · have e2' : (!x.s == y.s) = false := by simpa using e2
      have e3 : x.as.length ≠ y.as.length := fun h => hc ⟨e1, e2, h⟩
      have e3' : ((x.as.length : Int) != (y.as.length : Int)) = true := by simp; omega
      simp only [go_sem, ↓reduceIte, List.append_assoc, gc_appN, gc_app0, set_appN, set_app0, kx', ky', e1', e2', e3', forall_const, true_and, Bool.true_eq_false, Bool.false_eq_true, false_implies, and_true]
      exact hout _
    · have e2' : (!x.s == y.s) = true := by simpa using e2
      simp only [go_sem, ↓reduceIte, List.append_assoc, gc_appN, gc_app0, set_appN, set_app0, kx', ky', e1', e2', forall_const, true_and, Bool.true_eq_false, Bool.false_eq_true, false_implies, and_true]
      exact hout _
  · have e1' : (x.k != y.k) = true := by simpa using e1
    simp only [go_sem, ↓reduceIte, List.append_assoc, gc_appN, gc_app0, set_appN, set_app0, kx', ky', e1', forall_const, true_and, Bool.true_eq_false, Bool.false_eq_true, false_implies, and_true]
    exact hout _
/-- Pairs that are made the same one behind the other, up to the first that can't be. -/
def Row : List (Ty × Ty) → Sub → Sub → Int → Prop
  | [], σ, σ', e => σ' = σ ∧ e = 0
  | (a, b) :: l, σ, σ', e => ∃ σ1 e1, FnT 30 σ a b σ1 e1 ∧ ((e1 ≠ 0 ∧ σ' = σ1 ∧ e = e1) ∨ (e1 = 0 ∧ Row l σ1 σ' e))
theorem SU.unapp {H l : Heap} {p q d : Nat} {σ : Sub} {nx : Int} {Tr : List Int} {D : List (Int × Int)} (h : SU (H ++ l) p q d σ nx Tr D) (hp : p < H.length) (hq : q < H.length) (hd : d < H.length) : SU H p q d σ nx Tr D :=
  ⟨⟨by rw [← gc_app hp]; exact h.st.cells, by rw [← List.getElem?_append_left hq]; exact h.st.map, by simp [idsL, idsV, intsV, hd]⟩, by rw [← List.getElem?_append_left hd]; exact h.dn, h.dq, h.room⟩
theorem alike_args {σ σ' : Sub} {e : Int} {x y : Ty} (kx : x.k ≠ 1) (ky : y.k ≠ 1) (hc : x.k = y.k ∧ x.s = y.s ∧ x.as.length = y.as.length) (hb : Bd x) (h : Row (x.as.zip y.as) σ σ' e) : FnT 37 σ x y σ' e := by
  refine FnT.of fun H p q d nx Tr D o o' hs hD R hR => ?_
  have kx' : (x.k == 1) = false := by simpa using kx
  have ky' : (y.k == 1) = false := by simpa using ky
  have e1' : (x.k != y.k) = false := by simpa using hc.1
  have e2' : (!x.s == y.s) = false := by simpa using hc.2.1
  have e3' : ((x.as.length : Int) != (y.as.length : Int)) = false := by simp; omega
  have hlp := hs.st.lp
  have hlq := hs.st.lq
  have hld := hs.ld
  refine T.of_H mix c_unify_Store_alike rfl ?_
  unfold v_unify_Store_alike
  simp only [go_sem, ↓reduceIte, List.append_assoc, gc_appN, gc_app0, set_appN, set_app0, kx', ky', e1', e2', e3', forall_const, true_and, Bool.true_eq_false, Bool.false_eq_true, false_implies, and_true]
  refine WP.loop' (fun m E H' => ∃ (i : Nat) (σi : Sub) (Hi : Heap) (ex : List (Nat × V)), i + m = x.as.length ∧ Row ((x.as.zip y.as).drop i) σi σ' e ∧ PostU H Hi p q d σ σi nx Tr 0 ∧ H' = Hi ++ [.cells 0 (tyO o x), .cells 0 (tyO o' y)] ∧
    E = ⟨(0, .ptr p 0 0) :: (4, .ptr H.length 0 0) :: (5, .ptr (H.length + 1) 0 0) :: (77, .int .i64 x.as.length) :: (78, .int .i64 i) :: ex, .u⟩) (n := x.as.length) ⟨0, σ, H, _, by omega, h, post_refl hs hD 0, rfl, rfl⟩ ?_
  rintro m E H' ⟨i, σi, Hi, ex, hi, hrow, hpost, rfl, rfl⟩
  have hw := inc64 (i := i) (by have := hb.as.1; omega)
  have hpost' := hpost
  obtain ⟨τ, Di, hσ, hsi, hui, hDi⟩ := hpost
  have hlen := hui.1
  have hA : ∀ (l : Heap) (i v : Nat), getCells (Hi ++ l) (H.length + i) v = getCells l i v := fun l i v => by rw [← hlen]; exact gc_appN
  have hA0 : ∀ (l : Heap) (v : Nat), getCells (Hi ++ l) H.length v = getCells l 0 v := fun l v => hA l 0 v
  simp only [go_sem, ↓reduceIte, ↓ex_map, ↓run_addW, hw, Int.toNat_natCast, List.append_assoc, hA, hA0]
  refine ⟨fun hlt => ?_, fun hge => ?_⟩
  · have hix : i < x.as.length := by omega
    have hiy : i < y.as.length := by omega
    have hgx := List.getElem?_eq_getElem hix
    have hgy := List.getElem?_eq_getElem hiy
    have hz : (x.as.zip y.as)[i]? = some (x.as[i], y.as[i]) := List.getElem?_zip_eq_some.2 ⟨hgx, hgy⟩
    obtain ⟨hzl, hz2⟩ := List.getElem?_eq_some_iff.1 hz
    rw [List.drop_eq_getElem_cons hzl, hz2, Row] at hrow
    obtain ⟨σ1, e1, hT, hcase⟩ := hrow
    obtain ⟨H2, hT2, τ', D2, hσ1, hs2, hu2, hD2⟩ := hT (Hi ++ [.cells 0 (tyO o x), .cells 0 (tyO o' y)]) p q d nx _ Di false false (hsi.app _) (hDi rfl)
    obtain ⟨H1, rfl, hu1⟩ := hu2.split (by omega) (by omega) (by omega)
    have hs1 := hs2.unapp (by have := hu1.1; omega) (by have := hu1.1; omega) (by have := hu1.1; omega)
    have hpost1 : PostU H H1 p q d σ σ1 nx Tr e1 := ⟨τ ++ τ', D2, by rw [hσ1, hσ, List.append_assoc], by rw [List.map_append, ← List.append_assoc]; exact hs1, hui.trans hu1, hD2⟩
    refine ⟨by omega, _, hgx, by omega, _, hgy, _, _, hT2, ?_⟩
    have hlen1 := hu1.1.trans hlen
    simp only [go_sem, ↓reduceIte, ↓run_addW, hw]
    refine ⟨fun hne => ?_, fun heq => ?_⟩
    · rcases hcase with ⟨_, rfl, rfl⟩ | ⟨h0, _⟩
      · exact hpost1.out _ (hR _ hpost1)
      · rw [h0] at hne; cases hne
    · rcases hcase with ⟨h0, _⟩ | ⟨rfl, hrow2⟩
      · exact absurd (by simpa using heq) h0
      · exact ⟨m - 1, by omega, i + 1, σ1, H1, _, by omega, hrow2, hpost1, rfl, rfl⟩
  · rw [List.drop_eq_nil_of_le (by rw [List.length_zip]; omega), Row] at hrow
    obtain ⟨rfl, rfl⟩ := hrow
    exact hpost'.out _ (hR _ hpost')
end Go.Proofs.Ytneonbdlgmaofaa.Vm
namespace Go.Proofs.Ytneonbdlgmaofaa.Vm
open Go
set_option linter.unusedSimpArgs false

def addD (D : List (Int × Int)) (c : Int × Int) : List (Int × Int) := if c ∈ D then D else D ++ [c]
theorem findD (D : List (Int × Int)) (c : Int × Int) : findV true [.i, .i] (.agg [.int .i64 c.1, .int .i64 c.2]) (esD D) 0 = some (D.findIdx? (fun a => a = c)) := by
  have := findV_spec (key := fun c : Int × Int => V.agg [.int .i64 c.1, .int .i64 c.2]) key_pair (fun _ : Unit => V.bool true) c (D.map fun n => (n, ())) 0
  rw [List.map_map] at this
  show findV true [.i, .i] _ (D.map _) 0 = _
  rw [show (D.map fun p => (V.agg [V.int .i64 p.1, V.int .i64 p.2], V.bool true)) = List.map ((fun p : (Int × Int) × Unit => (V.agg [.int .i64 p.1.1, .int .i64 p.1.2], V.bool true)) ∘ fun n => (n, ())) D from rfl, this, List.findIdx?_map]
  congr 1
  have : (fun p : (Int × Int) × Unit => decide (p.1 = c)) ∘ (fun n => (n, ())) = fun a => decide (a = c) := rfl
  rw [this]
  cases D.findIdx? (fun a => decide (a = c)) <;> simp
theorem idxD (D : List (Int × Int)) (c : Int × Int) : (D.findIdx? (fun a => a = c)).isSome = decide (c ∈ D) := by
  rw [List.findIdx?_isSome]
  by_cases h : c ∈ D
  · rw [decide_eq_true h, List.any_eq_true]; exact ⟨c, h, by simp⟩
  · rw [decide_eq_false h, List.any_eq_false]
    intro x hx e
    have : x = c := by simpa using e
    subst this; exact h hx
section
variable {P : Program} {K : KK} {s : List Fr} {E : En} {H : Heap} {tk : List Nat} {dst : Option Nat} {os : List VOp} {keep : List Nat} {m : Nat} {D : List (Int × Int)} {a b : Int}
theorem lookupD (h : H[m]? = some (.map (esD D))) :
    runAct P (.lookup true [.i, .i] false [.bool false] false) [.map m, .agg [.int .i64 a, .int .i64 b]] tk dst os keep s E H K = nextV P (.bool (decide ((a, b) ∈ D))) tk dst os keep s E H K := by
  have e : sLookup true [.i, .i] false [.bool false] false [.map m, .agg [.int .i64 a, .int .i64 b]] H = some (.bool (decide ((a, b) ∈ D)), H) := by
    unfold sLookup mapOf
    simp only [h, Option.bind_some]
    rw [findD D (a, b)]
    have := idxD D (a, b)
    cases hf : D.findIdx? (fun c => decide (c = (a, b))) with
    | none => rw [hf] at this; simp at this; simp [mk, this]
    | some j =>
      rw [hf] at this
      have hm : (a, b) ∈ D := by simpa using this
      obtain ⟨hj, _⟩ := List.findIdx?_eq_some_iff_getElem.1 hf
      simp [esD, hm, List.getElem?_eq_getElem hj]
  show (∃ r H', sLookup true [.i, .i] false [.bool false] false [.map m, .agg [.int .i64 a, .int .i64 b]] H = some (r, H') ∧ _) = _
  rw [e]
  apply propext
  constructor
  · rintro ⟨r, H', h, k⟩; cases h; exact k
  · intro k; exact ⟨_, _, rfl, k⟩
theorem updateD (h : H[m]? = some (.map (esD D))) :
    runAct P (.mapUpdate true [.i, .i]) [.map m, .agg [.int .i64 a, .int .i64 b], .bool true] tk dst os keep s E H K = nextV P (.tup []) tk dst os keep s E (H.set m (.map (esD (addD D (a, b))))) K := by
  have e : sMapUpdate true [.i, .i] [.map m, .agg [.int .i64 a, .int .i64 b], .bool true] H = some (.tup [], H.set m (.map (esD (addD D (a, b))))) := by
    unfold sMapUpdate mapOf
    simp only [h, Option.bind_some]
    rw [findD D (a, b)]
    have := idxD D (a, b)
    cases hf : D.findIdx? (fun c => decide (c = (a, b))) with
    | none =>
      rw [hf] at this; simp at this
      simp [esD, addD, this]
    | some j =>
      rw [hf] at this
      have hm : (a, b) ∈ D := by simpa using this
      obtain ⟨hj, he, _⟩ := List.findIdx?_eq_some_iff_getElem.1 hf
      have he : D[j] = (a, b) := by simpa using he
      have hmod : (esD D).modify j (fun _ => (.agg [.int .i64 a, .int .i64 b], .bool true)) = esD D := by
        apply List.ext_getElem?
        intro i
        rw [List.getElem?_modify]
        split
        · rename_i e; subst e
          simp [esD, List.getElem?_eq_getElem hj, he]
        · simp
      simp only [Option.map_some, hmod, addD, if_pos hm]
  show (∃ r H', sMapUpdate true [.i, .i] [.map m, .agg [.int .i64 a, .int .i64 b], .bool true] H = some (r, H') ∧ _) = _
  rw [e]
  apply propext
  constructor
  · rintro ⟨r, H', h, k⟩; cases h; exact k
  · intro k; exact ⟨_, _, rfl, k⟩
end
end Go.Proofs.Ytneonbdlgmaofaa.Vm
namespace Go.Proofs.Ytneonbdlgmaofaa.Vm
open Go
set_option linter.unusedSimpArgs false

theorem PostU.app {H H' : Heap} {p q d : Nat} {σ σ1 : Sub} {nx : Int} {Tr : List Int} {e : Int} {l : Heap} (h : PostU (H ++ l) H' p q d σ σ1 nx Tr e) (hp : p < H.length) (hq : q < H.length) (hd : d < H.length) :
    ∃ H1, H' = H1 ++ l ∧ H1.length = H.length ∧ PostU H H1 p q d σ σ1 nx Tr e := by
  obtain ⟨τ, D', h1, h2, h3, h4⟩ := h
  obtain ⟨H1, rfl, hu⟩ := h3.split hp hq hd
  have hl := hu.1
  exact ⟨H1, rfl, hl, τ, D', h1, h2.unapp (by omega) (by omega) (by omega), hu, h4⟩
theorem same_T {σ σ1 : Sub} {e : Int} (hok : SubOk σ) {a b x y : Ty} (ha : Head σ a x) (hb : Head σ b y) (ra : Rt a) (rb : Rt b) (h : FnT 37 σ x y σ1 e) (hU : U σ [(a, b)] σ1 e) : FnT 30 σ a b σ1 e := by
  refine FnT.of fun H p q d nx Tr D o o' hs hD R hR => ?_
  have hlp := hs.st.lp
  have hlq := hs.st.lq
  have hld := hs.ld
  have hrt : RtL [(a, b)] := fun p hp => by rw [List.mem_singleton.1 hp]; exact ⟨ra, rb⟩
  by_cases hv : a.k = 1 ∧ b.k = 1
  · have ka : (a.k != 1) = false := by simpa using hv.1
    have kb : (b.k != 1) = false := by simpa using hv.2
    have va := (ra.var1 hv.1).1
    have vb := (rb.var1 hv.2).1
    have hidle : Eqv σ a b → σ1 = σ ∧ e = 0 := fun hq => hU.idle (fun p hp => by rw [List.mem_singleton.1 hp]; exact hq) hrt hok.good.rt
    refine T.of_H mix c_unify_Store_same rfl ?_
    unfold v_unify_Store_same
    have b1 := fun L => (hs.st.app L).1
    have b3 : ∀ L, (H ++ L)[d]? = some (.map (esD D)) := fun L => by rw [List.getElem?_append_left hld]; exact hs.dn
    simp only [go_sem, ↓reduceIte, List.append_assoc, gc_appN, gc_app0, set_appN, set_app0, ka, kb, ↓b1, ↓lookupD (b3 _), forall_const, true_and, Bool.true_eq_false, Bool.false_eq_true, false_implies, and_true]
    refine ⟨fun hne => ⟨fun hin => ?_, fun hout => ?_⟩, fun heq => ?_⟩
    · have hq := hD _ hin
      rw [show vr (a.n, b.n).1 = a from va.symm, show vr (a.n, b.n).2 = b from vb.symm] at hq
      obtain ⟨rfl, rfl⟩ := hidle hq
      exact out_app (hR H (post_refl hs hD 0))
    · obtain ⟨o1, hTa⟩ := head_T (hs.st.appS [.cells 0 (tyO o a), .cells 0 (tyO o' b), .cells 0 [.int .i64 a.n, .int .i64 b.n]]) ha false
      obtain ⟨o2, hTb⟩ := head_T (hs.st.appS [.cells 0 (tyO o a), .cells 0 (tyO o' b), .cells 0 [.int .i64 a.n, .int .i64 b.n]]) hb false
      obtain ⟨H', hT, hpost⟩ := h (H ++ [.cells 0 (tyO o a), .cells 0 (tyO o' b), .cells 0 [.int .i64 a.n, .int .i64 b.n]]) p q d nx Tr D o1 o2 (hs.app _) hD
      obtain ⟨H1, rfl, hl1, hpost⟩ := hpost.app hlp hlq hld
      have hpost0 := hpost
      obtain ⟨τ, D', hσ, hs1, hu1, hD1⟩ := hpost
      have hA : ∀ (l : Heap) (i v : Nat), getCells (H1 ++ l) (H.length + i) v = getCells l i v := fun l i v => by rw [← hl1]; exact gc_appN
      have c1 := fun L => (hs1.st.app L).1
      have c_l10_UnifySame : ∀ L, (H1 ++ L)[d]? = some (.map (esD D')) := fun L => by rw [List.getElem?_append_left hs1.ld]; exact hs1.dn
      refine ⟨_, hTa, _, hTb, _, _, hT, ?_⟩
      simp only [go_sem, ↓reduceIte]
      refine ⟨fun he => ?_, fun he => hpost0.out _ (hR _ hpost0)⟩
      simp only [go_sem, ↓reduceIte, hA, ↓c1, ↓updateD (c_l10_UnifySame _), set_appL hs1.ld]
      have he0 : e = 0 := by simpa using he
      have hs2 : SU (H1.set d (.map (esD (addD D' (a.n, b.n))))) p q d σ1 nx (Tr ++ τ.map (·.1)) (addD D' (a.n, b.n)) :=
        ⟨hs1.st.setM hs1.pd.symm hs1.dq _, by have := hs1.ld; simp [this], hs1.dq, hs1.room⟩
      have hp2 : PostU H (H1.set d (.map (esD (addD D' (a.n, b.n))))) p q d σ σ1 nx Tr e := by
        refine ⟨τ, _, hσ, hs2, hu1.trans (Upd.set (.inr (.inr rfl)) _), fun _ c hc => ?_⟩
        unfold addD at hc
        split at hc
        · exact hD1 he0 c hc
        · rcases List.mem_append.1 hc with hc | hc
          · exact hD1 he0 c hc
          · rw [List.mem_singleton.1 hc]
            have := hU.sound hrt hok.good.rt hok.acyc he0 (a, b) (List.mem_cons_self ..)
            rw [show vr (a.n, b.n).1 = a from va.symm, show vr (a.n, b.n).2 = b from vb.symm]
            exact this
      exact hp2.out _ (hR _ hp2)
    · have hn : a.n = b.n := by simpa using heq
      have hab : a = b := by rw [va, vb, hn]
      obtain ⟨f, hf⟩ := full_exists hok.acyc a
      obtain ⟨rfl, rfl⟩ := hidle ⟨f, hf, hab ▸ hf⟩
      exact out_app (hR H (post_refl hs hD 0))
  · have hab : a.k ≠ 1 ∨ b.k ≠ 1 := by
      by_cases h1 : a.k = 1
      · exact .inr fun h2 => hv ⟨h1, h2⟩
      · exact .inl h1
    obtain ⟨o1, hTa⟩ := head_T (hs.st.appS [.cells 0 (tyO o a), .cells 0 (tyO o' b)]) ha false
    obtain ⟨o2, hTb⟩ := head_T (hs.st.appS [.cells 0 (tyO o a), .cells 0 (tyO o' b)]) hb false
    obtain ⟨H', hT, hpost⟩ := h (H ++ [.cells 0 (tyO o a), .cells 0 (tyO o' b)]) p q d nx Tr D o1 o2 (hs.app _) hD
    obtain ⟨H1, rfl, hl1, hpost⟩ := hpost.app hlp hlq hld
    refine T.of_H mix c_unify_Store_same rfl ?_
    unfold v_unify_Store_same
    rcases (by
      by_cases h1 : a.k = 1
      · exact .inr ⟨by simpa using h1, by simpa using fun h2 => hv ⟨h1, h2⟩⟩
      · exact .inl (by simpa using h1) : (a.k != 1) = true ∨ ((a.k != 1) = false ∧ (b.k != 1) = true)) with ka | ⟨ka, kb⟩
    · simp only [go_sem, ↓reduceIte, List.append_assoc, gc_appN, gc_app0, set_appN, set_app0, ka, forall_const, true_and, Bool.true_eq_false, Bool.false_eq_true, false_implies, and_true]
      refine ⟨_, hTa, _, hTb, _, _, hT, ?_⟩
      simp only [go_sem, ↓reduceIte]
      exact hpost.out _ (hR _ hpost)
    · simp only [go_sem, ↓reduceIte, List.append_assoc, gc_appN, gc_app0, set_appN, set_app0, ka, kb, forall_const, true_and, Bool.true_eq_false, Bool.false_eq_true, false_implies, and_true]
      refine ⟨_, hTa, _, hTb, _, _, hT, ?_⟩
      simp only [go_sem, ↓reduceIte]
      exact hpost.out _ (hR _ hpost)
def BdL (l : List (Ty × Ty)) : Prop := ∀ p ∈ l, Bd p.1 ∧ Bd p.2
theorem BdL.tail {p : Ty × Ty} {l : List (Ty × Ty)} (h : BdL (p :: l)) : BdL l := fun q hq => h q (List.mem_cons_of_mem _ hq)
theorem SubOk.bind {σ : Sub} (h : SubOk σ) {n : Int} {t : Ty} (hn : look σ n = none) (ho : ¬ FOcc σ n t) (h0 : 0 ≤ n) (h1 : n ≤ 1073741824) (hr : Rt t) (hb : Bd t) : SubOk (σ ++ [(n, t)]) := by
  refine ⟨⟨fun p hp => ?_, fun p hp => ?_⟩, h.keys.bind h0 h1, acyc_bind h.acyc hn ho⟩
  · rcases List.mem_append.1 hp with hp | hp
    · exact h.good.rt p hp
    · rw [List.mem_singleton.1 hp]; exact hr
  · rcases List.mem_append.1 hp with hp | hp
    · exact h.good.bd p hp
    · rw [List.mem_singleton.1 hp]; exact hb
theorem rt1 {a b : Ty} {l : List (Ty × Ty)} (h : RtL ((a, b) :: l)) : Rt a ∧ Rt b := h _ (List.mem_cons_self ..)
theorem bd1 {a b : Ty} {l : List (Ty × Ty)} (h : BdL ((a, b) :: l)) : Bd a ∧ Bd b := h _ (List.mem_cons_self ..)
theorem U.row {σ : Sub} {l : List (Ty × Ty)} {σ' : Sub} {e : Int} (h : U σ l σ' e) (hok : SubOk σ) (hl : RtL l) (hbl : BdL l) : Row l σ σ' e ∧ SubOk σ' := by
  induction h with
  | nil => exact ⟨⟨rfl, rfl⟩, hok⟩
  | @same σ a b x y l σ' e ha hb hx hy hn hU ih =>
    obtain ⟨h1, h2⟩ := ih hok hl.tail hbl.tail
    exact ⟨⟨σ, 0, same_T hok ha hb (rt1 hl).1 (rt1 hl).2 (alike_vv hx hy hn) (.same ha hb hx hy hn .nil), .inr ⟨rfl, h1⟩⟩, h2⟩
  | @bindv σ a b x y l σ' e ha hb hx hy hn hU ih =>
    have rx := ha.rt hok.good.rt (rt1 hl).1
    have ry := hb.rt hok.good.rt (rt1 hl).2
    have lx := ha.lookn hx
    have ly := hb.lookn hy
    have vx := rx.var1 hx
    have vy := ry.var1 hy
    have hok1 : SubOk (σ ++ [(max x.n y.n, vr (min x.n y.n))]) := by
      rcases Int.le_total x.n y.n with h | h
      · rw [Int.max_eq_right h, Int.min_eq_left h]
        exact hok.bind ly (not_focc_var lx hn) vy.2.1 vy.2.2 (.var vx.2.1 vx.2.2) (bd_vr _)
      · rw [Int.max_eq_left h, Int.min_eq_right h]
        exact hok.bind lx (not_focc_var ly (Ne.symm hn)) vx.2.1 vx.2.2 (.var vy.2.1 vy.2.2) (bd_vr _)
    obtain ⟨h1, h2⟩ := ih hok1 hl.tail hbl.tail
    exact ⟨⟨_, 0, same_T hok ha hb (rt1 hl).1 (rt1 hl).2 (alike_bind hok hx hy hn lx ly rx ry) (.bindv ha hb hx hy hn .nil), .inr ⟨rfl, h1⟩⟩, h2⟩
  | @bindl σ a b x y l σ' e ha hb hx hy ho hU ih =>
    have rx := ha.rt hok.good.rt (rt1 hl).1
    have ry := hb.rt hok.good.rt (rt1 hl).2
    have by' := hb.bd hok.good.bd (bd1 hbl).2
    have lx := ha.lookn hx
    have vx := rx.var1 hx
    obtain ⟨h1, h2⟩ := ih (hok.bind lx ho vx.2.1 vx.2.2 ry by') hl.tail hbl.tail
    exact ⟨⟨_, 0, same_T hok ha hb (rt1 hl).1 (rt1 hl).2 ((alike_v hok hx hy lx rx ry by').2 ho).1 (.bindl ha hb hx hy ho .nil), .inr ⟨rfl, h1⟩⟩, h2⟩
  | @cycl σ a b x y l ha hb hx hy ho =>
    have rx := ha.rt hok.good.rt (rt1 hl).1
    have ry := hb.rt hok.good.rt (rt1 hl).2
    have by' := hb.bd hok.good.bd (bd1 hbl).2
    exact ⟨⟨_, 101, same_T hok ha hb (rt1 hl).1 (rt1 hl).2 ((alike_v hok hx hy (ha.lookn hx) rx ry by').1 ho).1 (.cycl ha hb hx hy ho), .inl ⟨by omega, rfl, rfl⟩⟩, hok⟩
  | @bindr σ a b x y l σ' e ha hb hx hy ho hU ih =>
    have rx := ha.rt hok.good.rt (rt1 hl).1
    have ry := hb.rt hok.good.rt (rt1 hl).2
    have bx := ha.bd hok.good.bd (bd1 hbl).1
    have ly := hb.lookn hy
    have vy := ry.var1 hy
    obtain ⟨h1, h2⟩ := ih (hok.bind ly ho vy.2.1 vy.2.2 rx bx) hl.tail hbl.tail
    exact ⟨⟨_, 0, same_T hok ha hb (rt1 hl).1 (rt1 hl).2 ((alike_v hok hy hx ly ry rx bx).2 ho).2 (.bindr ha hb hx hy ho .nil), .inr ⟨rfl, h1⟩⟩, h2⟩
  | @cycr σ a b x y l ha hb hx hy ho =>
    have rx := ha.rt hok.good.rt (rt1 hl).1
    have ry := hb.rt hok.good.rt (rt1 hl).2
    have bx := ha.bd hok.good.bd (bd1 hbl).1
    exact ⟨⟨_, 101, same_T hok ha hb (rt1 hl).1 (rt1 hl).2 ((alike_v hok hy hx (hb.lookn hy) ry rx bx).1 ho).2 (.cycr ha hb hx hy ho), .inl ⟨by omega, rfl, rfl⟩⟩, hok⟩
  | @clash σ a b x y l ha hb hx hy hc =>
    exact ⟨⟨_, 100, same_T hok ha hb (rt1 hl).1 (rt1 hl).2 (alike_clash hx hy hc) (.clash ha hb hx hy hc), .inl ⟨by omega, rfl, rfl⟩⟩, hok⟩
  | @args σ a b x y l σ1 σ' e ha hb hx hy hc hU1 hU ih1 ih2 =>
    have rx := ha.rt hok.good.rt (rt1 hl).1
    have ry := hb.rt hok.good.rt (rt1 hl).2
    have bx := ha.bd hok.good.bd (bd1 hbl).1
    have by' := hb.bd hok.good.bd (bd1 hbl).2
    obtain ⟨h1, h2⟩ := ih1 hok (RtL.zip rx.args ry.args) fun p hp => ⟨bx.as.2 _ (List.of_mem_zip hp).1, by'.as.2 _ (List.of_mem_zip hp).2⟩
    obtain ⟨h3, h4⟩ := ih2 h2 hl.tail hbl.tail
    exact ⟨⟨_, 0, same_T hok ha hb (rt1 hl).1 (rt1 hl).2 (alike_args hx hy hc bx h1) (.args ha hb hx hy hc hU1 .nil), .inr ⟨rfl, h3⟩⟩, h4⟩
  | @bad σ a b x y l σ1 e ha hb hx hy hc hU1 he ih1 =>
    have rx := ha.rt hok.good.rt (rt1 hl).1
    have ry := hb.rt hok.good.rt (rt1 hl).2
    have bx := ha.bd hok.good.bd (bd1 hbl).1
    have by' := hb.bd hok.good.bd (bd1 hbl).2
    obtain ⟨h1, h2⟩ := ih1 hok (RtL.zip rx.args ry.args) fun p hp => ⟨bx.as.2 _ (List.of_mem_zip hp).1, by'.as.2 _ (List.of_mem_zip hp).2⟩
    exact ⟨⟨_, e, same_T hok ha hb (rt1 hl).1 (rt1 hl).2 (alike_args hx hy hc bx h1) (.bad ha hb hx hy hc hU1 he), .inl ⟨he, rfl, rfl⟩⟩, h2⟩
end Go.Proofs.Ytneonbdlgmaofaa.Vm
namespace Go.Proofs.Ytneonbdlgmaofaa.Vm
open Go
set_option linter.unusedSimpArgs false

theorem idx_mid {σ rest : Sub} {k : Int} {t : Ty} (h : look σ k = none) : (σ ++ (k, t) :: rest).findIdx? (fun p => p.1 = k) = some σ.length := by
  induction σ with
  | nil => simp [List.findIdx?_cons]
  | cons p σ ih =>
    simp only [look] at h
    split at h
    · cases h
    · rename_i hne
      rw [List.cons_append, List.findIdx?_cons, if_neg (by simpa using hne), ih h]
      simp
section
variable {P : Program} {K : KK} {s : List Fr} {E : En} {H : Heap} {tk : List Nat} {dst : Option Nat} {os : List VOp} {keep : List Nat} {q : Nat} {σ rest : Sub} {n : Int} {t : Ty}
@[go_sem] theorem store_map {id ver off i : Nat} : runAct P (.store 1) [.ptr id ver off, .map i] tk dst os keep s E H K = storeG P (getCells H id ver) id ver off (.map i) tk dst os keep s E H K := store_plain rfl (by simp)
theorem delete_mid (h : H[q]? = some (.map (esS (σ ++ (n, t) :: rest)))) (hl : look σ n = none) :
    runAct P (.delete false [.i]) [.map q, .int .i64 n] tk dst os keep s E H K = nextV P (.tup []) tk dst os keep s E (H.set q (.map (esS (σ ++ rest)))) K := by
  have e : sDelete false [.i] [.map q, .int .i64 n] H = some (.tup [], H.set q (.map (esS (σ ++ rest)))) := by
    unfold sDelete mapOf
    simp only [h, Option.bind_some]
    rw [show findV false [.i] (.int .i64 n) (esS (σ ++ (n, t) :: rest)) 0 = _ from findV_spec (key := fun n => V.int .i64 n) key_int (tyV false) n (σ ++ (n, t) :: rest) 0]
    rw [idx_mid hl]
    have : (esS (σ ++ (n, t) :: rest)).eraseIdx σ.length = esS (σ ++ rest) := by
      unfold esS
      rw [List.map_append, List.eraseIdx_append_of_length_le (by simp)]
      simp
    simp [this]
  show (∃ r H', sDelete false [.i] [.map q, .int .i64 n] H = some (r, H') ∧ _) = _
  rw [e]
  apply propext
  constructor
  · rintro ⟨r, H', h, k⟩; cases h; exact k
  · intro k; exact ⟨_, _, rfl, k⟩
end
theorem Unify_bad {H : Heap} {p q : Nat} {σ : Sub} {nx : Int} {tr dn : V} (hs : St H p q σ nx tr dn) {a b : Ty} (ba : Bd a) (bb : Bd b) (h : ¬ (rightB a = true ∧ rightB b = true)) (o o' : Bool) : T Try.prog 18 [.ptr p 0 0, tyV o a, tyV o' b] H (.int .i64 1) H := by
  have key : ∀ R : V → Heap → Prop, R (.int .i64 1) H → ∃ r H', T Try.prog 18 [.ptr p 0 0, tyV o a, tyV o' b] H r H' ∧ R r H' := by
    intro R hR
    have h1 := right_T a ba false
    have h2 := right_T b bb false
    refine T.of_H mix c_unify_Store_Unify rfl ?_
    unfold v_unify_Store_Unify
    have b1 := fun l => (hs.app l).1
    simp only [go_sem, ↓reduceIte, List.append_assoc, gc_appN, gc_app0, set_appN, set_app0, ↓nil_ptr, ↓b1, ↓nil_map]
    refine ⟨_, _, h1.frame rfl _, ?_⟩
    simp only [go_sem, ↓reduceIte, List.append_assoc, gc_appN, gc_app0, set_appN, set_app0]
    refine ⟨fun ha => ⟨_, _, h2.frame rfl _, ?_⟩, fun _ => out_app hR⟩
    have hb : (!rightB b) = true := by
      cases hb : rightB b with
      | false => rfl
      | true => exact absurd ⟨by simpa using ha, hb⟩ h
    simp only [go_sem, ↓reduceIte, hb, forall_const, true_and, Bool.true_eq_false, Bool.false_eq_true, false_implies, and_true]
    exact out_app hR
  obtain ⟨r, H', hT, rfl, rfl⟩ := key (fun r H' => r = .int .i64 1 ∧ H' = H) ⟨rfl, rfl⟩
  exact hT
/-- What a store's own call leaves behind. -/
def After (H H' : Heap) (p q : Nat) (σ : Sub) : Prop := ∃ nx tr dn, St H' p q σ nx tr dn ∧ Nx nx ∧ H.length ≤ H'.length ∧ (∀ i, i < H.length → i ≠ p → i ≠ q → H'[i]? = H[i]?) ∧ Cl H'
theorem Unify_T {H : Heap} {p q : Nat} {σ : Sub} {nx : Int} {tr dn : V} (hs : St H p q σ nx tr dn) (hok : SubOk σ) (hcl : Cl H) (hx : Nx nx) {a b : Ty} (ba : Bd a) (bb : Bd b) (ra : Rt a) (rb : Rt b) {σ1 : Sub} {e : Int} (hU : U σ [(a, b)] σ1 e) (o o' : Bool) :
    ∃ H', T Try.prog 18 [.ptr p 0 0, tyV o a, tyV o' b] H (.int .i64 e) H' ∧ After H H' p q (if e = 0 then σ1 else σ) := by
  have key : ∀ R : V → Heap → Prop, (∀ H', After H H' p q (if e = 0 then σ1 else σ) → R (.int .i64 e) H') → ∃ r H', T Try.prog 18 [.ptr p 0 0, tyV o a, tyV o' b] H r H' ∧ R r H' := by
    intro R hR
    have h1 := right_T a ba false
    have h2 := right_T b bb false
    rw [(right_iff a).2 ra] at h1
    rw [(right_iff b).2 rb] at h2
    have hlp := hs.lp
    have hlq := hs.lq
    obtain ⟨oa, hca⟩ := copied_T a ba false
    obtain ⟨ob, hcb⟩ := copied_T b bb false
    refine T.of_ex mix c_unify_Store_Unify (H.length + 3) rfl ?_
    unfold v_unify_Store_Unify
    have b1 := fun l => (hs.app l).1
    simp only [go_sem, ↓reduceIte, List.append_assoc, gc_appN, gc_app0, set_appN, set_app0, ↓nil_ptr, ↓b1, ↓nil_map]
    refine ⟨_, _, h1.frame rfl _, ?_⟩
    simp only [go_sem, ↓reduceIte, List.append_assoc, gc_appN, gc_app0, set_appN, set_app0, Bool.not_true, forall_const, true_and, Bool.true_eq_false, Bool.false_eq_true, false_implies, and_true]
    refine ⟨_, _, h2.frame rfl _, ?_⟩
    simp only [go_sem, ↓reduceIte, List.append_assoc, gc_appN, gc_app0, set_appN, set_app0, Bool.not_true, forall_const, true_and, Bool.true_eq_false, Bool.false_eq_true, false_implies, and_true]
    obtain ⟨nx1, hx1, hT1⟩ := sees_T a ba ra _ p q σ nx tr dn (hs.appS [.cells 0 (tyO o a), .cells 0 (tyO o' b)]) hx false
    rw [set_appL hlp] at hT1
    refine ⟨_, _, hT1, ?_⟩
    have hs1 := hs.setC nx1 hs.ids
    obtain ⟨nx2, hx2, hT2⟩ := sees_T b bb rb _ p q σ nx1 tr dn (hs1.appS [.cells 0 (tyO o a), .cells 0 (tyO o' b)]) hx1 false
    rw [set_appL (by simpa using hlp), List.set_set] at hT2
    simp only [go_sem, ↓reduceIte, List.append_assoc, gc_appS, gc_appSN, set_appS, set_appSN]
    refine ⟨_, _, hT2, ?_⟩
    have d1 : ∀ c L, getCells (H.set p (.cells 0 c) ++ L) p 0 = some c := fun c L => by rw [gc_app (by simpa using hlp)]; exact gc_same hlp
    have d2 : ∀ o o' L, (H.set p o ++ L).set p o' = H.set p o' ++ L := fun o o' L => by rw [set_appL (by simpa using hlp), List.set_set]
    simp only [go_sem, ↓reduceIte, List.append_assoc, gc_appS, gc_appSN, set_appS, set_appSN, d1, d2, List.length_set, ↓run_makeMap]
    generalize hd : H.length + 2 = d
    refine ⟨_, hca, rfl, _, hcb, rfl, ?_⟩
    have hS3 : SU (H.set p (.cells 0 [.map q, .int .i64 nx2, .sl true 1 [], .map d]) ++ [.cells 0 (tyO o a), .cells 0 (tyO o' b), .map []]) p q d σ nx2 [] [] := by
      have hm := hs.setC nx2 (tr' := .sl true 1 []) (dn' := .nilmap) (by simp [idsL, idsV])
      refine ⟨⟨d1 _ _, ?_, by simp [idsL, idsV, intsV]; omega⟩, ?_, by omega, ?_⟩
      · rw [List.getElem?_append_left (by simpa using hlq), List.getElem?_set_ne]
        · exact hs.map
        · rintro rfl
          have h1 := gc_some.1 hs.cells
          rw [hs.map] at h1; cases h1
      · rw [List.getElem?_append_right (by simp; omega)]
        simp [← hd, esD]
      · unfold cnt
        have := List.countP_le_length (p := fun (v : Nat) => (look σ (v : Int)).isNone) (l := List.range top)
        rw [List.length_range] at this
        simpa [top] using this
    have hcl3 : Cl (H.set p (.cells 0 [.map q, .int .i64 nx2, .sl true 1 [], .map d]) ++ [.cells 0 (tyO o a), .cells 0 (tyO o' b), .map []]) := by
      unfold Cl at hcl ⊢
      rw [List.all_append, Bool.and_eq_true, List.all_eq_true] at *
      refine ⟨fun x hx => ?_, by simp [idsO, idsL, idsV, tyO]⟩
      rcases List.mem_or_eq_of_mem_set hx with h' | rfl
      · exact idsO_le (by simp) (hcl x h')
      · simp [idsO, idsL, idsV]; omega
    have hrl : RtL [(a, b)] := fun p hp => by rw [List.mem_singleton.1 hp]; exact ⟨ra, rb⟩
    obtain ⟨hrow, hok1⟩ := hU.row hok hrl fun p hp => by rw [List.mem_singleton.1 hp]; exact ⟨ba, bb⟩
    rw [Row] at hrow
    obtain ⟨σ2, e2, hF, hcase⟩ := hrow
    have hF : FnT 30 σ a b σ1 e := by
      rcases hcase with ⟨_, rfl, rfl⟩ | ⟨rfl, hr⟩
      · exact hF
      · rw [Row] at hr; obtain ⟨rfl, rfl⟩ := hr; exact hF
    obtain ⟨H4, hT4, τ, D', hσ, hs4, hu4, _⟩ := hF _ p q d nx2 [] [] oa ob hS3 (fun c hc => by cases hc)
    have hcl4 : Cl H4 := hcl3.same hu4.1 (hs4.same hu4)
    have hl4 : H4.length = H.length + 3 := by have := hu4.1; simpa using this
    have hkeep : ∀ i, i < H.length → i ≠ p → i ≠ q → H4[i]? = H[i]? := fun i hi h1 h2 => by
      rw [hu4.2 i h1 h2 (by omega), List.getElem?_append_left (by simpa using hi), List.getElem?_set_ne (Ne.symm h1)]
    refine ⟨_, _, hT4, ?_⟩
    simp only [go_sem, ↓reduceIte]
    have hend : ∀ (F : Heap) (l : List (Nat × V)) (dd : V), Cl F → F.length = H.length + 3 → R (.int .i64 e) F → endX (H.length + 3) H [VRes.tmp 6] R X.ret ⟨(6, .int .i64 e) :: l, dd⟩ F := by
      intro F l dd h1 h2 h3
      refine ⟨trivial, by omega, by omega, fun i ob hi hob => .inr ?_, .int .i64 e, by simp [resV, resL, res1, pack, En.f, getE_cons], .int .i64 e, by simp [fixV], by rw [List.take_of_length_le (by omega)]; exact h3⟩
      unfold Cl at h1
      rw [h2] at h1
      exact List.all_eq_true.1 h1 ob (List.mem_of_getElem? hob)
    have hpq := hs4.pq
    have hlp4 := hs4.st.lp
    have hlq4 := hs4.st.lq
    have hc4 := hs4.st.cells
    have hg := (hU.grows hrl hok.good.rt).app
    obtain ⟨τ2, hσ2, hnone⟩ := hg
    have hττ : τ2 = τ := by rw [hσ] at hσ2; exact (List.append_cancel_left hσ2).symm
    subst hττ
    refine ⟨fun hne => ?_, fun heq => ?_⟩
    · have he : e ≠ 0 := by simpa using hne
      rw [if_neg he] at hR
      have hfin : ∀ (F : Heap), F = H4.set q (.map (esS σ)) → R (.int .i64 e) F ∧ Cl F ∧ F.length = H.length + 3 := by
        rintro F rfl
        have hst : St (H4.set q (.map (esS σ))) p q σ nx2 (intsV true ([] ++ τ2.map (·.1))) (.map d) := ⟨by rw [gc_ne hpq.symm]; exact hc4, by simp [hlq4], by rw [List.length_set]; exact hs4.st.ids⟩
        have hc : Cl (H4.set q (.map (esS σ))) := hcl4.set (idsS _ _)
        exact ⟨hR _ ⟨nx2, _, _, hst, hx2, by rw [List.length_set]; omega, fun i h1 h2 h3 => by rw [List.getElem?_set_ne (Ne.symm h3)]; exact hkeep i h1 h2 h3, hc⟩, hc, by simpa using hl4⟩
      have hq0 : H4[q]? = some (.map (esS (σ ++ τ2.drop 0))) := by rw [List.drop_zero, ← hσ]; exact hs4.st.map
      simp only [intsV, List.nil_append, go_sem, ↓reduceIte, ↓hc4]
      refine WP.loop' (fun m E F => ∃ (i : Nat) (ex : List (Nat × V)), i + m = τ2.length ∧ F = H4.set q (.map (esS (σ ++ τ2.drop i))) ∧
        E = ⟨(0, .ptr p 0 0) :: (7, .int .i64 e) :: (53, intsV false (τ2.map (·.1))) :: (54, .int .i64 τ2.length) :: (55, .int .i64 i) :: ex, .u⟩) (n := τ2.length) ⟨0, _, by omega, ?_, by simp [intsV]; rfl⟩ ?_
      · obtain ⟨h2, h3⟩ := List.getElem?_eq_some_iff.1 hq0
        rw [← h3]; simp
      rintro m E F ⟨i, ex, hi, rfl, rfl⟩
      have hroom := hs4.room
      simp at hroom
      have hw := inc64 (i := i) (by omega)
      have hci : ∀ ob, getCells (H4.set q ob) p 0 = some [.map q, .int .i64 nx2, intsV true ([] ++ τ2.map (·.1)), .map d] := fun ob => by rw [gc_ne hpq.symm]; exact hc4
      simp only [intsV, go_sem, ↓reduceIte, ↓ex_map, ↓run_addW, hw, Int.toNat_natCast, ↓hci]
      refine ⟨fun hlt => ?_, fun hge => ?_⟩
      · have hix : i < τ2.length := by omega
        refine ⟨by omega, _, List.getElem?_eq_getElem hix, ?_⟩
        have hmid : (H4.set q (.map (esS (σ ++ τ2.drop i))))[q]? = some (.map (esS (σ ++ (τ2[i].1, τ2[i].2) :: τ2.drop (i + 1)))) := by
          rw [List.getElem?_set_self hlq4, List.drop_eq_getElem_cons hix]
        rw [delete_mid hmid (hnone _ (List.getElem_mem hix)), List.set_set]
        simp only [go_sem, ↓reduceIte, ↓run_addW, hw]
        exact ⟨m - 1, by omega, i + 1, _, by omega, rfl, rfl⟩
      · obtain ⟨k1, k2, k3⟩ := hfin (H4.set q (.map (esS (σ ++ τ2.drop i)))) (by rw [List.drop_eq_nil_of_le (by omega), List.append_nil])
        exact hend _ _ _ k2 k3 k1
    · have he : e = 0 := by simpa using heq
      rw [if_pos he] at hR
      exact hend _ _ _ hcl4 hl4 (hR _ ⟨nx2, _, _, hs4.st, hx2, by omega, hkeep, hcl4⟩)
  obtain ⟨r, H', hT, rfl, h⟩ := key (fun r H' => r = .int .i64 e ∧ After H H' p q (if e = 0 then σ1 else σ)) fun H' h => ⟨rfl, h⟩
  exact ⟨H', hT, h⟩
end Go.Proofs.Ytneonbdlgmaofaa.Vm
namespace Go.Proofs.Ytneonbdlgmaofaa.Vm
open Go
set_option linter.unusedSimpArgs false

/-- How a function ends that keeps its whole heap. -/
def endA (H0 : Heap) (rs : List VRes) (R : V → Heap → Prop) : KK := fun x E H => (match x with | .exit _ => False | _ => True) ∧ H0.length ≤ H.length ∧ Cl H ∧ ∃ r0, resV H.length H E.f rs = some r0 ∧ ∃ r, fixV H.length H 8 r0 = some r ∧ R r H
theorem T.of_A {P : Program} (hmix : P.follows .mixedOrders = true) {f : Nat} {vf : VFunc} (hc : chkFn P f vf = true) {args : List V} {H : Heap} {R : V → Heap → Prop} (hl : Nat.ble args.length vf.n = true)
    (h : run P vf.body [] ⟨args.zipIdx.map fun p => (p.2, p.1), .tup []⟩ H (endA H vf.results R)) : ∃ r H', T P f args H r H' ∧ R r H' := by
  obtain ⟨x, E1, H1, h1, h2, h3, h4, r0, h6, r, h7, h8⟩ := wp_sound h
  rw [env0_eq] at h1
  refine ⟨r, H1, ?_, h8⟩
  have := T_of (m := H1.length) hmix hc (Nat.le_of_ble_eq_true hl) h1 (by intro id e; subst e; exact h2) h3 (Nat.le_refl _) h6 h7 fun i ob hi hob => .inr (List.all_eq_true.1 h4 ob (List.mem_of_getElem? hob))
  rwa [List.take_of_length_le (Nat.le_refl _)] at this
def prC (p : Ty × Ty) : List V := tyC p.1 ++ tyC p.2
def prsV (o : Bool) (l : List (Ty × Ty)) : V := .sl o 8 (l.map prC)
@[go_sem] theorem prC_take {p : Ty × Ty} : List.take 4 (prC p) = tyC p.1 := by unfold prC; rw [List.take_append_of_le_length (by rw [tyC_len]; omega), tyC_take]
@[go_sem] theorem prC_drop {p : Ty × Ty} : List.drop 4 (prC p) = tyC p.2 := by unfold prC; rw [List.drop_append_of_le_length (by rw [tyC_len]; omega), drop4_tyC, List.nil_append]
@[go_sem] theorem prC_drop0 {p : Ty × Ty} : List.drop 0 (prC p) = prC p := rfl
@[go_sem] theorem prC_len {p : Ty × Ty} : (prC p).length = 8 := by unfold prC; rw [List.length_append, tyC_len, tyC_len]
def fewP (p : Ty × Ty) : Bool := decide (tySize p.1 ≤ 60) && decide (tySize p.2 ≤ 60)
def fewB (l : List (Ty × Ty)) : Bool := decide (l.length ≤ 40) && l.all fewP
theorem szF_gt (t : Ty) : (((szF t 60 : Nat) : Int) > 60) ↔ ¬ tySize t ≤ 60 := by
  unfold szF; split <;> omega
theorem all_drop {l : List (Ty × Ty)} {f : Ty × Ty → Bool} {i : Nat} {p : Ty × Ty} (h : l[i]? = some p) : (l.drop i).all f = (f p && (l.drop (i + 1)).all f) := by
  obtain ⟨h1, h2⟩ := List.getElem?_eq_some_iff.1 h
  rw [List.drop_eq_getElem_cons h1, h2, List.all_cons]
theorem few_T (l : List (Ty × Ty)) (hb : BdL l) (o : Bool) : T Try.prog 13 [prsV o l] [] (.bool (fewB l)) [] := by
  refine T.of0 mix c_l10_few rfl ?_
  unfold v_l10_few
  simp only [prsV, go_sem, ↓reduceIte]
  refine ⟨fun h => ?_, fun h => ?_⟩
  · unfold fewB; rw [decide_eq_false (by omega)]; rfl
  · have hl : l.length ≤ 40 := by omega
    have hF : fewB l = l.all fewP := by unfold fewB; rw [decide_eq_true hl]; rfl
    rw [hF]
    refine WP.loop' (fun m E H' => ∃ (i : Nat) (ex : List (Nat × V)), i + m = l.length ∧ l.all fewP = (l.drop i).all fewP ∧ E = ⟨(0, prsV o l) :: (3, .int .i64 i) :: ex, .u⟩) (n := l.length) ⟨0, _, by omega, rfl, rfl⟩ ?_
    rintro m E H' ⟨i, ex, hi, hr, rfl⟩
    have hw := inc64 (i := i) (by omega)
    simp only [prsV, go_sem, ↓reduceIte, ↓ex_map, ↓run_addW, hw, Int.toNat_natCast]
    refine ⟨fun hlt => ?_, fun hge => ?_⟩
    · have hix : i < l.length := by omega
      have hg := List.getElem?_eq_getElem hix
      have hbb := hb _ (List.getElem_mem hix)
      have h1 := refSize_T l[i].1 hbb.1 false 60 (by omega)
      have h2 := refSize_T l[i].2 hbb.2 false 60 (by omega)
      have hd := all_drop (f := fewP) hg
      refine ⟨by omega, _, hg, ?_⟩
      refine ⟨_, _, h1.frame rfl _, ?_⟩
      simp only [prsV, go_sem, ↓reduceIte, ↓ex_map, Int.toNat_natCast]
      have hbig1 : ((szF l[i].1 60 : Nat) : Int) > 60 → l.all fewP = false := fun h => by
        rw [hr, hd]; unfold fewP; rw [decide_eq_false ((szF_gt _).1 h)]; rfl
      have hbig2 : ((szF l[i].2 60 : Nat) : Int) > 60 → l.all fewP = false := fun h => by
        rw [hr, hd]; unfold fewP; rw [decide_eq_false ((szF_gt _).1 h)]; simp
      refine ⟨fun hs1 => ?_, fun hbig => by rw [hbig1 (by omega)]⟩
      refine ⟨by omega, _, hg, _, _, h2.frame rfl _, ?_⟩
      simp only [prsV, go_sem, ↓reduceIte, ↓run_addW, hw]
      refine ⟨fun h => by rw [hbig2 h], fun h => ⟨m - 1, by omega, i + 1, _, by omega, ?_, rfl⟩⟩
      rw [hr, hd]
      unfold fewP
      rw [decide_eq_true (Decidable.not_not.1 fun h' => hs1 ((szF_gt _).2 h')), decide_eq_true (Decidable.not_not.1 fun h' => h ((szF_gt _).2 h'))]
      rfl
    · rw [hr, List.drop_eq_nil_of_le (by omega)]; rfl
/-- Pairs that can all be made the same. -/
def Joins : List (Ty × Ty) → Sub → Sub → Prop
  | [], σ, σ' => σ' = σ
  | (a, b) :: l, σ, σ' => Rt a ∧ Rt b ∧ ∃ σ1, U σ [(a, b)] σ1 0 ∧ Joins l σ1 σ'
theorem joined_T {H : Heap} (hcl : Cl H) (l : List (Ty × Ty)) (hb : BdL l) (hlen : l.length ≤ 1000000000000000) (o : Bool) : ∃ (H' : Heap) (ok : Bool), T Try.prog 9 [prsV o l] H (.tup [.ptr (H.length + 1) 0 0, .bool ok]) H' ∧ Cl H' ∧ H.length ≤ H'.length ∧ (∀ i, i < H.length → H'[i]? = H[i]?) ∧
    (ok = true → fewB l = true ∧ ∃ σ nx tr dn, Joins l [] σ ∧ SubOk σ ∧ Nx nx ∧ St H' (H.length + 1) H.length σ nx tr dn) ∧ (ok = false → ¬ (fewB l = true ∧ ∃ σ, Joins l [] σ)) := by
  have key : ∀ R : V → Heap → Prop, (∀ (H' : Heap) (ok : Bool), Cl H' → H.length ≤ H'.length → (∀ i, i < H.length → H'[i]? = H[i]?) → (ok = true → fewB l = true ∧ ∃ σ nx tr dn, Joins l [] σ ∧ SubOk σ ∧ Nx nx ∧ St H' (H.length + 1) H.length σ nx tr dn) → (ok = false → ¬ (fewB l = true ∧ ∃ σ, Joins l [] σ)) → R (.tup [.ptr (H.length + 1) 0 0, .bool ok]) H') →
      ∃ r H', T Try.prog 9 [prsV o l] H r H' ∧ R r H' := by
    intro R hR
    have hf := few_T l hb false
    refine T.of_A mix c_l10_joined rfl ?_
    unfold v_l10_joined
    have hN := New_T H
    have hst0 := new_St H
    have hcl0 := new_Cl hcl
    have hkeep0 : ∀ i, i < H.length → (H ++ [.map [], .cells 0 [.map H.length, .int .i64 0, .sl true 1 [], .nilmap]])[i]? = H[i]? := fun i hi => List.getElem?_append_left hi
    generalize hH0 : H ++ [.map [], .cells 0 [.map H.length, .int .i64 0, .sl true 1 [], .nilmap]] = H0 at hN hst0 hcl0 hkeep0
    have hl0 : H.length + 2 = H0.length := by rw [← hH0]; simp
    simp only [go_sem, ↓reduceIte]
    refine ⟨_, _, hN, ?_⟩
    simp only [prsV, go_sem, ↓reduceIte, ↓nil_ptr]
    refine ⟨_, _, hf.frame rfl _, ?_⟩
    simp only [prsV, go_sem, ↓reduceIte, ↓nil_ptr]
    have hend : ∀ (F : Heap) (ok : Bool) (L : List (Nat × V)) (dd : V), Cl F → H0.length ≤ F.length → R (.tup [.ptr (H.length + 1) 0 0, .bool ok]) F → endA H [VRes.tmp 2, VRes.tmp 3] R X.ret ⟨(2, .ptr (H.length + 1) 0 0) :: (3, .bool ok) :: L, dd⟩ F := by
      intro F ok L dd h1 h2 h3
      have hlt : H.length + 1 < F.length := by omega
      exact ⟨trivial, by omega, h1, .tup [.ptr (H.length + 1) 0 0, .bool ok], by simp [resV, resL, res1, pack, En.f, getE_cons], .tup [.ptr (H.length + 1) 0 0, .bool ok], by rw [fixd_tup2]; simp [fixV, hlt], h3⟩
    refine ⟨fun hfew => ?_, fun hfew => ?_⟩
    · have hfb : fewB l = false := by simpa using hfew
      exact hend H0 false _ _ hcl0 (Nat.le_refl _) (hR H0 false hcl0 (by omega) hkeep0 (fun h => by cases h) fun _ h => by rw [hfb] at h; cases h.1)
    · have hfb : fewB l = true := by simpa using hfew
      have hok0 : SubOk [] := ⟨good_nil, (fun p h => by cases h), ⟨fun _ => 0, fun n u h => by cases h⟩⟩
      refine WP.loop' (fun m E F => ∃ (i : Nat) (σ : Sub) (nx : Int) (tr dn : V) (ex : List (Nat × V)), i + m = l.length ∧ (∀ σ', Joins l [] σ' ↔ Joins (l.drop i) σ σ') ∧ SubOk σ ∧ Nx nx ∧ St F (H.length + 1) H.length σ nx tr dn ∧ Cl F ∧ H0.length ≤ F.length ∧ (∀ i, i < H.length → F[i]? = H[i]?) ∧
        E = ⟨(0, prsV o l) :: (4, .ptr (H.length + 1) 0 0) :: (5, .int .i64 i) :: ex, .u⟩) (n := l.length) ⟨0, [], 0, _, _, _, by omega, fun _ => Iff.rfl, hok0, by unfold Nx; omega, hst0, hcl0, Nat.le_refl _, hkeep0, rfl⟩ ?_
      rintro m E F ⟨i, σ, nx, tr, dn, ex, hi, hJ, hok, hx, hst, hclF, hlF, hkF, rfl⟩
      have hw := inc64 (i := i) (by omega)
      simp only [prsV, go_sem, ↓reduceIte, ↓ex_map, ↓run_addW, hw, Int.toNat_natCast]
      refine ⟨fun hlt => ?_, fun hge => ?_⟩
      · have hix : i < l.length := by omega
        have hg := List.getElem?_eq_getElem hix
        have hbb := hb _ (List.getElem_mem hix)
        rw [List.drop_eq_getElem_cons hix] at hJ
        refine ⟨by omega, _, hg, by omega, _, hg, ?_⟩
        generalize l[i] = ab at hg hbb hJ
        obtain ⟨a, b⟩ := ab
        by_cases hrr : rightB a = true ∧ rightB b = true
        · have ra := (right_iff a).1 hrr.1
          have rb := (right_iff b).1 hrr.2
          obtain ⟨σ1, e, hU⟩ := U.total hok.acyc hok.good.rt hok.keys (l := [(a, b)]) fun p hp => by rw [List.mem_singleton.1 hp]; exact ⟨ra, rb⟩
          obtain ⟨F', hT, nx', tr', dn', hst', hx', hl', hk', hcl'⟩ := Unify_T hst hok hclF hx hbb.1 hbb.2 ra rb hU false false
          have hok' := (hU.row hok (fun p hp => by rw [List.mem_singleton.1 hp]; exact ⟨ra, rb⟩) fun p hp => by rw [List.mem_singleton.1 hp]; exact hbb).2
          have hkF' : ∀ i, i < H.length → F'[i]? = H[i]? := fun i hi => by rw [hk' i (by omega) (by omega) (by omega)]; exact hkF i hi
          refine ⟨_, _, hT, ?_⟩
          simp only [prsV, go_sem, ↓reduceIte, ↓run_addW, hw]
          refine ⟨fun hne => ?_, fun heq => ?_⟩
          · have he : e ≠ 0 := by simpa using hne
            refine hend F' false _ _ hcl' (by omega) (hR F' false hcl' (by omega) hkF' (fun h => by cases h) fun _ h => ?_)
            obtain ⟨_, σ', hj⟩ := h
            rw [hJ, Joins] at hj
            obtain ⟨_, _, σ2, hU2, _⟩ := hj
            exact he (hU.det hU2).2
          · have he : e = 0 := by simpa using heq
            subst he
            rw [if_pos rfl] at hst'
            refine ⟨m - 1, by omega, i + 1, σ1, nx', tr', dn', _, by omega, fun σ' => (hJ σ').trans ?_, hok', hx', hst', hcl', by omega, hkF', rfl⟩
            rw [Joins]
            constructor
            · rintro ⟨_, _, σ2, hU2, h⟩
              rw [(hU.det hU2).1]; exact h
            · intro h; exact ⟨ra, rb, σ1, hU, h⟩
        · have hT := Unify_bad hst hbb.1 hbb.2 hrr false false
          refine ⟨_, _, hT, ?_⟩
          have hb1 : ((1 : Int) != 0) = true := rfl
          simp only [prsV, go_sem, ↓reduceIte, hb1, forall_const, true_and, Bool.true_eq_false, Bool.false_eq_true, false_implies, and_true]
          refine hend F false _ _ hclF hlF (hR F false hclF (by omega) hkF (fun h => by cases h) fun _ h => ?_)
          obtain ⟨_, σ', hj⟩ := h
          rw [hJ, Joins] at hj
          exact hrr ⟨(right_iff a).2 hj.1, (right_iff b).2 hj.2.1⟩
      · rw [List.drop_eq_nil_of_le (by omega)] at hJ
        exact hend F true _ _ hclF hlF (hR F true hclF (by omega) hkF (fun _ => ⟨hfb, σ, nx, tr, dn, (hJ σ).2 rfl, hok, hx, hst⟩) fun h => by cases h)
  obtain ⟨r, H', hT, ok, rfl, h1, h2, h3, h4, h5⟩ := key (fun r H' => ∃ ok, r = .tup [.ptr (H.length + 1) 0 0, .bool ok] ∧ Cl H' ∧ H.length ≤ H'.length ∧ (∀ i, i < H.length → H'[i]? = H[i]?) ∧
    (ok = true → fewB l = true ∧ ∃ σ nx tr dn, Joins l [] σ ∧ SubOk σ ∧ Nx nx ∧ St H' (H.length + 1) H.length σ nx tr dn) ∧ (ok = false → ¬ (fewB l = true ∧ ∃ σ, Joins l [] σ))) fun H' ok h1 h2 h3 h4 h5 => ⟨ok, rfl, h1, h2, h3, h4, h5⟩
  exact ⟨H', ok, hT, h1, h2, h3, h4, h5⟩
end Go.Proofs.Ytneonbdlgmaofaa.Vm
namespace Go.Proofs.Ytneonbdlgmaofaa.Vm
open Go
set_option linter.unusedSimpArgs false

@[go_sem] theorem stripA_ptr {a b c : Nat} : stripA (.ptr a b c) = .ptr a b c := rfl
theorem Full.bd {σ : Sub} (hs : ∀ p ∈ σ, Bd p.2) {t f : Ty} (h : Full σ t f) : Bd t → Bd f := by
  induction h with
  | var _ _ => exact fun h => h
  | known _ hl _ ih => exact fun _ => ih (hs _ (look_mem hl))
  | @con k n s xs fs hk hl _ ih =>
    intro hb
    refine .mk (by have := hb.len; omega) fun f hf => ?_
    obtain ⟨i, hi⟩ := List.mem_iff_getElem?.1 hf
    have hlt : i < xs.length := by have := (List.getElem?_eq_some_iff.1 hi).1; omega
    exact ih i _ _ (List.getElem?_eq_getElem hlt) hi (hb.arg _ (List.getElem_mem hlt))
theorem joins_facts : ∀ {l : List (Ty × Ty)} {σ0 σ : Sub}, Joins l σ0 σ → SubOk σ0 → BdL l → More σ0 σ ∧ SubOk σ ∧ ∀ p ∈ l, Rt p.1 ∧ Rt p.2 ∧ Eqv σ p.1 p.2
  | [], σ0, σ, h, hok, _ => by rw [Joins] at h; subst h; exact ⟨More.refl _, hok, fun p hp => by cases hp⟩
  | (a, b) :: l, σ0, σ, h, hok, hb => by
    rw [Joins] at h
    obtain ⟨ra, rb, σ1, hU, hj⟩ := h
    have hrt : RtL [(a, b)] := fun p hp => by rw [List.mem_singleton.1 hp]; exact ⟨ra, rb⟩
    have hbd : BdL [(a, b)] := fun p hp => by rw [List.mem_singleton.1 hp]; exact bd1 hb
    have hg := hU.grows hrt hok.good.rt
    have hok1 := (hU.row hok hrt hbd).2
    obtain ⟨h1, h2, h3⟩ := joins_facts hj hok1 hb.tail
    refine ⟨hg.more.trans h1, h2, fun p hp => ?_⟩
    rcases List.mem_cons.1 hp with rfl | hp
    · exact ⟨ra, rb, (hU.sound hrt hok.good.rt hok.acyc rfl (a, b) (List.mem_cons_self ..)).more h1 h2.acyc⟩
    · exact h3 p hp
theorem resR_open {σ : Sub} (hg : Good σ) {t f : Ty} (hf : Full σ t f) (hb : Bd t) : ∃ y e, resR f = .tup [tyV false y, .int .i64 e] ∧ Bd y ∧ ((e = 0 ∧ y = f) ∨ (e = 102 ∧ y = zeroTy)) := by
  unfold resR
  have hz : Bd zeroTy := .mk (by simp) fun a h => by cases h
  split
  · exact ⟨zeroTy, 102, rfl, hz, .inr ⟨rfl, rfl⟩⟩
  · rename_i h
    have := (rso_all f 0).2 (by omega)
    exact ⟨_, 0, rfl, by rw [this]; exact hf.bd hg.bd hb, .inl ⟨rfl, this⟩⟩
theorem St.keepN {H : Heap} {p q : Nat} {σ : Sub} {nx : Int} {tr dn : V} (hs : St H p q σ nx tr dn) (hcl : Cl H) (nx' : Int) : St (H.set p (.cells 0 [.map q, .int .i64 nx', tr, dn])) p q σ nx' tr dn ∧ Cl (H.set p (.cells 0 [.map q, .int .i64 nx', tr, dn])) :=
  ⟨hs.setC nx' hs.ids, hcl.set (hs.idsC nx' hs.ids)⟩
theorem cl_ty {H : Heap} (h : Cl H) (o : Bool) (t : Ty) : Cl (H ++ [.cells 0 (tyO o t)]) := h.app (by simp [idsO, idsL, idsV, tyO])

theorem sameLaw_T (l : List (Ty × Ty)) (hb : BdL l) (hlen : l.length ≤ 1000000000000000) : T Try.prog 3 [prsV false l] [] (.bool true) [] := by
  obtain ⟨H1, ok, hT, hcl, hl1, hk1, hyes, hno⟩ := joined_T (H := []) (by unfold Cl; rfl) l hb hlen false
  refine T.of0 mix c_l10_UnifySame rfl ?_
  unfold v_l10_UnifySame
  simp only [prsV, go_sem, ↓reduceIte] at hT ⊢
  refine ⟨_, _, hT, ?_⟩
  simp only [prsV, go_sem, ↓reduceIte, ↓nil_ptr, ↓nil_ptrT]
  refine ⟨fun _ => ⟨_, _, known_H _, by simp only [go_sem, ↓reduceIte]⟩, fun hok => ?_⟩
  have hok' : ok = true := by simpa using hok
  obtain ⟨_, σ, nx0, tr, dn, hJ, _, hx0, hst0⟩ := hyes hok'
  obtain ⟨_, hso, hfacts⟩ := joins_facts hJ ⟨good_nil, (fun p h => by cases h), ⟨fun _ => 0, fun n u h => by cases h⟩⟩ hb
  refine WP.loop' (fun m E F => ∃ (i : Nat) (nx : Int) (ex : List (Nat × V)), i + m = l.length ∧ Nx nx ∧ St F 1 0 σ nx tr dn ∧ Cl F ∧
    E = ⟨(0, prsV false l) :: (3, .ptr 1 0 0) :: (5, .int .i64 i) :: ex, .u⟩) (n := l.length) ⟨0, nx0, _, by omega, hx0, hst0, hcl, rfl⟩ ?_
  rintro m E F ⟨i, nx, ex, hi, hx, hst, hclF, rfl⟩
  have hw := inc64 (i := i) (by omega)
  simp only [prsV, go_sem, ↓reduceIte, ↓ex_map, ↓run_addW, hw, Int.toNat_natCast]
  refine ⟨fun hlt => ?_, fun hge => ⟨_, _, known_H _, by simp only [go_sem, ↓reduceIte]⟩⟩
  have hix : i < l.length := by omega
  have hg := List.getElem?_eq_getElem hix
  have hbb := hb _ (List.getElem_mem hix)
  obtain ⟨ra, rb, f, hfa, hfb⟩ := hfacts _ (List.getElem_mem hix)
  obtain ⟨y, e, hres, hby, hye⟩ := resR_open hso.good hfa hbb.1
  obtain ⟨nx1, hx1, hT1⟩ := Resolve_T hso.good hst hclF hx hbb.1 ra hfa false
  rw [hres] at hT1
  obtain ⟨hst1, hcl1⟩ := hst.keepN hclF nx1
  refine ⟨by omega, _, hg, _, _, hT1, ?_⟩
  generalize F.set 1 (.cells 0 [.map 0, .int .i64 nx1, tr, dn]) = F1 at hst1 hcl1
  simp only [prsV, go_sem, ↓reduceIte, ↓ex_map, Int.toNat_natCast]
  obtain ⟨nx2, hx2, hT2⟩ := Resolve_T hso.good (hst1.appS [.cells 0 (tyO false y)]) (cl_ty hcl1 false y) hx1 hbb.2 rb hfb false
  rw [hres] at hT2
  obtain ⟨hst2, hcl2⟩ := (hst1.appS [.cells 0 (tyO false y)]).keepN (cl_ty hcl1 false y) nx2
  rw [set_appL hst1.lp] at hT2 hst2 hcl2
  refine ⟨by omega, _, hg, _, _, hT2, ?_⟩
  have hS := refSame_T y hby y hby
  rw [(tyEq_iff y y).2 rfl] at hS
  have hlen1 : (F1.set 1 (.cells 0 [.map 0, .int .i64 nx2, tr, dn])).length = F1.length := List.length_set ..
  generalize F1.set 1 (.cells 0 [.map 0, .int .i64 nx2, tr, dn]) = F2 at hst2 hcl2 hlen1
  have hee : (e != e) = false := by simp
  have hA0 : ∀ (l : Heap) (v : Nat), getCells (F2 ++ l) F1.length v = getCells l 0 v := fun l v => by rw [← hlen1]; exact gc_app0
  have hA : ∀ (l : Heap) (i v : Nat), getCells (F2 ++ l) (F1.length + i) v = getCells l i v := fun l i v => by rw [← hlen1]; exact gc_appN
  have hB0 : ∀ (l : Heap) (o : Obj), (F2 ++ l).set F1.length o = F2 ++ l.set 0 o := fun l v => by rw [← hlen1]; exact set_app0
  have hB : ∀ (l : Heap) (i : Nat) (o : Obj), (F2 ++ l).set (F1.length + i) o = F2 ++ l.set i o := fun l i v => by rw [← hlen1]; exact set_appN
  simp only [prsV, go_sem, ↓reduceIte, ↓ex_map, Int.toNat_natCast, List.append_assoc, hA0, hA, hB0, hB, hlen1, hee, forall_const, true_and, Bool.true_eq_false, Bool.false_eq_true, false_implies, and_true]
  refine ⟨_, _, (hS false false).frame rfl _, ?_⟩
  have z0 : ((0 : Int) != 0) = false := rfl
  have z1 : ((102 : Int) != 0) = true := rfl
  have z2 : ((102 : Int) != 102) = false := rfl
  have hstF := hst2.appS [.cells 0 (tyO false y)]
  have hclE := cl_ty hcl2 false y
  rcases hye with ⟨rfl, _⟩ | ⟨rfl, _⟩
  all_goals
    simp only [prsV, go_sem, ↓reduceIte, ↓run_addW, hw, z0, z1, z2, forall_const, true_and, Bool.true_eq_false, Bool.false_eq_true, false_implies, and_true]
    exact ⟨m - 1, by omega, i + 1, nx2, _, by omega, hx2, by simpa using hst2.appS [.cells 0 (tyO false y)], by simpa using cl_ty hcl2 false y, rfl⟩
theorem sameLaw_Tc (l : List (Ty × Ty)) (hb : ∀ p ∈ l, Bd p.1 ∧ Bd p.2) (hlen : l.length ≤ reachBytes) : T Try.prog 3 [.sl false 8 (l.map fun p => tyC p.1 ++ tyC p.2)] [] (.bool true) [] := sameLaw_T l hb (by unfold reachBytes at hlen; omega)
end Go.Proofs.Ytneonbdlgmaofaa.Vm
namespace Go.Proofs.Ytneonbdlgmaofaa.Vm
open Go
set_option linter.unusedSimpArgs false

theorem bd_sub {vs : List Int} {ws : List Ty} (hw : ∀ w ∈ ws, Bd w) (t : Ty) : Bd t → Bd (subF vs ws t) := by
  induction t using Ty.ind with
  | h k n s xs ih =>
    intro hb
    rw [subF]
    split
    · split
      · rename_i w hw'
        have : ∀ (vs : List Int) (ws' : List Ty), (∀ w ∈ ws', Bd w) → atV vs ws' n = some w → Bd w := by
          intro vs
          induction vs with
          | nil => intro ws' _ h; cases h
          | cons v vs ihv =>
            intro ws' hws h
            rw [atV] at h
            split at h
            · cases ws' with
              | nil => cases h
              | cons w' ws' => cases h; exact hws _ (List.mem_cons_self ..)
            · exact ihv ws'.tail (fun w hw => hws w (List.mem_of_mem_tail hw)) h
        exact this vs ws hw hw'
      · exact hb
    · rw [subL_eq]
      refine .mk (by rw [List.length_map]; exact hb.len) fun a ha => ?_
      obtain ⟨b, hb', rfl⟩ := List.mem_map.1 ha
      exact ih b hb' (hb.arg b hb')
theorem joins_rsp {vs : List Int} {ws : List Ty} : ∀ {l : List (Ty × Ty)} {σ0 σ : Sub}, Joins l σ0 σ → SubOk σ0 → BdL l → Rsp vs ws σ0 → (∀ p ∈ l, subF vs ws p.1 = subF vs ws p.2) → Rsp vs ws σ
  | [], σ0, σ, h, _, _, hr, _ => by rw [Joins] at h; subst h; exact hr
  | (a, b) :: l, σ0, σ, h, hok, hb, hr, hq => by
    rw [Joins] at h
    obtain ⟨ra, rb, σ1, hU, hj⟩ := h
    have hrt : RtL [(a, b)] := fun p hp => by rw [List.mem_singleton.1 hp]; exact ⟨ra, rb⟩
    have hbd : BdL [(a, b)] := fun p hp => by rw [List.mem_singleton.1 hp]; exact bd1 hb
    have h1 := hU.mgu (vs := vs) (ws := ws) hrt hok.good.rt hr fun p hp => by rw [List.mem_singleton.1 hp]; exact hq _ (List.mem_cons_self ..)
    exact joins_rsp hj (hU.row hok hrt hbd).2 hb.tail h1.2 fun p hp => hq p (List.mem_cons_of_mem _ hp)
theorem joins_mgu {vs : List Int} {ws : List Ty} : ∀ {l : List (Ty × Ty)} {σ0 : Sub}, SubOk σ0 → BdL l → RtL l → Rsp vs ws σ0 → (∀ p ∈ l, subF vs ws p.1 = subF vs ws p.2) → ∃ σ, Joins l σ0 σ
  | [], σ0, _, _, _, _, _ => ⟨σ0, rfl⟩
  | (a, b) :: l, σ0, hok, hb, hrl, hr, hq => by
    obtain ⟨ra, rb⟩ := rt1 hrl
    have hrt : RtL [(a, b)] := fun p hp => by rw [List.mem_singleton.1 hp]; exact ⟨ra, rb⟩
    have hbd : BdL [(a, b)] := fun p hp => by rw [List.mem_singleton.1 hp]; exact bd1 hb
    obtain ⟨σ1, e, hU⟩ := U.total hok.acyc hok.good.rt hok.keys hrt
    have h1 := hU.mgu (vs := vs) (ws := ws) hrt hok.good.rt hr fun p hp => by rw [List.mem_singleton.1 hp]; exact hq _ (List.mem_cons_self ..)
    obtain ⟨rfl, h2⟩ := h1
    obtain ⟨σ, hj⟩ := joins_mgu (hU.row hok hrt hbd).2 hb.tail hrl.tail h2 fun p hp => hq p (List.mem_cons_of_mem _ hp)
    exact ⟨σ, ra, rb, σ1, hU, hj⟩
theorem prC_plain (p : Ty × Ty) : (prC p).all plainC = true := by
  unfold prC
  rw [List.all_append, tyC_eq, tyC_eq, tyO_plain, tyO_plain]; rfl
@[go_sem] theorem prC_take8 {p : Ty × Ty} : List.take 8 (prC p) = prC p := List.take_of_length_le (by rw [prC_len]; omega)
@[go_sem] theorem prC_strip {p : Ty × Ty} : List.map strip0 (prC p) = prC p := by unfold prC; rw [List.map_append, tyC_strip, tyC_strip]
@[go_sem] theorem thawL_pr {p : Ty × Ty} {H : Heap} : thawL (prC p) H = (prC p, H) := thawL_all (prC_plain p)
theorem rightP_T (p : Ty × Ty) (hb : Bd p.1 ∧ Bd p.2) : T Try.prog 16 [.agg (prC p)] [] (.bool (rightB p.1 && rightB p.2)) [] := by
  have h1 := refRight_T p.1 hb.1 false
  have h2 := refRight_T p.2 hb.2 false
  refine T.of0 mix c_l10_right rfl ?_
  unfold v_l10_right
  simp only [go_sem, ↓reduceIte]
  refine ⟨_, _, h1.frame rfl _, ?_⟩
  simp only [go_sem, ↓reduceIte]
  refine ⟨fun ha => ⟨_, _, h2.frame rfl _, ?_⟩, fun ha => ?_⟩
  · simp only [go_sem, ↓reduceIte, ha, Bool.true_and]
  · have : rightB p.1 = false := by simpa using ha
    rw [this]; rfl
theorem ids_pr (p : Ty × Ty) : idsL 0 [.agg (prC p)] = true := by
  unfold prC
  rw [tyC_eq, tyC_eq]; rfl
def vsN (n : Nat) : List Int := (List.range n).map fun (i : Nat) => (i : Int)
theorem vsN_push (i : Nat) : List.map (fun n => [V.int .i64 n]) (vsN i) ++ [[V.int .i64 (i : Int)]] = List.map (fun n => [V.int .i64 n]) (vsN (i + 1)) := by
  simp [vsN, List.range_succ]
theorem vsN_len (n : Nat) : (vsN n).length = n := by simp [vsN]
end Go.Proofs.Ytneonbdlgmaofaa.Vm
namespace Go.Proofs.Ytneonbdlgmaofaa.Vm
open Go
set_option linter.unusedSimpArgs false

def resY (f : Ty) : Ty := if 256 < (rsoF f 0).2 then zeroTy else (rsoF f 0).1
def resE (f : Ty) : Int := if 256 < (rsoF f 0).2 then 102 else 0
theorem resR_eq (f : Ty) : resR f = .tup [tyV false (resY f), .int .i64 (resE f)] := by
  unfold resR resY resE
  split <;> rfl
theorem bd_resY {σ : Sub} (hg : Good σ) {t f : Ty} (hf : Full σ t f) (hb : Bd t) : Bd (resY f) := by
  unfold resY
  split
  · exact .mk (by simp) fun a h => by cases h
  · rename_i h
    rw [(rso_all f 0).2 (by omega)]
    exact hf.bd hg.bd hb
theorem run_buildPr {P : Program} {K : KK} {s : List Fr} {E : En} {H : Heap} {tk : List Nat} {dst : Option Nat} {os : List VOp} {keep : List Nat} {p : Ty × Ty} :
    runAct P (.buildSl 8) [.agg (prC p)] tk dst os keep s E H K = runOps P os keep s ((stripEn tk E).setO dst (.sl true 8 [prC p])) H K := by
  have hin : inl (prC p) = some (prC p) := by
    unfold inl
    rw [if_pos]
    · unfold prC
      rw [List.map_append, tyC_eq, tyC_eq]; rfl
    · unfold prC
      rw [List.all_append, tyC_eq, tyC_eq]; rfl
  have e : sBuildSl 8 [.agg (prC p)] H = some (.sl true 8 [prC p], H) := by
    simp [sBuildSl, elems, solid, V.cells, hin, prC_len]
  show (∃ r H', sBuildSl 8 [.agg (prC p)] H = some (r, H') ∧ _) = _
  rw [e]
  apply propext
  constructor
  · rintro ⟨r, H', h, k⟩; cases h; exact k
  · intro k; exact ⟨_, _, rfl, k⟩
attribute [go_sem] run_buildPr

theorem resolve_keep {F : Heap} {p q : Nat} {σ : Sub} {nx : Int} {tr dn : V} (hg : Good σ) (hs : St F p q σ nx tr dn) (hcl : Cl F) (hx : Nx nx) {t f : Ty} (hb : Bd t) (hr : Rt t) (hf : Full σ t f) (o : Bool) :
    ∃ F1 nx1, Nx nx1 ∧ T Try.prog 11 [.ptr p 0 0, tyV o t] F (.tup [tyV false (resY f), .int .i64 (resE f)]) F1 ∧ St F1 p q σ nx1 tr dn ∧ Cl F1 ∧ F1.length = F.length ∧ ∀ i, i ≠ p → F1[i]? = F[i]? := by
  obtain ⟨nx1, hx1, hT⟩ := Resolve_T hg hs hcl hx hb hr hf o
  rw [resR_eq] at hT
  obtain ⟨h1, h2⟩ := hs.keepN hcl nx1
  exact ⟨_, nx1, hx1, hT, h1, h2, by simp, fun i hi => by rw [List.getElem?_set_ne (Ne.symm hi)]⟩
theorem ty_push2 (f : Ty × Ty → Ty) {xs : List (Ty × Ty)} {i : Nat} {a : Ty × Ty} (h : xs[i]? = some a) : List.map tyC (List.map f (List.take i xs)) ++ [tyC (f a)] = List.map tyC (List.map f (List.take (i + 1) xs)) := by
  rw [List.take_add_one, h]; simp only [List.map_append]; rfl
theorem backLaw_T (l : List (Ty × Ty)) (hb : BdL l) (hlen : l.length ≤ 1000000000000000) (p : Ty × Ty) (hbp : Bd p.1 ∧ Bd p.2) : T Try.prog 5 [prsV false l, .agg (prC p)] [] (.bool true) [] := by
  have hcl0 : Cl [Obj.cells 0 (prC p)] := by
    unfold Cl
    have : idsL 1 (prC p) = true := by unfold prC; rw [tyC_eq, tyC_eq]; rfl
    simp [idsO, this]
  obtain ⟨H1, ok, hT, hcl, hl1, hk1, hyes, hno⟩ := joined_T hcl0 l hb hlen false
  have hF := few_T [p] (fun r hr => by rw [List.mem_singleton.1 hr]; exact hbp) true
  have hRp := rightP_T p hbp
  have ho0 : ∀ F : Heap, F[0]? = some (.cells 0 (prC p)) → getCells F 0 0 = some (prC p) := fun F h => gc_some.2 h
  have h10 := ho0 H1 (hk1 0 (by simp))
  refine T.of0 mix c_l10_UnifyBack rfl ?_
  unfold v_l10_UnifyBack
  simp only [prsV, go_sem, ↓reduceIte] at hT hF ⊢
  refine ⟨_, _, hT, ?_⟩
  simp only [prsV, go_sem, ↓reduceIte, ↓nil_ptr, ↓nil_ptrT, ↓h10]
  refine ⟨fun hok => ?_, fun _ => ⟨_, _, known_H _, by simp only [go_sem, ↓reduceIte]⟩⟩
  have hok' : ok = true := by simpa using hok
  obtain ⟨hfb, σ, nx0, tr, dn, hJ, hso, hx0, hst0⟩ := hyes hok'
  have hlc : l.length ≤ 40 := by
    unfold fewB at hfb
    simp at hfb; exact hfb.1
  obtain ⟨_, _, hfacts⟩ := joins_facts hJ ⟨good_nil, (fun p h => by cases h), ⟨fun _ => 0, fun n u h => by cases h⟩⟩ hb
  refine ⟨_, _, hF.frame rfl _, ?_⟩
  simp only [prsV, go_sem, ↓reduceIte, ↓h10, ↓nil_ptr, ↓nil_ptrT]
  refine ⟨fun hfp => ⟨_, _, hRp.frame (ids_pr p) _, ?_⟩, fun _ => ⟨_, _, known_H _, by simp only [go_sem, ↓reduceIte]⟩⟩
  simp only [prsV, go_sem, ↓reduceIte, ↓nil_ptr, ↓nil_ptrT]
  refine ⟨fun _ => ⟨_, _, known_H _, by simp only [go_sem, ↓reduceIte]⟩, fun hrp => ?_⟩
  have hrp' : rightB p.1 = true ∧ rightB p.2 = true := by simpa using hrp
  have rp1 := (right_iff p.1).1 hrp'.1
  have rp2 := (right_iff p.2).1 hrp'.2
  let fl : Ty → Ty := fun t => Classical.choose (full_exists hso.acyc t)
  have hfl : ∀ t, Full σ t (fl t) := fun t => Classical.choose_spec (full_exists hso.acyc t)
  have h00 : H1[0]? = some (.cells 0 (prC p)) := hk1 0 (by simp)
  refine WP.loop' (fun m E F => ∃ (i : Nat) (nx : Int) (ex : List (Nat × V)), i + m = l.length ∧ Nx nx ∧ St F 2 1 σ nx tr dn ∧ Cl F ∧ F[0]? = some (.cells 0 (prC p)) ∧
    E = ⟨(0, prsV false l) :: (3, .ptr 0 0 0) :: (5, .ptr 2 0 0) :: (7, .sl true 4 (List.map tyC (List.map (fun r => resY (fl r.1)) (l.take i)))) :: (8, .int .i64 i) :: ex, .u⟩) (n := l.length) ⟨0, nx0, _, by omega, hx0, hst0, hcl, h00, rfl⟩ ?_
  rintro m E F ⟨i, nx, ex, hi, hx, hst, hclF, hF0, rfl⟩
  have hw := inc64 (i := i) (by omega)
  simp only [prsV, go_sem, ↓reduceIte, ↓ex_map, ↓run_addW, hw, Int.toNat_natCast]
  refine ⟨fun hlt => ?_, fun hge => ?_⟩
  · have hix : i < l.length := by omega
    have hg := List.getElem?_eq_getElem hix
    have hbb := hb _ (List.getElem_mem hix)
    obtain ⟨ra, rb, _⟩ := hfacts _ (List.getElem_mem hix)
    obtain ⟨nx1, hx1, hT1⟩ := Resolve_T hso.good hst hclF hx hbb.1 ra (hfl _) false
    rw [resR_eq] at hT1
    obtain ⟨hst1, hcl1⟩ := hst.keepN hclF nx1
    refine ⟨by omega, _, hg, _, _, hT1, ?_⟩
    have hF1 : (F.set 2 (.cells 0 [.map 1, .int .i64 nx1, tr, dn]))[0]? = some (.cells 0 (prC p)) := by rw [List.getElem?_set_ne (by omega)]; exact hF0
    generalize F.set 2 (.cells 0 [.map 1, .int .i64 nx1, tr, dn]) = F1 at hst1 hcl1 hF1
    have hfit : fits (i + 1) 56 := ⟨by omega, by omega⟩
    have hmin : min i l.length = i := by omega
    have hpush := ty_push2 (fun r => resY (fl r.1)) hg
    simp only [prsV, go_sem, ↓reduceIte, ↓ex_map, ↓run_addW, hw, Int.toNat_natCast, List.length_take, hmin, hfit, hpush]
    exact ⟨m - 1, by omega, i + 1, nx1, _, by omega, hx1, hst1.appS _, cl_ty hcl1 false _, by rw [List.getElem?_append_left (by have := hst1.lp; omega)]; exact hF1, rfl⟩
  · rw [List.take_of_length_le (by omega)]
    have hF00 := ho0 F hF0
    have h3 : 3 ≤ F.length := by have := hst.lp; omega
    simp only [prsV, go_sem, ↓reduceIte, ↓hF00]
    obtain ⟨F1, nx1, hx1, hT1, hst1, hcl1, hl1', hk1'⟩ := resolve_keep hso.good hst hclF hx hbp.1 rp1 (hfl p.1) false
    refine ⟨_, _, hT1, ?_⟩
    have hX := bd_resY hso.good (hfl p.1) hbp.1
    have hY := bd_resY hso.good (hfl p.2) hbp.2
    generalize hXe : resY (fl p.1) = X at hX hT1
    have hG1 := hst1.appS [.cells 0 (tyO false X)]
    have hcG1 := cl_ty hcl1 false X
    have hg10 : (F1 ++ [Obj.cells 0 (tyO false X)])[0]? = some (.cells 0 (prC p)) := by rw [List.getElem?_append_left (by omega), hk1' 0 (by omega)]; exact hF0
    have hg1a : (F1 ++ [Obj.cells 0 (tyO false X)])[F1.length]? = some (.cells 0 (tyO false X)) := by simp
    have hG10 := ho0 _ hg10
    simp only [prsV, go_sem, ↓reduceIte, ↓hG10]
    obtain ⟨F2, nx2, hx2, hT2, hst2, hcl2, hl2', hk2'⟩ := resolve_keep hso.good hG1 hcG1 hx1 hbp.2 rp2 (hfl p.2) false
    refine ⟨_, _, hT2, ?_⟩
    generalize hYe : resY (fl p.2) = Y at hY hT2
    have hG2 := hst2.appS [.cells 0 (tyO false Y)]
    have hcG2 := cl_ty hcl2 false Y
    have hl2 : F2.length = F1.length + 1 := by simpa using hl2'
    have hg20 : (F2 ++ [Obj.cells 0 (tyO false Y)])[0]? = some (.cells 0 (prC p)) := by rw [List.getElem?_append_left (by omega), hk2' 0 (by omega)]; exact hg10
    have hg2a : (F2 ++ [Obj.cells 0 (tyO false Y)])[F1.length]? = some (.cells 0 (tyO false X)) := by rw [List.getElem?_append_left (by omega), hk2' _ (by omega)]; exact hg1a
    have hg2b : (F2 ++ [Obj.cells 0 (tyO false Y)])[F2.length]? = some (.cells 0 (tyO false Y)) := by simp
    have hG20 := ho0 _ hg20
    simp only [prsV, go_sem, ↓reduceIte, ↓hG20]
    generalize hGd : F2 ++ [Obj.cells 0 (tyO false Y)] = G at hG2 hcG2 hg20 hg2a hg2b hG20
    have hGl : G.length = F2.length + 1 := by rw [← hGd]; simp
    obtain ⟨σ1, e, hU⟩ := U.total hso.acyc hso.good.rt hso.keys (l := [(p.1, p.2)]) fun r hr => by rw [List.mem_singleton.1 hr]; exact ⟨rp1, rp2⟩
    obtain ⟨F3, hT3, nx3, tr3, dn3, hst3, hx3, hl3, hk3, hcl3⟩ := Unify_T hG2 hso hcG2 hx2 hbp.1 hbp.2 rp1 rp2 hU false false
    refine ⟨_, _, hT3, ?_⟩
    simp only [prsV, go_sem, ↓reduceIte]
    refine ⟨fun _ => ⟨_, _, known_H _, by simp only [go_sem, ↓reduceIte]⟩, fun hne => ?_⟩
    have he : e ≠ 0 := by simpa using hne
    rw [if_neg he] at hst3
    have k30 : F3[0]? = some (.cells 0 (prC p)) := by rw [hk3 0 (by omega) (by omega) (by omega)]; exact hg20
    have k3a : F3[F1.length]? = some (.cells 0 (tyO false X)) := by rw [hk3 _ (by omega) (by omega) (by omega)]; exact hg2a
    have k3b : F3[F2.length]? = some (.cells 0 (tyO false Y)) := by rw [hk3 _ (by omega) (by omega) (by omega)]; exact hg2b
    have l3a : F1.length < F3.length := by omega
    have l3b : F2.length < F3.length := by omega
    have n1a : F1.length ≠ 2 ∧ F2.length ≠ 2 ∧ F1.length ≠ F2.length := by omega
    have bd1' : 3 ≤ F1.length := by omega
    have bd2' : 3 ≤ F2.length := by omega
    generalize F1.length = ia at k3a l3a n1a bd1'
    generalize F2.length = ib at k3b l3b n1a bd2'
    refine WP.loop' (fun m E F => ∃ (i : Nat) (nx : Int) (ex : List (Nat × V)), i + m = l.length ∧ Nx nx ∧ St F 2 1 σ nx tr3 dn3 ∧ Cl F ∧ F[0]? = some (.cells 0 (prC p)) ∧ F[ia]? = some (.cells 0 (tyO false X)) ∧ F[ib]? = some (.cells 0 (tyO false Y)) ∧
      E = ⟨(0, prsV false l) :: (3, .ptr 0 0 0) :: (5, .ptr 2 0 0) :: (7, .sl true 4 (List.map tyC (List.map (fun r => resY (fl r.1)) l))) :: (11, .ptr ia 0 0) :: (13, .ptr ib 0 0) :: (15, .int .i64 i) :: ex, .u⟩) (n := l.length) ⟨0, nx3, _, by omega, hx3, hst3, hcl3, k30, k3a, k3b, rfl⟩ ?_
    rintro m E F ⟨i, nx, ex, hi, hx, hst, hclF, hF0, hFa, hFb, rfl⟩
    have hw := inc64 (i := i) (by omega)
    simp only [prsV, go_sem, ↓reduceIte, ↓ex_map, ↓run_addW, hw, Int.toNat_natCast]
    refine ⟨fun hlt => ?_, fun hge => ?_⟩
    · have hix : i < l.length := by omega
      have hg := List.getElem?_eq_getElem hix
      have hbb := hb _ (List.getElem_mem hix)
      obtain ⟨ra, rb, _⟩ := hfacts _ (List.getElem_mem hix)
      obtain ⟨F4, nx4, hx4, hT4, hst4, hcl4, hl4, hk4⟩ := resolve_keep hso.good hst hclF hx hbb.1 ra (hfl l[i].1) false
      have hZ := bd_resY hso.good (hfl l[i].1) hbb.1
      have hS := refSame_T _ hZ _ hZ false false
      rw [(tyEq_iff _ _).2 rfl] at hS
      refine ⟨by omega, _, hg, _, _, hT4, ?_⟩
      simp only [prsV, go_sem, ↓reduceIte, ↓ex_map, ↓run_addW, hw, Int.toNat_natCast]
      refine ⟨by omega, _, hg, _, _, hS.frame rfl _, ?_⟩
      simp only [prsV, go_sem, ↓reduceIte, ↓ex_map, ↓run_addW, hw, Int.toNat_natCast, Bool.not_true, forall_const, true_and, Bool.true_eq_false, Bool.false_eq_true, false_implies, and_true]
      have h4l := hst4.lp
      have e0 : (F4 ++ [Obj.cells 0 (tyO false (resY (fl l[i].1)))])[0]? = some (.cells 0 (prC p)) := by rw [List.getElem?_append_left (by omega), hk4 0 (by omega)]; exact hF0
      have ea : (F4 ++ [Obj.cells 0 (tyO false (resY (fl l[i].1)))])[ia]? = some (.cells 0 (tyO false X)) := by rw [List.getElem?_append_left (by have := (List.getElem?_eq_some_iff.1 hFa).1; omega), hk4 ia n1a.1]; exact hFa
      have eb : (F4 ++ [Obj.cells 0 (tyO false (resY (fl l[i].1)))])[ib]? = some (.cells 0 (tyO false Y)) := by rw [List.getElem?_append_left (by have := (List.getElem?_eq_some_iff.1 hFb).1; omega), hk4 ib n1a.2.1]; exact hFb
      exact ⟨m - 1, by omega, i + 1, nx4, _, by omega, hx4, hst4.appS _, cl_ty hcl4 false _, e0, ea, eb, rfl⟩
    · have hF00 := ho0 F hF0
      have h3 : 3 ≤ F.length := by have := hst.lp; omega
      have hla : ia < F.length := (List.getElem?_eq_some_iff.1 hFa).1
      have hlb : ib < F.length := (List.getElem?_eq_some_iff.1 hFb).1
      simp only [prsV, go_sem, ↓reduceIte, ↓hF00]
      obtain ⟨F5, nx5, hx5, hT5, hst5, hcl5, hl5, hk5⟩ := resolve_keep hso.good hst hclF hx hbp.1 rp1 (hfl p.1) false
      rw [hXe] at hT5
      refine ⟨_, _, hT5, ?_⟩
      have g0 : (F5 ++ [Obj.cells 0 (tyO false X)])[0]? = some (.cells 0 (prC p)) := by rw [List.getElem?_append_left (by omega), hk5 0 (by omega)]; exact hF0
      have ga : (F5 ++ [Obj.cells 0 (tyO false X)])[ia]? = some (.cells 0 (tyO false X)) := by rw [List.getElem?_append_left (by omega), hk5 ia n1a.1]; exact hFa
      have gb : (F5 ++ [Obj.cells 0 (tyO false X)])[ib]? = some (.cells 0 (tyO false Y)) := by rw [List.getElem?_append_left (by omega), hk5 ib n1a.2.1]; exact hFb
      have gc : (F5 ++ [Obj.cells 0 (tyO false X)])[F5.length]? = some (.cells 0 (tyO false X)) := by simp
      have g00 := ho0 _ g0
      simp only [prsV, go_sem, ↓reduceIte, ↓g00]
      obtain ⟨F6, nx6, hx6, hT6, hst6, hcl6, hl6, hk6⟩ := resolve_keep hso.good (hst5.appS [.cells 0 (tyO false X)]) (cl_ty hcl5 false X) hx5 hbp.2 rp2 (hfl p.2) false
      rw [hYe] at hT6
      refine ⟨_, _, hT6, ?_⟩
      have l6 : F6.length = F5.length + 1 := by simpa using hl6
      have selfset : ∀ (G : Heap) (j : Nat) (ob : Obj), G[j]? = some ob → G.set j ob = G := fun G j ob h => by
        obtain ⟨h2, h3⟩ := List.getElem?_eq_some_iff.1 h
        rw [← h3]; simp
      have m5 : F5.length ≠ 2 := by omega
      have ka : (F6 ++ [Obj.cells 0 (tyO false Y)])[ia]? = some (.cells 0 (tyO false X)) := by rw [List.getElem?_append_left (by omega), hk6 ia n1a.1]; exact ga
      have kb : (F6 ++ [Obj.cells 0 (tyO false Y)])[ib]? = some (.cells 0 (tyO false Y)) := by rw [List.getElem?_append_left (by omega), hk6 ib n1a.2.1]; exact gb
      have kc : (F6 ++ [Obj.cells 0 (tyO false Y)])[F5.length]? = some (.cells 0 (tyO false X)) := by rw [List.getElem?_append_left (by omega), hk6 _ m5]; exact gc
      have kd : (F6 ++ [Obj.cells 0 (tyO false Y)])[F6.length]? = some (.cells 0 (tyO false Y)) := by simp
      have hSX := refSame_T X hX X hX false false
      have hSY := refSame_T Y hY Y hY false false
      rw [(tyEq_iff _ _).2 rfl] at hSX hSY
      simp only [prsV, go_sem, ↓reduceIte]
      generalize F6 ++ [Obj.cells 0 (tyO false Y)] = G at ka kb kc kd
      generalize F5.length = ic at kc
      generalize F6.length = id' at kd
      have sa := selfset _ _ _ ka
      have sb := selfset _ _ _ kb
      have sc := selfset _ _ _ kc
      have sd := selfset _ _ _ kd
      have ja := gc_some.2 ka
      have jb := gc_some.2 kb
      have jc := gc_some.2 kc
      have jd := gc_some.2 kd
      simp only [prsV, go_sem, ↓reduceIte, ↓ja, ↓jb, ↓jc, ↓jd, sa, sb, sc, sd]
      refine ⟨_, _, hSX.frame rfl _, ?_⟩
      simp only [prsV, go_sem, ↓reduceIte, ↓ja, ↓jb, ↓jc, ↓jd, sa, sb, sc, sd]
      refine ⟨_, _, hSY.frame rfl _, ?_⟩
      simp only [prsV, go_sem, ↓reduceIte]
      exact ⟨_, _, known_H _, by simp only [go_sem, ↓reduceIte]⟩
theorem backLaw_Tc (l : List (Ty × Ty)) (hb : ∀ p ∈ l, Bd p.1 ∧ Bd p.2) (hlen : l.length ≤ reachBytes) (a b : Ty) (ha : Bd a) (hb' : Bd b) : T Try.prog 5 [.sl false 8 (l.map fun p => tyC p.1 ++ tyC p.2), .agg (tyC a ++ tyC b)] [] (.bool true) [] :=
  backLaw_T l hb (by unfold reachBytes at hlen; omega) (a, b) ⟨ha, hb'⟩
end Go.Proofs.Ytneonbdlgmaofaa.Vm
namespace Go.Proofs.Ytneonbdlgmaofaa.Vm
open Go

section
variable {P : Program} {K : KK} {s : List Fr} {E : En} {H : Heap} {tk : List Nat} {dst : Option Nat} {os : List VOp} {keep : List Nat}
theorem ex_next {v : V} {H1 : Heap} {F : V → Heap → Prop} {x : R} (h : x = some (v, H1)) : (∃ r H', x = some (r, H') ∧ F r H') = F v H1 := by
  subst h
  apply propext
  constructor
  · rintro ⟨r, H', h, k⟩; cases h; exact k
  · intro k; exact ⟨_, _, rfl, k⟩
@[go_sem] theorem ops_res {ts : List Nat} {l : List (Nat × V)} {d : V} : runOps P (resOp ts :: os) keep s ⟨l, d⟩ H K = runOps P os keep s ⟨l, d⟩ (H ++ ts.map .hole) K := by
  unfold resOp
  rw [ops_cons]
  exact ex_next (v := .tup []) (H1 := H ++ ts.map .hole) (F := fun r H' => runOps P os keep s ((stripEn [] ⟨l, d⟩).setO none r) H' K) rfl
def apartV (P : Program) (x y : V) (os : List VOp) (keep : List Nat) (s : List Fr) (E : En) (H : Heap) (K : KK) : Prop := farV x y = true ∧ runOps P os keep s E H K
@[go_sem] theorem ops_ap {p : Nat × Nat} {l : List (Nat × V)} {d : V} : runOps P (apOp p :: os) keep s ⟨l, d⟩ H K = apartV P (getE l d p.1) (getE l d p.2) os keep s ⟨l, d⟩ H K := by
  unfold apOp apartV
  rw [ops_cons]
  show (∃ r H', (if farV (strip (getE l d p.1)) (strip (getE l d p.2)) = true then some (V.tup [], H) else none) = some (r, H') ∧ _) = _
  have e : farV (strip (getE l d p.1)) (strip (getE l d p.2)) = farV (getE l d p.1) (getE l d p.2) := by unfold farV; rw [idOf_strip, idOf_strip]
  rw [e]
  apply propext
  constructor
  · rintro ⟨r, H', h, k⟩
    split at h
    · rename_i hf; cases h; exact ⟨hf, k⟩
    · cases h
  · rintro ⟨h, k⟩; exact ⟨_, _, by rw [if_pos h], k⟩
theorem far_iff {a x : Nat} : ((!(Nat.beq a x)) = true) = (a ≠ x) := by
  apply propext
  cases h : Nat.beq a x with
  | true => simp [Nat.eq_of_beq_eq_true h]
  | false => simp [Nat.ne_of_beq_eq_false h]
@[go_sem] theorem apart_pp {a b c x y z : Nat} : apartV P (.ptr a b c) (.ptr x y z) os keep s E H K = (a ≠ x ∧ runOps P os keep s E H K) := by
  unfold apartV farV
  simp only [idOf, far_iff]
@[go_sem] theorem apart_ph {a b c x y z u v : Nat} : apartV P (.ptr a b c) (.hsl x y z u v) os keep s E H K = (a ≠ x ∧ runOps P os keep s E H K) := by
  unfold apartV farV
  simp only [idOf, far_iff]
@[go_sem] theorem apart_hp {a b c x y z u v : Nat} : apartV P (.hsl x y z u v) (.ptr a b c) os keep s E H K = (x ≠ a ∧ runOps P os keep s E H K) := by
  unfold apartV farV
  simp only [idOf, far_iff]
@[go_sem] theorem apart_cl {cs : List V} {y : V} : apartV P (.cptr cs) y os keep s E H K = runOps P os keep s E H K := by
  simp [apartV, farV, idOf]
@[go_sem] theorem apart_cr {cs : List V} {a b c : Nat} : apartV P (.ptr a b c) (.cptr cs) os keep s E H K = runOps P os keep s E H K := by
  simp [apartV, farV, idOf]
@[go_sem] theorem apart_tl {vs : List V} {y : V} : apartV P (.tup vs) y os keep s E H K = runOps P os keep s E H K := by
  simp [apartV, farV, idOf]
@[go_sem] theorem apart_tr {vs : List V} {a b c : Nat} : apartV P (.ptr a b c) (.tup vs) os keep s E H K = runOps P os keep s E H K := by
  simp [apartV, farV, idOf]
@[go_sem] theorem apart_nl {z : Nat} {y : V} : apartV P (.nilh z) y os keep s E H K = runOps P os keep s E H K := by
  simp [apartV, farV, idOf]
@[go_sem] theorem apart_nr {z : Nat} {a b c : Nat} : apartV P (.ptr a b c) (.nilh z) os keep s E H K = runOps P os keep s E H K := by
  simp [apartV, farV, idOf]
@[go_sem] theorem run_loadC1 {v : V} : runAct P (.loadC 1 false) [.cptr [v]] tk dst os keep s E H K = runOps P os keep s ((stripEn tk E).setO dst v) H K := by
  show (∃ r H', sLoadC 1 false [.cptr [v]] H = some (r, H') ∧ _) = _
  exact ex_next rfl
@[go_sem] theorem run_loadC {n : Nat} {cs : List V} : runAct P (.loadC n true) [.cptr cs] tk dst os keep s E H K = (n ≤ cs.length ∧ runOps P os keep s ((stripEn tk E).setO dst (.agg (cs.take n))) H K) := by
  show (∃ r H', sLoadC n true [.cptr cs] H = some (r, H') ∧ _) = _
  apply propext
  constructor
  · rintro ⟨r, H', h, k⟩
    obtain ⟨l, h1, h⟩ := Option.bind_eq_some_iff.1 h
    obtain ⟨x, h2, h⟩ := Option.map_eq_some_iff.1 h
    cases h; cases h2
    obtain ⟨h3, rfl⟩ := cut_of h1
    exact ⟨by omega, by simpa using k⟩
  · rintro ⟨h, k⟩
    exact ⟨_, _, by simp [sLoadC, cut, h, mk], k⟩
@[go_sem] theorem run_loadcv {v : V} {cs : List V} : runAct P (.load 1 false) [.cptr (v :: cs)] tk dst os keep s E H K = runOps P os keep s ((stripEn tk E).setO dst v) H K := by
  show (1 ≤ (v :: cs).length ∧ _) = _
  simp [mkW]
@[go_sem] theorem run_loadCv {v : V} {cs : List V} : runAct P (.loadC 1 false) [.cptr (v :: cs)] tk dst os keep s E H K = runOps P os keep s ((stripEn tk E).setO dst v) H K := by
  show (∃ r H', sLoadC 1 false [.cptr (v :: cs)] H = some (r, H') ∧ _) = _
  exact ex_next (by simp [sLoadC, cut, mk])
def buildG (P : Program) (sz : Nat) (x : Option (List (List V))) (tk : List Nat) (dst : Option Nat) (os : List VOp) (keep : List Nat) (s : List Fr) (E : En) (H : Heap) (K : KK) : Prop := ∃ xs, x = some xs ∧ nextV P (.sl true sz xs) tk dst os keep s E H K
@[go_sem] theorem buildG_some {sz : Nat} {xs : List (List V)} : buildG P sz (some xs) tk dst os keep s E H K = nextV P (.sl true sz xs) tk dst os keep s E H K := by
  unfold buildG
  apply propext
  constructor
  · rintro ⟨y, h, k⟩; cases h; exact k
  · intro k; exact ⟨_, rfl, k⟩
@[go_sem] theorem run_buildSl {sz : Nat} {v : V} {vs : List V} : runAct P (.buildSl sz) (v :: vs) tk dst os keep s E H K = buildG P sz (elems sz (v :: vs)) tk dst os keep s E H K := by
  show (∃ r H', sBuildSl sz (v :: vs) H = some (r, H') ∧ _) = _
  unfold buildG sBuildSl
  apply propext
  constructor
  · rintro ⟨r, H', h, k⟩
    obtain ⟨xs, h1, h2⟩ := Option.map_eq_some_iff.1 h
    cases h2
    exact ⟨xs, h1, k⟩
  · rintro ⟨xs, h, k⟩; exact ⟨_, _, by rw [h]; rfl, k⟩
theorem storeP_eq {n id ver off : Nat} {v : V} (hv : v.cells.all notFr = true) : runAct P (.storeP n) [.ptr id ver off, v] tk dst os keep s E H K = runAct P (.store n) [.ptr id ver off, v] tk dst os keep s E H K := by
  have e : sStoreP n [.ptr id ver off, v] H = sStore n [.ptr id ver off, v] H := by
    simp only [sStoreP, sStore, thawL_id hv, hv, true_and]
  show (∃ r H', sStoreP n [.ptr id ver off, v] H = some (r, H') ∧ _) = (∃ r H', sStore n [.ptr id ver off, v] H = some (r, H') ∧ _)
  rw [e]
@[go_sem] theorem storeP_int {id ver off : Nat} {k : IntKind} {n : Int} : runAct P (.storeP 1) [.ptr id ver off, .int k n] tk dst os keep s E H K = storeG P (getCells H id ver) id ver off (.int k n) tk dst os keep s E H K := by rw [storeP_eq rfl, store_int]
@[go_sem] theorem storeP_bool {id ver off : Nat} {b : Bool} : runAct P (.storeP 1) [.ptr id ver off, .bool b] tk dst os keep s E H K = storeG P (getCells H id ver) id ver off (.bool b) tk dst os keep s E H K := by rw [storeP_eq rfl, store_bool]
@[go_sem] theorem storeP_str {id ver off : Nat} {b : List UInt8} : runAct P (.storeP 1) [.ptr id ver off, .str b] tk dst os keep s E H K = storeG P (getCells H id ver) id ver off (.str b) tk dst os keep s E H K := by rw [storeP_eq rfl, store_str]
@[go_sem] theorem storeP_sl {id ver off : Nat} {o : Bool} {z : Nat} {xs : List (List V)} : runAct P (.storeP 1) [.ptr id ver off, .sl o z xs] tk dst os keep s E H K = storeG P (getCells H id ver) id ver off (.sl o z xs) tk dst os keep s E H K := by rw [storeP_eq rfl, store_sl]
@[go_sem] theorem storeP_hsl {id ver off a b c d e : Nat} : runAct P (.storeP 1) [.ptr id ver off, .hsl a b c d e] tk dst os keep s E H K = storeG P (getCells H id ver) id ver off (.hsl a b c d e) tk dst os keep s E H K := by rw [storeP_eq rfl, store_hsl]
@[go_sem] theorem storeP_ptr {id ver off a b c : Nat} : runAct P (.storeP 1) [.ptr id ver off, .ptr a b c] tk dst os keep s E H K = storeG P (getCells H id ver) id ver off (.ptr a b c) tk dst os keep s E H K := by rw [storeP_eq rfl, store_ptr]
@[go_sem] theorem storeP_agg {id ver off n : Nat} {cs : List V} (h : cs.all plainC = true) (hn : n = cs.length) : runAct P (.storeP n) [.ptr id ver off, .agg cs] tk dst os keep s E H K = storeA P (getCells H id ver) id ver off cs tk dst os keep s E H K := by
  rw [storeP_eq, store_agg h hn]
  show cs.all notFr = true
  rw [List.all_eq_true] at h ⊢
  intro v hv
  have := h v hv
  cases v <;> first | rfl | cases this
def allocG (P : Program) (x : Option Nat) (zs : List V) (tk : List Nat) (dst : Option Nat) (os : List VOp) (keep : List Nat) (s : List Fr) (E : En) (H : Heap) (K : KK) : Prop := ∃ i, x = some i ∧ nextV P (.ptr i 1 0) tk dst os keep s E (H.set i (.cells 1 zs)) K
@[go_sem] theorem run_allocR {t : Nat} {zs : List V} : runAct P (.allocR t zs) [] tk dst os keep s E H K = allocG P (holeAt t H 0) zs tk dst os keep s E H K := by
  show (∃ r H', sAllocR t zs [] H = some (r, H') ∧ _) = _
  unfold sAllocR allocG
  simp only []
  apply propext
  constructor
  · rintro ⟨r, H', h, k⟩
    obtain ⟨i, h1, h2⟩ := Option.map_eq_some_iff.1 h
    cases h2
    exact ⟨i, h1, k⟩
  · rintro ⟨i, h, k⟩; exact ⟨_, _, by rw [h]; rfl, k⟩
@[go_sem] theorem allocG_some {i : Nat} {zs : List V} : allocG P (some i) zs tk dst os keep s E H K = nextV P (.ptr i 1 0) tk dst os keep s E (H.set i (.cells 1 zs)) K := by
  unfold allocG
  apply propext
  constructor
  · rintro ⟨j, h, k⟩; cases h; exact k
  · intro k; exact ⟨_, rfl, k⟩
@[go_sem] theorem run_appendAh {id ver off ln z sz bytes : Nat} {y : V} : runAct P (.appendA sz bytes) [.hsl id ver off ln z, y] tk dst os keep s E H K = runAct P (.appendH sz bytes) [.hsl id ver off ln z, y] tk dst os keep s E H K := (rfl)
@[go_sem] theorem run_appendAn {z z' sz bytes : Nat} {o : Bool} {ys : List (List V)} : runAct P (.appendA sz bytes) [.nilh z, .sl o z' ys] tk dst os keep s E H K =
    ((z = sz ∧ z' = sz ∧ 0 < ys.length ∧ fits ys.length bytes) ∧ nextV P (.hsl H.length 0 0 ys.length sz) tk dst os keep s E (H ++ [.cells 0 ys.flatten]) K) := by
  show (∃ r H', sAppendA sz bytes [.nilh z, .sl o z' ys] H = some (r, H') ∧ _) = _
  unfold sAppendA
  simp only [sAppendH]
  apply propext
  constructor
  · rintro ⟨r, H', h, k⟩
    split at h
    · rename_i hq; cases h; exact ⟨hq, k⟩
    · cases h
  · rintro ⟨h, k⟩; exact ⟨_, _, by rw [if_pos h]; rfl, k⟩
end
@[go_sem] theorem plain1_int {k : IntKind} {n : Int} : plain1 (.int k n) = true := (rfl)
@[go_sem] theorem plain1_bool {b : Bool} : plain1 (.bool b) = true := (rfl)
@[go_sem] theorem plain1_str {b : List UInt8} : plain1 (.str b) = true := (rfl)
@[go_sem] theorem plain1_sl {o : Bool} {z : Nat} {xs : List (List V)} : plain1 (.sl o z xs) = true := (rfl)
@[go_sem] theorem plain1_nilh {z : Nat} : plain1 (.nilh z) = true := (rfl)
@[go_sem] theorem elems_cons {sz : Nat} {cs : List V} {vs : List V} (h : cs.all plain1 = true) (hn : cs.length = sz) : elems sz (.agg cs :: vs) = (elems sz vs).map (cs.map inl0 :: ·) := by
  simp only [elems, solid, V.cells, hn, and_self, if_true, inl, h, Option.bind_some]
@[go_sem] theorem elems_str {b : List UInt8} {vs : List V} : elems 1 (.str b :: vs) = (elems 1 vs).map ([.str b] :: ·) := by
  simp [elems, solid, scal0, V.cells, inl, plain1, plain0, inl0, strip0]
attribute [go_sem] elems_int elems_nil Option.map_some Int.toNat_natCast Nat.le_refl Nat.reduceLeDiff
@[go_sem] theorem holeAt_nil {t i : Nat} : holeAt t [] i = none := rfl
@[go_sem] theorem holeAt_cons {t i : Nat} {o : Obj} {l : Heap} : holeAt t (o :: l) i = (holeAt t l (i + 1)).or (cond (isHole t o) (some i) none) := by
  simp only [holeAt]
  cases holeAt t l (i + 1) <;> rfl
@[go_sem] theorem isHole_hole {s t : Nat} : isHole t (.hole s) = (s == t) := by
  show Nat.beq s t = (s == t)
  cases h : Nat.beq s t with
  | true => rw [Nat.eq_of_beq_eq_true h]; simp
  | false => have := Nat.ne_of_beq_eq_false h; simp [this]
@[go_sem] theorem isHole_cell {t v : Nat} {cs : List V} : isHole t (.cells v cs) = false := rfl
@[go_sem] theorem isHole_map {t : Nat} {es : List (V × V)} : isHole t (.map es) = false := rfl
theorem holeAt_app {t : Nat} : ∀ {H L : Heap} {i : Nat}, holeAt t (H ++ L) i = (holeAt t L (i + H.length)).or (holeAt t H i)
  | [], L, i => by simp [holeAt]
  | o :: H, L, i => by
    rw [List.cons_append, holeAt_cons, holeAt_cons, holeAt_app (H := H), Option.or_assoc, List.length_cons]
    congr 2
    omega
attribute [go_sem] Option.some_or Option.none_or Nat.reduceBEq cond_true cond_false List.map_cons List.map_nil
@[go_sem] theorem far_ne {a b : Nat} : (a + 1 ≠ b + 1) = (a ≠ b) := by simp

/-! Arguments: as they stand in lists. -/
def norm0 : V → V
  | .agg cs => .agg (cs.map inl0)
  | v => inl0 v
theorem RepL.inl0 {w : World} {G : Gh} {v : V} {c : Value} {bl : List Nat} (h : RepL w G [v] [c] bl) : RepL w G [Vm.inl0 v] [c] [] := by
  cases v <;> first | exact h.strip0 | skip
  cases h with
  | imm _ _ h _ => cases h
  | nilh _ _ => exact RepL.imm _ _ (.slnil _ .nil) .nil
theorem RepL.inls0 {w : World} {G : Gh} : ∀ {vs : List V} {cs : List Value} {bl : List Nat}, RepL w G vs cs bl → RepL w G (vs.map Vm.inl0) cs []
  | [], cs, bl, h => by obtain ⟨rfl, rfl⟩ := h.nil_inv; exact .nil
  | v :: vs, cs, bl, h => by
    obtain ⟨c, cs, b1, b2, rfl, rfl, h1, h2⟩ := h.cons_inv
    exact RepL.cons h1.inl0 h2.inls0
theorem RepL.norm0 {w : World} {G : Gh} {v : V} {c : Value} {bl : List Nat} (h : RepL w G [v] [c] bl) : RepL w G [Vm.norm0 v] [c] [] := by
  cases v <;> first | exact h.inl0 | skip
  obtain ⟨acs, b, rfl, h1⟩ := h.agg_inv
  exact .agg (b1 := []) (bl := []) h1.inls0 .nil
theorem RepL.norms {w : World} {G : Gh} : ∀ {vs : List V} {cs : List Value} {bl : List Nat}, RepL w G vs cs bl → RepL w G (vs.map Vm.norm0) cs []
  | [], cs, bl, h => by obtain ⟨rfl, rfl⟩ := h.nil_inv; exact .nil
  | v :: vs, cs, bl, h => by
    obtain ⟨c, cs, b1, b2, rfl, rfl, h1, h2⟩ := h.cons_inv
    exact RepL.cons h1.norm0 h2.norms
/-- What is shown of arguments as they stand in lists, holds of them as they are. -/
theorem T.weak {P : Program} {f : Nat} {args : List V} {H : Heap} {r : V} {H' : Heap} (h : T P f (args.map norm0) H r H') : T P f args H r H' :=
  ⟨h.1, fun w G own cs _ hok hr _ _ => h.2 w G own cs [] hok hr.norms List.nodup_nil fun _ hb => by cases hb⟩
theorem T.weak' {P : Program} {f : Nat} {a' args : List V} {H : Heap} {r : V} {H' : Heap} (h : T P f a' H r H') (e : args.map norm0 = a') : T P f args H r H' := T.weak (by rw [e]; exact h)

/-- A loop over a range. -/
theorem WP.range {P : Program} {a : VCode} {E : En} {H : Heap} {K : KK} {n : Nat} (I : Nat → En → Heap → Prop) (h : I 0 E H) (step : ∀ i E H, i ≤ n → I i E H → run P a [] E H (seqW K fun E' H' => i < n ∧ I (i + 1) E' H')) : WP P (.loop a) E H K := by
  refine WP.loop (fun m E H => ∃ i, i + m = n ∧ I i E H) ?_ (n := n) ⟨0, by omega, h⟩
  rintro m E H ⟨i, hi, hI⟩
  refine (wp_sound (step i E H (by omega) hI)).mono ?_
  intro x E' H' k
  cases x with
  | normal =>
    obtain ⟨h1, h2⟩ : i < n ∧ I (i + 1) E' H' := k
    exact ⟨m - 1, by omega, i + 1, by omega, h2⟩
  | exit id => exact k
  | ret => exact k
@[go_sem] theorem nonneg_cast {i : Nat} : (0 ≤ (i : Int)) = True := by simp
end Go.Proofs.Ytneonbdlgmaofaa.Vm
namespace Go.Proofs.Ytneonbdlgmaofaa.Vm
open Go
set_option linter.unusedSimpArgs false

theorem lt_lenT {α : Type} {a : List α} {i : Nat} : ((i : Int) < (a.length : Int)) = (i < a.length) := by simp
theorem storeP_ty {P : Program} {K : KK} {s : List Fr} {E : En} {H : Heap} {tk : List Nat} {dst : Option Nat} {os : List VOp} {keep : List Nat} {id ver off : Nat} {o : Bool} {t : Ty} : runAct P (.storeP 4) [.ptr id ver off, tyV o t] tk dst os keep s E H K = runAct P (.storeP 4) [.ptr id ver off, .agg [.int .i64 t.k, .int .i64 t.n, .str t.s, .sl o 4 (t.as.map tyC)]] tk dst os keep s E H K := rfl
/-- A store that stands. -/
def StX (F : Heap) (p q : Nat) (σ : Sub) : Prop := ∃ nx tr dn, Nx nx ∧ St F p q σ nx tr dn
theorem StX.lt {F : Heap} {p q : Nat} {σ : Sub} (h : StX F p q σ) : p < F.length ∧ q < F.length := by
  obtain ⟨_, _, _, _, h⟩ := h; exact ⟨h.lp, h.lq⟩
theorem StX.app {F : Heap} {p q : Nat} {σ : Sub} (h : StX F p q σ) (l : Heap) : StX (F ++ l) p q σ := by
  obtain ⟨a, b, c, hx, h⟩ := h; exact ⟨a, b, c, hx, h.appS l⟩
theorem StX.keep {F F' : Heap} {p q : Nat} {σ : Sub} (h : StX F p q σ) (hl : F.length ≤ F'.length) (hp : F'[p]? = F[p]?) (hq : F'[q]? = F[q]?) : StX F' p q σ := by
  obtain ⟨a, b, c, hx, h⟩ := h
  refine ⟨a, b, c, hx, gc_some.2 (by rw [hp]; exact gc_some.1 h.cells), by rw [hq]; exact h.map, idsL_mono hl _ h.ids⟩
theorem StX.setN {F : Heap} {p q m : Nat} {σ : Sub} (h : StX F p q σ) (h1 : m ≠ p) (h2 : m ≠ q) (o : Obj) : StX (F.set m o) p q σ :=
  h.keep (by simp) (List.getElem?_set_ne h1) (List.getElem?_set_ne h2)
/-- What making two types the same comes to. -/
def Out (σ : Sub) (a b : Ty) (σ' : Sub) (e : Int) : Prop := (Rt a ∧ Rt b ∧ ∃ σ1, U σ [(a, b)] σ1 e ∧ σ' = if e = 0 then σ1 else σ) ∨ (¬ (rightB a = true ∧ rightB b = true) ∧ e = 1 ∧ σ' = σ)
theorem out_ex {σ : Sub} (hok : SubOk σ) {a b : Ty} (ba : Bd a) (bb : Bd b) : ∃ σ' e, Out σ a b σ' e ∧ Out σ b a σ' e ∧ SubOk σ' := by
  by_cases hr : rightB a = true ∧ rightB b = true
  · have ra := (right_iff a).1 hr.1
    have rb := (right_iff b).1 hr.2
    have hl : RtL [(a, b)] := fun p hp => by rw [List.mem_singleton.1 hp]; exact ⟨ra, rb⟩
    obtain ⟨σ1, e, hU⟩ := U.total hok.acyc hok.good.rt hok.keys hl
    refine ⟨if e = 0 then σ1 else σ, e, .inl ⟨ra, rb, σ1, hU, rfl⟩, .inl ⟨rb, ra, σ1, hU.swap, rfl⟩, ?_⟩
    split
    · exact (hU.row hok hl fun p hp => by rw [List.mem_singleton.1 hp]; exact ⟨ba, bb⟩).2
    · exact hok
  · exact ⟨σ, 1, .inr ⟨hr, rfl, rfl⟩, .inr ⟨fun h => hr ⟨h.2, h.1⟩, rfl, rfl⟩, hok⟩
theorem one_T {σ σ' τ : Sub} (hok : SubOk σ) {a b : Ty} (ba : Bd a) (bb : Bd b) {e : Int} (h : Out σ a b σ' e) {F : Heap} {p q p' q' : Nat} (d1 : p' ≠ p) (d2 : p' ≠ q) (d3 : q' ≠ p) (d4 : q' ≠ q) (hs : StX F p q σ) (ht : StX F p' q' τ) (hcl : Cl F) :
    ∃ F', T Try.prog 18 [.ptr p 0 0, tyV false a, tyV false b] F (.int .i64 e) F' ∧ StX F' p q σ' ∧ StX F' p' q' τ ∧ Cl F' ∧ F.length ≤ F'.length ∧ ∀ i, i < F.length → i ≠ p → i ≠ q → F'[i]? = F[i]? := by
  obtain ⟨nx, tr, dn, hx, hst⟩ := hs
  rcases h with ⟨ra, rb, σ1, hU, rfl⟩ | ⟨hn, rfl, rfl⟩
  · obtain ⟨F', hT, nx', tr', dn', hst', hx', hl', hk', hcl'⟩ := Unify_T hst hok hcl hx ba bb ra rb hU false false
    exact ⟨F', hT, ⟨nx', tr', dn', hx', hst'⟩, ht.keep hl' (hk' _ ht.lt.1 d1 d2) (hk' _ ht.lt.2 d3 d4), hcl', hl', hk'⟩
  · exact ⟨F, Unify_bad hst ba bb hn false false, ⟨nx, tr, dn, hx, hst⟩, ht, hcl, Nat.le_refl _, fun _ _ _ _ => rfl⟩
/-- What a type is, as it is known. -/
theorem res_T {σ : Sub} (hok : SubOk σ) {t : Ty} (hb : Bd t) : ∃ y e, Bd y ∧ ∀ (F : Heap) (p q p' q' : Nat) (τ : Sub), p' ≠ p → q' ≠ p → StX F p q σ → StX F p' q' τ → Cl F →
    ∃ F', T Try.prog 11 [.ptr p 0 0, tyV false t] F (.tup [tyV false y, .int .i64 e]) F' ∧ StX F' p q σ ∧ StX F' p' q' τ ∧ Cl F' ∧ F'.length = F.length ∧ ∀ i, i ≠ p → F'[i]? = F[i]? := by
  by_cases hr : rightB t = true
  · obtain ⟨f, hf⟩ := full_exists hok.acyc t
    refine ⟨resY f, resE f, bd_resY hok.good hf hb, fun F p q p' q' τ d1 d2 hs ht hcl => ?_⟩
    obtain ⟨nx, tr, dn, hx, hst⟩ := hs
    obtain ⟨F1, nx1, h1, h2, h3, h4, h5, h6⟩ := resolve_keep hok.good hst hcl hx hb ((right_iff t).1 hr) hf false
    exact ⟨F1, h2, ⟨nx1, tr, dn, h1, h3⟩, ht.keep (by omega) (h6 _ d1) (h6 _ d2), h4, h5, h6⟩
  · refine ⟨zeroTy, 1, .mk (by simp) (fun a h => by cases h), fun F p q p' q' τ d1 d2 hs ht hcl => ?_⟩
    obtain ⟨nx, tr, dn, hx, hst⟩ := hs
    exact ⟨F, Resolve_bad hst t hb (by simpa using hr) false, ⟨nx, tr, dn, hx, hst⟩, ht, hcl, rfl, fun _ _ => rfl⟩

theorem turnsLaw_T (l : List (Ty × Ty)) (hb : BdL l) (hlen : l.length ≤ 1000000000000000) : T Try.prog 6 [prsV false l] [] (.bool true) [] := by
  have hf := few_T l hb false
  have hN := New_T []
  have hN2 := New_T ([] ++ [.map [], .cells 0 [.map 0, .int .i64 0, .sl true 1 [], .nilmap]])
  have hs1 := new_St []
  have hc1 := new_Cl (H := []) (by unfold Cl; rfl)
  have hs2 := new_St ([] ++ [.map [], .cells 0 [.map 0, .int .i64 0, .sl true 1 [], .nilmap]])
  have hc2 := new_Cl hc1
  have hs1' := hs1.appS [.map [], .cells 0 [.map 2, .int .i64 0, .sl true 1 [], .nilmap]]
  refine T.of0 mix c_l10_UnifyTurns rfl ?_
  unfold v_l10_UnifyTurns
  simp only [prsV, go_sem, ↓reduceIte] at hf ⊢
  refine ⟨_, _, hf.frame rfl _, ?_⟩
  simp only [prsV, go_sem, ↓reduceIte]
  refine ⟨fun _ => ⟨_, _, known_H _, by simp only [go_sem, ↓reduceIte]⟩, fun _ => ⟨_, _, hN, ?_⟩⟩
  simp only [prsV, go_sem, ↓reduceIte]
  refine ⟨_, _, hN2, ?_⟩
  simp only [prsV, go_sem, ↓reduceIte, ↓nil_ptr, ↓nil_ptrT]
  have hx0 : Nx 0 := by unfold Nx; omega
  have hok0 : SubOk [] := ⟨good_nil, (fun p h => by cases h), ⟨fun _ => 0, fun n u h => by cases h⟩⟩
  refine WP.range (n := l.length) (fun i E F => ∃ (σ : Sub) (ex : List (Nat × V)), SubOk σ ∧ StX F 1 0 σ ∧ StX F 3 2 σ ∧ Cl F ∧
    E = ⟨(0, prsV false l) :: (3, .ptr 1 0 0) :: (4, .ptr 3 0 0) :: (5, .int .i64 i) :: ex, .u⟩) ⟨[], _, hok0, ⟨0, _, _, hx0, hs1'⟩, ⟨0, _, _, hx0, hs2⟩, hc2, rfl⟩ ?_
  rintro i E F hi ⟨σ, ex, hok, hs, ht, hcl, rfl⟩
  have hw := inc64 (i := i) (by omega)
  simp only [prsV, go_sem, ↓reduceIte, ↓ex_map, ↓run_addW, hw, lt_lenT, Int.toNat_natCast]
  refine ⟨fun hlt => ?_, fun hge => ?_⟩
  · have hix : i < l.length := by omega
    have hg := List.getElem?_eq_getElem hix
    have hbb := hb _ (List.getElem_mem hix)
    generalize l[i] = ab at hg hbb
    obtain ⟨a, b⟩ := ab
    obtain ⟨σ', e, ho1, ho2, hok'⟩ := out_ex hok hbb.1 hbb.2
    simp only [prsV, go_sem, ↓reduceIte, ↓ex_map, ↓run_addW, hw, hg, holeAt_app, gc_app0, gc_appN, set_app0, set_appN, List.append_assoc, put, storeP_ty]
    have hF := hs.lt.1
    have hlt3 := ht.lt.1
    have hlt2 := ht.lt.2
    refine ⟨by omega, ?_⟩
    have hcl1 : Cl (F ++ [Obj.cells 1 (tyO false a), Obj.cells 1 (tyO false b)]) := hcl.app (by simp [idsO, idsL, idsV, tyO])
    obtain ⟨F1, hT1, k1, k2, k3, k4, k5⟩ := one_T hok hbb.1 hbb.2 ho1 (p := 1) (q := 0) (p' := 3) (q' := 2) (by decide) (by decide) (by decide) (by decide) (hs.app [Obj.cells 1 (tyO false a), Obj.cells 1 (tyO false b)]) (ht.app _) hcl1
    refine ⟨by omega, _, _, hT1, ⟨by simpa using k4, fun i h1 h2 => k5 i (by simpa using h2) (by omega) (by omega)⟩, by omega, ?_⟩
    have g1 : getCells F1 F.length 1 = some (tyO false a) := gc_some.2 (by rw [k5 _ (by simp) (by omega) (by omega)]; simp)
    have g2 : getCells F1 (F.length + 1) 1 = some (tyO false b) := gc_some.2 (by rw [k5 _ (by simp) (by omega) (by omega)]; simp)
    obtain ⟨F2, hT2, j1, j2, j3, j4, j5⟩ := one_T hok hbb.2 hbb.1 ho2 (p := 3) (q := 2) (p' := 1) (q' := 0) (by decide) (by decide) (by decide) (by decide) k2 k1 k3
    simp only [tyO] at g1 g2
    simp only [prsV, go_sem, ↓reduceIte, ↓ex_map, g1, g2]
    refine ⟨_, _, hT2, ?_⟩
    have hee : (e != e) = false := by simp
    simp only [prsV, go_sem, ↓reduceIte, ↓ex_map, ↓run_addW, hw, hee, forall_const, true_and, Bool.true_eq_false, Bool.false_eq_true, false_implies, and_true]
    exact ⟨hix, σ', _, hok', j2, j1, j3, rfl⟩
  · refine WP.range (n := l.length) (fun j E F => ∃ ex : List (Nat × V), StX F 1 0 σ ∧ StX F 3 2 σ ∧ Cl F ∧
      E = ⟨(0, prsV false l) :: (3, .ptr 1 0 0) :: (4, .ptr 3 0 0) :: (8, .int .i64 j) :: ex, .u⟩) ⟨_, hs, ht, hcl, rfl⟩ ?_
    rintro j E F hj ⟨ex, hs, ht, hcl, rfl⟩
    have hw2 := inc64 (i := j) (by omega)
    simp only [prsV, go_sem, ↓reduceIte, ↓ex_map, ↓run_addW, hw2, lt_lenT, Int.toNat_natCast]
    refine ⟨fun hlt => ?_, fun hge => ⟨_, _, known_H _, by simp only [go_sem, ↓reduceIte]⟩⟩
    have hg := List.getElem?_eq_getElem hlt
    have hbb := hb _ (List.getElem_mem hlt)
    generalize l[j] = ab at hg hbb
    obtain ⟨a, b⟩ := ab
    obtain ⟨y, e, hby, hR⟩ := res_T hok hbb.1
    obtain ⟨F1, hT1, k1, k2, k3, k4, k5⟩ := hR F 1 0 3 2 σ (by decide) (by decide) hs ht hcl
    simp only [prsV, go_sem, ↓reduceIte, ↓ex_map, ↓run_addW, hw2, hg]
    refine ⟨_, _, hT1, ?_⟩
    have hcl2 : Cl (F1 ++ [Obj.cells 0 (tyO false y)]) := cl_ty k3 false y
    obtain ⟨F2, hT2, j1, j2, j3, j4, j5⟩ := hR (F1 ++ [Obj.cells 0 (tyO false y)]) 3 2 1 0 σ (by decide) (by decide) (k2.app _) (k1.app _) hcl2
    simp only [prsV, go_sem, ↓reduceIte, ↓ex_map, ↓run_addW, hw2, hg, List.append_assoc, gc_app0, gc_appN, set_app0, set_appN]
    refine ⟨_, _, hT2, ?_⟩
    have hS := refSame_T y hby y hby
    rw [(tyEq_iff y y).2 rfl] at hS
    have hee : (e != e) = false := by simp
    have hl1 := k1.lt.1
    have hl3 := k2.lt.1
    have g1 : ∀ L, getCells (F2 ++ L) F1.length 0 = some (tyO false y) := fun L => gc_some.2 (by rw [List.getElem?_append_left (by simp at j4; omega), j5 _ (by omega)]; simp)
    simp only [prsV, go_sem, ↓reduceIte, ↓ex_map, ↓run_addW, hw2, hg, List.append_assoc, gc_app0, gc_appN, set_app0, set_appN, hee, ↓g1, forall_const, true_and, Bool.true_eq_false, Bool.false_eq_true, false_implies, and_true]
    have hlt12 : F1.length < F2.length := by simp at j4; omega
    have g2 : getCells (List.set (F2 ++ [Obj.cells 0 (tyO false y)]) F1.length (Obj.cells 0 (tyO false y))) F2.length 0 = some (tyO false y) :=
      gc_some.2 (by rw [List.getElem?_set_ne (by omega)]; simp)
    simp only [prsV, go_sem, ↓reduceIte, ↓ex_map, ↓run_addW, hw2, ↓g2, forall_const, true_and, Bool.true_eq_false, Bool.false_eq_true, false_implies, and_true]
    refine ⟨_, _, (hS false false).frame rfl _, ?_⟩
    simp only [prsV, go_sem, ↓reduceIte, ↓ex_map, ↓run_addW, hw2, hee, forall_const, true_and, Bool.true_eq_false, Bool.false_eq_true, false_implies, and_true]
    have hc3 := cl_ty j3 false y
    have q1 := k1.lt.2
    have q3 := k2.lt.2
    refine ⟨hlt, _, ((j2.app _).setN (by omega) (by omega) _).setN (by omega) (by omega) _, ((j1.app _).setN (by omega) (by omega) _).setN (by omega) (by omega) _, (hc3.set ?_).set ?_, rfl⟩
    · simp [idsO, idsL, idsV, tyO]
    · simp [idsO, idsL, idsV, tyO]
theorem turnsLaw_Tc (l : List (Ty × Ty)) (hb : ∀ p ∈ l, Bd p.1 ∧ Bd p.2) (hlen : l.length ≤ reachBytes) : T Try.prog 6 [.sl false 8 (l.map fun p => tyC p.1 ++ tyC p.2)] [] (.bool true) [] := turnsLaw_T l hb (by unfold reachBytes at hlen; omega)
end Go.Proofs.Ytneonbdlgmaofaa.Vm
namespace Go.Proofs.Ytneonbdlgmaofaa.Vm
open Go Go.RowKit Go.WideShapes

theorem T.belowL {P : Program} {w : World} {f : Nat} {vs : List V} (h : T P f vs [] (.bool true) []) {cs : Array Value} (hr : RepL w (gh0 w) vs cs.toList []) : Calls P f cs w fun e w' => e = .returned (.bool true) ∧ Below w.heap.size w w' := by
  refine (h.2 w (gh0 w) (own0 w) cs [] (ok0 w) hr List.nodup_nil (fun _ h => by cases h)).mono ?_
  rintro e w' ⟨c, rfl, G', own', bl, _, h2, _, _, h5⟩
  obtain ⟨cs', hcs, _⟩ := h2.bool_inv
  obtain ⟨rfl, _⟩ := List.cons.inj hcs
  refine ⟨rfl, h5.os, h5.tape, h5.out, h5.size, fun k hk => ?_⟩
  exact (h5.fixed k (by simp only [own0, if_pos hk])).1

theorem under3 : Try.prog.underlying 3 = some (.int .i64) := by kernel_rfl
theorem under4 : Try.prog.underlying 4 = some .bool := by kernel_rfl
theorem under9 : Try.prog.underlying 9 = some .string := by kernel_rfl
theorem under27 : Try.prog.underlying 27 = some (.slice 29) := by kernel_rfl
theorem under22 : Try.prog.underlying 22 = some (.slice 34) := by kernel_rfl
noncomputable def tyFs : Array Field := match Try.prog.underlying 29 with | some (.struct fs) => fs | _ => #[]
noncomputable def prFs : Array Field := match Try.prog.underlying 34 with | some (.struct fs) => fs | _ => #[]
theorem under29 : Try.prog.underlying 29 = some (.struct tyFs) := by kernel_rfl
theorem under34 : Try.prog.underlying 34 = some (.struct prFs) := by kernel_rfl
theorem bytes29 : Try.prog.bytesOf 29 = 56 := by kernel_rfl
theorem bytes34 : Try.prog.bytesOf 34 = 112 := by kernel_rfl
theorem cells29 : Try.prog.cellsOf 29 = 4 := by kernel_rfl
theorem cells34 : Try.prog.cellsOf 34 = 8 := by kernel_rfl
theorem ty_types : tyFs.toList.map (·.type) = [3, 3, 9, 27] := by kernel_rfl
theorem pr_types : prFs.toList.map (·.type) = [29, 29] := by kernel_rfl
theorem ty_contig : contig Try.prog 0 tyFs.toList = some (Try.prog.cellsOf 29) := by kernel_rfl
theorem pr_contig : contig Try.prog 0 prFs.toList = some (Try.prog.cellsOf 34) := by kernel_rfl
theorem type_at {fs : List Field} {ts : List TypeId} (h : fs.map (·.type) = ts) {i : Nat} {f : Field} (hf : fs[i]? = some f) : ts[i]? = some f.type := by rw [← h, List.getElem?_map, hf]; rfl
theorem type_of {fs : List Field} {ts : List TypeId} (h : fs.map (·.type) = ts) {i : Nat} {t : TypeId} (ht : ts[i]? = some t) : ∃ f, fs[i]? = some f ∧ f.type = t := by
  rw [← h, List.getElem?_map] at ht
  obtain ⟨f, h1, h2⟩ := Option.map_eq_some_iff.1 ht
  exact ⟨f, h1, h2⟩
theorem list4 {α : Type} {l : List α} (h : l.length = 4) : ∃ a b c d, l = [a, b, c, d] := by
  match l, h with
  | [a, b, c, d], _ => exact ⟨a, b, c, d, rfl⟩

section
variable {w : World} {H : Type} {enc : TypeId × Value → H} {sp : Nat → Bool} {held : Bool}
abbrev qInt (k : IntKind) : DataW H → List V → Prop := fun _ vs => ∃ n : Int, vs = [.int k n]
abbrev qStr : DataW H → List V → Prop := fun _ vs => ∃ l : List UInt8, vs = [.str l]
theorem rdInt {t : TypeId} {k : IntKind} (hu : Try.prog.underlying t = some (.int k)) (fuel : Nat) : ReadsF Try.prog enc sp held w fuel t (qInt k) :=
  readsF_mono (reads_int hu fuel) fun _ _ ⟨n, _, _, h⟩ => ⟨n, h⟩
theorem rdStr {t : TypeId} (hu : Try.prog.underlying t = some .string) (fuel : Nat) : ReadsF Try.prog enc sp held w fuel t qStr :=
  readsF_mono (reads_str hu fuel) fun _ _ ⟨n, _, h⟩ => ⟨n, h⟩
abbrev qTy : DataW H → List V → Prop := fun d vs => Light Try.prog 29 d → ∃ t : Ty, vs = tyC t ∧ Bd t
abbrev qTys : DataW H → List V → Prop := fun d vs => Light Try.prog 27 d → ∃ l : List Ty, vs = [.sl false 4 (l.map tyC)] ∧ l.length * 56 ≤ 140737488355328 ∧ ∀ t ∈ l, Bd t
theorem rdTys {fuel : Nat} (h : ReadsF Try.prog enc sp held w fuel 29 qTy) : ReadsF Try.prog enc sp held w (fuel + 1) 27 qTys := by
  refine readsF_mono (readsF_slice under27 h) ?_
  rintro d vs ⟨xs, rfl, h2⟩ hl
  rw [cells29]
  rcases h2 with ⟨rfl, rfl⟩ | ⟨elems, spare, rfl, h3, h4⟩
  · exact ⟨[], rfl, by simp, fun _ h => by cases h⟩
  · obtain ⟨k1, k2⟩ := light_slice under27 hl
    obtain ⟨l, rfl, hp⟩ := ex_list (f := tyC) (p := Bd) (xs := xs) fun x hx => by
      obtain ⟨i, hi⟩ := List.mem_iff_getElem?.1 hx
      have hil : i < elems.length := by rw [← h3]; exact (List.getElem?_eq_some_iff.1 hi).1
      have hd := List.getElem?_eq_getElem hil
      exact h4 i _ x hd hi (k2 _ (List.getElem_mem hil))
    refine ⟨l, rfl, ?_, hp⟩
    rw [List.length_map] at h3
    rw [h3]
    rw [bytes29] at k1
    unfold reachBytes at k1
    omega
theorem rdTy : ∀ fuel : Nat, ReadsF Try.prog enc sp held w fuel 29 qTy
  | 0 => by intro cs d ps h; cases h
  | fuel + 1 => by
    have h27 : ReadsF Try.prog enc sp held w fuel 27 qTys := by
      cases fuel with
      | zero => intro cs d ps h; cases h
      | succ fuel => exact rdTys (rdTy fuel)
    refine readsF_mono (readsF_struct under29 ty_contig (Qs := [qInt .i64, qInt .i64, qStr, qTys]) (by have := congrArg List.length ty_types; simpa using this) ?_) ?_
    · intro i f Q hf hQ
      have ht := type_at ty_types hf
      match i, ht, hQ with
      | 0, ht, hQ => cases hQ; exact (Option.some.inj ht) ▸ rdInt under3 fuel
      | 1, ht, hQ => cases hQ; exact (Option.some.inj ht) ▸ rdInt under3 fuel
      | 2, ht, hQ => cases hQ; exact (Option.some.inj ht) ▸ rdStr under9 fuel
      | 3, ht, hQ => cases hQ; exact (Option.some.inj ht) ▸ h27
      | i + 4, ht, _ => simp at ht
    · rintro d vs ⟨ds, vss, rfl, rfl, h1, h2, h3⟩ hl
      obtain ⟨a, b, c, e, rfl⟩ := list4 (l := vss) h2
      obtain ⟨x, y, z, u, rfl⟩ := list4 (l := ds) h1
      obtain ⟨k, rfl⟩ := h3 0 _ x a rfl rfl rfl
      obtain ⟨n, rfl⟩ := h3 1 _ y b rfl rfl rfl
      obtain ⟨s, rfl⟩ := h3 2 _ z c rfl rfl rfl
      obtain ⟨f, hf, hft⟩ := type_of ty_types (i := 3) (t := 27) rfl
      have hl3 := light_part under29 hl hf (d := u) rfl
      rw [hft] at hl3
      obtain ⟨l, rfl, h4, h5⟩ := h3 3 _ u e rfl rfl rfl hl3
      exact ⟨.mk k n s l, by rw [tyC, tysC_eq]; rfl, .mk h4 h5⟩
abbrev qPr : DataW H → List V → Prop := fun d vs => Light Try.prog 34 d → ∃ a b : Ty, vs = tyC a ++ tyC b ∧ Bd a ∧ Bd b
theorem rdPr : ∀ fuel : Nat, ReadsF Try.prog enc sp held w fuel 34 qPr
  | 0 => by intro cs d ps h; cases h
  | fuel + 1 => by
    refine readsF_mono (readsF_struct under34 pr_contig (Qs := [qTy, qTy]) (by have := congrArg List.length pr_types; simpa using this) ?_) ?_
    · intro i f Q hf hQ
      have ht := type_at pr_types hf
      match i, ht, hQ with
      | 0, ht, hQ => cases hQ; exact (Option.some.inj ht) ▸ rdTy fuel
      | 1, ht, hQ => cases hQ; exact (Option.some.inj ht) ▸ rdTy fuel
      | i + 2, ht, _ => simp at ht
    · rintro d vs ⟨ds, vss, rfl, rfl, h1, h2, h3⟩ hl
      obtain ⟨a, b, rfl⟩ := list2 (l := vss) h2
      obtain ⟨x, y, rfl⟩ := list2 (l := ds) h1
      obtain ⟨f, hf, hft⟩ := type_of pr_types (i := 0) (t := 29) rfl
      have hl0 := light_part under34 hl hf (d := x) rfl
      rw [hft] at hl0
      obtain ⟨f, hf, hft⟩ := type_of pr_types (i := 1) (t := 29) rfl
      have hl1 := light_part under34 hl hf (d := y) rfl
      rw [hft] at hl1
      obtain ⟨t, rfl, ht⟩ := h3 0 _ x a rfl rfl rfl hl0
      obtain ⟨u, rfl, hu⟩ := h3 1 _ y b rfl rfl rfl hl1
      exact ⟨t, u, by simp, ht, hu⟩
theorem reads22 : Reads Try.prog enc sp held w 22 fun d vs => Light Try.prog 22 d → ∃ l : List (Ty × Ty), vs = [.sl false 8 (l.map fun p => tyC p.1 ++ tyC p.2)] ∧ l.length ≤ reachBytes ∧ ∀ p ∈ l, Bd p.1 ∧ Bd p.2 := by
  intro fuel cs d ps h
  obtain ⟨vs, h1, h2⟩ := reads_sl (P := Try.prog) (w := w) (enc := enc) (sp := sp) (held := held) under22 (f := fun p : Ty × Ty => tyC p.1 ++ tyC p.2) (p := fun p => Bd p.1 ∧ Bd p.2) (by rw [bytes34]; omega)
    (fun fuel => readsF_mono (rdPr fuel) fun _ _ h hl => by obtain ⟨a, b, h1, h2, h3⟩ := h hl; exact ⟨(a, b), h1, h2, h3⟩) fuel cs d ps h
  refine ⟨vs, h1, fun hl => ?_⟩
  obtain ⟨l, rfl, h3, h4⟩ := h2 hl
  exact ⟨l, by rw [cells34], h3, h4⟩
theorem reads27 : Reads Try.prog enc sp held w 27 fun d vs => Light Try.prog 27 d → ∃ l : List Ty, vs = [.sl false 4 (l.map tyC)] ∧ l.length ≤ reachBytes ∧ ∀ t ∈ l, Bd t := by
  intro fuel cs d ps h
  obtain ⟨vs, h1, h2⟩ := reads_sl (P := Try.prog) (w := w) (enc := enc) (sp := sp) (held := held) under27 (f := tyC) (p := Bd) (by rw [bytes29]; omega) rdTy fuel cs d ps h
  refine ⟨vs, h1, fun hl => ?_⟩
  obtain ⟨l, rfl, h3, h4⟩ := h2 hl
  exact ⟨l, by rw [cells29], h3, h4⟩
/-- A struct that is handed in. -/
theorem open_structV {t : TypeId} {fs : Array Field} {r : Reach} {b0 : Nat} {v : Value} {d : DataW H} {ps : List MemPlace} (hu : Try.prog.underlying t = some (.struct fs)) (hval : Value.okWide Try.prog w r b0 t v) {Q : DataW H → List V → Prop} (hr : Reads Try.prog enc sp held w t Q)
    (hd : DataW.Trod enc Try.prog w 0 sp held t v d ps) : ∃ vs, RepL w (gh0 w) [.agg vs] [v] [] ∧ Q d vs := by
  unfold Value.okWide at hval
  rw [hu] at hval
  obtain ⟨cs, rfl, _, _⟩ := hval
  obtain ⟨fuel, h⟩ := hd
  obtain ⟨vs, h1, h2⟩ := hr fuel _ d ps h
  exact ⟨vs, .agg (acs := cs.toList) (b1 := []) (bl := []) (RepI.toL h1) .nil, h2⟩
end
theorem RepL.cons0 {w : World} {G : Gh} {v : V} {c : Value} {vs : List V} {cs : List Value} (h : RepL w G [v] [c] []) (k : RepL w G vs cs []) : RepL w G (v :: vs) (c :: cs) [] := RepL.cons h k
theorem RepI.toL0 {w : World} {vs : List V} {cs : List Value} (h : RepI (immW w) vs cs) : RepL w (gh0 w) vs cs [] := RepI.toL h
end Go.Proofs.Ytneonbdlgmaofaa.Vm
