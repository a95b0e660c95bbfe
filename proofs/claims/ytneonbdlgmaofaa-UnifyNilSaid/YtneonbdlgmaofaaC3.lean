/-
Types that are made the same, part 9: a type's variables.
Types that are made the same, part 10: the program's places, renamed types.
Types that are made the same, part 11: renamed types, the plain part.
Types that are made the same, part 12: a renamed type is its own renamed form (plain).
UnifyRenames: the law, walked.
Types that are made the same, part 15: the store in memory.
Types that are made the same, part 16: functions at any heap; head.
Types that are made the same, part 17: sees.
Types that are made the same, part 18: resolve.
Types that are made the same, part 19: Resolve.
Types that are made the same, part 20: leaves, in a store that knows nothing.
UnifyNil: the law, walked.
Types that are made the same, part 14: types as a law is handed them.
-/
import Derived.Test.YtneonbdlgmaofaaC2
namespace Go.Proofs.Ytneonbdlgmaofaa.Vm
open Go
set_option linter.unusedSimpArgs false

mutual
def varsF : Ty → List Int → List Int
  | .mk k n _ xs, l => if k = 1 then (if n ∈ l then l else l ++ [n]) else varsL xs l
def varsL : List Ty → List Int → List Int
  | [], l => l
  | a :: xs, l => varsL xs (varsF a l)
end
theorem varsL_app : ∀ {a b : List Ty} {l : List Int}, varsL (a ++ b) l = varsL b (varsL a l)
  | [], b, l => by simp [varsL]
  | x :: a, b, l => by rw [List.cons_append, varsL, varsL, varsL_app]
theorem varsL_push {xs : List Ty} {i : Nat} {a : Ty} {l : List Int} (h : xs[i]? = some a) : varsL (xs.take (i + 1)) l = varsF a (varsL (xs.take i) l) := by
  rw [List.take_add_one, h, varsL_app]; simp [varsL]
mutual
theorem varsF_len : ∀ (t : Ty) (l : List Int), (varsF t l).length ≤ l.length + tySize t
  | .mk k n s xs, l => by
    have := varsL_len xs l
    rw [varsF, tySize]
    split
    · split
      · omega
      · simp
    · omega
theorem varsL_len : ∀ (xs : List Ty) (l : List Int), (varsL xs l).length ≤ l.length + tysSize xs
  | [], l => by simp [varsL]
  | a :: xs, l => by
    have h1 := varsF_len a l
    have h2 := varsL_len xs (varsF a l)
    rw [varsL, tysSize]; omega
end
theorem int_push {l : List Int} {i : Nat} {a : Int} (h : l[i]? = some a) : List.map (fun n => [V.int .i64 n]) (List.take i l) ++ [[V.int .i64 a]] = List.map (fun n => [V.int .i64 n]) (List.take (i + 1) l) := by
  rw [List.take_add_one, h]; simp only [List.map_append]; rfl
theorem not_mem_of {l : List Int} {n : Int} (h : ∀ j < l.length, l[j]? ≠ some n) : n ∉ l := by
  intro hm
  obtain ⟨j, hj⟩ := List.mem_iff_getElem?.1 hm
  exact h j (List.getElem?_eq_some_iff.1 hj).1 hj
@[go_sem] theorem fin0_ints {H : Heap} {R : V → Prop} {o : Bool} {l : List Int} : fin0 H (intsV o l) R = R (intsV o l) := fin0_sl

theorem refVars_T (t : Ty) : Bd t → ∀ (l : List Int), l.length + tySize t ≤ 1000000000 → ∀ (o o1 : Bool), ∃ o', T Try.prog 23 [tyV o t, intsV o1 l] [] (intsV o' (varsF t l)) [] := by
  induction t using Ty.ind with
  | h k n s xs ih =>
    intro hb l hl o o1
    have key : ∀ R : V → Prop, (∀ o', R (intsV o' (varsF (Ty.mk k n s xs) l))) → ∃ r, T Try.prog 23 [tyV o (Ty.mk k n s xs), intsV o1 l] [] r [] ∧ R r := by
      intro R hR
      rw [tySize] at hl
      refine T.of0x mix c23 rfl ?_
      unfold v23
      simp only [tyV, tyO, Ty.k, Ty.n, Ty.s, Ty.as, intsV, go_sem, ↓reduceIte]
      by_cases hk : k = 1
      · subst hk
        refine ⟨fun _ => ?_, fun h => by simp at h⟩
        refine WP.loop' (fun m E H' => ∃ (i : Nat) (ex : List (Nat × V)), i + m = l.length ∧ (∀ j < i, l[j]? ≠ some n) ∧
          H' = [Obj.cells 0 [.int .i64 1, .int .i64 n, .str s, .sl o 4 (xs.map tyC)]] ∧
          E = ⟨(1, intsV o1 l) :: (2, .ptr 0 0 0) :: (5, .int .i64 i) :: ex, .u⟩) (n := l.length) ⟨0, _, by omega, fun j hj => by omega, rfl, rfl⟩ ?_
        rintro m E H' ⟨i, ex, hi, hno, rfl, rfl⟩
        have hw := inc64 (i := i) (by omega)
        simp only [intsV, go_sem, ↓reduceIte, ↓ex_map, ↓run_addW, hw, Int.toNat_natCast]
        refine ⟨fun hlt => ?_, fun hge => ?_⟩
        · have hix : i < l.length := by omega
          refine ⟨by omega, _, List.getElem?_eq_getElem hix, fun he => ?_, fun he => ⟨m - 1, by omega, i + 1, _, by omega, fun j hj => ?_, rfl⟩⟩
          · have := hR o1
            rw [varsF, if_pos rfl, if_pos (by simp at he; rw [← he]; exact List.getElem_mem hix)] at this
            exact this
          · by_cases hj' : j < i
            · exact hno j hj'
            · have : j = i := by omega
              subst this
              rw [List.getElem?_eq_getElem hix]
              simp at he ⊢; exact he
        · refine WP.loop' (fun m E H' => ∃ (i : Nat) (ex : List (Nat × V)), i + m = l.length ∧
            H' = [Obj.cells 0 [.int .i64 1, .int .i64 n, .str s, .sl o 4 (xs.map tyC)]] ∧
            E = ⟨(1, intsV o1 l) :: (2, .ptr 0 0 0) :: (6, intsV true (l.take i)) :: (7, .int .i64 i) :: ex, .u⟩) (n := l.length) ⟨0, _, by omega, rfl, rfl⟩ ?_
          rintro m E H' ⟨i, ex, hi', rfl, rfl⟩
          have hw := inc64 (i := i) (by omega)
          simp only [intsV, go_sem, ↓reduceIte, ↓ex_map, ↓run_addW, hw, Int.toNat_natCast]
          refine ⟨fun hlt => ?_, fun hge => ?_⟩
          · have hix : i < l.length := by omega
            have hg := List.getElem?_eq_getElem hix
            have hfit : fits (i + 1) 8 := ⟨by omega, by omega⟩
            have hmin : min i l.length = i := by omega
            refine ⟨by omega, _, hg, ?_⟩
            have hpush := int_push hg
            simp only [List.length_take, hmin, hfit, hpush, true_and]
            exact ⟨m - 1, by omega, i + 1, _, by omega, rfl⟩
          · rw [List.take_of_length_le (by omega)]
            have hfit : fits (l.length + 1) 8 := ⟨by omega, by omega⟩
            have := hR true
            rw [varsF, if_pos rfl, if_neg (not_mem_of fun j hj => hno j (by omega))] at this
            rw [intsV, List.map_append] at this
            exact ⟨hfit, this⟩
      · refine ⟨fun h => by simp at h; exact absurd h hk, fun _ => ?_⟩
        refine WP.loop' (fun m E H' => ∃ (i : Nat) (oi : Bool) (ex : List (Nat × V)), i + m = xs.length ∧
          H' = [Obj.cells 0 [.int .i64 k, .int .i64 n, .str s, .sl o 4 (xs.map tyC)]] ∧
          E = ⟨(1, intsV oi (varsL (xs.take i) l)) :: (2, .ptr 0 0 0) :: (8, .int .i64 i) :: ex, .u⟩) (n := xs.length) ⟨0, o1, _, by omega, rfl, rfl⟩ ?_
        rintro m E H' ⟨i, oi, ex, hi, rfl, rfl⟩
        have hw := inc64 (i := i) (by have := hb.len; omega)
        simp only [intsV, go_sem, ↓reduceIte, ↓ex_map, ↓run_addW, hw, Int.toNat_natCast]
        refine ⟨fun hlt => ?_, fun hge => ?_⟩
        · have hix : i < xs.length := by omega
          have hg := List.getElem?_eq_getElem hix
          have hp := tysSize_push hg
          have h1 := varsL_len (xs.take i) l
          have h2 := tysSize_take xs (i + 1)
          obtain ⟨o', hT⟩ := ih _ (List.getElem_mem hix) (hb.arg _ (List.getElem_mem hix)) (varsL (xs.take i) l) (by omega) false oi
          rw [← tyC_agg] at hT
          refine ⟨by omega, _, hg, _, _, hT.frame (by rw [tyC_agg]; rfl) _, ?_⟩
          rw [← varsL_push hg]
          simp only [intsV, go_sem, ↓reduceIte, ↓run_addW, hw]
          exact ⟨m - 1, by omega, i + 1, o', _, by omega, rfl⟩
        · have := hR oi
          rw [varsF, if_neg hk] at this
          rw [List.take_of_length_le (by omega)]
          exact this
    obtain ⟨r, hT, o', rfl⟩ := key (fun r => ∃ o', r = intsV o' (varsF (Ty.mk k n s xs) l)) fun o' => ⟨o', rfl⟩
    exact ⟨o', hT⟩

theorem has_T (l : List Int) (hl : l.length ≤ 1000000000) (n : Int) (o : Bool) : T Try.prog 42 [intsV o l, .int .i64 n] [] (.bool (decide (n ∈ l))) [] := by
  refine T.of0 mix c42 rfl ?_
  unfold v42
  simp only [intsV, go_sem, ↓reduceIte]
  refine WP.loop' (fun m E H' => ∃ (i : Nat) (ex : List (Nat × V)), i + m = l.length ∧ (∀ j < i, l[j]? ≠ some n) ∧
    E = ⟨(1, .int .i64 n) :: (7, intsV o l) :: (8, .int .i64 l.length) :: (9, .int .i64 i) :: ex, .u⟩) (n := l.length) ⟨0, _, by omega, fun j hj => by omega, rfl⟩ ?_
  rintro m E H' ⟨i, ex, hi, hno, rfl⟩
  have hw := inc64 (i := i) (by omega)
  simp only [intsV, go_sem, ↓reduceIte, ↓ex_map, ↓run_addW, hw, Int.toNat_natCast]
  refine ⟨fun hlt => ?_, fun hge => ?_⟩
  · have hix : i < l.length := by omega
    refine ⟨by omega, _, List.getElem?_eq_getElem hix, fun he => ?_, fun he => ⟨m - 1, by omega, i + 1, _, by omega, fun j hj => ?_, rfl⟩⟩
    · simp at he
      rw [decide_eq_true]
      rw [← he]; exact List.getElem_mem hix
    · by_cases hj' : j < i
      · exact hno j hj'
      · have : j = i := by omega
        subst this
        rw [List.getElem?_eq_getElem hix]
        simp at he ⊢; exact he
  · rw [decide_eq_false]
    exact not_mem_of fun j hj => hno j (by omega)

theorem vars_T (t : Ty) : Bd t → Rt t → ∀ (l : List Int), l.length + tySize t ≤ 1000000000 → ∀ o : Bool, T Try.prog 38 [tyV o t, intsV true l] [] (intsV true (varsF t l)) [] := by
  induction t using Ty.ind with
  | h k n s xs ih =>
    intro hb hr l hl o
    have key : ∀ R : V → Prop, (R (intsV true (varsF (Ty.mk k n s xs) l))) → ∃ r, T Try.prog 38 [tyV o (Ty.mk k n s xs), intsV true l] [] r [] ∧ R r := by
      intro R hR
      rw [tySize] at hl
      refine T.of0x mix c38 rfl ?_
      unfold v38
      simp only [tyV, tyO, Ty.k, Ty.n, Ty.s, Ty.as, intsV, go_sem, ↓reduceIte]
      by_cases hk : k = 1
      · have hx : xs = [] := by
          cases hr with
          | var => rfl
          | con => cases hk
          | fn => cases hk
        subst hk hx
        refine ⟨fun _ => ⟨_, _, (has_T l (by omega) n false).frame rfl _, ?_⟩, fun h => by simp at h⟩
        have hfit : fits (l.length + 1) 8 := ⟨by omega, by omega⟩
        simp only [go_sem, ↓reduceIte]
        rw [varsF, if_pos rfl] at hR
        refine ⟨fun h => ⟨hfit, ?_⟩, fun h => ?_⟩
        · rw [if_neg (by simpa using h), intsV, List.map_append] at hR
          refine WP.loop' (fun m E H' => E = ⟨[(1, .sl true 1 (List.map (fun n => [V.int .i64 n]) l ++ [[.int .i64 n]])), (23, .sl false 4 []), (24, .int .i64 0), (25, .int .i64 0)], .u⟩) (n := 0) rfl ?_
          rintro m E H' rfl
          simp only [go_sem, ↓reduceIte]
          exact ⟨fun h => absurd h (by omega), fun _ => hR⟩
        · rw [if_pos (by simpa using h), intsV] at hR
          refine WP.loop' (fun m E H' => E = ⟨[(1, .sl true 1 (List.map (fun n => [V.int .i64 n]) l)), (23, .sl false 4 []), (24, .int .i64 0), (25, .int .i64 0)], .u⟩) (n := 0) rfl ?_
          rintro m E H' rfl
          simp only [go_sem, ↓reduceIte]
          exact ⟨fun h => absurd h (by omega), fun _ => hR⟩
      · refine ⟨fun h => by simp at h; exact absurd h hk, fun _ => ?_⟩
        refine WP.loop' (fun m E H' => ∃ (i : Nat) (ex : List (Nat × V)), i + m = xs.length ∧
          E = ⟨(1, intsV true (varsL (xs.take i) l)) :: (23, .sl false 4 (xs.map tyC)) :: (24, .int .i64 xs.length) :: (25, .int .i64 i) :: ex, .u⟩) (n := xs.length) ⟨0, _, by omega, rfl⟩ ?_
        rintro m E H' ⟨i, ex, hi, rfl⟩
        have hw := inc64 (i := i) (by have := hb.len; omega)
        simp only [intsV, go_sem, ↓reduceIte, ↓ex_map, ↓run_addW, hw, Int.toNat_natCast]
        refine ⟨fun hlt => ?_, fun hge => ?_⟩
        · have hix : i < xs.length := by omega
          have hg := List.getElem?_eq_getElem hix
          have hp := tysSize_push hg
          have h1 := varsL_len (xs.take i) l
          have h2 := tysSize_take xs (i + 1)
          have hT := ih _ (List.getElem_mem hix) (hb.arg _ (List.getElem_mem hix)) (hr.args _ (List.getElem_mem hix)) (varsL (xs.take i) l) (by omega) false
          rw [← tyC_agg] at hT
          refine ⟨by omega, _, hg, _, _, hT.frame (by rw [tyC_agg]; rfl) _, ?_⟩
          rw [← varsL_push hg]
          simp only [intsV, go_sem, ↓reduceIte, ↓run_addW, hw]
          exact ⟨m - 1, by omega, i + 1, _, by omega, rfl⟩
        · have := hR
          rw [varsF, if_neg hk] at this
          rw [List.take_of_length_le (by omega)]
          exact this
    obtain ⟨r, hT, rfl⟩ := key (fun r => r = intsV true (varsF (Ty.mk k n s xs) l)) rfl
    exact hT
theorem Vars_T (t : Ty) (hb : Bd t) (hr : Rt t) (hl : tySize t ≤ 1000000000) (o : Bool) : T Try.prog 34 [tyV o t] [] (intsV true (varsF t [])) [] := by
  obtain ⟨k, n, s, xs⟩ := t
  refine T.of0 mix c34 rfl ?_
  unfold v34
  have h1 := right_T _ hb false
  have h2 := vars_T _ hb hr [] (by simpa using hl) o
  rw [(right_iff _).2 hr] at h1
  have e : intsV true [] = .sl true 1 [] := rfl
  rw [e] at h2
  simp only [tyV, tyO, Ty.k, Ty.n, Ty.s, Ty.as, go_sem, ↓reduceIte] at h1 h2 ⊢
  refine ⟨_, _, h1.frame rfl _, ?_⟩
  simp only [go_sem, ↓reduceIte]
  refine ⟨_, _, h2.frame rfl _, ?_⟩
  simp only [intsV, go_sem, ↓reduceIte]
end Go.Proofs.Ytneonbdlgmaofaa.Vm
namespace Go.Proofs.Ytneonbdlgmaofaa.Vm
open Go
set_option linter.unusedSimpArgs false

@[go_sem] theorem tyO_len {o : Bool} {a : Ty} : (tyO o a).length = 4 := rfl
@[go_sem] theorem tyO_take {o : Bool} {a : Ty} : List.take 4 (tyO o a) = tyO o a := rfl
@[go_sem] theorem tyO_drop0 {o : Bool} {a : Ty} : List.drop 0 (tyO o a) = tyO o a := rfl
@[go_sem] theorem tyO_strip {o : Bool} {a : Ty} : List.map strip0 (tyO o a) = tyO false a := rfl
@[go_sem] theorem put_tyO {a b c d : V} {o : Bool} {t : Ty} : put [a, b, c, d] 0 (tyO o t) = tyO o t := rfl
@[go_sem] theorem put_tyOO {o o' : Bool} {t u : Ty} : put (tyO o t) 0 (tyO o' u) = tyO o' u := rfl
@[go_sem] theorem agg_tyO {o : Bool} {t : Ty} : V.agg (tyO o t) = tyV o t := rfl
@[go_sem] theorem store_tyV {P : Program} {K : KK} {s : List Fr} {E : En} {H : Heap} {tk : List Nat} {dst : Option Nat} {os : List VOp} {keep : List Nat} {id ver off : Nat} {o : Bool} {t : Ty} :
    runAct P (.store 4) [.ptr id ver off, tyV o t] tk dst os keep s E H K = storeA P (getCells H id ver) id ver off (tyO o t) tk dst os keep s E H K :=
  store_agg (tyO_plain _ _) rfl

theorem subst_T (vs : List Int) (ws : List Ty) (hv : vs.length ≤ 1000000000) (hws : ∀ w ∈ ws, Bd w) (t : Ty) : Bd t → ∀ (o o1 o2 : Bool), ∃ o', T Try.prog 39 [tyV o t, intsV o1 vs, tysV o2 ws] [] (tyV o' (subF vs ws t)) [] := by
  induction t using Ty.ind with
  | h k n s xs ih =>
    intro hb o o1 o2
    have key : ∀ R : V → Prop, (∀ o', R (tyV o' (subF vs ws (Ty.mk k n s xs)))) → ∃ r, T Try.prog 39 [tyV o (Ty.mk k n s xs), intsV o1 vs, tysV o2 ws] [] r [] ∧ R r := by
      intro R hR
      refine T.of0x mix c39 rfl ?_
      unfold v39
      simp only [tyV, tyO, Ty.k, Ty.n, Ty.s, Ty.as, intsV, tysV, go_sem, ↓reduceIte]
      by_cases hk : k = 1
      · subst hk
        refine ⟨fun _ => ?_, fun h => by simp at h⟩
        refine WP.loop' (fun m E H' => ∃ (i : Nat) (ex : List (Nat × V)), i + m = vs.length ∧ (∀ j < i, vs[j]? ≠ some n) ∧
          H' = [Obj.cells 0 [.int .i64 1, .int .i64 n, .str s, .sl o 4 (xs.map tyC)], Obj.cells 0 [.int .i64 0, .int .i64 0, .str [], .sl true 4 []]] ∧
          E = ⟨(2, tysV o2 ws) :: (3, .ptr 0 0 0) :: (6, .ptr 1 0 0) :: (15, intsV o1 vs) :: (16, .int .i64 vs.length) :: (17, .int .i64 i) :: ex, .u⟩) (n := vs.length) ⟨0, _, by omega, fun j hj => by omega, rfl, rfl⟩ ?_
        rintro m E H' ⟨i, ex, hi, hno, rfl, rfl⟩
        have hw := inc64 (i := i) (by omega)
        simp only [intsV, tysV, go_sem, ↓reduceIte, ↓ex_map, ↓run_addW, hw, Int.toNat_natCast]
        have hdone : (∀ j < vs.length, vs[j]? ≠ some n) → subF vs ws (Ty.mk 1 n s xs) = Ty.mk 1 n s xs := by
          intro h; rw [subF, if_pos rfl, atV_none h]
        refine ⟨fun hlt => ?_, fun hge => ?_⟩
        · have hix : i < vs.length := by omega
          have hstep : ∀ (he : (vs[i] == n) = false), ∀ j < i + 1, ¬ vs[j]? = some n := by
            intro he j hj
            by_cases hj' : j < i
            · exact hno j hj'
            · have : j = i := by omega
              subst this
              rw [List.getElem?_eq_getElem hix]
              simp at he ⊢; exact he
          refine ⟨by omega, _, List.getElem?_eq_getElem hix, fun he => ?_, fun he => ⟨fun he' => (by rw [he] at he'; cases he'), fun _ => ⟨m - 1, by omega, i + 1, _, by omega, hstep he, rfl⟩⟩⟩
          have hv' : vs[i]? = some n := by rw [List.getElem?_eq_getElem hix]; simp at he; rw [he]
          refine ⟨fun hlw => ?_, fun hlw => ⟨fun _ => ?_, fun he' => (by rw [he] at he'; cases he')⟩⟩
          · have hiw : i < ws.length := by omega
            have hgw := List.getElem?_eq_getElem hiw
            obtain ⟨o', hT⟩ := copied_T ws[i] (hws _ (List.getElem_mem hiw)) false
            refine ⟨by omega, _, hgw, _, _, hT.ty _, ?_⟩
            simp only [go_sem, ↓reduceIte]
            have := hR o'
            rw [subF, if_pos rfl, atV_at hno hv', hgw] at this
            exact this
          · have := hR o
            rw [subF, if_pos rfl, atV_at hno hv', List.getElem?_eq_none (by omega)] at this
            exact this
        · have := hR o
          rw [hdone (fun j hj => hno j (by omega))] at this
          exact this
      · refine ⟨fun h => by simp at h; exact absurd h hk, fun _ => ?_⟩
        refine WP.loop' (fun m E H' => ∃ (i : Nat) (rest : Heap) (ex : List (Nat × V)), i + m = xs.length ∧
          H' = Obj.cells 0 [.int .i64 k, .int .i64 n, .str s, .sl o 4 (xs.map tyC)] :: Obj.cells 0 [.int .i64 0, .int .i64 0, .str [], .sl true 4 []] :: Obj.cells 0 [.int .i64 k, .int .i64 0, .str s, .sl true 4 (((xs.take i).map (subF vs ws)).map tyC)] :: rest ∧
          E = ⟨(1, intsV o1 vs) :: (2, tysV o2 ws) :: (6, .ptr 1 0 0) :: (9, .ptr 2 0 0) :: (50, .sl false 4 (xs.map tyC)) :: (51, .int .i64 xs.length) :: (52, .int .i64 i) :: ex, .u⟩) (n := xs.length) ⟨0, [], _, by omega, rfl, rfl⟩ ?_
        rintro m E H' ⟨i, rest, ex, hi, rfl, rfl⟩
        have hw := inc64 (i := i) (by have := hb.len; omega)
        simp only [intsV, tysV, go_sem, ↓reduceIte, ↓ex_map, ↓run_addW, hw, Int.toNat_natCast]
        refine ⟨fun hlt => ?_, fun hge => ?_⟩
        · have hix : i < xs.length := by omega
          have hg := List.getElem?_eq_getElem hix
          obtain ⟨o', hT⟩ := ih _ (List.getElem_mem hix) (hb.arg _ (List.getElem_mem hix)) false false false
          rw [← tyC_agg] at hT
          refine ⟨by omega, _, hg, _, hT, by rw [tyC_agg]; rfl, ?_⟩
          have hfit : fits (i + 1) 56 := ⟨by have := hb.len; omega, by have := hb.len; omega⟩
          have hmin : min i xs.length = i := by omega
          have hpush := ty_push (subF vs ws) hg
          simp only [go_sem, ↓reduceIte, ↓run_addW, hw, List.length_take, hmin, hfit, hpush]
          exact ⟨m - 1, by omega, i + 1, _, _, by omega, rfl, rfl⟩
        · have := hR true
          rw [subF, if_neg hk, subL_eq] at this
          rw [List.take_of_length_le (by omega)]
          exact this
    obtain ⟨r, hT, o', rfl⟩ := key (fun r => ∃ o', r = tyV o' (subF vs ws (Ty.mk k n s xs))) fun o' => ⟨o', rfl⟩
    exact ⟨o', hT⟩
theorem Subst_T (vs : List Int) (ws : List Ty) (hv : vs.length ≤ 1000000000) (hws : ∀ w ∈ ws, Bd w) (t : Ty) (hb : Bd t) (hr : Rt t) (o o1 o2 : Bool) : ∃ o', T Try.prog 35 [tyV o t, intsV o1 vs, tysV o2 ws] [] (tyV o' (subF vs ws t)) [] := by
  have key : ∀ R : V → Prop, (∀ o', R (tyV o' (subF vs ws t))) → ∃ r, T Try.prog 35 [tyV o t, intsV o1 vs, tysV o2 ws] [] r [] ∧ R r := by
    intro R hR
    obtain ⟨k, n, s, xs⟩ := t
    refine T.of0x mix c35 rfl ?_
    unfold v35
    have h1 := right_T _ hb false
    obtain ⟨o', h2⟩ := subst_T vs ws hv hws _ hb o o1 o2
    rw [(right_iff _).2 hr] at h1
    generalize hX : subF vs ws (Ty.mk k n s xs) = X at h2 hR
    generalize hX : tyV o' X = Y at h2
    simp only [tyV, tyO, Ty.k, Ty.n, Ty.s, Ty.as, intsV, tysV, go_sem, ↓reduceIte] at h1 h2 ⊢
    subst hX
    refine ⟨_, _, h1.frame rfl _, ?_⟩
    simp only [go_sem, ↓reduceIte]
    refine ⟨_, _, h2.frame rfl _, ?_⟩
    simp only [go_sem, ↓reduceIte]
    exact hR _
  obtain ⟨r, hT, o', rfl⟩ := key (fun r => ∃ o', r = tyV o' (subF vs ws t)) fun o' => ⟨o', rfl⟩
  exact ⟨o', hT⟩
theorem var_T (n : Int) : ∃ o', T Try.prog 33 [.int .i64 n] [] (tyV o' (vr n)) [] := by
  have key : ∀ R : V → Prop, (∀ o', R (tyV o' (vr n))) → ∃ r, T Try.prog 33 [.int .i64 n] [] r [] ∧ R r := by
    intro R hR
    refine T.of0x mix c33 rfl ?_
    unfold v33
    simp only [go_sem, ↓reduceIte]
    exact hR _
  obtain ⟨r, hT, o', rfl⟩ := key (fun r => ∃ o', r = tyV o' (vr n)) fun o' => ⟨o', rfl⟩
  exact ⟨o', hT⟩
theorem refVar_T (n : Int) : ∃ o', T Try.prog 22 [.int .i64 n] [] (tyV o' (vr n)) [] := by
  have key : ∀ R : V → Prop, (∀ o', R (tyV o' (vr n))) → ∃ r, T Try.prog 22 [.int .i64 n] [] r [] ∧ R r := by
    intro R hR
    refine T.of0x mix c22 rfl ?_
    unfold v22
    simp only [go_sem, ↓reduceIte]
    exact hR _
  obtain ⟨r, hT, o', rfl⟩ := key (fun r => ∃ o', r = tyV o' (vr n)) fun o' => ⟨o', rfl⟩
  exact ⟨o', hT⟩
end Go.Proofs.Ytneonbdlgmaofaa.Vm
namespace Go.Proofs.Ytneonbdlgmaofaa.Vm
open Go
set_option linter.unusedSimpArgs false

def ix : List Int → Int → Nat
  | [], _ => 0
  | a :: l, v => if a = v then 0 else ix l v + 1
theorem ix_get : ∀ {l : List Int} {v : Int}, v ∈ l → l[ix l v]? = some v
  | a :: l, v, h => by
    unfold ix
    split
    · rename_i e; subst e; rfl
    · rename_i e
      rcases List.mem_cons.1 h with rfl | h
      · exact absurd rfl e
      · simpa using ix_get h
theorem ix_lt {l : List Int} {v : Int} (h : v ∈ l) : ix l v < l.length := (List.getElem?_eq_some_iff.1 (ix_get h)).1
theorem ix_inj {l : List Int} {v w : Int} (hv : v ∈ l) (hw : w ∈ l) (h : ix l v = ix l w) : v = w := by
  have h1 := ix_get hv
  rw [h, ix_get hw] at h1
  exact (Option.some.inj h1).symm
theorem ix_map {f : Int → Int} : ∀ {l : List Int} {v : Int}, v ∈ l → (∀ a ∈ l, ∀ b ∈ l, f a = f b → a = b) → ix (l.map f) (f v) = ix l v
  | a :: l, v, h, hi => by
    rw [List.map_cons]
    unfold ix
    by_cases e : a = v
    · subst e; simp
    · have hm : v ∈ l := by
        rcases List.mem_cons.1 h with rfl | h
        · exact absurd rfl e
        · exact h
      have : f a ≠ f v := fun e2 => e (hi a (List.mem_cons_self ..) v h e2)
      rw [if_neg this, if_neg e, ix_map hm fun a ha b hb => hi a (List.mem_cons_of_mem _ ha) b (List.mem_cons_of_mem _ hb)]
mutual
def mapT (f : Int → Int) : Ty → Ty
  | .mk k n s xs => if k = 1 then .mk k (f n) s xs else .mk k n s (mapL f xs)
def mapL (f : Int → Int) : List Ty → List Ty
  | [] => []
  | a :: xs => mapT f a :: mapL f xs
end
theorem mapL_eq (f : Int → Int) : ∀ l : List Ty, mapL f l = l.map (mapT f)
  | [] => rfl
  | a :: l => by rw [mapL, mapL_eq f l]; rfl
theorem Occ.args {v : Int} {k n : Int} {s : List UInt8} {xs : List Ty} (hk : k ≠ 1) : Occ v (.mk k n s xs) ↔ ∃ a ∈ xs, Occ v a := by
  constructor
  · intro h
    cases h with
    | var => exact absurd rfl hk
    | arg _ ha h => exact ⟨_, ha, h⟩
  · rintro ⟨a, ha, h⟩; exact .arg hk ha h
mutual
theorem mapT_size (f : Int → Int) : ∀ t : Ty, tySize (mapT f t) = tySize t
  | .mk k n s xs => by
    rw [mapT]
    split
    · rw [tySize, tySize]
    · rw [tySize, tySize, mapL_size f xs]
theorem mapL_size (f : Int → Int) : ∀ l : List Ty, tysSize (mapL f l) = tysSize l
  | [] => rfl
  | a :: l => by rw [mapL, tysSize, tysSize, mapT_size f a, mapL_size f l]
end
theorem mapT_bd (f : Int → Int) (t : Ty) : Bd t → Bd (mapT f t) := by
  induction t using Ty.ind with
  | h k n s xs ih =>
    intro hb
    rw [mapT]
    split
    · exact .mk hb.len hb.arg
    · rw [mapL_eq]
      refine .mk (by rw [List.length_map]; exact hb.len) fun a ha => ?_
      obtain ⟨b, hb', rfl⟩ := List.mem_map.1 ha
      exact ih b hb' (hb.arg b hb')
theorem mapT_rt (f : Int → Int) (t : Ty) : Rt t → (∀ v, Occ v t → 0 ≤ f v ∧ f v ≤ 1073741824) → Rt (mapT f t) := by
  induction t using Ty.ind with
  | h k n s xs ih =>
    intro hr hf
    rw [mapT]
    cases hr with
    | var h0 h1 =>
      rw [if_pos rfl]
      have := hf n (.var rfl)
      exact .var this.1 this.2
    | con hs h =>
      rw [if_neg (by omega), mapL_eq]
      refine .con hs fun a ha => ?_
      obtain ⟨b, hb, rfl⟩ := List.mem_map.1 ha
      exact ih b hb (h b hb) fun v hv => hf v (.arg (by omega) hb hv)
    | fn hl h =>
      rw [if_neg (by omega), mapL_eq]
      refine .fn (by rw [List.length_map]; exact hl) fun a ha => ?_
      obtain ⟨b, hb, rfl⟩ := List.mem_map.1 ha
      exact ih b hb (h b hb) fun v hv => hf v (.arg (by omega) hb hv)
theorem mapT_congr {f g : Int → Int} (t : Ty) : (∀ v, Occ v t → f v = g v) → mapT f t = mapT g t := by
  induction t using Ty.ind with
  | h k n s xs ih =>
    intro h
    rw [mapT, mapT]
    split
    · rename_i hk; subst hk; rw [h n (.var rfl)]
    · rename_i hk
      rw [mapL_eq, mapL_eq]
      congr 1
      exact List.map_congr_left fun a ha => ih a ha fun v hv => h v (.arg hk ha hv)
theorem mapT_comp {f g : Int → Int} (t : Ty) : mapT g (mapT f t) = mapT (fun v => g (f v)) t := by
  induction t using Ty.ind with
  | h k n s xs ih =>
    rw [mapT]
    conv => rhs; rw [mapT]
    split
    · rename_i hk; rw [mapT, if_pos hk]
    · rename_i hk
      rw [mapT, if_neg hk, mapL_eq, mapL_eq, mapL_eq, List.map_map]
      congr 1
      exact List.map_congr_left fun a ha => ih a ha
mutual
theorem mem_vars : ∀ (t : Ty) (l : List Int) (v : Int), v ∈ varsF t l ↔ v ∈ l ∨ Occ v t
  | .mk k n s xs, l, v => by
    rw [varsF]
    by_cases hk : k = 1
    · subst hk
      rw [if_pos rfl, Occ.var_iff rfl]
      show _ ↔ v ∈ l ∨ n = v
      by_cases hm : n ∈ l
      · rw [if_pos hm]
        constructor
        · exact .inl
        · rintro (h | rfl)
          · exact h
          · exact hm
      · rw [if_neg hm, List.mem_append, List.mem_singleton]
        constructor <;> rintro (h | h) <;> first | exact .inl h | exact .inr h.symm
    · rw [if_neg hk, mem_varsL xs l v, Occ.args hk]
theorem mem_varsL : ∀ (xs : List Ty) (l : List Int) (v : Int), v ∈ varsL xs l ↔ v ∈ l ∨ ∃ a ∈ xs, Occ v a
  | [], l, v => by simp [varsL]
  | a :: xs, l, v => by
    rw [varsL, mem_varsL xs (varsF a l) v, mem_vars a l v]
    simp [or_assoc]
end
mutual
theorem vars_map (f : Int → Int) : ∀ (t : Ty) (l : List Int), (∀ a b, (a ∈ l ∨ Occ a t) → (b ∈ l ∨ Occ b t) → f a = f b → a = b) → varsF (mapT f t) (l.map f) = (varsF t l).map f
  | .mk k n s xs, l, h => by
    rw [mapT]
    by_cases hk : k = 1
    · subst hk
      rw [if_pos rfl, varsF, varsF, if_pos rfl, if_pos rfl]
      by_cases hm : n ∈ l
      · rw [if_pos hm, if_pos (List.mem_map_of_mem hm)]
      · rw [if_neg hm, if_neg, List.map_append]
        · rfl
        · intro hm2
          obtain ⟨a, ha, e⟩ := List.mem_map.1 hm2
          have := h a n (.inl ha) (.inr (.var rfl)) e
          subst this; exact hm ha
    · rw [if_neg hk, varsF, varsF, if_neg hk, if_neg hk]
      exact vars_mapL f xs l fun a b ha hb => h a b (ha.imp id (Occ.args hk).2) (hb.imp id (Occ.args hk).2)
theorem vars_mapL (f : Int → Int) : ∀ (xs : List Ty) (l : List Int), (∀ a b, (a ∈ l ∨ ∃ x ∈ xs, Occ a x) → (b ∈ l ∨ ∃ x ∈ xs, Occ b x) → f a = f b → a = b) → varsL (mapL f xs) (l.map f) = (varsL xs l).map f
  | [], l, h => rfl
  | x :: xs, l, h => by
    rw [mapL, varsL, varsL, vars_map f x l fun a b ha hb => h a b (ha.imp id fun h => ⟨x, List.mem_cons_self .., h⟩) (hb.imp id fun h => ⟨x, List.mem_cons_self .., h⟩)]
    refine vars_mapL f xs (varsF x l) fun a b ha hb => ?_
    have cv : ∀ a, (a ∈ varsF x l ∨ ∃ y ∈ xs, Occ a y) → (a ∈ l ∨ ∃ y ∈ x :: xs, Occ a y) := by
      rintro a (h | ⟨y, hy, h⟩)
      · rcases (mem_vars x l a).1 h with h | h
        · exact .inl h
        · exact .inr ⟨x, List.mem_cons_self .., h⟩
      · exact .inr ⟨y, List.mem_cons_of_mem _ hy, h⟩
    exact h a b (cv a ha) (cv b hb)
end
end Go.Proofs.Ytneonbdlgmaofaa.Vm
namespace Go.Proofs.Ytneonbdlgmaofaa.Vm
open Go
set_option linter.unusedSimpArgs false

def rowV (g : Nat → Int) (n : Nat) : List Ty := (List.range n).map fun i => vr (g i)
theorem rowV_get {g : Nat → Int} {n i : Nat} (h : i < n) : (rowV g n)[i]? = some (vr (g i)) := by
  simp [rowV, h]
theorem rowV_len {g : Nat → Int} {n : Nat} : (rowV g n).length = n := by simp [rowV]
theorem rowV_push {g : Nat → Int} {i : Nat} : (rowV g i).map tyC ++ [tyC (vr (g i))] = (rowV g (i + 1)).map tyC := by
  simp [rowV, List.range_succ]
theorem atV_ix : ∀ {l : List Int} {ws : List Ty} {v : Int}, v ∈ l → atV l ws v = ws[ix l v]?
  | a :: l, ws, v, h => by
    unfold atV ix
    split
    · cases ws <;> rfl
    · rename_i e
      have hm : v ∈ l := by
        rcases List.mem_cons.1 h with rfl | h
        · exact absurd rfl e
        · exact h
      rw [atV_ix hm]
      cases ws <;> simp
theorem sub_map {l : List Int} {g : Nat → Int} (t : Ty) : Rt t → (∀ v, Occ v t → v ∈ l) → subF l (rowV g l.length) t = mapT (fun v => g (ix l v)) t := by
  induction t using Ty.ind with
  | h k n s xs ih =>
    intro hr hm
    cases hr with
    | var h0 h1 =>
      have hn := hm n (.var rfl)
      rw [subF, mapT, if_pos rfl, if_pos rfl, atV_ix hn, rowV_get (ix_lt hn)]
      rfl
    | con hs h =>
      rw [subF, mapT, if_neg (by omega), if_neg (by omega), subL_eq, mapL_eq]
      congr 1
      exact List.map_congr_left fun a ha => ih a ha (h a ha) fun v hv => hm v (.arg (by omega) ha hv)
    | fn hl h =>
      rw [subF, mapT, if_neg (by omega), if_neg (by omega), subL_eq, mapL_eq]
      congr 1
      exact List.map_congr_left fun a ha => ih a ha (h a ha) fun v hv => hm v (.arg (by omega) ha hv)
def renF (t : Ty) : Ty := subF (varsF t []) (rowV (fun i => (i : Int)) (varsF t []).length) t
theorem occ_vars {t : Ty} {v : Int} : Occ v t → v ∈ varsF t [] := fun h => (mem_vars t [] v).2 (.inr h)
theorem vars_occ {t : Ty} {v : Int} (h : v ∈ varsF t []) : Occ v t := ((mem_vars t [] v).1 h).resolve_left (by simp)
theorem ren_map {t : Ty} (hr : Rt t) : renF t = mapT (fun v => (ix (varsF t []) v : Int)) t := sub_map t hr fun _ => occ_vars
theorem ren_same {t : Ty} (hr : Rt t) {f : Int → Int} (hf : ∀ v, Occ v t → 0 ≤ f v ∧ f v ≤ 1073741824) (hi : ∀ a b, Occ a t → Occ b t → f a = f b → a = b) : renF (mapT f t) = renF t := by
  have hv : varsF (mapT f t) [] = (varsF t []).map f := vars_map f t [] fun a b ha hb => hi a b (ha.resolve_left (by simp)) (hb.resolve_left (by simp))
  rw [ren_map (mapT_rt f t hr hf), mapT_comp, ren_map hr, hv]
  refine mapT_congr t fun v hv => ?_
  rw [ix_map (occ_vars hv) fun a ha b hb => hi a b (vars_occ ha) (vars_occ hb)]
theorem vars_small {t : Ty} {m : Nat} (h : tySize t ≤ m) : (varsF t []).length ≤ m := by
  have := varsF_len t []
  simp at this; omega
theorem ren_facts {t : Ty} (hr : Rt t) (hb : Bd t) (hs : tySize t ≤ 300) : Rt (renF t) ∧ Bd (renF t) ∧ tySize (renF t) ≤ 300 ∧ renF (renF t) = renF t := by
  have hl := vars_small hs
  have e := ren_map hr
  have hf : ∀ v, Occ v t → (0 : Int) ≤ (ix (varsF t []) v : Int) ∧ (ix (varsF t []) v : Int) ≤ 1073741824 := fun v hv => by
    have := ix_lt (occ_vars hv); omega
  refine ⟨by rw [e]; exact mapT_rt _ t hr hf, by rw [e]; exact mapT_bd _ t hb, by rw [e, mapT_size]; exact hs, ?_⟩
  conv => lhs; rw [e]
  exact ren_same hr hf fun a b ha hb h => ix_inj (occ_vars ha) (occ_vars hb) (by omega)
theorem sub_facts {t : Ty} (hr : Rt t) (hb : Bd t) (hs : tySize t ≤ 300) {by' : Int} (h0 : 0 ≤ by') (h1 : by' ≤ 1000) {u : Ty}
    (hu : u = subF (varsF t []) (rowV (fun i => by' + (varsF t []).length - i) (varsF t []).length) t) : Rt u ∧ Bd u ∧ tySize u ≤ 300 ∧ renF u = renF t := by
  have hl := vars_small hs
  have e := sub_map (l := varsF t []) (g := fun i => by' + (varsF t []).length - i) t hr fun v => occ_vars
  rw [← hu] at e
  have hf : ∀ v, Occ v t → (0 : Int) ≤ by' + (varsF t []).length - (ix (varsF t []) v : Int) ∧ by' + (varsF t []).length - (ix (varsF t []) v : Int) ≤ 1073741824 := fun v hv => by
    have := ix_lt (occ_vars hv); omega
  refine ⟨by rw [e]; exact mapT_rt _ t hr hf, by rw [e]; exact mapT_bd _ t hb, by rw [e, mapT_size]; exact hs, ?_⟩
  rw [e]
  exact ren_same hr hf fun a b ha hb h => ix_inj (occ_vars ha) (occ_vars hb) (by omega)
theorem bd_vr (n : Int) : Bd (vr n) := .mk (by simp) fun a h => by cases h
theorem bd_row {g : Nat → Int} {n : Nat} : ∀ w ∈ rowV g n, Bd w := by
  intro w hw
  obtain ⟨i, _, rfl⟩ := List.mem_map.1 hw
  exact bd_vr _

theorem rename_T (t : Ty) (hb : Bd t) (hr : Rt t) (hs : tySize t ≤ 1000000) (o : Bool) : ∃ o', T Try.prog 24 [tyV o t] [] (tyV o' (renF t)) [] := by
  have key : ∀ R : V → Prop, (∀ o', R (tyV o' (renF t))) → ∃ r, T Try.prog 24 [tyV o t] [] r [] ∧ R r := by
    intro R hR
    have hl := vars_small hs
    have h1 := Vars_T t hb hr (by omega) false
    have h2 := fun o1 o2 => Subst_T (varsF t []) (rowV (fun i => (i : Int)) (varsF t []).length) (by omega) bd_row t hb hr o o1 o2
    obtain ⟨k, n, s, xs⟩ := t
    refine T.of0x mix c24 rfl ?_
    unfold v24
    generalize hX : renF (Ty.mk k n s xs) = X at hR
    unfold renF at hX
    generalize varsF (Ty.mk k n s xs) [] = l at h1 h2 hX hl
    simp only [tyV, tyO, Ty.k, Ty.n, Ty.s, Ty.as, go_sem, ↓reduceIte] at h1 ⊢
    refine ⟨_, _, h1.frame rfl _, ?_⟩
    simp only [intsV, go_sem, ↓reduceIte]
    refine WP.loop' (fun m E H' => ∃ (i : Nat) (ex : List (Nat × V)), i + m = l.length ∧
      H' = [Obj.cells 0 [.int .i64 k, .int .i64 n, .str s, .sl o 4 (xs.map tyC)], Obj.cells 0 [.int .i64 0, .int .i64 0, .str [], .sl true 4 []]] ∧
      E = ⟨(1, .ptr 0 0 0) :: (2, .ptr 1 0 0) :: (3, intsV true l) :: (4, tysV true (rowV (fun i => (i : Int)) i)) :: (9, .int .i64 l.length) :: (10, .int .i64 i) :: ex, .u⟩) (n := l.length) ⟨0, _, by omega, rfl, rfl⟩ ?_
    rintro m E H' ⟨i, ex, hi, rfl, rfl⟩
    have hw := inc64 (i := i) (by omega)
    have hfit : fits (i + 1) 56 := ⟨by omega, by omega⟩
    simp only [intsV, tysV, go_sem, ↓reduceIte, ↓ex_map, ↓run_addW, hw, Int.toNat_natCast]
    refine ⟨fun hlt => ?_, fun hge => ?_⟩
    · obtain ⟨o', hT⟩ := var_T (i : Int)
      refine ⟨_, _, hT.frame rfl _, ?_⟩
      simp only [go_sem, ↓reduceIte, ↓run_addW, hw, rowV_len, hfit, rowV_push (g := fun i => (i : Int))]
      exact ⟨m - 1, by omega, i + 1, _, by omega, rfl⟩
    · have : i = l.length := by omega
      subst this
      obtain ⟨o', hT⟩ := h2 true true
      rw [hX] at hT
      refine ⟨_, _, hT.frame rfl _, ?_⟩
      simp only [go_sem, ↓reduceIte]
      exact hR _
  obtain ⟨r, hT, o', rfl⟩ := key (fun r => ∃ o', r = tyV o' (renF t)) fun o' => ⟨o', rfl⟩
  exact ⟨o', hT⟩
end Go.Proofs.Ytneonbdlgmaofaa.Vm
namespace Go.Proofs.Ytneonbdlgmaofaa.Vm
open Go
set_option linter.unusedSimpArgs false

section
variable {P : Program} {K : KK} {s : List Fr} {E : En} {H : Heap} {tk : List Nat} {dst : Option Nat} {os : List VOp} {keep : List Nat}
@[go_sem] theorem run_build0 {z : Nat} : runAct P (.buildSl z) [] tk dst os keep s E H K = runOps P os keep s ((stripEn tk E).setO dst (.sl true z [])) H K := by
  show (∃ r H', sBuildSl z [] H = some (r, H') ∧ _) = _
  apply propext
  constructor
  · rintro ⟨r, H', h, k⟩; cases h; exact k
  · intro k; exact ⟨_, _, rfl, k⟩
@[go_sem] theorem run_boxTy {o : Bool} {t : Ty} : runAct P .box [tyV o t] tk dst os keep s E H K = nextV P (.ptr H.length 0 0) tk dst os keep s E (H ++ [.cells 0 (tyO o t)]) K := by
  show runAct P .box [.agg (tyO o t)] tk dst os keep s E H K = _
  rw [run_box, thawL_all (tyO_plain o t)]
end
attribute [go_sem] tyC_agg
@[go_sem] theorem tyO_get0 {o : Bool} {t : Ty} : (tyO o t)[0]? = some (.int .i64 t.k) := rfl
@[go_sem] theorem tyO_get1 {o : Bool} {t : Ty} : (tyO o t)[1]? = some (.int .i64 t.n) := rfl
@[go_sem] theorem tyO_get2 {o : Bool} {t : Ty} : (tyO o t)[2]? = some (.str t.s) := rfl
@[go_sem] theorem tyO_get3 {o : Bool} {t : Ty} : (tyO o t)[3]? = some (.sl o 4 (t.as.map tyC)) := rfl
theorem szF_le {t : Ty} {m : Nat} (h : szF t m ≤ m) : tySize t ≤ m := by
  unfold szF at h; split at h <;> omega
theorem renames_T (t : Ty) (hb : Bd t) (by' : Int) (o : Bool) : T Try.prog 8 [tyV o t, .int .i64 by'] [] (.bool true) [] := by
  have hk := known_T
  have h1 := refRight_T t hb false
  have h2 := refSize_T t hb false 300 (by omega)
  refine T.of0 mix c8 rfl ?_
  unfold v8
  simp only [go_sem, ↓reduceIte]
  refine ⟨_, _, h1.frame rfl _, ?_⟩
  simp only [go_sem, ↓reduceIte]
  have hkn : ∀ H, ∃ r H', T Try.prog 10 [] H r H' ∧ strip r = .bool true := fun H => ⟨_, _, known_H H, rfl⟩
  refine ⟨fun hR => ?_, fun _ => ⟨_, _, known_H _, by simp only [go_sem, ↓reduceIte]⟩⟩
  have hr : Rt t := (right_iff t).1 (by simpa using hR)
  refine ⟨_, _, h2.frame rfl _, ?_⟩
  simp only [go_sem, ↓reduceIte]
  refine ⟨fun hS => ⟨fun hlo => ⟨fun hhi => ⟨_, _, known_H _, by simp only [go_sem, ↓reduceIte]⟩, fun hhi => ?_⟩, fun _ => ⟨_, _, known_H _, by simp only [go_sem, ↓reduceIte]⟩⟩, fun _ => ⟨_, _, known_H _, by simp only [go_sem, ↓reduceIte]⟩⟩
  have hs : tySize t ≤ 300 := szF_le (by omega)
  obtain ⟨o1, hv⟩ := refVars_T t hb [] (by simp; omega) false true
  have hl := vars_small hs
  refine ⟨_, _, hv.frame rfl _, ?_⟩
  obtain ⟨f1, f2, f3, f4⟩ := ren_facts hr hb hs
  obtain ⟨g1, g2, g3, g4⟩ := sub_facts hr hb hs (by' := by') (by omega) (by omega) rfl
  have hsub := fun (o o1 o2 : Bool) => refSubst_T (varsF t []) (rowV (fun i => by' + (varsF t []).length - i) (varsF t []).length) (by omega) t hb o o1 o2
  generalize hU : subF (varsF t []) (rowV (fun i => by' + (varsF t []).length - i) (varsF t []).length) t = U at g1 g2 g3 g4 hsub
  generalize hX : renF t = X at f1 f2 f3 f4 g4
  have hren := fun o => rename_T t hb hr (by omega) o
  rw [hX] at hren
  have hren2 := fun o => rename_T X f2 f1 (by omega) o
  rw [f4] at hren2
  have hren3 := fun o => rename_T U g2 g1 (by omega) o
  rw [g4] at hren3
  generalize varsF t [] = l at hl hv hU hsub
  refine WP.loop' (fun m E H' => ∃ (i : Nat) (ex : List (Nat × V)), i + m = l.length ∧ H' = [Obj.cells 0 (tyO o t)] ∧
    E = ⟨(1, .int .i64 by') :: (2, .ptr 0 0 0) :: (5, intsV o1 l) :: (6, tysV true (rowV (fun i => by' + l.length - i) i)) :: (7, .int .i64 i) :: ex, .u⟩) (n := l.length) ⟨0, _, by omega, rfl, rfl⟩ ?_
  rintro m E H' ⟨i, ex, hi, rfl, rfl⟩
  have hw := inc64 (i := i) (by omega)
  have hfit : fits (i + 1) 56 := ⟨by omega, by omega⟩
  simp only [intsV, tysV, go_sem, ↓reduceIte, ↓ex_map, ↓run_addW, ↓run_subW, hw, Int.toNat_natCast]
  refine ⟨fun hlt => ?_, fun hge => ?_⟩
  · rw [wrapn (n := by' + l.length) (by omega) (by omega), wrapn (n := by' + l.length - i) (by omega) (by omega)]
    obtain ⟨o', hT⟩ := refVar_T (by' + l.length - i)
    refine ⟨_, _, hT.frame rfl _, ?_⟩
    simp only [go_sem, ↓reduceIte, ↓run_addW, hw, rowV_len, hfit, rowV_push (g := fun i => by' + l.length - i)]
    exact ⟨m - 1, by omega, i + 1, _, by omega, rfl⟩
  · have : i = l.length := by omega
    subst this
    obtain ⟨o2, hT⟩ := hren false
    refine ⟨_, _, hT.frame rfl _, ?_⟩
    simp only [go_sem, ↓reduceIte]
    obtain ⟨o3, hT3⟩ := hsub o o1 true
    obtain ⟨o4, hT4⟩ := hren3 o3
    obtain ⟨o5, hT5⟩ := hren2 o2
    have hE := fun o o' => refSame_T X f2 X f2 o o'
    rw [(tyEq_iff X X).2 rfl] at hE
    refine ⟨_, hT3, rfl, _, hT4, rfl, _, hE false o4, rfl, ?_⟩
    simp only [go_sem, ↓reduceIte]
    refine ⟨_, hT5, rfl, _, hE false o5, rfl, ?_⟩
    simp only [go_sem, ↓reduceIte]
    refine ⟨_, hk, rfl, ?_⟩
    simp only [go_sem, ↓reduceIte]
theorem renames_Tc (t : Ty) (hb : Bd t) (by' : Int) : T Try.prog 8 [.agg (tyC t), .int .i64 by'] [] (.bool true) [] := by rw [tyC_agg]; exact renames_T t hb by' false
end Go.Proofs.Ytneonbdlgmaofaa.Vm
namespace Go.Proofs.Ytneonbdlgmaofaa.Vm
open Go
set_option linter.unusedSimpArgs false

/-! ### Maps -/
theorem findV_spec {κ β : Type} [DecidableEq κ] {ka : Bool} {ks : List K3} {key : κ → V} (hk : ∀ a b, eqV ks ka (key a) (key b) = some (decide (a = b))) (val : β → V) (k : κ) :
    ∀ (L : List (κ × β)) (i : Nat), findV ka ks (key k) (L.map fun p => (key p.1, val p.2)) i = some ((L.findIdx? (fun p => p.1 = k)).map (i + ·))
  | [], i => by simp [findV, hk]
  | p :: L, i => by
    rw [List.map_cons, findV, hk, Option.bind_some, List.findIdx?_cons]
    by_cases h : p.1 = k
    · subst h; simp
    · rw [if_neg (by simpa using fun e => h e.symm), if_neg (by simpa using h), findV_spec hk val k L (i + 1)]
      congr 1
      rw [Option.map_map]
      congr 1
      funext j
      simp; omega
def esS (σ : Sub) : List (V × V) := σ.map fun p => (.int .i64 p.1, tyV false p.2)
theorem key_int (a b : Int) : eqV [.i] false (.int .i64 a) (.int .i64 b) = some (decide (a = b)) := by
  simp [eqV, eqCells, eqScal]
  rfl
theorem key_pair (a b : Int × Int) : eqV [.i, .i] true (.agg [.int .i64 a.1, .int .i64 a.2]) (.agg [.int .i64 b.1, .int .i64 b.2]) = some (decide (a = b)) := by
  obtain ⟨a1, a2⟩ := a
  obtain ⟨b1, b2⟩ := b
  by_cases h1 : a1 = b1 <;> by_cases h2 : a2 = b2 <;> simp [eqV, eqCells, eqScal, h1, h2]
theorem look_idx : ∀ (σ : Sub) (n : Int), (σ.findIdx? (fun p => p.1 = n)).bind (fun j => σ[j]?.map (·.2)) = look σ n ∧ ∀ j, σ.findIdx? (fun p => p.1 = n) = some j → ∃ t, σ[j]? = some (n, t)
  | [], n => ⟨rfl, fun j h => by cases h⟩
  | p :: σ, n => by
    obtain ⟨h1, h2⟩ := look_idx σ n
    rw [List.findIdx?_cons, look]
    by_cases h : p.1 = n
    · subst h
      exact ⟨by simp, fun j hj => by simp at hj; subst hj; exact ⟨p.2, rfl⟩⟩
    · rw [if_neg (by simpa using h), if_neg h]
      refine ⟨?_, fun j hj => ?_⟩
      · rw [← h1]; cases σ.findIdx? (fun p => decide (p.1 = n)) <;> simp
      · obtain ⟨i, hi, rfl⟩ := Option.map_eq_some_iff.1 hj
        exact h2 i hi
def zeroTy : Ty := .mk 0 0 [] []
section
variable {P : Program} {K : KK} {s : List Fr} {E : En} {H : Heap} {tk : List Nat} {dst : Option Nat} {os : List VOp} {keep : List Nat} {q : Nat} {σ : Sub} {n : Int}
theorem lookup_some (h : H[q]? = some (.map (esS σ))) {t : Ty} (hl : look σ n = some t) {zs : List V} {agg : Bool} :
    runAct P (.lookup false [.i] true zs agg) [.map q, .int .i64 n] tk dst os keep s E H K = nextV P (.tup [tyV false t, .bool true]) tk dst os keep s E H K := by
  have e : sLookup false [.i] true zs agg [.map q, .int .i64 n] H = some (.tup [tyV false t, .bool true], H) := by
    obtain ⟨h1, h2⟩ := look_idx σ n
    unfold sLookup mapOf
    simp only [h, Option.bind_some]
    rw [show findV false [.i] (.int .i64 n) (esS σ) 0 = _ from findV_spec (key := fun n => V.int .i64 n) key_int (tyV false) n σ 0]
    cases hf : σ.findIdx? (fun p => decide (p.1 = n)) with
    | none => rw [hf] at h1; simp at h1; rw [← h1] at hl; cases hl
    | some j =>
      obtain ⟨t', ht'⟩ := h2 j hf
      rw [hf, Option.bind_some, ht'] at h1
      rw [hl] at h1
      cases h1
      simp [esS, ht']
  show (∃ r H', sLookup false [.i] true zs agg [.map q, .int .i64 n] H = some (r, H') ∧ _) = _
  rw [e]
  apply propext
  constructor
  · rintro ⟨r, H', h, k⟩; cases h; exact k
  · intro k; exact ⟨_, _, rfl, k⟩
theorem lookup_none (h : H[q]? = some (.map (esS σ))) (hl : look σ n = none) :
    runAct P (.lookup false [.i] true [.int .i64 0, .int .i64 0, .str [], .sl false 4 []] true) [.map q, .int .i64 n] tk dst os keep s E H K = nextV P (.tup [tyV false zeroTy, .bool false]) tk dst os keep s E H K := by
  have e : sLookup false [.i] true [.int .i64 0, .int .i64 0, .str [], .sl false 4 []] true [.map q, .int .i64 n] H = some (.tup [tyV false zeroTy, .bool false], H) := by
    obtain ⟨h1, h2⟩ := look_idx σ n
    unfold sLookup mapOf
    simp only [h, Option.bind_some]
    rw [show findV false [.i] (.int .i64 n) (esS σ) 0 = _ from findV_spec (key := fun n => V.int .i64 n) key_int (tyV false) n σ 0]
    cases hf : σ.findIdx? (fun p => decide (p.1 = n)) with
    | none => rfl
    | some j =>
      obtain ⟨t', ht'⟩ := h2 j hf
      rw [hf, Option.bind_some, ht'] at h1
      rw [hl] at h1
      cases h1
  show (∃ r H', sLookup false [.i] true [.int .i64 0, .int .i64 0, .str [], .sl false 4 []] true [.map q, .int .i64 n] H = some (r, H') ∧ _) = _
  rw [e]
  apply propext
  constructor
  · rintro ⟨r, H', h, k⟩; cases h; exact k
  · intro k; exact ⟨_, _, rfl, k⟩
theorem update_new (h : H[q]? = some (.map (esS σ))) (hl : look σ n = none) {t : Ty} :
    runAct P (.mapUpdate false [.i]) [.map q, .int .i64 n, tyV false t] tk dst os keep s E H K = nextV P (.tup []) tk dst os keep s E (H.set q (.map (esS (σ ++ [(n, t)])))) K := by
  have e : sMapUpdate false [.i] [.map q, .int .i64 n, tyV false t] H = some (.tup [], H.set q (.map (esS (σ ++ [(n, t)])))) := by
    obtain ⟨h1, h2⟩ := look_idx σ n
    unfold sMapUpdate mapOf
    simp only [h, Option.bind_some]
    rw [show findV false [.i] (.int .i64 n) (esS σ) 0 = _ from findV_spec (key := fun n => V.int .i64 n) key_int (tyV false) n σ 0]
    cases hf : σ.findIdx? (fun p => decide (p.1 = n)) with
    | none => simp [esS]
    | some j =>
      obtain ⟨t', ht'⟩ := h2 j hf
      rw [hf, Option.bind_some, ht'] at h1
      rw [hl] at h1
      cases h1
  show (∃ r H', sMapUpdate false [.i] [.map q, .int .i64 n, tyV false t] H = some (r, H') ∧ _) = _
  rw [e]
  apply propext
  constructor
  · rintro ⟨r, H', h, k⟩; cases h; exact k
  · intro k; exact ⟨_, _, rfl, k⟩
end
end Go.Proofs.Ytneonbdlgmaofaa.Vm
namespace Go.Proofs.Ytneonbdlgmaofaa.Vm
open Go
set_option linter.unusedSimpArgs false

/-- What stands in a heap is as it was, or names only what was there. -/
def SameK (H H' : Heap) : Prop := ∀ (i : Nat) (ob : Obj), H'[i]? = some ob → H[i]? = some ob ∨ idsO H.length ob = true
theorem SameK.refl (H : Heap) : SameK H H := fun _ _ h => .inl h
theorem SameK.set {A B : Heap} (h : SameK A B) {i : Nat} {o : Obj} (ho : idsO A.length o = true) : SameK A (B.set i o) := by
  intro j ob hj
  rw [List.getElem?_set] at hj
  split at hj
  · split at hj
    · cases hj; exact .inr ho
    · cases hj
  · exact h j ob hj
theorem SameK.trans {A B C : Heap} (h : SameK A B) (hl : B.length = A.length) (k : SameK B C) : SameK A C := by
  intro i ob hi
  rcases k i ob hi with h1 | h1
  · exact h i ob h1
  · rw [hl] at h1; exact .inr h1
@[go_sem] theorem strip_map {i : Nat} : strip (.map i) = .map i := rfl
@[go_sem] theorem strip0_map {i : Nat} : strip0 (.map i) = .map i := rfl
@[go_sem] theorem strip_nilmap : strip .nilmap = .nilmap := rfl
@[go_sem] theorem strip0_nilmap : strip0 .nilmap = .nilmap := rfl
@[go_sem] theorem stripA_ty {o : Bool} {t : Ty} : stripA (tyV o t) = tyV false t := rfl
@[go_sem] theorem drop4_ty {o : Bool} {t : Ty} : List.drop 4 (tyO o t) = [] := rfl
@[go_sem] theorem drop4_tyC {t : Ty} : List.drop 4 (tyC t) = [] := by rw [tyC_eq]; rfl
/-- How a function ends that leaves a heap as long as it was behind. -/
def outH (H0 : Heap) (Q : Heap → Prop) (H : Heap) : Prop := ∃ H1 l, H = H1 ++ l ∧ H1.length = H0.length ∧ SameK H0 H1 ∧ Q H1
def finH (H0 : Heap) (v : V) (R : V → Heap → Prop) (H : Heap) : Prop := ∃ r, fixV H0.length H 8 v = some r ∧ outH H0 (R r) H
def endH (H0 : Heap) (rs : List VRes) (R : V → Heap → Prop) : KK := fun x E H => (match x with | .exit _ => False | _ => True) ∧ ∃ r0, resV H0.length H E.f rs = some r0 ∧ finH H0 r0 R H
theorem T.of_H {P : Program} (hmix : P.follows .mixedOrders = true) {f : Nat} {vf : VFunc} (hc : chkFn P f vf = true) {args : List V} {H : Heap} {R : V → Heap → Prop} (hl : Nat.ble args.length vf.n = true)
    (h : run P vf.body [] ⟨args.zipIdx.map fun p => (p.2, p.1), .tup []⟩ H (endH H vf.results R)) : ∃ r H', T P f args H r H' ∧ R r H' := by
  obtain ⟨x, E1, H1, h1, h2, r0, h3, r, h4, H2, l, rfl, h5, h6, h7⟩ := wp_sound h
  rw [env0_eq] at h1
  have ht : (H2 ++ l).take H.length = H2 := by rw [← h5]; simp
  refine ⟨r, H2, ?_, h7⟩
  have := T_of (m := H.length) hmix hc (Nat.le_of_ble_eq_true hl) h1 (by intro id e; subst e; exact h2) (Nat.le_refl _) (by simp; omega) h3 h4 (fun i ob hi hob => by
    rw [List.getElem?_append_left (by omega)] at hob
    exact h6 i ob hob)
  rw [ht] at this
  exact this
/-- The cell that a function answers. -/
def cellX (H0 : Heap) (v : V) (n : Nat) (R : V → Heap → Prop) (H : Heap) : Prop := match v with
  | .ptr id ver off => H0.length ≤ id ∧ ∃ cs, getCells H id ver = some cs ∧ off + n ≤ cs.length ∧ finH H0 (.agg ((cs.drop off).take n)) R H
  | _ => False
section
variable {R : V → Heap → Prop} {l : List (Nat × V)} {d : V} {H H0 : Heap} {t u n : Nat} {Q : Heap → Prop}
@[go_sem] theorem cellX_ptr {id ver off : Nat} : cellX H0 (.ptr id ver off) n R H = (H0.length ≤ id ∧ exO (getCells H id ver) fun cs => off + n ≤ cs.length ∧ finH H0 (.agg ((cs.drop off).take n)) R H) := (rfl)
theorem endH_cell0 {x : X} (hx : (match x with | .exit _ => False | _ => True)) (h : cellX H0 (getE l d t) n R H) : endH H0 [.cell t n true] R x ⟨l, d⟩ H := by
  have e : (En.f ⟨l, d⟩) t = getE l d t := rfl
  refine ⟨hx, ?_⟩
  unfold cellX at h
  unfold resV
  simp only [e]
  revert h
  generalize getE l d t = v
  intro h
  cases v <;> first | exact h.elim | skip
  rename_i id ver off
  obtain ⟨h1, cs, h2, h3, h4⟩ := h
  refine ⟨.agg ((cs.drop off).take n), ?_, h4⟩
  simp [h2, cut, h3, h1, mk]
@[go_sem] theorem endH_tmp : endH H0 [.tmp t] R .ret ⟨l, d⟩ H = finH H0 (getE l d t) R H := by simp [endH, finH, resV, resL, res1, pack, En.f]
@[go_sem] theorem endH_tmpN : endH H0 [.tmp t] R .normal ⟨l, d⟩ H = finH H0 (getE l d t) R H := by simp [endH, finH, resV, resL, res1, pack, En.f]
@[go_sem] theorem endH_nil : endH H0 [] R .ret ⟨l, d⟩ H = outH H0 (R (.tup [])) H := by simp [endH, finH, resV, resL, pack, fixV]
@[go_sem] theorem endH_nilN : endH H0 [] R .normal ⟨l, d⟩ H = outH H0 (R (.tup [])) H := by simp [endH, finH, resV, resL, pack, fixV]
@[go_sem] theorem finH_int {k : IntKind} {n : Int} : finH H0 (.int k n) R H = outH H0 (R (.int k n)) H := by simp [finH, fixV]
@[go_sem] theorem finH_bool {b : Bool} : finH H0 (.bool b) R H = outH H0 (R (.bool b)) H := by simp [finH, fixV]
@[go_sem] theorem finH_sl {o : Bool} {z : Nat} {xs : List (List V)} : finH H0 (.sl o z xs) R H = outH H0 (R (.sl o z xs)) H := by simp [finH, fixV]
theorem fix_ty (m : Nat) (H : Heap) (d : Nat) (o : Bool) (t : Ty) : fixV m H (d + 2) (tyV o t) = some (tyV o t) := by
  unfold tyV tyO
  simp [fixV]
@[go_sem] theorem finH_ty {o : Bool} {t : Ty} : finH H0 (tyV o t) R H = outH H0 (R (tyV o t)) H := by
  unfold finH
  rw [fix_ty _ _ 6]
  simp
theorem out_app {l : Heap} (h : Q H) : outH H Q (H ++ l) := ⟨H, l, rfl, rfl, SameK.refl H, h⟩
theorem out_self (h : Q H) : outH H Q H := ⟨H, [], by simp, rfl, SameK.refl H, h⟩
theorem out_set {l : Heap} {i : Nat} {o : Obj} (ho : idsO H.length o = true) (h : Q (H.set i o)) : outH H Q (H.set i o ++ l) := ⟨_, l, rfl, by simp, (SameK.refl H).set ho, h⟩
/-! ### What stands where -/
theorem gc_appN {l : Heap} {i v : Nat} : getCells (H ++ l) (H.length + i) v = getCells l i v := by
  unfold getCells
  rw [List.getElem?_append_right (by omega), Nat.add_sub_cancel_left]
theorem gc_app0 {l : Heap} {v : Nat} : getCells (H ++ l) H.length v = getCells l 0 v := gc_appN (i := 0)
theorem set_appN {l : Heap} {i : Nat} {o : Obj} : (H ++ l).set (H.length + i) o = H ++ l.set i o := by
  rw [List.set_append, if_neg (by omega), Nat.add_sub_cancel_left]
theorem set_app0 {l : Heap} {o : Obj} : (H ++ l).set H.length o = H ++ l.set 0 o := set_appN (i := 0)
theorem set_appL {l : Heap} {i : Nat} {o : Obj} (h : i < H.length) : (H ++ l).set i o = H.set i o ++ l := by
  rw [List.set_append, if_pos h]
end
/-- The store in memory. -/
structure St (H : Heap) (p q : Nat) (σ : Sub) (nx : Int) (tr dn : V) : Prop where
  cells : getCells H p 0 = some [.map q, .int .i64 nx, tr, dn]
  map : H[q]? = some (.map (esS σ))
  ids : idsL H.length [tr, dn] = true
theorem St.lp {H : Heap} {p q : Nat} {σ : Sub} {nx : Int} {tr dn : V} (h : St H p q σ nx tr dn) : p < H.length := gc_lt h.cells
theorem St.lq {H : Heap} {p q : Nat} {σ : Sub} {nx : Int} {tr dn : V} (h : St H p q σ nx tr dn) : q < H.length := (List.getElem?_eq_some_iff.1 h.map).1
theorem St.app {H : Heap} {p q : Nat} {σ : Sub} {nx : Int} {tr dn : V} (h : St H p q σ nx tr dn) (l : Heap) : getCells (H ++ l) p 0 = some [.map q, .int .i64 nx, tr, dn] ∧ (H ++ l)[q]? = some (.map (esS σ)) :=
  ⟨by rw [gc_app h.lp]; exact h.cells, by rw [List.getElem?_append_left h.lq]; exact h.map⟩

theorem St.appS {H : Heap} {p q : Nat} {σ : Sub} {nx : Int} {tr dn : V} (h : St H p q σ nx tr dn) (l : Heap) : St (H ++ l) p q σ nx tr dn :=
  ⟨(h.app l).1, (h.app l).2, idsL_mono (by simp) _ h.ids⟩
theorem St.setC {H : Heap} {p q : Nat} {σ : Sub} {nx : Int} {tr dn : V} (h : St H p q σ nx tr dn) (nx' : Int) {tr' dn' : V} (hi : idsL H.length [tr', dn'] = true) : St (H.set p (.cells 0 [.map q, .int .i64 nx', tr', dn'])) p q σ nx' tr' dn' := by
  refine ⟨gc_same h.lp, ?_, by rw [List.length_set]; exact hi⟩
  rw [List.getElem?_set_ne]
  · exact h.map
  · intro e
    have h1 := gc_some.1 h.cells
    rw [e, h.map] at h1
    cases h1
theorem St.idsC {H : Heap} {p q : Nat} {σ : Sub} {nx : Int} {tr dn : V} (h : St H p q σ nx tr dn) (nx' : Int) {tr' dn' : V} (hi : idsL H.length [tr', dn'] = true) : idsO H.length (.cells 0 [.map q, .int .i64 nx', tr', dn']) = true := by
  have := h.lq
  simp only [idsO, idsL, idsV, Bool.and_eq_true, decide_eq_true_eq] at hi ⊢
  exact ⟨this, trivial, hi.1, hi.2.1, trivial⟩

inductive HeadN (σ : Sub) : Nat → Ty → Ty → Prop
  | here {t} (h : t.k ≠ 1 ∨ look σ t.n = none) : HeadN σ 0 t t
  | go {n t u h} (hk : t.k = 1) (hl : look σ t.n = some u) (hh : HeadN σ n u h) : HeadN σ (n + 1) t h
theorem Head.n {σ : Sub} {t h : Ty} (hh : Head σ t h) : ∃ n, HeadN σ n t h := by
  induction hh with
  | here h => exact ⟨0, .here h⟩
  | go hk hl _ ih => obtain ⟨n, ih⟩ := ih; exact ⟨n + 1, .go hk hl ih⟩

theorem head_T {H : Heap} {p q : Nat} {σ : Sub} {nx : Int} {tr dn : V} (hs : St H p q σ nx tr dn) {t h : Ty} (hh : Head σ t h) (o : Bool) : ∃ o', T Try.prog 36 [.ptr p 0 0, tyV o t] H (tyV o' h) H := by
  have key : ∀ R : V → Heap → Prop, (∀ o', R (tyV o' h) H) → ∃ r H', T Try.prog 36 [.ptr p 0 0, tyV o t] H r H' ∧ R r H' := by
    intro R hR
    obtain ⟨n, hn⟩ := hh.n
    refine T.of_H mix c36 rfl ?_
    unfold v36
    simp only [go_sem, ↓reduceIte, List.append_assoc, gc_appN, gc_app0, set_appN, set_app0]
    refine WP.loop' (fun m E H' => ∃ (o : Bool) (u : Ty) (rest : Heap) (ex : List (Nat × V)), HeadN σ m u h ∧ H' = H ++ (.cells 0 (tyO o u) :: .cells 0 [.int .i64 0, .int .i64 0, .str [], .sl true 4 []] :: rest) ∧
      E = ⟨(0, .ptr p 0 0) :: (3, .ptr H.length 0 0) :: (4, .ptr (H.length + 1) 0 0) :: ex, .u⟩) (n := n) ⟨o, t, [], _, hn, rfl, rfl⟩ ?_
    rintro m E H' ⟨o, u, rest, ex, hm, rfl, rfl⟩
    obtain ⟨a1, a2⟩ := hs.app (.cells 0 (tyO o u) :: .cells 0 [.int .i64 0, .int .i64 0, .str [], .sl true 4 []] :: rest)
    cases hm with
    | here hst =>
      by_cases hk : h.k = 1
      · have hk' : (h.k == 1) = true := by simpa using hk
        have hl := hst.resolve_left (fun h => h hk)
        simp only [go_sem, ↓reduceIte, List.append_assoc, gc_appN, gc_app0, set_appN, set_app0, hk', ↓a1, ↓lookup_none a2 hl, forall_const, true_and, Bool.true_eq_false, false_implies, and_true]
        refine endH_cell0 trivial ?_
        simp only [go_sem, ↓reduceIte, gc_appN, gc_app0]
        exact ⟨by omega, out_app (hR _)⟩
      · have hk' : (h.k == 1) = false := by simpa using hk
        simp only [go_sem, ↓reduceIte, List.append_assoc, gc_appN, gc_app0, set_appN, set_app0, hk', ↓a1, forall_const, true_and, Bool.false_eq_true, false_implies, and_true]
        refine endH_cell0 trivial ?_
        simp only [go_sem, ↓reduceIte, gc_appN, gc_app0]
        exact ⟨by omega, out_app (hR _)⟩
    | go hk hl hh =>
      have hk' : (u.k == 1) = true := by simpa using hk
      simp only [go_sem, ↓reduceIte, List.append_assoc, gc_appN, gc_app0, set_appN, set_app0, hk', ↓a1, ↓lookup_some a2 hl, forall_const, true_and, Bool.true_eq_false, false_implies, and_true]
      exact ⟨_, by omega, _, _, _, _, hh, rfl, rfl⟩
  obtain ⟨r, H', hT, o', rfl, rfl⟩ := key (fun r H' => ∃ o', r = tyV o' h ∧ H' = H) fun o' => ⟨o', rfl, rfl⟩
  exact ⟨o', hT⟩
end Go.Proofs.Ytneonbdlgmaofaa.Vm
namespace Go.Proofs.Ytneonbdlgmaofaa.Vm
open Go
set_option linter.unusedSimpArgs false

def Nx (n : Int) : Prop := 0 ≤ n ∧ n ≤ 1073741825
@[go_sem] theorem mk_k {k n : Int} {s : List UInt8} {xs : List Ty} : (Ty.mk k n s xs).k = k := rfl
@[go_sem] theorem mk_n {k n : Int} {s : List UInt8} {xs : List Ty} : (Ty.mk k n s xs).n = n := rfl
@[go_sem] theorem mk_s {k n : Int} {s : List UInt8} {xs : List Ty} : (Ty.mk k n s xs).s = s := rfl
@[go_sem] theorem mk_as {k n : Int} {s : List UInt8} {xs : List Ty} : (Ty.mk k n s xs).as = xs := rfl
section
variable {P : Program} {K : KK} {s : List Fr} {E : En} {H : Heap} {tk : List Nat} {dst : Option Nat} {os : List VOp} {keep : List Nat}
theorem run_max64 {a b : Int} : runAct P .max [.int .i64 a, .int .i64 b] tk dst os keep s E H K = nextV P (.int .i64 (max a b)) tk dst os keep s E H K := by
  have : (if b > a then b else a) = max a b := by split <;> omega
  show (IntKind.i64 = IntKind.i64 ∧ nextV P (.int .i64 (if b > a then b else a)) tk dst os keep s E H K) = _
  rw [this]; simp
theorem run_min64 {a b : Int} : runAct P .min [.int .i64 a, .int .i64 b] tk dst os keep s E H K = nextV P (.int .i64 (min a b)) tk dst os keep s E H K := by
  have : (if b < a then b else a) = min a b := by split <;> omega
  show (IntKind.i64 = IntKind.i64 ∧ nextV P (.int .i64 (if b < a then b else a)) tk dst os keep s E H K) = _
  rw [this]; simp
theorem gc_appSN {l : Heap} {p i v : Nat} {o : Obj} : getCells (H.set p o ++ l) (H.length + i) v = getCells l i v := by
  have := gc_appN (H := H.set p o) (l := l) (i := i) (v := v)
  rwa [List.length_set] at this
theorem gc_appS {l : Heap} {p v : Nat} {o : Obj} : getCells (H.set p o ++ l) H.length v = getCells l 0 v := gc_appSN (i := 0)
theorem set_appSN {l : Heap} {p i : Nat} {o o' : Obj} : (H.set p o ++ l).set (H.length + i) o' = H.set p o ++ l.set i o' := by
  have := set_appN (H := H.set p o) (l := l) (i := i) (o := o')
  rwa [List.length_set] at this
theorem set_appS {l : Heap} {p : Nat} {o o' : Obj} : (H.set p o ++ l).set H.length o' = H.set p o ++ l.set 0 o' := set_appSN (i := 0)
end
theorem set_setC {H : Heap} {p : Nat} {a b : Obj} {l : Heap} (h : p < H.length) : (H.set p a ++ l).set p b = H.set p b ++ l := by
  rw [set_appL (by simpa using h), List.set_set]
theorem sees_T (t : Ty) : Bd t → Rt t → ∀ (H : Heap) (p q : Nat) (σ : Sub) (nx : Int) (tr dn : V), St H p q σ nx tr dn → Nx nx → ∀ o : Bool,
    ∃ nx', Nx nx' ∧ T Try.prog 28 [.ptr p 0 0, tyV o t] H (.tup []) (H.set p (.cells 0 [.map q, .int .i64 nx', tr, dn])) := by
  induction t using Ty.ind with
  | h k n s xs ih =>
    intro hb hr H p q σ nx tr dn hs hx o
    have key : ∀ R : V → Heap → Prop, (∀ nx', Nx nx' → R (.tup []) (H.set p (.cells 0 [.map q, .int .i64 nx', tr, dn]))) → ∃ r H', T Try.prog 28 [.ptr p 0 0, tyV o (Ty.mk k n s xs)] H r H' ∧ R r H' := by
      intro R hR
      have hself : H.set p (.cells 0 [.map q, .int .i64 nx, tr, dn]) = H := by
        have h1 := gc_some.1 hs.cells
        obtain ⟨h2, h3⟩ := List.getElem?_eq_some_iff.1 h1
        rw [← h3]; simp
      have hex : ∀ (nx' : Int) (l : Heap), Nx nx' → outH H (R (.tup [])) (H.set p (.cells 0 [.map q, .int .i64 nx', tr, dn]) ++ l) := fun nx' l h => out_set (hs.idsC nx' hs.ids) (hR nx' h)
      refine T.of_H mix c28 rfl ?_
      unfold v28
      obtain ⟨a1, a2⟩ := hs.app [.cells 0 (tyO o (Ty.mk k n s xs))]
      simp only [go_sem, ↓reduceIte, List.append_assoc, gc_appN, gc_app0, set_appN, set_app0]
      by_cases hk : k = 1
      · have hn : xs = [] ∧ 0 ≤ n ∧ n ≤ 1073741824 := by
          cases hr with
          | var h0 h1 => exact ⟨rfl, h0, h1⟩
          | con => cases hk
          | fn => cases hk
        obtain ⟨rfl, h0, h1⟩ := hn
        subst hk
        have hwn : IntKind.i64.wrap (n + 1) = n + 1 := wrapn (by omega) (by omega)
        refine ⟨fun _ => ?_, fun h => by simp at h⟩
        simp only [go_sem, ↓reduceIte, List.append_assoc, gc_appN, gc_app0, set_appN, set_app0, set_appL hs.lp, gc_appS, gc_appSN, set_appS, set_appSN, ↓a1, ↓run_addW, hwn, ↓run_max64]
        refine WP.loop' (fun m E H' => E = ⟨[(0, .ptr p 0 0), (21, .sl false 4 []), (22, .int .i64 ((0 : Nat) : Int)), (23, .int .i64 0)], .u⟩ ∧ H' = H.set p (.cells 0 [.map q, .int .i64 (max nx (n + 1)), tr, dn]) ++ [.cells 0 (tyO o (Ty.mk 1 n s []))]) (n := 0) ⟨rfl, rfl⟩ ?_
        rintro m E H' ⟨rfl, rfl⟩
        simp only [go_sem, ↓reduceIte]
        exact ⟨fun h => absurd h (by omega), fun _ => hex _ _ ⟨by have := hx.1; omega, by have := hx.2; omega⟩⟩
      · refine ⟨fun h => by simp at h; exact absurd h hk, fun _ => ?_⟩
        refine WP.loop' (fun m E H' => ∃ (i : Nat) (nx' : Int) (l : Heap) (ex : List (Nat × V)), i + m = xs.length ∧ Nx nx' ∧ H' = H.set p (.cells 0 [.map q, .int .i64 nx', tr, dn]) ++ l ∧
          E = ⟨(0, .ptr p 0 0) :: (21, .sl false 4 (xs.map tyC)) :: (22, .int .i64 xs.length) :: (23, .int .i64 i) :: ex, .u⟩) (n := xs.length) ⟨0, nx, _, _, by omega, hx, by rw [hself], rfl⟩ ?_
        rintro m E H' ⟨i, nx', l, ex, hi, hx', rfl, rfl⟩
        have hw := inc64 (i := i) (by have := hb.len; omega)
        simp only [go_sem, ↓reduceIte, ↓ex_map, ↓run_addW, hw, Int.toNat_natCast]
        refine ⟨fun hlt => ?_, fun hge => hex _ _ hx'⟩
        have hix : i < xs.length := by omega
        have hg := List.getElem?_eq_getElem hix
        obtain ⟨nx2, hx2, hT⟩ := ih _ (List.getElem_mem hix) (hb.arg _ (List.getElem_mem hix)) (hr.args _ (List.getElem_mem hix)) (H.set p (.cells 0 [.map q, .int .i64 nx', tr, dn]) ++ (l ++ [.cells 0 (tyC xs[i])])) p q σ nx' tr dn ((hs.setC nx' hs.ids).appS _) hx' false
        rw [set_setC hs.lp] at hT
        refine ⟨by omega, _, hg, ?_⟩
        simp only [go_sem, ↓reduceIte, List.append_assoc, gc_appN, set_appN]
        rw [tyC_eq] at hT
        refine ⟨_, _, hT, ?_⟩
        simp only [go_sem, ↓reduceIte, ↓run_addW, hw]
        exact ⟨_, rfl, m - 1, by omega, i + 1, nx2, _, _, by omega, hx2, rfl, rfl⟩
    obtain ⟨r, H', hT, nx', h1, rfl, rfl⟩ := key (fun r H' => ∃ nx', Nx nx' ∧ r = .tup [] ∧ H' = H.set p (.cells 0 [.map q, .int .i64 nx', tr, dn])) fun nx' h => ⟨nx', h, rfl, rfl⟩
    exact ⟨nx', h1, hT⟩
end Go.Proofs.Ytneonbdlgmaofaa.Vm
namespace Go.Proofs.Ytneonbdlgmaofaa.Vm
open Go
set_option linter.unusedSimpArgs false

mutual
/-- A type as it is known, if it is not too large; and the count. -/
def rsoF : Ty → Nat → Ty × Nat
  | .mk k n s xs, c => match rsoL [] xs (c + 1) with
    | (some ys, c') => (.mk k n s ys, c')
    | (none, c') => (zeroTy, c')
def rsoL : List Ty → List Ty → Nat → Option (List Ty) × Nat
  | acc, [], c => (some acc, c)
  | acc, a :: xs, c => if 256 < c then (none, c) else rsoL (acc ++ [(rsoF a c).1]) xs (rsoF a c).2
end
mutual
theorem rsoF_le : ∀ (t : Ty) (c : Nat), c ≤ 256 → (rsoF t c).2 ≤ 257
  | .mk k n s xs, c, h => by
    have := rsoL_le [] xs (c + 1) (by omega)
    rw [rsoF]
    split <;> (rename_i e; rw [e] at this; exact this)
theorem rsoL_le : ∀ (acc xs : List Ty) (c : Nat), c ≤ 257 → (rsoL acc xs c).2 ≤ 257
  | acc, [], c, h => by rw [rsoL]; exact h
  | acc, a :: xs, c, h => by
    rw [rsoL]
    split
    · exact h
    · exact rsoL_le _ xs _ (rsoF_le a c (by omega))
end
theorem Full.open {σ : Sub} {t f : Ty} (hs : ∀ p ∈ σ, Rt p.2) (ht : Rt t) (hf : Full σ t f) : ∃ h, Head σ t h ∧ Rt h ∧ h.k = f.k ∧ h.n = f.n ∧ h.s = f.s ∧ h.as.length = f.as.length ∧
    ∀ (i : Nat) a g, h.as[i]? = some a → f.as[i]? = some g → Full σ a g := by
  induction hf with
  | @var t hk hl =>
    refine ⟨t, .here (.inr hl), ht, rfl, rfl, rfl, rfl, ?_⟩
    have := ht.var1 hk
    intro i a g h1 _
    rw [this.1] at h1
    simp [vr, Ty.as] at h1
  | known hk hl _ ih =>
    obtain ⟨h, h1, h2⟩ := ih (hs _ (look_mem hl))
    exact ⟨h, .go hk hl h1, h2⟩
  | con hk hl h => exact ⟨_, .here (.inl hk), ht, rfl, rfl, rfl, hl, h⟩
theorem Head.bd {σ : Sub} (hs : ∀ p ∈ σ, Bd p.2) {t h : Ty} (hh : Head σ t h) (ht : Bd t) : Bd h := by
  induction hh with
  | here _ => exact ht
  | go _ hl _ ih => exact ih (hs _ (look_mem hl))
theorem Bd.as {t : Ty} (h : Bd t) : t.as.length * 56 ≤ 140737488355328 ∧ ∀ a ∈ t.as, Bd a := by cases h with | mk h1 h2 => exact ⟨h1, h2⟩
/-- What is known is right. -/
structure Good (σ : Sub) : Prop where
  rt : ∀ p ∈ σ, Rt p.2
  bd : ∀ p ∈ σ, Bd p.2

/-- All that stands in a heap names what is there. -/
def Cl (H : Heap) : Prop := H.all (idsO H.length) = true
theorem Cl.set {H : Heap} (h : Cl H) {i : Nat} {o : Obj} (ho : idsO H.length o = true) : Cl (H.set i o) := by
  unfold Cl at h ⊢
  rw [List.length_set, List.all_eq_true] at *
  intro x hx
  rcases List.mem_or_eq_of_mem_set hx with h' | rfl
  · exact h x h'
  · exact ho
theorem idsO_le {m m' : Nat} (h : m ≤ m') {ob : Obj} (ho : idsO m ob = true) : idsO m' ob = true := by
  cases ob with
  | dead => rfl
  | cells v cs => exact idsL_mono h _ ho
  | map es =>
    simp only [idsO, Bool.and_eq_true] at ho ⊢
    exact ⟨idsL_mono h _ ho.1, idsL_mono h _ ho.2⟩
theorem Cl.app {H l : Heap} (h : Cl H) (hl : l.all (idsO (H.length + l.length)) = true) : Cl (H ++ l) := by
  unfold Cl at h ⊢
  rw [List.all_append, List.length_append, Bool.and_eq_true]
  refine ⟨?_, hl⟩
  rw [List.all_eq_true] at *
  intro x hx
  exact idsO_le (by omega) (h x hx)
theorem Cl.same {H H' : Heap} (h : Cl H) (hl : H'.length = H.length) (hs : SameK H H') : Cl H' := by
  unfold Cl at h ⊢
  rw [List.all_eq_true] at *
  intro x hx
  obtain ⟨i, hi⟩ := List.mem_iff_getElem?.1 hx
  rw [hl]
  rcases hs i x hi with h1 | h1
  · exact h x (List.mem_of_getElem? h1)
  · exact h1
theorem finH_lit {R : V → Heap → Prop} {H H0 : Heap} {a b : Int} {s : List UInt8} {o : Bool} {xs : List Ty} : finH H0 (.agg [.int .i64 a, .int .i64 b, .str s, .sl o 4 (xs.map tyC)]) R H = outH H0 (R (tyV o (.mk a b s xs))) H := finH_ty (t := .mk a b s xs)
theorem finH_lit0 {R : V → Heap → Prop} {H H0 : Heap} {a b : Int} {s : List UInt8} {o : Bool} : finH H0 (.agg [.int .i64 a, .int .i64 b, .str s, .sl o 4 []]) R H = outH H0 (R (tyV o (.mk a b s []))) H := finH_ty (t := .mk a b s [])
def resC (p c : Nat) : Obj := .cells 0 [.ptr p 0 0, .int .i64 c]
theorem resolve_T {σ : Sub} (hg : Good σ) (f : Ty) : ∀ t : Ty, Full σ t f → Rt t → Bd t → ∀ (H : Heap) (p q r : Nat) (nx : Int) (tr dn : V) (c : Nat), St H p q σ nx tr dn → Cl H → r ≠ p → getCells H r 0 = some [.ptr p 0 0, .int .i64 c] → c ≤ 256 → ∀ o : Bool,
    ∃ o', T Try.prog 29 [.ptr r 0 0, tyV o t] H (tyV o' (rsoF f c).1) (H.set r (resC p (rsoF f c).2)) := by
  induction f using Ty.ind with
  | h k n s fs ih =>
    intro t hf ht hb H p q r nx tr dn c hs hcl hrp hr hc o
    have key : ∀ R : V → Heap → Prop, (∀ o', R (tyV o' (rsoF (Ty.mk k n s fs) c).1) (H.set r (resC p (rsoF (Ty.mk k n s fs) c).2))) → ∃ r1 H', T Try.prog 29 [.ptr r 0 0, tyV o t] H r1 H' ∧ R r1 H' := by
      intro R hR
      have hlr := gc_lt hr
      have hrq : r ≠ q := by
        rintro rfl
        have h1 := gc_some.1 hr
        rw [hs.map] at h1
        cases h1
      have hidc : ∀ c', idsO H.length (resC p c') = true := by
        intro c'
        have := hs.lp
        simp [resC, idsO, idsL, idsV, this]
      have hstC : ∀ c', St (H.set r (resC p c')) p q σ nx tr dn := fun c' => ⟨by rw [gc_ne hrp]; exact hs.cells, by rw [List.getElem?_set_ne hrq]; exact hs.map, by rw [List.length_set]; exact hs.ids⟩
      have hrC : ∀ c', getCells (H.set r (resC p c')) r 0 = some [.ptr p 0 0, .int .i64 (c' : Nat)] := fun c' => gc_same hlr
      have hself : H.set r (resC p c) = H := by
        have h1 := gc_some.1 hr
        obtain ⟨h2, h3⟩ := List.getElem?_eq_some_iff.1 h1
        unfold resC
        rw [← h3]; simp
      obtain ⟨h, hh, hrt, hk, hn, hs', hlen, hargs⟩ := hf.open hg.rt ht
      have hbh := hh.bd hg.bd hb
      obtain ⟨hb1, hb2⟩ := hbh.as
      have hex : ∀ (o' : Bool) (x : Ty) (c' : Nat) (l : Heap), (rsoF (Ty.mk k n s fs) c) = (x, c') → outH H (R (tyV o' x)) (H.set r (resC p c') ++ l) := fun o' x c' l h => by
        have := hR o'
        rw [h] at this
        exact out_set (hidc c') this
      generalize hX : rsoF (Ty.mk k n s fs) c = X at hex
      rw [rsoF] at hX
      refine T.of_H mix c29 rfl ?_
      unfold v29
      have b1 : ∀ l, getCells (H ++ l) r 0 = some [.ptr p 0 0, .int .i64 c] := fun l => by rw [gc_app hlr]; exact hr
      simp only [go_sem, ↓reduceIte, List.append_assoc, gc_appN, gc_app0, set_appN, set_app0, ↓b1]
      obtain ⟨o1, hT⟩ := head_T (hs.appS [Obj.cells 0 (tyO false t), Obj.cells 0 [V.int .i64 0, V.int .i64 0, V.str [], V.sl true 4 []]]) hh o
      refine ⟨_, _, hT, ?_⟩
      have hwc := inc64 (i := c) (by omega)
      have b2 : ∀ (c' : Nat) (l : Heap), getCells (H.set r (.cells 0 [.ptr p 0 0, .int .i64 (c' : Nat)]) ++ l) r 0 = some [.ptr p 0 0, .int .i64 (c' : Nat)] := fun c' l => by rw [gc_app (by simpa using hlr)]; exact hrC c'
      simp only [go_sem, ↓reduceIte, List.append_assoc, gc_appN, gc_app0, set_appN, set_app0, gc_appS, gc_appSN, set_appS, set_appSN, set_appL hlr, ↓b1, ↓b2, ↓run_addW, hwc]
      refine WP.loop' (fun m E H' => ∃ (i ci : Nat) (ys : List Ty) (rest : Heap) (ex : List (Nat × V)), i + m = h.as.length ∧ ys.length = i ∧ ci ≤ 257 ∧ rsoL [] fs (c + 1) = rsoL ys (fs.drop i) ci ∧
        H' = H.set r (.cells 0 [.ptr p 0 0, .int .i64 (ci : Nat)]) ++ (.cells 0 (tyO o1 h) :: .cells 0 [.int .i64 0, .int .i64 0, .str [], .sl true 4 []] :: .cells 0 [.int .i64 h.k, .int .i64 h.n, .str h.s, .sl true 4 (ys.map tyC)] :: rest) ∧
        E = ⟨(0, .ptr r 0 0) :: (3, .ptr H.length 0 0) :: (4, .ptr (H.length + 1) 0 0) :: (5, .ptr (H.length + 2) 0 0) :: (29, .sl false 4 (h.as.map tyC)) :: (30, .int .i64 h.as.length) :: (31, .int .i64 i) :: ex, .u⟩) (n := h.as.length)
        ⟨0, c + 1, [], [], _, by omega, rfl, by omega, rfl, rfl, by rw [List.length_set]; rfl⟩ ?_
      rintro m E H' ⟨i, ci, ys, rest, ex, hi, hyl, hci, heq, rfl, rfl⟩
      have hw := inc64 (i := i) (by omega)
      simp only [go_sem, ↓reduceIte, ↓ex_map, ↓run_addW, hw, Int.toNat_natCast, List.append_assoc, gc_appS, gc_appSN, set_appS, set_appSN, set_appL hlr, List.length_set, ↓b2]
      refine ⟨fun hlt => ?_, fun hge => ?_⟩
      · have hia : i < h.as.length := by omega
        have hga := List.getElem?_eq_getElem hia
        have hlen' : h.as.length = fs.length := hlen
        have hif : i < fs.length := by omega
        have hgf := List.getElem?_eq_getElem hif
        rw [List.drop_eq_getElem_cons hif, rsoL] at heq
        refine ⟨by omega, _, hga, ?_⟩
        refine ⟨fun hbig => ?_, fun hbig => ?_⟩
        · refine endH_cell0 trivial ?_
          rw [if_pos (by omega)] at heq
          rw [heq] at hX
          simp only [go_sem, ↓reduceIte, gc_appS, gc_appSN, finH_lit0]
          exact ⟨by omega, hex _ zeroTy ci _ hX.symm⟩
        · rw [if_neg (by omega)] at heq
          have hle := rsoF_le fs[i] ci (by omega)
          obtain ⟨o2, hT2⟩ := ih _ (List.getElem_mem hif) h.as[i] (hargs i _ _ hga hgf) (hrt.args _ (List.getElem_mem hia)) (hb2 _ (List.getElem_mem hia)) (H.set r (resC p ci)) p q r nx tr dn ci (hstC ci) (hcl.set (hidc ci)) hrp (hrC ci) (by omega) false
          rw [List.set_set] at hT2
          have hcl2 : List.all (H.set r (resC p ci)) (idsO H.length) = true := by have := hcl.set (i := r) (hidc ci); unfold Cl at this; rwa [List.length_set] at this
          refine ⟨by omega, by omega, _, H.set r (resC p ci), _, _, rfl, by simp, by simp, hT2, by simp [idsL, idsV, tyV, tyO, hlr], hcl2, ?_⟩
          have hfit : fits (ys.length + 1) 56 := ⟨by omega, by omega⟩
          unfold resC
          simp only [go_sem, ↓reduceIte, ↓run_addW, hw, gc_appS, gc_appSN, set_appS, set_appSN, hfit]
          exact ⟨m - 1, by omega, i + 1, _, ys ++ [(rsoF fs[i] ci).1], _, _, by omega, by simp; omega, hle, heq, by simp only [List.map_append]; rfl, rfl⟩
      · refine endH_cell0 trivial ?_
        rw [List.drop_eq_nil_of_le (by have : h.as.length = fs.length := hlen; omega), rsoL] at heq
        rw [heq] at hX
        simp only [go_sem, ↓reduceIte, gc_appS, gc_appSN, finH_lit, finH_lit0]
        rw [show h.k = k from hk, show h.n = n from hn, show h.s = s from hs']
        exact ⟨by omega, hex true _ ci _ hX.symm⟩
    obtain ⟨r1, H', hT, o', rfl, rfl⟩ := key (fun r1 H' => ∃ o', r1 = tyV o' (rsoF (Ty.mk k n s fs) c).1 ∧ H' = H.set r (resC p (rsoF (Ty.mk k n s fs) c).2)) fun o' => ⟨o', rfl, rfl⟩
    exact ⟨o', hT⟩
end Go.Proofs.Ytneonbdlgmaofaa.Vm
namespace Go.Proofs.Ytneonbdlgmaofaa.Vm
open Go
set_option linter.unusedSimpArgs false

/-- A cell and a number are what is answered. -/
def cellY (H0 : Heap) (v w : V) (n : Nat) (R : V → Heap → Prop) (H : Heap) : Prop := match v with
  | .ptr id ver off => exO (getCells H id ver) fun cs => off + n ≤ cs.length ∧ finH H0 (.tup [.agg (((cs.drop off).take n).map strip0), w]) R H
  | _ => False
section
variable {R : V → Heap → Prop} {l : List (Nat × V)} {d : V} {H H0 : Heap} {t u n : Nat}
@[go_sem] theorem cellY_ptr {id ver off : Nat} {w : V} : cellY H0 (.ptr id ver off) w n R H = exO (getCells H id ver) fun cs => off + n ≤ cs.length ∧ finH H0 (.tup [.agg (((cs.drop off).take n).map strip0), w]) R H := (rfl)
theorem endH_cell2 (h : cellY H0 (getE l d t) (getE l d u) n R H) : endH H0 [.cell t n true, .tmp u] R .ret ⟨l, d⟩ H := by
  have e : ∀ i, (En.f ⟨l, d⟩) i = getE l d i := fun _ => rfl
  unfold cellY at h
  unfold endH resV resL res1 resL res1 resL
  simp only [e]
  revert h
  generalize getE l d t = v
  intro h
  cases v <;> first | exact h.elim | skip
  rename_i id ver off
  obtain ⟨cs, h4, h5, h6⟩ := h
  refine ⟨trivial, _, ?_, h6⟩
  simp [h4, cut, h5, mk, pack]
@[go_sem] theorem finH_ty2 {o : Bool} {t : Ty} {k : IntKind} {e : Int} : finH H0 (.tup [tyV o t, .int k e]) R H = outH H0 (R (.tup [tyV o t, .int k e])) H := by
  unfold finH
  rw [fixd_tup2, fix_ty _ _ 5]
  simp [fixV]
end
section
variable {P : Program} {K : KK} {s : List Fr} {E : En} {H : Heap} {tk : List Nat} {dst : Option Nat} {os : List VOp} {keep : List Nat}
theorem nil_ptr {a b c : Nat} : runAct P (.isNil false) [.ptr a b c, .nilp] tk dst os keep s E H K = runOps P os keep s ((stripEn tk E).setO dst (.bool false)) H K := by
  show (∃ b, some false = some b ∧ runOps P os keep s ((stripEn tk E).setO dst (.bool (b != false))) H K) = _
  simp
theorem nil_ptrT {a b c : Nat} : runAct P (.isNil true) [.ptr a b c, .nilp] tk dst os keep s E H K = runOps P os keep s ((stripEn tk E).setO dst (.bool true)) H K := by
  show (∃ b, some false = some b ∧ runOps P os keep s ((stripEn tk E).setO dst (.bool (b != true))) H K) = _
  simp
theorem nil_nilp : runAct P (.isNil false) [.nilp, .nilp] tk dst os keep s E H K = runOps P os keep s ((stripEn tk E).setO dst (.bool true)) H K := by
  show (∃ b, some true = some b ∧ runOps P os keep s ((stripEn tk E).setO dst (.bool (b != false))) H K) = _
  simp
theorem nil_map {a : Nat} : runAct P (.isNil false) [.map a, .nilmap] tk dst os keep s E H K = runOps P os keep s ((stripEn tk E).setO dst (.bool false)) H K := by
  show (∃ b, some false = some b ∧ runOps P os keep s ((stripEn tk E).setO dst (.bool (b != false))) H K) = _
  simp
end
theorem zero_lit : V.agg [V.int .i64 0, V.int .i64 0, V.str [], V.sl false 4 []] = tyV false zeroTy := rfl
def resR (f : Ty) : V := if 256 < (rsoF f 0).2 then .tup [tyV false zeroTy, .int .i64 102] else .tup [tyV false (rsoF f 0).1, .int .i64 0]
theorem Resolve_nil (t : Ty) (o : Bool) (H : Heap) : T Try.prog 11 [.nilp, tyV o t] H (.tup [tyV false zeroTy, .int .i64 3]) H := by
  have key : ∀ R : V → Heap → Prop, R (.tup [tyV false zeroTy, .int .i64 3]) H → ∃ r H', T Try.prog 11 [.nilp, tyV o t] H r H' ∧ R r H' := by
    intro R hR
    refine T.of_H mix c11 rfl ?_
    unfold v11
    simp only [go_sem, ↓reduceIte, List.append_assoc, gc_appN, gc_app0, set_appN, set_app0, ↓nil_nilp]
    refine endH_cell2 ?_
    simp only [go_sem, ↓reduceIte, gc_appN, gc_app0]
    rw [zero_lit, finH_ty2]
    exact out_app hR
  obtain ⟨r, H', hT, rfl, rfl⟩ := key (fun r H' => r = .tup [tyV false zeroTy, .int .i64 3] ∧ H' = H) ⟨rfl, rfl⟩
  exact hT
theorem Resolve_bad {H : Heap} {p q : Nat} {σ : Sub} {nx : Int} {tr dn : V} (hs : St H p q σ nx tr dn) (t : Ty) (hb : Bd t) (hr : rightB t = false) (o : Bool) : T Try.prog 11 [.ptr p 0 0, tyV o t] H (.tup [tyV false zeroTy, .int .i64 1]) H := by
  have key : ∀ R : V → Heap → Prop, R (.tup [tyV false zeroTy, .int .i64 1]) H → ∃ r H', T Try.prog 11 [.ptr p 0 0, tyV o t] H r H' ∧ R r H' := by
    intro R hR
    have h1 := right_T t hb false
    rw [hr] at h1
    refine T.of_H mix c11 rfl ?_
    unfold v11
    have b1 := fun l => (hs.app l).1
    simp only [go_sem, ↓reduceIte, List.append_assoc, gc_appN, gc_app0, set_appN, set_app0, ↓nil_ptr, ↓b1, ↓nil_map]
    refine ⟨_, _, h1.frame rfl _, ?_⟩
    simp only [go_sem, ↓reduceIte, List.append_assoc, gc_appN, gc_app0, set_appN, set_app0]
    refine endH_cell2 ?_
    simp only [go_sem, ↓reduceIte, gc_appN, gc_app0]
    rw [zero_lit, finH_ty2]
    exact out_app hR
  obtain ⟨r, H', hT, rfl, rfl⟩ := key (fun r H' => r = .tup [tyV false zeroTy, .int .i64 1] ∧ H' = H) ⟨rfl, rfl⟩
  exact hT
theorem Resolve_T {H : Heap} {p q : Nat} {σ : Sub} {nx : Int} {tr dn : V} (hg : Good σ) (hs : St H p q σ nx tr dn) (hcl : Cl H) (hx : Nx nx) {t f : Ty} (hb : Bd t) (hr : Rt t) (hf : Full σ t f) (o : Bool) :
    ∃ nx', Nx nx' ∧ T Try.prog 11 [.ptr p 0 0, tyV o t] H (resR f) (H.set p (.cells 0 [.map q, .int .i64 nx', tr, dn])) := by
  have key : ∀ R : V → Heap → Prop, (∀ nx', Nx nx' → R (resR f) (H.set p (.cells 0 [.map q, .int .i64 nx', tr, dn]))) → ∃ r H', T Try.prog 11 [.ptr p 0 0, tyV o t] H r H' ∧ R r H' := by
    intro R hR
    have h1 := right_T t hb false
    rw [(right_iff t).2 hr] at h1
    refine T.of_H mix c11 rfl ?_
    unfold v11
    have b1 := fun l => (hs.app l).1
    simp only [go_sem, ↓reduceIte, List.append_assoc, gc_appN, gc_app0, set_appN, set_app0, ↓nil_ptr, ↓b1, ↓nil_map]
    refine ⟨_, _, h1.frame rfl _, ?_⟩
    simp only [go_sem, ↓reduceIte, List.append_assoc, gc_appN, gc_app0, set_appN, set_app0]
    obtain ⟨nx', hx', hT⟩ := sees_T t hb hr _ p q σ nx tr dn (hs.appS [.cells 0 (tyO o t), .cells 0 [.int .i64 0, .int .i64 0, .str [], .sl true 4 []]]) hx false
    rw [set_appL hs.lp] at hT
    refine ⟨_, _, hT, ?_⟩
    have hs2 := hs.setC nx' hs.ids
    have hcl2 := hcl.set (i := p) (hs.idsC nx' hs.ids)
    have hlen : (H.set p (.cells 0 [.map q, .int .i64 nx', tr, dn])).length = H.length := List.length_set ..
    have hex : ∀ (l : Heap), outH H (R (resR f)) (H.set p (.cells 0 [.map q, .int .i64 nx', tr, dn]) ++ l) := fun l => out_set (hs.idsC nx' hs.ids) (hR nx' hx')
    generalize H.set p (.cells 0 [.map q, .int .i64 nx', tr, dn]) = A at hT hs2 hcl2 hlen hex
    have hA : ∀ (l : Heap) (i v : Nat), getCells (A ++ l) (H.length + i) v = getCells l i v := fun l i v => by rw [← hlen]; exact gc_appN
    have hA0 : ∀ (l : Heap) (v : Nat), getCells (A ++ l) H.length v = getCells l 0 v := fun l v => hA l 0 v
    have hB : ∀ (l : Heap) (i : Nat) (o : Obj), (A ++ l).set (H.length + i) o = A ++ l.set i o := fun l i v => by rw [← hlen]; exact set_appN
    have hB0 : ∀ (l : Heap) (o : Obj), (A ++ l).set H.length o = A ++ l.set 0 o := fun l v => hB l 0 v
    simp only [go_sem, ↓reduceIte, List.append_assoc, hA, hA0, hB, hB0, hlen]
    obtain ⟨o', hT2⟩ := resolve_T hg f t hf hr hb (A ++ [.cells 0 (tyO false t), .cells 0 [.int .i64 0, .int .i64 0, .str [], .sl true 4 []], .cells 0 [.ptr p 0 0, .int .i64 0]]) p q (H.length + 2) nx' tr dn 0 (hs2.appS _)
      (hcl2.app (by have := hs.lp; simp [idsO, idsL, idsV, tyO, hlen]; omega)) (by have := hs.lp; omega) (by rw [hA]; rfl) (by omega) o
    rw [hB] at hT2
    refine ⟨_, _, hT2, ?_⟩
    have hle := rsoF_le f 0 (by omega)
    unfold resR at hex
    generalize rsoF f 0 = X at hex hle
    obtain ⟨x, c⟩ := X
    unfold resC
    simp only [go_sem, ↓reduceIte, List.append_assoc, hA, hA0, hB, hB0, hlen] at hex ⊢
    refine ⟨fun hc => ?_, fun hc => ?_⟩
    · refine endH_cell2 ?_
      rw [if_pos (by omega)] at hex
      simp only [go_sem, ↓reduceIte, List.append_assoc, hA, hA0, hB, hB0, hlen]
      rw [zero_lit, finH_ty2]
      exact hex _
    · refine endH_cell2 ?_
      rw [if_neg (by omega)] at hex
      simp only [go_sem, ↓reduceIte, List.append_assoc, hA, hA0, hB, hB0, hlen]
      exact hex _
  obtain ⟨r, H', hT, nx', hx', rfl, rfl⟩ := key (fun r H' => ∃ nx', Nx nx' ∧ r = resR f ∧ H' = H.set p (.cells 0 [.map q, .int .i64 nx', tr, dn])) fun nx' h => ⟨nx', h, rfl, rfl⟩
  exact ⟨nx', hx', hT⟩
end Go.Proofs.Ytneonbdlgmaofaa.Vm
namespace Go.Proofs.Ytneonbdlgmaofaa.Vm
open Go
set_option linter.unusedSimpArgs false

def esN (S : List Int) : List (V × V) := S.map fun n => (.int .i64 n, .bool true)
theorem idxN (S : List Int) (n : Int) : (S.findIdx? (fun a => a = n)).isSome = decide (n ∈ S) := by
  rw [List.findIdx?_isSome]
  by_cases h : n ∈ S
  · rw [decide_eq_true h, List.any_eq_true]; exact ⟨n, h, by simp⟩
  · rw [decide_eq_false h, List.any_eq_false]
    intro x hx e
    simp at e; subst e; exact h hx
theorem findN (S : List Int) (n : Int) : findV false [.i] (.int .i64 n) (esN S) 0 = some (S.findIdx? (fun a => a = n)) := by
  have := findV_spec (key := fun n => V.int .i64 n) key_int (fun _ : Unit => V.bool true) n (S.map fun n => (n, ())) 0
  rw [List.map_map] at this
  show findV false [.i] (.int .i64 n) (S.map _) 0 = _
  rw [show (S.map fun n => (V.int .i64 n, V.bool true)) = List.map ((fun p : Int × Unit => (V.int .i64 p.1, V.bool true)) ∘ fun n => (n, ())) S from rfl, this, List.findIdx?_map]
  congr 1
  have : (fun p : Int × Unit => decide (p.1 = n)) ∘ (fun n => (n, ())) = fun a => decide (a = n) := rfl
  rw [this]
  cases S.findIdx? (fun a => decide (a = n)) <;> simp
section
variable {P : Program} {K : KK} {s : List Fr} {E : En} {H : Heap} {tk : List Nat} {dst : Option Nat} {os : List VOp} {keep : List Nat} {m : Nat} {S : List Int} {n : Int}
theorem lookupN (h : H[m]? = some (.map (esN S))) :
    runAct P (.lookup false [.i] false [.bool false] false) [.map m, .int .i64 n] tk dst os keep s E H K = nextV P (.bool (decide (n ∈ S))) tk dst os keep s E H K := by
  have e : sLookup false [.i] false [.bool false] false [.map m, .int .i64 n] H = some (.bool (decide (n ∈ S)), H) := by
    unfold sLookup mapOf
    simp only [h, Option.bind_some]
    rw [findN]
    have := idxN S n
    cases hf : S.findIdx? (fun a => decide (a = n)) with
    | none => rw [hf] at this; simp at this; simp [mk, this]
    | some j =>
      rw [hf] at this
      have hm : n ∈ S := by simpa using this
      obtain ⟨hj, _⟩ := List.findIdx?_eq_some_iff_getElem.1 hf
      simp [esN, hm, List.getElem?_eq_getElem hj]
  show (∃ r H', sLookup false [.i] false [.bool false] false [.map m, .int .i64 n] H = some (r, H') ∧ _) = _
  rw [e]
  apply propext
  constructor
  · rintro ⟨r, H', h, k⟩; cases h; exact k
  · intro k; exact ⟨_, _, rfl, k⟩
theorem updateN (h : H[m]? = some (.map (esN S))) (hn : n ∉ S) :
    runAct P (.mapUpdate false [.i]) [.map m, .int .i64 n, .bool true] tk dst os keep s E H K = nextV P (.tup []) tk dst os keep s E (H.set m (.map (esN (S ++ [n])))) K := by
  have e : sMapUpdate false [.i] [.map m, .int .i64 n, .bool true] H = some (.tup [], H.set m (.map (esN (S ++ [n])))) := by
    unfold sMapUpdate mapOf
    simp only [h, Option.bind_some]
    rw [findN]
    have := idxN S n
    cases hf : S.findIdx? (fun a => decide (a = n)) with
    | none => simp [esN]
    | some j => rw [hf] at this; simp at this; exact absurd this hn
  show (∃ r H', sMapUpdate false [.i] [.map m, .int .i64 n, .bool true] H = some (r, H') ∧ _) = _
  rw [e]
  apply propext
  constructor
  · rintro ⟨r, H', h, k⟩; cases h; exact k
  · intro k; exact ⟨_, _, rfl, k⟩
end
theorem nodup_bound : ∀ (M : Nat) (l : List Int), l.Nodup → (∀ x ∈ l, 0 ≤ x ∧ x < M) → l.length ≤ M
  | 0, [], _, _ => Nat.le_refl _
  | 0, x :: l, _, h => by have := h x (List.mem_cons_self ..); omega
  | M + 1, l, hn, h => by
    have h1 := nodup_bound M (l.filter (fun x => x ≠ (M : Int))) (hn.filter _) fun x hx => by
      rw [List.mem_filter] at hx
      have := h x hx.1
      have h2 : x ≠ (M : Int) := by simpa using hx.2
      omega
    have h2 : l.length ≤ (l.filter (fun x => x ≠ (M : Int))).length + 1 := by
      have h3 : l.length = (l.filter (fun x => x ≠ (M : Int))).length + (l.filter (fun x => x = (M : Int))).length := by
        clear h1 h hn
        induction l with
        | nil => rfl
        | cons a l ih =>
          by_cases e : a = (M : Int)
          · simp [e] at ih ⊢; omega
          · simp [e] at ih ⊢; omega
      have h4 : (l.filter (fun x => x = (M : Int))).length ≤ 1 := by
        have hn2 := hn.filter (fun x => decide (x = (M : Int)))
        have hall : ∀ x ∈ l.filter (fun x => decide (x = (M : Int))), x = (M : Int) := fun x hx => by simpa using (List.mem_filter.1 hx).2
        generalize l.filter (fun x => decide (x = (M : Int))) = k at hn2 hall
        match k, hn2, hall with
        | [], _, _ => simp
        | [_], _, _ => simp
        | a :: b :: k, hn2, hall =>
          have ha := hall a (List.mem_cons_self ..)
          have hb := hall b (List.mem_cons_of_mem _ (List.mem_cons_self ..))
          exact absurd (ha.trans hb.symm) ((List.pairwise_cons.1 hn2).1 b (List.mem_cons_self ..))
      omega
    omega
/-- The variables seen. -/
def SeenOk (S : List Int) (l : List Int) : Prop := S.Nodup ∧ (∀ x ∈ S, 0 ≤ x ∧ x < ((1073741825 : Nat) : Int)) ∧ l.length ≤ S.length
theorem leaves_T (t : Ty) : Bd t → Rt t → ∀ (H : Heap) (p q m : Nat) (nx : Int) (tr dn : V) (S l : List Int), St H p q [] nx tr dn → H[m]? = some (.map (esN S)) → m ≠ p → m ≠ q → SeenOk S l → ∀ o : Bool,
    ∃ S' l', SeenOk S' l' ∧ T Try.prog 32 [.ptr p 0 0, tyV o t, intsV true l, .map m] H (intsV true l') (H.set m (.map (esN S'))) := by
  induction t using Ty.ind with
  | h k n s xs ih =>
    intro hb hr H p q m nx tr dn S l hs hm hmp hmq hS o
    have key : ∀ R : V → Heap → Prop, (∀ S' l', SeenOk S' l' → R (intsV true l') (H.set m (.map (esN S')))) → ∃ r H', T Try.prog 32 [.ptr p 0 0, tyV o (Ty.mk k n s xs), intsV true l, .map m] H r H' ∧ R r H' := by
      intro R hR
      have hlm : m < H.length := (List.getElem?_eq_some_iff.1 hm).1
      have hself : H.set m (.map (esN S)) = H := by
        obtain ⟨h2, h3⟩ := List.getElem?_eq_some_iff.1 hm
        rw [← h3]; simp
      have hidm : ∀ S', idsO H.length (.map (esN S')) = true := by
        intro S'
        have h1 : ∀ L : List Int, idsL H.length (L.map fun n => V.int .i64 n) = true := fun L => by induction L with | nil => rfl | cons a L ih => simp [idsL, idsV, ih]
        have h2 : ∀ L : List Int, idsL H.length (L.map fun _ => V.bool true) = true := fun L => by induction L with | nil => rfl | cons a L ih => simp [idsL, idsV, ih]
        simp only [idsO, esN, List.map_map, Function.comp_def, h1, h2, Bool.and_self]
      have hex : ∀ (S' l' : List Int) (L : Heap), SeenOk S' l' → outH H (R (intsV true l')) (H.set m (.map (esN S')) ++ L) := fun S' l' L h => out_set (hidm S') (hR S' l' h)
      have hstM : ∀ S', St (H.set m (.map (esN S'))) p q [] nx tr dn := fun S' => ⟨by rw [gc_ne hmp]; exact hs.cells, by rw [List.getElem?_set_ne hmq]; exact hs.map, by rw [List.length_set]; exact hs.ids⟩
      refine T.of_H mix c32 rfl ?_
      unfold v32
      have b1 := fun L => (hs.app L).1
      have b2 := fun L => (hs.app L).2
      have b3 : ∀ L, (H ++ L)[m]? = some (.map (esN S)) := fun L => by rw [List.getElem?_append_left hlm]; exact hm
      have b4 : ∀ S' L, getCells (H.set m (.map (esN S')) ++ L) p 0 = some [.map q, .int .i64 nx, tr, dn] := fun S' L => ((hstM S').app L).1
      have b5 : ∀ S' L, (H.set m (.map (esN S')) ++ L)[q]? = some (.map (esS [])) := fun S' L => ((hstM S').app L).2
      simp only [intsV, go_sem, ↓reduceIte, List.append_assoc, gc_appN, gc_app0, set_appN, set_app0, ↓b1, ↓lookupN (b3 _)]
      by_cases hk : k = 1
      · have hn : xs = [] ∧ 0 ≤ n ∧ n ≤ 1073741824 := by
          cases hr with
          | var h0 h1 => exact ⟨rfl, h0, h1⟩
          | con => cases hk
          | fn => cases hk
        obtain ⟨rfl, h0, h1⟩ := hn
        subst hk
        refine ⟨fun _ => ⟨fun hin => ?_, fun hout => ?_⟩, fun h => by simp at h⟩
        · have := hex S l [.cells 0 (tyO o (Ty.mk 1 n s []))] hS
          rw [hself] at this
          exact this
        · have hnS : n ∉ S := by simpa using hout
          have hS2 : SeenOk (S ++ [n]) (l ++ [n]) := by
            refine ⟨?_, ?_, by have := hS.2.2; simp; omega⟩
            · rw [List.nodup_append]
              exact ⟨hS.1, by simp, fun a ha b hb => by rw [List.mem_singleton.1 hb]; exact fun e => hnS (e ▸ ha)⟩
            · intro x hx
              rcases List.mem_append.1 hx with hx | hx
              · exact hS.2.1 x hx
              · rw [List.mem_singleton.1 hx]; omega
          have hlen := nodup_bound _ _ hS2.1 hS2.2.1
          have hlen2 := hS2.2.2
          simp at hlen hlen2
          have hfit : fits (l.length + 1) 8 := ⟨by omega, by omega⟩
          simp only [intsV, go_sem, ↓reduceIte, List.append_assoc, gc_appN, gc_app0, set_appN, set_app0, ↓updateN (b3 _) hnS, set_appL hlm]
          simp only [intsV, go_sem, ↓reduceIte, List.append_assoc, gc_appN, gc_app0, set_appN, set_app0, gc_appS, gc_appSN, set_appS, set_appSN, ↓b4, ↓lookup_none (b5 _ _) rfl, List.length_set, hfit]
          have := hex (S ++ [n]) (l ++ [n]) [Obj.cells 0 (tyO o (Ty.mk 1 n s [])), Obj.cells 0 (tyO false zeroTy)] hS2
          rw [intsV, List.map_append] at this
          exact this
      · refine ⟨fun h => by simp at h; exact absurd h hk, fun _ => ?_⟩
        refine WP.loop' (fun M E H' => ∃ (i : Nat) (S' l' : List Int) (L : Heap) (ex : List (Nat × V)), i + M = xs.length ∧ SeenOk S' l' ∧ H' = H.set m (.map (esN S')) ++ L ∧
          E = ⟨(0, .ptr p 0 0) :: (2, intsV true l') :: (3, .map m) :: (47, .sl false 4 (xs.map tyC)) :: (48, .int .i64 xs.length) :: (49, .int .i64 i) :: ex, .u⟩) (n := xs.length) ⟨0, S, l, _, _, by omega, hS, by rw [hself], rfl⟩ ?_
        rintro M E H' ⟨i, S', l', L, ex, hi, hS', rfl, rfl⟩
        have hw := inc64 (i := i) (by have := hb.len; omega)
        simp only [intsV, go_sem, ↓reduceIte, ↓ex_map, ↓run_addW, hw, Int.toNat_natCast, List.append_assoc, gc_appN, set_appN]
        refine ⟨fun hlt => ?_, fun hge => hex _ _ _ hS'⟩
        have hix : i < xs.length := by omega
        have hg := List.getElem?_eq_getElem hix
        obtain ⟨S2, l2, hS2, hT⟩ := ih _ (List.getElem_mem hix) (hb.arg _ (List.getElem_mem hix)) (hr.args _ (List.getElem_mem hix)) (H.set m (.map (esN S')) ++ (L ++ [.cells 0 (tyO false xs[i])])) p q m nx tr dn S' l' ((hstM S').appS _)
          (by rw [List.getElem?_append_left (by simpa using hlm)]; simp [hlm]) hmp hmq hS' false
        rw [set_appL (by simpa using hlm), List.set_set] at hT
        refine ⟨by omega, _, hg, _, _, hT, ?_⟩
        simp only [intsV, go_sem, ↓reduceIte, ↓run_addW, hw]
        exact ⟨M - 1, by omega, i + 1, S2, l2, _, _, by omega, hS2, rfl, rfl⟩
    obtain ⟨r, H', hT, S', l', h, rfl, rfl⟩ := key (fun r H' => ∃ S' l', SeenOk S' l' ∧ r = intsV true l' ∧ H' = H.set m (.map (esN S'))) fun S' l' h => ⟨S', l', h, rfl, rfl⟩
    exact ⟨S', l', h, hT⟩
end Go.Proofs.Ytneonbdlgmaofaa.Vm
namespace Go.Proofs.Ytneonbdlgmaofaa.Vm
open Go
set_option linter.unusedSimpArgs false

section
variable {R : V → Heap → Prop} {l : List (Nat × V)} {d : V} {H H0 : Heap} {t u : Nat}
@[go_sem] theorem endH_two : endH H0 [.tmp t, .tmp u] R .ret ⟨l, d⟩ H = finH H0 (.tup [getE l d t, getE l d u]) R H := by simp [endH, finH, resV, resL, res1, pack, En.f]
@[go_sem] theorem finH_sl2 {o : Bool} {z : Nat} {xs : List (List V)} {k : IntKind} {e : Int} : finH H0 (.tup [.sl o z xs, .int k e]) R H = outH H0 (R (.tup [.sl o z xs, .int k e])) H := by
  unfold finH
  rw [fixd_tup2]
  simp [fixV]
end
section
variable {P : Program} {K : KK} {s : List Fr} {E : En} {H : Heap} {tk : List Nat} {dst : Option Nat} {os : List VOp} {keep : List Nat}
theorem run_makeMap : runAct P .makeMap [] tk dst os keep s E H K = nextV P (.map H.length) tk dst os keep s E (H ++ [.map []]) K := by
  show (∃ r H', sMakeMap [] H = some (r, H') ∧ _) = _
  apply propext
  constructor
  · rintro ⟨r, H', h, k⟩; cases h; exact k
  · intro k; exact ⟨_, _, rfl, k⟩
end
theorem Leaves_nil (t : Ty) (o : Bool) (H : Heap) : T Try.prog 20 [.nilp, tyV o t] H (.tup [intsV true [], .int .i64 3]) H := by
  have key : ∀ R : V → Heap → Prop, R (.tup [intsV true [], .int .i64 3]) H → ∃ r H', T Try.prog 20 [.nilp, tyV o t] H r H' ∧ R r H' := by
    intro R hR
    refine T.of_H mix c20 rfl ?_
    unfold v20
    simp only [go_sem, ↓reduceIte, List.append_assoc, gc_appN, gc_app0, set_appN, set_app0, ↓nil_nilp]
    exact out_app hR
  obtain ⟨r, H', hT, rfl, rfl⟩ := key (fun r H' => r = .tup [intsV true [], .int .i64 3] ∧ H' = H) ⟨rfl, rfl⟩
  exact hT
theorem Leaves_bad {H : Heap} {p q : Nat} {σ : Sub} {nx : Int} {tr dn : V} (hs : St H p q σ nx tr dn) (t : Ty) (hb : Bd t) (hr : rightB t = false) (o : Bool) : T Try.prog 20 [.ptr p 0 0, tyV o t] H (.tup [intsV true [], .int .i64 1]) H := by
  have key : ∀ R : V → Heap → Prop, R (.tup [intsV true [], .int .i64 1]) H → ∃ r H', T Try.prog 20 [.ptr p 0 0, tyV o t] H r H' ∧ R r H' := by
    intro R hR
    have h1 := right_T t hb false
    rw [hr] at h1
    refine T.of_H mix c20 rfl ?_
    unfold v20
    have b1 := fun l => (hs.app l).1
    simp only [go_sem, ↓reduceIte, List.append_assoc, gc_appN, gc_app0, set_appN, set_app0, ↓nil_ptr, ↓b1, ↓nil_map]
    refine ⟨_, _, h1.frame rfl _, ?_⟩
    simp only [go_sem, ↓reduceIte, List.append_assoc, gc_appN, gc_app0, set_appN, set_app0]
    exact out_app hR
  obtain ⟨r, H', hT, rfl, rfl⟩ := key (fun r H' => r = .tup [intsV true [], .int .i64 1] ∧ H' = H) ⟨rfl, rfl⟩
  exact hT
theorem Leaves_T {H : Heap} {p q : Nat} {nx : Int} {tr dn : V} (hs : St H p q [] nx tr dn) (hx : Nx nx) {t : Ty} (hb : Bd t) (hr : Rt t) (o : Bool) :
    ∃ nx' l', Nx nx' ∧ T Try.prog 20 [.ptr p 0 0, tyV o t] H (.tup [intsV true l', .int .i64 0]) (H.set p (.cells 0 [.map q, .int .i64 nx', tr, dn])) := by
  have key : ∀ R : V → Heap → Prop, (∀ nx' l', Nx nx' → R (.tup [intsV true l', .int .i64 0]) (H.set p (.cells 0 [.map q, .int .i64 nx', tr, dn]))) → ∃ r H', T Try.prog 20 [.ptr p 0 0, tyV o t] H r H' ∧ R r H' := by
    intro R hR
    have h1 := right_T t hb false
    rw [(right_iff t).2 hr] at h1
    refine T.of_H mix c20 rfl ?_
    unfold v20
    have b1 := fun l => (hs.app l).1
    simp only [go_sem, ↓reduceIte, List.append_assoc, gc_appN, gc_app0, set_appN, set_app0, ↓nil_ptr, ↓b1, ↓nil_map]
    refine ⟨_, _, h1.frame rfl _, ?_⟩
    simp only [go_sem, ↓reduceIte, List.append_assoc, gc_appN, gc_app0, set_appN, set_app0]
    obtain ⟨nx', hx', hT⟩ := sees_T t hb hr _ p q [] nx tr dn (hs.appS [.cells 0 (tyO o t)]) hx false
    rw [set_appL hs.lp] at hT
    refine ⟨_, _, hT, ?_⟩
    have hs2 := hs.setC nx' hs.ids
    have hlen : (H.set p (.cells 0 [.map q, .int .i64 nx', tr, dn])).length = H.length := List.length_set ..
    have hex : ∀ (l' : List Int) (l : Heap), outH H (R (.tup [intsV true l', .int .i64 0])) (H.set p (.cells 0 [.map q, .int .i64 nx', tr, dn]) ++ l) := fun l' l => out_set (hs.idsC nx' hs.ids) (hR nx' l' hx')
    generalize H.set p (.cells 0 [.map q, .int .i64 nx', tr, dn]) = A at hT hs2 hlen hex
    have hA : ∀ (l : Heap) (i v : Nat), getCells (A ++ l) (H.length + i) v = getCells l i v := fun l i v => by rw [← hlen]; exact gc_appN
    have hA0 : ∀ (l : Heap) (v : Nat), getCells (A ++ l) H.length v = getCells l 0 v := fun l v => hA l 0 v
    have hB : ∀ (l : Heap) (i : Nat) (o : Obj), (A ++ l).set (H.length + i) o = A ++ l.set i o := fun l i v => by rw [← hlen]; exact set_appN
    have hB0 : ∀ (l : Heap) (o : Obj), (A ++ l).set H.length o = A ++ l.set 0 o := fun l v => hB l 0 v
    simp only [go_sem, ↓reduceIte, List.append_assoc, hA, hA0, hB, hB0, hlen, ↓run_makeMap]
    obtain ⟨S', l', _, hT2⟩ := leaves_T t hb hr (A ++ [.cells 0 (tyO false t), .map []]) p q (H.length + 1) nx' tr dn [] [] (hs2.appS _)
      (by rw [← hlen, List.getElem?_append_right (by omega)]; simp [esN]) (by have := hs.lp; omega) (by have := hs.lq; omega) ⟨List.nodup_nil, (fun x h => by cases h), Nat.le_refl _⟩ o
    rw [hB] at hT2
    refine ⟨_, _, hT2, ?_⟩
    simp only [intsV, go_sem, ↓reduceIte, List.append_assoc, hA, hA0, hB, hB0, hlen]
    exact hex _ _
  obtain ⟨r, H', hT, nx', l', hx', rfl, rfl⟩ := key (fun r H' => ∃ nx' l', Nx nx' ∧ r = .tup [intsV true l', .int .i64 0] ∧ H' = H.set p (.cells 0 [.map q, .int .i64 nx', tr, dn])) fun nx' l' h => ⟨nx', l', h, rfl, rfl⟩
  exact ⟨nx', l', hx', hT⟩
theorem Unify_nil (t u : Ty) (o o' : Bool) (H : Heap) : T Try.prog 18 [.nilp, tyV o t, tyV o' u] H (.int .i64 3) H := by
  have key : ∀ R : V → Heap → Prop, R (.int .i64 3) H → ∃ r H', T Try.prog 18 [.nilp, tyV o t, tyV o' u] H r H' ∧ R r H' := by
    intro R hR
    refine T.of_H mix c18 rfl ?_
    unfold v18
    simp only [go_sem, ↓reduceIte, List.append_assoc, gc_appN, gc_app0, set_appN, set_app0, ↓nil_nilp]
    exact out_app hR
  obtain ⟨r, H', hT, rfl, rfl⟩ := key (fun r H' => r = .int .i64 3 ∧ H' = H) ⟨rfl, rfl⟩
  exact hT
theorem Fresh_nil : ∃ o', T Try.prog 21 [.nilp] [] (tyV o' (vr 0)) [] := by
  have key : ∀ R : V → Prop, (∀ o', R (tyV o' (vr 0))) → ∃ r, T Try.prog 21 [.nilp] [] r [] ∧ R r := by
    intro R hR
    obtain ⟨o1, hT⟩ := var_T 0
    refine T.of0x mix c21 rfl ?_
    unfold v21
    simp only [go_sem, ↓reduceIte, ↓nil_nilp]
    refine ⟨_, _, hT.frame rfl _, ?_⟩
    simp only [go_sem, ↓reduceIte]
    exact hR _
  obtain ⟨r, hT, o', rfl⟩ := key (fun r => ∃ o', r = tyV o' (vr 0)) fun o' => ⟨o', rfl⟩
  exact ⟨o', hT⟩
@[go_sem] theorem scal0_map {i : Nat} : scal0 (.map i) = true := (rfl)
@[go_sem] theorem plainC_map {i : Nat} : plainC (.map i) = true := (rfl)
@[go_sem] theorem plainC_nilmap : plainC .nilmap = true := (rfl)
/-- A new store behind a heap. -/
theorem New_T (H : Heap) : T Try.prog 19 [] H (.ptr (H.length + 1) 0 0) (H ++ [.map [], .cells 0 [.map H.length, .int .i64 0, .sl true 1 [], .nilmap]]) := by
  refine T.of_h mix c19 (H.length + 2) rfl ?_
  unfold v19
  simp only [go_sem, ↓reduceIte, List.append_assoc, gc_appN, gc_app0, set_appN, set_app0, ↓run_makeMap]
  refine ⟨trivial, by omega, by simp, fun i ob hi hob => ?_, .ptr (H.length + 1) 0 0, by simp [resV, resL, res1, pack, En.f, getE_cons], .ptr (H.length + 1) 0 0, by simp [fixV], rfl, ?_⟩
  · by_cases h : i < H.length
    · rw [List.getElem?_append_left h] at hob; exact .inl hob
    · right
      rw [List.getElem?_append_right (by omega)] at hob
      rcases (by omega : i - H.length = 0 ∨ i - H.length = 1) with hj | hj
      · rw [hj] at hob; simp at hob; subst hob; rfl
      · rw [hj] at hob; simp at hob; subst hob; simp [idsO, idsL, idsV]
  · rw [List.take_of_length_le (by simp)]
theorem new_St (H : Heap) : St (H ++ [.map [], .cells 0 [.map H.length, .int .i64 0, .sl true 1 [], .nilmap]]) (H.length + 1) H.length [] 0 (.sl true 1 []) .nilmap :=
  ⟨by rw [gc_appN]; rfl, by rw [List.getElem?_append_right (Nat.le_refl _)]; simp [esS], by simp [idsL, idsV]⟩
theorem new_Cl {H : Heap} (h : Cl H) : Cl (H ++ [.map [], .cells 0 [.map H.length, .int .i64 0, .sl true 1 [], .nilmap]]) :=
  h.app (by simp [idsO, idsL, idsV])
/-- A function without a heap that is in the way. -/
theorem T.hp {P : Program} {f : Nat} {args : List V} {r : V} (h : T P f args [] r []) (hi : idsL 0 args = true) (H : Heap) : ∃ r' H', T P f args H r' H' ∧ r' = r ∧ H' = H := ⟨r, H, h.frame hi H, rfl, rfl⟩

theorem zero_litT : V.agg [V.int .i64 0, V.int .i64 0, V.str [], V.sl true 4 []] = tyV true zeroTy := rfl
theorem St.self {H : Heap} {p q : Nat} {σ : Sub} {nx : Int} {tr dn : V} (h : St H p q σ nx tr dn) : H.set p (.cells 0 [.map q, .int .i64 nx, tr, dn]) = H := by
  obtain ⟨h2, h3⟩ := List.getElem?_eq_some_iff.1 (gc_some.1 h.cells)
  rw [← h3]; simp
theorem good_nil : Good [] := ⟨(fun p h => by cases h), (fun p h => by cases h)⟩
theorem resolveW {H : Heap} {p q : Nat} {nx : Int} {tr dn : V} (hs : St H p q [] nx tr dn) (hcl : Cl H) (hx : Nx nx) {t : Ty} (hb : Bd t) (o : Bool) :
    ∃ y e nx', Nx nx' ∧ T Try.prog 11 [.ptr p 0 0, tyV o t] H (.tup [tyV false y, .int .i64 e]) (H.set p (.cells 0 [.map q, .int .i64 nx', tr, dn])) ∧ (e = 1 ↔ rightB t = false) ∧ (e = 0 ∨ y = zeroTy) := by
  cases hr : rightB t with
  | false =>
    refine ⟨zeroTy, 1, nx, hx, ?_, by simp, .inr rfl⟩
    rw [hs.self]
    exact Resolve_bad hs t hb hr o
  | true =>
    obtain ⟨f, hf⟩ := full_exists (σ := []) ⟨fun _ => 0, fun n u h => by cases h⟩ t
    obtain ⟨nx', hx', hT⟩ := Resolve_T good_nil hs hcl hx hb ((right_iff t).1 hr) hf o
    unfold resR at hT
    split at hT
    · exact ⟨zeroTy, 102, nx', hx', hT, by simp, .inr rfl⟩
    · exact ⟨_, 0, nx', hx', hT, by simp, .inl rfl⟩
theorem leavesW {H : Heap} {p q : Nat} {nx : Int} {tr dn : V} (hs : St H p q [] nx tr dn) (hx : Nx nx) {t : Ty} (hb : Bd t) (o : Bool) :
    ∃ l e nx', Nx nx' ∧ T Try.prog 20 [.ptr p 0 0, tyV o t] H (.tup [intsV true l, .int .i64 e]) (H.set p (.cells 0 [.map q, .int .i64 nx', tr, dn])) ∧ (e = 1 ↔ rightB t = false) ∧ (e = 0 ∨ l = []) := by
  cases hr : rightB t with
  | false =>
    refine ⟨[], 1, nx, hx, ?_, by simp, .inr rfl⟩
    rw [hs.self]
    exact Leaves_bad hs t hb hr o
  | true =>
    obtain ⟨nx', l, hx', hT⟩ := Leaves_T hs hx hb ((right_iff t).1 hr) o
    exact ⟨l, 0, nx', hx', hT, by simp, .inl rfl⟩

theorem nil_T (a b : Ty) (hb : Bd a) (hb' : Bd b) : T Try.prog 7 [tyV false a, tyV false b] [] (.bool true) [] := by
  have hk := known_T
  have hz : Bd zeroTy := .mk (by simp) fun a h => by cases h
  have hR := refRight_T a hb false
  obtain ⟨o9, hfr⟩ := Fresh_nil
  obtain ⟨o8, hv0⟩ := refVar_T 0
  refine T.of0 mix c7 rfl ?_
  unfold v7
  simp only [go_sem, ↓reduceIte]
  refine ⟨_, _, Resolve_nil a false _, ?_⟩
  simp only [go_sem, ↓reduceIte]
  refine ⟨_, _, Leaves_nil a false _, ?_⟩
  simp only [intsV, go_sem, ↓reduceIte]
  refine ⟨_, _, New_T _, ?_⟩
  simp only [go_sem, ↓reduceIte, ↓nil_ptr]
  have hst : St [Obj.cells 0 (tyO false a), Obj.cells 0 (tyO false b), Obj.cells 0 (tyO false zeroTy), Obj.map [], Obj.cells 0 [V.map 3, V.int .i64 0, V.sl true 1 [], V.nilmap]] 4 3 [] 0 (.sl true 1 []) .nilmap :=
    new_St [Obj.cells 0 (tyO false a), Obj.cells 0 (tyO false b), Obj.cells 0 (tyO false zeroTy)]
  have hcl : Cl [Obj.cells 0 (tyO false a), Obj.cells 0 (tyO false b), Obj.cells 0 (tyO false zeroTy), Obj.map [], Obj.cells 0 [V.map 3, V.int .i64 0, V.sl true 1 [], V.nilmap]] := by
    unfold Cl; simp [idsO, idsL, idsV, tyO]
  obtain ⟨y, e, nx1, hx1, hT, he1, he2⟩ := resolveW hst hcl (by unfold Nx; omega) hb false
  have hst2 := hst.setC nx1 hst.ids
  simp only [List.set_cons_succ, List.set_cons_zero] at hT hst2
  refine ⟨_, _, hT, ?_⟩
  simp only [go_sem, ↓reduceIte]
  refine ⟨_, _, hR.frame rfl _, ?_⟩
  simp only [go_sem, ↓reduceIte]
  obtain ⟨l, e3, nx2, hx2, hT2, he3, he4⟩ := leavesW (hst2.appS [Obj.cells 0 (tyO false y)]) hx1 hb false
  simp only [List.set_cons_succ, List.set_cons_zero, List.cons_append, List.nil_append] at hT2
  refine ⟨_, _, hT2, ?_⟩
  have hE := fun o o' => refSame_T zeroTy hz zeroTy hz o o'
  rw [(tyEq_iff zeroTy zeroTy).2 rfl] at hE
  have hV := fun o o' => refSame_T (vr 0) (bd_vr 0) (vr 0) (bd_vr 0) o o'
  rw [(tyEq_iff (vr 0) (vr 0)).2 rfl] at hV
  have e33 : ((3 : Int) != 3) = false := rfl
  have e3' : ((3 : Int) == 3) = true := rfl
  have q1 : (((e3 == 1) == rightB a && true) != false) = false := by
    cases hrb : rightB a with
    | false => rw [he3.2 hrb]; rfl
    | true =>
      have : e3 ≠ 1 := fun h => by rw [he3.1 h] at hrb; cases hrb
      simp [this]
  have q2 : (((e == 1) == !rightB a && true) != false) = true := by
    cases hrb : rightB a with
    | false => rw [he1.2 hrb]; rfl
    | true =>
      have : e ≠ 1 := fun h => by rw [he1.1 h] at hrb; cases hrb
      simp [this]
  have q3 : ((e3 != 0) = true → l = []) := fun h => he4.resolve_left (by simpa using h)
  have q4 : ((e == 0) = false → y = zeroTy) := fun h => he2.resolve_left (by simpa using h)
  simp only [intsV, go_sem, ↓reduceIte, e33, q1, forall_const, false_implies, true_and, and_true, Bool.false_eq_true, Bool.true_eq_false]
  have hl0 : (e3 != 0) = true → ((l.length : Int) != 0) = false := fun h => by rw [q3 h]; rfl
  refine ⟨fun hne => ⟨(fun h => by rw [hl0 hne] at h; cases h), fun _ => ?_⟩, fun _ => ?_⟩
  all_goals
    refine ⟨_, _, Unify_nil a b false false _, ?_⟩
    simp only [go_sem, ↓reduceIte, e3', zero_lit, zero_litT, forall_const, false_implies, true_and, and_true, Bool.false_eq_true, Bool.true_eq_false]
    refine ⟨_, _, (hE false true).frame rfl _, ?_⟩
    simp only [go_sem, ↓reduceIte]
    refine ⟨_, _, hfr.frame rfl _, ?_⟩
    simp only [go_sem, ↓reduceIte]
    refine ⟨_, _, hv0.frame rfl _, ?_⟩
    simp only [go_sem, ↓reduceIte]
    refine ⟨_, _, (hV o9 o8).frame rfl _, ?_⟩
    simp only [go_sem, ↓reduceIte, q2, forall_const, false_implies, true_and, and_true, Bool.false_eq_true, Bool.true_eq_false]
  all_goals
    refine ⟨fun h0 => ?_, fun _ => ⟨_, _, known_H _, by simp only [go_sem, ↓reduceIte]⟩⟩
    rw [q4 h0, zero_litT]
    refine ⟨_, _, (hE false true).frame rfl _, ?_⟩
    simp only [go_sem, ↓reduceIte]
    exact ⟨_, _, known_H _, by simp only [go_sem, ↓reduceIte]⟩
theorem nil_Tc (a b : Ty) (hb : Bd a) (hb' : Bd b) : T Try.prog 7 [.agg (tyC a), .agg (tyC b)] [] (.bool true) [] := by rw [tyC_agg, tyC_agg]; exact nil_T a b hb hb'
end Go.Proofs.Ytneonbdlgmaofaa.Vm
namespace Go.Proofs.Ytneonbdlgmaofaa.Vm
open Go Go.RowKit Go.WideShapes

theorem T.belowL {P : Program} {w : World} {f : Nat} {vs : List V} (h : T P f vs [] (.bool true) []) {cs : Array Value} (hr : RepL w (gh0 w) vs cs.toList []) : Calls P f cs w fun e w' => e = .returned (.bool true) ∧ Below w.heap.size w w' := by
  refine (h.2 w (gh0 w) (own0 w) cs [] (ok0 w) hr List.nodup_nil (fun _ h => by cases h)).mono ?_
  rintro e w' ⟨c, rfl, G', own', bl, _, h2, _, _, h5⟩
  obtain ⟨cs', hcs, _⟩ := h2.bool_inv
  obtain ⟨rfl, _⟩ := List.cons.inj hcs
  refine ⟨rfl, h5.os, h5.tape, h5.out, h5.size, fun k hk => ?_⟩
  exact (h5.fixed k (by simp only [own0, if_pos hk])).1

theorem under3 : Try.prog.underlying 3 = some (.int .i64) := by kernel_rfl
theorem under4 : Try.prog.underlying 4 = some .bool := by kernel_rfl
theorem under9 : Try.prog.underlying 9 = some .string := by kernel_rfl
theorem under27 : Try.prog.underlying 27 = some (.slice 29) := by kernel_rfl
theorem under22 : Try.prog.underlying 22 = some (.slice 34) := by kernel_rfl
noncomputable def tyFs : Array Field := match Try.prog.underlying 29 with | some (.struct fs) => fs | _ => #[]
noncomputable def prFs : Array Field := match Try.prog.underlying 34 with | some (.struct fs) => fs | _ => #[]
theorem under29 : Try.prog.underlying 29 = some (.struct tyFs) := by kernel_rfl
theorem under34 : Try.prog.underlying 34 = some (.struct prFs) := by kernel_rfl
theorem bytes29 : Try.prog.bytesOf 29 = 56 := by kernel_rfl
theorem bytes34 : Try.prog.bytesOf 34 = 112 := by kernel_rfl
theorem cells29 : Try.prog.cellsOf 29 = 4 := by kernel_rfl
theorem cells34 : Try.prog.cellsOf 34 = 8 := by kernel_rfl
theorem ty_types : tyFs.toList.map (·.type) = [3, 3, 9, 27] := by kernel_rfl
theorem pr_types : prFs.toList.map (·.type) = [29, 29] := by kernel_rfl
theorem ty_contig : contig Try.prog 0 tyFs.toList = some (Try.prog.cellsOf 29) := by kernel_rfl
theorem pr_contig : contig Try.prog 0 prFs.toList = some (Try.prog.cellsOf 34) := by kernel_rfl
theorem type_at {fs : List Field} {ts : List TypeId} (h : fs.map (·.type) = ts) {i : Nat} {f : Field} (hf : fs[i]? = some f) : ts[i]? = some f.type := by rw [← h, List.getElem?_map, hf]; rfl
theorem type_of {fs : List Field} {ts : List TypeId} (h : fs.map (·.type) = ts) {i : Nat} {t : TypeId} (ht : ts[i]? = some t) : ∃ f, fs[i]? = some f ∧ f.type = t := by
  rw [← h, List.getElem?_map] at ht
  obtain ⟨f, h1, h2⟩ := Option.map_eq_some_iff.1 ht
  exact ⟨f, h1, h2⟩
theorem list4 {α : Type} {l : List α} (h : l.length = 4) : ∃ a b c d, l = [a, b, c, d] := by
  match l, h with
  | [a, b, c, d], _ => exact ⟨a, b, c, d, rfl⟩

section
variable {w : World} {H : Type} {enc : TypeId × Value → H} {sp : Nat → Bool} {held : Bool}
abbrev qInt (k : IntKind) : DataW H → List V → Prop := fun _ vs => ∃ n : Int, vs = [.int k n]
abbrev qStr : DataW H → List V → Prop := fun _ vs => ∃ l : List UInt8, vs = [.str l]
theorem rdInt {t : TypeId} {k : IntKind} (hu : Try.prog.underlying t = some (.int k)) (fuel : Nat) : ReadsF Try.prog enc sp held w fuel t (qInt k) :=
  readsF_mono (reads_int hu fuel) fun _ _ ⟨n, _, _, h⟩ => ⟨n, h⟩
theorem rdStr {t : TypeId} (hu : Try.prog.underlying t = some .string) (fuel : Nat) : ReadsF Try.prog enc sp held w fuel t qStr :=
  readsF_mono (reads_str hu fuel) fun _ _ ⟨n, _, h⟩ => ⟨n, h⟩
abbrev qTy : DataW H → List V → Prop := fun d vs => Light Try.prog 29 d → ∃ t : Ty, vs = tyC t ∧ Bd t
abbrev qTys : DataW H → List V → Prop := fun d vs => Light Try.prog 27 d → ∃ l : List Ty, vs = [.sl false 4 (l.map tyC)] ∧ l.length * 56 ≤ 140737488355328 ∧ ∀ t ∈ l, Bd t
theorem rdTys {fuel : Nat} (h : ReadsF Try.prog enc sp held w fuel 29 qTy) : ReadsF Try.prog enc sp held w (fuel + 1) 27 qTys := by
  refine readsF_mono (readsF_slice under27 h) ?_
  rintro d vs ⟨xs, rfl, h2⟩ hl
  rw [cells29]
  rcases h2 with ⟨rfl, rfl⟩ | ⟨elems, spare, rfl, h3, h4⟩
  · exact ⟨[], rfl, by simp, fun _ h => by cases h⟩
  · obtain ⟨k1, k2⟩ := light_slice under27 hl
    obtain ⟨l, rfl, hp⟩ := ex_list (f := tyC) (p := Bd) (xs := xs) fun x hx => by
      obtain ⟨i, hi⟩ := List.mem_iff_getElem?.1 hx
      have hil : i < elems.length := by rw [← h3]; exact (List.getElem?_eq_some_iff.1 hi).1
      have hd := List.getElem?_eq_getElem hil
      exact h4 i _ x hd hi (k2 _ (List.getElem_mem hil))
    refine ⟨l, rfl, ?_, hp⟩
    rw [List.length_map] at h3
    rw [h3]
    rw [bytes29] at k1
    unfold reachBytes at k1
    omega
theorem rdTy : ∀ fuel : Nat, ReadsF Try.prog enc sp held w fuel 29 qTy
  | 0 => by intro cs d ps h; cases h
  | fuel + 1 => by
    have h27 : ReadsF Try.prog enc sp held w fuel 27 qTys := by
      cases fuel with
      | zero => intro cs d ps h; cases h
      | succ fuel => exact rdTys (rdTy fuel)
    refine readsF_mono (readsF_struct under29 ty_contig (Qs := [qInt .i64, qInt .i64, qStr, qTys]) (by have := congrArg List.length ty_types; simpa using this) ?_) ?_
    · intro i f Q hf hQ
      have ht := type_at ty_types hf
      match i, ht, hQ with
      | 0, ht, hQ => cases hQ; exact (Option.some.inj ht) ▸ rdInt under3 fuel
      | 1, ht, hQ => cases hQ; exact (Option.some.inj ht) ▸ rdInt under3 fuel
      | 2, ht, hQ => cases hQ; exact (Option.some.inj ht) ▸ rdStr under9 fuel
      | 3, ht, hQ => cases hQ; exact (Option.some.inj ht) ▸ h27
      | i + 4, ht, _ => simp at ht
    · rintro d vs ⟨ds, vss, rfl, rfl, h1, h2, h3⟩ hl
      obtain ⟨a, b, c, e, rfl⟩ := list4 (l := vss) h2
      obtain ⟨x, y, z, u, rfl⟩ := list4 (l := ds) h1
      obtain ⟨k, rfl⟩ := h3 0 _ x a rfl rfl rfl
      obtain ⟨n, rfl⟩ := h3 1 _ y b rfl rfl rfl
      obtain ⟨s, rfl⟩ := h3 2 _ z c rfl rfl rfl
      obtain ⟨f, hf, hft⟩ := type_of ty_types (i := 3) (t := 27) rfl
      have hl3 := light_part under29 hl hf (d := u) rfl
      rw [hft] at hl3
      obtain ⟨l, rfl, h4, h5⟩ := h3 3 _ u e rfl rfl rfl hl3
      exact ⟨.mk k n s l, by rw [tyC, tysC_eq]; rfl, .mk h4 h5⟩
abbrev qPr : DataW H → List V → Prop := fun d vs => Light Try.prog 34 d → ∃ a b : Ty, vs = tyC a ++ tyC b ∧ Bd a ∧ Bd b
theorem rdPr : ∀ fuel : Nat, ReadsF Try.prog enc sp held w fuel 34 qPr
  | 0 => by intro cs d ps h; cases h
  | fuel + 1 => by
    refine readsF_mono (readsF_struct under34 pr_contig (Qs := [qTy, qTy]) (by have := congrArg List.length pr_types; simpa using this) ?_) ?_
    · intro i f Q hf hQ
      have ht := type_at pr_types hf
      match i, ht, hQ with
      | 0, ht, hQ => cases hQ; exact (Option.some.inj ht) ▸ rdTy fuel
      | 1, ht, hQ => cases hQ; exact (Option.some.inj ht) ▸ rdTy fuel
      | i + 2, ht, _ => simp at ht
    · rintro d vs ⟨ds, vss, rfl, rfl, h1, h2, h3⟩ hl
      obtain ⟨a, b, rfl⟩ := list2 (l := vss) h2
      obtain ⟨x, y, rfl⟩ := list2 (l := ds) h1
      obtain ⟨f, hf, hft⟩ := type_of pr_types (i := 0) (t := 29) rfl
      have hl0 := light_part under34 hl hf (d := x) rfl
      rw [hft] at hl0
      obtain ⟨f, hf, hft⟩ := type_of pr_types (i := 1) (t := 29) rfl
      have hl1 := light_part under34 hl hf (d := y) rfl
      rw [hft] at hl1
      obtain ⟨t, rfl, ht⟩ := h3 0 _ x a rfl rfl rfl hl0
      obtain ⟨u, rfl, hu⟩ := h3 1 _ y b rfl rfl rfl hl1
      exact ⟨t, u, by simp, ht, hu⟩
/-- A struct that is handed in. -/
theorem open_structV {t : TypeId} {fs : Array Field} {r : Reach} {b0 : Nat} {v : Value} {d : DataW H} {ps : List MemPlace} (hu : Try.prog.underlying t = some (.struct fs)) (hval : Value.okWide Try.prog w r b0 t v) {Q : DataW H → List V → Prop} (hr : Reads Try.prog enc sp held w t Q)
    (hd : DataW.Trod enc Try.prog w 0 sp held t v d ps) : ∃ vs, RepL w (gh0 w) [.agg vs] [v] [] ∧ Q d vs := by
  unfold Value.okWide at hval
  rw [hu] at hval
  obtain ⟨cs, rfl, _, _⟩ := hval
  obtain ⟨fuel, h⟩ := hd
  obtain ⟨vs, h1, h2⟩ := hr fuel _ d ps h
  exact ⟨vs, .agg (acs := cs.toList) (b1 := []) (bl := []) (RepI.toL h1) .nil, h2⟩
end
theorem RepL.cons0 {w : World} {G : Gh} {v : V} {c : Value} {vs : List V} {cs : List Value} (h : RepL w G [v] [c] []) (k : RepL w G vs cs []) : RepL w G (v :: vs) (c :: cs) [] := RepL.cons h k
theorem RepI.toL0 {w : World} {vs : List V} {cs : List Value} (h : RepI (immW w) vs cs) : RepL w (gh0 w) vs cs [] := RepI.toL h
end Go.Proofs.Ytneonbdlgmaofaa.Vm
