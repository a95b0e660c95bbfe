/-
Types that are made the same, part 9: a type's variables.
Types that are made the same, part 10: the program's places, renamed types.
Types that are made the same, part 11: renamed types, the plain part.
Types that are made the same, part 12: a renamed type is its own renamed form (plain).
UnifyRenames: the law, walked.
Types that are made the same, part 14: types as a law is handed them.
-/
import Derived.Test.YtneonbdlgmaofaaB2
namespace Go.Proofs.Ytneonbdlgmaofaa.Vm
open Go
set_option linter.unusedSimpArgs false

mutual
def varsF : Ty → List Int → List Int
  | .mk k n _ xs, l => if k = 1 then (if n ∈ l then l else l ++ [n]) else varsL xs l
def varsL : List Ty → List Int → List Int
  | [], l => l
  | a :: xs, l => varsL xs (varsF a l)
end
theorem varsL_app : ∀ {a b : List Ty} {l : List Int}, varsL (a ++ b) l = varsL b (varsL a l)
  | [], b, l => by simp [varsL]
  | x :: a, b, l => by rw [List.cons_append, varsL, varsL, varsL_app]
theorem varsL_push {xs : List Ty} {i : Nat} {a : Ty} {l : List Int} (h : xs[i]? = some a) : varsL (xs.take (i + 1)) l = varsF a (varsL (xs.take i) l) := by
  rw [List.take_add_one, h, varsL_app]; simp [varsL]
mutual
theorem varsF_len : ∀ (t : Ty) (l : List Int), (varsF t l).length ≤ l.length + tySize t
  | .mk k n s xs, l => by
    have := varsL_len xs l
    rw [varsF, tySize]
    split
    · split
      · omega
      · simp
    · omega
theorem varsL_len : ∀ (xs : List Ty) (l : List Int), (varsL xs l).length ≤ l.length + tysSize xs
  | [], l => by simp [varsL]
  | a :: xs, l => by
    have h1 := varsF_len a l
    have h2 := varsL_len xs (varsF a l)
    rw [varsL, tysSize]; omega
end
theorem int_push {l : List Int} {i : Nat} {a : Int} (h : l[i]? = some a) : List.map (fun n => [V.int .i64 n]) (List.take i l) ++ [[V.int .i64 a]] = List.map (fun n => [V.int .i64 n]) (List.take (i + 1) l) := by
  rw [List.take_add_one, h]; simp only [List.map_append]; rfl
theorem not_mem_of {l : List Int} {n : Int} (h : ∀ j < l.length, l[j]? ≠ some n) : n ∉ l := by
  intro hm
  obtain ⟨j, hj⟩ := List.mem_iff_getElem?.1 hm
  exact h j (List.getElem?_eq_some_iff.1 hj).1 hj
@[go_sem] theorem fin0_ints {H : Heap} {R : V → Prop} {o : Bool} {l : List Int} : fin0 H (intsV o l) R = R (intsV o l) := fin0_sl

theorem refVars_T (t : Ty) : Bd t → ∀ (l : List Int), l.length + tySize t ≤ 1000000000 → ∀ (o o1 : Bool), ∃ o', T Try.prog 23 [tyV o t, intsV o1 l] [] (intsV o' (varsF t l)) [] := by
  induction t using Ty.ind with
  | h k n s xs ih =>
    intro hb l hl o o1
    have key : ∀ R : V → Prop, (∀ o', R (intsV o' (varsF (Ty.mk k n s xs) l))) → ∃ r, T Try.prog 23 [tyV o (Ty.mk k n s xs), intsV o1 l] [] r [] ∧ R r := by
      intro R hR
      rw [tySize] at hl
      refine T.of0x mix c23 rfl ?_
      unfold v23
      simp only [tyV, tyO, Ty.k, Ty.n, Ty.s, Ty.as, intsV, go_sem, ↓reduceIte]
      by_cases hk : k = 1
      · subst hk
        refine ⟨fun _ => ?_, fun h => by simp at h⟩
        refine WP.loop' (fun m E H' => ∃ (i : Nat) (ex : List (Nat × V)), i + m = l.length ∧ (∀ j < i, l[j]? ≠ some n) ∧
          H' = [Obj.cells 0 [.int .i64 1, .int .i64 n, .str s, .sl o 4 (xs.map tyC)]] ∧
          E = ⟨(1, intsV o1 l) :: (2, .ptr 0 0 0) :: (5, .int .i64 i) :: ex, .u⟩) (n := l.length) ⟨0, _, by omega, fun j hj => by omega, rfl, rfl⟩ ?_
        rintro m E H' ⟨i, ex, hi, hno, rfl, rfl⟩
        have hw := inc64 (i := i) (by omega)
        simp only [intsV, go_sem, ↓reduceIte, ↓ex_map, ↓run_addW, hw, Int.toNat_natCast]
        refine ⟨fun hlt => ?_, fun hge => ?_⟩
        · have hix : i < l.length := by omega
          refine ⟨by omega, _, List.getElem?_eq_getElem hix, fun he => ?_, fun he => ⟨m - 1, by omega, i + 1, _, by omega, fun j hj => ?_, rfl⟩⟩
          · have := hR o1
            rw [varsF, if_pos rfl, if_pos (by simp at he; rw [← he]; exact List.getElem_mem hix)] at this
            exact this
          · by_cases hj' : j < i
            · exact hno j hj'
            · have : j = i := by omega
              subst this
              rw [List.getElem?_eq_getElem hix]
              simp at he ⊢; exact he
        · refine WP.loop' (fun m E H' => ∃ (i : Nat) (ex : List (Nat × V)), i + m = l.length ∧
            H' = [Obj.cells 0 [.int .i64 1, .int .i64 n, .str s, .sl o 4 (xs.map tyC)]] ∧
            E = ⟨(1, intsV o1 l) :: (2, .ptr 0 0 0) :: (6, intsV true (l.take i)) :: (7, .int .i64 i) :: ex, .u⟩) (n := l.length) ⟨0, _, by omega, rfl, rfl⟩ ?_
          rintro m E H' ⟨i, ex, hi', rfl, rfl⟩
          have hw := inc64 (i := i) (by omega)
          simp only [intsV, go_sem, ↓reduceIte, ↓ex_map, ↓run_addW, hw, Int.toNat_natCast]
          refine ⟨fun hlt => ?_, fun hge => ?_⟩
          · have hix : i < l.length := by omega
            have hg := List.getElem?_eq_getElem hix
            have hfit : fits (i + 1) 8 := ⟨by omega, by omega⟩
            have hmin : min i l.length = i := by omega
            refine ⟨by omega, _, hg, ?_⟩
            have hpush := int_push hg
            simp only [List.length_take, hmin, hfit, hpush, true_and]
            exact ⟨m - 1, by omega, i + 1, _, by omega, rfl⟩
          · rw [List.take_of_length_le (by omega)]
            have hfit : fits (l.length + 1) 8 := ⟨by omega, by omega⟩
            have := hR true
            rw [varsF, if_pos rfl, if_neg (not_mem_of fun j hj => hno j (by omega))] at this
            rw [intsV, List.map_append] at this
            exact ⟨hfit, this⟩
      · refine ⟨fun h => by simp at h; exact absurd h hk, fun _ => ?_⟩
        refine WP.loop' (fun m E H' => ∃ (i : Nat) (oi : Bool) (ex : List (Nat × V)), i + m = xs.length ∧
          H' = [Obj.cells 0 [.int .i64 k, .int .i64 n, .str s, .sl o 4 (xs.map tyC)]] ∧
          E = ⟨(1, intsV oi (varsL (xs.take i) l)) :: (2, .ptr 0 0 0) :: (8, .int .i64 i) :: ex, .u⟩) (n := xs.length) ⟨0, o1, _, by omega, rfl, rfl⟩ ?_
        rintro m E H' ⟨i, oi, ex, hi, rfl, rfl⟩
        have hw := inc64 (i := i) (by have := hb.len; omega)
        simp only [intsV, go_sem, ↓reduceIte, ↓ex_map, ↓run_addW, hw, Int.toNat_natCast]
        refine ⟨fun hlt => ?_, fun hge => ?_⟩
        · have hix : i < xs.length := by omega
          have hg := List.getElem?_eq_getElem hix
          have hp := tysSize_push hg
          have h1 := varsL_len (xs.take i) l
          have h2 := tysSize_take xs (i + 1)
          obtain ⟨o', hT⟩ := ih _ (List.getElem_mem hix) (hb.arg _ (List.getElem_mem hix)) (varsL (xs.take i) l) (by omega) false oi
          rw [← tyC_agg] at hT
          refine ⟨by omega, _, hg, _, _, hT.frame (by rw [tyC_agg]; rfl) _, ?_⟩
          rw [← varsL_push hg]
          simp only [intsV, go_sem, ↓reduceIte, ↓run_addW, hw]
          exact ⟨m - 1, by omega, i + 1, o', _, by omega, rfl⟩
        · have := hR oi
          rw [varsF, if_neg hk] at this
          rw [List.take_of_length_le (by omega)]
          exact this
    obtain ⟨r, hT, o', rfl⟩ := key (fun r => ∃ o', r = intsV o' (varsF (Ty.mk k n s xs) l)) fun o' => ⟨o', rfl⟩
    exact ⟨o', hT⟩

theorem has_T (l : List Int) (hl : l.length ≤ 1000000000) (n : Int) (o : Bool) : T Try.prog 42 [intsV o l, .int .i64 n] [] (.bool (decide (n ∈ l))) [] := by
  refine T.of0 mix c42 rfl ?_
  unfold v42
  simp only [intsV, go_sem, ↓reduceIte]
  refine WP.loop' (fun m E H' => ∃ (i : Nat) (ex : List (Nat × V)), i + m = l.length ∧ (∀ j < i, l[j]? ≠ some n) ∧
    E = ⟨(1, .int .i64 n) :: (7, intsV o l) :: (8, .int .i64 l.length) :: (9, .int .i64 i) :: ex, .u⟩) (n := l.length) ⟨0, _, by omega, fun j hj => by omega, rfl⟩ ?_
  rintro m E H' ⟨i, ex, hi, hno, rfl⟩
  have hw := inc64 (i := i) (by omega)
  simp only [intsV, go_sem, ↓reduceIte, ↓ex_map, ↓run_addW, hw, Int.toNat_natCast]
  refine ⟨fun hlt => ?_, fun hge => ?_⟩
  · have hix : i < l.length := by omega
    refine ⟨by omega, _, List.getElem?_eq_getElem hix, fun he => ?_, fun he => ⟨m - 1, by omega, i + 1, _, by omega, fun j hj => ?_, rfl⟩⟩
    · simp at he
      rw [decide_eq_true]
      rw [← he]; exact List.getElem_mem hix
    · by_cases hj' : j < i
      · exact hno j hj'
      · have : j = i := by omega
        subst this
        rw [List.getElem?_eq_getElem hix]
        simp at he ⊢; exact he
  · rw [decide_eq_false]
    exact not_mem_of fun j hj => hno j (by omega)

theorem vars_T (t : Ty) : Bd t → Rt t → ∀ (l : List Int), l.length + tySize t ≤ 1000000000 → ∀ o : Bool, T Try.prog 38 [tyV o t, intsV true l] [] (intsV true (varsF t l)) [] := by
  induction t using Ty.ind with
  | h k n s xs ih =>
    intro hb hr l hl o
    have key : ∀ R : V → Prop, (R (intsV true (varsF (Ty.mk k n s xs) l))) → ∃ r, T Try.prog 38 [tyV o (Ty.mk k n s xs), intsV true l] [] r [] ∧ R r := by
      intro R hR
      rw [tySize] at hl
      refine T.of0x mix c38 rfl ?_
      unfold v38
      simp only [tyV, tyO, Ty.k, Ty.n, Ty.s, Ty.as, intsV, go_sem, ↓reduceIte]
      by_cases hk : k = 1
      · have hx : xs = [] := by
          cases hr with
          | var => rfl
          | con => cases hk
          | fn => cases hk
        subst hk hx
        refine ⟨fun _ => ⟨_, _, (has_T l (by omega) n false).frame rfl _, ?_⟩, fun h => by simp at h⟩
        have hfit : fits (l.length + 1) 8 := ⟨by omega, by omega⟩
        simp only [go_sem, ↓reduceIte]
        rw [varsF, if_pos rfl] at hR
        refine ⟨fun h => ⟨hfit, ?_⟩, fun h => ?_⟩
        · rw [if_neg (by simpa using h), intsV, List.map_append] at hR
          refine WP.loop' (fun m E H' => E = ⟨[(1, .sl true 1 (List.map (fun n => [V.int .i64 n]) l ++ [[.int .i64 n]])), (23, .sl false 4 []), (24, .int .i64 0), (25, .int .i64 0)], .u⟩) (n := 0) rfl ?_
          rintro m E H' rfl
          simp only [go_sem, ↓reduceIte]
          exact ⟨fun h => absurd h (by omega), fun _ => hR⟩
        · rw [if_pos (by simpa using h), intsV] at hR
          refine WP.loop' (fun m E H' => E = ⟨[(1, .sl true 1 (List.map (fun n => [V.int .i64 n]) l)), (23, .sl false 4 []), (24, .int .i64 0), (25, .int .i64 0)], .u⟩) (n := 0) rfl ?_
          rintro m E H' rfl
          simp only [go_sem, ↓reduceIte]
          exact ⟨fun h => absurd h (by omega), fun _ => hR⟩
      · refine ⟨fun h => by simp at h; exact absurd h hk, fun _ => ?_⟩
        refine WP.loop' (fun m E H' => ∃ (i : Nat) (ex : List (Nat × V)), i + m = xs.length ∧
          E = ⟨(1, intsV true (varsL (xs.take i) l)) :: (23, .sl false 4 (xs.map tyC)) :: (24, .int .i64 xs.length) :: (25, .int .i64 i) :: ex, .u⟩) (n := xs.length) ⟨0, _, by omega, rfl⟩ ?_
        rintro m E H' ⟨i, ex, hi, rfl⟩
        have hw := inc64 (i := i) (by have := hb.len; omega)
        simp only [intsV, go_sem, ↓reduceIte, ↓ex_map, ↓run_addW, hw, Int.toNat_natCast]
        refine ⟨fun hlt => ?_, fun hge => ?_⟩
        · have hix : i < xs.length := by omega
          have hg := List.getElem?_eq_getElem hix
          have hp := tysSize_push hg
          have h1 := varsL_len (xs.take i) l
          have h2 := tysSize_take xs (i + 1)
          have hT := ih _ (List.getElem_mem hix) (hb.arg _ (List.getElem_mem hix)) (hr.args _ (List.getElem_mem hix)) (varsL (xs.take i) l) (by omega) false
          rw [← tyC_agg] at hT
          refine ⟨by omega, _, hg, _, _, hT.frame (by rw [tyC_agg]; rfl) _, ?_⟩
          rw [← varsL_push hg]
          simp only [intsV, go_sem, ↓reduceIte, ↓run_addW, hw]
          exact ⟨m - 1, by omega, i + 1, _, by omega, rfl⟩
        · have := hR
          rw [varsF, if_neg hk] at this
          rw [List.take_of_length_le (by omega)]
          exact this
    obtain ⟨r, hT, rfl⟩ := key (fun r => r = intsV true (varsF (Ty.mk k n s xs) l)) rfl
    exact hT
theorem Vars_T (t : Ty) (hb : Bd t) (hr : Rt t) (hl : tySize t ≤ 1000000000) (o : Bool) : T Try.prog 34 [tyV o t] [] (intsV true (varsF t [])) [] := by
  obtain ⟨k, n, s, xs⟩ := t
  refine T.of0 mix c34 rfl ?_
  unfold v34
  have h1 := right_T _ hb false
  have h2 := vars_T _ hb hr [] (by simpa using hl) o
  rw [(right_iff _).2 hr] at h1
  have e : intsV true [] = .sl true 1 [] := rfl
  rw [e] at h2
  simp only [tyV, tyO, Ty.k, Ty.n, Ty.s, Ty.as, go_sem, ↓reduceIte] at h1 h2 ⊢
  refine ⟨_, _, h1.frame rfl _, ?_⟩
  simp only [go_sem, ↓reduceIte]
  refine ⟨_, _, h2.frame rfl _, ?_⟩
  simp only [intsV, go_sem, ↓reduceIte]
end Go.Proofs.Ytneonbdlgmaofaa.Vm
namespace Go.Proofs.Ytneonbdlgmaofaa.Vm
open Go
set_option linter.unusedSimpArgs false

@[go_sem] theorem tyO_len {o : Bool} {a : Ty} : (tyO o a).length = 4 := rfl
@[go_sem] theorem tyO_take {o : Bool} {a : Ty} : List.take 4 (tyO o a) = tyO o a := rfl
@[go_sem] theorem tyO_drop0 {o : Bool} {a : Ty} : List.drop 0 (tyO o a) = tyO o a := rfl
@[go_sem] theorem tyO_strip {o : Bool} {a : Ty} : List.map strip0 (tyO o a) = tyO false a := rfl
@[go_sem] theorem put_tyO {a b c d : V} {o : Bool} {t : Ty} : put [a, b, c, d] 0 (tyO o t) = tyO o t := rfl
@[go_sem] theorem put_tyOO {o o' : Bool} {t u : Ty} : put (tyO o t) 0 (tyO o' u) = tyO o' u := rfl
@[go_sem] theorem agg_tyO {o : Bool} {t : Ty} : V.agg (tyO o t) = tyV o t := rfl
@[go_sem] theorem store_tyV {P : Program} {K : KK} {s : List Fr} {E : En} {H : Heap} {tk : List Nat} {dst : Option Nat} {os : List VOp} {keep : List Nat} {id ver off : Nat} {o : Bool} {t : Ty} :
    runAct P (.store 4) [.ptr id ver off, tyV o t] tk dst os keep s E H K = storeA P (getCells H id ver) id ver off (tyO o t) tk dst os keep s E H K :=
  store_agg (tyO_plain _ _) rfl

theorem subst_T (vs : List Int) (ws : List Ty) (hv : vs.length ≤ 1000000000) (hws : ∀ w ∈ ws, Bd w) (t : Ty) : Bd t → ∀ (o o1 o2 : Bool), ∃ o', T Try.prog 39 [tyV o t, intsV o1 vs, tysV o2 ws] [] (tyV o' (subF vs ws t)) [] := by
  induction t using Ty.ind with
  | h k n s xs ih =>
    intro hb o o1 o2
    have key : ∀ R : V → Prop, (∀ o', R (tyV o' (subF vs ws (Ty.mk k n s xs)))) → ∃ r, T Try.prog 39 [tyV o (Ty.mk k n s xs), intsV o1 vs, tysV o2 ws] [] r [] ∧ R r := by
      intro R hR
      refine T.of0x mix c39 rfl ?_
      unfold v39
      simp only [tyV, tyO, Ty.k, Ty.n, Ty.s, Ty.as, intsV, tysV, go_sem, ↓reduceIte]
      by_cases hk : k = 1
      · subst hk
        refine ⟨fun _ => ?_, fun h => by simp at h⟩
        refine WP.loop' (fun m E H' => ∃ (i : Nat) (ex : List (Nat × V)), i + m = vs.length ∧ (∀ j < i, vs[j]? ≠ some n) ∧
          H' = [Obj.cells 0 [.int .i64 1, .int .i64 n, .str s, .sl o 4 (xs.map tyC)], Obj.cells 0 [.int .i64 0, .int .i64 0, .str [], .sl true 4 []]] ∧
          E = ⟨(2, tysV o2 ws) :: (3, .ptr 0 0 0) :: (6, .ptr 1 0 0) :: (15, intsV o1 vs) :: (16, .int .i64 vs.length) :: (17, .int .i64 i) :: ex, .u⟩) (n := vs.length) ⟨0, _, by omega, fun j hj => by omega, rfl, rfl⟩ ?_
        rintro m E H' ⟨i, ex, hi, hno, rfl, rfl⟩
        have hw := inc64 (i := i) (by omega)
        simp only [intsV, tysV, go_sem, ↓reduceIte, ↓ex_map, ↓run_addW, hw, Int.toNat_natCast]
        have hdone : (∀ j < vs.length, vs[j]? ≠ some n) → subF vs ws (Ty.mk 1 n s xs) = Ty.mk 1 n s xs := by
          intro h; rw [subF, if_pos rfl, atV_none h]
        refine ⟨fun hlt => ?_, fun hge => ?_⟩
        · have hix : i < vs.length := by omega
          have hstep : ∀ (he : (vs[i] == n) = false), ∀ j < i + 1, ¬ vs[j]? = some n := by
            intro he j hj
            by_cases hj' : j < i
            · exact hno j hj'
            · have : j = i := by omega
              subst this
              rw [List.getElem?_eq_getElem hix]
              simp at he ⊢; exact he
          refine ⟨by omega, _, List.getElem?_eq_getElem hix, fun he => ?_, fun he => ⟨fun he' => (by rw [he] at he'; cases he'), fun _ => ⟨m - 1, by omega, i + 1, _, by omega, hstep he, rfl⟩⟩⟩
          have hv' : vs[i]? = some n := by rw [List.getElem?_eq_getElem hix]; simp at he; rw [he]
          refine ⟨fun hlw => ?_, fun hlw => ⟨fun _ => ?_, fun he' => (by rw [he] at he'; cases he')⟩⟩
          · have hiw : i < ws.length := by omega
            have hgw := List.getElem?_eq_getElem hiw
            obtain ⟨o', hT⟩ := copied_T ws[i] (hws _ (List.getElem_mem hiw)) false
            refine ⟨by omega, _, hgw, _, _, hT.ty _, ?_⟩
            simp only [go_sem, ↓reduceIte]
            have := hR o'
            rw [subF, if_pos rfl, atV_at hno hv', hgw] at this
            exact this
          · have := hR o
            rw [subF, if_pos rfl, atV_at hno hv', List.getElem?_eq_none (by omega)] at this
            exact this
        · have := hR o
          rw [hdone (fun j hj => hno j (by omega))] at this
          exact this
      · refine ⟨fun h => by simp at h; exact absurd h hk, fun _ => ?_⟩
        refine WP.loop' (fun m E H' => ∃ (i : Nat) (rest : Heap) (ex : List (Nat × V)), i + m = xs.length ∧
          H' = Obj.cells 0 [.int .i64 k, .int .i64 n, .str s, .sl o 4 (xs.map tyC)] :: Obj.cells 0 [.int .i64 0, .int .i64 0, .str [], .sl true 4 []] :: Obj.cells 0 [.int .i64 k, .int .i64 0, .str s, .sl true 4 (((xs.take i).map (subF vs ws)).map tyC)] :: rest ∧
          E = ⟨(1, intsV o1 vs) :: (2, tysV o2 ws) :: (6, .ptr 1 0 0) :: (9, .ptr 2 0 0) :: (50, .sl false 4 (xs.map tyC)) :: (51, .int .i64 xs.length) :: (52, .int .i64 i) :: ex, .u⟩) (n := xs.length) ⟨0, [], _, by omega, rfl, rfl⟩ ?_
        rintro m E H' ⟨i, rest, ex, hi, rfl, rfl⟩
        have hw := inc64 (i := i) (by have := hb.len; omega)
        simp only [intsV, tysV, go_sem, ↓reduceIte, ↓ex_map, ↓run_addW, hw, Int.toNat_natCast]
        refine ⟨fun hlt => ?_, fun hge => ?_⟩
        · have hix : i < xs.length := by omega
          have hg := List.getElem?_eq_getElem hix
          obtain ⟨o', hT⟩ := ih _ (List.getElem_mem hix) (hb.arg _ (List.getElem_mem hix)) false false false
          rw [← tyC_agg] at hT
          refine ⟨by omega, _, hg, _, hT, by rw [tyC_agg]; rfl, ?_⟩
          have hfit : fits (i + 1) 56 := ⟨by have := hb.len; omega, by have := hb.len; omega⟩
          have hmin : min i xs.length = i := by omega
          have hpush := ty_push (subF vs ws) hg
          simp only [go_sem, ↓reduceIte, ↓run_addW, hw, List.length_take, hmin, hfit, hpush]
          exact ⟨m - 1, by omega, i + 1, _, _, by omega, rfl, rfl⟩
        · have := hR true
          rw [subF, if_neg hk, subL_eq] at this
          rw [List.take_of_length_le (by omega)]
          exact this
    obtain ⟨r, hT, o', rfl⟩ := key (fun r => ∃ o', r = tyV o' (subF vs ws (Ty.mk k n s xs))) fun o' => ⟨o', rfl⟩
    exact ⟨o', hT⟩
theorem Subst_T (vs : List Int) (ws : List Ty) (hv : vs.length ≤ 1000000000) (hws : ∀ w ∈ ws, Bd w) (t : Ty) (hb : Bd t) (hr : Rt t) (o o1 o2 : Bool) : ∃ o', T Try.prog 35 [tyV o t, intsV o1 vs, tysV o2 ws] [] (tyV o' (subF vs ws t)) [] := by
  have key : ∀ R : V → Prop, (∀ o', R (tyV o' (subF vs ws t))) → ∃ r, T Try.prog 35 [tyV o t, intsV o1 vs, tysV o2 ws] [] r [] ∧ R r := by
    intro R hR
    obtain ⟨k, n, s, xs⟩ := t
    refine T.of0x mix c35 rfl ?_
    unfold v35
    have h1 := right_T _ hb false
    obtain ⟨o', h2⟩ := subst_T vs ws hv hws _ hb o o1 o2
    rw [(right_iff _).2 hr] at h1
    generalize hX : subF vs ws (Ty.mk k n s xs) = X at h2 hR
    generalize hX : tyV o' X = Y at h2
    simp only [tyV, tyO, Ty.k, Ty.n, Ty.s, Ty.as, intsV, tysV, go_sem, ↓reduceIte] at h1 h2 ⊢
    subst hX
    refine ⟨_, _, h1.frame rfl _, ?_⟩
    simp only [go_sem, ↓reduceIte]
    refine ⟨_, _, h2.frame rfl _, ?_⟩
    simp only [go_sem, ↓reduceIte]
    exact hR _
  obtain ⟨r, hT, o', rfl⟩ := key (fun r => ∃ o', r = tyV o' (subF vs ws t)) fun o' => ⟨o', rfl⟩
  exact ⟨o', hT⟩
theorem var_T (n : Int) : ∃ o', T Try.prog 33 [.int .i64 n] [] (tyV o' (vr n)) [] := by
  have key : ∀ R : V → Prop, (∀ o', R (tyV o' (vr n))) → ∃ r, T Try.prog 33 [.int .i64 n] [] r [] ∧ R r := by
    intro R hR
    refine T.of0x mix c33 rfl ?_
    unfold v33
    simp only [go_sem, ↓reduceIte]
    exact hR _
  obtain ⟨r, hT, o', rfl⟩ := key (fun r => ∃ o', r = tyV o' (vr n)) fun o' => ⟨o', rfl⟩
  exact ⟨o', hT⟩
theorem refVar_T (n : Int) : ∃ o', T Try.prog 22 [.int .i64 n] [] (tyV o' (vr n)) [] := by
  have key : ∀ R : V → Prop, (∀ o', R (tyV o' (vr n))) → ∃ r, T Try.prog 22 [.int .i64 n] [] r [] ∧ R r := by
    intro R hR
    refine T.of0x mix c22 rfl ?_
    unfold v22
    simp only [go_sem, ↓reduceIte]
    exact hR _
  obtain ⟨r, hT, o', rfl⟩ := key (fun r => ∃ o', r = tyV o' (vr n)) fun o' => ⟨o', rfl⟩
  exact ⟨o', hT⟩
end Go.Proofs.Ytneonbdlgmaofaa.Vm
namespace Go.Proofs.Ytneonbdlgmaofaa.Vm
open Go
set_option linter.unusedSimpArgs false

def ix : List Int → Int → Nat
  | [], _ => 0
  | a :: l, v => if a = v then 0 else ix l v + 1
theorem ix_get : ∀ {l : List Int} {v : Int}, v ∈ l → l[ix l v]? = some v
  | a :: l, v, h => by
    unfold ix
    split
    · rename_i e; subst e; rfl
    · rename_i e
      rcases List.mem_cons.1 h with rfl | h
      · exact absurd rfl e
      · simpa using ix_get h
theorem ix_lt {l : List Int} {v : Int} (h : v ∈ l) : ix l v < l.length := (List.getElem?_eq_some_iff.1 (ix_get h)).1
theorem ix_inj {l : List Int} {v w : Int} (hv : v ∈ l) (hw : w ∈ l) (h : ix l v = ix l w) : v = w := by
  have h1 := ix_get hv
  rw [h, ix_get hw] at h1
  exact (Option.some.inj h1).symm
theorem ix_map {f : Int → Int} : ∀ {l : List Int} {v : Int}, v ∈ l → (∀ a ∈ l, ∀ b ∈ l, f a = f b → a = b) → ix (l.map f) (f v) = ix l v
  | a :: l, v, h, hi => by
    rw [List.map_cons]
    unfold ix
    by_cases e : a = v
    · subst e; simp
    · have hm : v ∈ l := by
        rcases List.mem_cons.1 h with rfl | h
        · exact absurd rfl e
        · exact h
      have : f a ≠ f v := fun e2 => e (hi a (List.mem_cons_self ..) v h e2)
      rw [if_neg this, if_neg e, ix_map hm fun a ha b hb => hi a (List.mem_cons_of_mem _ ha) b (List.mem_cons_of_mem _ hb)]
mutual
def mapT (f : Int → Int) : Ty → Ty
  | .mk k n s xs => if k = 1 then .mk k (f n) s xs else .mk k n s (mapL f xs)
def mapL (f : Int → Int) : List Ty → List Ty
  | [] => []
  | a :: xs => mapT f a :: mapL f xs
end
theorem mapL_eq (f : Int → Int) : ∀ l : List Ty, mapL f l = l.map (mapT f)
  | [] => rfl
  | a :: l => by rw [mapL, mapL_eq f l]; rfl
theorem Occ.args {v : Int} {k n : Int} {s : List UInt8} {xs : List Ty} (hk : k ≠ 1) : Occ v (.mk k n s xs) ↔ ∃ a ∈ xs, Occ v a := by
  constructor
  · intro h
    cases h with
    | var => exact absurd rfl hk
    | arg _ ha h => exact ⟨_, ha, h⟩
  · rintro ⟨a, ha, h⟩; exact .arg hk ha h
mutual
theorem mapT_size (f : Int → Int) : ∀ t : Ty, tySize (mapT f t) = tySize t
  | .mk k n s xs => by
    rw [mapT]
    split
    · rw [tySize, tySize]
    · rw [tySize, tySize, mapL_size f xs]
theorem mapL_size (f : Int → Int) : ∀ l : List Ty, tysSize (mapL f l) = tysSize l
  | [] => rfl
  | a :: l => by rw [mapL, tysSize, tysSize, mapT_size f a, mapL_size f l]
end
theorem mapT_bd (f : Int → Int) (t : Ty) : Bd t → Bd (mapT f t) := by
  induction t using Ty.ind with
  | h k n s xs ih =>
    intro hb
    rw [mapT]
    split
    · exact .mk hb.len hb.arg
    · rw [mapL_eq]
      refine .mk (by rw [List.length_map]; exact hb.len) fun a ha => ?_
      obtain ⟨b, hb', rfl⟩ := List.mem_map.1 ha
      exact ih b hb' (hb.arg b hb')
theorem mapT_rt (f : Int → Int) (t : Ty) : Rt t → (∀ v, Occ v t → 0 ≤ f v ∧ f v ≤ 1073741824) → Rt (mapT f t) := by
  induction t using Ty.ind with
  | h k n s xs ih =>
    intro hr hf
    rw [mapT]
    cases hr with
    | var h0 h1 =>
      rw [if_pos rfl]
      have := hf n (.var rfl)
      exact .var this.1 this.2
    | con hs h =>
      rw [if_neg (by omega), mapL_eq]
      refine .con hs fun a ha => ?_
      obtain ⟨b, hb, rfl⟩ := List.mem_map.1 ha
      exact ih b hb (h b hb) fun v hv => hf v (.arg (by omega) hb hv)
    | fn hl h =>
      rw [if_neg (by omega), mapL_eq]
      refine .fn (by rw [List.length_map]; exact hl) fun a ha => ?_
      obtain ⟨b, hb, rfl⟩ := List.mem_map.1 ha
      exact ih b hb (h b hb) fun v hv => hf v (.arg (by omega) hb hv)
theorem mapT_congr {f g : Int → Int} (t : Ty) : (∀ v, Occ v t → f v = g v) → mapT f t = mapT g t := by
  induction t using Ty.ind with
  | h k n s xs ih =>
    intro h
    rw [mapT, mapT]
    split
    · rename_i hk; subst hk; rw [h n (.var rfl)]
    · rename_i hk
      rw [mapL_eq, mapL_eq]
      congr 1
      exact List.map_congr_left fun a ha => ih a ha fun v hv => h v (.arg hk ha hv)
theorem mapT_comp {f g : Int → Int} (t : Ty) : mapT g (mapT f t) = mapT (fun v => g (f v)) t := by
  induction t using Ty.ind with
  | h k n s xs ih =>
    rw [mapT]
    conv => rhs; rw [mapT]
    split
    · rename_i hk; rw [mapT, if_pos hk]
    · rename_i hk
      rw [mapT, if_neg hk, mapL_eq, mapL_eq, mapL_eq, List.map_map]
      congr 1
      exact List.map_congr_left fun a ha => ih a ha
mutual
theorem mem_vars : ∀ (t : Ty) (l : List Int) (v : Int), v ∈ varsF t l ↔ v ∈ l ∨ Occ v t
  | .mk k n s xs, l, v => by
    rw [varsF]
    by_cases hk : k = 1
    · subst hk
      rw [if_pos rfl, Occ.var_iff rfl]
      show _ ↔ v ∈ l ∨ n = v
      by_cases hm : n ∈ l
      · rw [if_pos hm]
        constructor
        · exact .inl
        · rintro (h | rfl)
          · exact h
          · exact hm
      · rw [if_neg hm, List.mem_append, List.mem_singleton]
        constructor <;> rintro (h | h) <;> first | exact .inl h | exact .inr h.symm
    · rw [if_neg hk, mem_varsL xs l v, Occ.args hk]
theorem mem_varsL : ∀ (xs : List Ty) (l : List Int) (v : Int), v ∈ varsL xs l ↔ v ∈ l ∨ ∃ a ∈ xs, Occ v a
  | [], l, v => by simp [varsL]
  | a :: xs, l, v => by
    rw [varsL, mem_varsL xs (varsF a l) v, mem_vars a l v]
    simp [or_assoc]
end
mutual
theorem vars_map (f : Int → Int) : ∀ (t : Ty) (l : List Int), (∀ a b, (a ∈ l ∨ Occ a t) → (b ∈ l ∨ Occ b t) → f a = f b → a = b) → varsF (mapT f t) (l.map f) = (varsF t l).map f
  | .mk k n s xs, l, h => by
    rw [mapT]
    by_cases hk : k = 1
    · subst hk
      rw [if_pos rfl, varsF, varsF, if_pos rfl, if_pos rfl]
      by_cases hm : n ∈ l
      · rw [if_pos hm, if_pos (List.mem_map_of_mem hm)]
      · rw [if_neg hm, if_neg, List.map_append]
        · rfl
        · intro hm2
          obtain ⟨a, ha, e⟩ := List.mem_map.1 hm2
          have := h a n (.inl ha) (.inr (.var rfl)) e
          subst this; exact hm ha
    · rw [if_neg hk, varsF, varsF, if_neg hk, if_neg hk]
      exact vars_mapL f xs l fun a b ha hb => h a b (ha.imp id (Occ.args hk).2) (hb.imp id (Occ.args hk).2)
theorem vars_mapL (f : Int → Int) : ∀ (xs : List Ty) (l : List Int), (∀ a b, (a ∈ l ∨ ∃ x ∈ xs, Occ a x) → (b ∈ l ∨ ∃ x ∈ xs, Occ b x) → f a = f b → a = b) → varsL (mapL f xs) (l.map f) = (varsL xs l).map f
  | [], l, h => rfl
  | x :: xs, l, h => by
    rw [mapL, varsL, varsL, vars_map f x l fun a b ha hb => h a b (ha.imp id fun h => ⟨x, List.mem_cons_self .., h⟩) (hb.imp id fun h => ⟨x, List.mem_cons_self .., h⟩)]
    refine vars_mapL f xs (varsF x l) fun a b ha hb => ?_
    have cv : ∀ a, (a ∈ varsF x l ∨ ∃ y ∈ xs, Occ a y) → (a ∈ l ∨ ∃ y ∈ x :: xs, Occ a y) := by
      rintro a (h | ⟨y, hy, h⟩)
      · rcases (mem_vars x l a).1 h with h | h
        · exact .inl h
        · exact .inr ⟨x, List.mem_cons_self .., h⟩
      · exact .inr ⟨y, List.mem_cons_of_mem _ hy, h⟩
    exact h a b (cv a ha) (cv b hb)
end
end Go.Proofs.Ytneonbdlgmaofaa.Vm
namespace Go.Proofs.Ytneonbdlgmaofaa.Vm
open Go
set_option linter.unusedSimpArgs false

def rowV (g : Nat → Int) (n : Nat) : List Ty := (List.range n).map fun i => vr (g i)
theorem rowV_get {g : Nat → Int} {n i : Nat} (h : i < n) : (rowV g n)[i]? = some (vr (g i)) := by
  simp [rowV, h]
theorem rowV_len {g : Nat → Int} {n : Nat} : (rowV g n).length = n := by simp [rowV]
theorem rowV_push {g : Nat → Int} {i : Nat} : (rowV g i).map tyC ++ [tyC (vr (g i))] = (rowV g (i + 1)).map tyC := by
  simp [rowV, List.range_succ]
theorem atV_ix : ∀ {l : List Int} {ws : List Ty} {v : Int}, v ∈ l → atV l ws v = ws[ix l v]?
  | a :: l, ws, v, h => by
    unfold atV ix
    split
    · cases ws <;> rfl
    · rename_i e
      have hm : v ∈ l := by
        rcases List.mem_cons.1 h with rfl | h
        · exact absurd rfl e
        · exact h
      rw [atV_ix hm]
      cases ws <;> simp
theorem sub_map {l : List Int} {g : Nat → Int} (t : Ty) : Rt t → (∀ v, Occ v t → v ∈ l) → subF l (rowV g l.length) t = mapT (fun v => g (ix l v)) t := by
  induction t using Ty.ind with
  | h k n s xs ih =>
    intro hr hm
    cases hr with
    | var h0 h1 =>
      have hn := hm n (.var rfl)
      rw [subF, mapT, if_pos rfl, if_pos rfl, atV_ix hn, rowV_get (ix_lt hn)]
      rfl
    | con hs h =>
      rw [subF, mapT, if_neg (by omega), if_neg (by omega), subL_eq, mapL_eq]
      congr 1
      exact List.map_congr_left fun a ha => ih a ha (h a ha) fun v hv => hm v (.arg (by omega) ha hv)
    | fn hl h =>
      rw [subF, mapT, if_neg (by omega), if_neg (by omega), subL_eq, mapL_eq]
      congr 1
      exact List.map_congr_left fun a ha => ih a ha (h a ha) fun v hv => hm v (.arg (by omega) ha hv)
def renF (t : Ty) : Ty := subF (varsF t []) (rowV (fun i => (i : Int)) (varsF t []).length) t
theorem occ_vars {t : Ty} {v : Int} : Occ v t → v ∈ varsF t [] := fun h => (mem_vars t [] v).2 (.inr h)
theorem vars_occ {t : Ty} {v : Int} (h : v ∈ varsF t []) : Occ v t := ((mem_vars t [] v).1 h).resolve_left (by simp)
theorem ren_map {t : Ty} (hr : Rt t) : renF t = mapT (fun v => (ix (varsF t []) v : Int)) t := sub_map t hr fun _ => occ_vars
theorem ren_same {t : Ty} (hr : Rt t) {f : Int → Int} (hf : ∀ v, Occ v t → 0 ≤ f v ∧ f v ≤ 1073741824) (hi : ∀ a b, Occ a t → Occ b t → f a = f b → a = b) : renF (mapT f t) = renF t := by
  have hv : varsF (mapT f t) [] = (varsF t []).map f := vars_map f t [] fun a b ha hb => hi a b (ha.resolve_left (by simp)) (hb.resolve_left (by simp))
  rw [ren_map (mapT_rt f t hr hf), mapT_comp, ren_map hr, hv]
  refine mapT_congr t fun v hv => ?_
  rw [ix_map (occ_vars hv) fun a ha b hb => hi a b (vars_occ ha) (vars_occ hb)]
theorem vars_small {t : Ty} {m : Nat} (h : tySize t ≤ m) : (varsF t []).length ≤ m := by
  have := varsF_len t []
  simp at this; omega
theorem ren_facts {t : Ty} (hr : Rt t) (hb : Bd t) (hs : tySize t ≤ 300) : Rt (renF t) ∧ Bd (renF t) ∧ tySize (renF t) ≤ 300 ∧ renF (renF t) = renF t := by
  have hl := vars_small hs
  have e := ren_map hr
  have hf : ∀ v, Occ v t → (0 : Int) ≤ (ix (varsF t []) v : Int) ∧ (ix (varsF t []) v : Int) ≤ 1073741824 := fun v hv => by
    have := ix_lt (occ_vars hv); omega
  refine ⟨by rw [e]; exact mapT_rt _ t hr hf, by rw [e]; exact mapT_bd _ t hb, by rw [e, mapT_size]; exact hs, ?_⟩
  conv => lhs; rw [e]
  exact ren_same hr hf fun a b ha hb h => ix_inj (occ_vars ha) (occ_vars hb) (by omega)
theorem sub_facts {t : Ty} (hr : Rt t) (hb : Bd t) (hs : tySize t ≤ 300) {by' : Int} (h0 : 0 ≤ by') (h1 : by' ≤ 1000) {u : Ty}
    (hu : u = subF (varsF t []) (rowV (fun i => by' + (varsF t []).length - i) (varsF t []).length) t) : Rt u ∧ Bd u ∧ tySize u ≤ 300 ∧ renF u = renF t := by
  have hl := vars_small hs
  have e := sub_map (l := varsF t []) (g := fun i => by' + (varsF t []).length - i) t hr fun v => occ_vars
  rw [← hu] at e
  have hf : ∀ v, Occ v t → (0 : Int) ≤ by' + (varsF t []).length - (ix (varsF t []) v : Int) ∧ by' + (varsF t []).length - (ix (varsF t []) v : Int) ≤ 1073741824 := fun v hv => by
    have := ix_lt (occ_vars hv); omega
  refine ⟨by rw [e]; exact mapT_rt _ t hr hf, by rw [e]; exact mapT_bd _ t hb, by rw [e, mapT_size]; exact hs, ?_⟩
  rw [e]
  exact ren_same hr hf fun a b ha hb h => ix_inj (occ_vars ha) (occ_vars hb) (by omega)
theorem bd_vr (n : Int) : Bd (vr n) := .mk (by simp) fun a h => by cases h
theorem bd_row {g : Nat → Int} {n : Nat} : ∀ w ∈ rowV g n, Bd w := by
  intro w hw
  obtain ⟨i, _, rfl⟩ := List.mem_map.1 hw
  exact bd_vr _

theorem rename_T (t : Ty) (hb : Bd t) (hr : Rt t) (hs : tySize t ≤ 1000000) (o : Bool) : ∃ o', T Try.prog 24 [tyV o t] [] (tyV o' (renF t)) [] := by
  have key : ∀ R : V → Prop, (∀ o', R (tyV o' (renF t))) → ∃ r, T Try.prog 24 [tyV o t] [] r [] ∧ R r := by
    intro R hR
    have hl := vars_small hs
    have h1 := Vars_T t hb hr (by omega) false
    have h2 := fun o1 o2 => Subst_T (varsF t []) (rowV (fun i => (i : Int)) (varsF t []).length) (by omega) bd_row t hb hr o o1 o2
    obtain ⟨k, n, s, xs⟩ := t
    refine T.of0x mix c24 rfl ?_
    unfold v24
    generalize hX : renF (Ty.mk k n s xs) = X at hR
    unfold renF at hX
    generalize varsF (Ty.mk k n s xs) [] = l at h1 h2 hX hl
    simp only [tyV, tyO, Ty.k, Ty.n, Ty.s, Ty.as, go_sem, ↓reduceIte] at h1 ⊢
    refine ⟨_, _, h1.frame rfl _, ?_⟩
    simp only [intsV, go_sem, ↓reduceIte]
    refine WP.loop' (fun m E H' => ∃ (i : Nat) (ex : List (Nat × V)), i + m = l.length ∧
      H' = [Obj.cells 0 [.int .i64 k, .int .i64 n, .str s, .sl o 4 (xs.map tyC)], Obj.cells 0 [.int .i64 0, .int .i64 0, .str [], .sl true 4 []]] ∧
      E = ⟨(1, .ptr 0 0 0) :: (2, .ptr 1 0 0) :: (3, intsV true l) :: (4, tysV true (rowV (fun i => (i : Int)) i)) :: (9, .int .i64 l.length) :: (10, .int .i64 i) :: ex, .u⟩) (n := l.length) ⟨0, _, by omega, rfl, rfl⟩ ?_
    rintro m E H' ⟨i, ex, hi, rfl, rfl⟩
    have hw := inc64 (i := i) (by omega)
    have hfit : fits (i + 1) 56 := ⟨by omega, by omega⟩
    simp only [intsV, tysV, go_sem, ↓reduceIte, ↓ex_map, ↓run_addW, hw, Int.toNat_natCast]
    refine ⟨fun hlt => ?_, fun hge => ?_⟩
    · obtain ⟨o', hT⟩ := var_T (i : Int)
      refine ⟨_, _, hT.frame rfl _, ?_⟩
      simp only [go_sem, ↓reduceIte, ↓run_addW, hw, rowV_len, hfit, rowV_push (g := fun i => (i : Int))]
      exact ⟨m - 1, by omega, i + 1, _, by omega, rfl⟩
    · have : i = l.length := by omega
      subst this
      obtain ⟨o', hT⟩ := h2 true true
      rw [hX] at hT
      refine ⟨_, _, hT.frame rfl _, ?_⟩
      simp only [go_sem, ↓reduceIte]
      exact hR _
  obtain ⟨r, hT, o', rfl⟩ := key (fun r => ∃ o', r = tyV o' (renF t)) fun o' => ⟨o', rfl⟩
  exact ⟨o', hT⟩
end Go.Proofs.Ytneonbdlgmaofaa.Vm
namespace Go.Proofs.Ytneonbdlgmaofaa.Vm
open Go
set_option linter.unusedSimpArgs false

section
variable {P : Program} {K : KK} {s : List Fr} {E : En} {H : Heap} {tk : List Nat} {dst : Option Nat} {os : List VOp} {keep : List Nat}
@[go_sem] theorem run_build0 {z : Nat} : runAct P (.buildSl z) [] tk dst os keep s E H K = runOps P os keep s ((stripEn tk E).setO dst (.sl true z [])) H K := by
  show (∃ r H', sBuildSl z [] H = some (r, H') ∧ _) = _
  apply propext
  constructor
  · rintro ⟨r, H', h, k⟩; cases h; exact k
  · intro k; exact ⟨_, _, rfl, k⟩
@[go_sem] theorem run_boxTy {o : Bool} {t : Ty} : runAct P .box [tyV o t] tk dst os keep s E H K = nextV P (.ptr H.length 0 0) tk dst os keep s E (H ++ [.cells 0 (tyO o t)]) K := by
  show runAct P .box [.agg (tyO o t)] tk dst os keep s E H K = _
  rw [run_box, thawL_all (tyO_plain o t)]
end
attribute [go_sem] tyC_agg
@[go_sem] theorem tyO_get0 {o : Bool} {t : Ty} : (tyO o t)[0]? = some (.int .i64 t.k) := rfl
@[go_sem] theorem tyO_get1 {o : Bool} {t : Ty} : (tyO o t)[1]? = some (.int .i64 t.n) := rfl
@[go_sem] theorem tyO_get2 {o : Bool} {t : Ty} : (tyO o t)[2]? = some (.str t.s) := rfl
@[go_sem] theorem tyO_get3 {o : Bool} {t : Ty} : (tyO o t)[3]? = some (.sl o 4 (t.as.map tyC)) := rfl
theorem szF_le {t : Ty} {m : Nat} (h : szF t m ≤ m) : tySize t ≤ m := by
  unfold szF at h; split at h <;> omega
theorem renames_T (t : Ty) (hb : Bd t) (by' : Int) (o : Bool) : T Try.prog 8 [tyV o t, .int .i64 by'] [] (.bool true) [] := by
  have hk := known_T
  have h1 := refRight_T t hb false
  have h2 := refSize_T t hb false 300 (by omega)
  refine T.of0 mix c8 rfl ?_
  unfold v8
  simp only [go_sem, ↓reduceIte]
  refine ⟨_, _, h1.frame rfl _, ?_⟩
  simp only [go_sem, ↓reduceIte]
  have hkn : ∀ H, ∃ r H', T Try.prog 10 [] H r H' ∧ strip r = .bool true := fun H => ⟨_, _, known_H H, rfl⟩
  refine ⟨fun hR => ?_, fun _ => ⟨_, _, known_H _, by simp only [go_sem, ↓reduceIte]⟩⟩
  have hr : Rt t := (right_iff t).1 (by simpa using hR)
  refine ⟨_, _, h2.frame rfl _, ?_⟩
  simp only [go_sem, ↓reduceIte]
  refine ⟨fun hS => ⟨fun hlo => ⟨fun hhi => ⟨_, _, known_H _, by simp only [go_sem, ↓reduceIte]⟩, fun hhi => ?_⟩, fun _ => ⟨_, _, known_H _, by simp only [go_sem, ↓reduceIte]⟩⟩, fun _ => ⟨_, _, known_H _, by simp only [go_sem, ↓reduceIte]⟩⟩
  have hs : tySize t ≤ 300 := szF_le (by omega)
  obtain ⟨o1, hv⟩ := refVars_T t hb [] (by simp; omega) false true
  have hl := vars_small hs
  refine ⟨_, _, hv.frame rfl _, ?_⟩
  obtain ⟨f1, f2, f3, f4⟩ := ren_facts hr hb hs
  obtain ⟨g1, g2, g3, g4⟩ := sub_facts hr hb hs (by' := by') (by omega) (by omega) rfl
  have hsub := fun (o o1 o2 : Bool) => refSubst_T (varsF t []) (rowV (fun i => by' + (varsF t []).length - i) (varsF t []).length) (by omega) t hb o o1 o2
  generalize hU : subF (varsF t []) (rowV (fun i => by' + (varsF t []).length - i) (varsF t []).length) t = U at g1 g2 g3 g4 hsub
  generalize hX : renF t = X at f1 f2 f3 f4 g4
  have hren := fun o => rename_T t hb hr (by omega) o
  rw [hX] at hren
  have hren2 := fun o => rename_T X f2 f1 (by omega) o
  rw [f4] at hren2
  have hren3 := fun o => rename_T U g2 g1 (by omega) o
  rw [g4] at hren3
  generalize varsF t [] = l at hl hv hU hsub
  refine WP.loop' (fun m E H' => ∃ (i : Nat) (ex : List (Nat × V)), i + m = l.length ∧ H' = [Obj.cells 0 (tyO o t)] ∧
    E = ⟨(1, .int .i64 by') :: (2, .ptr 0 0 0) :: (5, intsV o1 l) :: (6, tysV true (rowV (fun i => by' + l.length - i) i)) :: (7, .int .i64 i) :: ex, .u⟩) (n := l.length) ⟨0, _, by omega, rfl, rfl⟩ ?_
  rintro m E H' ⟨i, ex, hi, rfl, rfl⟩
  have hw := inc64 (i := i) (by omega)
  have hfit : fits (i + 1) 56 := ⟨by omega, by omega⟩
  simp only [intsV, tysV, go_sem, ↓reduceIte, ↓ex_map, ↓run_addW, ↓run_subW, hw, Int.toNat_natCast]
  refine ⟨fun hlt => ?_, fun hge => ?_⟩
  · rw [wrapn (n := by' + l.length) (by omega) (by omega), wrapn (n := by' + l.length - i) (by omega) (by omega)]
    obtain ⟨o', hT⟩ := refVar_T (by' + l.length - i)
    refine ⟨_, _, hT.frame rfl _, ?_⟩
    simp only [go_sem, ↓reduceIte, ↓run_addW, hw, rowV_len, hfit, rowV_push (g := fun i => by' + l.length - i)]
    exact ⟨m - 1, by omega, i + 1, _, by omega, rfl⟩
  · have : i = l.length := by omega
    subst this
    obtain ⟨o2, hT⟩ := hren false
    refine ⟨_, _, hT.frame rfl _, ?_⟩
    simp only [go_sem, ↓reduceIte]
    obtain ⟨o3, hT3⟩ := hsub o o1 true
    obtain ⟨o4, hT4⟩ := hren3 o3
    obtain ⟨o5, hT5⟩ := hren2 o2
    have hE := fun o o' => refSame_T X f2 X f2 o o'
    rw [(tyEq_iff X X).2 rfl] at hE
    refine ⟨_, hT3, rfl, _, hT4, rfl, _, hE false o4, rfl, ?_⟩
    simp only [go_sem, ↓reduceIte]
    refine ⟨_, hT5, rfl, _, hE false o5, rfl, ?_⟩
    simp only [go_sem, ↓reduceIte]
    refine ⟨_, hk, rfl, ?_⟩
    simp only [go_sem, ↓reduceIte]
theorem renames_Tc (t : Ty) (hb : Bd t) (by' : Int) : T Try.prog 8 [.agg (tyC t), .int .i64 by'] [] (.bool true) [] := by rw [tyC_agg]; exact renames_T t hb by' false
end Go.Proofs.Ytneonbdlgmaofaa.Vm
namespace Go.Proofs.Ytneonbdlgmaofaa.Vm
open Go Go.RowKit Go.WideShapes

theorem T.belowL {P : Program} {w : World} {f : Nat} {vs : List V} (h : T P f vs [] (.bool true) []) {cs : Array Value} (hr : RepL w (gh0 w) vs cs.toList []) : Calls P f cs w fun e w' => e = .returned (.bool true) ∧ Below w.heap.size w w' := by
  refine (h.2 w (gh0 w) (own0 w) cs [] (ok0 w) hr List.nodup_nil (fun _ h => by cases h)).mono ?_
  rintro e w' ⟨c, rfl, G', own', bl, _, h2, _, _, h5⟩
  obtain ⟨cs', hcs, _⟩ := h2.bool_inv
  obtain ⟨rfl, _⟩ := List.cons.inj hcs
  refine ⟨rfl, h5.os, h5.tape, h5.out, h5.size, fun k hk => ?_⟩
  exact (h5.fixed k (by simp only [own0, if_pos hk])).1

theorem under3 : Try.prog.underlying 3 = some (.int .i64) := by kernel_rfl
theorem under4 : Try.prog.underlying 4 = some .bool := by kernel_rfl
theorem under9 : Try.prog.underlying 9 = some .string := by kernel_rfl
theorem under27 : Try.prog.underlying 27 = some (.slice 29) := by kernel_rfl
theorem under22 : Try.prog.underlying 22 = some (.slice 34) := by kernel_rfl
noncomputable def tyFs : Array Field := match Try.prog.underlying 29 with | some (.struct fs) => fs | _ => #[]
noncomputable def prFs : Array Field := match Try.prog.underlying 34 with | some (.struct fs) => fs | _ => #[]
theorem under29 : Try.prog.underlying 29 = some (.struct tyFs) := by kernel_rfl
theorem under34 : Try.prog.underlying 34 = some (.struct prFs) := by kernel_rfl
theorem bytes29 : Try.prog.bytesOf 29 = 56 := by kernel_rfl
theorem bytes34 : Try.prog.bytesOf 34 = 112 := by kernel_rfl
theorem cells29 : Try.prog.cellsOf 29 = 4 := by kernel_rfl
theorem cells34 : Try.prog.cellsOf 34 = 8 := by kernel_rfl
theorem ty_types : tyFs.toList.map (·.type) = [3, 3, 9, 27] := by kernel_rfl
theorem pr_types : prFs.toList.map (·.type) = [29, 29] := by kernel_rfl
theorem ty_contig : contig Try.prog 0 tyFs.toList = some (Try.prog.cellsOf 29) := by kernel_rfl
theorem pr_contig : contig Try.prog 0 prFs.toList = some (Try.prog.cellsOf 34) := by kernel_rfl
theorem type_at {fs : List Field} {ts : List TypeId} (h : fs.map (·.type) = ts) {i : Nat} {f : Field} (hf : fs[i]? = some f) : ts[i]? = some f.type := by rw [← h, List.getElem?_map, hf]; rfl
theorem type_of {fs : List Field} {ts : List TypeId} (h : fs.map (·.type) = ts) {i : Nat} {t : TypeId} (ht : ts[i]? = some t) : ∃ f, fs[i]? = some f ∧ f.type = t := by
  rw [← h, List.getElem?_map] at ht
  obtain ⟨f, h1, h2⟩ := Option.map_eq_some_iff.1 ht
  exact ⟨f, h1, h2⟩
theorem list4 {α : Type} {l : List α} (h : l.length = 4) : ∃ a b c d, l = [a, b, c, d] := by
  match l, h with
  | [a, b, c, d], _ => exact ⟨a, b, c, d, rfl⟩

section
variable {w : World} {H : Type} {enc : TypeId × Value → H} {sp : Nat → Bool} {held : Bool}
abbrev qInt (k : IntKind) : DataW H → List V → Prop := fun _ vs => ∃ n : Int, vs = [.int k n]
abbrev qStr : DataW H → List V → Prop := fun _ vs => ∃ l : List UInt8, vs = [.str l]
theorem rdInt {t : TypeId} {k : IntKind} (hu : Try.prog.underlying t = some (.int k)) (fuel : Nat) : ReadsF Try.prog enc sp held w fuel t (qInt k) :=
  readsF_mono (reads_int hu fuel) fun _ _ ⟨n, _, _, h⟩ => ⟨n, h⟩
theorem rdStr {t : TypeId} (hu : Try.prog.underlying t = some .string) (fuel : Nat) : ReadsF Try.prog enc sp held w fuel t qStr :=
  readsF_mono (reads_str hu fuel) fun _ _ ⟨n, _, h⟩ => ⟨n, h⟩
abbrev qTy : DataW H → List V → Prop := fun d vs => Light Try.prog 29 d → ∃ t : Ty, vs = tyC t ∧ Bd t
abbrev qTys : DataW H → List V → Prop := fun d vs => Light Try.prog 27 d → ∃ l : List Ty, vs = [.sl false 4 (l.map tyC)] ∧ l.length * 56 ≤ 140737488355328 ∧ ∀ t ∈ l, Bd t
theorem rdTys {fuel : Nat} (h : ReadsF Try.prog enc sp held w fuel 29 qTy) : ReadsF Try.prog enc sp held w (fuel + 1) 27 qTys := by
  refine readsF_mono (readsF_slice under27 h) ?_
  rintro d vs ⟨xs, rfl, h2⟩ hl
  rw [cells29]
  rcases h2 with ⟨rfl, rfl⟩ | ⟨elems, spare, rfl, h3, h4⟩
  · exact ⟨[], rfl, by simp, fun _ h => by cases h⟩
  · obtain ⟨k1, k2⟩ := light_slice under27 hl
    obtain ⟨l, rfl, hp⟩ := ex_list (f := tyC) (p := Bd) (xs := xs) fun x hx => by
      obtain ⟨i, hi⟩ := List.mem_iff_getElem?.1 hx
      have hil : i < elems.length := by rw [← h3]; exact (List.getElem?_eq_some_iff.1 hi).1
      have hd := List.getElem?_eq_getElem hil
      exact h4 i _ x hd hi (k2 _ (List.getElem_mem hil))
    refine ⟨l, rfl, ?_, hp⟩
    rw [List.length_map] at h3
    rw [h3]
    rw [bytes29] at k1
    unfold reachBytes at k1
    omega
theorem rdTy : ∀ fuel : Nat, ReadsF Try.prog enc sp held w fuel 29 qTy
  | 0 => by intro cs d ps h; cases h
  | fuel + 1 => by
    have h27 : ReadsF Try.prog enc sp held w fuel 27 qTys := by
      cases fuel with
      | zero => intro cs d ps h; cases h
      | succ fuel => exact rdTys (rdTy fuel)
    refine readsF_mono (readsF_struct under29 ty_contig (Qs := [qInt .i64, qInt .i64, qStr, qTys]) (by have := congrArg List.length ty_types; simpa using this) ?_) ?_
    · intro i f Q hf hQ
      have ht := type_at ty_types hf
      match i, ht, hQ with
      | 0, ht, hQ => cases hQ; exact (Option.some.inj ht) ▸ rdInt under3 fuel
      | 1, ht, hQ => cases hQ; exact (Option.some.inj ht) ▸ rdInt under3 fuel
      | 2, ht, hQ => cases hQ; exact (Option.some.inj ht) ▸ rdStr under9 fuel
      | 3, ht, hQ => cases hQ; exact (Option.some.inj ht) ▸ h27
      | i + 4, ht, _ => simp at ht
    · rintro d vs ⟨ds, vss, rfl, rfl, h1, h2, h3⟩ hl
      obtain ⟨a, b, c, e, rfl⟩ := list4 (l := vss) h2
      obtain ⟨x, y, z, u, rfl⟩ := list4 (l := ds) h1
      obtain ⟨k, rfl⟩ := h3 0 _ x a rfl rfl rfl
      obtain ⟨n, rfl⟩ := h3 1 _ y b rfl rfl rfl
      obtain ⟨s, rfl⟩ := h3 2 _ z c rfl rfl rfl
      obtain ⟨f, hf, hft⟩ := type_of ty_types (i := 3) (t := 27) rfl
      have hl3 := light_part under29 hl hf (d := u) rfl
      rw [hft] at hl3
      obtain ⟨l, rfl, h4, h5⟩ := h3 3 _ u e rfl rfl rfl hl3
      exact ⟨.mk k n s l, by rw [tyC, tysC_eq]; rfl, .mk h4 h5⟩
abbrev qPr : DataW H → List V → Prop := fun d vs => Light Try.prog 34 d → ∃ a b : Ty, vs = tyC a ++ tyC b ∧ Bd a ∧ Bd b
theorem rdPr : ∀ fuel : Nat, ReadsF Try.prog enc sp held w fuel 34 qPr
  | 0 => by intro cs d ps h; cases h
  | fuel + 1 => by
    refine readsF_mono (readsF_struct under34 pr_contig (Qs := [qTy, qTy]) (by have := congrArg List.length pr_types; simpa using this) ?_) ?_
    · intro i f Q hf hQ
      have ht := type_at pr_types hf
      match i, ht, hQ with
      | 0, ht, hQ => cases hQ; exact (Option.some.inj ht) ▸ rdTy fuel
      | 1, ht, hQ => cases hQ; exact (Option.some.inj ht) ▸ rdTy fuel
      | i + 2, ht, _ => simp at ht
    · rintro d vs ⟨ds, vss, rfl, rfl, h1, h2, h3⟩ hl
      obtain ⟨a, b, rfl⟩ := list2 (l := vss) h2
      obtain ⟨x, y, rfl⟩ := list2 (l := ds) h1
      obtain ⟨f, hf, hft⟩ := type_of pr_types (i := 0) (t := 29) rfl
      have hl0 := light_part under34 hl hf (d := x) rfl
      rw [hft] at hl0
      obtain ⟨f, hf, hft⟩ := type_of pr_types (i := 1) (t := 29) rfl
      have hl1 := light_part under34 hl hf (d := y) rfl
      rw [hft] at hl1
      obtain ⟨t, rfl, ht⟩ := h3 0 _ x a rfl rfl rfl hl0
      obtain ⟨u, rfl, hu⟩ := h3 1 _ y b rfl rfl rfl hl1
      exact ⟨t, u, by simp, ht, hu⟩
/-- A struct that is handed in. -/
theorem open_structV {t : TypeId} {fs : Array Field} {r : Reach} {b0 : Nat} {v : Value} {d : DataW H} {ps : List MemPlace} (hu : Try.prog.underlying t = some (.struct fs)) (hval : Value.okWide Try.prog w r b0 t v) {Q : DataW H → List V → Prop} (hr : Reads Try.prog enc sp held w t Q)
    (hd : DataW.Trod enc Try.prog w 0 sp held t v d ps) : ∃ vs, RepL w (gh0 w) [.agg vs] [v] [] ∧ Q d vs := by
  unfold Value.okWide at hval
  rw [hu] at hval
  obtain ⟨cs, rfl, _, _⟩ := hval
  obtain ⟨fuel, h⟩ := hd
  obtain ⟨vs, h1, h2⟩ := hr fuel _ d ps h
  exact ⟨vs, .agg (acs := cs.toList) (b1 := []) (bl := []) (RepI.toL h1) .nil, h2⟩
end
theorem RepL.cons0 {w : World} {G : Gh} {v : V} {c : Value} {vs : List V} {cs : List Value} (h : RepL w G [v] [c] []) (k : RepL w G vs cs []) : RepL w G (v :: vs) (c :: cs) [] := RepL.cons h k
theorem RepI.toL0 {w : World} {vs : List V} {cs : List Value} (h : RepI (immW w) vs cs) : RepL w (gh0 w) vs cs [] := RepI.toL h
end Go.Proofs.Ytneonbdlgmaofaa.Vm
