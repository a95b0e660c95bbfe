/- What tokens come to behind blanks, and what stands behind a token: the lexer looks at nothing but the bytes of the token and the next one. -/
import Derived.Test.YtdjcelbicmpobaaSpecE
namespace Go.Proofs.Ytdjcelbicmpobaa.Lx
open Go.RowKit Go.Proofs.YtdjcelbicmpobaaW.PrintWords Go.Proofs.YtdjcelbicmpobaaW.PrintLast Go.Proofs.Ytdjcelbicmpobaa.H

/-- Bytes that are blanks, whatever stands behind them. -/
def Blank (P : L) : Prop := ∀ X : L, blankN (P ++ X) = P.length + blankN X
theorem Blank.nil : Blank [] := fun X => by simp
theorem Blank.cons {c : UInt8} {P : L} (h : c = 32 ∨ c = 10) (k : Blank P) : Blank (c :: P) := fun X => by
  rw [List.cons_append, blankN_blank h, k X, List.length_cons]; omega
theorem eolN_append {A X : L} (h : ∀ c ∈ A, c ≠ 10) : eolN (A ++ 10 :: X) = A.length := by
  induction A with
  | nil => rfl
  | cons a A ih =>
    simp only [List.cons_append, eolN, if_neg (h a (by simp)), List.length_cons]
    rw [ih (fun x hx => h x (by simp [hx]))]
theorem Blank.remark {A P : L} (h : ∀ c ∈ A, c ≠ 10) (k : Blank (10 :: P)) : Blank (45 :: 45 :: A ++ 10 :: P) := fun X => by
  have e : (45 :: 45 :: A ++ 10 :: P) ++ X = 45 :: (45 :: (A ++ 10 :: (P ++ X))) := by simp
  rw [e, blankN_remark (by rfl)]
  have hA : ∀ c ∈ (45 :: A : L), c ≠ 10 := by
    intro c hc
    rcases List.mem_cons.1 hc with e | hc
    · rw [e]; decide
    · exact h c hc
  have h1 : eolN (45 :: (A ++ 10 :: (P ++ X))) = A.length + 1 := eolN_append (A := 45 :: A) (X := P ++ X) hA
  have h2 : (45 :: (A ++ 10 :: (P ++ X))).drop (A.length + 1) = (10 :: P) ++ X := by
    rw [List.drop_succ_cons, List.drop_left]; rfl
  rw [h1, h2, k X]
  simp only [List.length_append, List.length_cons]
  omega

theorem eolN_split : ∀ l : L, eolN l < l.length → ∃ r, l = l.take (eolN l) ++ 10 :: r ∧ l.drop (eolN l) = 10 :: r
  | [], h => by simp at h
  | c :: r, h => by
    by_cases hc : c = 10
    · exact ⟨r, by simp [eolN, hc], by simp [eolN, hc]⟩
    · simp only [eolN, if_neg hc, List.length_cons] at h
      obtain ⟨q, h1, h2⟩ := eolN_split r (by omega)
      refine ⟨q, ?_, ?_⟩
      · simp only [eolN, if_neg hc, List.take_succ_cons, List.cons_append]; rw [← h1]
      · simp only [eolN, if_neg hc, List.drop_succ_cons]; exact h2

/-- What the blanks of a text are; and what stands behind them begins with none. -/
theorem blank_parts : ∀ (n : Nat) (l : L), l.length ≤ n → blankN (l.drop (blankN l)) = 0 ∧ (l.drop (blankN l) ≠ [] → Blank (l.take (blankN l))) := by
  intro n
  induction n with
  | zero =>
    intro l h
    obtain rfl : l = [] := List.eq_nil_of_length_eq_zero (by omega)
    rw [blankN_nil]
    exact ⟨by simp [blankN_nil], fun h => absurd rfl h⟩
  | succ n ih =>
    intro l h
    cases l with
    | nil => rw [blankN_nil]; exact ⟨by simp [blankN_nil], fun h => absurd rfl h⟩
    | cons c r =>
      simp only [List.length_cons] at h
      by_cases hb : c = 32 ∨ c = 10
      · rw [blankN_blank hb, List.drop_succ_cons, List.take_succ_cons]
        have ih1 := ih r (by omega)
        exact ⟨ih1.1, fun hne => Blank.cons hb (ih1.2 hne)⟩
      · by_cases h45 : c = 45 ∧ r.head? = some 45
        · obtain ⟨rfl, hh⟩ := h45
          rw [blankN_remark hh]
          have hdr : (45 :: r : L).drop (eolN r + 1 + blankN (r.drop (eolN r))) = (r.drop (eolN r)).drop (blankN (r.drop (eolN r))) := by
            rw [List.drop_drop, show eolN r + 1 + blankN (r.drop (eolN r)) = (eolN r + blankN (r.drop (eolN r))) + 1 by omega, List.drop_succ_cons]
          rw [hdr]
          have ih1 := ih (r.drop (eolN r)) (by simp; omega)
          refine ⟨ih1.1, fun hne => ?_⟩
          have hle := eolN_le r
          have hlt : eolN r < r.length := by
            rcases Nat.lt_or_ge (eolN r) r.length with hlt | hge
            · exact hlt
            · exfalso
              rw [List.drop_eq_nil_of_le (show r.length ≤ eolN r from hge)] at hne
              exact hne (by simp)
          obtain ⟨q, h1, h2⟩ := eolN_split r hlt
          have hq := ih1.2 hne
          rw [h2, blankN_blank (Or.inr rfl), List.take_succ_cons] at hq
          rw [h2, blankN_blank (Or.inr rfl)]
          have hA := eolN_plain r
          have htk : (45 :: r : L).take (eolN r + 1 + (blankN q + 1)) = 45 :: (r.take (eolN r) ++ 10 :: q.take (blankN q)) := by
            rw [show eolN r + 1 + (blankN q + 1) = (eolN r + (blankN q + 1)) + 1 by omega, List.take_succ_cons]
            refine congrArg _ ?_
            rw [List.take_add, h2, List.take_succ_cons]
          rw [htk]
          cases r with
          | nil => simp at hlt
          | cons d r2 =>
            have hd : d = 45 := by simpa using hh
            subst hd
            have he : eolN (45 :: r2) = eolN r2 + 1 := by simp [eolN]
            rw [he, List.take_succ_cons] at hA ⊢
            exact Blank.remark (A := r2.take (eolN r2)) (fun c hc => hA c (by simp [hc])) hq
        · rw [blankN_none hb h45]
          refine ⟨?_, fun _ => ?_⟩
          · rw [List.drop_zero, blankN_none hb h45]
          · rw [List.take_zero]; exact Blank.nil
theorem blankN_drop (l : L) : blankN (l.drop (blankN l)) = 0 := (blank_parts l.length l (Nat.le_refl _)).1
theorem blank_take {l : L} (h : l.drop (blankN l) ≠ []) : Blank (l.take (blankN l)) := (blank_parts l.length l (Nat.le_refl _)).2 h

/-- Blanks ahead turn nothing but the place. -/
theorem toks_blank {P : L} (h : Blank P) (p : Int × Int) (n : Nat) (X : L) : toks p n (P ++ X) = toks (adv p P) n X := by
  have hb := h X
  have hd : (P ++ X).drop (blankN (P ++ X)) = X.drop (blankN X) := by rw [hb, List.drop_length_add_append]
  have ht : adv p ((P ++ X).take (blankN (P ++ X))) = adv (adv p P) (X.take (blankN X)) := by rw [hb, List.take_length_add_append, adv_append]
  cases hx : X.drop (blankN X) with
  | nil => rw [toks_end (hd.trans hx), toks_end hx]
  | cons c r =>
    by_cases hc : cls c.toNat = 0
    · rw [toks_none (hd.trans hx) hc, toks_none hx hc, ht]
    · by_cases he : errOf (kindS (cls c.toNat) (tokL c r)) (tokL c r) n = 0
      · rw [toks_one (hd.trans hx) hc he, toks_one hx hc he, ht]
      · rw [toks_bad (hd.trans hx) hc he, toks_bad hx hc he, ht]


theorem runL_cons' {k : Int} {d : UInt8} {r : L} : runL k (d :: r) = if goes k d.toNat then d :: runL k r else [] := by
  unfold runL
  rw [List.takeWhile_cons]
def Stops (k : Int) (Y : L) : Prop := ∀ y Y', Y = y :: Y' → goes k y.toNat = false
theorem runL_append {k : Int} {r Y : L} (h : Stops k Y) : runL k (runL k r ++ Y) = runL k r := by
  induction r with
  | nil =>
    show runL k ([] ++ Y) = []
    cases Y with
    | nil => rfl
    | cons y Y' => rw [List.nil_append, runL_cons', h y Y' rfl]; rfl
  | cons d r ih =>
    rw [runL_cons']
    by_cases hg : goes k d.toNat = true
    · rw [if_pos hg, List.cons_append, runL_cons', if_pos hg, ih]
    · rw [if_neg hg, List.nil_append]
      cases Y with
      | nil => rfl
      | cons y Y' => rw [runL_cons', h y Y' rfl]; rfl
theorem stops_rest {c : UInt8} {r : L} : Stops (cls c.toNat) ((c :: r).drop (tokL c r).length) := by
  intro y Y' h
  have hl : (tokL c r).length = (runL (cls c.toNat) r).length + 1 := rfl
  rw [hl, List.drop_succ_cons] at h
  clear hl
  revert h
  generalize cls c.toNat = k
  induction r with
  | nil => intro h; simp at h
  | cons d r ih =>
    rw [runL_cons']
    by_cases hg : goes k d.toNat = true
    · rw [if_pos hg, List.length_cons, List.drop_succ_cons]; exact ih
    · rw [if_neg hg]
      intro h
      injection h with h1 _
      subst h1
      simpa using hg
end Go.Proofs.Ytdjcelbicmpobaa.Lx
