/- A token and what stands behind it; what stands ahead of an error; the byte at a place. -/
import Derived.Test.YtdjcelbicmpobaaSpecL
import Derived.Test.YtdjcelbicmpobaaSpecK
import Derived.Test.YtdjcelbicmpobaaH27
namespace Go.Proofs.Ytdjcelbicmpobaa.Lx
open Go.RowKit Go.Proofs.YtdjcelbicmpobaaW.PrintWords Go.Proofs.YtdjcelbicmpobaaW.PrintLast Go.Proofs.Ytdjcelbicmpobaa.H

theorem cls_blank {c : UInt8} (hc : ¬ cls c.toNat = 0) : ¬ (c = 32 ∨ c = 10) := by
  rintro (e | e) <;> (subst e; exact hc (by decide +kernel))
theorem tok_blankN {c : UInt8} {r Y : L} (hb : blankN (c :: r) = 0) (hc : ¬ cls c.toNat = 0) (hY : Stops (cls c.toNat) Y) : blankN (tokL c r ++ Y) = 0 := by
  unfold tokL
  rw [List.cons_append]
  refine blankN_none (cls_blank hc) ?_
  rintro ⟨rfl, hh⟩
  have h5 : cls (45 : UInt8).toNat = 5 := by decide +kernel
  cases r with
  | nil =>
    cases Y with
    | nil => simp [runL] at hh
    | cons y Y' =>
      have hy := hY y Y' rfl
      have e : y = 45 := by simpa [runL] using hh
      rw [h5, e] at hy
      exact absurd hy (by decide +kernel)
  | cons d r2 =>
    rw [h5, runL_cons'] at hh
    by_cases hg : goes 5 d.toNat = true
    · rw [if_pos hg] at hh
      have e : d = 45 := by simpa using hh
      rw [blankN_remark (by rw [e]; rfl)] at hb
      omega
    · rw [if_neg hg, List.nil_append] at hh
      cases Y with
      | nil => simp at hh
      | cons y Y' =>
        have hy := hY y Y' rfl
        have e : y = 45 := by simpa using hh
        rw [h5, e] at hy
        exact absurd hy (by decide +kernel)

/-- The number that is told of a token. -/
def numOf (c : UInt8) (r : L) : Int := if kindS (cls c.toNat) (tokL c r) = 4 then (valS (tokL c r)).1 else 0
theorem toks_tok {c : UInt8} {r Y : L} (hb : blankN (c :: r) = 0) (hc : ¬ cls c.toNat = 0) (hY : Stops (cls c.toNat) Y) {n : Nat} (he : errOf (kindS (cls c.toNat) (tokL c r)) (tokL c r) n = 0) (p : Int × Int) :
    toks p n (tokL c r ++ Y) = (if (toks (adv p (tokL c r)) (n + 1) Y).2.1 = 0 then tok (kindS (cls c.toNat) (tokL c r)) (tokL c r) (numOf c r) p :: (toks (adv p (tokL c r)) (n + 1) Y).1 else [], (toks (adv p (tokL c r)) (n + 1) Y).2) := by
  have hz := tok_blankN hb hc hY
  have ht : tokL c (runL (cls c.toNat) r ++ Y) = tokL c r := by unfold tokL; rw [runL_append hY]
  have hd : (tokL c r ++ Y).drop (blankN (tokL c r ++ Y)) = c :: (runL (cls c.toNat) r ++ Y) := by rw [hz]; rfl
  have hp : adv p ((tokL c r ++ Y).take (blankN (tokL c r ++ Y))) = p := by rw [hz]; rfl
  have hrest : (c :: (runL (cls c.toNat) r ++ Y)).drop (tokL c r).length = Y := by
    show (tokL c r ++ Y).drop (tokL c r).length = Y
    exact List.drop_left
  have h := toks_one (p := p) (n := n) hd hc (by rw [ht]; exact he)
  rw [ht, hp, hrest] at h
  exact h

/-- A text with a token: its blanks, the token, what stands behind it. -/
theorem text_parts {l : L} {c : UInt8} {r : L} (hd : l.drop (blankN l) = c :: r) (hc : ¬ cls c.toNat = 0) : l = l.take (blankN l) ++ (tokL c r ++ (c :: r).drop (tokL c r).length) := by
  have h1 : tokL c r = (c :: r).take (tokL c r).length := by
    have := take_tok (r := r) hc
    rw [tokLen_eq hc] at this
    exact this.symm
  have h2 : tokL c r ++ (c :: r).drop (tokL c r).length = c :: r := by
    conv => lhs; lhs; rw [h1]
    exact List.take_append_drop _ _
  rw [h2, ← hd, List.take_append_drop]
theorem take_parts {l A B C : L} (h : l = A ++ (B ++ C)) (a e : Nat) (ha : A.length = a) : l.take (a + (B.length + e)) = A ++ (B ++ C.take e) := by
  subst ha
  rw [h, List.take_length_add_append, List.take_length_add_append]
theorem stops_take {c : UInt8} {r : L} (e : Nat) : Stops (cls c.toNat) (((c :: r).drop (tokL c r).length).take e) := by
  intro y Y' h
  cases hr : (c :: r).drop (tokL c r).length with
  | nil => rw [hr] at h; simp at h
  | cons z Z =>
    rw [hr] at h
    cases e with
    | zero => simp at h
    | succ e =>
      rw [List.take_succ_cons] at h
      injection h with h1 _
      rw [← h1]
      exact stops_rest (c := c) (r := r) z Z hr

/-- What stands ahead of an error has none, and the error is told at its place. -/
theorem toks_first : ∀ (m : Nat) (l : L) (p : Int × Int) (n : Nat), l.length ≤ m → (toks p n l).2.1 ≠ 0 →
    ∃ e, e < l.length ∧ (toks p n l).2.2 = adv p (l.take e) ∧ (toks p n (l.take e)).2 = (0, 0, 0) := by
  intro m
  induction m with
  | zero =>
    intro l p n h hne
    obtain rfl : l = [] := List.eq_nil_of_length_eq_zero (by omega)
    rw [toks_end (by simp)] at hne
    exact absurd rfl hne
  | succ m ih =>
    intro l p n h hne
    cases hd : l.drop (blankN l) with
    | nil => rw [toks_end hd] at hne; exact absurd rfl hne
    | cons c r =>
      have hB := blank_take (l := l) (by rw [hd]; simp)
      have hl := congrArg List.length hd
      simp only [List.length_drop, List.length_cons] at hl
      have here : (toks p n (l.take (blankN l))).2 = (0, 0, 0) := by
        have h1 := toks_blank hB p n []
        rw [List.append_nil] at h1
        rw [h1, toks_end (by simp)]
      by_cases hc : cls c.toNat = 0
      · exact ⟨blankN l, by omega, by rw [toks_none hd hc], here⟩
      · by_cases he : errOf (kindS (cls c.toNat) (tokL c r)) (tokL c r) n = 0
        · have hb0 : blankN (c :: r) = 0 := by rw [← hd]; exact blankN_drop l
          have htl : (tokL c r).length = (runL (cls c.toNat) r).length + 1 := rfl
          have hrl := runL_le (cls c.toNat) r
          rw [toks_one hd hc he] at hne ⊢
          have ih1 := ih ((c :: r).drop (tokL c r).length) (adv (adv p (l.take (blankN l))) (tokL c r)) (n + 1) (by simp only [List.length_drop, List.length_cons]; omega) hne
          obtain ⟨e, h1, h2, h3⟩ := ih1
          simp only [List.length_drop, List.length_cons] at h1
          have htk : l.take (blankN l + ((tokL c r).length + e)) = l.take (blankN l) ++ (tokL c r ++ ((c :: r).drop (tokL c r).length).take e) :=
            take_parts (text_parts hd hc) _ _ (by rw [List.length_take]; omega)
          refine ⟨blankN l + ((tokL c r).length + e), by omega, ?_, ?_⟩
          · rw [htk, adv_append, adv_append]; exact h2
          · rw [htk, toks_blank hB, toks_tok hb0 hc (stops_take e) he]; exact h3
        · exact ⟨blankN l, by omega, by rw [toks_bad hd hc he], here⟩

/-! ### The byte at a place -/
def plt (p q : Int × Int) : Prop := p.1 < q.1 ∨ (p.1 = q.1 ∧ p.2 < q.2)
theorem plt_trans {p q r : Int × Int} (h : plt p q) (k : plt q r) : plt p r := by unfold plt at *; omega
theorem plt_ne {p q : Int × Int} (h : plt p q) : p ≠ q := by rintro rfl; unfold plt at h; omega
theorem plt_step (p : Int × Int) (c : UInt8) : plt p (step p c) := by
  unfold step plt
  split <;> dsimp only <;> omega
theorem plt_adv : ∀ (l : L) (p : Int × Int), l ≠ [] → plt p (adv p l)
  | [], _, h => absurd rfl h
  | [c], p, _ => plt_step p c
  | c :: d :: r, p, _ => plt_trans (plt_step p c) (plt_adv (d :: r) (step p c) (by simp))
theorem plt_take {s : ByteArray} {i n : Nat} (hi : i < n) (hn : n ≤ s.size) : plt (adv (1, 1) ((dat s).take i)) (adv (1, 1) ((dat s).take n)) := by
  rw [show n = i + (n - i) by omega, List.take_add, adv_append]
  refine plt_adv _ _ ?_
  intro e
  have := congrArg List.length e
  rw [List.length_take, List.length_drop, dat_length] at this
  simp at this
  omega

theorem offset_loop {s : ByteArray} (hs : s.size ≤ 140737488351232) {n : Nat} (hn : n ≤ s.size) : ∀ (d i : Nat), n - i = d → i ≤ n →
    Ev (fun k => changelingref02_Offset.l0 k s (adv (1, 1) ((dat s).take i)).1 (adv (1, 1) ((dat s).take i)).2 (i : Int) (adv (1, 1) ((dat s).take n)).1 (adv (1, 1) ((dat s).take n)).2) (n : Int)
  | 0, i, hd, hi => by
    obtain rfl : i = n := by omega
    refine Ev.succ ?_
    simp only [changelingref02_Offset.l0]
    by_cases hlt : i < s.size
    · refine Ev.pos (show (i : Int) < (s.size : Int) by omega) (Ev.pos (by first | trivial | rfl) ?_)
      refine Ev.succ ?_
      simp only [changelingref02_Offset.j1, beq_self_eq_true, if_true]
      exact Ev.now _
    · exact Ev.neg (show ¬ ((i : Int) < (s.size : Int)) by omega) (Ev.some (by omega))
  | d + 1, i, hd, hi => by
    have k1 : (i : Int) < (s.size : Int) := by omega
    have k2 : 0 ≤ (i : Int) := by omega
    have hl : i < (dat s).length := by rw [dat_length]; omega
    have hdr := List.drop_eq_getElem_cons hl
    obtain ⟨_, hb, _⟩ := bt_of_drop hdr
    have hne := plt_ne (plt_take (s := s) (show i < n by omega) hn)
    have ih := offset_loop hs hn d (i + 1) (by omega) (by omega)
    have hb2 := adv_le ((dat s).take i) (1, 1) 1 (by decide) (by decide)
    have hlt : ((dat s).take i).length = i := by rw [List.length_take]; omega
    rw [List.take_succ_eq_append_getElem hl, adv_append, adv_cons, adv_nil, show ((i + 1 : Nat) : Int) = (i : Int) + 1 by omega] at ih
    rw [hlt] at hb2
    generalize adv (1, 1) ((dat s).take i) = p at *
    generalize adv (1, 1) ((dat s).take n) = q at *
    clear hdr
    generalize (dat s)[i] = c at *
    have go : Ev (fun k => changelingref02_Offset.j1 k s p.1 p.2 (i : Int) false q.1 q.2) (n : Int) := by
      refine Ev.succ ?_
      simp only [changelingref02_Offset.j1, if_neg (show ¬ (false = true) by decide)]
      refine Ev.pos k2 (Ev.pos k1 ?_)
      by_cases hc : c = 10
      · refine Ev.pos (show bt s (i : Int) = 10 by rw [hb, c10]; exact hc) ?_
        rw [w64 (by omega) (by omega), w64 (by omega) (by omega)]
        simp only [step, if_pos hc] at ih
        exact ih
      · refine Ev.neg (show ¬ (bt s (i : Int) = 10) by rw [hb, c10]; exact hc) ?_
        rw [w64 (by omega) (by omega), w64 (by omega) (by omega)]
        simp only [step, if_neg hc] at ih
        exact ih
    refine Ev.succ ?_
    simp only [changelingref02_Offset.l0]
    refine Ev.pos k1 ?_
    by_cases h1 : p.1 = q.1
    · refine Ev.pos h1 ?_
      have h2 : (p.2 == q.2) = false := by
        rw [beq_eq_false_iff_ne]
        intro e
        exact hne (Prod.ext h1 e)
      rw [h2]
      exact go
    · exact Ev.neg h1 go
theorem offset_ev {s : ByteArray} (hs : s.size ≤ 140737488351232) {n : Nat} (hn : n ≤ s.size) : Ev (fun k => changelingref02_Offset.f k s (adv (1, 1) ((dat s).take n)).1 (adv (1, 1) ((dat s).take n)).2) (n : Int) :=
  offset_loop hs hn n 0 (by omega) (by omega)
end Go.Proofs.Ytdjcelbicmpobaa.Lx
