/-
The groups, part 10: Tarjan's way, the plain part: what holds while things are looked into.
-/
import Derived.Test.YtglemgdlkddjhaaGrp9
namespace Go.Proofs.Ytglemgdlkddjhaa.Vm
open Go

structure FS where
  ord : Nat → Nat
  low : Nat → Nat
  grp : Nat → Nat
  inn : Nat → Bool
  op : List Nat
  nx : Nat
  mny : Nat

def updN {α : Type} (f : Nat → α) (k : Nat) (x : α) : Nat → α := fun i => if i = k then x else f i
theorem updN_same {α : Type} (f : Nat → α) (k : Nat) (x : α) : updN f k x k = x := by simp [updN]
theorem updN_other {α : Type} (f : Nat → α) {k i : Nat} (x : α) (h : i ≠ k) : updN f k x i = f i := by simp [updN, h]

inductive Rch (nb : Nat → List Nat) : Nat → Nat → Prop
  | refl (a : Nat) : Rch nb a a
  | step {a b c : Nat} (h : Rch nb a b) (e : c ∈ nb b) : Rch nb a c
theorem Rch.one {nb : Nat → List Nat} {a b : Nat} (h : b ∈ nb a) : Rch nb a b := .step (.refl a) h
theorem Rch.trans {nb : Nat → List Nat} {a b c : Nat} (h : Rch nb a b) (k : Rch nb b c) : Rch nb a c := by
  induction k with
  | refl => exact h
  | step _ e ih => exact .step ih e
/-- What is closed under edges is closed under paths. -/
theorem Rch.inv {nb : Nat → List Nat} {Q : Nat → Prop} (hq : ∀ x, Q x → ∀ w ∈ nb x, Q w) {a b : Nat} (h : Rch nb a b) (ha : Q a) : Q b := by
  induction h with
  | refl => exact ha
  | step _ e ih => exact hq _ ih _ e

/-- An edge that was looked at. -/
def Lk (nb : Nat → List Nat) (fr : List (Nat × Nat)) (v w : Nat) : Prop := w ∈ nb v ∧ ∀ u, (v, u) ∈ fr → w ∈ (nb v).take u

def zeros (n : Nat) (f : Nat → Nat) : Nat := ((List.range n).filter fun x => f x == 0).length
theorem zeros_updN {n k y : Nat} {f : Nat → Nat} (hk : k < n) (h0 : f k = 0) (hy : y ≠ 0) : zeros n (updN f k y) + 1 = zeros n f := by
  unfold zeros
  induction n with
  | zero => omega
  | succ n ih =>
    rw [List.range_succ, List.filter_append, List.filter_append, List.length_append, List.length_append]
    by_cases hkn : k = n
    · subst hkn
      have e : (List.range k).filter (fun x => updN f k y x == 0) = (List.range k).filter (fun x => f x == 0) := by
        apply List.filter_congr
        intro x hx
        have : x ≠ k := by have := List.mem_range.1 hx; omega
        rw [updN_other _ _ this]
      rw [e]
      simp [updN_same, h0, hy]
    · have := ih (by omega)
      have e : updN f k y n = f n := updN_other _ _ (by omega)
      simp only [List.filter_cons, List.filter_nil, e]
      omega

structure Inv (n : Nat) (nb : Nat → List Nat) (s : FS) (fr : List (Nat × Nat)) : Prop where
  rise : s.op.Pairwise (fun a b => s.ord a < s.ord b)
  inn : ∀ x, s.inn x = true ↔ x ∈ s.op
  opn : ∀ x ∈ s.op, x < n ∧ 0 < s.ord x
  onx : ∀ x, s.ord x ≤ s.nx
  inj : ∀ a b, 0 < s.ord a → s.ord a = s.ord b → a = b
  cnt : s.nx + zeros n s.ord = n
  mny : s.mny + s.op.length ≤ s.nx
  vis : ∀ x, s.ord x ≠ 0 → x < n
  frd : fr.Pairwise (fun a b => s.ord b.1 < s.ord a.1)
  fro : ∀ p ∈ fr, p.1 ∈ s.op ∧ p.2 ≤ (nb p.1).length
  frr : ∀ p ∈ fr, ∀ v ∈ s.op, s.ord p.1 ≤ s.ord v → Rch nb p.1 v
  lowr : ∀ v ∈ s.op, s.low v ≤ s.ord v ∧ ∃ w ∈ s.op, s.ord w = s.low v ∧ Rch nb v w
  lows : ∀ v ∈ s.op, (∀ u, (v, u) ∉ fr) → s.low v < s.ord v
  base : ∀ v ∈ s.op, ∃ p ∈ fr, s.ord p.1 ≤ s.ord v
  seen : ∀ v ∈ s.op, ∀ w, Lk nb fr v w → s.ord w ≠ 0
  back : ∀ v ∈ s.op, ∀ w ∈ s.op, Lk nb fr v w → ∀ p ∈ fr, s.ord p.1 ≤ s.ord v → (∀ q ∈ fr, s.ord q.1 ≤ s.ord v → s.ord q.1 ≤ s.ord p.1) → s.low p.1 ≤ s.ord w
  clos : ∀ x, s.ord x ≠ 0 → x ∉ s.op → ∀ w ∈ nb x, s.ord w ≠ 0 ∧ w ∉ s.op
  cgrp : ∀ x, s.ord x ≠ 0 → x ∉ s.op → s.grp x < s.mny
  cmem : ∀ g, g < s.mny → ∃ x, x < n ∧ s.ord x ≠ 0 ∧ x ∉ s.op ∧ s.grp x = g
  csam : ∀ x y, s.ord x ≠ 0 → x ∉ s.op → s.ord y ≠ 0 → y ∉ s.op → (s.grp x = s.grp y ↔ Rch nb x y ∧ Rch nb y x)

def enterS (s : FS) (k : Nat) : FS := { s with ord := updN s.ord k (s.nx + 1), low := updN s.low k (s.nx + 1), op := s.op ++ [k], inn := updN s.inn k true, nx := s.nx + 1 }
def lowS (s : FS) (k x : Nat) : FS := { s with low := updN s.low k (min (s.low k) x) }
def closeS (s : FS) (a c : List Nat) : FS := { s with op := a, inn := fun x => s.inn x && !(c.contains x), grp := fun x => if c.contains x then s.mny else s.grp x, mny := s.mny + 1 }

section
variable {n : Nat} {nb : Nat → List Nat} {s : FS} {fr : List (Nat × Nat)} {k u t : Nat}

theorem Inv.empty (h : Inv n nb s []) : s.op = [] := by
  cases ho : s.op with
  | nil => rfl
  | cons a l =>
    obtain ⟨p, hp, _⟩ := h.base a (by rw [ho]; exact List.mem_cons_self ..)
    cases hp
theorem Inv.nxlt (h : Inv n nb s fr) (hk : k < n) (h0 : s.ord k = 0) : s.nx < n := by
  have h1 := h.cnt
  have : 0 < zeros n s.ord := by
    unfold zeros
    apply List.length_pos_of_mem (a := k)
    rw [List.mem_filter]
    exact ⟨List.mem_range.2 hk, by simp [h0]⟩
  omega
theorem Inv.topGreat (h : Inv n nb s ((k, u) :: fr)) : ∀ q ∈ (k, u) :: fr, s.ord q.1 ≤ s.ord k := by
  intro q hq
  rcases List.mem_cons.1 hq with rfl | hq
  · exact Nat.le_refl _
  · exact Nat.le_of_lt ((List.pairwise_cons.1 h.frd).1 q hq)
theorem Inv.topOnce (h : Inv n nb s ((k, u) :: fr)) : ∀ u', (k, u') ∉ fr := by
  intro u' hu
  exact Nat.lt_irrefl (s.ord k) ((List.pairwise_cons.1 h.frd).1 (k, u') hu)

/-- Only edges of the one on top are newly looked at. -/
theorem lk_next (h : Inv n nb s ((k, u) :: fr)) (ht : (nb k)[u]? = some t) {v w : Nat} (hl : Lk nb ((k, u + 1) :: fr) v w) : Lk nb ((k, u) :: fr) v w ∨ (v = k ∧ w = t) := by
  by_cases hv : v = k
  · subst hv
    have hw := hl.2 (u + 1) (List.mem_cons_self ..)
    rw [List.take_add_one, ht] at hw
    rcases List.mem_append.1 hw with hw | hw
    · refine .inl ⟨hl.1, fun u' hu' => ?_⟩
      rcases List.mem_cons.1 hu' with e | e
      · cases e; exact hw
      · exact absurd e (h.topOnce u')
    · exact .inr ⟨rfl, by simpa using hw⟩
  · refine .inl ⟨hl.1, fun u' hu' => hl.2 u' ?_⟩
    rcases List.mem_cons.1 hu' with e | e
    · cases e; exact absurd rfl hv
    · exact List.mem_cons_of_mem _ e

theorem mem_next {p : Nat × Nat} (hp : p ∈ (k, u + 1) :: fr) : ∃ q ∈ (k, u) :: fr, q.1 = p.1 := by
  rcases List.mem_cons.1 hp with rfl | hp
  · exact ⟨(k, u), List.mem_cons_self .., rfl⟩
  · exact ⟨p, List.mem_cons_of_mem _ hp, rfl⟩
theorem mem_prev {p : Nat × Nat} (hp : p ∈ (k, u) :: fr) : ∃ q ∈ (k, u + 1) :: fr, q.1 = p.1 := by
  rcases List.mem_cons.1 hp with rfl | hp
  · exact ⟨(k, u + 1), List.mem_cons_self .., rfl⟩
  · exact ⟨p, List.mem_cons_of_mem _ hp, rfl⟩

/-- The next edge leads to what is closed. -/
theorem Inv.skip (h : Inv n nb s ((k, u) :: fr)) (ht : (nb k)[u]? = some t) (h0 : s.ord t ≠ 0) (hi : s.inn t = false) : Inv n nb s ((k, u + 1) :: fr) := by
  have hto : t ∉ s.op := fun hm => by rw [(h.inn t).2 hm] at hi; cases hi
  refine { h with frd := ?_, fro := ?_, frr := ?_, lows := ?_, base := ?_, seen := ?_, back := ?_ }
  · have := List.pairwise_cons.1 h.frd
    exact List.pairwise_cons.2 ⟨this.1, this.2⟩
  · intro p hp
    rcases List.mem_cons.1 hp with rfl | hp
    · exact ⟨(h.fro _ (List.mem_cons_self ..)).1, (List.getElem?_eq_some_iff.1 ht).1⟩
    · exact h.fro p (List.mem_cons_of_mem _ hp)
  · intro p hp v hv hle
    obtain ⟨q, hq, e⟩ := mem_next hp
    rw [← e] at hle ⊢
    exact h.frr q hq v hv hle
  · intro v hv hn
    refine h.lows v hv fun u' hu' => ?_
    rcases List.mem_cons.1 hu' with e | e
    · cases e; exact hn (u + 1) (List.mem_cons_self ..)
    · exact hn u' (List.mem_cons_of_mem _ e)
  · intro v hv
    obtain ⟨p, hp, hle⟩ := h.base v hv
    obtain ⟨q, hq, e⟩ := mem_prev hp
    exact ⟨q, hq, by rw [e]; exact hle⟩
  · intro v hv w hl
    rcases lk_next h ht hl with hl | ⟨rfl, rfl⟩
    · exact h.seen v hv w hl
    · exact h0
  · intro v hv w hw hl p hp hle hmax
    rcases lk_next h ht hl with hl | ⟨rfl, rfl⟩
    · obtain ⟨q, hq, e⟩ := mem_next hp
      rw [← e] at hle ⊢
      refine h.back v hv w hw hl q hq hle fun q' hq' hle' => ?_
      obtain ⟨q'', hq'', e''⟩ := mem_prev hq'
      rw [← e'', e]
      exact hmax q'' hq'' (by rw [e'']; exact hle')
    · exact absurd hw hto

/-- The next edge leads to what is open. -/
theorem Inv.look (h : Inv n nb s ((k, u) :: fr)) (ht : (nb k)[u]? = some t) (hi : s.inn t = true) : Inv n nb (lowS s k (s.ord t)) ((k, u + 1) :: fr) := by
  have hto : t ∈ s.op := (h.inn t).1 hi
  have hle : ∀ v, (lowS s k (s.ord t)).low v ≤ s.low v := by
    intro v
    show updN s.low k _ v ≤ _
    by_cases hv : v = k
    · subst hv; rw [updN_same]; omega
    · rw [updN_other _ _ hv]; exact Nat.le_refl _
  have hlk : (lowS s k (s.ord t)).low k ≤ s.ord t := by
    show updN s.low k _ k ≤ _
    rw [updN_same]; omega
  have hedge : t ∈ nb k := List.mem_of_getElem? ht
  refine { h with frd := ?_, fro := ?_, frr := ?_, lowr := ?_, lows := ?_, base := ?_, seen := ?_, back := ?_ }
  · have := List.pairwise_cons.1 h.frd
    exact List.pairwise_cons.2 ⟨this.1, this.2⟩
  · intro p hp
    rcases List.mem_cons.1 hp with rfl | hp
    · exact ⟨(h.fro _ (List.mem_cons_self ..)).1, (List.getElem?_eq_some_iff.1 ht).1⟩
    · exact h.fro p (List.mem_cons_of_mem _ hp)
  · intro p hp v hv hle
    obtain ⟨q, hq, e⟩ := mem_next hp
    rw [← e] at hle ⊢
    exact h.frr q hq v hv hle
  · intro v hv
    refine ⟨Nat.le_trans (hle v) (h.lowr v hv).1, ?_⟩
    by_cases hvk : v = k
    · subst hvk
      show ∃ w ∈ s.op, s.ord w = updN s.low v _ v ∧ _
      rw [updN_same]
      rcases Nat.le_total (s.low v) (s.ord t) with hc | hc
      · rw [Nat.min_eq_left hc]; exact (h.lowr v hv).2
      · rw [Nat.min_eq_right hc]; exact ⟨t, hto, rfl, .one hedge⟩
    · show ∃ w ∈ s.op, s.ord w = updN s.low k _ v ∧ _
      rw [updN_other _ _ hvk]; exact (h.lowr v hv).2
  · intro v hv hn
    refine Nat.lt_of_le_of_lt (hle v) (h.lows v hv fun u' hu' => ?_)
    rcases List.mem_cons.1 hu' with e | e
    · cases e; exact hn (u + 1) (List.mem_cons_self ..)
    · exact hn u' (List.mem_cons_of_mem _ e)
  · intro v hv
    obtain ⟨p, hp, hle⟩ := h.base v hv
    obtain ⟨q, hq, e⟩ := mem_prev hp
    exact ⟨q, hq, by rw [e]; exact hle⟩
  · intro v hv w hl
    rcases lk_next h ht hl with hl | ⟨rfl, rfl⟩
    · exact h.seen v hv w hl
    · have := (h.opn _ hto).2
      show s.ord w ≠ 0
      omega
  · intro v hv w hw hl p hp hlo hmax
    rcases lk_next h ht hl with hl | ⟨rfl, rfl⟩
    · obtain ⟨q, hq, e⟩ := mem_next hp
      refine Nat.le_trans (hle _) ?_
      rw [← e] at hlo ⊢
      refine h.back v hv w hw hl q hq hlo fun q' hq' hle' => ?_
      obtain ⟨q'', hq'', e''⟩ := mem_prev hq'
      rw [← e'', e]
      exact hmax q'' hq'' (by rw [e'']; exact hle')
    · have h1 := hmax (v, u + 1) (List.mem_cons_self ..) (Nat.le_refl _)
      have hp0 := (h.opn v hv).2
      have : v = p.1 := h.inj v p.1 hp0 (Nat.le_antisymm h1 hlo)
      rw [← this]
      exact hlk

theorem enter_ord {v : Nat} (h : v ≠ k) : (enterS s k).ord v = s.ord v := updN_other _ _ h
theorem enter_low {v : Nat} (h : v ≠ k) : (enterS s k).low v = s.low v := updN_other _ _ h
theorem enter_ordk : (enterS s k).ord k = s.nx + 1 := updN_same _ _ _
theorem enter_lowk : (enterS s k).low k = s.nx + 1 := updN_same _ _ _
theorem enter_op {v : Nat} : v ∈ (enterS s k).op ↔ v ∈ s.op ∨ v = k := by simp [enterS]

/-- The parts of what holds that do not speak of what is looked into, once a new thing was come to. -/
theorem Inv.enter (h : Inv n nb s fr) (hk : k < n) (h0 : s.ord k = 0) {fr' : List (Nat × Nat)} (hfr : fr' = fr ∨ ∃ u t l, fr = (t, u) :: l ∧ fr' = (t, u + 1) :: l ∧ (nb t)[u]? = some k) (hemp : fr' = fr → fr = []) : Inv n nb (enterS s k) ((k, 0) :: fr') := by
  have hnk : k ∉ s.op := fun hm => by have := (h.opn k hm).2; omega
  have hne : ∀ v ∈ s.op, v ≠ k := fun v hv e => hnk (e ▸ hv)
  have hvis : ∀ x, s.ord x ≠ 0 → x ≠ k := fun x hx e => hx (e ▸ h0)
  -- frames of the new list are frames of the old one, with perhaps one more edge looked at
  have hmem : ∀ p ∈ fr', ∃ q ∈ fr, q.1 = p.1 := by
    intro p hp
    rcases hfr with rfl | ⟨u, t, l, rfl, rfl, _⟩
    · exact ⟨p, hp, rfl⟩
    · exact mem_next hp
  have hmem' : ∀ p ∈ fr, ∃ q ∈ fr', q.1 = p.1 := by
    intro p hp
    rcases hfr with rfl | ⟨u, t, l, rfl, rfl, _⟩
    · exact ⟨p, hp, rfl⟩
    · exact mem_prev hp
  have hfop : ∀ p ∈ fr', p.1 ∈ s.op := fun p hp => by
    obtain ⟨q, hq, e⟩ := hmem p hp
    rw [← e]; exact (h.fro q hq).1
  have hlk : ∀ v w, v ≠ k → Lk nb ((k, 0) :: fr') v w → Lk nb fr v w ∨ (w = k ∧ ∃ q ∈ fr', q.1 = v ∧ ∀ p ∈ fr, s.ord p.1 ≤ s.ord v) := by
    intro v w hv hl
    have hl' : Lk nb fr' v w := ⟨hl.1, fun u hu => hl.2 u (List.mem_cons_of_mem _ hu)⟩
    rcases hfr with rfl | ⟨u, t, l, rfl, rfl, ht⟩
    · exact .inl hl'
    · rcases lk_next h ht hl' with h' | ⟨rfl, rfl⟩
      · exact .inl h'
      · exact .inr ⟨rfl, (v, u + 1), List.mem_cons_self .., rfl, h.topGreat⟩
  have hnolk : ∀ w, ¬ Lk nb ((k, 0) :: fr') k w := fun w hl => by
    have := hl.2 0 (List.mem_cons_self ..)
    simp at this
  refine { rise := ?_, inn := ?_, opn := ?_, onx := ?_, inj := ?_, cnt := ?_, mny := ?_, vis := ?_, frd := ?_, fro := ?_, frr := ?_, lowr := ?_, lows := ?_, base := ?_, seen := ?_, back := ?_, clos := ?_, cgrp := ?_, cmem := ?_, csam := ?_ }
  · show (s.op ++ [k]).Pairwise _
    rw [List.pairwise_append]
    refine ⟨h.rise.imp_of_mem fun ha hb hab => ?_, List.pairwise_singleton _ _, fun a ha b hb => ?_⟩
    · rw [enter_ord (hne _ ha), enter_ord (hne _ hb)]; exact hab
    · rw [List.mem_singleton] at hb; subst hb
      rw [enter_ord (hne _ ha), enter_ordk]
      have := h.onx a
      omega
  · intro x
    rw [enter_op, ← h.inn]
    show updN s.inn k true x = true ↔ _
    by_cases hx : x = k
    · subst hx; simp [updN_same]
    · rw [updN_other _ _ hx]; simp [hx]
  · intro x hx
    rcases enter_op.1 hx with hx | rfl
    · rw [enter_ord (hne _ hx)]; exact h.opn x hx
    · rw [enter_ordk]; exact ⟨hk, Nat.succ_pos _⟩
  · intro x
    show (enterS s k).ord x ≤ s.nx + 1
    by_cases hx : x = k
    · subst hx; rw [enter_ordk]; exact Nat.le_refl _
    · rw [enter_ord hx]; have := h.onx x; omega
  · intro a b ha hab
    by_cases hak : a = k
    · by_cases hbk : b = k
      · rw [hak, hbk]
      · subst hak
        rw [enter_ordk, enter_ord hbk] at hab
        have := h.onx b; omega
    · by_cases hbk : b = k
      · subst hbk
        rw [enter_ordk, enter_ord hak] at hab
        have := h.onx a; omega
      · rw [enter_ord hak] at ha hab
        rw [enter_ord hbk] at hab
        exact h.inj a b ha hab
  · show s.nx + 1 + zeros n (updN s.ord k (s.nx + 1)) = n
    have := zeros_updN (y := s.nx + 1) hk h0 (by omega)
    have := h.cnt
    omega
  · show s.mny + (s.op ++ [k]).length ≤ s.nx + 1
    rw [List.length_append]; have := h.mny; simp only [List.length_singleton]; omega
  · intro x hx
    by_cases hxk : x = k
    · rw [hxk]; exact hk
    · rw [enter_ord hxk] at hx; exact h.vis x hx
  · refine List.pairwise_cons.2 ⟨fun p hp => ?_, ?_⟩
    · show (enterS s k).ord p.1 < (enterS s k).ord k
      rw [enter_ordk, enter_ord (hne _ (hfop p hp))]
      have := h.onx p.1; omega
    · have : fr'.Pairwise (fun a b => s.ord b.1 < s.ord a.1) := by
        rcases hfr with rfl | ⟨u, t, l, rfl, rfl, _⟩
        · exact h.frd
        · have := List.pairwise_cons.1 h.frd
          exact List.pairwise_cons.2 ⟨this.1, this.2⟩
      refine this.imp_of_mem fun ha hb hab => ?_
      rw [enter_ord (hne _ (hfop _ ha)), enter_ord (hne _ (hfop _ hb))]; exact hab
  · intro p hp
    rcases List.mem_cons.1 hp with rfl | hp
    · exact ⟨enter_op.2 (.inr rfl), Nat.zero_le _⟩
    · refine ⟨enter_op.2 (.inl (hfop p hp)), ?_⟩
      rcases hfr with rfl | ⟨u, t, l, rfl, rfl, ht⟩
      · exact (h.fro p hp).2
      · rcases List.mem_cons.1 hp with rfl | hp
        · exact (List.getElem?_eq_some_iff.1 ht).1
        · exact (h.fro p (List.mem_cons_of_mem _ hp)).2
  · intro p hp v hv hle
    rcases List.mem_cons.1 hp with rfl | hp2
    · rcases enter_op.1 hv with hv | rfl
      · rw [enter_ordk, enter_ord (hne _ hv)] at hle
        have := h.onx v; omega
      · exact .refl _
    · have hpo := hfop p hp2
      rcases enter_op.1 hv with hv | rfl
      · rw [enter_ord (hne _ hv), enter_ord (hne _ hpo)] at hle
        obtain ⟨q, hq, e⟩ := hmem p hp2
        rw [← e] at hle ⊢
        exact h.frr q hq v hv hle
      · rcases hfr with rfl | ⟨u, t, l, rfl, rfl, ht⟩
        · have hnil := hemp rfl
          exact absurd hp2 (by rw [hnil]; exact List.not_mem_nil)
        · obtain ⟨q, hq, e⟩ := hmem p hp2
          rw [← e]
          exact .step (h.frr q hq t (h.fro (t, u) (List.mem_cons_self ..)).1 (h.topGreat q hq)) (List.mem_of_getElem? ht)
  · intro v hv
    rcases enter_op.1 hv with hv | rfl
    · rw [enter_low (hne _ hv), enter_ord (hne _ hv)]
      obtain ⟨h1, w, h2, h3, h4⟩ := h.lowr v hv
      exact ⟨h1, w, enter_op.2 (.inl h2), by rw [enter_ord (hne _ h2)]; exact h3, h4⟩
    · rw [enter_lowk, enter_ordk]
      exact ⟨Nat.le_refl _, v, enter_op.2 (.inr rfl), enter_ordk, .refl _⟩
  · intro v hv hn
    rcases enter_op.1 hv with hv | rfl
    · rw [enter_low (hne _ hv), enter_ord (hne _ hv)]
      refine h.lows v hv fun u hu => ?_
      obtain ⟨q, hq, e⟩ := hmem' _ hu
      refine hn q.2 (List.mem_cons_of_mem _ ?_)
      have : (v, q.2) = q := by cases q; cases e; rfl
      rw [this]; exact hq
    · exact absurd (List.mem_cons_self ..) (hn 0)
  · intro v hv
    rcases enter_op.1 hv with hv | rfl
    · obtain ⟨p, hp, hle⟩ := h.base v hv
      obtain ⟨q, hq, e⟩ := hmem' p hp
      refine ⟨q, List.mem_cons_of_mem _ hq, ?_⟩
      rw [enter_ord (hne _ hv), e, enter_ord (hne _ (h.fro p hp).1)]; exact hle
    · exact ⟨(v, 0), List.mem_cons_self .., Nat.le_refl _⟩
  · intro v hv w hl
    rcases enter_op.1 hv with hv | rfl
    · rcases hlk v w (hne _ hv) hl with hl | ⟨rfl, _⟩
      · have := h.seen v hv w hl
        rw [enter_ord (hvis w this)]; exact this
      · rw [enter_ordk]; omega
    · exact absurd hl (hnolk w)
  · intro v hv w hw hl p hp hle hmax
    rcases enter_op.1 hv with hv | rfl
    · have hvk := hne _ hv
      rw [enter_ord hvk] at hle
      have hp' : p ∈ fr' := by
        rcases List.mem_cons.1 hp with rfl | hp
        · rw [enter_ordk] at hle
          have := h.onx v; omega
        · exact hp
      have hpo := hfop p hp'
      rw [enter_ord (hne _ hpo)] at hle
      rw [enter_low (hne _ hpo)]
      rcases hlk v w hvk hl with hl | ⟨rfl, _⟩
      · have hw0 := h.seen v hv w hl
        have hwk := hvis w hw0
        have hwo : w ∈ s.op := by
          rcases enter_op.1 hw with hw | rfl
          · exact hw
          · exact absurd rfl hwk
        rw [enter_ord hwk]
        obtain ⟨q, hq, e⟩ := hmem p hp'
        rw [← e] at hle ⊢
        refine h.back v hv w hwo hl q hq hle fun q' hq' hle' => ?_
        obtain ⟨q'', hq'', e''⟩ := hmem' q' hq'
        have := hmax q'' (List.mem_cons_of_mem _ hq'') (by rw [e'', enter_ord (hne _ (h.fro q' hq').1), enter_ord hvk]; exact hle')
        rw [e'', enter_ord (hne _ (h.fro q' hq').1), enter_ord (hne _ hpo), ← e] at this
        exact this
      · rw [enter_ordk]
        have h1 := (h.lowr p.1 hpo).1
        have h2 := h.onx p.1
        omega
    · exact absurd hl (hnolk w)
  · intro x hx hxo w hw
    have hxk : x ≠ k := fun e => hxo (enter_op.2 (.inr e))
    rw [enter_ord hxk] at hx
    obtain ⟨h1, h2⟩ := h.clos x hx (fun hm => hxo (enter_op.2 (.inl hm))) w hw
    have hwk := hvis w h1
    refine ⟨by rw [enter_ord hwk]; exact h1, fun hm => ?_⟩
    rcases enter_op.1 hm with hm | e
    · exact h2 hm
    · exact hwk e
  · intro x hx hxo
    have hxk : x ≠ k := fun e => hxo (enter_op.2 (.inr e))
    rw [enter_ord hxk] at hx
    exact h.cgrp x hx (fun hm => hxo (enter_op.2 (.inl hm)))
  · intro g hg
    obtain ⟨x, h1, h2, h3, h4⟩ := h.cmem g hg
    have hxk := hvis x h2
    refine ⟨x, h1, by rw [enter_ord hxk]; exact h2, fun hm => ?_, h4⟩
    rcases enter_op.1 hm with hm | e
    · exact h3 hm
    · exact hxk e
  · intro x y hx hxo hy hyo
    have hxk : x ≠ k := fun e => hxo (enter_op.2 (.inr e))
    have hyk : y ≠ k := fun e => hyo (enter_op.2 (.inr e))
    rw [enter_ord hxk] at hx
    rw [enter_ord hyk] at hy
    exact h.csam x y hx (fun hm => hxo (enter_op.2 (.inl hm))) hy (fun hm => hyo (enter_op.2 (.inl hm)))

/-- One that leads back further stays open. -/
theorem Inv.stay {k1 u1 : Nat} (h : Inv n nb s ((k, u) :: (k1, u1) :: fr)) (hu : (nb k).length ≤ u) (hlo : s.low k ≠ s.ord k) : Inv n nb (lowS s k1 (s.low k)) ((k1, u1) :: fr) := by
  have hko := (h.fro _ (List.mem_cons_self ..)).1
  have hk1o := (h.fro (k1, u1) (List.mem_cons_of_mem _ (List.mem_cons_self ..))).1
  have hlt : s.ord k1 < s.ord k := (List.pairwise_cons.1 h.frd).1 (k1, u1) (List.mem_cons_self ..)
  have hfrd := (List.pairwise_cons.1 h.frd).2
  have hle : ∀ v, (lowS s k1 (s.low k)).low v ≤ s.low v := by
    intro v
    show updN s.low k1 _ v ≤ _
    by_cases hv : v = k1
    · subst hv; rw [updN_same]; omega
    · rw [updN_other _ _ hv]; exact Nat.le_refl _
  have hlk1 : (lowS s k1 (s.low k)).low k1 ≤ s.low k := by
    show updN s.low k1 _ k1 ≤ _
    rw [updN_same]; omega
  have hlk : ∀ v w, Lk nb ((k1, u1) :: fr) v w → Lk nb ((k, u) :: (k1, u1) :: fr) v w := by
    intro v w hl
    refine ⟨hl.1, fun u' hu' => ?_⟩
    rcases List.mem_cons.1 hu' with e | e
    · cases e
      rw [List.take_of_length_le hu]; exact hl.1
    · exact hl.2 u' e
  have hup : ∀ q ∈ (k1, u1) :: fr, s.ord q.1 ≤ s.ord k1 := by
    intro q hq
    rcases List.mem_cons.1 hq with rfl | hq
    · exact Nat.le_refl _
    · exact Nat.le_of_lt ((List.pairwise_cons.1 hfrd).1 q hq)
  refine { h with frd := hfrd, fro := fun p hp => h.fro p (List.mem_cons_of_mem _ hp), frr := fun p hp => h.frr p (List.mem_cons_of_mem _ hp), lowr := ?_, lows := ?_, base := ?_, seen := fun v hv w hl => h.seen v hv w (hlk v w hl), back := ?_ }
  · intro v hv
    refine ⟨Nat.le_trans (hle v) (h.lowr v hv).1, ?_⟩
    by_cases hvk : v = k1
    · subst hvk
      show ∃ w ∈ s.op, s.ord w = updN s.low v _ v ∧ _
      rw [updN_same]
      rcases Nat.le_total (s.low v) (s.low k) with hc | hc
      · rw [Nat.min_eq_left hc]; exact (h.lowr v hv).2
      · rw [Nat.min_eq_right hc]
        obtain ⟨w, h1, h2, h3⟩ := (h.lowr k hko).2
        exact ⟨w, h1, h2, .trans (h.frr (v, u1) (List.mem_cons_of_mem _ (List.mem_cons_self ..)) k hko (Nat.le_of_lt hlt)) h3⟩
    · show ∃ w ∈ s.op, s.ord w = updN s.low k1 _ v ∧ _
      rw [updN_other _ _ hvk]; exact (h.lowr v hv).2
  · intro v hv hn
    refine Nat.lt_of_le_of_lt (hle v) ?_
    by_cases hvk : v = k
    · subst hvk
      exact Nat.lt_of_le_of_ne (h.lowr v hv).1 hlo
    · refine h.lows v hv fun u' hu' => ?_
      rcases List.mem_cons.1 hu' with e | e
      · cases e; exact hvk rfl
      · exact hn u' e
  · intro v hv
    obtain ⟨p, hp, hle⟩ := h.base v hv
    rcases List.mem_cons.1 hp with rfl | hp
    · exact ⟨(k1, u1), List.mem_cons_self .., Nat.le_trans (Nat.le_of_lt hlt) hle⟩
    · exact ⟨p, hp, hle⟩
  · intro v hv w hw hl p hp hlo' hmax
    have hl' := hlk v w hl
    by_cases hkv : s.ord k ≤ s.ord v
    · have h1 := h.back v hv w hw hl' (k, u) (List.mem_cons_self ..) hkv (fun q hq _ => h.topGreat q hq)
      have h2 := hmax (k1, u1) (List.mem_cons_self ..) (show s.ord k1 ≤ s.ord v by omega)
      have h3 : s.ord p.1 = s.ord k1 := Nat.le_antisymm (hup p hp) h2
      have h4 : p.1 = k1 := h.inj _ _ (by rw [h3]; exact (h.opn k1 hk1o).2) h3
      rw [h4]
      exact Nat.le_trans hlk1 h1
    · refine Nat.le_trans (hle _) (h.back v hv w hw hl' p (List.mem_cons_of_mem _ hp) hlo' fun q hq hq2 => ?_)
      rcases List.mem_cons.1 hq with rfl | hq
      · exact absurd hq2 hkv
      · exact hmax q hq hq2

/-- The only one leads back to itself. -/
theorem Inv.lone (h : Inv n nb s [(k, u)]) : s.low k = s.ord k := by
  have hko := (h.fro _ (List.mem_cons_self ..)).1
  obtain ⟨h1, w, h2, h3, _⟩ := h.lowr k hko
  obtain ⟨p, hp, hle⟩ := h.base w h2
  rw [List.mem_singleton] at hp
  subst hp
  simp only at hle
  omega
/-- One that leads back to itself alone tells the one ahead nothing. -/
theorem Inv.same {k1 u1 : Nat} (h : Inv n nb s ((k, u) :: (k1, u1) :: fr)) (hlo : s.low k = s.ord k) : lowS s k1 (s.low k) = s := by
  have hk1o := (h.fro (k1, u1) (List.mem_cons_of_mem _ (List.mem_cons_self ..))).1
  have hlt : s.ord k1 < s.ord k := (List.pairwise_cons.1 h.frd).1 (k1, u1) (List.mem_cons_self ..)
  have h1 := (h.lowr k1 hk1o).1
  have : updN s.low k1 (min (s.low k1) (s.low k)) = s.low := by
    funext i
    by_cases hi : i = k1
    · subst hi; rw [updN_same]; omega
    · rw [updN_other _ _ hi]
  unfold lowS
  rw [this]

/-- A group is closed. -/
theorem Inv.close (h : Inv n nb s ((k, u) :: fr)) (hu : (nb k).length ≤ u) (hlo : s.low k = s.ord k) {a b : List Nat} (hop : s.op = a ++ k :: b) : Inv n nb (closeS s a (k :: b)) fr := by
  have hko := (h.fro _ (List.mem_cons_self ..)).1
  have hrise := h.rise
  rw [hop] at hrise
  obtain ⟨ha, hb, hab⟩ := List.pairwise_append.1 hrise
  obtain ⟨hkb, hb'⟩ := List.pairwise_cons.1 hb
  have hcs : ∀ x, x ∈ k :: b ↔ x ∈ s.op ∧ s.ord k ≤ s.ord x := by
    intro x
    constructor
    · intro hx
      refine ⟨by rw [hop]; exact List.mem_append_right _ hx, ?_⟩
      rcases List.mem_cons.1 hx with rfl | hx
      · exact Nat.le_refl _
      · exact Nat.le_of_lt (hkb x hx)
    · rintro ⟨hx, hle⟩
      rw [hop] at hx
      rcases List.mem_append.1 hx with hx | hx
      · have := hab x hx k (List.mem_cons_self ..)
        omega
      · exact hx
  have hca : ∀ x, x ∈ a ↔ x ∈ s.op ∧ s.ord x < s.ord k := by
    intro x
    constructor
    · intro hx
      exact ⟨by rw [hop]; exact List.mem_append_left _ hx, hab x hx k (List.mem_cons_self ..)⟩
    · rintro ⟨hx, hlt⟩
      rw [hop] at hx
      rcases List.mem_append.1 hx with hx | hx
      · exact hx
      · have := ((hcs x).1 hx).2
        omega
  have hall : ∀ v ∈ k :: b, ∀ w ∈ nb v, Lk nb ((k, u) :: fr) v w := by
    intro v hv w hw
    refine ⟨hw, fun u' hu' => ?_⟩
    rcases List.mem_cons.1 hu' with e | e
    · cases e
      rw [List.take_of_length_le hu]; exact hw
    · have h1 := ((hcs v).1 hv).2
      have h2 : s.ord v < s.ord k := (List.pairwise_cons.1 h.frd).1 _ e
      omega
  have hopen : ∀ v ∈ k :: b, ∀ w ∈ nb v, w ∈ s.op → w ∈ k :: b := by
    intro v hv w hw hwo
    have hv' := (hcs v).1 hv
    have := h.back v hv'.1 w hwo (hall v hv w hw) (k, u) (List.mem_cons_self ..) hv'.2 (fun q hq _ => h.topGreat q hq)
    refine (hcs w).2 ⟨hwo, ?_⟩
    simp only at this
    omega
  have hvisw : ∀ v ∈ k :: b, ∀ w ∈ nb v, s.ord w ≠ 0 := fun v hv w hw => h.seen v ((hcs v).1 hv).1 w (hall v hv w hw)
  -- what the group reaches is in it, or was closed
  have hreach : ∀ v w, v ∈ k :: b → Rch nb v w → w ∈ k :: b ∨ (s.ord w ≠ 0 ∧ w ∉ s.op) := by
    intro v w hv hr
    refine hr.inv (Q := fun x => x ∈ k :: b ∨ (s.ord x ≠ 0 ∧ x ∉ s.op)) ?_ (.inl hv)
    rintro x (hx | ⟨hx, hxo⟩) y hy
    · by_cases hyo : y ∈ s.op
      · exact .inl (hopen x hx y hy hyo)
      · exact .inr ⟨hvisw x hx y hy, hyo⟩
    · exact .inr (h.clos x hx hxo y hy)
  have hcl : ∀ v w, s.ord v ≠ 0 → v ∉ s.op → Rch nb v w → s.ord w ≠ 0 ∧ w ∉ s.op := by
    intro v w h1 h2 hr
    exact hr.inv (Q := fun x => s.ord x ≠ 0 ∧ x ∉ s.op) (fun x hx y hy => h.clos x hx.1 hx.2 y hy) ⟨h1, h2⟩
  have hkk : k ∈ k :: b := List.mem_cons_self ..
  have hdown : ∀ m v, s.ord v ≤ m → v ∈ k :: b → Rch nb v k := by
    intro m
    induction m with
    | zero => intro v hm hv; have := (h.opn v ((hcs v).1 hv).1).2; omega
    | succ m ih =>
      intro v hm hv
      by_cases hvk : v = k
      · subst hvk; exact .refl _
      · have hv' := (hcs v).1 hv
        have hnf : ∀ u', (v, u') ∉ (k, u) :: fr := by
          intro u' hu'
          have := h.topGreat _ hu'
          exact hvk (h.inj v k (h.opn v hv'.1).2 (Nat.le_antisymm this hv'.2))
        have hlt := h.lows v hv'.1 hnf
        obtain ⟨_, w, h2, h3, h4⟩ := h.lowr v hv'.1
        have hw : w ∈ k :: b := by
          rcases hreach v w hv h4 with hw | hw
          · exact hw
          · exact absurd h2 hw.2
        exact .trans h4 (ih w (by omega) hw)
  have hfr : ∀ p ∈ fr, p.1 ∈ a := fun p hp => (hca _).2 ⟨(h.fro p (List.mem_cons_of_mem _ hp)).1, (List.pairwise_cons.1 h.frd).1 p hp⟩
  have hsub : ∀ x ∈ a, x ∈ s.op := fun x hx => ((hca x).1 hx).1
  have hnota : ∀ x, x ∉ a → x ∈ s.op → x ∈ k :: b := by
    intro x hx hxo
    rw [hop] at hxo
    rcases List.mem_append.1 hxo with h1 | h1
    · exact absurd h1 hx
    · exact h1
  have hdisj : ∀ x, x ∈ a → x ∉ k :: b := fun x hx hx' => by
    have h1 := ((hca x).1 hx).2
    have h2 := ((hcs x).1 hx').2
    omega
  have hlk : ∀ v w, Lk nb fr v w → v ∈ a → Lk nb ((k, u) :: fr) v w := by
    intro v w hl hv
    refine ⟨hl.1, fun u' hu' => ?_⟩
    rcases List.mem_cons.1 hu' with e | e
    · cases e
      exact absurd ((hca _).1 hv).2 (Nat.lt_irrefl _)
    · exact hl.2 u' e
  refine { rise := ha, inn := ?_, opn := fun x hx => h.opn x (hsub x hx), onx := h.onx, inj := h.inj, cnt := h.cnt, mny := ?_, vis := h.vis, frd := (List.pairwise_cons.1 h.frd).2, fro := fun p hp => ⟨hfr p hp, (h.fro p (List.mem_cons_of_mem _ hp)).2⟩, frr := fun p hp v hv => h.frr p (List.mem_cons_of_mem _ hp) v (hsub v hv), lowr := ?_, lows := ?_, base := ?_, seen := fun v hv w hl => h.seen v (hsub v hv) w (hlk v w hl hv), back := ?_, clos := ?_, cgrp := ?_, cmem := ?_, csam := ?_ }
  · intro x
    show (s.inn x && !((k :: b).contains x)) = true ↔ x ∈ a
    rw [Bool.and_eq_true, h.inn, Bool.not_eq_true', ← Bool.not_eq_true, List.contains_iff_mem]
    constructor
    · rintro ⟨h1, h2⟩
      rw [hop] at h1
      rcases List.mem_append.1 h1 with h1 | h1
      · exact h1
      · exact absurd h1 h2
    · intro hx; exact ⟨hsub x hx, hdisj x hx⟩
  · show s.mny + 1 + a.length ≤ s.nx
    have := h.mny
    rw [hop, List.length_append, List.length_cons] at this
    omega
  · intro v hv
    obtain ⟨h1, w, h2, h3, h4⟩ := h.lowr v (hsub v hv)
    exact ⟨h1, w, (hca w).2 ⟨h2, by have := ((hca v).1 hv).2; omega⟩, h3, h4⟩
  · intro v hv hn
    refine h.lows v (hsub v hv) fun u' hu' => ?_
    rcases List.mem_cons.1 hu' with e | e
    · cases e
      exact absurd ((hca _).1 hv).2 (Nat.lt_irrefl _)
    · exact hn u' e
  · intro v hv
    obtain ⟨p, hp, hle⟩ := h.base v (hsub v hv)
    rcases List.mem_cons.1 hp with rfl | hp
    · have h1 := ((hca v).1 hv).2
      have h2 : s.ord k ≤ s.ord v := hle
      omega
    · exact ⟨p, hp, hle⟩
  · intro v hv w hw hl p hp hlo' hmax
    refine h.back v (hsub v hv) w (hsub w hw) (hlk v w hl hv) p (List.mem_cons_of_mem _ hp) hlo' fun q hq hq2 => ?_
    rcases List.mem_cons.1 hq with rfl | hq
    · have h1 := ((hca v).1 hv).2
      have h2 : s.ord k ≤ s.ord v := hq2
      omega
    · exact hmax q hq hq2
  · intro x hx hxa w hw
    by_cases hxo : x ∈ s.op
    · have hxs := hnota x hxa hxo
      refine ⟨hvisw x hxs w hw, fun hwa => ?_⟩
      exact hdisj w hwa (hopen x hxs w hw (hsub w hwa))
    · obtain ⟨h1, h2⟩ := h.clos x hx hxo w hw
      exact ⟨h1, fun hwa => h2 (hsub w hwa)⟩
  · intro x hx hxa
    show (if (k :: b).contains x = true then s.mny else s.grp x) < s.mny + 1
    split
    · omega
    · rename_i hc
      rw [List.contains_iff_mem] at hc
      have := h.cgrp x hx fun hxo => hc (hnota x hxa hxo)
      omega
  · intro g hg
    show ∃ x, x < n ∧ s.ord x ≠ 0 ∧ x ∉ a ∧ (if (k :: b).contains x = true then s.mny else s.grp x) = g
    by_cases hgm : g = s.mny
    · have := h.opn k hko
      exact ⟨k, this.1, by omega, fun hk => hdisj k hk hkk, by rw [if_pos (List.contains_iff_mem.2 hkk), hgm]⟩
    · obtain ⟨x, h1, h2, h3, h4⟩ := h.cmem g (by have : g < s.mny + 1 := hg; omega)
      refine ⟨x, h1, h2, fun hx => h3 (hsub x hx), ?_⟩
      rw [if_neg, h4]
      rw [List.contains_iff_mem]
      exact fun hx => h3 ((hcs x).1 hx).1
  · intro x y hx hxa hy hya
    show ((if (k :: b).contains x = true then s.mny else s.grp x) = (if (k :: b).contains y = true then s.mny else s.grp y)) ↔ _
    by_cases hxs : x ∈ k :: b
    · rw [if_pos (List.contains_iff_mem.2 hxs)]
      by_cases hys : y ∈ k :: b
      · rw [if_pos (List.contains_iff_mem.2 hys)]
        have hx' := (hcs x).1 hxs
        have hy' := (hcs y).1 hys
        have kx := h.frr (k, u) (List.mem_cons_self ..) x hx'.1 hx'.2
        have ky := h.frr (k, u) (List.mem_cons_self ..) y hy'.1 hy'.2
        exact ⟨fun _ => ⟨.trans (hdown _ x (Nat.le_refl _) hxs) ky, .trans (hdown _ y (Nat.le_refl _) hys) kx⟩, fun _ => rfl⟩
      · rw [if_neg (by rw [List.contains_iff_mem]; exact hys)]
        have hyo : y ∉ s.op := fun h' => hys (hnota y hya h')
        have := h.cgrp y hy hyo
        refine ⟨fun e => by omega, fun ⟨_, h2⟩ => ?_⟩
        exact absurd ((hcs x).1 hxs).1 (hcl y x hy hyo h2).2
    · rw [if_neg (by rw [List.contains_iff_mem]; exact hxs)]
      have hxo : x ∉ s.op := fun h' => hxs (hnota x hxa h')
      by_cases hys : y ∈ k :: b
      · rw [if_pos (List.contains_iff_mem.2 hys)]
        have := h.cgrp x hx hxo
        refine ⟨fun e => by omega, fun ⟨h1, _⟩ => ?_⟩
        exact absurd ((hcs y).1 hys).1 (hcl x y hx hxo h1).2
      · rw [if_neg (by rw [List.contains_iff_mem]; exact hys)]
        exact h.csam x y hx hxo hy (fun h' => hys (hnota y hya h'))
end
end Go.Proofs.Ytglemgdlkddjhaa.Vm
