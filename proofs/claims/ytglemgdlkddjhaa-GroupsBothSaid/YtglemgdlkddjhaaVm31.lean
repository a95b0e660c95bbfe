/-
The value machine, part 31: numbers and rows of numbers as a law is handed them.
-/
import Derived.Test.YtglemgdlkddjhaaVm30
import Derived.Test.YtglemgdlkddjhaaVm24
import Derived.SizedLaws
import Derived.WideShapes
namespace Go.Proofs.Ytglemgdlkddjhaa.Vm
open Go Go.RowKit Go.WideShapes

/-- What one value's reading weighs. -/
def Light {H : Type} (P : Program) (t : TypeId) (d : DataW H) : Prop := (d.weights P t).all (· ≤ reachBytes) = true
theorem light_each {H : Type} {P : Program} : ∀ {ts : List TypeId} {ds : List (DataW H)}, (DataW.weightsEach P ts ds).all (· ≤ reachBytes) = true → ∀ {j : Nat} {t : TypeId} {d : DataW H}, ts[j]? = some t → ds[j]? = some d → Light P t d
  | [], _, _, j, t, d, ht, _ => by simp at ht
  | _ :: _, [], _, j, t, d, _, hd => by simp at hd
  | t0 :: ts, d0 :: ds, h, j, t, d, ht, hd => by
    unfold DataW.weightsEach at h
    rw [List.all_append, Bool.and_eq_true] at h
    match j with
    | 0 => simp at ht hd; subst ht hd; exact h.1
    | j + 1 => exact light_each h.2 (j := j) (by simpa using ht) (by simpa using hd)
theorem light_all {H : Type} {P : Program} {e : TypeId} : ∀ {ds : List (DataW H)}, (DataW.weightsAll P e ds).all (· ≤ reachBytes) = true → ∀ d ∈ ds, Light P e d
  | [], _, d, hd => by cases hd
  | d0 :: ds, h, d, hd => by
    unfold DataW.weightsAll at h
    rw [List.all_append, Bool.and_eq_true] at h
    rcases List.mem_cons.1 hd with rfl | hd
    · exact h.1
    · exact light_all h.2 d hd
theorem light_slice {H : Type} {P : Program} {t e : TypeId} {elems spare : List (DataW H)} (hu : P.underlying t = some (.slice e)) (h : Light P t (.slice elems spare)) : elems.length * P.bytesOf e ≤ reachBytes ∧ ∀ d ∈ elems, Light P e d := by
  unfold Light at h
  simp only [DataW.weights, hu, List.all_cons, Bool.and_eq_true, decide_eq_true_eq, List.all_append] at h
  refine ⟨Nat.le_trans (Nat.mul_le_mul_right _ (Nat.le_add_right _ _)) h.1, light_all h.2.1⟩

theorem ex_list {α β : Type} {f : α → β} {p : α → Prop} : ∀ {xs : List β}, (∀ x ∈ xs, ∃ a, x = f a ∧ p a) → ∃ l : List α, xs = l.map f ∧ ∀ a ∈ l, p a
  | [], _ => ⟨[], rfl, fun _ h => by cases h⟩
  | x :: xs, h => by
    obtain ⟨a, rfl, ha⟩ := h x (List.mem_cons_self ..)
    obtain ⟨l, rfl, hl⟩ := ex_list fun y hy => h y (List.mem_cons_of_mem _ hy)
    exact ⟨a :: l, rfl, fun b hb => by
      rcases List.mem_cons.1 hb with rfl | hb
      · exact ha
      · exact hl b hb⟩

section
variable {P : Program} {w : World} {H : Type} {enc : TypeId × Value → H} {sp : Nat → Bool} {held : Bool}
theorem reads_sl {t e : TypeId} (hu : P.underlying t = some (.slice e)) {α : Type} {f : α → List V} {p : α → Prop} (hb : 1 ≤ P.bytesOf e) (he : Reads P enc sp held w e fun d vs => Light P e d → ∃ a, vs = f a ∧ p a) :
    Reads P enc sp held w t fun d vs => Light P t d → ∃ l : List α, vs = [.sl false (P.cellsOf e) (l.map f)] ∧ l.length ≤ reachBytes ∧ ∀ a ∈ l, p a := by
  intro fuel cs d ps h
  obtain ⟨vs, h1, xs, rfl, h2⟩ := reads_slice hu he fuel cs d ps h
  refine ⟨_, h1, fun hl => ?_⟩
  rcases h2 with ⟨rfl, rfl⟩ | ⟨elems, spare, rfl, h3, h4⟩
  · exact ⟨[], rfl, Nat.zero_le _, fun _ h => by cases h⟩
  · obtain ⟨k1, k2⟩ := light_slice hu hl
    obtain ⟨l, rfl, hp⟩ := ex_list (f := f) (p := p) (xs := xs) fun x hx => by
      obtain ⟨i, hi⟩ := List.mem_iff_getElem?.1 hx
      have hil : i < elems.length := by rw [← h3]; exact (List.getElem?_eq_some_iff.1 hi).1
      have hd := List.getElem?_eq_getElem hil
      exact h4 i _ x hd hi (k2 _ (List.getElem_mem hil))
    refine ⟨l, rfl, ?_, hp⟩
    rw [List.length_map] at h3
    rw [h3]
    exact Nat.le_trans (Nat.le_mul_of_pos_right _ hb) k1
theorem open_slice {t e : TypeId} {r : Reach} {b0 : Nat} {v : Value} {d : DataW H} {ps : List MemPlace} (hu : P.underlying t = some (.slice e)) (hval : Value.okWide P w r b0 t v) {Q : DataW H → List V → Prop} (hr : Reads P enc sp held w t Q)
    (hd : DataW.Trod enc P w 0 sp held t v d ps) : ∃ vs, RepI (immW w) vs [v] ∧ Q d vs := by
  obtain ⟨a, len, cap, rfl⟩ := okWide_slice hu hval
  obtain ⟨fuel, h⟩ := hd
  exact hr fuel _ d ps h
theorem open_intV {t : TypeId} {k : IntKind} {r : Reach} {b0 : Nat} {v : Value} {d : DataW H} {ps : List MemPlace} (hu : P.underlying t = some (.int k)) (hval : Value.okWide P w r b0 t v)
    (hd : DataW.Trod enc P w 0 sp held t v d ps) : ∃ n : Int, RepI (immW w) [.int k n] [v] ∧ d = .lit (.int k n) ∧ (Lit.int k n).wf = true := by
  obtain ⟨n, rfl⟩ := okWide_int hu hval
  obtain ⟨fuel, h⟩ := hd
  obtain ⟨vs, h1, n', h2, h3, h4⟩ := reads_int (w := w) (enc := enc) (sp := sp) (held := held) hu fuel _ d ps h
  subst h4
  have : n' = n := by
    cases h1; rfl
  subst this
  exact ⟨n', h1, h2, h3⟩
theorem open_strV {t : TypeId} {r : Reach} {b0 : Nat} {v : Value} {d : DataW H} {ps : List MemPlace} (hu : P.underlying t = some .string) (hval : Value.okWide P w r b0 t v)
    (hd : DataW.Trod enc P w 0 sp held t v d ps) : ∃ l : List UInt8, RepI (immW w) [.str l] [v] ∧ d = .lit (.string l) := by
  obtain ⟨n, rfl⟩ := okWide_string hu hval
  obtain ⟨fuel, h⟩ := hd
  obtain ⟨vs, h1, l, h2, h4⟩ := reads_str (w := w) (enc := enc) (sp := sp) (held := held) hu fuel _ d ps h
  subst h4
  exact ⟨l, h1, h2⟩
end
end Go.Proofs.Ytglemgdlkddjhaa.Vm
