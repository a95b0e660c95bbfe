/-
The value machine, part 24: a law's arguments stand for values; what a law answers.
-/
import Derived.Test.YtglemgdlkddjhaaVm23
import Derived.ChangeOld
import Derived.Below
import Derived.RowKit
import Derived.ChangeBook
import Derived.ChangeStays
import Derived.ChangeShapes
namespace Go.Proofs.Ytglemgdlkddjhaa.Vm
open Go Go.RowKit

def immW (w : World) (b o : Nat) : Option Value := match w.heap[b]? with
  | some (.cells c _ _) => c[o]?
  | _ => none
def gh0 (w : World) : Gh := ⟨immW w, []⟩
def own0 (w : World) (b : Nat) : Option Place := if b < w.heap.size then some .frame else none

theorem ok0 (w : World) : Ok w (gh0 w) (own0 w) [] := by
  refine ⟨fun b o v h => ?_, fun b p h => ?_, rfl, fun i ob h => by simp at h⟩
  · simp only [gh0, immW] at h
    split at h
    · rename_i c e f hc; exact ⟨c, e, f, hc, h⟩
    · cases h
  · unfold own0 at h; split at h
    · assumption
    · cases h

section
variable {P : Program} {w : World}

/-- WHAT A LAW ANSWERS. -/
theorem T.below {f : Nat} {vs : List V} (h : T P f vs [] (.bool true) []) {cs : Array Value} (hr : RepI (immW w) vs cs.toList) : Calls P f cs w fun e w' => e = .returned (.bool true) ∧ Below w.heap.size w w' := by
  refine (h.2 w (gh0 w) (own0 w) cs [] (ok0 w) (RepI.toL hr) List.nodup_nil (fun _ h => by cases h)).mono ?_
  rintro e w' ⟨c, rfl, G', own', bl, _, h2, _, _, h5⟩
  obtain ⟨cs', hcs, _⟩ := h2.bool_inv
  obtain ⟨rfl, _⟩ := List.cons.inj hcs
  refine ⟨rfl, h5.os, h5.tape, h5.out, h5.size, fun k hk => ?_⟩
  exact (h5.fixed k (by simp only [own0, if_pos hk])).1

theorem Addr.add_add (a : Addr) (x y : Nat) : (a.add x).add y = a.add (x + y) := by
  unfold Addr.add
  by_cases hx : x = 0
  · subst hx; simp
  · by_cases hy : y = 0
    · subst hy; simp [hx]
    · simp [hx, hy, Nat.add_assoc]

theorem cell_imm {a : Addr} {v : Value} (h : w.cell? a = some v) : a.spot = none ∧ immW w a.block a.off = some v := by
  unfold World.cell? at h
  unfold immW
  split at h
  · rename_i c e f hc
    split at h
    · cases h
    · rename_i hs
      rw [hc]
      exact ⟨by cases hh : a.spot with
        | none => rfl
        | some _ => rw [hh] at hs; simp at hs, h⟩
  · cases h

theorem mapM_some {α β : Type} {f : α → Option β} : ∀ {l : List α} {ys : List β}, l.mapM f = some ys → ys.length = l.length ∧ ∀ (i : Nat) (x : α), l[i]? = some x → ∃ y, ys[i]? = some y ∧ f x = some y
  | [], ys, h => by
    cases h
    exact ⟨rfl, fun i x h => by simp at h⟩
  | a :: l, ys, h => by
    rw [List.mapM_cons] at h
    obtain ⟨y, h1, h⟩ := Option.bind_eq_some_iff.1 h
    obtain ⟨zs, h2, h⟩ := Option.bind_eq_some_iff.1 h
    cases h
    obtain ⟨k1, k2⟩ := mapM_some h2
    refine ⟨by simp [k1], fun i x hx => ?_⟩
    match i with
    | 0 => simp at hx; subst hx; exact ⟨y, rfl, h1⟩
    | i + 1 => exact k2 i x (by simpa using hx)

theorem cells_imm {a : Addr} {n : Nat} {cs : List Value} (h : w.cells? 0 a n = some cs) : cs.length = n ∧ ∀ j v, cs[j]? = some v → w.cell? (a.add j) = some v := by
  unfold World.cells? at h
  rw [if_pos (Nat.zero_le _)] at h
  obtain ⟨h1, h2⟩ := mapM_some h
  rw [List.length_range] at h1
  refine ⟨h1, fun j v hv => ?_⟩
  have hj : j < n := by rw [← h1]; exact (List.getElem?_eq_some_iff.1 hv).1
  obtain ⟨y, k1, k2⟩ := h2 j j (by simp [hj])
  rw [hv] at k1; cases k1; exact k2

theorem flat_imm {a : Addr} {k : Nat} : ∀ (csl : List (List Value)) (s : Nat), (∀ i c, csl[i]? = some c → c.length = k ∧ ∀ j v, c[j]? = some v → w.cell? (a.add ((s + i) * k + j)) = some v) →
    ∀ o v, csl.flatten[o]? = some v → w.cell? (a.add (s * k + o)) = some v
  | [], s, _, o, v, h => by simp at h
  | c :: csl, s, hc, o, v, h => by
    obtain ⟨h1, h2⟩ := hc 0 c rfl
    rw [List.flatten_cons] at h
    rcases Nat.lt_or_ge o c.length with ho | ho
    · rw [List.getElem?_append_left ho] at h
      simpa using h2 o v h
    · rw [List.getElem?_append_right ho] at h
      have := flat_imm csl (s + 1) (fun i c' hc' => by
        have := hc (i + 1) c' (by simpa using hc')
        rw [show s + (i + 1) = s + 1 + i by omega] at this; exact this) (o - c.length) v h
      rw [show s * k + o = (s + 1) * k + (o - c.length) by rw [Nat.add_mul]; omega]
      exact this

theorem flat_at {a : Addr} {k : Nat} {csl : List (List Value)} (h : ∀ i c, csl[i]? = some c → c.length = k ∧ ∀ j v, c[j]? = some v → w.cell? (a.add (i * k + j)) = some v) : ImmAt (immW w) a csl.flatten := by
  have hall := flat_imm (w := w) (a := a) (k := k) csl 0 (fun i c hc => by simpa using h i c hc)
  refine ⟨fun hne => ?_, fun i v hv => ?_⟩
  · obtain ⟨v, hv⟩ : ∃ v, csl.flatten[0]? = some v := by
      cases hf : csl.flatten with
      | nil => exact absurd hf hne
      | cons v l => exact ⟨v, rfl⟩
    have := (cell_imm (hall 0 v hv)).1
    simpa [Addr.add] using this
  · have := (cell_imm (hall i v hv)).2
    rw [(add_off a _).1, (add_off a _).2] at this
    simpa using this

variable {H : Type} {enc : TypeId × Value → H} {sp : Nat → Bool} {held : Bool}

abbrev Reads (P : Program) (enc : TypeId × Value → H) (sp : Nat → Bool) (held : Bool) (w : World) (t : TypeId) (Q : DataW H → List V → Prop) : Prop :=
  ∀ fuel cs d ps, DataW.trod enc P w 0 sp held fuel t cs = some (d, ps) → ∃ vs, RepI (immW w) vs cs ∧ Q d vs

theorem reads_int {t : TypeId} {k : IntKind} (hu : P.underlying t = some (.int k)) : Reads P enc sp held w t fun d vs => ∃ n : Int, d = .lit (.int k n) ∧ (Lit.int k n).wf = true ∧ vs = [.int k n] := by
  intro fuel cs d ps h
  cases fuel with
  | zero => cases h
  | succ fuel =>
    unfold DataW.trod at h
    rw [hu] at h
    split at h <;> try (rename_i he; cases he; done)
    all_goals first | (cases h; done) | skip
    rename_i he
    cases he
    split at h
    · rename_i hk
      obtain ⟨rfl, hk⟩ := hk
      cases h
      exact ⟨_, .int _ _ .nil, _, rfl, hk, rfl⟩
    · cases h

theorem reads_bool {t : TypeId} (hu : P.underlying t = some .bool) : Reads P enc sp held w t fun d vs => ∃ b : Bool, d = .lit (.bool b) ∧ vs = [.bool b] := by
  intro fuel cs d ps h
  cases fuel with
  | zero => cases h
  | succ fuel =>
    unfold DataW.trod at h
    rw [hu] at h
    split at h <;> try (rename_i he; cases he; done)
    all_goals first | (cases h; done) | skip
    all_goals cases h; exact ⟨_, .bool _ .nil, _, rfl, rfl⟩

theorem reads_str {t : TypeId} (hu : P.underlying t = some .string) : Reads P enc sp held w t fun d vs => ∃ l : List UInt8, d = .lit (.string l) ∧ vs = [.str l] := by
  intro fuel cs d ps h
  cases fuel with
  | zero => cases h
  | succ fuel =>
    unfold DataW.trod at h
    rw [hu] at h
    split at h <;> try (rename_i he; cases he; done)
    all_goals first | (cases h; done) | skip
    split at h
    · cases h; exact ⟨_, .str _ .nil, _, rfl, rfl⟩
    · cases h

theorem flatten_rep {imm : Nat → Nat → Option Value} : ∀ (xs : List (List V)) (csl : List (List Value)), xs.length = csl.length → (∀ (i : Nat) (x : List V) (c : List Value), xs[i]? = some x → csl[i]? = some c → RepI imm x c) → RepI imm xs.flatten csl.flatten
  | [], [], _, _ => .nil
  | [], _ :: _, h, _ => by cases h
  | _ :: _, [], h, _ => by cases h
  | x :: xs, c :: csl, h, hr => by
    rw [List.flatten_cons, List.flatten_cons]
    exact RepI.append (flatten_rep xs csl (by simpa using h) fun i x c h1 h2 => hr (i + 1) x c (by simpa using h1) (by simpa using h2)) (hr 0 x c rfl rfl)

theorem reads_slice {t e : TypeId} (hu : P.underlying t = some (.slice e)) {Q : DataW H → List V → Prop} (he : Reads P enc sp held w e Q) :
    Reads P enc sp held w t fun d vs => ∃ xs, vs = [.sl false (P.cellsOf e) xs] ∧ ((d = .nil ∧ xs = []) ∨ ∃ elems spare, d = .slice elems spare ∧ xs.length = elems.length ∧ ∀ (i : Nat) (d : DataW H) (x : List V), elems[i]? = some d → xs[i]? = some x → Q d x) := by
  intro fuel cs d ps h
  cases fuel with
  | zero => cases h
  | succ fuel =>
    unfold DataW.trod at h
    rw [hu] at h
    split at h <;> try (rename_i he; cases he; done)
    all_goals first | (cases h; exact ⟨_, .slnil _ .nil, _, rfl, .inl ⟨rfl, rfl⟩⟩) | (cases h; done) | skip
    rename_i e' a len cap hue
    cases hue
    split at h
    · rename_i hb
      obtain ⟨elems, h1, h⟩ := Option.bind_eq_some_iff.1 h
      obtain ⟨rest, h2, h⟩ := Option.map_eq_some_iff.1 h
      obtain ⟨rfl, rfl⟩ := Prod.mk.inj h
      obtain ⟨k1, k2⟩ := mapM_some h1
      rw [List.length_range] at k1
      -- the elements' cells
      have hex : ∀ n, n ≤ len → ∃ (csl : List (List Value)) (xs : List (List V)), csl.length = n ∧ xs.length = n ∧ (∀ (i : Nat) c, csl[i]? = some c → w.cells? 0 (a.add (i * P.cellsOf e)) (P.cellsOf e) = some c) ∧
          (∀ (i : Nat) (x : List V) (c : List Value), xs[i]? = some x → csl[i]? = some c → RepI (immW w) x c) ∧ ∀ (i : Nat) (d : DataW H × List MemPlace) (x : List V), elems[i]? = some d → xs[i]? = some x → Q d.1 x := by
        intro n
        induction n with
        | zero => intro _; exact ⟨[], [], rfl, rfl, fun i c h => by simp at h, fun i x c h => by simp at h, fun i d x _ h => by simp at h⟩
        | succ n ih =>
          intro hn
          obtain ⟨csl, xs, j1, j2, j3, j4, j5⟩ := ih (by omega)
          obtain ⟨y, g1, g2⟩ := k2 n n (by rw [List.getElem?_range (by omega)])
          obtain ⟨c, g3, g4⟩ := Option.bind_eq_some_iff.1 g2
          obtain ⟨x, g5, g6⟩ := he fuel c y.1 y.2 (by rw [g4])
          refine ⟨csl ++ [c], xs ++ [x], by simp [j1], by simp [j2], ?_, ?_, ?_⟩
          · intro i c' hc'
            rcases Nat.lt_or_ge i n with hi | hi
            · rw [List.getElem?_append_left (by omega)] at hc'; exact j3 i c' hc'
            · rw [List.getElem?_append_right (by omega), j1] at hc'
              have : i = n := by
                rcases Nat.lt_or_ge n i with h' | h'
                · rw [List.getElem?_eq_none (by simp; omega)] at hc'; cases hc'
                · omega
              subst this; simp at hc'; subst hc'; exact g3
          · intro i x' c' hx' hc'
            rcases Nat.lt_or_ge i n with hi | hi
            · rw [List.getElem?_append_left (by omega)] at hc' hx'; exact j4 i x' c' hx' hc'
            · rw [List.getElem?_append_right (by omega), j1] at hc'
              rw [List.getElem?_append_right (by omega), j2] at hx'
              have : i = n := by
                rcases Nat.lt_or_ge n i with h' | h'
                · rw [List.getElem?_eq_none (by simp; omega)] at hc'; cases hc'
                · omega
              subst this; simp at hc' hx'; subst hc' hx'; exact g5
          · intro i d' x' hd' hx'
            rcases Nat.lt_or_ge i n with hi | hi
            · rw [List.getElem?_append_left (by omega)] at hx'; exact j5 i d' x' hd' hx'
            · rw [List.getElem?_append_right (by omega), j2] at hx'
              have : i = n := by
                rcases Nat.lt_or_ge n i with h' | h'
                · rw [List.getElem?_eq_none (by simp; omega)] at hx'; cases hx'
                · omega
              subst this; simp at hx'; subst hx'
              rw [g1] at hd'; cases hd'; exact g6
      obtain ⟨csl, xs, j1, j2, j3, j4, j5⟩ := hex len (Nat.le_refl _)
      have himm : ImmAt (immW w) a csl.flatten := flat_at (k := P.cellsOf e) fun i c hc => by
        obtain ⟨g1, g2⟩ := cells_imm (j3 i c hc)
        exact ⟨g1, fun j v hv => by rw [← Addr.add_add]; exact g2 j v hv⟩
      have hrep := flatten_rep xs csl (by rw [j1, j2]) j4
      have hxl : ∀ x ∈ xs, x.length = P.cellsOf e := by
        intro x hx
        obtain ⟨i, hi⟩ := List.mem_iff_getElem?.1 hx
        have hil : i < csl.length := by rw [j1, ← j2]; exact (List.getElem?_eq_some_iff.1 hi).1
        have hc := List.getElem?_eq_getElem hil
        rw [(j4 i x _ hi hc).length]
        exact (cells_imm (j3 i _ hc)).1
      have := RepI.sl (P.cellsOf e) xs a cap hxl himm hrep (by rw [j2]; exact hb.2.1) .nil
      rw [j2] at this
      refine ⟨_, this, xs, rfl, .inr ⟨_, _, rfl, by rw [List.length_map, k1, j2], fun i d x hd hx => ?_⟩⟩
      rw [List.getElem?_map] at hd
      obtain ⟨y, g1, rfl⟩ := Option.map_eq_some_iff.1 hd
      exact j5 i y x g1 hx
    · cases h

/-- What an argument read, it reads behind the call. -/
theorem stays (hl : laidOutB P = true) {w' : World} (hb : Below w.heap.size w w') {ts : List TypeId} (ht : ts.all (fun t => P.readableRec t && decide (t < P.types.size)) = true) :
    ∀ {vs : List Value} {ds : List (DataW H)} {ps : List MemPlace}, DataW.TrodAll enc P w 0 (fun _ => true) true ts vs ds ps → DataW.TrodAll enc P w' 0 (fun b => decide (b < w.heap.size)) true ts vs ds ps := by
  induction ts with
  | nil =>
    intro vs ds ps h
    match vs, ds, h with
    | [], [], h => exact h
  | cons t ts ih =>
    intro vs ds ps h
    match vs, ds, h with
    | v :: vs, d :: ds, h =>
      obtain ⟨p, q, ⟨fuel, h1⟩, h2, rfl⟩ := h
      simp only [List.all_cons, Bool.and_eq_true, decide_eq_true_eq] at ht
      have hlt := DataW.trod_lt fuel t _ _ h1
      exact ⟨p, q, ⟨fuel, DataW.trod_stays (kids_book hl ht.1.1) (book_sized ht.1.1) (fun h => by cases h) ⟨ht.1.2, book_self t⟩ h1 (fun x hx => hb.same (hlt x hx)) (fun x hx => by simpa using hlt x hx)⟩, ih ht.2 h2, rfl⟩
end
end Go.Proofs.Ytglemgdlkddjhaa.Vm
