/-
The value machine, part 3: lists of values that stand for lists of cells: cut, joined, copied.
-/
import Derived.Test.YtglemgdlkddjhaaVm2
namespace Go.Proofs.Ytglemgdlkddjhaa.Vm
open Go

theorem RepI.length {imm : Nat → Nat → Option Value} {vs : List V} {cs : List Value} (h : RepI imm vs cs) : vs.length = cs.length := by
  induction h <;> simp_all

theorem RepL.length {w : World} {G : Gh} {vs : List V} {cs : List Value} {bl : List Nat} (h : RepL w G vs cs bl) : vs.length = cs.length := by
  induction h <;> simp_all

theorem RepI.one {imm : Nat → Nat → Option Value} {vs : List V} {cs : List Value} (h : RepI imm vs cs) : ∀ c ∈ cs, c.oneCell' = true := by
  induction h <;> intro c hc <;> (first | (cases hc; done) | skip) <;> (rcases List.mem_cons.1 hc with rfl | hc) <;> (first | rfl | (rename_i ih; exact ih _ hc) | (rename_i ih _; exact ih _ hc) | (rename_i ih1 ih2; exact ih2 _ hc) | skip)

theorem RepI.cons_inv {imm : Nat → Nat → Option Value} {v : V} {vs : List V} {cs : List Value} (h : RepI imm (v :: vs) cs) :
    ∃ c cs', cs = c :: cs' ∧ RepI imm [v] [c] ∧ RepI imm vs cs' := by
  cases h with
  | int k n h => exact ⟨_, _, rfl, .int k n .nil, h⟩
  | bool b h => exact ⟨_, _, rfl, .bool b .nil, h⟩
  | str b h => exact ⟨_, _, rfl, .str b .nil, h⟩
  | nilp h => exact ⟨_, _, rfl, .nilp .nil, h⟩
  | nilmap h => exact ⟨_, _, rfl, .nilmap .nil, h⟩
  | nilfn h => exact ⟨_, _, rfl, .nilfn .nil, h⟩
  | cptr a ha hr h => exact ⟨_, _, rfl, .cptr a ha hr .nil, h⟩
  | slnil sz h => exact ⟨_, _, rfl, .slnil sz .nil, h⟩
  | sl sz xs a cap hz ha hr hc h => exact ⟨_, _, rfl, .sl sz xs a cap hz ha hr hc .nil, h⟩

theorem RepI.cons {imm : Nat → Nat → Option Value} {v : V} {c : Value} {vs : List V} {cs : List Value} (h1 : RepI imm [v] [c]) (h : RepI imm vs cs) : RepI imm (v :: vs) (c :: cs) := by
  cases h1 with
  | int k n _ => exact .int k n h
  | bool b _ => exact .bool b h
  | str b _ => exact .str b h
  | nilp _ => exact .nilp h
  | nilmap _ => exact .nilmap h
  | nilfn _ => exact .nilfn h
  | cptr a ha hr _ => exact .cptr a ha hr h
  | slnil sz _ => exact .slnil sz h
  | sl sz xs a cap hz ha hr hc _ => exact .sl sz xs a cap hz ha hr hc h

theorem RepI.nil_inv {imm : Nat → Nat → Option Value} {cs : List Value} (h : RepI imm [] cs) : cs = [] := by cases h; rfl

theorem RepI.append {imm : Nat → Nat → Option Value} {v1 v2 : List V} {c2 : List Value} (h2 : RepI imm v2 c2) : ∀ {c1 : List Value}, RepI imm v1 c1 → RepI imm (v1 ++ v2) (c1 ++ c2) := by
  induction v1 with
  | nil => intro c1 h; rw [h.nil_inv]; exact h2
  | cons v vs ih =>
    intro c1 h
    obtain ⟨c, cs, rfl, h1, h⟩ := h.cons_inv
    exact .cons h1 (ih h)

theorem RepI.split {imm : Nat → Nat → Option Value} {v2 : List V} (v1 : List V) : ∀ {cs : List Value}, RepI imm (v1 ++ v2) cs → RepI imm v1 (cs.take v1.length) ∧ RepI imm v2 (cs.drop v1.length) := by
  induction v1 with
  | nil => intro cs h; exact ⟨.nil, h⟩
  | cons v vs ih =>
    intro cs h
    obtain ⟨c, cs, rfl, h1, h⟩ := RepI.cons_inv h
    obtain ⟨a, b⟩ := ih h
    exact ⟨.cons h1 a, b⟩

theorem RepI.take {imm : Nat → Nat → Option Value} {vs : List V} {cs : List Value} (h : RepI imm vs cs) (n : Nat) : RepI imm (vs.take n) (cs.take n) := by
  have e := h
  rw [← List.take_append_drop n vs] at e
  have := (RepI.split _ e).1
  rw [List.length_take, h.length] at this
  by_cases hn : n ≤ cs.length
  · rwa [Nat.min_eq_left hn] at this
  · rw [Nat.min_eq_right (by omega)] at this
    rwa [List.take_of_length_le (by omega : cs.length ≤ n), ← List.take_of_length_le (Nat.le_refl cs.length)]

theorem RepI.drop {imm : Nat → Nat → Option Value} {vs : List V} {cs : List Value} (h : RepI imm vs cs) (n : Nat) : RepI imm (vs.drop n) (cs.drop n) := by
  have e := h
  rw [← List.take_append_drop n vs] at e
  have := (RepI.split _ e).2
  rw [List.length_take, h.length] at this
  by_cases hn : n ≤ cs.length
  · rwa [Nat.min_eq_left hn] at this
  · rw [Nat.min_eq_right (by omega)] at this
    rw [List.drop_of_length_le (by omega : cs.length ≤ n)]
    rwa [List.drop_of_length_le (Nat.le_refl _)] at this

theorem RepL.cons_inv {w : World} {G : Gh} {v : V} {vs : List V} {cs : List Value} {bl : List Nat} (h : RepL w G (v :: vs) cs bl) :
    ∃ c cs' b1 b2, cs = c :: cs' ∧ bl = b1 ++ b2 ∧ RepL w G [v] [c] b1 ∧ RepL w G vs cs' b2 := by
  cases h with
  | u c h => exact ⟨_, _, [], _, rfl, rfl, .u c .nil, h⟩
  | imm _ c h1 h => exact ⟨_, _, [], _, rfl, rfl, .imm _ c h1 .nil, h⟩
  | ptr id ver off b ver' n bb h1 h2 h3 h => exact ⟨_, _, [], _, rfl, rfl, .ptr id ver off b ver' n bb h1 h2 h3 .nil, h⟩
  | hsl id ver off len sz b ver' n bb cap h1 h2 h3 h4 h => exact ⟨_, _, [], _, rfl, rfl, .hsl id ver off len sz b ver' n bb cap h1 h2 h3 h4 .nil, h⟩
  | map id b ver' n bb h1 h2 h => exact ⟨_, _, [], _, rfl, rfl, .map id b ver' n bb h1 h2 .nil, h⟩
  | fn f h1 h => exact ⟨_, _, [], _, rfl, rfl, .fn f h1 .nil, h⟩
  | full sz xs a hz ha hr h => exact ⟨_, _, [], _, rfl, rfl, .full sz xs a hz ha hr .nil, h⟩
  | slnone sz h => exact ⟨_, _, [], _, rfl, rfl, .slnone sz .nil, h⟩
  | nilh sz h => exact ⟨_, _, [], _, rfl, rfl, .nilh sz .nil, h⟩
  | tail sz xs a cap hz ha hr hc ht h => exact ⟨_, _, [_], _, rfl, rfl, .tail sz xs a cap hz ha hr hc ht .nil, h⟩
  | fr sz xs b cap c e hz hw hn hp hr hc hs h => exact ⟨_, _, [_], _, rfl, rfl, .fr sz xs b cap c e hz hw hn hp hr hc hs .nil, h⟩
  | agg hr h => exact ⟨_, _, _, _, rfl, rfl, by simpa using RepL.agg hr .nil, h⟩
  | tup hr h => exact ⟨_, _, _, _, rfl, rfl, by simpa using RepL.tup hr .nil, h⟩

theorem RepL.cons {w : World} {G : Gh} {v : V} {c : Value} {b1 : List Nat} {vs : List V} {cs : List Value} {bl : List Nat} (h1 : RepL w G [v] [c] b1) (h : RepL w G vs cs bl) : RepL w G (v :: vs) (c :: cs) (b1 ++ bl) := by
  cases h1 with
  | u c e => cases e; exact .u c h
  | imm _ c h1 e => cases e; exact .imm _ c h1 h
  | ptr id ver off b ver' n bb h1 h2 h3 e => cases e; exact .ptr id ver off b ver' n bb h1 h2 h3 h
  | hsl id ver off len sz b ver' n bb cap h1 h2 h3 h4 e => cases e; exact .hsl id ver off len sz b ver' n bb cap h1 h2 h3 h4 h
  | map id b ver' n bb h1 h2 e => cases e; exact .map id b ver' n bb h1 h2 h
  | fn f h1 e => cases e; exact .fn f h1 h
  | full sz xs a hz ha hr e => cases e; exact .full sz xs a hz ha hr h
  | slnone sz e => cases e; exact .slnone sz h
  | nilh sz e => cases e; exact .nilh sz h
  | tail sz xs a cap hz ha hr hc ht e => cases e; exact .tail sz xs a cap hz ha hr hc ht h
  | fr sz xs b cap c e hz hw hn hp hr hc hs e => cases e; exact .fr sz xs b cap c _ hz hw hn hp hr hc hs h
  | agg hr e => cases e; simpa using RepL.agg hr h
  | tup hr e => cases e; simpa using RepL.tup hr h

theorem RepL.nil_inv {w : World} {G : Gh} {cs : List Value} {bl : List Nat} (h : RepL w G [] cs bl) : cs = [] ∧ bl = [] := by cases h; exact ⟨rfl, rfl⟩

theorem RepL.append {w : World} {G : Gh} {v1 v2 : List V} {c2 : List Value} {b2 : List Nat} (h2 : RepL w G v2 c2 b2) : ∀ {c1 : List Value} {b1 : List Nat}, RepL w G v1 c1 b1 → RepL w G (v1 ++ v2) (c1 ++ c2) (b1 ++ b2) := by
  induction v1 with
  | nil => intro c1 b1 h; obtain ⟨rfl, rfl⟩ := h.nil_inv; exact h2
  | cons v vs ih =>
    intro c1 b1 h
    obtain ⟨c, cs, b, b', rfl, rfl, h1, h⟩ := h.cons_inv
    rw [List.append_assoc]
    exact .cons h1 (ih h)

theorem RepL.split {w : World} {G : Gh} {v2 : List V} (v1 : List V) : ∀ {cs : List Value} {bl : List Nat}, RepL w G (v1 ++ v2) cs bl →
    ∃ b1 b2, bl = b1 ++ b2 ∧ RepL w G v1 (cs.take v1.length) b1 ∧ RepL w G v2 (cs.drop v1.length) b2 := by
  induction v1 with
  | nil => intro cs bl h; exact ⟨[], bl, rfl, .nil, h⟩
  | cons v vs ih =>
    intro cs bl h
    obtain ⟨c, cs, b, b', rfl, rfl, h1, h⟩ := RepL.cons_inv h
    obtain ⟨b1, b2, rfl, x, y⟩ := ih h
    exact ⟨b ++ b1, b2, by simp, .cons h1 x, y⟩

theorem RepL.single {w : World} {G : Gh} {v : V} {cs : List Value} {bl : List Nat} (h : RepL w G [v] cs bl) : ∃ c, cs = [c] := by
  have := h.length
  match cs, this with
  | [c], _ => exact ⟨c, rfl⟩

/-- The i-th of a list. -/
theorem RepL.at {w : World} {G : Gh} : ∀ {vs : List V} {cs : List Value} {bl : List Nat}, RepL w G vs cs bl → ∀ (i : Nat) (v : V), vs[i]? = some v → ∃ c b, cs[i]? = some c ∧ RepL w G [v] [c] b ∧ (∀ x ∈ b, x ∈ bl) ∧ (bl.Nodup → b.Nodup)
  | [], _, _, _, i, v, e => by simp at e
  | v0 :: vs, cs, bl, h, i, v, e => by
    obtain ⟨c, cs, b1, b2, rfl, rfl, h1, h⟩ := h.cons_inv
    match i with
    | 0 =>
      simp at e; subst e
      exact ⟨c, b1, rfl, h1, fun x hx => List.mem_append_left _ hx, fun hn => (List.nodup_append.1 hn).1⟩
    | i + 1 =>
      obtain ⟨c', b, e1, e2, e3, e4⟩ := RepL.at h i v (by simpa using e)
      exact ⟨c', b, by simpa using e1, e2, fun x hx => List.mem_append_right _ (e3 x hx), fun hn => e4 (List.nodup_append.1 hn).2.1⟩

theorem strip0_plain {imm : Nat → Nat → Option Value} {v : V} {c : Value} (h : RepI imm [v] [c]) : strip0 v = v := by cases h <;> rfl
theorem RepI.plain {imm : Nat → Nat → Option Value} {v : V} {c : Value} (h : RepI imm [v] [c]) : plain0 v = true := by cases h <;> rfl
theorem strip_plain {imm : Nat → Nat → Option Value} {v : V} {c : Value} (h : RepI imm [v] [c]) : strip v = v := by cases h <;> rfl

theorem RepI.strips {imm : Nat → Nat → Option Value} : ∀ {vs : List V} {cs : List Value}, RepI imm vs cs → vs.map strip0 = vs
  | [], _, _ => rfl
  | v :: vs, cs, h => by
    obtain ⟨c, cs, rfl, h1, h⟩ := h.cons_inv
    simp [strip0_plain h1, RepI.strips h]

theorem RepI.toL {w : World} {G : Gh} : ∀ {vs : List V} {cs : List Value}, RepI G.imm vs cs → RepL w G vs cs []
  | [], cs, h => by rw [h.nil_inv]; exact .nil
  | v :: vs, cs, h => by
    obtain ⟨c, cs, rfl, h1, h⟩ := h.cons_inv
    exact .imm v c h1 (RepI.toL h)

theorem RepL.strip0 {w : World} {G : Gh} {v : V} {c : Value} {bl : List Nat} (h : RepL w G [v] [c] bl) : RepL w G [Vm.strip0 v] [c] [] := by
  cases h with
  | u c e => exact .u c .nil
  | imm _ c h1 e => rw [strip0_plain h1]; exact .imm _ c h1 .nil
  | ptr id ver off b ver' n bb h1 h2 h3 e => exact .ptr id ver off b ver' n bb h1 h2 h3 .nil
  | hsl id ver off len sz b ver' n bb cap h1 h2 h3 h4 e => exact .hsl id ver off len sz b ver' n bb cap h1 h2 h3 h4 .nil
  | map id b ver' n bb h1 h2 e => exact .map id b ver' n bb h1 h2 .nil
  | fn f h1 e => exact .fn f h1 .nil
  | full sz xs a hz ha hr e => exact .imm _ _ (.sl sz xs a _ hz ha hr (Nat.le_refl _) .nil) .nil
  | slnone sz e => exact .imm _ _ (.slnil sz .nil) .nil
  | nilh sz e => exact .nilh sz .nil
  | tail sz xs a cap hz ha hr hc ht e => exact .imm _ _ (.sl sz xs a _ hz ha hr hc .nil) .nil
  | fr sz xs b cap c e hz hw hn hp hr hc hs e => exact .u _ .nil
  | agg hr e => exact .u _ .nil
  | tup hr e => exact .u _ .nil

theorem RepL.strips0 {w : World} {G : Gh} : ∀ {vs : List V} {cs : List Value} {bl : List Nat}, RepL w G vs cs bl → RepL w G (vs.map Vm.strip0) cs []
  | [], cs, bl, h => by rw [h.nil_inv.1]; exact .nil
  | v :: vs, cs, bl, h => by
    obtain ⟨c, cs, b1, b2, rfl, rfl, h1, h⟩ := h.cons_inv
    have := RepL.cons h1.strip0 (RepL.strips0 h)
    simpa using this

theorem RepL.stripA {w : World} {G : Gh} {v : V} {c : Value} {bl : List Nat} (h : RepL w G [v] [c] bl) : RepL w G [Vm.stripA v] [c] [] := by
  have k := h.strip0
  cases h with
  | agg hr e => simpa [Vm.stripA] using RepL.agg hr.strips0 (RepL.nil (w := w) (G := G))
  | imm _ c h1 e => cases h1 <;> exact k
  | _ => exact k

theorem RepL.stripsA {w : World} {G : Gh} : ∀ {vs : List V} {cs : List Value} {bl : List Nat}, RepL w G vs cs bl → RepL w G (vs.map Vm.stripA) cs []
  | [], cs, bl, h => by rw [h.nil_inv.1]; exact .nil
  | v :: vs, cs, bl, h => by
    obtain ⟨c, cs, b1, b2, rfl, rfl, h1, h⟩ := h.cons_inv
    have := RepL.cons h1.stripA (RepL.stripsA h)
    simpa using this

theorem RepL.strip {w : World} {G : Gh} {v : V} {c : Value} {bl : List Nat} (h : RepL w G [v] [c] bl) : RepL w G [Vm.strip v] [c] [] := by
  have k := h.strip0
  cases h with
  | agg hr e => simpa [Vm.strip] using RepL.agg hr.strips0 (RepL.nil (w := w) (G := G))
  | tup hr e => simpa [Vm.strip] using RepL.tup hr.stripsA (RepL.nil (w := w) (G := G))
  | imm _ c h1 e => cases h1 <;> exact k
  | _ => exact k

/-- What is plain stands in memory that never changes. -/
theorem RepL.inl1 {w : World} {G : Gh} {v : V} {c : Value} {bl : List Nat} (h : RepL w G [v] [c] bl) (hp : plain0 v = true) : RepI G.imm [Vm.strip0 v] [c] := by
  cases h with
  | imm _ c h1 e => rw [strip0_plain h1]; exact h1
  | full sz xs a hz ha hr e => exact .sl sz xs a _ hz ha hr (Nat.le_refl _) .nil
  | slnone sz e => exact .slnil sz .nil
  | tail sz xs a cap hz ha hr hc ht e => exact .sl sz xs a _ hz ha hr hc .nil
  | _ => cases hp

theorem RepL.inl {w : World} {G : Gh} : ∀ {vs vs' : List V} {cs : List Value} {bl : List Nat}, RepL w G vs cs bl → Vm.inl vs = some vs' → RepI G.imm vs' cs
  | [], vs', cs, bl, h, e => by
    rw [h.nil_inv.1]
    simp [Vm.inl] at e
    subst e; exact .nil
  | v :: vs, vs', cs, bl, h, e => by
    obtain ⟨c, cs, b1, b2, rfl, rfl, h1, h⟩ := h.cons_inv
    unfold Vm.inl at e
    split at e
    · rename_i ha
      simp at e; subst e
      simp at ha
      refine .cons (h1.inl1 ha.1) (RepL.inl h ?_)
      unfold Vm.inl
      rw [if_pos (by simpa using ha.2)]
    · cases e

end Go.Proofs.Ytglemgdlkddjhaa.Vm
