/-
Programs as the language has them: which patterns, expressions and bindings are the same.
Closed terms: the expressions that are answered.
The value machine, part 39: the machine as a program that can be run, with functions that are given.
strings.Builder: copyCheck.
strings.Builder: WriteString.
strings.Builder: String.
The functions that are given: strings.Builder's WriteString and String.
Terms: what must come of fixed calls.
Closed terms: the law of what is told of terms.
Programs as the language has them, part 2d: data types, programs, their cells.
Closed terms: how great things are; the reference's Of.
Values as a law is handed them: structs and slices.
Readers of structs, as a law is handed them. By a program (mkrd.py).
-/
import Derived.Test.YtoaohapbbnpbeaaGreatU4
import Derived.Test.YtoaohapbbnpbeaaGreatU1
import Derived.Lib.Builder
import Derived.Laws.Externs
import Derived.WalkKit
import Derived.ProofKit
import Derived.Room.AppendStr
import Derived.Tactics2
import Derived.Shelf.Abstract
import Derived.Lib.UnsafeStr
import Derived.Shelf.RegionOpenPlain
import Derived.Test.YtoaohapbbnpbeaaGreatU3
import Derived.Test.YtoaohapbbnpbeaaGreatRows
set_option linter.unusedVariables false
set_option linter.unusedSimpArgs false
set_option linter.constructorNameAsVariable false
namespace Go.Proofs.YtoaohapbbnpbeaaGreat.Vm
open Go
set_option linter.unusedSimpArgs false

def plN (p : Bool) (l : Int) : Int := if p then l else 0
def paN (p : Bool) : Pa → Pa
  | .mk k s n xs l c => .mk k s n (xs.map (paN p)) (plN p l) (plN p c)
mutual
def exN (p : Bool) : Ex → Ex
  | .mk k s n ps xs al bs l c => .mk k s n ps (xs.map (exN p)) (al.map (alN p)) (bs.map (biN p)) (plN p l) (plN p c)
def alN (p : Bool) : Al → Al
  | .mk q rs => .mk (paN p q) (rs.map (rhN p))
def rhN (p : Bool) : Rh → Rh
  | .mk g b => .mk (g.map (exN p)) (exN p b)
def clN (p : Bool) : Cl → Cl
  | .mk ps rs => .mk (ps.map (paN p)) (rs.map (rhN p))
def biN (p : Bool) : Bi → Bi
  | .mk s cs l c => .mk s (cs.map (clN p)) (plN p l) (plN p c)
end
theorem paN_eq {p : Bool} {k : Int} {s : Str} {n : Int} {xs : List Pa} {l c : Int} : paN p (.mk k s n xs l c) = .mk k s n (xs.map (paN p)) (plN p l) (plN p c) := by rw [paN]
theorem exN_eq {p : Bool} {k : Int} {s : Str} {n : Int} {ps : List Str} {xs : List Ex} {al : List Al} {bs : List Bi} {l c : Int} : exN p (.mk k s n ps xs al bs l c) = .mk k s n ps (xs.map (exN p)) (al.map (alN p)) (bs.map (biN p)) (plN p l) (plN p c) := by rw [exN]
theorem alN_eq {p : Bool} {q : Pa} {rs : List Rh} : alN p (.mk q rs) = .mk (paN p q) (rs.map (rhN p)) := by rw [alN]
theorem rhN_eq {p : Bool} {g : List Ex} {b : Ex} : rhN p (.mk g b) = .mk (g.map (exN p)) (exN p b) := by rw [rhN]
theorem clN_eq {p : Bool} {ps : List Pa} {rs : List Rh} : clN p (.mk ps rs) = .mk (ps.map (paN p)) (rs.map (rhN p)) := by rw [clN]
theorem biN_eq {p : Bool} {s : Str} {cs : List Cl} {l c : Int} : biN p (.mk s cs l c) = .mk s (cs.map (clN p)) (plN p l) (plN p c) := by rw [biN]
theorem plN_iff {p : Bool} {a b x y : Int} : (plN p a = plN p x ∧ plN p b = plN p y) ↔ (p = true → a = x ∧ b = y) := by
  cases p <;> simp [plN]

theorem SamePats_T (n : Nat) : ∀ (xs ys : List Pa) (p : Bool), SizeOf.sizeOf xs ≤ n → LB 72 PaB xs → LB 72 PaB ys → Pu 35 [.sl false 6 (xs.map paC), .sl false 6 (ys.map paC), .bool p] (.bool (eqB (xs.map (paN p)) (ys.map (paN p)))) := by
  induction n with
  | zero => intro xs ys p h; cases xs <;> simp at h
  | succ n ih =>
    intro xs ys p hn hx hy
    refine ⟨?_, rfl⟩
    refine T.of0 mix c_r06_SamePats rfl ?_
    unfold v_r06_SamePats
    simp only [go_sem, ↓reduceIte, neq_len, eq_len, Decidable.not_not]
    refine ⟨fun h => by rw [eqB_false fun e => h (by simpa using congrArg List.length e)], fun hlen => ?_⟩
    have hb := hx.lt
    refine WP.range (n := xs.length) (fun i E F => (xs.map (paN p)).take i = (ys.map (paN p)).take i ∧ ∃ ex, E = ⟨(0, .sl false 6 (xs.map paC)) :: (1, .sl false 6 (ys.map paC)) :: (2, .bool p) :: (7, .int .i64 i) :: ex, .u⟩) ⟨rfl, _, rfl⟩ ?_
    rintro i E F hi ⟨htk, ex, rfl⟩
    have hw := inc64 (i := i) (by omega)
    simp only [go_sem, ↓reduceIte, ↓ex_map, ↓run_addW, hw, Int.toNat_natCast, lt_len]
    refine ⟨fun hlt => ?_, fun hge => by rw [eqB_true (take_all htk (by simpa using hge) (by simpa using hlen))]⟩
    have hg := List.getElem?_eq_getElem hlt
    have hg' := List.getElem?_eq_getElem (show i < ys.length by omega)
    have hsz := List.sizeOf_get xs ⟨i, hlt⟩
    have hxe := hx.2 _ (List.getElem_mem hlt)
    have hye := hy.2 _ (List.getElem_mem (show i < ys.length by omega))
    rcases hxx : xs[i] with ⟨k, s, m, as', l, c⟩
    rcases hyy : ys[i] with ⟨k', s', m', bs', l', c'⟩
    simp only [List.get_eq_getElem] at hsz
    rw [hxx] at hg hsz hxe
    rw [hyy] at hg' hye
    cases hxe with | mk h1 h2 => cases hye with | mk h3 h4 =>
    have hnx := take_next htk (map_get hg) (map_get hg')
    have hne := take_ne (map_get (f := paN p) hg) (map_get (f := paN p) hg')
    have hT := ih as' bs' p (by simp at hsz; omega) ⟨h1, h2⟩ ⟨h3, h4⟩
    have hno : ¬ (paN p (Pa.mk k s m as' l c) = paN p (Pa.mk k' s' m' bs' l' c')) → V.bool false = V.bool (eqB (xs.map (paN p)) (ys.map (paN p))) := fun h => by rw [eqB_false (hne h)]
    simp only [paN_eq, Pa.mk.injEq, plN_iff] at hno hnx
    cases p
    · simp only [paC_eq, go_sem, ↓reduceIte, ↓ex_map, ↓run_addW, hw, Int.toNat_natCast, lt_len, neqB, eqBB, nbeq, nbeq', hg, hg', holeAt_app, gc_app0, gc_appN, set_app0, set_appN, List.append_assoc]
      refine ⟨by omega, fun hk => ⟨fun hs => ⟨fun hm => ⟨_, _, hT.at rfl _, ?_⟩, fun h => hno (by simp [h])⟩, fun h => hno (by simp [h])⟩, fun h => hno (by simp [h])⟩
      simp only [go_sem, ↓reduceIte, ↓run_addW, hw, Bool.not_eq_true', Bool.not_eq_false']
      refine ⟨fun h => hno (fun e => by rw [eqB_true e.2.2.2.1] at h; cases h), fun h => ⟨hlt, hnx.2 ⟨hk, hs, hm, eqB_iff.1 (by simpa using h), fun h => by cases h⟩, _, rfl⟩⟩
    · simp only [paC_eq, go_sem, ↓reduceIte, ↓ex_map, ↓run_addW, hw, Int.toNat_natCast, lt_len, neqB, eqBB, nbeq, nbeq', hg, hg', holeAt_app, gc_app0, gc_appN, set_app0, set_appN, List.append_assoc]
      refine ⟨by omega, fun hk => ⟨fun hs => ⟨fun hm => ⟨fun hp => ⟨_, _, hT.at rfl _, ?_⟩, fun h => hno (by intro e; simp [e.2.2.2.2 rfl] at h)⟩, fun h => hno (by simp [h])⟩, fun h => hno (by simp [h])⟩, fun h => hno (by simp [h])⟩
      simp only [go_sem, ↓reduceIte, ↓run_addW, hw, Bool.not_eq_true', Bool.not_eq_false']
      refine ⟨fun h => hno (fun e => by rw [eqB_true e.2.2.2.1] at h; cases h), fun h => ⟨hlt, hnx.2 ⟨hk, hs, hm, eqB_iff.1 (by simpa using h), fun _ => by simpa using hp⟩, _, rfl⟩⟩

def SameX (n : Nat) : Prop := ∀ (xs ys : List Ex) (p : Bool), SizeOf.sizeOf xs ≤ n → LB 144 ExB xs → LB 144 ExB ys → Pu 37 [.sl false 9 (xs.map exC), .sl false 9 (ys.map exC), .bool p] (.bool (eqB (xs.map (exN p)) (ys.map (exN p))))
def Same1 (n : Nat) : Prop := ∀ (x y : Ex) (p : Bool), SizeOf.sizeOf x ≤ n → ExB x → ExB y → Pu 21 [.agg (exC x), .agg (exC y), .bool p] (.bool (eqB (exN p x) (exN p y)))
def SameR (n : Nat) : Prop := ∀ (xs ys : List Rh) (p : Bool), SizeOf.sizeOf xs ≤ n → LB 168 RhB xs → LB 168 RhB ys → Pu 36 [.sl false 10 (xs.map rhC), .sl false 10 (ys.map rhC), .bool p] (.bool (eqB (xs.map (rhN p)) (ys.map (rhN p))))
def SameB (n : Nat) : Prop := ∀ (xs ys : List Bi) (p : Bool), SizeOf.sizeOf xs ≤ n → LB 56 BiB xs → LB 56 BiB ys → Pu 38 [.sl false 4 (xs.map biC), .sl false 4 (ys.map biC), .bool p] (.bool (eqB (xs.map (biN p)) (ys.map (biN p))))

theorem sameX_step {n : Nat} (h1 : Same1 n) : SameX (n + 1) := by
  intro xs ys p hn hx hy
  refine ⟨?_, rfl⟩
  refine T.of0 mix c_r06_SameExprs rfl ?_
  unfold v_r06_SameExprs
  simp only [go_sem, ↓reduceIte, neq_len, eq_len, Decidable.not_not]
  refine ⟨fun h => by rw [eqB_false fun e => h (by simpa using congrArg List.length e)], fun hlen => ?_⟩
  have hb := hx.lt
  refine WP.range (n := xs.length) (fun i E F => (xs.map (exN p)).take i = (ys.map (exN p)).take i ∧ ∃ ex, E = ⟨(0, .sl false 9 (xs.map exC)) :: (1, .sl false 9 (ys.map exC)) :: (2, .bool p) :: (7, .int .i64 i) :: ex, .u⟩) ⟨rfl, _, rfl⟩ ?_
  rintro i E F hi ⟨htk, ex, rfl⟩
  have hw := inc64 (i := i) (by omega)
  simp only [go_sem, ↓reduceIte, ↓ex_map, ↓run_addW, hw, Int.toNat_natCast, lt_len]
  refine ⟨fun hlt => ?_, fun hge => by rw [eqB_true (take_all htk (by simpa using hge) (by simpa using hlen))]⟩
  obtain ⟨x, hg, hxm⟩ := getL hlt
  obtain ⟨y, hg', hym⟩ := getL (show i < ys.length by omega)
  have hsz := size_get hg
  have hnx := take_next htk (map_get hg) (map_get hg')
  have hne := take_ne (map_get (f := exN p) hg) (map_get (f := exN p) hg')
  have hT := h1 x y p (by omega) (hx.2 x hxm) (hy.2 y hym)
  simp only [go_sem, ↓reduceIte, ↓ex_map, ↓run_addW, hw, Int.toNat_natCast, lt_len, hg, hg', Nat.le_refl]
  refine ⟨_, _, hT.at (by simp only [go_sem]) _, ?_⟩
  simp only [go_sem, ↓reduceIte, ↓run_addW, hw, Bool.not_eq_true', Bool.not_eq_false']
  refine ⟨fun h => by rw [eqB_false (hne fun e => by rw [eqB_true e] at h; cases h)], fun h => ⟨hlt, hnx.2 (eqB_iff.1 (by simpa using h)), _, rfl⟩⟩

theorem sameR_step {n : Nat} (hX : SameX n) (h1 : Same1 n) : SameR (n + 1) := by
  intro xs ys p hn hx hy
  refine ⟨?_, rfl⟩
  refine T.of0 mix c_r06_SameRhs rfl ?_
  unfold v_r06_SameRhs
  simp only [go_sem, ↓reduceIte, neq_len, eq_len, Decidable.not_not]
  refine ⟨fun h => by rw [eqB_false fun e => h (by simpa using congrArg List.length e)], fun hlen => ?_⟩
  have hb := hx.lt
  refine WP.range (n := xs.length) (fun i E F => (xs.map (rhN p)).take i = (ys.map (rhN p)).take i ∧ ∃ ex, E = ⟨(0, .sl false 10 (xs.map rhC)) :: (1, .sl false 10 (ys.map rhC)) :: (2, .bool p) :: (7, .int .i64 i) :: ex, .u⟩) ⟨rfl, _, rfl⟩ ?_
  rintro i E F hi ⟨htk, ex, rfl⟩
  have hw := inc64 (i := i) (by omega)
  simp only [go_sem, ↓reduceIte, ↓ex_map, ↓run_addW, hw, Int.toNat_natCast, lt_len]
  refine ⟨fun hlt => ?_, fun hge => by rw [eqB_true (take_all htk (by simpa using hge) (by simpa using hlen))]⟩
  obtain ⟨⟨g, b⟩, hg, hxm⟩ := getL hlt
  obtain ⟨⟨g', b'⟩, hg', hym⟩ := getL (show i < ys.length by omega)
  have hsz := size_get hg
  simp only [Rh.mk.sizeOf_spec] at hsz
  have hnx := take_next htk (map_get hg) (map_get hg')
  have hne := take_ne (map_get (f := rhN p) hg) (map_get (f := rhN p) hg')
  cases hx.2 _ hxm with | mk b1 b2 b3 => cases hy.2 _ hym with | mk b4 b5 b6 =>
  have hT := hX g g' p (by omega) ⟨b1, b2⟩ ⟨b4, b5⟩
  have hT2 := h1 b b' p (by omega) b3 b6
  have hno : ¬ (rhN p (Rh.mk g b) = rhN p (Rh.mk g' b')) → V.bool false = V.bool (eqB (xs.map (rhN p)) (ys.map (rhN p))) := fun h => by rw [eqB_false (hne h)]
  simp only [rhN_eq, Rh.mk.injEq] at hno hnx
  simp only [rhC_eq, go_sem, ↓reduceIte, ↓ex_map, ↓run_addW, hw, Int.toNat_natCast, lt_len, hg, hg', Nat.le_refl]
  refine ⟨_, _, hT.at (by simp only [go_sem]) _, ?_⟩
  simp only [rhC_eq, go_sem, ↓reduceIte, ↓ex_map, ↓run_addW, hw, Int.toNat_natCast, lt_len, hg, hg', Nat.le_refl, Bool.not_eq_true', Bool.not_eq_false']
  refine ⟨fun h => ⟨_, _, hT2.at (by simp only [go_sem]) _, ?_⟩, fun h => hno (fun e => by rw [eqB_true e.1] at h; cases h)⟩
  simp only [go_sem, ↓reduceIte, ↓run_addW, hw, Bool.not_eq_true', Bool.not_eq_false']
  refine ⟨fun h => hno (fun e => by rw [eqB_true e.2] at h; cases h), fun h2 => ⟨hlt, hnx.2 ⟨eqB_iff.1 (by simpa using h), eqB_iff.1 (by simpa using h2)⟩, _, rfl⟩⟩

set_option maxRecDepth 4000 in
theorem sameE_step {n : Nat} (hX : SameX n) (hR : SameR n) (hB : SameB n) : Same1 (n + 1) := by
  rintro ⟨k, s, m, ps, xs, al, bs, l, c⟩ ⟨k', s', m', ps', xs', al', bs', l', c'⟩ p hn hx hy
  simp only [Ex.mk.sizeOf_spec] at hn
  cases hx with | mk a1 a2 a3 a4 a5 a6 a7 => cases hy with | mk b1 b2 b3 b4 b5 b6 b7 =>
  refine ⟨?_, by simp only [idsL, idsV, exC_ids, Bool.and_self]⟩
  refine T.of0 mix c_r06_SameExpr rfl ?_
  unfold v_r06_SameExpr
  have hno : ¬ (exN p (Ex.mk k s m ps xs al bs l c) = exN p (Ex.mk k' s' m' ps' xs' al' bs' l' c')) → V.bool false = V.bool (eqB (exN p (Ex.mk k s m ps xs al bs l c)) (exN p (Ex.mk k' s' m' ps' xs' al' bs' l' c'))) := fun h => by rw [eqB_false h]
  have hyes : (exN p (Ex.mk k s m ps xs al bs l c) = exN p (Ex.mk k' s' m' ps' xs' al' bs' l' c')) → V.bool true = V.bool (eqB (exN p (Ex.mk k s m ps xs al bs l c)) (exN p (Ex.mk k' s' m' ps' xs' al' bs' l' c'))) := fun h => by rw [eqB_true h]
  generalize hres : eqB (exN p (Ex.mk k s m ps xs al bs l c)) (exN p (Ex.mk k' s' m' ps' xs' al' bs' l' c')) = res at hno hyes ⊢
  simp only [exN_eq, Ex.mk.injEq, plN_iff] at hno hyes
  have hTX := hX xs xs' p (by omega) ⟨a2, a5⟩ ⟨b2, b5⟩
  have hTB := hB bs bs' p (by omega) ⟨a4, a7⟩ ⟨b4, b7⟩
  simp only [exC_eq, go_sem, ↓reduceIte]
  generalize hL : WP Tryz.prog (VCode.loop _) _ _ _ = L
  have main : k = k' → s = s' → m = m' → (p = true → l = l' ∧ c = c') → ps.length = ps'.length → al.length = al'.length → L := by
    intro e1 e2 e3 e4 e5 e6
    rw [← hL]
    have hbp : ps.length < 4611686018427387903 := by omega
    refine WP.range (n := ps.length) (fun i E F => ps.take i = ps'.take i ∧ F = [.cells 0 (exC (.mk k s m ps xs al bs l c)), .cells 0 (exC (.mk k' s' m' ps' xs' al' bs' l' c'))] ∧
      ∃ ex, E = ⟨(2, .bool p) :: (3, .ptr 0 0 0) :: (4, .ptr 1 0 0) :: (7, .int .i64 i) :: ex, .u⟩) ⟨rfl, by rw [exC_eq, exC_eq], _, rfl⟩ ?_
    rintro i E F hi ⟨htk, rfl, ex, rfl⟩
    have hw := inc64 (i := i) (by omega)
    simp only [exC_eq, go_sem, ↓reduceIte, ↓ex_map, ↓run_addW, hw, Int.toNat_natCast, lt_len]
    refine ⟨fun hlt => ?_, fun hge => ?_⟩
    · obtain ⟨x, hg, _⟩ := getL hlt
      obtain ⟨y, hg', _⟩ := getL (show i < ps'.length by omega)
      have hnx := take_next htk hg hg'
      have hne := take_ne hg hg'
      simp only [stC_eq, go_sem, ↓reduceIte, ↓ex_map, ↓run_addW, hw, Int.toNat_natCast, lt_len, hg, hg', nbeq, Decidable.not_not]
      exact ⟨fun h => hno fun e => hne h e.2.2.2.1, fun h => ⟨hlt, hnx.2 h, _, rfl⟩⟩
    · have hps : ps = ps' := take_all htk (by omega) e5
      refine WP.range (n := al.length) (fun i E F => (al.map (alN p)).take i = (al'.map (alN p)).take i ∧ F = [.cells 0 (exC (.mk k s m ps xs al bs l c)), .cells 0 (exC (.mk k' s' m' ps' xs' al' bs' l' c'))] ∧
        ∃ ex, E = ⟨(2, .bool p) :: (3, .ptr 0 0 0) :: (4, .ptr 1 0 0) :: (8, .int .i64 i) :: ex, .u⟩) ⟨rfl, by rw [exC_eq, exC_eq], _, rfl⟩ ?_
      rintro i E F hi ⟨htk, rfl, ex, rfl⟩
      have hw := inc64 (i := i) (by omega)
      simp only [exC_eq, go_sem, ↓reduceIte, ↓ex_map, ↓run_addW, hw, Int.toNat_natCast, lt_len]
      refine ⟨fun hlt => ?_, fun hge => ?_⟩
      · obtain ⟨⟨q, rs⟩, hg, hm⟩ := getL hlt
        obtain ⟨⟨q', rs'⟩, hg', hm'⟩ := getL (show i < al'.length by omega)
        have hsz := size_get hg
        simp only [Al.mk.sizeOf_spec] at hsz
        have hnx := take_next htk (map_get hg) (map_get hg')
        have hne := take_ne (map_get (f := alN p) hg) (map_get (f := alN p) hg')
        cases a6 _ hm with | mk c1 c2 c3 => cases b6 _ hm' with | mk d1 d2 d3 =>
        have hT := SamePats_T _ [q] [q'] p (Nat.le_refl _) ⟨by simp, by simpa using c1⟩ ⟨by simp, by simpa using d1⟩
        have hT2 := hR rs rs' p (by omega) ⟨c2, c3⟩ ⟨d2, d3⟩
        have hno2 : ¬ (alN p (Al.mk q rs) = alN p (Al.mk q' rs')) → V.bool false = V.bool res := fun h => hno fun e => hne h e.2.2.2.2.2.1
        simp only [alN_eq, Al.mk.injEq] at hno2 hnx
        simp only [alC_eq, go_sem, ↓reduceIte, ↓ex_map, ↓run_addW, hw, lt_len, hg, hg']
        refine ⟨_, _, hT.at (by simp only [go_sem]) _, ?_⟩
        simp only [alC_eq, go_sem, ↓reduceIte, ↓ex_map, ↓run_addW, hw, lt_len, hg, hg', Bool.not_eq_true', Bool.not_eq_false']
        refine ⟨fun h => ⟨_, _, hT2.at (by simp only [go_sem]) _, ?_⟩, fun h => hno2 (fun e => by rw [e.1, eqB_true rfl] at h; cases h)⟩
        simp only [go_sem, ↓reduceIte, ↓run_addW, hw, Bool.not_eq_true', Bool.not_eq_false']
        refine ⟨fun h2 => hno2 (fun e => by rw [eqB_true e.2] at h2; cases h2), fun h2 => ⟨hlt, hnx.2 ⟨(List.cons.inj (eqB_iff.1 (by simpa using h))).1, eqB_iff.1 (by simpa using h2)⟩, _, rfl⟩⟩
      · have hal : al.map (alN p) = al'.map (alN p) := take_all htk (by simpa using hge) (by simpa using e6)
        refine ⟨_, _, hTX.at rfl _, ?_⟩
        simp only [go_sem, ↓reduceIte, ↓run_addW, hw, Bool.not_eq_true', Bool.not_eq_false']
        refine ⟨fun h => ⟨_, _, hTB.at rfl _, ?_⟩, fun h => hno fun e => by rw [eqB_true e.2.2.2.2.1] at h; cases h⟩
        simp only [go_sem, ↓reduceIte, ↓run_addW, hw, Bool.not_eq_true', Bool.not_eq_false']
        have h' := eqB_iff.1 h
        cases hb : eqB (bs.map (biN p)) (bs'.map (biN p)) with
        | true => exact hyes ⟨e1, e2, e3, hps, h', hal, eqB_iff.1 hb, e4⟩
        | false => exact hno fun e => by rw [eqB_true e.2.2.2.2.2.2.1] at hb; cases hb
  clear hL
  have w1 : ∀ {α : Type} [BEq α] [LawfulBEq α] {a b : α}, (a != b) = false → a = b := by intro α _ _ a b h; simpa using h
  have w2 : ∀ {α : Type} [BEq α] [LawfulBEq α] {a b : α}, ¬ (a != b) = false → ¬ a = b := by intro α _ _ a b h; simpa using h
  have w3 : ¬ (((l == l' && (c == c' && true)) != true) = false) → ¬ (l = l' ∧ c = c') := by intro h; simpa using h
  have w4 : ((l == l' && (c == c' && true)) != true) = false → l = l' ∧ c = c' := by intro h; simpa using h
  have w5 : ∀ {a b : Nat}, ((a : Int) != (b : Int)) = false → a = b := by intro a b h; have := w1 h; omega
  refine ⟨fun q1 => ⟨fun q2 => ⟨fun q3 => ⟨fun hp => ⟨fun q4 => ⟨fun q5 => ⟨fun q6 => hno fun e => ?_, fun q6 => main (w1 q1) (by simpa using q2) (w1 q3) (fun _ => w4 q4) (w5 q5) (w5 q6)⟩, fun q5 => hno fun e => ?_⟩, fun q4 => hno fun e => w3 q4 (e.2.2.2.2.2.2.2 hp)⟩,
    fun hp => ⟨fun q5 => ⟨fun q6 => hno fun e => ?_, fun q6 => main (w1 q1) (by simpa using q2) (w1 q3) (fun h => by rw [hp] at h; cases h) (w5 q5) (w5 q6)⟩, fun q5 => hno fun e => ?_⟩⟩, fun q3 => hno fun e => w2 q3 e.2.2.1⟩, fun q2 => hno fun e => by simp [e.2.1] at q2⟩, fun q1 => hno fun e => w2 q1 e.1⟩
  all_goals
    first
      | (have := congrArg List.length e.2.2.2.2.2.1; simp only [List.length_map] at this; rw [this] at q6; simp at q6; done)
      | (rw [e.2.2.2.1] at q5; simp at q5; done)

set_option maxRecDepth 4000 in
theorem sameB_step {n : Nat} (hR : SameR n) : SameB (n + 1) := by
  intro xs ys p hn hx hy
  refine ⟨?_, rfl⟩
  refine T.of0 mix c_r06_SameBinds rfl ?_
  unfold v_r06_SameBinds
  simp only [go_sem, ↓reduceIte, neq_len, eq_len, Decidable.not_not]
  refine ⟨fun h => by rw [eqB_false fun e => h (by simpa using congrArg List.length e)], fun hlen => ?_⟩
  have hb := hx.lt
  refine WP.range (n := xs.length) (fun i E F => (xs.map (biN p)).take i = (ys.map (biN p)).take i ∧ ∃ ex, E = ⟨(0, .sl false 4 (xs.map biC)) :: (1, .sl false 4 (ys.map biC)) :: (2, .bool p) :: (7, .int .i64 i) :: ex, .u⟩) ⟨rfl, _, rfl⟩ ?_
  rintro i E F hi ⟨htk, ex, rfl⟩
  have hw := inc64 (i := i) (by omega)
  simp only [go_sem, ↓reduceIte, ↓ex_map, ↓run_addW, hw, lt_len]
  refine ⟨fun hlt => ?_, fun hge => by rw [eqB_true (take_all htk (by simpa using hge) (by simpa using hlen))]⟩
  obtain ⟨⟨s, cs, l, c⟩, hg, hxm⟩ := getL hlt
  obtain ⟨⟨s', cs', l', c'⟩, hg', hym⟩ := getL (show i < ys.length by omega)
  have hsz := size_get hg
  simp only [Bi.mk.sizeOf_spec] at hsz
  have hnx := take_next htk (map_get hg) (map_get hg')
  have hne := take_ne (map_get (f := biN p) hg) (map_get (f := biN p) hg')
  cases hx.2 _ hxm with | mk b1 b2 => cases hy.2 _ hym with | mk b3 b4 =>
  have hno : ¬ (biN p (Bi.mk s cs l c) = biN p (Bi.mk s' cs' l' c')) → V.bool false = V.bool (eqB (xs.map (biN p)) (ys.map (biN p))) := fun h => by rw [eqB_false (hne h)]
  generalize eqB (xs.map (biN p)) (ys.map (biN p)) = res at hno ⊢
  simp only [biN_eq, Bi.mk.injEq, plN_iff] at hno hnx
  simp only [biC_eq, go_sem, ↓reduceIte, ↓ex_map, ↓run_addW, hw, lt_len, hg, hg', holeAt_app, gc_app0, gc_appN, set_app0, set_appN, List.append_assoc]
  generalize hL : WP Tryz.prog (VCode.loop _) _ _ _ = L
  have main : s = s' → (p = true → l = l' ∧ c = c') → cs.length = cs'.length → L := by
    intro e1 e2 e3
    rw [← hL]
    have hbc : cs.length < 4611686018427387903 := by omega
    refine WP.range (n := cs.length) (fun j E G => (cs.map (clN p)).take j = (cs'.map (clN p)).take j ∧ G = F ++ [.cells 1 (biC (.mk s cs l c)), .cells 1 (biC (.mk s' cs' l' c'))] ∧
      ∃ ex, E = ⟨(0, .sl false 4 (xs.map biC)) :: (1, .sl false 4 (ys.map biC)) :: (2, .bool p) :: (7, .int .i64 i) :: (8, .ptr F.length 1 0) :: (9, .ptr (F.length + 1) 1 0) :: (10, .int .i64 j) :: ex, .u⟩) ⟨rfl, by rw [biC_eq, biC_eq], _, rfl⟩ ?_
    rintro j E G hj ⟨htj, rfl, ex, rfl⟩
    have hw2 := inc64 (i := j) (by omega)
    simp only [biC_eq, go_sem, ↓reduceIte, ↓ex_map, ↓run_addW, hw, hw2, lt_len, gc_app0, gc_appN]
    refine ⟨fun hlj => ?_, fun hgj => ?_⟩
    · obtain ⟨⟨q, rs⟩, kg, hm⟩ := getL hlj
      obtain ⟨⟨q', rs'⟩, kg', hm'⟩ := getL (show j < cs'.length by omega)
      have hsz2 := size_get kg
      simp only [Cl.mk.sizeOf_spec] at hsz2
      have hnx2 := take_next htj (map_get kg) (map_get kg')
      have hne2 := take_ne (map_get (f := clN p) kg) (map_get (f := clN p) kg')
      cases b2 _ hm with | mk c1 c2 c3 c4 => cases b4 _ hm' with | mk d1 d2 d3 d4 =>
      have hT := SamePats_T _ q q' p (Nat.le_refl _) ⟨c1, c2⟩ ⟨d1, d2⟩
      have hT2 := hR rs rs' p (by omega) ⟨c3, c4⟩ ⟨d3, d4⟩
      have hno2 : ¬ (clN p (Cl.mk q rs) = clN p (Cl.mk q' rs')) → V.bool false = V.bool res := fun h => hno fun e => hne2 h e.2.1
      simp only [clN_eq, Cl.mk.injEq] at hno2 hnx2
      simp only [biC_eq, clC_eq, go_sem, ↓reduceIte, ↓ex_map, ↓run_addW, hw2, lt_len, kg, kg', gc_app0, gc_appN]
      refine ⟨_, _, hT.at rfl _, ?_⟩
      simp only [biC_eq, clC_eq, go_sem, ↓reduceIte, ↓ex_map, ↓run_addW, hw2, lt_len, kg, kg', gc_app0, gc_appN, Bool.not_eq_true', Bool.not_eq_false']
      refine ⟨fun h => ⟨_, _, hT2.at rfl _, ?_⟩, fun h => hno2 (fun e => by rw [eqB_true e.1] at h; cases h)⟩
      simp only [go_sem, ↓reduceIte, ↓run_addW, hw2, Bool.not_eq_true', Bool.not_eq_false']
      refine ⟨fun h2 => hno2 (fun e => by rw [eqB_true e.2] at h2; cases h2), fun h2 => ⟨hlj, hnx2.2 ⟨eqB_iff.1 (by simpa using h), eqB_iff.1 (by simpa using h2)⟩, _, rfl⟩⟩
    · exact ⟨hlt, hnx.2 ⟨e1, take_all htj (by simpa using hgj) (by simpa using e3), e2⟩, _, rfl⟩
  clear hL
  have w1 : ∀ {α : Type} [BEq α] [LawfulBEq α] {a b : α}, (a != b) = false → a = b := by intro α _ _ a b h; simpa using h
  have w3 : ¬ (((l == l' && (c == c' && true)) != true) = false) → ¬ (l = l' ∧ c = c') := by intro h; simpa using h
  have w4 : ((l == l' && (c == c' && true)) != true) = false → l = l' ∧ c = c' := by intro h; simpa using h
  have w5 : ∀ {a b : Nat}, ((a : Int) != (b : Int)) = false → a = b := by intro a b h; have := w1 h; omega
  have w6 : (((cs.length : Int) != (cs'.length : Int)) = true) → ¬ cs.map (clN p) = cs'.map (clN p) := by
    intro h e; have := congrArg List.length e; simp only [List.length_map] at this; rw [this] at h; simp at h
  refine ⟨by omega, fun q1 => ⟨fun hp => ⟨fun q4 => ⟨fun q5 => hno fun e => w6 q5 e.2.1, fun q5 => main (by simpa using q1) (fun _ => w4 q4) (w5 q5)⟩, fun q4 => hno fun e => w3 q4 (e.2.2 hp)⟩,
    fun hp => ⟨fun q5 => hno fun e => w6 q5 e.2.1, fun q5 => main (by simpa using q1) (fun h => by rw [hp] at h; cases h) (w5 q5)⟩⟩, fun q1 => hno fun e => by simp [e.1] at q1⟩

theorem same_all (n : Nat) : SameX n ∧ Same1 n ∧ SameR n ∧ SameB n := by
  induction n with
  | zero =>
    refine ⟨?_, ?_, ?_, ?_⟩
    · intro xs ys p h; cases xs <;> simp at h
    · intro x y p h; cases x; simp at h
    · intro xs ys p h; cases xs <;> simp at h
    · intro xs ys p h; cases xs <;> simp at h
  | succ n ih => exact ⟨sameX_step ih.2.1, sameE_step ih.1 ih.2.2.1 ih.2.2.2, sameR_step ih.1 ih.2.1, sameB_step ih.2.2.1⟩
theorem SameExpr_T (x y : Ex) (p : Bool) (hx : ExB x) (hy : ExB y) : Pu 21 [.agg (exC x), .agg (exC y), .bool p] (.bool (eqB (exN p x) (exN p y))) := (same_all _).2.1 x y p (Nat.le_refl _) hx hy
theorem SameBinds_T (xs ys : List Bi) (p : Bool) (hx : LB 56 BiB xs) (hy : LB 56 BiB ys) : Pu 38 [.sl false 4 (xs.map biC), .sl false 4 (ys.map biC), .bool p] (.bool (eqB (xs.map (biN p)) (ys.map (biN p)))) := (same_all _).2.2.2 xs ys p (Nat.le_refl _) hx hy
end Go.Proofs.YtoaohapbbnpbeaaGreat.Vm
namespace Go.Proofs.YtoaohapbbnpbeaaGreat.Vm
open Go Lx
set_option linter.unusedSimpArgs false

def xX (t : Tm) : XR := if rTm t = true then xT t else ⟨0, [], 0, []⟩
theorem tmExprX_P (t : Tm) (hB : TmB t) : Pu 15 [.agg (tmC t)] (xX t).v := by
  have hR := tmRight_P _ t (Nat.le_refl _) hB
  have hS := tmExpr_P _ t (Nat.le_refl _) hB
  refine ⟨?_, by simp only [idsL, idsV, tmC_ids, Bool.and_self]⟩
  refine T.of0 mix c_term_Expr rfl ?_
  unfold v_term_Expr xX
  simp only [go_sem, ↓reduceIte, callG_eq]
  refine hR.call (by simp only [go_sem]) ?_
  cases hr : rTm t with
  | false => simp only [go_sem, ↓reduceIte]; rfl
  | true =>
    rw [if_pos rfl]
    simp only [go_sem, ↓reduceIte, callG_eq]
    refine hS.call (by simp only [go_sem]) ?_
    simp only [go_sem, ↓reduceIte, XR.v_eq]
theorem cnt_mem {x : Tm} : ∀ {xs : List Tm}, x ∈ xs → cntT x ≤ (xs.map cntT).sum
  | y :: xs, h => by
    rw [List.map_cons, List.sum_cons]
    cases h with
    | head => omega
    | tail _ h => have := cnt_mem h; omega
theorem cnt_one (t : Tm) : 1 ≤ cntT t := by cases t; rw [cntT_eq]; omega
theorem r19Expr_P (n : Nat) : ∀ t : Tm, cntT t ≤ n → TmB t → Pu 22 [.agg (tmC t)] (xX t).v := by
  induction n with
  | zero => intro t h; have := cnt_one t; omega
  | succ n ih =>
    rintro ⟨s, k, xs⟩ hn hB
    have hR := r19Right_P _ _ (Nat.le_refl _) hB
    rw [cntT_eq] at hn
    cases hB with | mk b1 b2 =>
    refine ⟨?_, by simp only [idsL, idsV, tmC_ids, Bool.and_self]⟩
    refine T.of0 mix c_r19_Expr rfl ?_
    unfold v_r19_Expr
    simp only [go_sem, ↓reduceIte, callG_eq]
    refine hR.call (by simp only [go_sem]) ?_
    cases hr : rTm (.mk s k xs) with
    | false =>
      have e : xX (.mk s k xs) = ⟨0, [], 0, []⟩ := by unfold xX; rw [hr]; simp
      rw [e]
      simp only [go_sem, ↓reduceIte]; rfl
    | true =>
      obtain ⟨hs1, hs2⟩ := rTm_sub hr
      have e : xX (.mk s k xs) = xT (.mk s k xs) := by unfold xX; rw [hr, if_pos rfl]
      rw [e, xT_eq]
      simp only [tmC_eq, go_sem, ↓reduceIte, callG_eq, len_eq0]
      refine ⟨fun hs => ?_, fun hs => ?_⟩
      · have hs' : s = [] := by simpa using hs
        rw [if_pos hs']; rfl
      · have hs' : ¬ s = [] := by simpa using hs
        rw [if_neg hs']
        refine ⟨fun h0 => ?_, fun h0 => ?_⟩
        · obtain rfl : xs = [] := by simpa using h0
          rfl
        · have hne : xs ≠ [] := by simpa using h0
          obtain ⟨m, hm⟩ : ∃ m, xs.length = m + 1 := ⟨xs.length - 1, by have := List.length_pos_iff.2 hne; omega⟩
          obtain ⟨y, hg, hym⟩ := getL (show m < xs.length by omega)
          have hz : IntKind.i64.wrap ((xs.length : Int) - 1) = (m : Int) := by rw [wrap64 (by omega) (by omega)]; omega
          have hK : isK s 2 = true := by
            rw [rTm_eq] at hr
            simp only [Bool.and_eq_true, Bool.or_eq_true] at hr
            rcases hr.2 with h | h
            · exact absurd (by simpa using h.1) hs'
            · exact h.2
          have hcm := sum_take (f := cntT) hg
          rw [List.take_of_length_le (by omega)] at hcm
          have hc1 := cnt_one y
          have hB1 : TmB (.mk s 0 (xs.take m)) := .mk (by rw [List.length_take]; omega) fun x hx => b2 x (List.mem_of_mem_take hx)
          have hr1 : rTm (.mk s 0 (xs.take m)) = true := by
            rw [rTm_eq, hK, List.all_eq_true.2 fun x hx => hs1 x (List.mem_of_mem_take hx)]; simp
          have hT1 := ih (.mk s 0 (xs.take m)) (by rw [cntT_eq]; omega) hB1
          have hT2 := ih y (by omega) (b2 y hym)
          have e1 : xX (.mk s 0 (xs.take m)) = ((xs.take m).map xT).foldl appX ⟨2, s, 0, []⟩ := by unfold xX; rw [if_pos hr1, xT_eq, if_neg hs']
          have e2 : xX y = xT y := by unfold xX; rw [if_pos (hs1 y hym)]
          have e3 := fold_take hg ⟨2, s, 0, []⟩
          rw [List.take_of_length_le (by omega)] at e3
          rw [e1, tmC_eq] at hT1
          rw [e2] at hT2
          rw [e3]
          generalize ((xs.take m).map xT).foldl appX ⟨2, s, 0, []⟩ = cur at hT1 ⊢
          rw [List.map_take] at hT1
          rw [hz]
          refine ⟨_, rfl, by omega, by omega, _, hT1.al (by simp only [go_sem, Int.toNat_natCast]), rfl, _, rfl, by omega, tmC y, by rw [Int.toNat_natCast]; exact map_get hg, by simp only [go_sem, Nat.le_refl], _, hT2.al (by simp only [go_sem]), by simp only [idsL, idsV, tmC_take, tmC_ids, Bool.and_self], ?_⟩
          simp only [go_sem, ↓reduceIte, ↓ex_map, XR.v_eq, elems_nil]
          rfl
end Go.Proofs.YtoaohapbbnpbeaaGreat.Vm
namespace Go.Proofs.YtoaohapbbnpbeaaGreat.Vm
open Go

def execM (nat : CallF) (tab : List Entry) : Nat → VCode → En → Heap → Option (X × En × Heap)
  | 0, _, _, _ => none
  | n + 1, vc, E, H => match vc with
    | .skip => some (.normal, E, H)
    | .label => some (.normal, E, H)
    | .exit id => some (.exit id, E, H)
    | .ret => some (.ret, E, H)
    | .region ops keep => (match opsN (fun f av H => match find tab f with
        | some e => if av.length ≤ e.vf.n then (match execM nat tab n e.vf.body ⟨av.zipIdx.map fun p => (p.2, p.1), .tup []⟩ H with
          | some (.exit _, _, _) => none
          | some (_, E1, H1) => finishN e E1 H H1
          | none => none) else none
        | none => nat f av H) ops E H with
      | some (E1, H1) => some (.normal, E1.keep keep, H1)
      | none => none)
    | .regionD ts ops prs keep => (match opsN (fun f av H => match find tab f with
        | some e => if av.length ≤ e.vf.n then (match execM nat tab n e.vf.body ⟨av.zipIdx.map fun p => (p.2, p.1), .tup []⟩ H with
          | some (.exit _, _, _) => none
          | some (_, E1, H1) => finishN e E1 H H1
          | none => none) else none
        | none => nat f av H) (resOp ts :: (ops ++ prs.map apOp)) E H with
      | some (E1, H1) => some (.normal, E1.keep keep, H1)
      | none => none)
    | .seq a b => (match execM nat tab n a E H with
      | some (.normal, E1, H1) => execM nat tab n b E1 H1
      | r => r)
    | .cond c a b => (match evalA E.f [] c with
      | .bool true => execM nat tab n a E H
      | .bool false => execM nat tab n b E H
      | _ => none)
    | .block id a => (match execM nat tab n a E H with
      | some (x, E1, H1) => some (unblock id x, E1, H1)
      | none => none)
    | .loop a => (match execM nat tab n a E H with
      | some (.normal, E1, H1) => execM nat tab n (.loop a) E1 H1
      | r => r)
    | .scope a => execM nat tab n a E H

def callM (nat : CallF) (tab : List Entry) (n : Nat) : CallF := fun f av H => match find tab f with
  | some e => if av.length ≤ e.vf.n then (match execM nat tab n e.vf.body ⟨av.zipIdx.map fun p => (p.2, p.1), .tup []⟩ H with
    | some (.exit _, _, _) => none
    | some (_, E1, H1) => finishN e E1 H H1
    | none => none) else none
  | none => nat f av H

section
variable {P : Program} {tab : List Entry} {nat : CallF}
theorem execM_sound (hmix : P.follows .mixedOrders = true) (htab : tabOk P tab) (hnat : ∀ f av H r H', nat f av H = some (r, H') → T P f av H r H') : ∀ (n : Nat) {vc : VCode} {E : En} {H : Heap} {x : X} {E1 : En} {H1 : Heap}, execM nat tab n vc E H = some (x, E1, H1) → VExec P vc E.f H x E1.f H1
  | 0, _, _, _, _, _, _, h => by cases h
  | n + 1, vc, E, H, x, E1, H1, h => by
    have ih := @execM_sound hmix htab hnat n
    cases vc with
    | skip => simp only [execM, Option.some.injEq, Prod.mk.injEq] at h; obtain ⟨rfl, rfl, rfl⟩ := h; exact .skip
    | label => simp only [execM, Option.some.injEq, Prod.mk.injEq] at h; obtain ⟨rfl, rfl, rfl⟩ := h; exact .label
    | exit id => simp only [execM, Option.some.injEq, Prod.mk.injEq] at h; obtain ⟨rfl, rfl, rfl⟩ := h; exact .exit id
    | ret => simp only [execM, Option.some.injEq, Prod.mk.injEq] at h; obtain ⟨rfl, rfl, rfl⟩ := h; exact .ret
    | scope a => simp only [execM] at h; exact .scope (ih h)
    | region ops keep =>
      simp only [execM] at h
      split at h
      · rename_i E2 H2 ho
        simp only [Option.some.injEq, Prod.mk.injEq] at h; obtain ⟨rfl, rfl, rfl⟩ := h
        rw [En.keep_f]
        refine .region (opsN_sound ?_ ho)
        intro f av H r H' hc
        split at hc
        · rename_i e he
          obtain ⟨he1, rfl⟩ := find_mem he
          split at hc
          · rename_i hl
            split at hc
            · cases hc
            · rename_i x E1 H1 hnx hx
              have := ih hx
              rw [env0_eq] at this
              exact finishN_sound hmix (htab e he1) hl this (fun id e => hnx id e) hc
            · cases hc
          · cases hc
        · exact hnat _ _ _ _ _ hc
      · cases h
    | regionD ts ops prs keep =>
      simp only [execM] at h
      split at h
      · rename_i E2 H2 ho
        simp only [Option.some.injEq, Prod.mk.injEq] at h; obtain ⟨rfl, rfl, rfl⟩ := h
        rw [En.keep_f]
        refine .regionD (opsN_sound ?_ ho)
        intro f av H r H' hc
        split at hc
        · rename_i e he
          obtain ⟨he1, rfl⟩ := find_mem he
          split at hc
          · rename_i hl
            split at hc
            · cases hc
            · rename_i x E1 H1 hnx hx
              have := ih hx
              rw [env0_eq] at this
              exact finishN_sound hmix (htab e he1) hl this (fun id e => hnx id e) hc
            · cases hc
          · cases hc
        · exact hnat _ _ _ _ _ hc
      · cases h
    | seq a b =>
      simp only [execM] at h
      split at h
      · rename_i E2 H2 h2
        exact .seq (ih h2) (ih h)
      · rename_i hn
        refine .seqX (ih h) ?_
        intro e; subst e; exact hn _ _ h
    | cond c a b =>
      simp only [execM] at h
      split at h
      · rename_i hc; exact .cond (y := true) hc (ih h)
      · rename_i hc; exact .cond (y := false) hc (ih h)
      · cases h
    | block id a =>
      simp only [execM] at h
      split at h
      · rename_i h2
        simp only [Option.some.injEq, Prod.mk.injEq] at h; obtain ⟨rfl, rfl, rfl⟩ := h
        exact .block (ih h2)
      · cases h
    | loop a =>
      simp only [execM] at h
      split at h
      · rename_i E2 H2 h2
        exact .loop (ih h2) (ih h)
      · rename_i hn
        refine .loopX (ih h) ?_
        intro e; subst e; exact hn _ _ h

/-- What the machine answers when it is run, the function answers. -/
theorem callM_sound (hmix : P.follows .mixedOrders = true) (htab : tabOk P tab) (hnat : ∀ f av H r H', nat f av H = some (r, H') → T P f av H r H') (n : Nat) {f : Nat} {av : List V} {H : Heap} {r : V} {H' : Heap} (h : callM nat tab n f av H = some (r, H')) : T P f av H r H' := by
  unfold callM at h
  split at h
  · rename_i e he
    obtain ⟨he1, rfl⟩ := find_mem he
    split at h
    · rename_i hl
      split at h
      · cases h
      · rename_i x E1 H1 hnx hx
        have := execM_sound hmix htab hnat n hx
        rw [env0_eq] at this
        exact finishN_sound hmix (htab e he1) hl this (fun id e => hnx id e) h
      · cases h
    · cases h
  · exact hnat _ _ _ _ _ h
end
end Go.Proofs.YtoaohapbbnpbeaaGreat.Vm
namespace Go.Proofs.YtoaohapbbnpbeaaGreat.Vm
open Go

set_option maxRecDepth 100000 in
theorem copy_fresh (b : Nat) (w : World) (v : Value) (h0 : w.heap[b]? = some (.cells #[.pointer none, v] 109 (0, 0))) :
    Calls Tryz.prog 196 #[.pointer (some ⟨b, 0, none⟩)] w fun e w' => e = .returned (.tuple #[]) ∧ w' = w.setCell ⟨b, 0, none⟩ (.pointer (some ⟨b, 0, none⟩)) := by
  have c0 : w.cell? ⟨b, 0, none⟩ = some (.pointer none) := by rw [Lib.cell_of_heap h0]; rfl
  have hsh : w.shape? b = some (109, 2) := by simp [World.shape?, h0]
  have hfz : w.frozen? ⟨b, 0, none⟩ = false := Lib.frozen_of_heap h0 0
  go_enter Tryz.func196, Tryz.ntmps196
  go_wp2
  rw [Lib.run_to_unsafe (t := 107) (j := (Tryz.prog.info? 107).get!) w ⟨b, 0, none⟩ (by kernel_rfl) (by kernel_rfl) (by kernel_rfl) (by decide +kernel) hsh (Nat.zero_lt_succ 1)]
  simp only [Result.andThen]
  rw [Oper.upon_value]
  go_wp2
  rw [run_callFunc_extern Tryz.func221 (by kernel_rfl) (by kernel_rfl) (by kernel_rfl) (e := Extern.AbiNoEscape.same) (by kernel_rfl)]
  rw [Lib.run_noEscape]
  simp only [Result.andThen]
  rw [Oper.upon_value]
  go_wp2
  rw [Lib.run_from_unsafe (u := 107) (j := (Tryz.prog.info? 107).get!) w ⟨b, 0, none⟩ (by kernel_rfl) (by kernel_rfl) (by kernel_rfl) hsh (by kernel_rfl)]
  simp only [Result.andThen]
  rw [Oper.upon_value]
  go_wp2
  go_end0
  exact ⟨rfl, rfl⟩
set_option maxRecDepth 100000 in
theorem copy_used (b : Nat) (w : World) (v : Value) (h0 : w.heap[b]? = some (.cells #[.pointer (some ⟨b, 0, none⟩), v] 109 (0, 0))) :
    Calls Tryz.prog 196 #[.pointer (some ⟨b, 0, none⟩)] w fun e w' => e = .returned (.tuple #[]) ∧ w' = w := by
  have c0 : w.cell? ⟨b, 0, none⟩ = some (.pointer (some ⟨b, 0, none⟩)) := by rw [Lib.cell_of_heap h0]; rfl
  go_enter Tryz.func196, Tryz.ntmps196
  go_wp2
  rw [Lib.run_neq_ptr_same (te := 107) (j := (Tryz.prog.info? 107).get!) w _ (by kernel_rfl) (by kernel_rfl)]
  go_wp2
  go_end0
  exact ⟨rfl, rfl⟩
/-- A builder that has turned, and nothing else. -/
theorem bld_post {w : World} {G : Gh} {own : Nat → Option Place} {H : Heap} (hok : Ok w G own H) {id : Nat} {t e : Nat} {fz : Bool} {bs : List UInt8} (ho : H[id]? = some (.bld t e fz bs)) {b : Nat} (hown : own b = some (.obj id)) (himm : ∀ o, G.imm b o = none)
    {w' : World} (hsz : w.heap.size ≤ w'.heap.size) (ht : w'.tape = w.tape) (hos : w'.os = w.os) (hout : w'.output = w.output)
    (S : Nat → Prop) (hS : ∀ k, S k → own k = some (.cell id) ∧ ∀ o, G.imm k o = none) (hfr : ∀ k, k < w.heap.size → k ≠ b → ¬ S k → w'.heap[k]? = w.heap[k]?)
    {own' : Nat → Option Place} (ho1 : ∀ k, k < w.heap.size → own' k = own k) (ho2 : ∀ k p, own' k = some p → k < w'.heap.size) (ho3 : ∀ k, w.heap.size ≤ k → own' k = none ∨ own' k = some (.cell id))
    {ob' : Obj} (hob : ObjOk w' G own' id ob') {r : V} {c : Value} (hr : RepL w' G [r] [c] []) : Post w G own r (H.set id ob') c w' := by
  have hlt : id < H.length := (List.getElem?_eq_some_iff.1 ho).1
  have hkeep : ∀ k, (∃ i, i ≠ id ∧ (own k = some (.obj i) ∨ own k = some (.cell i))) ∨ own k = some .frame ∨ (∃ o v, G.imm k o = some v) → k < w.heap.size → w'.heap[k]? = w.heap[k]? := by
    intro k hk hlt
    refine hfr k hlt ?_ ?_
    · rintro rfl
      rcases hk with ⟨i, hi, h | h⟩ | h | ⟨o, v, h⟩
      · rw [hown] at h; cases h; exact hi rfl
      · rw [hown] at h; cases h
      · rw [hown] at h; cases h
      · rw [himm] at h; cases h
    · intro hs
      obtain ⟨h1, h2⟩ := hS k hs
      rcases hk with ⟨i, hi, h | h⟩ | h | ⟨o, v, h⟩
      · rw [h1] at h; cases h
      · rw [h1] at h; cases h; exact hi rfl
      · rw [h1] at h; cases h
      · rw [h2] at h; cases h
  refine ⟨G, own', [], ⟨fun b2 o v h => ?_, ho2, by rw [List.length_set]; exact hok.len, fun i ob hi => ?_⟩, hr, List.nodup_nil, (fun _ h => by cases h), ⟨hsz, fun _ _ _ h => h, loc_refl G, fun k hk => ?_, ht, hos, hout⟩⟩
  · obtain ⟨c, e, f, h1, h2⟩ := hok.imm b2 o v h
    have hl : b2 < w.heap.size := by
      rcases Nat.lt_or_ge b2 w.heap.size with h' | h'
      · exact h'
      · rw [Array.getElem?_eq_none h'] at h1; cases h1
    exact ⟨c, e, f, by rw [hkeep b2 (.inr (.inr ⟨o, v, h⟩)) hl]; exact h1, h2⟩
  · rw [List.getElem?_set] at hi
    by_cases h : id = i
    · subst h
      rw [if_pos rfl, if_pos hlt] at hi
      cases hi
      exact hob
    · rw [if_neg h] at hi
      refine (hok.obj i ob hi).mono (fun _ _ _ h => h) (loc_refl G) rfl fun b2 hb2 => ?_
      have hl : b2 < w.heap.size := by rcases hb2 with hb2 | hb2 <;> exact hok.size b2 _ hb2
      exact ⟨hkeep b2 (.inl ⟨i, fun e => h e.symm, hb2⟩) hl, fun _ => rfl, ho1 b2 hl⟩
  · have hl := hok.size k _ hk
    exact ⟨hkeep k (.inr (.inl hk)) hl, fun _ => rfl, by rw [ho1 k hl]; exact hk⟩
theorem bld_ptr {w : World} {G : Gh} {own : Nat → Option Place} {H : Heap} (hok : Ok w G own H) {id : Nat} {t e : Nat} {fz : Bool} {bs : List UInt8} (ho : H[id]? = some (.bld t e fz bs)) {vs : List V} {cs : List Value} {bl : List Nat} (hr : RepL w G (.ptr id 0 0 :: vs) cs bl) :
    ∃ b p v cs', cs = .pointer (some ⟨b, 0, none⟩) :: cs' ∧ RepL w G vs cs' bl ∧ G.loc[id]? = some (b, 0, 2) ∧ own b = some (.obj id) ∧ w.heap[b]? = some (.cells #[p, v] t (0, 0)) ∧ (∀ o, G.imm b o = none) ∧ (p = .pointer none ∨ p = .pointer (some ⟨b, 0, none⟩)) ∧
      ((bs = [] ∧ v = .slice none 0 0) ∨ ∃ g cap cur fr, v = .slice (some ⟨g, 0, none⟩) bs.length cap ∧ own g = some (.cell id) ∧ w.heap[g]? = some (.cells cur e fr) ∧ (fz = false → fr = (0, 0)) ∧ (∀ o, G.imm g o = none) ∧
        bs.length ≤ cap ∧ cur.size = cap ∧ cur.toList.take bs.length = bs.map (fun x => .int .u8 x.toNat) ∧ bs ≠ []) := by
  obtain ⟨b, p, v, h1, h2, h3, h4, h5, h6⟩ := hok.obj id _ ho
  obtain ⟨b', ver', n', bb, cs', rfl, hl, hv, hb, hr2⟩ := hr.ptr_inv
  rw [h1] at hl
  cases hl
  obtain rfl := hb rfl
  exact ⟨bb, p, v, cs', rfl, hr2, h1, h2, h3, h4, h5, h6⟩
theorem copyCheck_T {H : Heap} {id : Nat} {bs : List UInt8} (ho : H[id]? = some (.bld 109 5 false bs)) : T Tryz.prog 196 [.ptr id 0 0] H (.tup []) H := by
  refine ⟨⟨_, Tryz.func196, by kernel_rfl, by kernel_rfl⟩, fun w G own cs bl hok hr hn ha => ?_⟩
  obtain ⟨b, p, v, cs', hcs, hr2, h1, h2, h3, h4, h5, h6⟩ := bld_ptr hok ho hr
  obtain ⟨rfl, rfl⟩ := hr2.nil_inv
  obtain rfl : cs = #[.pointer (some ⟨b, 0, none⟩)] := by cases cs; simp at hcs; rw [hcs]
  have hself : H.set id (.bld 109 5 false bs) = H := by
    apply List.ext_getElem?
    intro j
    rw [List.getElem?_set]
    split
    · rename_i e; subst e; rw [if_pos (List.getElem?_eq_some_iff.1 ho).1, ho]
    · rfl
  have hrep : ∀ w' : World, RepL w' G [.tup []] [.tuple #[]] [] := fun w' => by simpa using RepL.tup (w := w') (G := G) (ws := []) (acs := []) .nil .nil
  rcases h5 with rfl | rfl
  · refine (copy_fresh b w v h3).mono ?_
    rintro e w' ⟨rfl, rfl⟩
    refine ⟨_, rfl, ?_⟩
    rw [← hself]
    have hsame : (w.setCell ⟨b, 0, none⟩ (.pointer (some ⟨b, 0, none⟩))).heap[b]? = some (.cells #[.pointer (some ⟨b, 0, none⟩), v] 109 (0, 0)) := by simp [World.setCell, Array.getElem?_modify, h3]
    have hoth : ∀ k, k ≠ b → (w.setCell ⟨b, 0, none⟩ (.pointer (some ⟨b, 0, none⟩))).heap[k]? = w.heap[k]? := fun k hk => RowKit.Below.heap_setCell _ _ _ _ hk
    have hsz : (w.setCell ⟨b, 0, none⟩ (.pointer (some ⟨b, 0, none⟩))).heap.size = w.heap.size := by simp [World.setCell]
    refine bld_post (w' := w.setCell ⟨b, 0, none⟩ (.pointer (some ⟨b, 0, none⟩))) hok ho h2 h4 (by rw [hsz]; exact Nat.le_refl _) rfl rfl rfl (fun _ => False) (fun _ h => h.elim) (fun k _ hk _ => hoth k hk) (own' := own) (fun _ _ => rfl) (fun k p hp => by rw [hsz]; exact hok.size k p hp) (fun k hk => ?_) ?_ (hrep _)
    · cases hk2 : own k with
      | none => exact .inl rfl
      | some p => exact absurd (hok.size k p hk2) (by omega)
    · refine ⟨b, _, v, h1, h2, hsame, h4, .inr rfl, ?_⟩
      rcases h6 with h6 | ⟨g, cap, cur, fr, q1, q2, q3, q4, q5, q6⟩
      · exact .inl h6
      · exact .inr ⟨g, cap, cur, fr, q1, q2, by rw [hoth g (by rintro rfl; rw [h2] at q2; cases q2)]; exact q3, q4, q5, q6⟩
  · refine (copy_used b w v h3).mono ?_
    rintro e w' ⟨rfl, rfl⟩
    refine ⟨_, rfl, ?_⟩
    exact ⟨G, own, [], hok, hrep _, List.nodup_nil, (fun _ h => by cases h), Ext.refl ..⟩
end Go.Proofs.YtoaohapbbnpbeaaGreat.Vm
namespace Go.Proofs.YtoaohapbbnpbeaaGreat.Vm
open Go

theorem wpList_append_run {P : Program} {w : World} {ops : Array Oper} {rest : List Oper} {o : Oper} {a : Go.Act} {Q : Exit → Go.Act → World → Prop} (hgd : o.guard = none) (sl x : Operand) (t u : TypeId)
    (ho : o.op = .call { callee := .builtin .append, args := #[sl, x], argTypes := #[t, u] }) (v vx : Value) (hs : a.eval sl = v) (hx : a.eval x = vx) {v' : Value} {w' : World} (hr : (Builtin.append_ #[t, u] o.type #[v, vx]).run P w = .ok v' w')
    (h : wpList P ops Q rest (a.put o.dst v') w') : wpList P ops Q (o :: rest) a w := by
  refine wpList_plain hgd fun K hK => ?_
  unfold Oper.wp Go.execOp
  simp only [ho, Go.resolve, Go.invoke, Go.builtin, Sem.run_bind, Sem.run_pure, Result.andThen_ok, List.map_toArray, List.map_cons, List.map_nil, hs, hx, hr]
  exact hK _ _ h
set_option maxRecDepth 100000 in
theorem write_calls (b : Nat) (w : World) (p v : Value) (h0 : w.heap[b]? = some (.cells #[p, v] 109 (0, 0))) (hp : p = .pointer none ∨ p = .pointer (some ⟨b, 0, none⟩)) (s : ByteArray) (Q : Value → World → Prop)
    (happ : ∀ w1 : World, w1.heap[b]? = some (.cells #[.pointer (some ⟨b, 0, none⟩), v] 109 (0, 0)) → (∀ k, k ≠ b → w1.heap[k]? = w.heap[k]?) → w1.heap.size = w.heap.size → w1.tape = w.tape → w1.os = w.os → w1.output = w.output →
      ∃ ao nn cc w2, (Builtin.append_ #[105, 9] 105 #[v, .string s]).run Tryz.prog w1 = .ok (.slice ao nn cc) w2 ∧ w2.heap[b]? = w1.heap[b]? ∧ Q (.slice ao nn cc) (w2.setCell ⟨b, 1, none⟩ (.slice ao nn cc))) :
    Calls Tryz.prog 143 #[.pointer (some ⟨b, 0, none⟩), .string s] w fun e w' => e = .returned (.tuple #[.int .i64 s.size, .nilIface]) ∧ ∃ v', Q v' w' := by
  have e240 : ∀ args w, (callFunc 196 args).run Tryz.prog w = .ok (.enter 196 args) w := enters_of Tryz.func196 (by kernel_rfl) rfl
  go_enter Tryz.func143, Tryz.ntmps143
  have hC : Calls Tryz.prog 196 #[.pointer (some ⟨b, 0, none⟩)] w fun e w1 => e = .returned (.tuple #[]) ∧ (w1.heap[b]? = some (.cells #[.pointer (some ⟨b, 0, none⟩), v] 109 (0, 0)) ∧ (∀ k, k ≠ b → w1.heap[k]? = w.heap[k]?) ∧ w1.heap.size = w.heap.size ∧ w1.tape = w.tape ∧ w1.os = w.os ∧ w1.output = w.output) := by
    rcases hp with rfl | rfl
    · refine (copy_fresh b w v h0).mono ?_
      rintro e w' ⟨rfl, rfl⟩
      exact ⟨rfl, by simp [World.setCell, Array.getElem?_modify, h0], fun k hk => RowKit.Below.heap_setCell _ _ _ _ hk, by simp [World.setCell], rfl, rfl, rfl⟩
    · refine (copy_used b w v h0).mono ?_
      rintro e w' ⟨rfl, rfl⟩
      exact ⟨rfl, h0, fun _ _ => rfl, rfl, rfl, rfl, rfl⟩
  go_wp2_with (go_at_fn 196; refine hC.mono ?_)
  rintro e w1 ⟨rfl, k1, k2, k3, k4, k5, k6⟩
  obtain ⟨ao, nn, cc, w2, hrun, hb2, hQ⟩ := happ w1 k1 k2 k3 k4 k5 k6
  have c1 : w1.cell? ⟨b, 1, none⟩ = some v := by rw [Lib.cell_of_heap k1]; rfl
  have c0 : w2.cell? ⟨b, 1, none⟩ = some v := by rw [Lib.cell_of_heap (hb2.trans k1)]; rfl
  have f1 : w2.frozen? ⟨b, 1, none⟩ = false := Lib.frozen_of_heap (hb2.trans k1) 1
  go_wp2_with (at_builtin; refine wpList_append_run rfl _ _ 105 9 rfl v (.string s) rfl rfl hrun ?_)
  try go_wp2
  go_ret2
  exact ⟨rfl, _, hQ⟩
def byteV (bs : List UInt8) : List Value := bs.map fun x => .int .u8 x.toNat
theorem byteV_app (a b : List UInt8) : byteV (a ++ b) = byteV a ++ byteV b := List.map_append ..
theorem byteCells_V (s : ByteArray) : byteCells s = byteV s.data.toList := rfl
theorem info5 : ∃ i z, Tryz.prog.info? 5 = some i ∧ i.zero = some z ∧ i.size = 1 ∧ i.bytes = 1 ∧ z = .int .u8 0 := ⟨(Tryz.prog.info? 5).get!, .int .u8 0, by kernel_rfl, by kernel_rfl, by kernel_rfl, by kernel_rfl, rfl⟩
/-- What a text that is appended to a builder's row comes to. -/
theorem append_bld {w : World} {bs : List UInt8} {v : Value} (h : (bs = [] ∧ v = .slice none 0 0) ∨ ∃ g cap cur, v = .slice (some ⟨g, 0, none⟩) bs.length cap ∧ w.heap[g]? = some (.cells cur 5 (0, 0)) ∧ bs.length ≤ cap ∧ cur.size = cap ∧ cur.toList.take bs.length = byteV bs ∧ bs ≠ [])
    (s : ByteArray) (hfit : bs.length + s.size ≤ 140737488355328) :
    ∃ v' w2, (Builtin.append_ #[105, 9] 105 #[v, .string s]).run Tryz.prog w = .ok v' w2 ∧ w2.tape = w.tape ∧ w2.os = w.os ∧ w2.output = w.output ∧
      ((bs ++ s.data.toList = [] ∧ v' = .slice none 0 0 ∧ w2.heap = w.heap) ∨ ∃ g cap cur, v' = .slice (some ⟨g, 0, none⟩) (bs ++ s.data.toList).length cap ∧ w2.heap[g]? = some (.cells cur 5 (0, 0)) ∧ (bs ++ s.data.toList).length ≤ cap ∧ cur.size = cap ∧
        cur.toList.take (bs ++ s.data.toList).length = byteV (bs ++ s.data.toList) ∧ bs ++ s.data.toList ≠ [] ∧ w.heap.size ≤ w2.heap.size ∧ ((∃ cap0, v = .slice (some ⟨g, 0, none⟩) bs.length cap0) ∧ w2.heap.size = w.heap.size ∨ g = w.heap.size ∧ w2.heap.size = w.heap.size + 1) ∧ ∀ k, k < w.heap.size → k ≠ g → w2.heap[k]? = w.heap[k]?) := by
  obtain ⟨i, z, hi, hz, hs1, hb1, rfl⟩ := info5
  have ht : Tryz.prog.underlying 105 = some (.slice 5) := by kernel_rfl
  have hk : Tryz.prog.underlying 9 = some .string := by kernel_rfl
  have hsl : s.data.toList.length = s.size := by rw [Array.length_toList]; rfl
  have hS : Src Tryz.prog i.size 9 (.string s) s.size (byteCells s) w := by rw [hs1]; exact Src.ofString w hk s
  have grow : ∀ (base : Option Addr) (cap : Nat), v = .slice base bs.length cap → (Builtin.firstCells i.size bs.length v).run Tryz.prog w.drew = .ok (byteV bs).toArray w.drew → cap < bs.length + s.size →
      ∃ v' w2, (Builtin.append_ #[105, 9] 105 #[v, .string s]).run Tryz.prog w = .ok v' w2 ∧ w2.tape = w.tape ∧ w2.os = w.os ∧ w2.output = w.output ∧
      ((bs ++ s.data.toList = [] ∧ v' = .slice none 0 0 ∧ w2.heap = w.heap) ∨ ∃ g cap cur, v' = .slice (some ⟨g, 0, none⟩) (bs ++ s.data.toList).length cap ∧ w2.heap[g]? = some (.cells cur 5 (0, 0)) ∧ (bs ++ s.data.toList).length ≤ cap ∧ cur.size = cap ∧
        cur.toList.take (bs ++ s.data.toList).length = byteV (bs ++ s.data.toList) ∧ bs ++ s.data.toList ≠ [] ∧ w.heap.size ≤ w2.heap.size ∧ ((∃ cap0, v = .slice (some ⟨g, 0, none⟩) bs.length cap0) ∧ w2.heap.size = w.heap.size ∨ g = w.heap.size ∧ w2.heap.size = w.heap.size + 1) ∧ ∀ k, k < w.heap.size → k ≠ g → w2.heap[k]? = w.heap[k]?) := by
    intro base cap hv hold hcap
    subst hv
    have hrun := run_append_grow_src w 105 9 105 5 i _ ht hi hz base bs.length cap (byteV bs) hold (.string s) s.size (byteCells s) hS hcap (by omega) (growslice_fits hcap (by rw [hb1, Nat.mul_one]; exact hfit))
    have hge := grownCap_ge w (bs.length + s.size) cap 5
    have hzl : (Builtin.zeroCells (Value.cells (.int .u8 0)) (grownCap w (bs.length + s.size) cap 5 - (bs.length + s.size))).size = grownCap w (bs.length + s.size) cap 5 - (bs.length + s.size) := by
      rw [size_zeroCells]; exact Nat.mul_one _
    have hbl : (byteV bs).length = bs.length := List.length_map ..
    have hcl : (byteCells s).length = s.size := byteCells_length s
    have hsz : ((byteV bs ++ byteCells s).toArray ++ Builtin.zeroCells (Value.cells (.int .u8 0)) (grownCap w (bs.length + s.size) cap 5 - (bs.length + s.size))).size = grownCap w (bs.length + s.size) cap 5 := by
      rw [Array.size_append, hzl, List.size_toArray, List.length_append, hbl, hcl]; omega
    have hnew : (w.drew.alloc (.cells ((byteV bs ++ byteCells s).toArray ++ Builtin.zeroCells (Value.cells (.int .u8 0)) (grownCap w (bs.length + s.size) cap 5 - (bs.length + s.size))) 5)).heap = w.heap.push (.cells ((byteV bs ++ byteCells s).toArray ++ Builtin.zeroCells (Value.cells (.int .u8 0)) (grownCap w (bs.length + s.size) cap 5 - (bs.length + s.size))) 5) := rfl
    have htk : ((byteV bs ++ byteCells s).toArray ++ Builtin.zeroCells (Value.cells (.int .u8 0)) (grownCap w (bs.length + s.size) cap 5 - (bs.length + s.size))).toList.take (bs ++ s.data.toList).length = byteV (bs ++ s.data.toList) := by
      rw [Array.toList_append, byteV_app, ← byteCells_V]
      exact List.take_left' (by rw [List.length_append, List.length_append, hbl, hcl, hsl])
    refine ⟨_, _, hrun, rfl, rfl, rfl, .inr ⟨w.heap.size, _, _, by rw [List.length_append, hsl], by rw [hnew]; exact Array.getElem?_push_size, by rw [List.length_append, hsl]; exact hge, hsz, htk, (by intro e; have := congrArg List.length e; rw [List.length_append, hsl, List.length_nil] at this; omega), by rw [hnew, Array.size_push]; omega, .inr ⟨rfl, by rw [hnew, Array.size_push]⟩, fun k hk _ => by rw [hnew]; exact Array.getElem?_push_lt .. |>.trans (Array.getElem?_eq_getElem hk).symm⟩⟩
  rcases h with ⟨rfl, rfl⟩ | ⟨g, cap, cur, rfl, hg, hle, hcs, htake, hbne⟩
  · by_cases h0 : s.size = 0
    · have hd : s.data.toList = [] := List.eq_nil_of_length_eq_zero (by omega)
      refine ⟨.slice none 0 0, w, ?_, rfl, rfl, rfl, .inl ⟨by rw [hd]; rfl, rfl, rfl⟩⟩
      have hnew : byteCells s = [] := List.eq_nil_of_length_eq_zero (by rw [byteCells_length]; exact h0)
      have hl := hS.len
      have hc := hS.cells
      rw [h0] at hl hc
      rw [hnew] at hc
      simp [Builtin.append_, run_underlying ht, run_underlying hk, Go.sizeOf, typeInfo, hi, hl, hc]
    · exact grow none 0 rfl (by simpa [byteV] using run_firstCells_none w.drew i.size 0 0 0) (by simp; omega)
  · by_cases hroom : bs.length + s.size ≤ cap
    · have hrun := run_append_room_at (P := Tryz.prog) w 105 9 105 5 i ht hi g 0 bs.length cap cur 5 hg (.string s) s.size (byteCells s) hS hroom (by rw [hs1, byteCells_length]; omega)
      have hbl : (byteV bs).length = bs.length := List.length_map ..
      have hcl : (byteCells s).length = s.size := byteCells_length s
      have hcul : cur.toList.length = cap := by rw [Array.length_toList]; exact hcs
      generalize hrow : (cur.toList.take (0 + bs.length * i.size) ++ byteCells s ++ cur.toList.drop (0 + bs.length * i.size + (byteCells s).length)).toArray = row at hrun
      have hrl : row.toList = cur.toList.take bs.length ++ byteCells s ++ cur.toList.drop (bs.length + s.size) := by
        rw [← hrow, hs1, hcl, Nat.mul_one, Nat.zero_add]
      have hsame : (w.setRow g row).heap[g]? = some (.cells row 5 (0, 0)) := by simp [World.setRow, Array.getElem?_modify, hg]
      have hoth : ∀ k, k ≠ g → (w.setRow g row).heap[k]? = w.heap[k]? := fun k hk => setRow_other w g k row hk
      refine ⟨_, _, hrun, rfl, rfl, rfl, .inr ⟨g, cap, row, by rw [List.length_append, hsl], hsame, by rw [List.length_append, hsl]; exact hroom, ?_, ?_, (by intro e; exact hbne (List.append_eq_nil_iff.1 e).1), by rw [setRow_size]; exact Nat.le_refl _, .inl ⟨⟨cap, rfl⟩, setRow_size ..⟩, fun k _ hk => hoth k hk⟩⟩
      · rw [← Array.length_toList, hrl]
        simp [hcul, hcl]; omega
      · rw [hrl, htake, byteV_app, ← byteCells_V]
        exact List.take_left' (by rw [List.length_append, List.length_append, hbl, hcl, hsl])
    · refine grow (some ⟨g, 0, none⟩) cap rfl ?_ (by omega)
      rw [hs1]
      refine run_firstCells_some w.drew 1 bs.length ⟨g, 0, none⟩ bs.length cap (byteV bs) (by simp [byteV]) fun j u hu => ?_
      have hlt : j < bs.length := by
        have := (List.getElem?_eq_some_iff.1 hu).1
        simpa [byteV] using this
      have hcj : cur[j]? = some u := by
        rw [← Array.getElem?_toList]
        have : (cur.toList.take bs.length)[j]? = some u := by rw [htake]; exact hu
        rwa [List.getElem?_take, if_pos hlt] at this
      have hg' : w.drew.heap[g]? = some (.cells cur 5 (0, 0)) := hg
      rw [Addr.add_lit, Lib.cell_of_heap hg', Nat.zero_add]
      exact hcj
theorem writeString_T {H : Heap} {id : Nat} {bs : List UInt8} (ho : H[id]? = some (.bld 109 5 false bs)) (s : List UInt8) (hfit : bs.length + s.length ≤ 140737488355328) :
    T Tryz.prog 143 [.ptr id 0 0, .str s] H (.tup [.int .i64 s.length, .u]) (H.set id (.bld 109 5 false (bs ++ s))) := by
  refine ⟨⟨_, Tryz.func143, by kernel_rfl, by kernel_rfl⟩, fun w G own cs bl hok hr hn ha => ?_⟩
  obtain ⟨b, p, v, cs', hcs, hr2, h1, h2, h3, h4, h5, h6⟩ := bld_ptr hok ho hr
  obtain ⟨sb, cs2, rfl, rfl, hr3⟩ := hr2.str_inv
  obtain ⟨rfl, rfl⟩ := hr3.nil_inv
  obtain rfl : cs = #[.pointer (some ⟨b, 0, none⟩), .string sb] := by cases cs; simp at hcs; rw [hcs]
  have hsl : sb.data.toList.length = sb.size := by rw [Array.length_toList]; rfl
  rw [hsl] at hfit
  have hbsz : b < w.heap.size := hok.size b _ h2
  have hgne : ∀ g, own g = some (.cell id) → g ≠ b := by rintro g hg rfl; rw [h2] at hg; cases hg
  have hrep : ∀ w' : World, RepL w' G [.tup [.int .i64 (sb.data.toList.length : Int), .u]] [.tuple #[.int .i64 sb.size, .nilIface]] [] := fun w' => by
    rw [hsl]
    have h := RepL.tup (w := w') (G := G) (ws := [.int .i64 (sb.size : Int), .u]) (acs := [.int .i64 sb.size, .nilIface]) (.imm _ _ (.int _ _ .nil) (.u _ .nil)) .nil
    simpa using h
  refine (write_calls b w p v h3 h5 sb (fun _ w' => Post w G own (.tup [.int .i64 (sb.data.toList.length : Int), .u]) (H.set id (.bld 109 5 false (bs ++ sb.data.toList))) (.tuple #[.int .i64 sb.size, .nilIface]) w') ?_).mono ?_
  · intro w1 k1 k2 k3 k4 k5 k6
    have hrow : (bs = [] ∧ v = .slice none 0 0) ∨ ∃ g cap cur, v = .slice (some ⟨g, 0, none⟩) bs.length cap ∧ w1.heap[g]? = some (.cells cur 5 (0, 0)) ∧ bs.length ≤ cap ∧ cur.size = cap ∧ cur.toList.take bs.length = byteV bs ∧ bs ≠ [] := by
      rcases h6 with h6 | ⟨g, cap, cur, fr, q1, q2, q3, q4, q5, q6, q7, q8⟩
      · exact .inl h6
      · refine .inr ⟨g, cap, cur, q1, ?_, q6, q7, q8⟩
        rw [k2 g (hgne g q2), q3, q4 rfl]
    obtain ⟨v', w2, hrun, j1, j2, j3, hres⟩ := append_bld hrow sb hfit
    have hfin : ∀ {w2 : World} {v' : Value}, w2.tape = w1.tape → w2.os = w1.os → w2.output = w1.output → w2.heap[b]? = w1.heap[b]? →
        ((bs ++ sb.data.toList = [] ∧ v' = .slice none 0 0 ∧ w2.heap = w1.heap) ∨ ∃ g cap cur, v' = .slice (some ⟨g, 0, none⟩) (bs ++ sb.data.toList).length cap ∧ w2.heap[g]? = some (.cells cur 5 (0, 0)) ∧ (bs ++ sb.data.toList).length ≤ cap ∧ cur.size = cap ∧
          cur.toList.take (bs ++ sb.data.toList).length = byteV (bs ++ sb.data.toList) ∧ bs ++ sb.data.toList ≠ [] ∧ w1.heap.size ≤ w2.heap.size ∧ ((∃ cap0, v = .slice (some ⟨g, 0, none⟩) bs.length cap0) ∧ w2.heap.size = w1.heap.size ∨ g = w1.heap.size ∧ w2.heap.size = w1.heap.size + 1) ∧ ∀ k, k < w1.heap.size → k ≠ g → w2.heap[k]? = w1.heap[k]?) →
        Post w G own (.tup [.int .i64 (sb.data.toList.length : Int), .u]) (H.set id (.bld 109 5 false (bs ++ sb.data.toList))) (.tuple #[.int .i64 sb.size, .nilIface]) (w2.setCell ⟨b, 1, none⟩ v') := by
      intro w2 v' j1 j2 j3 jb hres
      have hset : (w2.setCell ⟨b, 1, none⟩ v').heap[b]? = some (.cells #[.pointer (some ⟨b, 0, none⟩), v'] 109 (0, 0)) := by
        simp [World.setCell, Array.getElem?_modify, jb.trans k1]
      have hoth : ∀ k, k ≠ b → (w2.setCell ⟨b, 1, none⟩ v').heap[k]? = w2.heap[k]? := fun k hk => RowKit.Below.heap_setCell _ _ _ _ hk
      have hssz : (w2.setCell ⟨b, 1, none⟩ v').heap.size = w2.heap.size := by simp [World.setCell]
      have hsz0 : w.heap.size ≤ w2.heap.size := by
        rcases hres with ⟨_, _, h⟩ | ⟨_, _, _, _, _, _, _, _, _, h, _⟩
        · rw [h, k3]; exact Nat.le_refl _
        · rw [← k3]; exact h
      have hnone : ∀ k, w.heap.size ≤ k → own k = none := fun k hk => by
        cases hk2 : own k with
        | none => rfl
        | some q => exact absurd (hok.size k q hk2) (by omega)
      have t1 : (w2.setCell ⟨b, 1, none⟩ v').tape = w.tape := j1.trans k4
      have t2 : (w2.setCell ⟨b, 1, none⟩ v').os = w.os := j2.trans k5
      have t3 : (w2.setCell ⟨b, 1, none⟩ v').output = w.output := j3.trans k6
      rcases hres with ⟨e1, rfl, e3⟩ | ⟨g, cap, cur, rfl, e2, e3, e4, e5, e5n, e6, e7, e8⟩
      · refine bld_post hok ho h2 h4 (by rw [hssz]; exact hsz0) t1 t2 t3 (fun _ => False) (fun _ h => h.elim) (fun k _ hk _ => by rw [hoth k hk, e3, k2 k hk]) (own' := own) (fun _ _ => rfl) (fun k p hp => by rw [hssz]; exact Nat.lt_of_lt_of_le (hok.size k p hp) hsz0) (fun k hk => .inl (hnone k hk)) ?_ (hrep _)
        exact ⟨b, _, _, h1, h2, hset, h4, .inr rfl, .inl ⟨e1, rfl⟩⟩
      · rcases e7 with ⟨⟨cap0, rfl⟩, e9⟩ | ⟨rfl, e9⟩
        · rcases h6 with ⟨_, h⟩ | ⟨g', cap', cur', fr, q1, q2, q3, q4, q5, q6⟩
          · cases h
          · cases q1
            have hgb := hgne g q2
            refine bld_post hok ho h2 h4 (by rw [hssz]; exact hsz0) t1 t2 t3 (fun k => k = g) (fun k h => by subst h; exact ⟨q2, q5⟩) (fun k hk hkb hkg => by rw [hoth k hkb, e8 k (by rw [k3]; exact hk) hkg, k2 k hkb]) (own' := own) (fun _ _ => rfl) (fun k p hp => by rw [hssz]; exact Nat.lt_of_lt_of_le (hok.size k p hp) hsz0) (fun k hk => .inl (hnone k hk)) ?_ (hrep _)
            exact ⟨b, _, _, h1, h2, hset, h4, .inr rfl, .inr ⟨g, cap, cur, (0, 0), rfl, q2, by rw [hoth g hgb]; exact e2, fun _ => rfl, q5, e3, e4, e5, e5n⟩⟩
        · rw [k3] at *
          have hgb : w.heap.size ≠ b := by omega
          have himm : ∀ o, G.imm w.heap.size o = none := by
            intro o
            cases hi : G.imm w.heap.size o with
            | none => rfl
            | some x =>
              obtain ⟨c, e, f, h, _⟩ := hok.imm _ _ _ hi
              rw [Array.getElem?_eq_none (Nat.le_refl _)] at h; cases h
          refine bld_post hok ho h2 h4 (by rw [hssz]; exact hsz0) t1 t2 t3 (fun _ => False) (fun _ h => h.elim) (fun k hk hkb _ => by rw [hoth k hkb, e8 k hk (by omega), k2 k hkb]) (own' := fun k => if k = w.heap.size then some (.cell id) else own k) (fun k hk => by rw [if_neg (by omega)])
            (fun k p hp => by
              rw [hssz, e9]
              by_cases hk : k = w.heap.size
              · omega
              · rw [if_neg hk] at hp; have := hok.size k p hp; omega)
            (fun k hk => by
              by_cases hk2 : k = w.heap.size
              · rw [if_pos hk2]; exact .inr rfl
              · rw [if_neg hk2]; exact .inl (hnone k hk)) ?_ (hrep _)
          refine ⟨b, _, _, h1, by simp only; rw [if_neg (by omega)]; exact h2, hset, h4, .inr rfl, .inr ⟨w.heap.size, cap, cur, (0, 0), rfl, by simp, by rw [hoth _ hgb]; exact e2, fun _ => rfl, himm, e3, e4, e5, e5n⟩⟩
    have hbk : w2.heap[b]? = w1.heap[b]? := by
      rcases hres with ⟨_, _, h⟩ | ⟨g, cap, cur, _, _, _, _, _, _, _, e7, e8⟩
      · rw [h]
      · refine e8 b (by rw [k3]; exact hbsz) ?_
        rintro rfl
        rcases e7 with ⟨⟨cap0, rfl⟩, _⟩ | ⟨h, _⟩
        · rcases h6 with ⟨_, h⟩ | ⟨g', cap', cur', fr, q1, q2, _⟩
          · cases h
          · cases q1; exact hgne _ q2 rfl
        · rw [k3] at h; omega
    have hfin2 := hfin j1 j2 j3 hbk hres
    rcases hres with ⟨_, rfl, _⟩ | ⟨g, cap, cur, rfl, _⟩
    · exact ⟨_, _, _, w2, hrun, hbk, hfin2⟩
    · exact ⟨_, _, _, w2, hrun, hbk, hfin2⟩
  · rintro e w' ⟨rfl, _, hQ⟩
    exact ⟨_, rfl, hQ⟩
end Go.Proofs.YtoaohapbbnpbeaaGreat.Vm
namespace Go.Proofs.YtoaohapbbnpbeaaGreat.Vm
open Go

theorem byteV_get {bs : List UInt8} {j : Nat} {x : UInt8} (h : bs[j]? = some x) : (byteV bs)[j]? = some (.int .u8 x.toNat) := by
  unfold byteV; rw [List.getElem?_map, h]; rfl
set_option maxHeartbeats 2000000 in
set_option maxRecDepth 100000 in
theorem string_nil (b : Nat) (w : World) (p : Value) (h0 : w.heap[b]? = some (.cells #[p, .slice none 0 0] 109 (0, 0))) :
    Calls Tryz.prog 66 #[.pointer (some ⟨b, 0, none⟩)] w fun e w' => e = .returned (.string ⟨#[]⟩) ∧ w'.heap = w.heap ∧ w'.tape = w.tape ∧ w'.os = w.os ∧ w'.output = w.output := by
  have hUS : ∀ (W : World) (q : Option Addr), (Builtin.unsafeString_ #[144, 3] 9 #[.pointer q, .int .i64 0]).run Tryz.prog W = .ok (.string .empty) W := fun W q => Lib.run_unsafeString_none W _ _ _ q
  have c1 : w.drew.cell? ⟨b, 1, none⟩ = some (.slice none 0 0) := by
    have : w.drew.heap[b]? = some (.cells #[p, .slice none 0 0] 109 (0, 0)) := h0
    rw [Lib.cell_of_heap this]; rfl
  have hSD : (Builtin.unsafeSliceData_ #[105] 144 #[.slice none 0 0]).run Tryz.prog w.drew = .ok (.pointer none) w.drew := rfl
  have mixed : Tryz.prog.follows .mixedOrders = true := by kernel_rfl
  go_enter Tryz.func66, Tryz.ntmps66
  go_wp2
  go_region_o
  all_goals (go_wp2; go_ret; exact ⟨rfl, rfl, rfl, rfl, rfl⟩)
set_option maxHeartbeats 2000000 in
set_option maxRecDepth 100000 in
theorem string_row (b g cap : Nat) (w : World) (p : Value) (cur : Array Value) (fr : Nat × Nat) (l : List UInt8) (h0 : w.heap[b]? = some (.cells #[p, .slice (some ⟨g, 0, none⟩) l.length cap] 109 (0, 0))) (hg : w.heap[g]? = some (.cells cur 5 fr)) (hn : l ≠ []) (hle : l.length ≤ cap) (hcs : cur.size = cap) (h63 : l.length ≤ 140737488355328)
    (htake : cur.toList.take l.length = byteV l) :
    Calls Tryz.prog 66 #[.pointer (some ⟨b, 0, none⟩)] w fun e w' => e = .returned (.string ⟨l.toArray⟩) ∧ w'.heap = (w.freeze ⟨g, 0, none⟩ l.length).heap ∧ w'.tape = w.tape ∧ w'.os = w.os ∧ w'.output = w.output := by
  have hl0 : l.length ≠ 0 := by simpa using hn
  have c1 : w.drew.cell? ⟨b, 1, none⟩ = some (.slice (some ⟨g, 0, none⟩) l.length cap) := by
    have : w.drew.heap[b]? = some (.cells #[p, .slice (some ⟨g, 0, none⟩) l.length cap] 109 (0, 0)) := h0
    rw [Lib.cell_of_heap this]; rfl
  have hg' : w.drew.heap[g]? = some (.cells cur 5 fr) := hg
  have hSD : (Builtin.unsafeSliceData_ #[105] 144 #[.slice (some ⟨g, 0, none⟩) l.length cap]).run Tryz.prog w.drew = .ok (.pointer (some ⟨g, 0, none⟩)) w.drew := Lib.run_unsafeSliceData_row _ _ _ _ _ _ (by omega)
  have hUS : (Builtin.unsafeString_ #[144, 3] 9 #[.pointer (some ⟨g, 0, none⟩), .int .i64 l.length]).run Tryz.prog w.drew = .ok (.string ⟨l.toArray⟩) (w.drew.freeze ⟨g, 0, none⟩ l.length) := by
    refine Lib.run_unsafeString_row w.drew 144 3 9 5 (by kernel_rfl) (by kernel_rfl) g cur.size (by simp [World.shape?, hg']) l hn (by omega) (by omega) ?_
    intro j x hx
    have hj : j < l.length := (List.getElem?_eq_some_iff.1 hx).1
    have hcj : cur[j]? = some (.int .u8 x.toNat) := by
      rw [← Array.getElem?_toList]
      have : (cur.toList.take l.length)[j]? = some (.int .u8 x.toNat) := by rw [htake]; exact byteV_get hx
      rwa [List.getElem?_take, if_pos hj] at this
    rw [Addr.add_lit, Lib.cell_of_heap hg', Nat.zero_add]
    exact hcj
  have hfr : (w.drew.freeze ⟨g, 0, none⟩ l.length).heap = (w.freeze ⟨g, 0, none⟩ l.length).heap := by unfold World.freeze; split <;> rfl
  have hft : (w.drew.freeze ⟨g, 0, none⟩ l.length).tape = w.tape ∧ (w.drew.freeze ⟨g, 0, none⟩ l.length).os = w.os ∧ (w.drew.freeze ⟨g, 0, none⟩ l.length).output = w.output := by unfold World.freeze; split <;> exact ⟨rfl, rfl, rfl⟩
  have mixed : Tryz.prog.follows .mixedOrders = true := by kernel_rfl
  go_enter Tryz.func66, Tryz.ntmps66
  go_wp2
  go_region_o
  all_goals (go_wp2; go_ret; exact ⟨rfl, hfr, hft.1, hft.2.1, hft.2.2⟩)
theorem freezeO (w : World) (g n k : Nat) (hk : k ≠ g) : (w.freeze ⟨g, 0, none⟩ n).heap[k]? = w.heap[k]? := by
  unfold World.freeze; split
  · rfl
  · simp only [Array.getElem?_modify]; rw [if_neg (fun e => hk e.symm)]
theorem freeze_same (w : World) (g n : Nat) (cur : Array Value) (e : TypeId) (fr : Nat × Nat) (h : w.heap[g]? = some (.cells cur e fr)) : ∃ fr2, (w.freeze ⟨g, 0, none⟩ n).heap[g]? = some (.cells cur e fr2) := by
  unfold World.freeze; split
  · exact ⟨fr, h⟩
  · simp only [Array.getElem?_modify, if_pos rfl, h, Option.map_some]; exact ⟨_, rfl⟩
theorem freeze_size (w : World) (g n : Nat) : (w.freeze ⟨g, 0, none⟩ n).heap.size = w.heap.size := by
  unfold World.freeze; split
  · rfl
  · simp
theorem string_T {H : Heap} {id : Nat} {fz : Bool} {bs : List UInt8} (ho : H[id]? = some (.bld 109 5 fz bs)) (h63 : bs.length ≤ 140737488355328) : T Tryz.prog 66 [.ptr id 0 0] H (.str bs) (H.set id (.bld 109 5 true bs)) := by
  refine ⟨⟨_, Tryz.func66, by kernel_rfl, by kernel_rfl⟩, fun w G own cs bl hok hr hn ha => ?_⟩
  obtain ⟨b, p, v, cs', hcs, hr2, h1, h2, h3, h4, h5, h6⟩ := bld_ptr hok ho hr
  obtain ⟨rfl, rfl⟩ := hr2.nil_inv
  obtain rfl : cs = #[.pointer (some ⟨b, 0, none⟩)] := by cases cs; simp at hcs; rw [hcs]
  have hrep : ∀ w' : World, RepL w' G [.str bs] [.string ⟨bs.toArray⟩] [] := fun w' => .imm _ _ (RepI.mkStr ⟨bs.toArray⟩ (by simp)) .nil
  have hnone : ∀ k, w.heap.size ≤ k → own k = none := fun k hk => by
    cases hk2 : own k with
    | none => rfl
    | some q => exact absurd (hok.size k q hk2) (by omega)
  rcases h6 with ⟨rfl, rfl⟩ | ⟨g, cap, cur, fr, rfl, q2, q3, q4, q5, q6, q7, q8, q9⟩
  · refine (string_nil b w p h3).mono ?_
    rintro e w' ⟨rfl, j1, j2, j3, j4⟩
    refine ⟨_, rfl, ?_⟩
    refine bld_post hok ho h2 h4 (by rw [j1]; exact Nat.le_refl _) j2 j3 j4 (fun _ => False) (fun _ h => h.elim) (fun k _ _ _ => by rw [j1]) (own' := own) (fun _ _ => rfl) (fun k p hp => by rw [j1]; exact hok.size k p hp) (fun k hk => .inl (hnone k hk)) ?_ (hrep _)
    exact ⟨b, _, _, h1, h2, by rw [j1]; exact h3, h4, h5, .inl ⟨rfl, rfl⟩⟩
  · refine (string_row b g cap w p cur fr bs h3 q3 q9 q6 q7 h63 q8).mono ?_
    rintro e w' ⟨rfl, j1, j2, j3, j4⟩
    refine ⟨_, rfl, ?_⟩
    have hgb : g ≠ b := by rintro rfl; rw [h2] at q2; cases q2
    obtain ⟨fr2, hfr2⟩ := freeze_same w g bs.length cur 5 fr q3
    have hsz : w'.heap.size = w.heap.size := by rw [j1, freeze_size]
    refine bld_post hok ho h2 h4 (by rw [hsz]; exact Nat.le_refl _) j2 j3 j4 (fun k => k = g) (fun k h => by subst h; exact ⟨q2, q5⟩) (fun k hk hkb hkg => by rw [j1]; exact freezeO w g bs.length k hkg) (own' := own) (fun _ _ => rfl) (fun k p hp => by rw [hsz]; exact hok.size k p hp) (fun k hk => .inl (hnone k hk)) ?_ (hrep _)
    exact ⟨b, _, _, h1, h2, by rw [j1, freezeO w g bs.length b hgb.symm]; exact h3, h4, h5, .inr ⟨g, cap, cur, fr2, rfl, q2, by rw [j1]; exact hfr2, (fun h => by cases h), q5, q6, q7, q8, q9⟩⟩
end Go.Proofs.YtoaohapbbnpbeaaGreat.Vm
namespace Go.Proofs.YtoaohapbbnpbeaaGreat.Vm
open Go

def natF : CallF := fun f av H =>
  if f = 143 then (match av with
    | [.ptr id 0 0, .str s] => (match H[id]? with
      | some (.bld t e false bs) => if t = 109 ∧ e = 5 ∧ bs.length + s.length ≤ 140737488355328 then some (.tup [.int .i64 s.length, .u], H.set id (.bld 109 5 false (bs ++ s))) else none
      | _ => none)
    | _ => none)
  else if f = 66 then (match av with
    | [.ptr id 0 0] => (match H[id]? with
      | some (.bld t e _ bs) => if t = 109 ∧ e = 5 ∧ bs.length ≤ 140737488355328 then some (.str bs, H.set id (.bld 109 5 true bs)) else none
      | _ => none)
    | _ => none)
  else none
theorem natF_ok : ∀ f av H r H', natF f av H = some (r, H') → T Tryz.prog f av H r H' := by
  intro f av H r H' h
  unfold natF at h
  split at h
  · rename_i hf
    subst hf
    split at h
    · rename_i id s
      split at h
      · rename_i t e bs ho
        split at h
        · rename_i hc
          obtain ⟨rfl, rfl, hl⟩ := hc
          cases h
          exact writeString_T ho _ hl
        · cases h
      · cases h
    · cases h
  · split at h
    · rename_i hf
      subst hf
      split at h
      · rename_i id
        split at h
        · rename_i t e fz bs ho
          split at h
          · rename_i hc
            obtain ⟨rfl, rfl, hl⟩ := hc
            cases h
            exact string_T ho hl
          · cases h
        · cases h
      · cases h
    · cases h
end Go.Proofs.YtoaohapbbnpbeaaGreat.Vm
namespace Go.Proofs.YtoaohapbbnpbeaaGreat.Vm
open Go
theorem known_run : callM natF tab 100000 11 [] [] = some (.bool true, []) := by kernel_rfl
theorem known_T : T Tryz.prog 11 [] [] (.bool true) [] := callM_sound mix tab_ok natF_ok _ known_run
theorem known_H (H : Heap) : T Tryz.prog 11 [] H (.bool true) H := known_T.frame rfl H
end Go.Proofs.YtoaohapbbnpbeaaGreat.Vm
namespace Go.Proofs.YtoaohapbbnpbeaaGreat.Vm
open Go Lx
set_option linter.unusedSimpArgs false

/-- Terms as they are handed in. -/
inductive TmX : Tm → Prop
  | mk {s n xs} (h : -9223372036854775808 ≤ n ∧ n < 9223372036854775808) (hl : xs.length * 48 ≤ 140737488355328) (hx : ∀ x ∈ xs, TmX x) : TmX (.mk s n xs)
theorem TmX.b : ∀ {t : Tm}, TmX t → TmB t
  | _, .mk _ hl hx => .mk hl fun x hm => (hx x hm).b
theorem TmX.n : ∀ {t : Tm}, TmX t → TmN t
  | _, .mk h _ hx => .mk h fun x hm => (hx x hm).n
theorem exE_B {k : Int} {s : Str} {n : Int} {xs : List Ex} (h : xs.length ≤ 2) (hx : ∀ x ∈ xs, ExB x) : ExB (exE k s n xs) :=
  .mk (by simp) (by omega) (by simp) (by simp) hx (fun _ h => by cases h) (fun _ h => by cases h)
theorem appX_B {f a : XR} (hf : ExB f.ex) (ha : ExB a.ex) : ExB (appX f a).ex :=
  exE_B (by simp [appX]) fun x hx => by
    simp only [appX, List.mem_cons, List.not_mem_nil, or_false] at hx
    rcases hx with rfl | rfl
    · exact hf
    · exact ha
theorem fold_B : ∀ (l : List XR) (r : XR), ExB r.ex → (∀ x ∈ l, ExB x.ex) → ExB (l.foldl appX r).ex
  | [], _, h, _ => h
  | a :: l, r, h, hl => fold_B l (appX r a) (appX_B h (hl a (List.mem_cons_self ..))) fun x hx => hl x (List.mem_cons_of_mem _ hx)
theorem xT_B (n : Nat) : ∀ t : Tm, SizeOf.sizeOf t ≤ n → ExB (xT t).ex := by
  induction n with
  | zero => rintro ⟨⟩ h; simp at h
  | succ n ih =>
    rintro ⟨s, k, xs⟩ hn
    simp only [Tm.mk.sizeOf_spec] at hn
    rw [xT_eq]
    split
    · exact exE_B (by simp) fun _ h => by cases h
    · refine fold_B _ _ (exE_B (by simp) fun _ h => by cases h) fun x hx => ?_
      obtain ⟨y, hy, rfl⟩ := List.mem_map.1 hx
      exact ih y (by have := List.sizeOf_lt_of_mem hy; omega)
theorem xX_B (t : Tm) : ExB (xX t).ex := by
  unfold xX; split
  · exact xT_B _ t (Nat.le_refl _)
  · exact exE_B (by simp) fun _ h => by cases h
theorem smallT_P (t : Tm) (hB : TmB t) : Pu 14 [.agg (tmC t)] (.bool (decide (cntT t ≤ 400))) := by
  have hW := wide_P _ t 400 (Nat.le_refl _) hB (by omega)
  refine ⟨?_, by simp only [idsL, idsV, tmC_ids, Bool.and_self]⟩
  refine T.of0 mix c_l19_small rfl ?_
  unfold v_l19_small
  simp only [go_sem, ↓reduceIte, callG_eq]
  refine hW.call (by simp only [go_sem]; rfl) ?_
  simp only [go_sem, ↓reduceIte, callG_eq]
  congr 1
  rw [decide_eq_decide]
  simp only [Nat.min_def]
  split <;> omega
theorem termTells_T (t u : Tm) (ht : TmX t) (hu : TmX u) : T Tryz.prog 7 [.agg (tmC t), .agg (tmC u)] [] (.bool true) [] := by
  have a1 := smallT_P t ht.b
  have a2 := smallT_P u hu.b
  have a3 := tmRight_P _ t (Nat.le_refl _) ht.b
  have a4 := r19Right_P _ t (Nat.le_refl _) ht.b
  have a5 := tmSizeX_P t ht.b
  have a6 := r19Size_P _ t (Nat.le_refl _) ht.b ht.n
  have a7 := tmExprX_P t ht.b
  have a8 := r19Expr_P _ t (Nat.le_refl _) ht.b
  have a9 := SameExpr_T (xX t).ex (xX t).ex true (xX_B t) (xX_B t)
  have aA := tmSame_P t u ht.b hu.b
  have aB := r14Same_P t u ht.b hu.b
  rw [eqB_true rfl] at a9
  generalize decide (cntT t ≤ 400) = s1 at a1
  generalize decide (cntT u ≤ 400) = s2 at a2
  generalize rTm t = r at a3 a4
  generalize szT t = z at a5 a6
  generalize xX t = x at a7 a8 a9
  generalize eqB t u = q at aA aB
  refine T.of0 mix c_l19_TermTells rfl ?_
  unfold v_l19_TermTells
  simp only [go_sem, ↓reduceIte, callG_eq]
  refine a1.call (by simp only [go_sem]) ?_
  cases s1 with
  | false =>
    simp only [go_sem, ↓reduceIte, callG_eq]
    refine (known_H _).call ?_
    simp only [go_sem]
  | true =>
    simp only [go_sem, ↓reduceIte, callG_eq]
    refine a2.call (by simp only [go_sem]) ?_
    cases s2 with
    | false =>
      simp only [go_sem, ↓reduceIte, callG_eq]
      refine (known_H _).call ?_
      simp only [go_sem]
    | true =>
      simp only [go_sem, ↓reduceIte, callG_eq]
      refine ⟨_, a3.al (by simp only [go_sem]), by simp only [idsL, idsV, tmC_ids, Bool.and_self], ?_⟩
      simp only [go_sem, ↓reduceIte, callG_eq]
      refine ⟨_, a4.al (by simp only [go_sem]), by simp only [idsL, idsV, tmC_ids, Bool.and_self], ?_⟩
      simp only [go_sem, ↓reduceIte, callG_eq]
      refine ⟨fun _ => ⟨_, a5.al (by simp only [go_sem]), by simp only [idsL, idsV, tmC_ids, Bool.and_self], _, a6.al (by simp only [go_sem]), by simp only [idsL, idsV, tmC_ids, Bool.and_self], ?_⟩, fun h => by simp at h⟩
      simp only [go_sem, ↓reduceIte, callG_eq, XR.v_eq]
      refine ⟨fun _ => ⟨_, a7.al (by simp only [go_sem]), by simp only [idsL, idsV, tmC_ids, Bool.and_self], _, a8.al (by simp only [go_sem]), by simp only [idsL, idsV, tmC_ids, Bool.and_self], ?_⟩, fun h => by simp at h⟩
      simp only [go_sem, ↓reduceIte, callG_eq, XR.v_eq]
      refine ⟨_, a9.al (by simp only [go_sem]), rfl, ?_⟩
      simp only [go_sem, ↓reduceIte, callG_eq, XR.v_eq]
      refine ⟨_, aA.al (by simp only [go_sem]), by simp only [idsL, idsV, tmC_ids, Bool.and_self], _, aB.al (by simp only [go_sem]), by simp only [idsL, idsV, tmC_ids, Bool.and_self], ?_⟩
      simp only [go_sem, ↓reduceIte, callG_eq, XR.v_eq]
      refine ⟨fun _ => ⟨_, known_T, rfl, ?_⟩, fun h => by simp at h⟩
      simp only [go_sem, ↓reduceIte, callG_eq, XR.v_eq]
end Go.Proofs.YtoaohapbbnpbeaaGreat.Vm
namespace Go.Proofs.YtoaohapbbnpbeaaGreat.Vm
open Go
set_option linter.unusedSimpArgs false

structure Co where
  s : Str
  fs : List Ty
  l : Int
  c : Int
structure Da where
  s : Str
  ps : List Str
  cs : List Co
  l : Int
  c : Int
structure Fx where
  s : Str
  a : Int
  v : Int
  l : Int
  c : Int
structure Pr where
  ds : List Da
  fs : List Fx
  bs : List Bi
def coC (x : Co) : List V := [.str x.s, .sl false 4 (x.fs.map tyC), .int .i64 x.l, .int .i64 x.c]
def daC (x : Da) : List V := [.str x.s, .sl false 1 (x.ps.map stC), .sl false 4 (x.cs.map coC), .int .i64 x.l, .int .i64 x.c]
def fxC (x : Fx) : List V := [.str x.s, .int .i64 x.a, .int .i64 x.v, .int .i64 x.l, .int .i64 x.c]
def prC (x : Pr) : List V := [.sl false 5 (x.ds.map daC), .sl false 5 (x.fs.map fxC), .sl false 4 (x.bs.map biC)]
structure CoB (x : Co) : Prop where
  h : LB 56 TyB x.fs
structure DaB (x : Da) : Prop where
  h1 : x.ps.length * 16 ≤ 140737488355328
  h2 : LB 56 CoB x.cs
structure PrB (x : Pr) : Prop where
  h1 : LB 80 DaB x.ds
  h2 : LB 48 (fun _ => True) x.fs
  h3 : LB 56 BiB x.bs
theorem prC_ok (x : Pr) : Cells 3 (prC x) := cells_of rfl rfl rfl (fun _ => rfl) rfl rfl
theorem coC_ok (x : Co) : Cells 4 (coC x) := cells_of rfl rfl rfl (fun _ => rfl) rfl rfl
theorem daC_ok (x : Da) : Cells 5 (daC x) := cells_of rfl rfl rfl (fun _ => rfl) rfl rfl
theorem fxC_ok (x : Fx) : Cells 5 (fxC x) := cells_of rfl rfl rfl (fun _ => rfl) rfl rfl

@[go_sem] theorem prC_len {x : Pr} : (prC x).length = 3 := (prC_ok x).len
@[go_sem] theorem prC_take {x : Pr} : List.take 3 (prC x) = prC x := List.take_of_length_le (by rw [prC_len]; exact Nat.le_refl _)
@[go_sem] theorem prC_strip {x : Pr} : (prC x).map strip0 = prC x := (prC_ok x).strip
@[go_sem] theorem prC_inl {x : Pr} : (prC x).map inl0 = prC x := (prC_ok x).inl
@[go_sem] theorem prC_ids {x : Pr} {m : Nat} : idsL m (prC x) = true := (prC_ok x).ids m
@[go_sem] theorem prC_p1 {x : Pr} : (prC x).all plain1 = true := (prC_ok x).p1
@[go_sem] theorem prC_pc {x : Pr} : (prC x).all plainC = true := (prC_ok x).pc
@[go_sem] theorem prC_thaw {x : Pr} {H : Heap} : thawL (prC x) H = (prC x, H) := thawL_all prC_pc
@[go_sem] theorem coC_len {x : Co} : (coC x).length = 4 := (coC_ok x).len
@[go_sem] theorem coC_take {x : Co} : List.take 4 (coC x) = coC x := List.take_of_length_le (by rw [coC_len]; exact Nat.le_refl _)
@[go_sem] theorem coC_strip {x : Co} : (coC x).map strip0 = coC x := (coC_ok x).strip
@[go_sem] theorem coC_inl {x : Co} : (coC x).map inl0 = coC x := (coC_ok x).inl
@[go_sem] theorem coC_ids {x : Co} {m : Nat} : idsL m (coC x) = true := (coC_ok x).ids m
@[go_sem] theorem coC_p1 {x : Co} : (coC x).all plain1 = true := (coC_ok x).p1
@[go_sem] theorem coC_pc {x : Co} : (coC x).all plainC = true := (coC_ok x).pc
@[go_sem] theorem coC_thaw {x : Co} {H : Heap} : thawL (coC x) H = (coC x, H) := thawL_all coC_pc
@[go_sem] theorem daC_len {x : Da} : (daC x).length = 5 := (daC_ok x).len
@[go_sem] theorem daC_take {x : Da} : List.take 5 (daC x) = daC x := List.take_of_length_le (by rw [daC_len]; exact Nat.le_refl _)
@[go_sem] theorem daC_strip {x : Da} : (daC x).map strip0 = daC x := (daC_ok x).strip
@[go_sem] theorem daC_inl {x : Da} : (daC x).map inl0 = daC x := (daC_ok x).inl
@[go_sem] theorem daC_ids {x : Da} {m : Nat} : idsL m (daC x) = true := (daC_ok x).ids m
@[go_sem] theorem daC_p1 {x : Da} : (daC x).all plain1 = true := (daC_ok x).p1
@[go_sem] theorem daC_pc {x : Da} : (daC x).all plainC = true := (daC_ok x).pc
@[go_sem] theorem daC_thaw {x : Da} {H : Heap} : thawL (daC x) H = (daC x, H) := thawL_all daC_pc
@[go_sem] theorem fxC_len {x : Fx} : (fxC x).length = 5 := (fxC_ok x).len
@[go_sem] theorem fxC_take {x : Fx} : List.take 5 (fxC x) = fxC x := List.take_of_length_le (by rw [fxC_len]; exact Nat.le_refl _)
@[go_sem] theorem fxC_strip {x : Fx} : (fxC x).map strip0 = fxC x := (fxC_ok x).strip
@[go_sem] theorem fxC_inl {x : Fx} : (fxC x).map inl0 = fxC x := (fxC_ok x).inl
@[go_sem] theorem fxC_ids {x : Fx} {m : Nat} : idsL m (fxC x) = true := (fxC_ok x).ids m
@[go_sem] theorem fxC_p1 {x : Fx} : (fxC x).all plain1 = true := (fxC_ok x).p1
@[go_sem] theorem fxC_pc {x : Fx} : (fxC x).all plainC = true := (fxC_ok x).pc
@[go_sem] theorem fxC_thaw {x : Fx} {H : Heap} : thawL (fxC x) H = (fxC x, H) := thawL_all fxC_pc
/-- An object that stands. -/
structure Has (G : Heap) (a v : Nat) (cs : List V) : Prop where
  lt : a < G.length
  get : getCells G a v = some cs
theorem Has.app {G : Heap} {a v : Nat} {cs : List V} (h : Has G a v cs) (l : Heap) : getCells (G ++ l) a v = some cs := by rw [gc_app h.lt, h.get]
theorem Has.more {G : Heap} {a v : Nat} {cs : List V} (h : Has G a v cs) (l : Heap) : Has (G ++ l) a v cs := ⟨by have := h.lt; simp; omega, h.app l⟩
theorem has_app0 {F l : Heap} {v : Nat} {cs : List V} : Has (F ++ .cells v cs :: l) F.length v cs := ⟨by simp, by rw [gc_app0]; exact gc_hit⟩
theorem has_app1 {F l : Heap} {o : Obj} {v : Nat} {cs : List V} : Has (F ++ o :: .cells v cs :: l) (F.length + 1) v cs := ⟨by simp, by rw [gc_appN, gc_next]; exact gc_hit⟩
theorem w_eq {α : Type} [BEq α] [LawfulBEq α] {a b : α} (h : (a != b) = false) : a = b := by simpa using h
theorem w_ne {α : Type} [BEq α] [LawfulBEq α] {a b : α} (h : ¬ (a != b) = false) : ¬ a = b := by simpa using h
theorem w_pl {l l' c c' : Int} (h : ¬ (((l == l' && (c == c' && true)) != true) = false)) : ¬ (l = l' ∧ c = c') := by simpa using h
theorem w_pl' {l l' c c' : Int} (h : ((l == l' && (c == c' && true)) != true) = false) : l = l' ∧ c = c' := by simpa using h
theorem w_len {a b : Nat} (h : ((a : Int) != (b : Int)) = false) : a = b := by have := w_eq h; omega
theorem w_lenN {α β : Type} {f : α → β} {a b : List α} (h : (((a.length : Int) != (b.length : Int)) = true)) : ¬ a.map f = b.map f := by
  intro e; have := congrArg List.length e; simp only [List.length_map] at this; rw [this] at h; simp at h
theorem w_lenN' {α β : Type} {f : α → β} {a b : List α} (h : ¬ (((a.length : Int) != (b.length : Int)) = false)) : ¬ a.map f = b.map f := w_lenN (by simpa using h)

end Go.Proofs.YtoaohapbbnpbeaaGreat.Vm
namespace Go.Proofs.YtoaohapbbnpbeaaGreat.Vm
open Go Lx
set_option linter.unusedSimpArgs false

mutual
def vsz : V → Nat
  | .str s => s.length + 1
  | .sl _ _ xs => vszX xs + 1
  | .cptr ws => vszL ws + 1
  | .agg ws => vszL ws + 1
  | _ => 1
def vszL : List V → Nat
  | [] => 0
  | v :: l => vsz v + vszL l
def vszX : List (List V) → Nat
  | [] => 0
  | l :: r => vszL l + vszX r
end
theorem vsz_one (v : V) : 1 ≤ vsz v := by cases v <;> simp [vsz]
theorem vszX_mem {l : List V} : ∀ {xs : List (List V)}, l ∈ xs → vszL l ≤ vszX xs
  | x :: xs, h => by
    rw [vszX]
    cases h with
    | head => omega
    | tail _ h => have := vszX_mem h; omega
def exW (e : Ex) : Nat := vszL (exC e)
theorem exW_app {k : Int} {s : Str} {n : Int} {ps : List Str} {f x : Ex} {al : List Al} {bs : List Bi} {l c : Int} : exW f + exW x + 1 ≤ exW (.mk k s n ps [f, x] al bs l c) := by
  unfold exW
  rw [exC_eq]
  simp only [vszL, vsz, vszX, List.map_cons, List.map_nil]
  omega
theorem exW_one (e : Ex) : 1 ≤ exW e := by
  obtain ⟨k, s, n, ps, xs, al, bs, l, c⟩ := e
  unfold exW; rw [exC_eq]; simp only [vszL, vsz]; omega
theorem ofT_len (n : Nat) : ∀ {e : Ex} {c : Str} {m : Int} {l : List Tm}, SizeOf.sizeOf e ≤ n → ofT e = some (.mk c m l) → l.length ≤ exW e := by
  induction n with
  | zero => rintro ⟨⟩ c m l h; simp at h
  | succ n ih =>
    rintro ⟨k, s, m, ps, xs, al, bs, l, c⟩ c' m' l' hn h
    simp only [Ex.mk.sizeOf_spec] at hn
    rw [ofT_eq] at h
    split at h
    · cases h; simp
    · split at h
      · cases h; simp
      · split at h
        · cases h
        · split at h
          · rename_i f x
            simp only [List.cons.sizeOf_spec] at hn
            have hw := exW_app (k := k) (s := s) (n := m) (ps := ps) (f := f) (x := x) (al := al) (bs := bs) (l := l) (c := c)
            have h1 := exW_one x
            cases hf : ofT f with
            | none => rw [hf] at h; cases hx : ofT x <;> rw [hx] at h <;> cases h
            | some a =>
              obtain ⟨s1, m1, l1⟩ := a
              rw [hf] at h
              cases s1 with
              | nil => cases hx : ofT x <;> rw [hx] at h <;> cases h
              | cons a r =>
                cases hx : ofT x with
                | none => rw [hx] at h; cases h
                | some b =>
                  rw [hx] at h
                  cases h
                  have := ih (by omega) hf
                  simp; omega
          · cases h
end Go.Proofs.YtoaohapbbnpbeaaGreat.Vm
namespace Go.Proofs.YtoaohapbbnpbeaaGreat.Vm
open Go Go.RowKit Go.WideShapes
set_option maxRecDepth 4000

theorem T.belowL {P : Program} {w : World} {f : Nat} {vs : List V} (h : T P f vs [] (.bool true) []) {cs : Array Value} (hr : RepL w (gh0 w) vs cs.toList []) : Calls P f cs w fun e w' => e = .returned (.bool true) ∧ Below w.heap.size w w' := by
  refine (h.2 w (gh0 w) (own0 w) cs [] (ok0 w) hr List.nodup_nil (fun _ h => by cases h)).mono ?_
  rintro e w' ⟨c, rfl, G', own', bl, _, h2, _, _, h5⟩
  obtain ⟨cs', hcs, _⟩ := h2.bool_inv
  obtain ⟨rfl, _⟩ := List.cons.inj hcs
  refine ⟨rfl, h5.os, h5.tape, h5.out, h5.size, fun k hk => ?_⟩
  exact (h5.fixed k (by simp only [own0, if_pos hk])).1
theorem RepL.cons0 {w : World} {G : Gh} {v : V} {c : Value} {vs : List V} {cs : List Value} (h : RepL w G [v] [c] []) (k : RepL w G vs cs []) : RepL w G (v :: vs) (c :: cs) [] := RepL.cons h k
theorem RepI.toL0 {w : World} {vs : List V} {cs : List Value} (h : RepI (immW w) vs cs) : RepL w (gh0 w) vs cs [] := RepI.toL h

/-- What is read of a value that is not too heavy. -/
abbrev Qo {H : Type} (t : TypeId) (P : List V → Prop) : DataW H → List V → Prop := fun d vs => vszL vs ≤ Rows.uptoBulk d ∧ (Light Tryz.prog t d → P vs)
theorem bulk_one {H : Type} (d : DataW H) : 1 ≤ Rows.uptoBulk d := by
  cases d with
  | lit l => cases l <;> simp [Rows.uptoBulk]
  | _ => simp [Rows.uptoBulk]
theorem vszL_app (a b : List V) : vszL (a ++ b) = vszL a + vszL b := by
  induction a with
  | nil => simp [vszL]
  | cons x a ih => simp only [List.cons_append, vszL, ih]; omega
theorem bulk_parts {H : Type} : ∀ {ds : List (DataW H)} {vss : List (List V)}, vss.length = ds.length → (∀ (i : Nat) (d : DataW H) (vs : List V), ds[i]? = some d → vss[i]? = some vs → vszL vs ≤ Rows.uptoBulk d) → vszX vss ≤ Rows.uptoBulkAll ds ∧ vszL vss.flatten ≤ Rows.uptoBulkAll ds
  | [], [], _, _ => by simp [vszX, vszL]
  | [], _ :: _, h, _ => by cases h
  | _ :: _, [], h, _ => by cases h
  | d :: ds, v :: vss, h, hq => by
    obtain ⟨h1, h2⟩ := bulk_parts (ds := ds) (vss := vss) (by simpa using h) fun i d vs a b => hq (i + 1) d vs (by simpa using a) (by simpa using b)
    have h0 := hq 0 d v rfl rfl
    rw [List.flatten_cons, vszL_app]
    simp only [vszX, Rows.uptoBulkAll]
    omega
def AllF : List (List V → Prop) → List V → Prop
  | [], vs => vs = []
  | P :: Ps, vs => ∃ a b, vs = a ++ b ∧ P a ∧ AllF Ps b
def PI : List V → Prop := fun vs => ∃ n : Int, vs = [.int .i64 n]
def PI64 : List V → Prop := fun vs => ∃ n : Int, vs = [.int .i64 n] ∧ -9223372036854775808 ≤ n ∧ n < 9223372036854775808
def PS : List V → Prop := fun vs => ∃ s : Str, vs = [.str s]
def PBo : List V → Prop := fun vs => ∃ b : Bool, vs = [.bool b]
def PPos : List V → Prop := fun vs => ∃ l c : Int, vs = [.int .i64 l, .int .i64 c]
def PX {α : Type} (C : α → List V) (B : α → Prop) : List V → Prop := fun vs => ∃ x, vs = C x ∧ B x
def PL {α : Type} (n b : Nat) (C : α → List V) (B : α → Prop) : List V → Prop := fun vs => ∃ l : List α, vs = [.sl false n (l.map C)] ∧ LB b B l

section
variable {w : World} {H : Type} {enc : TypeId × Value → H} {sp : Nat → Bool} {held : Bool}
def RdAll (enc : TypeId × Value → H) (sp : Nat → Bool) (held : Bool) (w : World) (fuel : Nat) : List TypeId → List (List V → Prop) → Prop
  | [], [] => True
  | t :: ts, P :: Ps => ReadsF Tryz.prog enc sp held w fuel t (Qo t P) ∧ RdAll enc sp held w fuel ts Ps
  | _, _ => False
theorem rdAll_get {fuel : Nat} : ∀ {ts : List TypeId} {Ps : List (List V → Prop)}, RdAll enc sp held w fuel ts Ps → ts.length = Ps.length ∧ ∀ (i : Nat) t P, ts[i]? = some t → Ps[i]? = some P → ReadsF Tryz.prog enc sp held w fuel t (Qo t P)
  | [], [], _ => ⟨rfl, fun i t P h => by cases h⟩
  | t :: ts, P :: Ps, h => by
    obtain ⟨h1, h2⟩ := rdAll_get h.2
    refine ⟨congrArg (· + 1) h1, fun i t' P' hi hp => ?_⟩
    cases i with
    | zero => obtain rfl := Option.some.inj hi; obtain rfl := Option.some.inj hp; exact h.1
    | succ i => exact h2 i _ _ hi hp
  | [], _ :: _, h => h.elim
  | _ :: _, [], h => h.elim
theorem allF_of {fs : List Field} {t : TypeId} {ds : List (DataW H)} (hl : ∀ (j : Nat) (f : Field) (d : DataW H), fs[j]? = some f → ds[j]? = some d → Light Tryz.prog f.type d) : ∀ {ts : List TypeId} {Ps : List (List V → Prop)} {ds' : List (DataW H)} {vss : List (List V)} {k : Nat},
    ts = (fs.map (·.type)).drop k → ds' = ds.drop k → ds'.length = Ps.length → vss.length = Ps.length → ts.length = Ps.length →
    (∀ (i : Nat) (t : TypeId) (P : List V → Prop) (d : DataW H) (vs : List V), ts[i]? = some t → Ps[i]? = some P → ds'[i]? = some d → vss[i]? = some vs → Qo t P d vs) → AllF Ps vss.flatten
  | _, [], _, vss, _, _, _, _, hv, _, _ => by obtain rfl := List.length_eq_zero_iff.1 hv; exact rfl
  | [], _ :: _, _, _, _, _, _, _, _, ht, _ => by cases ht
  | t :: ts, P :: Ps, [], _, _, _, _, hd, _, _, _ => by cases hd
  | t :: ts, P :: Ps, d :: ds', [], _, _, _, _, hv, _, _ => by cases hv
  | t :: ts, P :: Ps, d :: ds', v :: vss, k, e1, e2, h1, h2, h3, h => by
    have g1 : (fs.map (·.type))[k]? = some t := by
      have := congrArg (·[0]?) e1
      rw [List.getElem?_drop] at this; exact this.symm
    have g2 : ds[k]? = some d := by
      have := congrArg (·[0]?) e2
      rw [List.getElem?_drop] at this; exact this.symm
    rw [List.getElem?_map] at g1
    obtain ⟨f, g3, rfl⟩ := Option.map_eq_some_iff.1 g1
    refine ⟨v, vss.flatten, by simp, (h 0 _ P d v rfl rfl rfl rfl).2 (hl k f d g3 g2), allF_of (t := f.type) hl (k := k + 1) ?_ ?_ ?_ ?_ ?_ fun i t P d vs a b c e => h (i + 1) t P d vs a b c e⟩
    · have := congrArg List.tail e1; rwa [List.tail_drop] at this
    · have := congrArg List.tail e2; rwa [List.tail_drop] at this
    · exact Nat.succ.inj h1
    · exact Nat.succ.inj h2
    · exact Nat.succ.inj h3
theorem rdStruct {t : TypeId} {fs : Array Field} {fuel : Nat} {ts : List TypeId} {Ps : List (List V → Prop)} (hu : Tryz.prog.underlying t = some (.struct fs)) (hc : contig Tryz.prog 0 fs.toList = some (Tryz.prog.cellsOf t)) (ht : fs.toList.map (·.type) = ts)
    (h : RdAll enc sp held w fuel ts Ps) : ReadsF Tryz.prog enc sp held w (fuel + 1) t (Qo t (AllF Ps)) := by
  obtain ⟨hlen, hg⟩ := rdAll_get h
  have hl1 : fs.toList.length = ts.length := by rw [← ht, List.length_map]
  refine readsF_mono (readsF_struct hu hc (Qs := (ts.zip Ps).map fun p => Qo p.1 p.2) (by rw [List.length_map, List.length_zip, hl1]; omega) ?_) ?_
  · intro i f Q hf hQ
    rw [List.getElem?_map] at hQ
    obtain ⟨⟨t', P⟩, hz, rfl⟩ := Option.map_eq_some_iff.1 hQ
    obtain ⟨h1, h2⟩ := List.getElem?_zip_eq_some.1 hz
    have : ts[i]? = some f.type := by rw [← ht, List.getElem?_map, hf]; rfl
    rw [this] at h1
    obtain rfl := Option.some.inj h1
    exact hg i _ P this h2
  · rintro d vs ⟨ds, vss, rfl, rfl, h1, h2, h3⟩
    rw [List.length_map, List.length_zip] at h1 h2
    have hpart : ∀ (i : Nat) (t' : TypeId) (P : List V → Prop) (d : DataW H) (vs : List V), ts[i]? = some t' → Ps[i]? = some P → ds[i]? = some d → vss[i]? = some vs → Qo t' P d vs := fun i t' P d vs a b c e => by
      refine h3 i _ d vs ?_ c e
      rw [List.getElem?_map, (List.getElem?_zip_eq_some (z := (t', P))).2 ⟨a, b⟩]; rfl
    refine ⟨?_, fun hl => ?_⟩
    · have := (bulk_parts (ds := ds) (vss := vss) (by omega) fun i d vs a b => by
        have hi : i < ds.length := (List.getElem?_eq_some_iff.1 a).1
        exact (hpart i _ _ d vs (List.getElem?_eq_getElem (by omega)) (List.getElem?_eq_getElem (by omega)) a b).1).2
      simp only [Rows.uptoBulk]; omega
    · exact allF_of (t := t) (fs := fs.toList) (ds := ds) (fun j f d hf hd => light_part hu hl hf hd) (ts := ts) (ds' := ds) (k := 0) ht.symm rfl (by omega) (by omega) hlen hpart
theorem rdSlice {t e : TypeId} {fuel n b : Nat} {α : Type} {C : α → List V} {B : α → Prop} (hu : Tryz.prog.underlying t = some (.slice e)) (hn : Tryz.prog.cellsOf e = n) (hb : Tryz.prog.bytesOf e = b) (h : ReadsF Tryz.prog enc sp held w fuel e (Qo e (PX C B))) :
    ReadsF Tryz.prog enc sp held w (fuel + 1) t (Qo t (PL n b C B)) := by
  refine readsF_mono (readsF_slice hu h) ?_
  rintro d vs ⟨xs, rfl, h2⟩
  rw [hn]
  rcases h2 with ⟨rfl, rfl⟩ | ⟨elems, spare, rfl, h3, h4⟩
  · exact ⟨by simp [vszL, vsz, vszX, Rows.uptoBulk], fun _ => ⟨[], rfl, by simp [LB], fun _ h => by cases h⟩⟩
  · refine ⟨?_, fun hl => ?_⟩
    · have := (bulk_parts (ds := elems) (vss := xs) h3 fun i d vs a b => (h4 i d vs a b).1).1
      simp only [vszL, vsz, Rows.uptoBulk]; omega
    · obtain ⟨k1, k2⟩ := light_slice hu hl
      obtain ⟨l, rfl, hp⟩ := ex_list (f := C) (p := B) (xs := xs) fun x hx => by
        obtain ⟨i, hi⟩ := List.mem_iff_getElem?.1 hx
        have hil : i < elems.length := by rw [← h3]; exact (List.getElem?_eq_some_iff.1 hi).1
        have hd := List.getElem?_eq_getElem hil
        exact (h4 i _ x hd hi).2 (k2 _ (List.getElem_mem hil))
      refine ⟨l, rfl, ?_, hp⟩
      rw [List.length_map] at h3
      rw [h3]
      rw [hb] at k1
      unfold reachBytes at k1
      omega
theorem rdI {t : TypeId} (hu : Tryz.prog.underlying t = some (.int .i64)) (fuel : Nat) : ReadsF Tryz.prog enc sp held w fuel t (Qo t PI) :=
  readsF_mono (reads_int hu fuel) fun d _ ⟨n, _, _, h⟩ => ⟨by rw [h]; exact bulk_one d, fun _ => ⟨n, h⟩⟩
theorem rdI64 {t : TypeId} (hu : Tryz.prog.underlying t = some (.int .i64)) (fuel : Nat) : ReadsF Tryz.prog enc sp held w fuel t (Qo t PI64) :=
  readsF_mono (reads_int hu fuel) fun d _ ⟨n, _, hwf, h⟩ => ⟨by rw [h]; exact bulk_one d, fun _ => ⟨n, h, by simp [Lit.wf, IntKind.min, IntKind.max, IntKind.signed, IntKind.bits] at hwf; omega⟩⟩
theorem rdS {t : TypeId} (hu : Tryz.prog.underlying t = some .string) (fuel : Nat) : ReadsF Tryz.prog enc sp held w fuel t (Qo t PS) :=
  readsF_mono (reads_str hu fuel) fun d _ ⟨n, e, h⟩ => ⟨by rw [h, e]; simp [vszL, vsz, Rows.uptoBulk], fun _ => ⟨n, h⟩⟩
theorem rdS1 {t : TypeId} (hu : Tryz.prog.underlying t = some .string) (fuel : Nat) : ReadsF Tryz.prog enc sp held w fuel t (Qo t (PX stC fun _ => True)) :=
  readsF_mono (reads_str hu fuel) fun d _ ⟨n, e, h⟩ => ⟨by rw [h, e]; simp [vszL, vsz, Rows.uptoBulk], fun _ => ⟨n, h, trivial⟩⟩
theorem rdMono {t : TypeId} {P Q : List V → Prop} {fuel : Nat} (h : ReadsF Tryz.prog enc sp held w fuel t (Qo t P)) (hpq : ∀ vs, P vs → Q vs) : ReadsF Tryz.prog enc sp held w fuel t (Qo t Q) :=
  readsF_mono h fun _ vs h => ⟨h.1, fun hl => hpq vs (h.2 hl)⟩
theorem rd0 {t : TypeId} {Q : DataW H → List V → Prop} : ReadsF Tryz.prog enc sp held w 0 t Q := by intro cs d ps h; cases h

/-- A struct that is handed in. -/
theorem open_structP {t : TypeId} {fs : Array Field} {r : Reach} {b0 : Nat} {v : Value} {d : DataW H} {ps : List MemPlace} (hu : Tryz.prog.underlying t = some (.struct fs)) (hval : Value.okWide Tryz.prog w r b0 t v) {P : List V → Prop} (hr : ∀ fuel, ReadsF Tryz.prog enc sp held w fuel t (Qo t P))
    (hd : DataW.Trod enc Tryz.prog w 0 sp held t v d ps) : ∃ vs, RepL w (gh0 w) [.agg vs] [v] [] ∧ vszL vs ≤ Rows.uptoBulk d ∧ (Light Tryz.prog t d → P vs) := by
  unfold Value.okWide at hval
  rw [hu] at hval
  obtain ⟨cs, rfl, _, _⟩ := hval
  obtain ⟨fuel, h⟩ := hd
  obtain ⟨vs, h1, h2⟩ := hr fuel _ d ps h
  exact ⟨vs, .agg (acs := cs.toList) (b1 := []) (bl := []) (RepI.toL h1) .nil, h2⟩
end
end Go.Proofs.YtoaohapbbnpbeaaGreat.Vm
namespace Go.Proofs.YtoaohapbbnpbeaaGreat.Vm
open Go Go.RowKit Go.WideShapes
set_option maxRecDepth 4000
theorem under4 : Tryz.prog.underlying 4 = some (.bool) := by kernel_rfl
theorem under2 : Tryz.prog.underlying 2 = some (.int .i64) := by kernel_rfl
theorem under9 : Tryz.prog.underlying 9 = some (.string) := by kernel_rfl
theorem under30 : Tryz.prog.underlying 30 = some (.slice 32) := by kernel_rfl
noncomputable def fsTm : Array Field := match Tryz.prog.underlying 32 with | some (.struct fs) => fs | _ => #[]
theorem under32 : Tryz.prog.underlying 32 = some (.struct fsTm) := by kernel_rfl
theorem contigTm : contig Tryz.prog 0 fsTm.toList = some (Tryz.prog.cellsOf 32) := by kernel_rfl
theorem typesTm : fsTm.toList.map (·.type) = [9, 2, 30] := by kernel_rfl
theorem cellsTm : Tryz.prog.cellsOf 32 = 3 := by kernel_rfl
theorem bytesTm : Tryz.prog.bytesOf 32 = 48 := by kernel_rfl
section
variable {w : World} {H : Type} {enc : TypeId × Value → H} {sp : Nat → Bool} {held : Bool}
structure RdTm (enc : TypeId × Value → H) (sp : Nat → Bool) (held : Bool) (w : World) (fuel : Nat) : Prop where
  xTm : ReadsF Tryz.prog enc sp held w fuel 32 (Qo 32 (PX tmC TmX))
  lTm : ReadsF Tryz.prog enc sp held w fuel 30 (Qo 30 (PL 3 48 tmC TmX))
theorem allTm : ∀ fuel, RdTm enc sp held w fuel
  | 0 => ⟨rd0, rd0⟩
  | fuel + 1 => by
    have ih : RdTm enc sp held w fuel := allTm fuel
    refine ⟨?_, ?_⟩
    · exact rdMono (rdStruct (Ps := [PS, PI64, PL 3 48 tmC TmX]) under32 contigTm typesTm ⟨rdS under9 fuel, rdI64 under2 fuel, ih.lTm, trivial⟩) fun vs h => by
        obtain ⟨_, _, rfl, ⟨s, rfl⟩, _, _, rfl, ⟨n, rfl, nR⟩, _, _, rfl, ⟨xs, rfl, xs1, xs2⟩, rfl⟩ := h
        exact ⟨.mk s n xs, by rw [tmC_eq]; simp, .mk nR xs1 xs2⟩
    · exact rdSlice (by kernel_rfl) cellsTm bytesTm ih.xTm
theorem rdTm (fuel : Nat) : ReadsF Tryz.prog enc sp held w fuel 32 (Qo 32 (PX tmC TmX)) := (allTm fuel).xTm
theorem rdTms (fuel : Nat) : ReadsF Tryz.prog enc sp held w fuel 30 (Qo 30 (PL 3 48 tmC TmX)) := (allTm fuel).lTm
end
end Go.Proofs.YtoaohapbbnpbeaaGreat.Vm
