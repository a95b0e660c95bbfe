/-
The value machine, part 27: equations for what is done in the heap.
-/
import Derived.Test.YtglemgdlkddjhaaVm26
namespace Go.Proofs.Ytglemgdlkddjhaa.Vm
open Go

section
variable {P : Program} {K : KK} {s : List Fr} {E : En} {H : Heap} {tk : List Nat} {dst : Option Nat} {os : List VOp} {keep : List Nat}

/-- Goes on with an answer. -/
def nextV (P : Program) (v : V) (tk : List Nat) (dst : Option Nat) (os : List VOp) (keep : List Nat) (s : List Fr) (E : En) (H : Heap) (K : KK) : Prop := runOps P os keep s ((stripEn tk E).setO dst v) H K
@[go_sem] theorem nextV_eq {v : V} : nextV P v tk dst os keep s E H K = runOps P os keep s ((stripEn tk E).setO dst v) H K := (rfl)

def loadO (P : Program) (x : Option V) (tk : List Nat) (dst : Option Nat) (os : List VOp) (keep : List Nat) (s : List Fr) (E : En) (H : Heap) (K : KK) : Prop := ∃ v, x = some v ∧ nextV P (strip0 v) tk dst os keep s E H K
@[go_sem] theorem loadO_some {v : V} : loadO P (some v) tk dst os keep s E H K = nextV P (strip0 v) tk dst os keep s E H K := by
  apply propext
  constructor
  · rintro ⟨v, h, k⟩; cases h; exact k
  · intro k; exact ⟨v, rfl, k⟩
@[go_sem] theorem loadO_map {α : Type} {l : List α} {f : α → V} {i : Nat} : loadO P (l.map f)[i]? tk dst os keep s E H K = ∃ a, l[i]? = some a ∧ nextV P (strip0 (f a)) tk dst os keep s E H K := ex_map
def loadG (P : Program) (x : Option (List V)) (off : Nat) (tk : List Nat) (dst : Option Nat) (os : List VOp) (keep : List Nat) (s : List Fr) (E : En) (H : Heap) (K : KK) : Prop :=
  ∃ cs, x = some cs ∧ loadO P cs[off]? tk dst os keep s E H K
@[go_sem] theorem loadG_some {cs : List V} {off : Nat} : loadG P (some cs) off tk dst os keep s E H K = loadO P cs[off]? tk dst os keep s E H K := by
  apply propext
  constructor
  · rintro ⟨v, h, k⟩; cases h; exact k
  · intro k; exact ⟨cs, rfl, k⟩
theorem cut_one {cs : List V} {off : Nat} {v : V} (h : cs[off]? = some v) : cut cs off 1 = some [v] := by
  have hl := (List.getElem?_eq_some_iff.1 h).1
  unfold cut
  rw [if_pos (by omega)]
  congr 1
  apply List.ext_getElem?
  intro i
  rw [List.getElem?_take]
  match i with
  | 0 => rw [if_pos (by omega), List.getElem?_drop, Nat.add_zero, h]; rfl
  | i + 1 => rw [if_neg (by omega)]; simp
theorem one_cut {cs : List V} {off : Nat} {l : List V} (h : cut cs off 1 = some l) : ∃ v, cs[off]? = some v ∧ l = [v] := by
  have hl : off + 1 ≤ cs.length := by
    unfold cut at h; split at h
    · assumption
    · cases h
  have h1 : cs[off]? = some cs[off] := List.getElem?_eq_getElem (by omega)
  rw [cut_one h1] at h
  cases h
  exact ⟨_, h1, rfl⟩
@[go_sem] theorem run_load1 {id ver off : Nat} : runAct P (.load 1 false) [.ptr id ver off] tk dst os keep s E H K = loadG P (getCells H id ver) off tk dst os keep s E H K := by
  apply propext
  constructor
  · rintro ⟨cs, h1, h2, v, h3, h4⟩
    have hc : cut cs off 1 = some ((cs.drop off).take 1) := by simp [cut, h2]
    obtain ⟨y, hu, he⟩ := one_cut hc
    rw [he] at h3
    cases h3
    exact ⟨cs, h1, y, hu, h4⟩
  · rintro ⟨cs, h1, y, hu, h4⟩
    have hl := (List.getElem?_eq_some_iff.1 hu).1
    have hc := cut_one hu
    unfold cut at hc
    rw [if_pos (by omega)] at hc
    have hc := Option.some.inj hc
    exact ⟨cs, h1, by omega, strip0 y, by rw [hc]; rfl, h4⟩


def loadA (P : Program) (n : Nat) (x : Option (List V)) (off : Nat) (tk : List Nat) (dst : Option Nat) (os : List VOp) (keep : List Nat) (s : List Fr) (E : En) (H : Heap) (K : KK) : Prop :=
  ∃ cs, x = some cs ∧ off + n ≤ cs.length ∧ nextV P (.agg (((cs.drop off).take n).map strip0)) tk dst os keep s E H K
@[go_sem] theorem loadA_some {n : Nat} {cs : List V} {off : Nat} : loadA P n (some cs) off tk dst os keep s E H K = (off + n ≤ cs.length ∧ nextV P (.agg (((cs.drop off).take n).map strip0)) tk dst os keep s E H K) := by
  apply propext
  constructor
  · rintro ⟨v, h, k⟩; cases h; exact k
  · intro k; exact ⟨cs, rfl, k⟩
@[go_sem] theorem run_loadA {id ver off n : Nat} : runAct P (.load n true) [.ptr id ver off] tk dst os keep s E H K = loadA P n (getCells H id ver) off tk dst os keep s E H K := (rfl)
@[go_sem] theorem run_alloc' {zs : List V} : runAct P (.alloc zs) [] tk dst os keep s E H K = nextV P (.ptr H.length 0 0) tk dst os keep s E (H ++ [.cells 0 zs]) K := (rfl)

/-- A load that takes what it finds along. -/
def loadT1 (P : Program) (x : Option V) (cs : List V) (id ver off : Nat) (tk : List Nat) (dst : Option Nat) (os : List VOp) (keep : List Nat) (s : List Fr) (E : En) (H : Heap) (K : KK) : Prop :=
  ∃ v, x = some v ∧ nextV P v tk dst os keep s E (H.set id (.cells ver (cs.set off (strip0 v)))) K
@[go_sem] theorem loadT1_some {v : V} {cs : List V} {id ver off : Nat} : loadT1 P (some v) cs id ver off tk dst os keep s E H K = nextV P v tk dst os keep s E (H.set id (.cells ver (cs.set off (strip0 v)))) K := by
  apply propext
  constructor
  · rintro ⟨v, h, k⟩; cases h; exact k
  · intro k; exact ⟨v, rfl, k⟩
@[go_sem] theorem loadT1_map {α : Type} {l : List α} {f : α → V} {i : Nat} {cs : List V} {id ver off : Nat} : loadT1 P (l.map f)[i]? cs id ver off tk dst os keep s E H K = ∃ a, l[i]? = some a ∧ nextV P (f a) tk dst os keep s E (H.set id (.cells ver (cs.set off (strip0 (f a))))) K := ex_map
def loadTG (P : Program) (x : Option (List V)) (id ver off : Nat) (tk : List Nat) (dst : Option Nat) (os : List VOp) (keep : List Nat) (s : List Fr) (E : En) (H : Heap) (K : KK) : Prop :=
  ∃ cs, x = some cs ∧ loadT1 P cs[off]? cs id ver off tk dst os keep s E H K
@[go_sem] theorem loadTG_some {cs : List V} {id ver off : Nat} : loadTG P (some cs) id ver off tk dst os keep s E H K = loadT1 P cs[off]? cs id ver off tk dst os keep s E H K := by
  apply propext
  constructor
  · rintro ⟨v, h, k⟩; cases h; exact k
  · intro k; exact ⟨cs, rfl, k⟩
theorem put_one {cs : List V} {off : Nat} {v : V} (h : off < cs.length) : put cs off [v] = cs.set off v := by
  unfold put
  rw [List.set_eq_take_append_cons_drop, if_pos h]
  simp
@[go_sem] theorem run_loadT1 {id ver off : Nat} : runAct P (.loadT 1 false) [.ptr id ver off] tk dst os keep s E H K = loadTG P (getCells H id ver) id ver off tk dst os keep s E H K := by
  apply propext
  constructor
  · rintro ⟨cs, h1, h2, v, h3, h4⟩
    have hc : cut cs off 1 = some ((cs.drop off).take 1) := by simp [cut, h2]
    obtain ⟨x, hx, he⟩ := one_cut hc
    have hl := (List.getElem?_eq_some_iff.1 hx).1
    rw [he] at h3 h4
    cases h3
    simp only [List.map_cons, List.map_nil] at h4
    rw [put_one hl] at h4
    exact ⟨cs, h1, _, hx, h4⟩
  · rintro ⟨cs, h1, x, hx, h4⟩
    have hl := (List.getElem?_eq_some_iff.1 hx).1
    have hc := cut_one hx
    unfold cut at hc
    rw [if_pos (by omega)] at hc
    have hc := Option.some.inj hc
    refine ⟨cs, h1, by omega, x, hc, ?_⟩
    rw [hc]
    simp only [List.map_cons, List.map_nil]
    rw [put_one hl]
    exact h4

/-- A store. -/
def storeG (P : Program) (x : Option (List V)) (id ver off : Nat) (v : V) (tk : List Nat) (dst : Option Nat) (os : List VOp) (keep : List Nat) (s : List Fr) (E : En) (H : Heap) (K : KK) : Prop :=
  ∃ cs, x = some cs ∧ off < cs.length ∧ nextV P (.tup []) tk dst os keep s E (H.set id (.cells ver (cs.set off v))) K
@[go_sem] theorem storeG_some {cs : List V} {id ver off : Nat} {v : V} : storeG P (some cs) id ver off v tk dst os keep s E H K = (off < cs.length ∧ nextV P (.tup []) tk dst os keep s E (H.set id (.cells ver (cs.set off v))) K) := by
  apply propext
  constructor
  · rintro ⟨v, h, k⟩; cases h; exact k
  · intro k; exact ⟨cs, rfl, k⟩
theorem store_plain {id ver off : Nat} {v : V} (hs : scal0 v = true) (hf : ∀ z xs, v ≠ .fr z xs) : runAct P (.store 1) [.ptr id ver off, v] tk dst os keep s E H K = storeG P (getCells H id ver) id ver off v tk dst os keep s E H K := by
  have hcells : v.cells = [v] := by cases v <;> first | rfl | cases hs
  have hth : thawL [v] H = ([v], H) := by cases v <;> first | rfl | exact absurd rfl (hf _ _)
  have hsol : solid v = true := by cases v <;> first | rfl | cases hs
  have e : sStore 1 [.ptr id ver off, v] H = (getCells H id ver).bind fun cs => if off + 1 ≤ cs.length then some (.tup [], H.set id (.cells ver (put cs off [v]))) else none := by
    simp [sStore, hcells, hth, hsol, hs]
  show (∃ r H', sStore 1 [.ptr id ver off, v] H = some (r, H') ∧ _) = _
  rw [e]
  apply propext
  constructor
  · rintro ⟨r, H', h, k⟩
    obtain ⟨cs, h1, h⟩ := Option.bind_eq_some_iff.1 h
    split at h
    · rename_i hl
      cases h
      rw [put_one (by omega)] at k
      exact ⟨cs, h1, by omega, k⟩
    · cases h
  · rintro ⟨cs, h1, hl, k⟩
    refine ⟨.tup [], _, ?_, k⟩
    rw [h1, Option.bind_some, if_pos (by omega), put_one hl]
@[go_sem] theorem store_int {id ver off : Nat} {k : IntKind} {n : Int} : runAct P (.store 1) [.ptr id ver off, .int k n] tk dst os keep s E H K = storeG P (getCells H id ver) id ver off (.int k n) tk dst os keep s E H K := store_plain rfl (by simp)
@[go_sem] theorem store_bool {id ver off : Nat} {b : Bool} : runAct P (.store 1) [.ptr id ver off, .bool b] tk dst os keep s E H K = storeG P (getCells H id ver) id ver off (.bool b) tk dst os keep s E H K := store_plain rfl (by simp)
@[go_sem] theorem store_str {id ver off : Nat} {b : List UInt8} : runAct P (.store 1) [.ptr id ver off, .str b] tk dst os keep s E H K = storeG P (getCells H id ver) id ver off (.str b) tk dst os keep s E H K := store_plain rfl (by simp)
@[go_sem] theorem store_sl {id ver off : Nat} {o : Bool} {z : Nat} {xs : List (List V)} : runAct P (.store 1) [.ptr id ver off, .sl o z xs] tk dst os keep s E H K = storeG P (getCells H id ver) id ver off (.sl o z xs) tk dst os keep s E H K := store_plain rfl (by simp)
@[go_sem] theorem store_hsl {id ver off a b c d e : Nat} : runAct P (.store 1) [.ptr id ver off, .hsl a b c d e] tk dst os keep s E H K = storeG P (getCells H id ver) id ver off (.hsl a b c d e) tk dst os keep s E H K := store_plain rfl (by simp)
@[go_sem] theorem store_ptr {id ver off a b c : Nat} : runAct P (.store 1) [.ptr id ver off, .ptr a b c] tk dst os keep s E H K = storeG P (getCells H id ver) id ver off (.ptr a b c) tk dst os keep s E H K := store_plain rfl (by simp)
@[go_sem] theorem store_nilp {id ver off : Nat} : runAct P (.store 1) [.ptr id ver off, .nilp] tk dst os keep s E H K = storeG P (getCells H id ver) id ver off .nilp tk dst os keep s E H K := store_plain rfl (by simp)
@[go_sem] theorem store_nilh {id ver off z : Nat} : runAct P (.store 1) [.ptr id ver off, .nilh z] tk dst os keep s E H K = storeG P (getCells H id ver) id ver off (.nilh z) tk dst os keep s E H K := store_plain rfl (by simp)

@[go_sem] theorem thaw_fr {z : Nat} {xs : List (List V)} : runAct P .thaw [.fr z xs] tk dst os keep s E H K = nextV P (.hsl H.length 0 0 xs.length z) tk dst os keep s E (H ++ [.cells 0 xs.flatten]) K := by
  show (∃ r H', sThaw [.fr z xs] H = some (r, H') ∧ _) = _
  apply propext
  constructor
  · rintro ⟨r, H', h, k⟩; cases h; exact k
  · intro k; exact ⟨_, _, rfl, k⟩
@[go_sem] theorem thaw_hsl {a b c d e : Nat} : runAct P .thaw [.hsl a b c d e] tk dst os keep s E H K = nextV P (.hsl a b c d e) tk dst os keep s E H K := by
  show (∃ r H', sThaw [.hsl a b c d e] H = some (r, H') ∧ _) = _
  apply propext
  constructor
  · rintro ⟨r, H', h, k⟩; cases h; exact k
  · intro k; exact ⟨_, _, rfl, k⟩
@[go_sem] theorem thaw_sl {o : Bool} {z : Nat} {xs : List (List V)} : runAct P .thaw [.sl o z xs] tk dst os keep s E H K = nextV P (.sl o z xs) tk dst os keep s E H K := by
  show (∃ r H', sThaw [.sl o z xs] H = some (r, H') ∧ _) = _
  apply propext
  constructor
  · rintro ⟨r, H', h, k⟩; cases h; exact k
  · intro k; exact ⟨_, _, rfl, k⟩
theorem ite_next {c : Prop} [Decidable c] {v : V} {H1 : Heap} {F : V → Heap → Prop} : (∃ r H', (if c then some (v, H1) else none) = some (r, H') ∧ F r H') = (c ∧ F v H1) := by
  apply propext
  constructor
  · rintro ⟨r, H', h, k⟩
    split at h
    · rename_i hc; cases h; exact ⟨hc, k⟩
    · cases h
  · rintro ⟨hc, k⟩; exact ⟨_, _, by rw [if_pos hc], k⟩
@[go_sem] theorem run_makeH {sz bytes : Nat} {zs : List V} {j k : IntKind} {n c : Int} : runAct P (.makeH sz bytes zs) [.int j n, .int k c] tk dst os keep s E H K =
    ((n = c ∧ 0 ≤ n ∧ bytes * n ≤ 281474976710656 ∧ n ≤ 9223372036854775807) ∧ nextV P (.hsl H.length 0 0 n.toNat sz) tk dst os keep s E (H ++ [.cells 0 (List.replicate n.toNat zs).flatten]) K) := ite_next
@[go_sem] theorem run_makeSl {sz bytes : Nat} {zs : List V} {j k : IntKind} {n c : Int} : runAct P (.makeSl sz bytes zs) [.int j n, .int k c] tk dst os keep s E H K =
    ((n = c ∧ 0 ≤ n ∧ bytes * n ≤ 281474976710656 ∧ n ≤ 9223372036854775807) ∧ nextV P (.fr sz (List.replicate n.toNat zs)) tk dst os keep s E H K) := ite_next
@[go_sem] theorem run_buildFr1 {k : IntKind} {n : Int} : runAct P (.buildFr 1) [.int k n] tk dst os keep s E H K = nextV P (.fr 1 [[.int k n]]) tk dst os keep s E H K := by
  show (∃ r H', sBuildFr 1 [.int k n] H = some (r, H') ∧ _) = _
  have : sBuildFr 1 [.int k n] H = some (.fr 1 [[.int k n]], H) := by simp [sBuildFr, elems, solid, scal0, V.cells, inl, plain0, strip0]
  rw [this]
  apply propext
  constructor
  · rintro ⟨r, H', h, k⟩; cases h; exact k
  · intro k; exact ⟨_, _, rfl, k⟩

def appG (P : Program) (x : Option (List V)) (id ver ln sz : Nat) (ys : List (List V)) (tk : List Nat) (dst : Option Nat) (os : List VOp) (keep : List Nat) (s : List Fr) (E : En) (H : Heap) (K : KK) : Prop :=
  ∃ cs, x = some cs ∧ ln * sz ≤ cs.length ∧ nextV P (.hsl id (ver + 1) 0 (ln + ys.length) sz) tk dst os keep s E (H.set id (.cells (ver + 1) (cs.take (ln * sz) ++ ys.flatten))) K
@[go_sem] theorem appG_some {cs : List V} {id ver ln sz : Nat} {ys : List (List V)} : appG P (some cs) id ver ln sz ys tk dst os keep s E H K =
    (ln * sz ≤ cs.length ∧ nextV P (.hsl id (ver + 1) 0 (ln + ys.length) sz) tk dst os keep s E (H.set id (.cells (ver + 1) (cs.take (ln * sz) ++ ys.flatten))) K) := by
  apply propext
  constructor
  · rintro ⟨v, h, k⟩; cases h; exact k
  · intro k; exact ⟨cs, rfl, k⟩
@[go_sem] theorem run_appendH {id ver ln z z' sz bytes : Nat} {o : Bool} {ys : List (List V)} : runAct P (.appendH sz bytes) [.hsl id ver 0 ln z, .sl o z' ys] tk dst os keep s E H K =
    (z = sz ∧ z' = sz ∧ fits (ln + ys.length) bytes ∧ appG P (getCells H id ver) id ver ln sz ys tk dst os keep s E H K) := by
  have e : sAppendH sz bytes [.hsl id ver 0 ln z, .sl o z' ys] H = if z = sz ∧ z' = sz ∧ fits (ln + ys.length) bytes then (getCells H id ver).bind fun cs => if ln * sz ≤ cs.length then
      some (.hsl id (ver + 1) 0 (ln + ys.length) sz, H.set id (.cells (ver + 1) (cs.take (ln * sz) ++ ys.flatten))) else none else none := by
    simp only [sAppendH, true_and]
    split
    · congr 1
      funext cs
      simp only [cut, Nat.zero_add, List.drop_zero]
      split <;> rfl
    · rfl
  show (∃ r H', sAppendH sz bytes [.hsl id ver 0 ln z, .sl o z' ys] H = some (r, H') ∧ _) = _
  rw [e]
  apply propext
  constructor
  · rintro ⟨r, H', h, k⟩
    split at h
    · rename_i hc
      obtain ⟨cs, h1, h⟩ := Option.bind_eq_some_iff.1 h
      split at h
      · rename_i hl
        cases h
        exact ⟨hc.1, hc.2.1, hc.2.2, cs, h1, hl, k⟩
      · cases h
    · cases h
  · rintro ⟨h1, h2, h3, cs, h4, h5, k⟩
    refine ⟨_, _, ?_, k⟩
    rw [if_pos ⟨h1, h2, h3⟩, h4, Option.bind_some, if_pos h5]
@[go_sem] theorem run_appendN {z z' sz bytes : Nat} {o : Bool} {ys : List (List V)} : runAct P (.appendH sz bytes) [.nilh z, .sl o z' ys] tk dst os keep s E H K =
    ((z = sz ∧ z' = sz ∧ 0 < ys.length ∧ fits ys.length bytes) ∧ nextV P (.fr sz ys) tk dst os keep s E H K) := ite_next
@[go_sem] theorem slice_ft {o : Bool} {z sz : Nat} {xs : List (List V)} {k : IntKind} {x : Int} : runAct P (.slice false true sz) [.sl o z xs, .int k x] tk dst os keep s E H K =
    (z = sz ∧ 0 ≤ x ∧ x ≤ xs.length ∧ nextV P (.sl false z ((xs.take x.toNat).drop 0)) tk dst os keep s E H K) := (rfl)
@[go_sem] theorem slice_tf {o : Bool} {z sz : Nat} {xs : List (List V)} {k : IntKind} {x : Int} : runAct P (.slice true false sz) [.sl o z xs, .int k x] tk dst os keep s E H K =
    (z = sz ∧ 0 ≤ x ∧ x ≤ xs.length ∧ nextV P (.sl false z ((xs.take xs.length).drop x.toNat)) tk dst os keep s E H K) := (rfl)
@[go_sem] theorem slice_tt {o : Bool} {z sz : Nat} {xs : List (List V)} {j k : IntKind} {l h : Int} : runAct P (.slice true true sz) [.sl o z xs, .int j l, .int k h] tk dst os keep s E H K =
    (z = sz ∧ 0 ≤ l ∧ l ≤ h ∧ h ≤ xs.length ∧ nextV P (.sl false z ((xs.take h.toNat).drop l.toNat)) tk dst os keep s E H K) := (rfl)
@[go_sem] theorem sliceh_ft {id ver off ln z sz : Nat} {k : IntKind} {x : Int} : runAct P (.slice false true sz) [.hsl id ver off ln z, .int k x] tk dst os keep s E H K =
    ((z = sz ∧ 0 ≤ x ∧ x ≤ ln) ∧ nextV P (.hsl id ver off x.toNat z) tk dst os keep s E H K) := by
  have e : sSlice false true sz [.hsl id ver off ln z, .int k x] H = if z = sz ∧ 0 ≤ x ∧ x ≤ ln then some (.hsl id ver off x.toNat z, H) else none := by
    simp only [sSlice, bounds]
    by_cases h1 : z = sz
    · by_cases h2 : 0 ≤ x ∧ x ≤ ln
      · simp [h1, h2]
        omega
      · simp [h1, h2]
    · simp [h1]
  show (∃ r H', sSlice false true sz [.hsl id ver off ln z, .int k x] H = some (r, H') ∧ _) = _
  rw [e]
  exact ite_next
end
end Go.Proofs.Ytglemgdlkddjhaa.Vm
