/-
The groups, part 11: the finder's methods: enter.
-/
import Derived.Test.YtglemgdlkddjhaaGrp10
import Derived.Test.YtglemgdlkddjhaaVm29
namespace Go.Proofs.Ytglemgdlkddjhaa.Vm
open Go

def cN (n : Nat) (f : Nat → Nat) : List V := (List.range n).map fun i => .int .i64 (f i)
def cB (n : Nat) (f : Nat → Bool) : List V := (List.range n).map fun i => .bool (f i)
theorem cN_len (n : Nat) (f : Nat → Nat) : (cN n f).length = n := by simp [cN]
theorem cB_len (n : Nat) (f : Nat → Bool) : (cB n f).length = n := by simp [cB]
theorem cN_get {n i : Nat} {f : Nat → Nat} (h : i < n) : (cN n f)[i]? = some (.int .i64 (f i)) := by simp [cN, List.getElem?_range h]
theorem cB_get {n i : Nat} {f : Nat → Bool} (h : i < n) : (cB n f)[i]? = some (.bool (f i)) := by simp [cB, List.getElem?_range h]
theorem cN_set (n i : Nat) (f : Nat → Nat) (x : Nat) : (cN n f).set i (.int .i64 x) = cN n (updN f i x) := by
  apply List.ext_getElem?
  intro j
  rw [List.getElem?_set, cN_len]
  by_cases hj : j < n
  · rw [cN_get hj, cN_get hj]
    by_cases hij : i = j
    · subst hij; rw [if_pos rfl, if_pos hj, updN_same]
    · rw [if_neg hij, updN_other _ _ (fun e => hij e.symm)]
  · rw [List.getElem?_eq_none (by rw [cN_len]; omega), List.getElem?_eq_none (by rw [cN_len]; omega)]
    split <;> simp; omega
theorem cB_set (n i : Nat) (f : Nat → Bool) (x : Bool) : (cB n f).set i (.bool x) = cB n (updN f i x) := by
  apply List.ext_getElem?
  intro j
  rw [List.getElem?_set, cB_len]
  by_cases hj : j < n
  · rw [cB_get hj, cB_get hj]
    by_cases hij : i = j
    · subst hij; rw [if_pos rfl, if_pos hj, updN_same]
    · rw [if_neg hij, updN_other _ _ (fun e => hij e.symm)]
  · rw [List.getElem?_eq_none (by rw [cB_len]; omega), List.getElem?_eq_none (by rw [cB_len]; omega)]
    split <;> simp; omega
def nV (l : List Nat) : List V := l.map fun (k : Nat) => V.int .i64 (k : Int)
theorem nV_len (l : List Nat) : (nV l).length = l.length := by simp [nV]
theorem ids_cN (m n : Nat) (f : Nat → Nat) : idsL m (cN n f) = true := by simp [idsL_all, cN, idsV]
theorem ids_cB (m n : Nat) (f : Nat → Bool) : idsL m (cB n f) = true := by simp [idsL_all, cB, idsV]
theorem ids_nV (m : Nat) (l : List Nat) : idsL m (nV l) = true := by simp [idsL_all, nV, idsV]

/-- The finder's heap: ahead of the first thing, and behind it. -/
def HA (n : Nat) (uV : V) (s : FS) : Heap := [.cells 0 (cN n s.ord), .cells 0 (cN n s.low), .cells 0 (cB n s.inn), .cells 0 (cN n s.grp),
  .cells 0 [uV, .hsl 0 0 0 n 1, .hsl 1 0 0 n 1, .nilh 1, .hsl 2 0 0 n 1, .hsl 3 0 0 n 1, .int .i64 s.nx, .int .i64 s.mny]]
def HB (n : Nat) (uV : V) (s : FS) (ver : Nat) (rest junk : List V) (tl : Heap) : Heap := .cells 0 (cN n s.ord) :: .cells 0 (cN n s.low) :: .cells 0 (cB n s.inn) :: .cells 0 (cN n s.grp) ::
  .cells 0 [uV, .hsl 0 0 0 n 1, .hsl 1 0 0 n 1, .hsl 6 ver 0 s.op.length 1, .hsl 2 0 0 n 1, .hsl 3 0 0 n 1, .int .i64 s.nx, .int .i64 s.mny] :: .cells 0 junk :: .cells ver (nV s.op ++ rest) :: tl

theorem HB_def {n : Nat} {uV : V} (s : FS) {ver : Nat} {rest junk : List V} {tl : Heap} : HB n uV s ver rest junk tl = .cells 0 (cN n s.ord) :: .cells 0 (cN n s.low) :: .cells 0 (cB n s.inn) :: .cells 0 (cN n s.grp) ::
  .cells 0 [uV, .hsl 0 0 0 n 1, .hsl 1 0 0 n 1, .hsl 6 ver 0 s.op.length 1, .hsl 2 0 0 n 1, .hsl 3 0 0 n 1, .int .i64 s.nx, .int .i64 s.mny] :: .cells 0 junk :: .cells ver (nV s.op ++ rest) :: tl := rfl
theorem fits_big {n : Nat} (h : n ≤ 2048) : fits (n + 1) 8 := by simp [fits]; omega
theorem take_nV {l : List Nat} {rest : List V} : List.take (l.length * 1) (nV l ++ rest) = nV l := by
  rw [Nat.mul_one, List.take_append_of_le_length (by rw [nV_len]; exact Nat.le_refl _), List.take_of_length_le (by rw [nV_len]; exact Nat.le_refl _)]
theorem nV_snoc (l : List Nat) (k : Nat) : nV l ++ [V.int .i64 (k : Int)] = nV (l ++ [k]) := by simp [nV]
theorem ids_app (m : Nat) (a b : List V) : idsL m (a ++ b) = (idsL m a && idsL m b) := by simp [idsL_all]
/-- What the finder's heap names is in it. -/
theorem ids_HB {m n : Nat} {uV : V} {s : FS} {ver : Nat} {rest junk : List V} {tl : Heap} (hm : 7 ≤ m) (hu : idsV m uV = true) (hr : idsL m rest = true) (hj : idsL m junk = true) (ht : allIds m tl = true) : allIds m (HB n uV s ver rest junk tl) = true := by
  unfold allIds at ht
  have h0 : ∀ i, i < 7 → decide (i < m) = true := fun i hi => decide_eq_true (by omega)
  simp only [HB, allIds, List.all_cons, idsO, ids_cN, ids_cB, idsL, idsV, hu, hj, ids_app, ids_nV, hr, ht, h0 0 (by omega), h0 1 (by omega), h0 2 (by omega), h0 3 (by omega), h0 6 (by omega), Bool.and_self]
theorem enter_T (n : Nat) (uV : V) (s : FS) (ver : Nat) (rest junk : List V) (k : Nat) (hk : k < n) (hx : s.nx ≤ 2048) (hop : s.op.length ≤ 2048) (hu : idsV 7 uV = true) (hj : idsL 7 junk = true) :
    T Try.prog 25 [.ptr 4 0 0, .int .i64 k] (HB n uV s ver rest junk []) (.agg [.int .i64 k, .int .i64 0]) (HB n uV (enterS s k) (ver + 1) [] junk []) := by
  refine T.of_h mix c25 7 rfl ?_
  have hw := inc64 (i := s.nx) (by omega)
  generalize hK : endX _ _ _ _ = K
  unfold v25 HB
  simp only [go_sem, ↓reduceIte, Int.toNat_natCast, cN_len, cB_len, cN_get hk, cB_get hk, ↓run_addW, hw]
  refine ⟨by omega, by omega, by omega, by omega, by omega, by omega, fits_big hop, by rw [nV_len]; omega, by omega, by omega, by omega, ?_⟩
  rw [← hK, Nat.mul_one, cN_set, cN_set, cB_set, take_nV, List.flatten_cons, List.flatten_nil, List.append_nil, nV_snoc]
  have e : ([Obj.cells 0 (cN n (updN s.ord k (s.nx + 1))), Obj.cells 0 (cN n (updN s.low k (s.nx + 1))), Obj.cells 0 (cB n (updN s.inn k true)), Obj.cells 0 (cN n s.grp),
      Obj.cells 0 [uV, V.hsl 0 0 0 n 1, V.hsl 1 0 0 n 1, V.hsl 6 (ver + 1) 0 (s.op.length + 1) 1, V.hsl 2 0 0 n 1, V.hsl 3 0 0 n 1, V.int IntKind.i64 ↑(s.nx + 1), V.int IntKind.i64 ↑s.mny],
      Obj.cells 0 junk, Obj.cells (ver + 1) (nV (s.op ++ [k]))] : Heap) = HB n uV (enterS s k) (ver + 1) [] junk [] := by
    simp [HB, enterS]
  refine endX_of trivial (by simp [HB]) (by simp) ?_ (r0 := .agg [.int .i64 k, .int .i64 0]) ?_ ?_ ⟨rfl, ?_⟩
  · simp only [List.take_succ_cons, List.take_zero]
    rw [e]
    exact ids_HB (Nat.le_refl _) hu rfl hj rfl
  · simp [v25, resV, En.f, getE_cons, getCells, cut, mk, put]
  · simp [fixV]
  · simp only [List.take_succ_cons, List.take_zero]
    exact e
theorem enterB_T (fo : Obj) (n : Nat) (uV : V) (s : FS) (ver : Nat) (rest junk : List V) (k : Nat) (hk : k < n) (hx : s.nx ≤ 2048) (hop : s.op.length ≤ 2048) (hu : idsV 8 uV = true) (hj : idsL 8 junk = true) (hf : idsO 8 fo = true) :
    T Try.prog 25 [.ptr 4 0 0, .int .i64 k] (HB n uV s ver rest junk [fo]) (.agg [.int .i64 k, .int .i64 0]) (HB n uV (enterS s k) (ver + 1) [] junk [fo]) := by
  refine T.of_h mix c25 8 rfl ?_
  have hw := inc64 (i := s.nx) (by omega)
  generalize hK : endX _ _ _ _ = K
  unfold v25 HB
  simp only [go_sem, ↓reduceIte, Int.toNat_natCast, cN_len, cB_len, cN_get hk, cB_get hk, ↓run_addW, hw]
  refine ⟨by omega, by omega, by omega, by omega, by omega, by omega, fits_big hop, by rw [nV_len]; omega, by omega, by omega, by omega, ?_⟩
  rw [← hK, Nat.mul_one, cN_set, cN_set, cB_set, take_nV, List.flatten_cons, List.flatten_nil, List.append_nil, nV_snoc]
  have e : ([Obj.cells 0 (cN n (updN s.ord k (s.nx + 1))), Obj.cells 0 (cN n (updN s.low k (s.nx + 1))), Obj.cells 0 (cB n (updN s.inn k true)), Obj.cells 0 (cN n s.grp),
      Obj.cells 0 [uV, V.hsl 0 0 0 n 1, V.hsl 1 0 0 n 1, V.hsl 6 (ver + 1) 0 (s.op.length + 1) 1, V.hsl 2 0 0 n 1, V.hsl 3 0 0 n 1, V.int IntKind.i64 ↑(s.nx + 1), V.int IntKind.i64 ↑s.mny],
      Obj.cells 0 junk, Obj.cells (ver + 1) (nV (s.op ++ [k])), fo] : Heap) = HB n uV (enterS s k) (ver + 1) [] junk [fo] := by
    simp [HB, enterS]
  refine endX_of trivial (by simp [HB]) (by simp) ?_ (r0 := .agg [.int .i64 k, .int .i64 0]) ?_ ?_ ⟨rfl, ?_⟩
  · simp only [List.take_succ_cons, List.take_zero]
    rw [e]
    exact ids_HB (by omega) hu rfl hj (by simp [allIds, hf])
  · simp [v25, resV, En.f, getE_cons, getCells, cut, mk, put]
  · simp [fixV]
  · simp only [List.take_succ_cons, List.take_zero]
    exact e
theorem enterA_T (n : Nat) (uV : V) (s : FS) (k : Nat) (hk : k < n) (hx : s.nx ≤ 2048) (hop : s.op = []) (hu : idsV 7 uV = true) :
    T Try.prog 25 [.ptr 4 0 0, .int .i64 k] (HA n uV s) (.agg [.int .i64 k, .int .i64 0]) (HB n uV (enterS s k) 0 [] [.int .i64 k, .int .i64 0] []) := by
  refine T.of_h mix c25 7 rfl ?_
  have hw := inc64 (i := s.nx) (by omega)
  generalize hK : endX _ _ _ _ = K
  unfold v25 HA
  simp only [go_sem, ↓reduceIte, Int.toNat_natCast, cN_len, cB_len, cN_get hk, cB_get hk, ↓run_addW, hw]
  refine ⟨by omega, by omega, by omega, by omega, by omega, by omega, by simp [fits], by omega, by omega, by omega, ?_⟩
  rw [← hK, Nat.mul_one, cN_set, cN_set, cB_set, List.flatten_cons, List.flatten_nil, List.append_nil]
  have e : ([Obj.cells 0 (cN n (updN s.ord k (s.nx + 1))), Obj.cells 0 (cN n (updN s.low k (s.nx + 1))), Obj.cells 0 (cB n (updN s.inn k true)), Obj.cells 0 (cN n s.grp),
      Obj.cells 0 [uV, V.hsl 0 0 0 n 1, V.hsl 1 0 0 n 1, V.hsl 6 0 0 1 1, V.hsl 2 0 0 n 1, V.hsl 3 0 0 n 1, V.int IntKind.i64 ↑(s.nx + 1), V.int IntKind.i64 ↑s.mny],
      Obj.cells 0 [.int .i64 k, .int .i64 0], Obj.cells 0 [.int .i64 k]] : Heap) = HB n uV (enterS s k) 0 [] [.int .i64 k, .int .i64 0] [] := by
    simp [HB, enterS, hop, nV]
  refine endX_of trivial (by simp [HA]) (by simp) ?_ (r0 := .agg [.int .i64 k, .int .i64 0]) ?_ ?_ ⟨rfl, ?_⟩
  · simp only [List.take_succ_cons, List.take_zero, put, List.nil_append, List.append_nil, List.length_cons, List.length_nil, List.drop]
    rw [e]
    exact ids_HB (Nat.le_refl _) hu rfl rfl rfl
  · simp [v25, resV, En.f, getE_cons, getCells, cut, mk, put, strip0_int]
  · simp [fixV]
  · simp only [List.take_succ_cons, List.take_zero, put, List.nil_append, List.append_nil, List.length_cons, List.length_nil, List.drop]
    exact e
end Go.Proofs.Ytglemgdlkddjhaa.Vm
