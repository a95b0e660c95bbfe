/-
The value machine, part 28: functions that begin in an empty heap.
-/
import Derived.Test.YtglemgdlkddjhaaVm27
namespace Go.Proofs.Ytglemgdlkddjhaa.Vm
open Go

@[go_sem] theorem fixd_int (m : Nat) (H : Heap) (d : Nat) (k : IntKind) (n : Int) : fixV m H (d + 1) (.int k n) = some (.int k n) := rfl
@[go_sem] theorem fixd_bool (m : Nat) (H : Heap) (d : Nat) (b : Bool) : fixV m H (d + 1) (.bool b) = some (.bool b) := rfl
@[go_sem] theorem fixd_str (m : Nat) (H : Heap) (d : Nat) (s : List UInt8) : fixV m H (d + 1) (.str s) = some (.str s) := rfl
@[go_sem] theorem fixd_sl (m : Nat) (H : Heap) (d : Nat) (o : Bool) (z : Nat) (xs : List (List V)) : fixV m H (d + 1) (.sl o z xs) = some (.sl o z xs) := rfl
@[go_sem] theorem fixd_tup0 (m : Nat) (H : Heap) (d : Nat) : fixV m H (d + 1) (.tup []) = some (.tup []) := by simp [fixV]
theorem fixd_tup2 (m : Nat) (H : Heap) (d : Nat) (a b : V) : fixV m H (d + 1) (.tup [a, b]) = (fixV m H d a).bind fun a' => (fixV m H d b).map fun b' => .tup [a', b'] := by
  simp only [fixV, List.mapM_cons, List.mapM_nil]
  cases fixV m H d a <;> simp
  cases fixV m H d b <;> simp

/-- How a function that began in an empty heap ends. -/
def end0 (rs : List VRes) (R : V → Prop) : KK := fun x E H => (match x with | .exit _ => False | _ => True) ∧ ∃ r0, resV 0 H E.f rs = some r0 ∧ ∃ r, fixV 0 H 8 r0 = some r ∧ R r
def fin0 (H : Heap) (v : V) (R : V → Prop) : Prop := ∃ r, fixV 0 H 8 v = some r ∧ R r
section
variable {R : V → Prop} {l : List (Nat × V)} {d : V} {H : Heap} {t u : Nat}
@[go_sem] theorem end0_tmp : end0 [.tmp t] R .ret ⟨l, d⟩ H = fin0 H (getE l d t) R := by simp [end0, fin0, resV, resL, res1, pack, En.f]
@[go_sem] theorem end0_tmpN : end0 [.tmp t] R .normal ⟨l, d⟩ H = fin0 H (getE l d t) R := by simp [end0, fin0, resV, resL, res1, pack, En.f]
@[go_sem] theorem end0_two : end0 [.tmp t, .tmp u] R .ret ⟨l, d⟩ H = fin0 H (.tup [getE l d t, getE l d u]) R := by simp [end0, fin0, resV, resL, res1, pack, En.f]
@[go_sem] theorem end0_twoN : end0 [.tmp t, .tmp u] R .normal ⟨l, d⟩ H = fin0 H (.tup [getE l d t, getE l d u]) R := by simp [end0, fin0, resV, resL, res1, pack, En.f]
@[go_sem] theorem fin0_int {k : IntKind} {n : Int} : fin0 H (.int k n) R = R (.int k n) := by simp [fin0, fixV]
@[go_sem] theorem fin0_bool {b : Bool} : fin0 H (.bool b) R = R (.bool b) := by simp [fin0, fixV]
@[go_sem] theorem fin0_sl {o : Bool} {z : Nat} {xs : List (List V)} : fin0 H (.sl o z xs) R = R (.sl o z xs) := by simp [fin0, fixV]
@[go_sem] theorem fin0_slint {o : Bool} {z : Nat} {xs : List (List V)} {k : IntKind} {n : Int} : fin0 H (.tup [.sl o z xs, .int k n]) R = R (.tup [.sl o z xs, .int k n]) := by
  simp [fin0, fixd_tup2, fixd_sl, fixd_int]
end

theorem T.of0 {P : Program} (hmix : P.follows .mixedOrders = true) {f : Nat} {vf : VFunc} (hc : chkFn P f vf = true) {args : List V} {r : V} (hl : Nat.ble args.length vf.n = true)
    (h : run P vf.body [] ⟨args.zipIdx.map fun p => (p.2, p.1), .tup []⟩ [] (end0 vf.results fun r' => r' = r)) : T P f args [] r [] := by
  refine T.of_wp hmix hc (Nat.le_of_ble_eq_true hl) ((wp_sound h).mono ?_)
  rintro x E' H' ⟨h1, r0, h2, r', h3, rfl⟩
  refine ⟨?_, Nat.zero_le _, fun i ob hi _ => absurd hi (Nat.not_lt_zero i), r0, h2, h3⟩
  intro id e; subst e; exact h1

attribute [go_sem] List.nil_append List.cons_append List.length_cons List.length_nil List.length_append List.getElem?_cons_zero List.getElem?_cons_succ List.set_cons_zero List.set_cons_succ getCells List.append_nil Nat.zero_add Nat.add_zero List.length_map List.length_replicate
end Go.Proofs.Ytglemgdlkddjhaa.Vm
