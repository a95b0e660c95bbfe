/-
The value machine, part 29: functions that leave another heap behind.
-/
import Derived.Test.YtglemgdlkddjhaaVm28
namespace Go.Proofs.Ytglemgdlkddjhaa.Vm
open Go

/-- How a function ends that may change the heap: up to m all is kept. -/
def endX (m : Nat) (H0 : Heap) (rs : List VRes) (R : V → Heap → Prop) : KK := fun x E H => (match x with | .exit _ => False | _ => True) ∧
  H0.length ≤ m ∧ m ≤ H.length ∧ (∀ (i : Nat) (ob : Obj), i < m → H[i]? = some ob → H0[i]? = some ob ∨ idsO m ob = true) ∧ ∃ r0, resV m H E.f rs = some r0 ∧ ∃ r, fixV m H 8 r0 = some r ∧ R r (H.take m)
theorem T.of_ex {P : Program} (hmix : P.follows .mixedOrders = true) {f : Nat} {vf : VFunc} (hc : chkFn P f vf = true) {args : List V} {H : Heap} {R : V → Heap → Prop} (m : Nat) (hl : Nat.ble args.length vf.n = true)
    (h : run P vf.body [] ⟨args.zipIdx.map fun p => (p.2, p.1), .tup []⟩ H (endX m H vf.results R)) : ∃ r H', T P f args H r H' ∧ R r H' := by
  obtain ⟨x, E1, H1, h1, h2, h3, h4, h5, r0, h6, r, h7, h8⟩ := wp_sound h
  rw [env0_eq] at h1
  refine ⟨r, H1.take m, T_of hmix hc (Nat.le_of_ble_eq_true hl) h1 ?_ h3 h4 h6 h7 h5, h8⟩
  intro id e; subst e; exact h2
theorem T.of_h {P : Program} (hmix : P.follows .mixedOrders = true) {f : Nat} {vf : VFunc} (hc : chkFn P f vf = true) {args : List V} {H H' : Heap} {r : V} (m : Nat) (hl : Nat.ble args.length vf.n = true)
    (h : run P vf.body [] ⟨args.zipIdx.map fun p => (p.2, p.1), .tup []⟩ H (endX m H vf.results fun r1 H1 => r1 = r ∧ H1 = H')) : T P f args H r H' := by
  obtain ⟨r, H', h1, rfl, rfl⟩ := T.of_ex hmix hc m hl h
  exact h1
/-- At the end all objects that stay name only such. -/
def allIds (m : Nat) (H : Heap) : Bool := H.all (idsO m)
theorem endX_of {m : Nat} {H0 : Heap} {rs : List VRes} {R : V → Heap → Prop} {x : X} {E : En} {H : Heap} (hx : (match x with | .exit _ => False | _ => True)) (h1 : H0.length ≤ m) (h2 : m ≤ H.length) (h3 : allIds m (H.take m) = true)
    {r0 r : V} (h4 : resV m H E.f rs = some r0) (h5 : fixV m H 8 r0 = some r) (h6 : R r (H.take m)) : endX m H0 rs R x E H := by
  refine ⟨hx, h1, h2, fun i ob hi hob => .inr ?_, r0, h4, r, h5, h6⟩
  refine List.all_eq_true.1 h3 ob ?_
  exact List.mem_of_getElem? (by rw [List.getElem?_take, if_pos hi]; exact hob)
theorem idsL_all {m : Nat} : ∀ {l : List V}, idsL m l = l.all (idsV m)
  | [] => rfl
  | v :: l => by rw [idsL, List.all_cons, idsL_all]

def plainC : V → Bool
  | .fr _ _ => false
  | v => scal0 v
section
variable {P : Program} {K : KK} {s : List Fr} {E : En} {H : Heap} {tk : List Nat} {dst : Option Nat} {os : List VOp} {keep : List Nat}
@[go_sem] theorem plainC_int {k : IntKind} {n : Int} : plainC (.int k n) = true := (rfl)
@[go_sem] theorem plainC_bool {b : Bool} : plainC (.bool b) = true := (rfl)
@[go_sem] theorem plainC_str {b : List UInt8} : plainC (.str b) = true := (rfl)
@[go_sem] theorem plainC_sl {o : Bool} {z : Nat} {xs : List (List V)} : plainC (.sl o z xs) = true := (rfl)
@[go_sem] theorem plainC_hsl {a b c d e : Nat} : plainC (.hsl a b c d e) = true := (rfl)
@[go_sem] theorem plainC_ptr {a b c : Nat} : plainC (.ptr a b c) = true := (rfl)
@[go_sem] theorem plainC_nilh {a : Nat} : plainC (.nilh a) = true := (rfl)
@[go_sem] theorem plainC_nilp : plainC .nilp = true := (rfl)
@[go_sem] theorem scal0_int {k : IntKind} {n : Int} : scal0 (.int k n) = true := (rfl)
@[go_sem] theorem scal0_bool {b : Bool} : scal0 (.bool b) = true := (rfl)
@[go_sem] theorem scal0_str {b : List UInt8} : scal0 (.str b) = true := (rfl)
@[go_sem] theorem scal0_sl {o : Bool} {z : Nat} {xs : List (List V)} : scal0 (.sl o z xs) = true := (rfl)
@[go_sem] theorem scal0_hsl {a b c d e : Nat} : scal0 (.hsl a b c d e) = true := (rfl)
@[go_sem] theorem scal0_fr {z : Nat} {xs : List (List V)} : scal0 (.fr z xs) = true := (rfl)
@[go_sem] theorem scal0_ptr {a b c : Nat} : scal0 (.ptr a b c) = true := (rfl)
@[go_sem] theorem scal0_nilh {a : Nat} : scal0 (.nilh a) = true := (rfl)
@[go_sem] theorem scal0_nilp : scal0 .nilp = true := (rfl)

@[go_sem] theorem fillV_nil {zs : List V} : fillV zs [] [] = some zs := rfl
@[go_sem] theorem fillV_one {zs vs : List V} {off : Nat} {ps : List (Nat × Nat)} {v : V} (h : scal0 v = true) : fillV zs ((off, 1) :: ps) (v :: vs) = if off < zs.length then fillV (zs.set off v) ps vs else none := by
  have hcells : v.cells = [v] := by cases v <;> first | rfl | cases h
  have hsol : solid v = true := by cases v <;> first | rfl | cases h
  rw [fillV, hcells]
  by_cases hl : off < zs.length
  · rw [if_pos ⟨hsol, rfl, by omega⟩, if_pos hl, put_one hl]
  · rw [if_neg (fun hh => hl (by have := hh.2.2; omega)), if_neg hl]
def exO (x : Option (List V)) (F : List V → Prop) : Prop := ∃ cs, x = some cs ∧ F cs
@[go_sem] theorem exO_some {cs : List V} {F : List V → Prop} : exO (some cs) F = F cs := by
  apply propext
  constructor
  · rintro ⟨_, h, k⟩; cases h; exact k
  · intro k; exact ⟨_, rfl, k⟩
@[go_sem] theorem run_build {zs : List V} {ps : List (Nat × Nat)} {vs : List V} : runAct P (.build zs ps) vs tk dst os keep s E H K = exO (fillV zs ps vs) fun cs => nextV P (.agg cs) tk dst os keep s E H K := by
  show (∃ r H', sBuild zs ps vs H = some (r, H') ∧ _) = _
  apply propext
  constructor
  · rintro ⟨r, H', h, k⟩
    obtain ⟨cs, h1, h2⟩ := Option.map_eq_some_iff.1 h
    cases h2; exact ⟨cs, h1, k⟩
  · rintro ⟨cs, h1, k⟩
    exact ⟨_, _, by unfold sBuild; rw [h1]; rfl, k⟩

@[go_sem] theorem thawL_nil : thawL [] H = ([], H) := rfl
@[go_sem] theorem thawL_fr {z : Nat} {xs : List (List V)} {vs : List V} : thawL (.fr z xs :: vs) H = (.hsl H.length 0 0 xs.length z :: (thawL vs (H ++ [.cells 0 xs.flatten])).1, (thawL vs (H ++ [.cells 0 xs.flatten])).2) := rfl
@[go_sem] theorem thawL_plain {v : V} {vs : List V} (h : plainC v = true) : thawL (v :: vs) H = (v :: (thawL vs H).1, (thawL vs H).2) := by
  cases v <;> first | rfl | cases h
theorem thawL_all {vs : List V} : vs.all plainC = true → thawL vs H = (vs, H) := by
  induction vs with
  | nil => intro _; rfl
  | cons v vs ih =>
    intro h
    rw [List.all_cons, Bool.and_eq_true] at h
    rw [thawL_plain h.1, ih h.2]
@[go_sem] theorem run_box {cs : List V} : runAct P .box [.agg cs] tk dst os keep s E H K = nextV P (.ptr (thawL cs H).2.length 0 0) tk dst os keep s E ((thawL cs H).2 ++ [.cells 0 (thawL cs H).1]) K := by
  show (∃ r H', sBox [.agg cs] H = some (r, H') ∧ _) = _
  have e : sBox [.agg cs] H = some (.ptr (thawL cs H).2.length 0 0, (thawL cs H).2 ++ [.cells 0 (thawL cs H).1]) := by simp [sBox, solid, V.cells]
  rw [e]
  apply propext
  constructor
  · rintro ⟨r, H', h, k⟩; cases h; exact k
  · intro k; exact ⟨_, _, rfl, k⟩

/-- A struct is written. -/
def storeA (P : Program) (x : Option (List V)) (id ver off : Nat) (cs : List V) (tk : List Nat) (dst : Option Nat) (os : List VOp) (keep : List Nat) (s : List Fr) (E : En) (H : Heap) (K : KK) : Prop :=
  exO x fun c => off + cs.length ≤ c.length ∧ nextV P (.tup []) tk dst os keep s E (H.set id (.cells ver (put c off cs))) K
@[go_sem] theorem storeA_some {c cs : List V} {id ver off : Nat} : storeA P (some c) id ver off cs tk dst os keep s E H K = (off + cs.length ≤ c.length ∧ nextV P (.tup []) tk dst os keep s E (H.set id (.cells ver (put c off cs))) K) := exO_some
@[go_sem] theorem store_agg {id ver off n : Nat} {cs : List V} (h : cs.all plainC = true) (hn : n = cs.length) : runAct P (.store n) [.ptr id ver off, .agg cs] tk dst os keep s E H K = storeA P (getCells H id ver) id ver off cs tk dst os keep s E H K := by
  subst hn
  have hsc : cs.all scal0 = true := by
    rw [List.all_eq_true] at h ⊢
    intro v hv
    have := h v hv
    cases v <;> first | rfl | cases this
  have e : sStore cs.length [.ptr id ver off, .agg cs] H = (getCells H id ver).bind fun c => if off + cs.length ≤ c.length then some (.tup [], H.set id (.cells ver (put c off cs))) else none := by
    simp only [sStore, solid, V.cells, thawL_all h, hsc, true_and]
  show (∃ r H', sStore cs.length [.ptr id ver off, .agg cs] H = some (r, H') ∧ _) = _
  rw [e]
  apply propext
  constructor
  · rintro ⟨r, H', h, k⟩
    obtain ⟨c, h1, h⟩ := Option.bind_eq_some_iff.1 h
    split at h
    · rename_i hl
      cases h
      exact ⟨c, h1, hl, k⟩
    · cases h
  · rintro ⟨c, h1, hl, k⟩
    refine ⟨.tup [], _, ?_, k⟩
    rw [h1, Option.bind_some, if_pos hl]
theorem store_fr {id ver off z : Nat} {xs : List (List V)} : runAct P (.store 1) [.ptr id ver off, .fr z xs] tk dst os keep s E H K =
    exO (getCells H id ver) fun c => off < c.length ∧ nextV P (.tup []) tk dst os keep s E ((H ++ [Obj.cells 0 xs.flatten]).set id (.cells ver (c.set off (.hsl H.length 0 0 xs.length z)))) K := by
  have e : sStore 1 [.ptr id ver off, .fr z xs] H = (getCells H id ver).bind fun c => if off + 1 ≤ c.length then some (.tup [], (H ++ [Obj.cells 0 xs.flatten]).set id (.cells ver (put c off [.hsl H.length 0 0 xs.length z]))) else none := by
    simp [sStore, solid, scal0, V.cells, thawL]
  show (∃ r H', sStore 1 [.ptr id ver off, .fr z xs] H = some (r, H') ∧ _) = _
  rw [e]
  apply propext
  constructor
  · rintro ⟨r, H', h, k⟩
    obtain ⟨c, h1, h⟩ := Option.bind_eq_some_iff.1 h
    split at h
    · rename_i hl
      cases h
      rw [put_one (by omega)] at k
      exact ⟨c, h1, by omega, k⟩
    · cases h
  · rintro ⟨c, h1, hl, k⟩
    refine ⟨.tup [], _, ?_, k⟩
    rw [h1, Option.bind_some, if_pos (by omega), put_one hl]
attribute [go_sem] store_fr

theorem run_addW {k : IntKind} {a b : Int} : runInt P .add k a b tk dst os keep s E H K = runOps P os keep s ((stripEn tk E).setO dst (.int k (k.wrap (a + b)))) H K := by
  unfold runInt intW
  apply propext
  constructor
  · rintro ⟨z, rfl, h⟩; exact h
  · intro h; exact ⟨_, rfl, h⟩
theorem run_subW {k : IntKind} {a b : Int} : runInt P .sub k a b tk dst os keep s E H K = runOps P os keep s ((stripEn tk E).setO dst (.int k (k.wrap (a - b)))) H K := by
  unfold runInt intW
  apply propext
  constructor
  · rintro ⟨z, rfl, h⟩; exact h
  · intro h; exact ⟨_, rfl, h⟩
end
attribute [go_sem] List.all_cons List.all_nil Bool.and_self Nat.reduceLT Nat.reduceLeDiff List.set_cons_zero List.set_cons_succ

end Go.Proofs.Ytglemgdlkddjhaa.Vm
