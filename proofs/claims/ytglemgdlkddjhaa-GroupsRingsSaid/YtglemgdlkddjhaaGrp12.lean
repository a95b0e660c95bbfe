/-
The groups, part 12: the finder's methods: leave.
-/
import Derived.Test.YtglemgdlkddjhaaGrp11
namespace Go.Proofs.Ytglemgdlkddjhaa.Vm
open Go

def popS (s : FS) (p c : List Nat) : FS := { s with op := p, inn := fun x => s.inn x && !(c.contains x), grp := fun x => if c.contains x then s.mny else s.grp x }
theorem popS_inn (s : FS) (p c : List Nat) (x : Nat) (q : List Nat) : updN (popS s p c).inn x false = (popS s q (x :: c)).inn := by
  funext y
  show updN (fun y => s.inn y && !(c.contains y)) x false y = (s.inn y && !((x :: c).contains y))
  by_cases h : y = x
  · subst h; simp [updN_same]
  · rw [updN_other _ _ h]; simp [h]
theorem popS_grp (s : FS) (p c : List Nat) (x : Nat) (q : List Nat) : updN (popS s p c).grp x s.mny = (popS s q (x :: c)).grp := by
  funext y
  show updN (fun y => if c.contains y then s.mny else s.grp y) x s.mny y = (if (x :: c).contains y then s.mny else s.grp y)
  by_cases h : y = x
  · subst h; simp [updN_same]
  · rw [updN_other _ _ h]; simp [h]
theorem nV_at {p c : List Nat} {x : Nat} {rest : List V} : (nV (p ++ [x]) ++ (nV c ++ rest))[p.length * 1]? = some (.int .i64 x) := by
  rw [Nat.mul_one, List.getElem?_append_left (by rw [nV_len]; simp)]
  simp [nV]
theorem leaveN_T (fo : Obj) (n : Nat) (uV : V) (s : FS) (ver : Nat) (rest junk : List V) (k : Nat) (hk : k < n) (hlo : s.low k ≠ s.ord k) :
    T Try.prog 26 [.ptr 4 0 0, .int .i64 k] (HB n uV s ver rest junk [fo]) (.tup []) (HB n uV s ver rest junk [fo]) := by
  refine T.of mix c26 rfl ?_
  unfold v26 HB
  simp only [go_sem, ↓reduceIte, Int.toNat_natCast, cN_len, cB_len, cN_get hk, cB_get hk, Nat.mul_one]
  refine ⟨by omega, by omega, by omega, by omega, fun _ => trivial, fun h => absurd h ?_⟩
  simp; omega
theorem leaveY_T (fo : Obj) (n : Nat) (uV : V) (s : FS) (ver : Nat) (rest junk : List V) (k : Nat) (hk : k < n) (hlo : s.low k = s.ord k) {a b : List Nat} (hop : s.op = a ++ k :: b) (hb : k ∉ b) (hlt : ∀ x ∈ s.op, x < n)
    (hlen : s.op.length ≤ 2048) (hm : s.mny ≤ 2048) (hu : idsV 8 uV = true) (hj : idsL 8 junk = true) (hr : idsL 8 rest = true) (hf : idsO 8 fo = true) :
    T Try.prog 26 [.ptr 4 0 0, .int .i64 k] (HB n uV s ver rest junk [fo]) (.tup []) (HB n uV (closeS s a (k :: b)) ver (nV (k :: b) ++ rest) junk [fo]) := by
  refine T.of_h mix c26 8 rfl ?_
  have hw := inc64 (i := s.mny) (by omega)
  generalize hK : endX _ _ _ _ = K
  unfold v26 HB
  simp only [go_sem, ↓reduceIte, Int.toNat_natCast, cN_len, cB_len, cN_get hk, cB_get hk, Nat.mul_one]
  refine ⟨by omega, by omega, by omega, by omega, fun h => absurd h (by simp [hlo]), fun _ => ?_⟩
  refine WP.loop' (fun m E H => ∃ b1 c ex, b = b1 ++ c ∧ m = b1.length ∧ E = ⟨(0, .ptr 4 0 0) :: (1, .int .i64 k) :: ex, .u⟩ ∧ H = HB n uV (popS s (a ++ k :: b1) c) ver (nV c ++ rest) junk [fo]) (n := b.length)
    ⟨b, [], _, by simp, rfl, rfl, by simp [HB, popS, hop, nV]⟩ ?_
  rintro m E H ⟨b1, c, ex, hbc, rfl, rfl, rfl⟩
  obtain ⟨p, x, hpx⟩ : ∃ p x, a ++ k :: b1 = p ++ [x] := by
    refine ⟨(a ++ k :: b1).dropLast, (a ++ k :: b1).getLast (by simp), (List.dropLast_concat_getLast _).symm⟩
  have hxo : x ∈ s.op := by
    rw [hop, hbc, ← List.cons_append, ← List.append_assoc, hpx]; simp
  have hx := hlt x hxo
  have hpl : p.length + 1 ≤ 2048 := by
    have : s.op.length = (p ++ [x]).length + c.length := by rw [hop, hbc, ← List.cons_append, ← List.append_assoc, hpx, List.length_append]
    simp at this; omega
  have hw1 : IntKind.i64.wrap (((p.length + 1 : Nat) : Int) - 1) = ((p.length : Nat) : Int) := by rw [wrap64 (by omega) (by omega)]; omega
  unfold HB
  have hg := nV_at (p := p) (c := c) (x := x) (rest := rest)
  rw [Nat.mul_one] at hg
  have hop1 : (popS s (a ++ k :: b1) c).op = p ++ [x] := hpx
  simp only [go_sem, ↓reduceIte, Int.toNat_natCast, cN_len, cB_len, hop1, hg, ↓run_subW, ↓run_addW, hw1, Nat.mul_one, show (popS s (a ++ k :: b1) c).mny = s.mny from rfl, hw, cN_set, cB_set]
  refine ⟨by omega, by omega, ⟨by omega, by omega⟩, by omega, by omega, by omega, by omega, by omega, by omega, fun he => ?_, fun he => ?_⟩
  · have he : x = k := by simp at he; omega
    subst he
    have hb1 : b1 = [] := by
      rcases List.eq_nil_or_concat b1 with h | ⟨b2, y, h⟩
      · exact h
      · exfalso
        rw [h, List.concat_eq_append, ← List.cons_append, ← List.append_assoc] at hpx
        have := (List.append_inj' hpx rfl).2
        simp at this
        subst this
        apply hb
        rw [hbc, h]; simp
    subst hb1
    have hpa : p = a := (List.append_inj' hpx rfl).1.symm
    subst hpa
    have hbc : b = c := hbc
    subst hbc
    have e : ([Obj.cells 0 (cN n (popS s (p ++ [x]) b).ord), Obj.cells 0 (cN n (popS s (p ++ [x]) b).low), Obj.cells 0 (cB n (updN (popS s (p ++ [x]) b).inn x false)), Obj.cells 0 (cN n (updN (popS s (p ++ [x]) b).grp x s.mny)),
        Obj.cells 0 [uV, V.hsl 0 0 0 n 1, V.hsl 1 0 0 n 1, V.hsl 6 ver 0 p.length 1, V.hsl 2 0 0 n 1, V.hsl 3 0 0 n 1, V.int IntKind.i64 ↑(popS s (p ++ [x]) b).nx, V.int IntKind.i64 ↑(s.mny + 1)],
        Obj.cells 0 junk, Obj.cells ver (nV (p ++ [x]) ++ (nV b ++ rest)), fo] : Heap) = HB n uV (closeS s p (x :: b)) ver (nV (x :: b) ++ rest) junk [fo] := by
      rw [popS_inn s (p ++ [x]) b x p, popS_grp s (p ++ [x]) b x p]
      simp [HB, closeS, popS, nV]
    rw [e, ← hK]
    refine endX_of trivial (by simp [HB]) (by simp [HB]) ?_ (r0 := .tup []) rfl rfl ⟨rfl, ?_⟩
    · rw [show (HB n uV (closeS s p (x :: b)) ver (nV (x :: b) ++ rest) junk [fo]).take 8 = HB n uV (closeS s p (x :: b)) ver (nV (x :: b) ++ rest) junk [fo] from rfl]
      exact ids_HB (by omega) hu (by rw [ids_app, ids_nV, hr]; rfl) hj (by simp [allIds, hf])
    · rfl
  · have he : x ≠ k := by simp at he; omega
    obtain ⟨b2, h⟩ : ∃ b2, b1 = b2 ++ [x] := by
      rcases List.eq_nil_or_concat b1 with h | ⟨b2, y, h⟩
      · subst h
        have := (List.append_inj' hpx rfl).2
        simp at this
        exact absurd this.symm he
      · rw [List.concat_eq_append] at h
        rw [h, ← List.cons_append, ← List.append_assoc] at hpx
        have := (List.append_inj' hpx rfl).2
        simp at this
        subst this
        exact ⟨b2, h⟩
    subst h
    have hpa : p = a ++ k :: b2 := by
      rw [← List.cons_append, ← List.append_assoc] at hpx
      exact (List.append_inj' hpx rfl).1.symm
    subst hpa
    refine ⟨b2.length, by simp, b2, x :: c, _, by rw [hbc]; simp, rfl, rfl, ?_⟩
    rw [popS_inn s _ c x (a ++ k :: b2), popS_grp s _ c x (a ++ k :: b2)]
    simp [HB, popS, nV]
end Go.Proofs.Ytglemgdlkddjhaa.Vm
