/-
Closed terms: the program's of and Of.
The value machine, part 39: the machine as a program that can be run, with functions that are given.
strings.Builder: copyCheck.
strings.Builder: WriteString.
strings.Builder: String.
The functions that are given: strings.Builder's WriteString and String.
Terms: what must come of fixed calls.
Closed terms: the law of Of.
Programs as the language has them, part 2d: data types, programs, their cells.
Values as a law is handed them: structs and slices.
Readers of structs, as a law is handed them. By a program (mkrd.py).
-/
import Derived.Test.YtoaohapbbnpbeaaGreatT4
import Derived.Test.YtoaohapbbnpbeaaGreatT1
import Derived.Lib.Builder
import Derived.Laws.Externs
import Derived.WalkKit
import Derived.ProofKit
import Derived.Room.AppendStr
import Derived.Tactics2
import Derived.Shelf.Abstract
import Derived.Lib.UnsafeStr
import Derived.Shelf.RegionOpenPlain
import Derived.Test.YtoaohapbbnpbeaaGreatT3
import Derived.Test.YtoaohapbbnpbeaaGreatRows
set_option linter.unusedVariables false
set_option linter.unusedSimpArgs false
set_option linter.constructorNameAsVariable false
namespace Go.Proofs.YtoaohapbbnpbeaaGreat.Vm
open Go Lx
set_option linter.unusedSimpArgs false

theorem tmOf_P (n : Nat) : ∀ e : Ex, SizeOf.sizeOf e ≤ n → ExB e → exW e ≤ 1048576 → rEx e = true → Pu 25 [.agg (exC e)] (resT (ofT e)) := by
  induction n with
  | zero => rintro ⟨⟩ h; simp at h
  | succ n ih =>
    intro e hn hB hw hr
    refine ⟨?_, by simp only [idsL, idsV, exC_ids, Bool.and_self]⟩
    refine T.of0 mix c_term_of rfl ?_
    unfold v_term_of
    obtain ⟨k, s, m, ps, xs, al, bs, l, c⟩ := e
    simp only [go_sem, ↓reduceIte, callG_eq]
    simp only [exC_eq, go_sem, ↓reduceIte, callG_eq]
    refine ⟨fun h3 => ?_, fun h3 => ?_⟩
    · have h3 : k = 3 := by simpa using h3
      rw [ofT_eq, if_pos h3]; rfl
    · have h3 : ¬ k = 3 := by simpa using h3
      have hsp := spT_nil hr h3
      rw [← hsp]
      refine WP.loop' (fun q E F => ∃ (cur : Ex) (acc : List Tm) (L : Heap) (av : V) (ex : List (Nat × V)), SizeOf.sizeOf cur = q ∧ q ≤ n + 1 ∧ rEx cur = true ∧ ExB cur ∧ acc.length + exW cur ≤ 1048576 ∧ spT (ofT (.mk k s m ps xs al bs l c)) [] = spT (ofT cur) acc ∧
        F = [.cells 0 (exC cur), .cells 0 [.str [], .int .i64 0, .nilh 3]] ++ L ∧ E = ⟨(1, .ptr 0 0 0) :: (2, .ptr 1 0 0) :: (4, av) :: ex, .u⟩ ∧
        ((acc = [] ∧ av = .nilh 3) ∨ ∃ id ver, acc ≠ [] ∧ av = .hsl (id + 1 + 1) ver 0 acc.length 3 ∧ getCells L id ver = some (acc.map tmC).flatten))
        ⟨_, [], [], _, _, rfl, hn, hr, hB, by simpa using hw, rfl, by simp only [exC_eq, List.append_nil], rfl, .inl ⟨rfl, rfl⟩⟩ ?_
      clear hr hB hw hn h3
      generalize spT (ofT (.mk k s m ps xs al bs l c)) [] = O
      rintro q E F ⟨⟨k, s, m, ps, xs, al, bs, l, c⟩, acc, L, av, ex, rfl, hn, hr, hB, hw, hO, rfl, rfl, hav⟩
      simp only [Ex.mk.sizeOf_spec] at hn
      simp only [exC_eq, go_sem, ↓reduceIte, ↓ex_map, callG_eq]
      refine ⟨fun h4 => ?_, fun h4 => ⟨fun h2 => ?_, fun h2 => ?_⟩⟩
      · have h4 : k = 4 := by simpa using h4
        obtain ⟨f, x, rfl⟩ := two_of ((rEx_sub hr).2.1 h4)
        have hb : ExB f ∧ ExB x := by cases hB with | mk b1 b2 b3 b4 b5 b6 b7 => exact ⟨b5 f (by simp), b5 x (by simp)⟩
        have hrf := (rEx_sub hr).1 f (by simp)
        have hrx := (rEx_sub hr).1 x (by simp)
        have hwx := exW_app (k := k) (s := s) (n := m) (ps := ps) (f := f) (x := x) (al := al) (bs := bs) (l := l) (c := c)
        have h1 := exW_one x
        simp only [List.cons.sizeOf_spec] at hn
        have hX := ih x (by omega) hb.2 (by omega) hrx
        have hO2 : O = (match ofT x with | some a => spT (ofT f) (acc ++ [a]) | none => none) := by
          rw [hO, ofT_eq, if_neg (by omega), if_neg (by omega), if_neg (by omega)]; exact spT_join ..
        simp only [go_sem, ↓reduceIte, ↓ex_map, callG_eq, List.map_cons, List.map_nil]
        simp only [go_sem, ↓reduceIte, Int.toNat_one, List.getElem?_cons_succ, List.getElem?_cons_zero, Option.some.injEq, exists_eq_left', Nat.le_refl, true_and, show (0:Int) ≤ 1 from by decide, Int.reduceToNat]
        refine hX.call (by simp only [go_sem]) ?_
        clear hX hO
        unfold resT
        cases hx : ofT x with
        | none =>
          rw [hx] at hO2
          subst hO2
          simp only [go_sem, ↓reduceIte, ↓ex_map, callG_eq, Option.getD_none, Option.isSome_none, tmQ_eq, gc_app0, gc_appN, set_app0, set_appN]
          rfl
        | some a =>
          rw [hx] at hO2
          replace hO2 : O = spT (ofT f) (acc ++ [a]) := hO2
          obtain ⟨s2, n2, l2⟩ := a
          simp only [go_sem, ↓reduceIte, ↓ex_map, callG_eq, Option.getD_some, Option.isSome_some, tmQ_eq, gc_app0, gc_appN, set_app0, set_appN]
          rcases hav with ⟨rfl, rfl⟩ | ⟨id, ver, hne0, rfl, hg⟩
          · simp only [go_sem, ↓reduceIte, ↓ex_map, callG_eq, gc_app0, gc_appN, set_app0, set_appN]
            refine ⟨by simp [fits], Int.le_refl _, _, rfl, by simp only [go_sem, Nat.le_refl], ?_⟩
            simp only [go_sem, ↓reduceIte, ↓ex_map, callG_eq, gc_app0, gc_appN, set_app0, set_appN]
            refine ⟨SizeOf.sizeOf f, by rw [Ex.mk.sizeOf_spec]; simp only [List.cons.sizeOf_spec]; omega, f, [.mk s2 n2 l2], _, _, [], rfl, by omega, hrf, hb.1, by simp only [List.length_cons, List.length_nil] at hw ⊢; omega, hO2, rfl, rfl, .inr ⟨L.length + 1, 0, by simp, rfl, ?_⟩⟩
            rw [List.append_assoc, gc_appN, List.map_cons, tmC_eq]
            simp only [List.cons_append, go_sem]
          · have hlt := gc_lt hg
            have hfl : (acc.map tmC).flatten.length = acc.length * 3 := by rw [flat_len (sz := 3) (fun x hx => by obtain ⟨y, _, rfl⟩ := List.mem_map.1 hx; rw [tmC_len]), List.length_map]
            simp only [go_sem, ↓reduceIte, ↓ex_map, callG_eq, gc_app0, gc_appN, set_app0, set_appN, gc_app hlt, set_appL hlt, hg]
            refine ⟨by simp [fits]; omega, ?_, Int.le_refl _, _, rfl, by simp only [go_sem, Nat.le_refl], ?_⟩
            · rw [hfl]; exact Nat.le_refl _
            simp only [go_sem, ↓reduceIte, ↓ex_map, callG_eq, gc_app0, gc_appN, set_app0, set_appN]
            refine ⟨SizeOf.sizeOf f, by rw [Ex.mk.sizeOf_spec]; simp only [List.cons.sizeOf_spec]; omega, f, acc ++ [.mk s2 n2 l2], _, _, [], rfl, by omega, hrf, hb.1, by simp only [List.length_append, List.length_cons, List.length_nil] at hw ⊢; omega, hO2, rfl, rfl, .inr ⟨id, ver + 1, by simp, by simp, ?_⟩⟩
            rw [gc_app (by rw [List.length_set]; exact hlt), gc_same hlt, List.take_of_length_le (by rw [hfl]; exact Nat.le_refl _)]
            simp [tmC_eq]
      · have h2 : k = 2 := by simpa using h2
        rw [ofT_eq, if_neg (by omega), if_pos h2] at hO
        have hne := (rEx_sub hr).2.2 h2
        have hO2 : O = some (.mk s 0 acc.reverse) := by
          rw [hO]; cases s with
          | nil => exact absurd rfl hne
          | cons a r => rfl
        clear hO
        subst hO2
        have hln : acc.length ≤ 1048576 := by omega
        have hw0 : IntKind.i64.wrap ((acc.length : Int) - 1) = (acc.length : Int) - 1 := wrap64 (by omega) (by omega)
        rcases hav with ⟨rfl, rfl⟩ | ⟨id, ver, hne0, rfl, hg⟩
        · have hw1 : IntKind.i64.wrap (0 - 1) = -1 := by decide
          simp only [go_sem, ↓reduceIte, ↓ex_map, ↓run_subW, hw1]
          refine WP.range (n := 0) (fun i E F => i = 0 ∧ F = .cells 0 [.int .i64 k, .str s, .int .i64 m, .sl false 1 (ps.map stC), .sl false 9 (xs.map exC), .sl false 7 (al.map alC), .sl false 4 (bs.map biC), .int .i64 l, .int .i64 c] :: .cells 0 [.str [], .int .i64 0, .nilh 3] :: L ∧
            E = ⟨[(1, .ptr 0 0 0), (2, .ptr 1 0 0), (4, .nilh 3), (7, .int .i64 0), (8, .int .i64 (-1))], .u⟩) ⟨rfl, rfl, rfl⟩ ?_
          rintro i E F _ ⟨rfl, rfl, rfl⟩
          simp only [go_sem, ↓reduceIte, ↓ex_map]
          refine ⟨fun h => absurd h (by decide), fun _ => rfl⟩
        · simp only [go_sem, ↓reduceIte, ↓ex_map, ↓run_subW, hw0]
          refine WP.range (n := acc.length) (fun i E F => ∃ (cur : List Tm) (L : Heap), cur.length = acc.length ∧ (∀ j, j < acc.length → cur[j]? = if j < i ∨ acc.length ≤ j + i then acc[acc.length - 1 - j]? else acc[j]?) ∧ getCells L id ver = some (cur.map tmC).flatten ∧
            F = .cells 0 [.int .i64 k, .str s, .int .i64 m, .sl false 1 (ps.map stC), .sl false 9 (xs.map exC), .sl false 7 (al.map alC), .sl false 4 (bs.map biC), .int .i64 l, .int .i64 c] :: .cells 0 [.str [], .int .i64 0, .nilh 3] :: L ∧
            ∃ ex, E = ⟨(1, .ptr 0 0 0) :: (2, .ptr 1 0 0) :: (4, .hsl (id + 1 + 1) ver 0 acc.length 3) :: (7, .int .i64 i) :: (8, .int .i64 ((acc.length : Int) - 1 - i)) :: ex, .u⟩)
            ⟨acc, L, rfl, fun j hj => by rw [if_neg (by omega)], hg, rfl, [], by simp⟩ ?_
          clear hg
          rintro i E F hi ⟨cur, L, hcl, hcur, hg, rfl, ex, rfl⟩
          have hlt := gc_lt hg
          have hw := inc64 (i := i) (by omega)
          have hw2 : IntKind.i64.wrap ((acc.length : Int) - 1 - i - 1) = (acc.length : Int) - 1 - (i + 1 : Nat) := by rw [wrap64 (by omega) (by omega)]; omega
          have hz : ∀ x ∈ cur.map tmC, x.length = 3 := fun x hx => by obtain ⟨y, _, rfl⟩ := List.mem_map.1 hx; rw [tmC_len]
          have hfl : (cur.map tmC).flatten.length = acc.length * 3 := by rw [flat_len hz, List.length_map, hcl]
          simp only [go_sem, ↓reduceIte, ↓ex_map, ↓run_subW, ↓run_addW, hw, hw2]
          refine ⟨fun hik => ?_, fun hik => ?_⟩
          · obtain ⟨kk, hkk⟩ : ∃ kk : Nat, (acc.length : Int) - 1 - i = kk := ⟨acc.length - 1 - i, by omega⟩
            rw [hkk] at hik
            obtain ⟨x, hx, _⟩ := getL (show i < cur.length by omega)
            obtain ⟨y, hy, _⟩ := getL (show kk < cur.length by omega)
            have px := flat_part hz (map_get (f := tmC) hx)
            have py := flat_part hz (map_get (f := tmC) hy)
            have hz2 : ∀ x ∈ (cur.set i y).map tmC, x.length = 3 := fun x hx => by obtain ⟨y, _, rfl⟩ := List.mem_map.1 hx; rw [tmC_len]
            have hp1 : List.take (i * 3) (cur.map tmC).flatten ++ tmC y ++ List.drop (i * 3 + 3) (cur.map tmC).flatten = ((cur.set i y).map tmC).flatten := by
              have := put_flat (ys := tmC y) tmC_len hz (i := i) (by rw [List.length_map]; omega)
              rw [List.map_set, ← this]; unfold put; rw [tmC_len]
            have hp2 : List.take (kk * 3) ((cur.set i y).map tmC).flatten ++ tmC x ++ List.drop (kk * 3 + 3) ((cur.set i y).map tmC).flatten = (((cur.set i y).set kk x).map tmC).flatten := by
              have := put_flat (ys := tmC x) tmC_len hz2 (i := kk) (by rw [List.length_map, List.length_set]; omega)
              rw [List.map_set (l := cur.set i y), ← this]; unfold put; rw [tmC_len]
            have hw3 : IntKind.i64.wrap ((kk : Int) - 1) = (acc.length : Int) - 1 - (i + 1 : Nat) := by rw [wrap64 (by omega) (by omega)]; omega
            have hfl2 : ((cur.set i y).map tmC).flatten.length = acc.length * 3 := by rw [flat_len hz2, List.length_map, List.length_set, hcl]
            simp only [hkk, go_sem, ↓reduceIte, ↓ex_map, ↓run_subW, ↓run_addW, hw, hw3, Int.toNat_natCast, hg, px, py, Nat.zero_add, hp1, gc_same hlt, hp2, List.set_set]
            refine ⟨by omega, by omega, by omega, by omega, by omega, by omega, by omega, by omega, by omega, _, _, ?_, ?_, gc_same hlt, rfl, _, rfl⟩
            · rw [List.length_set, List.length_set, hcl]
            · intro j hj
              have e1 := hcur i (by omega)
              have e2 := hcur kk (by omega)
              rw [if_neg (by omega), hx] at e1
              rw [if_neg (by omega), hy] at e2
              by_cases hjk : j = kk
              · subst hjk
                rw [List.getElem?_set_self (by rw [List.length_set]; omega), if_pos (by omega), e1]
                congr 1; omega
              · rw [List.getElem?_set_ne (fun e => hjk e.symm)]
                by_cases hji : j = i
                · subst hji
                  rw [List.getElem?_set_self (by omega), if_pos (by omega), e2]
                  congr 1; omega
                · rw [List.getElem?_set_ne (fun e => hji e.symm), hcur j hj]
                  by_cases hc : j < i ∨ acc.length ≤ j + i
                  · rw [if_pos hc, if_pos (by omega)]
                  · rw [if_neg hc, if_neg (by omega)]
          · have hrev : cur = acc.reverse := by
              refine List.ext_getElem? fun j => ?_
              by_cases hj : j < acc.length
              · rw [hcur j hj, List.getElem?_reverse hj]
                split
                · rfl
                · congr 1; omega
              · rw [List.getElem?_eq_none (by omega), List.getElem?_eq_none (by simp; omega)]
            subst hrev
            refine fin_terms (xs := acc.reverse) (by simp only [go_sem, hg]) rfl (by simp) (by simpa using hne0) rfl
      · have h4 : ¬ k = 4 := by simpa using h4
        have h2 : ¬ k = 2 := by simpa using h2
        have hO2 : O = none := by
          rw [hO, ofT_eq, if_neg h2, if_pos h4]
          split <;> rfl
        subst hO2; rfl
end Go.Proofs.YtoaohapbbnpbeaaGreat.Vm
namespace Go.Proofs.YtoaohapbbnpbeaaGreat.Vm
open Go

def execM (nat : CallF) (tab : List Entry) : Nat → VCode → En → Heap → Option (X × En × Heap)
  | 0, _, _, _ => none
  | n + 1, vc, E, H => match vc with
    | .skip => some (.normal, E, H)
    | .label => some (.normal, E, H)
    | .exit id => some (.exit id, E, H)
    | .ret => some (.ret, E, H)
    | .region ops keep => (match opsN (fun f av H => match find tab f with
        | some e => if av.length ≤ e.vf.n then (match execM nat tab n e.vf.body ⟨av.zipIdx.map fun p => (p.2, p.1), .tup []⟩ H with
          | some (.exit _, _, _) => none
          | some (_, E1, H1) => finishN e E1 H H1
          | none => none) else none
        | none => nat f av H) ops E H with
      | some (E1, H1) => some (.normal, E1.keep keep, H1)
      | none => none)
    | .regionD ts ops prs keep => (match opsN (fun f av H => match find tab f with
        | some e => if av.length ≤ e.vf.n then (match execM nat tab n e.vf.body ⟨av.zipIdx.map fun p => (p.2, p.1), .tup []⟩ H with
          | some (.exit _, _, _) => none
          | some (_, E1, H1) => finishN e E1 H H1
          | none => none) else none
        | none => nat f av H) (resOp ts :: (ops ++ prs.map apOp)) E H with
      | some (E1, H1) => some (.normal, E1.keep keep, H1)
      | none => none)
    | .seq a b => (match execM nat tab n a E H with
      | some (.normal, E1, H1) => execM nat tab n b E1 H1
      | r => r)
    | .cond c a b => (match evalA E.f [] c with
      | .bool true => execM nat tab n a E H
      | .bool false => execM nat tab n b E H
      | _ => none)
    | .block id a => (match execM nat tab n a E H with
      | some (x, E1, H1) => some (unblock id x, E1, H1)
      | none => none)
    | .loop a => (match execM nat tab n a E H with
      | some (.normal, E1, H1) => execM nat tab n (.loop a) E1 H1
      | r => r)
    | .scope a => execM nat tab n a E H

def callM (nat : CallF) (tab : List Entry) (n : Nat) : CallF := fun f av H => match find tab f with
  | some e => if av.length ≤ e.vf.n then (match execM nat tab n e.vf.body ⟨av.zipIdx.map fun p => (p.2, p.1), .tup []⟩ H with
    | some (.exit _, _, _) => none
    | some (_, E1, H1) => finishN e E1 H H1
    | none => none) else none
  | none => nat f av H

section
variable {P : Program} {tab : List Entry} {nat : CallF}
theorem execM_sound (hmix : P.follows .mixedOrders = true) (htab : tabOk P tab) (hnat : ∀ f av H r H', nat f av H = some (r, H') → T P f av H r H') : ∀ (n : Nat) {vc : VCode} {E : En} {H : Heap} {x : X} {E1 : En} {H1 : Heap}, execM nat tab n vc E H = some (x, E1, H1) → VExec P vc E.f H x E1.f H1
  | 0, _, _, _, _, _, _, h => by cases h
  | n + 1, vc, E, H, x, E1, H1, h => by
    have ih := @execM_sound hmix htab hnat n
    cases vc with
    | skip => simp only [execM, Option.some.injEq, Prod.mk.injEq] at h; obtain ⟨rfl, rfl, rfl⟩ := h; exact .skip
    | label => simp only [execM, Option.some.injEq, Prod.mk.injEq] at h; obtain ⟨rfl, rfl, rfl⟩ := h; exact .label
    | exit id => simp only [execM, Option.some.injEq, Prod.mk.injEq] at h; obtain ⟨rfl, rfl, rfl⟩ := h; exact .exit id
    | ret => simp only [execM, Option.some.injEq, Prod.mk.injEq] at h; obtain ⟨rfl, rfl, rfl⟩ := h; exact .ret
    | scope a => simp only [execM] at h; exact .scope (ih h)
    | region ops keep =>
      simp only [execM] at h
      split at h
      · rename_i E2 H2 ho
        simp only [Option.some.injEq, Prod.mk.injEq] at h; obtain ⟨rfl, rfl, rfl⟩ := h
        rw [En.keep_f]
        refine .region (opsN_sound ?_ ho)
        intro f av H r H' hc
        split at hc
        · rename_i e he
          obtain ⟨he1, rfl⟩ := find_mem he
          split at hc
          · rename_i hl
            split at hc
            · cases hc
            · rename_i x E1 H1 hnx hx
              have := ih hx
              rw [env0_eq] at this
              exact finishN_sound hmix (htab e he1) hl this (fun id e => hnx id e) hc
            · cases hc
          · cases hc
        · exact hnat _ _ _ _ _ hc
      · cases h
    | regionD ts ops prs keep =>
      simp only [execM] at h
      split at h
      · rename_i E2 H2 ho
        simp only [Option.some.injEq, Prod.mk.injEq] at h; obtain ⟨rfl, rfl, rfl⟩ := h
        rw [En.keep_f]
        refine .regionD (opsN_sound ?_ ho)
        intro f av H r H' hc
        split at hc
        · rename_i e he
          obtain ⟨he1, rfl⟩ := find_mem he
          split at hc
          · rename_i hl
            split at hc
            · cases hc
            · rename_i x E1 H1 hnx hx
              have := ih hx
              rw [env0_eq] at this
              exact finishN_sound hmix (htab e he1) hl this (fun id e => hnx id e) hc
            · cases hc
          · cases hc
        · exact hnat _ _ _ _ _ hc
      · cases h
    | seq a b =>
      simp only [execM] at h
      split at h
      · rename_i E2 H2 h2
        exact .seq (ih h2) (ih h)
      · rename_i hn
        refine .seqX (ih h) ?_
        intro e; subst e; exact hn _ _ h
    | cond c a b =>
      simp only [execM] at h
      split at h
      · rename_i hc; exact .cond (y := true) hc (ih h)
      · rename_i hc; exact .cond (y := false) hc (ih h)
      · cases h
    | block id a =>
      simp only [execM] at h
      split at h
      · rename_i h2
        simp only [Option.some.injEq, Prod.mk.injEq] at h; obtain ⟨rfl, rfl, rfl⟩ := h
        exact .block (ih h2)
      · cases h
    | loop a =>
      simp only [execM] at h
      split at h
      · rename_i E2 H2 h2
        exact .loop (ih h2) (ih h)
      · rename_i hn
        refine .loopX (ih h) ?_
        intro e; subst e; exact hn _ _ h

/-- What the machine answers when it is run, the function answers. -/
theorem callM_sound (hmix : P.follows .mixedOrders = true) (htab : tabOk P tab) (hnat : ∀ f av H r H', nat f av H = some (r, H') → T P f av H r H') (n : Nat) {f : Nat} {av : List V} {H : Heap} {r : V} {H' : Heap} (h : callM nat tab n f av H = some (r, H')) : T P f av H r H' := by
  unfold callM at h
  split at h
  · rename_i e he
    obtain ⟨he1, rfl⟩ := find_mem he
    split at h
    · rename_i hl
      split at h
      · cases h
      · rename_i x E1 H1 hnx hx
        have := execM_sound hmix htab hnat n hx
        rw [env0_eq] at this
        exact finishN_sound hmix (htab e he1) hl this (fun id e => hnx id e) h
      · cases h
    · cases h
  · exact hnat _ _ _ _ _ h
end
end Go.Proofs.YtoaohapbbnpbeaaGreat.Vm
namespace Go.Proofs.YtoaohapbbnpbeaaGreat.Vm
open Go

set_option maxRecDepth 100000 in
theorem copy_fresh (b : Nat) (w : World) (v : Value) (h0 : w.heap[b]? = some (.cells #[.pointer none, v] 109 (0, 0))) :
    Calls Tryz.prog 196 #[.pointer (some ⟨b, 0, none⟩)] w fun e w' => e = .returned (.tuple #[]) ∧ w' = w.setCell ⟨b, 0, none⟩ (.pointer (some ⟨b, 0, none⟩)) := by
  have c0 : w.cell? ⟨b, 0, none⟩ = some (.pointer none) := by rw [Lib.cell_of_heap h0]; rfl
  have hsh : w.shape? b = some (109, 2) := by simp [World.shape?, h0]
  have hfz : w.frozen? ⟨b, 0, none⟩ = false := Lib.frozen_of_heap h0 0
  go_enter Tryz.func196, Tryz.ntmps196
  go_wp2
  rw [Lib.run_to_unsafe (t := 107) (j := (Tryz.prog.info? 107).get!) w ⟨b, 0, none⟩ (by kernel_rfl) (by kernel_rfl) (by kernel_rfl) (by decide +kernel) hsh (Nat.zero_lt_succ 1)]
  simp only [Result.andThen]
  rw [Oper.upon_value]
  go_wp2
  rw [run_callFunc_extern Tryz.func221 (by kernel_rfl) (by kernel_rfl) (by kernel_rfl) (e := Extern.AbiNoEscape.same) (by kernel_rfl)]
  rw [Lib.run_noEscape]
  simp only [Result.andThen]
  rw [Oper.upon_value]
  go_wp2
  rw [Lib.run_from_unsafe (u := 107) (j := (Tryz.prog.info? 107).get!) w ⟨b, 0, none⟩ (by kernel_rfl) (by kernel_rfl) (by kernel_rfl) hsh (by kernel_rfl)]
  simp only [Result.andThen]
  rw [Oper.upon_value]
  go_wp2
  go_end0
  exact ⟨rfl, rfl⟩
set_option maxRecDepth 100000 in
theorem copy_used (b : Nat) (w : World) (v : Value) (h0 : w.heap[b]? = some (.cells #[.pointer (some ⟨b, 0, none⟩), v] 109 (0, 0))) :
    Calls Tryz.prog 196 #[.pointer (some ⟨b, 0, none⟩)] w fun e w' => e = .returned (.tuple #[]) ∧ w' = w := by
  have c0 : w.cell? ⟨b, 0, none⟩ = some (.pointer (some ⟨b, 0, none⟩)) := by rw [Lib.cell_of_heap h0]; rfl
  go_enter Tryz.func196, Tryz.ntmps196
  go_wp2
  rw [Lib.run_neq_ptr_same (te := 107) (j := (Tryz.prog.info? 107).get!) w _ (by kernel_rfl) (by kernel_rfl)]
  go_wp2
  go_end0
  exact ⟨rfl, rfl⟩
/-- A builder that has turned, and nothing else. -/
theorem bld_post {w : World} {G : Gh} {own : Nat → Option Place} {H : Heap} (hok : Ok w G own H) {id : Nat} {t e : Nat} {fz : Bool} {bs : List UInt8} (ho : H[id]? = some (.bld t e fz bs)) {b : Nat} (hown : own b = some (.obj id)) (himm : ∀ o, G.imm b o = none)
    {w' : World} (hsz : w.heap.size ≤ w'.heap.size) (ht : w'.tape = w.tape) (hos : w'.os = w.os) (hout : w'.output = w.output)
    (S : Nat → Prop) (hS : ∀ k, S k → own k = some (.cell id) ∧ ∀ o, G.imm k o = none) (hfr : ∀ k, k < w.heap.size → k ≠ b → ¬ S k → w'.heap[k]? = w.heap[k]?)
    {own' : Nat → Option Place} (ho1 : ∀ k, k < w.heap.size → own' k = own k) (ho2 : ∀ k p, own' k = some p → k < w'.heap.size) (ho3 : ∀ k, w.heap.size ≤ k → own' k = none ∨ own' k = some (.cell id))
    {ob' : Obj} (hob : ObjOk w' G own' id ob') {r : V} {c : Value} (hr : RepL w' G [r] [c] []) : Post w G own r (H.set id ob') c w' := by
  have hlt : id < H.length := (List.getElem?_eq_some_iff.1 ho).1
  have hkeep : ∀ k, (∃ i, i ≠ id ∧ (own k = some (.obj i) ∨ own k = some (.cell i))) ∨ own k = some .frame ∨ (∃ o v, G.imm k o = some v) → k < w.heap.size → w'.heap[k]? = w.heap[k]? := by
    intro k hk hlt
    refine hfr k hlt ?_ ?_
    · rintro rfl
      rcases hk with ⟨i, hi, h | h⟩ | h | ⟨o, v, h⟩
      · rw [hown] at h; cases h; exact hi rfl
      · rw [hown] at h; cases h
      · rw [hown] at h; cases h
      · rw [himm] at h; cases h
    · intro hs
      obtain ⟨h1, h2⟩ := hS k hs
      rcases hk with ⟨i, hi, h | h⟩ | h | ⟨o, v, h⟩
      · rw [h1] at h; cases h
      · rw [h1] at h; cases h; exact hi rfl
      · rw [h1] at h; cases h
      · rw [h2] at h; cases h
  refine ⟨G, own', [], ⟨fun b2 o v h => ?_, ho2, by rw [List.length_set]; exact hok.len, fun i ob hi => ?_⟩, hr, List.nodup_nil, (fun _ h => by cases h), ⟨hsz, fun _ _ _ h => h, loc_refl G, fun k hk => ?_, ht, hos, hout⟩⟩
  · obtain ⟨c, e, f, h1, h2⟩ := hok.imm b2 o v h
    have hl : b2 < w.heap.size := by
      rcases Nat.lt_or_ge b2 w.heap.size with h' | h'
      · exact h'
      · rw [Array.getElem?_eq_none h'] at h1; cases h1
    exact ⟨c, e, f, by rw [hkeep b2 (.inr (.inr ⟨o, v, h⟩)) hl]; exact h1, h2⟩
  · rw [List.getElem?_set] at hi
    by_cases h : id = i
    · subst h
      rw [if_pos rfl, if_pos hlt] at hi
      cases hi
      exact hob
    · rw [if_neg h] at hi
      refine (hok.obj i ob hi).mono (fun _ _ _ h => h) (loc_refl G) rfl fun b2 hb2 => ?_
      have hl : b2 < w.heap.size := by rcases hb2 with hb2 | hb2 <;> exact hok.size b2 _ hb2
      exact ⟨hkeep b2 (.inl ⟨i, fun e => h e.symm, hb2⟩) hl, fun _ => rfl, ho1 b2 hl⟩
  · have hl := hok.size k _ hk
    exact ⟨hkeep k (.inr (.inl hk)) hl, fun _ => rfl, by rw [ho1 k hl]; exact hk⟩
theorem bld_ptr {w : World} {G : Gh} {own : Nat → Option Place} {H : Heap} (hok : Ok w G own H) {id : Nat} {t e : Nat} {fz : Bool} {bs : List UInt8} (ho : H[id]? = some (.bld t e fz bs)) {vs : List V} {cs : List Value} {bl : List Nat} (hr : RepL w G (.ptr id 0 0 :: vs) cs bl) :
    ∃ b p v cs', cs = .pointer (some ⟨b, 0, none⟩) :: cs' ∧ RepL w G vs cs' bl ∧ G.loc[id]? = some (b, 0, 2) ∧ own b = some (.obj id) ∧ w.heap[b]? = some (.cells #[p, v] t (0, 0)) ∧ (∀ o, G.imm b o = none) ∧ (p = .pointer none ∨ p = .pointer (some ⟨b, 0, none⟩)) ∧
      ((bs = [] ∧ v = .slice none 0 0) ∨ ∃ g cap cur fr, v = .slice (some ⟨g, 0, none⟩) bs.length cap ∧ own g = some (.cell id) ∧ w.heap[g]? = some (.cells cur e fr) ∧ (fz = false → fr = (0, 0)) ∧ (∀ o, G.imm g o = none) ∧
        bs.length ≤ cap ∧ cur.size = cap ∧ cur.toList.take bs.length = bs.map (fun x => .int .u8 x.toNat) ∧ bs ≠ []) := by
  obtain ⟨b, p, v, h1, h2, h3, h4, h5, h6⟩ := hok.obj id _ ho
  obtain ⟨b', ver', n', bb, cs', rfl, hl, hv, hb, hr2⟩ := hr.ptr_inv
  rw [h1] at hl
  cases hl
  obtain rfl := hb rfl
  exact ⟨bb, p, v, cs', rfl, hr2, h1, h2, h3, h4, h5, h6⟩
theorem copyCheck_T {H : Heap} {id : Nat} {bs : List UInt8} (ho : H[id]? = some (.bld 109 5 false bs)) : T Tryz.prog 196 [.ptr id 0 0] H (.tup []) H := by
  refine ⟨⟨_, Tryz.func196, by kernel_rfl, by kernel_rfl⟩, fun w G own cs bl hok hr hn ha => ?_⟩
  obtain ⟨b, p, v, cs', hcs, hr2, h1, h2, h3, h4, h5, h6⟩ := bld_ptr hok ho hr
  obtain ⟨rfl, rfl⟩ := hr2.nil_inv
  obtain rfl : cs = #[.pointer (some ⟨b, 0, none⟩)] := by cases cs; simp at hcs; rw [hcs]
  have hself : H.set id (.bld 109 5 false bs) = H := by
    apply List.ext_getElem?
    intro j
    rw [List.getElem?_set]
    split
    · rename_i e; subst e; rw [if_pos (List.getElem?_eq_some_iff.1 ho).1, ho]
    · rfl
  have hrep : ∀ w' : World, RepL w' G [.tup []] [.tuple #[]] [] := fun w' => by simpa using RepL.tup (w := w') (G := G) (ws := []) (acs := []) .nil .nil
  rcases h5 with rfl | rfl
  · refine (copy_fresh b w v h3).mono ?_
    rintro e w' ⟨rfl, rfl⟩
    refine ⟨_, rfl, ?_⟩
    rw [← hself]
    have hsame : (w.setCell ⟨b, 0, none⟩ (.pointer (some ⟨b, 0, none⟩))).heap[b]? = some (.cells #[.pointer (some ⟨b, 0, none⟩), v] 109 (0, 0)) := by simp [World.setCell, Array.getElem?_modify, h3]
    have hoth : ∀ k, k ≠ b → (w.setCell ⟨b, 0, none⟩ (.pointer (some ⟨b, 0, none⟩))).heap[k]? = w.heap[k]? := fun k hk => RowKit.Below.heap_setCell _ _ _ _ hk
    have hsz : (w.setCell ⟨b, 0, none⟩ (.pointer (some ⟨b, 0, none⟩))).heap.size = w.heap.size := by simp [World.setCell]
    refine bld_post (w' := w.setCell ⟨b, 0, none⟩ (.pointer (some ⟨b, 0, none⟩))) hok ho h2 h4 (by rw [hsz]; exact Nat.le_refl _) rfl rfl rfl (fun _ => False) (fun _ h => h.elim) (fun k _ hk _ => hoth k hk) (own' := own) (fun _ _ => rfl) (fun k p hp => by rw [hsz]; exact hok.size k p hp) (fun k hk => ?_) ?_ (hrep _)
    · cases hk2 : own k with
      | none => exact .inl rfl
      | some p => exact absurd (hok.size k p hk2) (by omega)
    · refine ⟨b, _, v, h1, h2, hsame, h4, .inr rfl, ?_⟩
      rcases h6 with h6 | ⟨g, cap, cur, fr, q1, q2, q3, q4, q5, q6⟩
      · exact .inl h6
      · exact .inr ⟨g, cap, cur, fr, q1, q2, by rw [hoth g (by rintro rfl; rw [h2] at q2; cases q2)]; exact q3, q4, q5, q6⟩
  · refine (copy_used b w v h3).mono ?_
    rintro e w' ⟨rfl, rfl⟩
    refine ⟨_, rfl, ?_⟩
    exact ⟨G, own, [], hok, hrep _, List.nodup_nil, (fun _ h => by cases h), Ext.refl ..⟩
end Go.Proofs.YtoaohapbbnpbeaaGreat.Vm
namespace Go.Proofs.YtoaohapbbnpbeaaGreat.Vm
open Go

theorem wpList_append_run {P : Program} {w : World} {ops : Array Oper} {rest : List Oper} {o : Oper} {a : Go.Act} {Q : Exit → Go.Act → World → Prop} (hgd : o.guard = none) (sl x : Operand) (t u : TypeId)
    (ho : o.op = .call { callee := .builtin .append, args := #[sl, x], argTypes := #[t, u] }) (v vx : Value) (hs : a.eval sl = v) (hx : a.eval x = vx) {v' : Value} {w' : World} (hr : (Builtin.append_ #[t, u] o.type #[v, vx]).run P w = .ok v' w')
    (h : wpList P ops Q rest (a.put o.dst v') w') : wpList P ops Q (o :: rest) a w := by
  refine wpList_plain hgd fun K hK => ?_
  unfold Oper.wp Go.execOp
  simp only [ho, Go.resolve, Go.invoke, Go.builtin, Sem.run_bind, Sem.run_pure, Result.andThen_ok, List.map_toArray, List.map_cons, List.map_nil, hs, hx, hr]
  exact hK _ _ h
set_option maxRecDepth 100000 in
theorem write_calls (b : Nat) (w : World) (p v : Value) (h0 : w.heap[b]? = some (.cells #[p, v] 109 (0, 0))) (hp : p = .pointer none ∨ p = .pointer (some ⟨b, 0, none⟩)) (s : ByteArray) (Q : Value → World → Prop)
    (happ : ∀ w1 : World, w1.heap[b]? = some (.cells #[.pointer (some ⟨b, 0, none⟩), v] 109 (0, 0)) → (∀ k, k ≠ b → w1.heap[k]? = w.heap[k]?) → w1.heap.size = w.heap.size → w1.tape = w.tape → w1.os = w.os → w1.output = w.output →
      ∃ ao nn cc w2, (Builtin.append_ #[105, 9] 105 #[v, .string s]).run Tryz.prog w1 = .ok (.slice ao nn cc) w2 ∧ w2.heap[b]? = w1.heap[b]? ∧ Q (.slice ao nn cc) (w2.setCell ⟨b, 1, none⟩ (.slice ao nn cc))) :
    Calls Tryz.prog 143 #[.pointer (some ⟨b, 0, none⟩), .string s] w fun e w' => e = .returned (.tuple #[.int .i64 s.size, .nilIface]) ∧ ∃ v', Q v' w' := by
  have e240 : ∀ args w, (callFunc 196 args).run Tryz.prog w = .ok (.enter 196 args) w := enters_of Tryz.func196 (by kernel_rfl) rfl
  go_enter Tryz.func143, Tryz.ntmps143
  have hC : Calls Tryz.prog 196 #[.pointer (some ⟨b, 0, none⟩)] w fun e w1 => e = .returned (.tuple #[]) ∧ (w1.heap[b]? = some (.cells #[.pointer (some ⟨b, 0, none⟩), v] 109 (0, 0)) ∧ (∀ k, k ≠ b → w1.heap[k]? = w.heap[k]?) ∧ w1.heap.size = w.heap.size ∧ w1.tape = w.tape ∧ w1.os = w.os ∧ w1.output = w.output) := by
    rcases hp with rfl | rfl
    · refine (copy_fresh b w v h0).mono ?_
      rintro e w' ⟨rfl, rfl⟩
      exact ⟨rfl, by simp [World.setCell, Array.getElem?_modify, h0], fun k hk => RowKit.Below.heap_setCell _ _ _ _ hk, by simp [World.setCell], rfl, rfl, rfl⟩
    · refine (copy_used b w v h0).mono ?_
      rintro e w' ⟨rfl, rfl⟩
      exact ⟨rfl, h0, fun _ _ => rfl, rfl, rfl, rfl, rfl⟩
  go_wp2_with (go_at_fn 196; refine hC.mono ?_)
  rintro e w1 ⟨rfl, k1, k2, k3, k4, k5, k6⟩
  obtain ⟨ao, nn, cc, w2, hrun, hb2, hQ⟩ := happ w1 k1 k2 k3 k4 k5 k6
  have c1 : w1.cell? ⟨b, 1, none⟩ = some v := by rw [Lib.cell_of_heap k1]; rfl
  have c0 : w2.cell? ⟨b, 1, none⟩ = some v := by rw [Lib.cell_of_heap (hb2.trans k1)]; rfl
  have f1 : w2.frozen? ⟨b, 1, none⟩ = false := Lib.frozen_of_heap (hb2.trans k1) 1
  go_wp2_with (at_builtin; refine wpList_append_run rfl _ _ 105 9 rfl v (.string s) rfl rfl hrun ?_)
  try go_wp2
  go_ret2
  exact ⟨rfl, _, hQ⟩
def byteV (bs : List UInt8) : List Value := bs.map fun x => .int .u8 x.toNat
theorem byteV_app (a b : List UInt8) : byteV (a ++ b) = byteV a ++ byteV b := List.map_append ..
theorem byteCells_V (s : ByteArray) : byteCells s = byteV s.data.toList := rfl
theorem info5 : ∃ i z, Tryz.prog.info? 5 = some i ∧ i.zero = some z ∧ i.size = 1 ∧ i.bytes = 1 ∧ z = .int .u8 0 := ⟨(Tryz.prog.info? 5).get!, .int .u8 0, by kernel_rfl, by kernel_rfl, by kernel_rfl, by kernel_rfl, rfl⟩
/-- What a text that is appended to a builder's row comes to. -/
theorem append_bld {w : World} {bs : List UInt8} {v : Value} (h : (bs = [] ∧ v = .slice none 0 0) ∨ ∃ g cap cur, v = .slice (some ⟨g, 0, none⟩) bs.length cap ∧ w.heap[g]? = some (.cells cur 5 (0, 0)) ∧ bs.length ≤ cap ∧ cur.size = cap ∧ cur.toList.take bs.length = byteV bs ∧ bs ≠ [])
    (s : ByteArray) (hfit : bs.length + s.size ≤ 140737488355328) :
    ∃ v' w2, (Builtin.append_ #[105, 9] 105 #[v, .string s]).run Tryz.prog w = .ok v' w2 ∧ w2.tape = w.tape ∧ w2.os = w.os ∧ w2.output = w.output ∧
      ((bs ++ s.data.toList = [] ∧ v' = .slice none 0 0 ∧ w2.heap = w.heap) ∨ ∃ g cap cur, v' = .slice (some ⟨g, 0, none⟩) (bs ++ s.data.toList).length cap ∧ w2.heap[g]? = some (.cells cur 5 (0, 0)) ∧ (bs ++ s.data.toList).length ≤ cap ∧ cur.size = cap ∧
        cur.toList.take (bs ++ s.data.toList).length = byteV (bs ++ s.data.toList) ∧ bs ++ s.data.toList ≠ [] ∧ w.heap.size ≤ w2.heap.size ∧ ((∃ cap0, v = .slice (some ⟨g, 0, none⟩) bs.length cap0) ∧ w2.heap.size = w.heap.size ∨ g = w.heap.size ∧ w2.heap.size = w.heap.size + 1) ∧ ∀ k, k < w.heap.size → k ≠ g → w2.heap[k]? = w.heap[k]?) := by
  obtain ⟨i, z, hi, hz, hs1, hb1, rfl⟩ := info5
  have ht : Tryz.prog.underlying 105 = some (.slice 5) := by kernel_rfl
  have hk : Tryz.prog.underlying 9 = some .string := by kernel_rfl
  have hsl : s.data.toList.length = s.size := by rw [Array.length_toList]; rfl
  have hS : Src Tryz.prog i.size 9 (.string s) s.size (byteCells s) w := by rw [hs1]; exact Src.ofString w hk s
  have grow : ∀ (base : Option Addr) (cap : Nat), v = .slice base bs.length cap → (Builtin.firstCells i.size bs.length v).run Tryz.prog w.drew = .ok (byteV bs).toArray w.drew → cap < bs.length + s.size →
      ∃ v' w2, (Builtin.append_ #[105, 9] 105 #[v, .string s]).run Tryz.prog w = .ok v' w2 ∧ w2.tape = w.tape ∧ w2.os = w.os ∧ w2.output = w.output ∧
      ((bs ++ s.data.toList = [] ∧ v' = .slice none 0 0 ∧ w2.heap = w.heap) ∨ ∃ g cap cur, v' = .slice (some ⟨g, 0, none⟩) (bs ++ s.data.toList).length cap ∧ w2.heap[g]? = some (.cells cur 5 (0, 0)) ∧ (bs ++ s.data.toList).length ≤ cap ∧ cur.size = cap ∧
        cur.toList.take (bs ++ s.data.toList).length = byteV (bs ++ s.data.toList) ∧ bs ++ s.data.toList ≠ [] ∧ w.heap.size ≤ w2.heap.size ∧ ((∃ cap0, v = .slice (some ⟨g, 0, none⟩) bs.length cap0) ∧ w2.heap.size = w.heap.size ∨ g = w.heap.size ∧ w2.heap.size = w.heap.size + 1) ∧ ∀ k, k < w.heap.size → k ≠ g → w2.heap[k]? = w.heap[k]?) := by
    intro base cap hv hold hcap
    subst hv
    have hrun := run_append_grow_src w 105 9 105 5 i _ ht hi hz base bs.length cap (byteV bs) hold (.string s) s.size (byteCells s) hS hcap (by omega) (growslice_fits hcap (by rw [hb1, Nat.mul_one]; exact hfit))
    have hge := grownCap_ge w (bs.length + s.size) cap 5
    have hzl : (Builtin.zeroCells (Value.cells (.int .u8 0)) (grownCap w (bs.length + s.size) cap 5 - (bs.length + s.size))).size = grownCap w (bs.length + s.size) cap 5 - (bs.length + s.size) := by
      rw [size_zeroCells]; exact Nat.mul_one _
    have hbl : (byteV bs).length = bs.length := List.length_map ..
    have hcl : (byteCells s).length = s.size := byteCells_length s
    have hsz : ((byteV bs ++ byteCells s).toArray ++ Builtin.zeroCells (Value.cells (.int .u8 0)) (grownCap w (bs.length + s.size) cap 5 - (bs.length + s.size))).size = grownCap w (bs.length + s.size) cap 5 := by
      rw [Array.size_append, hzl, List.size_toArray, List.length_append, hbl, hcl]; omega
    have hnew : (w.drew.alloc (.cells ((byteV bs ++ byteCells s).toArray ++ Builtin.zeroCells (Value.cells (.int .u8 0)) (grownCap w (bs.length + s.size) cap 5 - (bs.length + s.size))) 5)).heap = w.heap.push (.cells ((byteV bs ++ byteCells s).toArray ++ Builtin.zeroCells (Value.cells (.int .u8 0)) (grownCap w (bs.length + s.size) cap 5 - (bs.length + s.size))) 5) := rfl
    have htk : ((byteV bs ++ byteCells s).toArray ++ Builtin.zeroCells (Value.cells (.int .u8 0)) (grownCap w (bs.length + s.size) cap 5 - (bs.length + s.size))).toList.take (bs ++ s.data.toList).length = byteV (bs ++ s.data.toList) := by
      rw [Array.toList_append, byteV_app, ← byteCells_V]
      exact List.take_left' (by rw [List.length_append, List.length_append, hbl, hcl, hsl])
    refine ⟨_, _, hrun, rfl, rfl, rfl, .inr ⟨w.heap.size, _, _, by rw [List.length_append, hsl], by rw [hnew]; exact Array.getElem?_push_size, by rw [List.length_append, hsl]; exact hge, hsz, htk, (by intro e; have := congrArg List.length e; rw [List.length_append, hsl, List.length_nil] at this; omega), by rw [hnew, Array.size_push]; omega, .inr ⟨rfl, by rw [hnew, Array.size_push]⟩, fun k hk _ => by rw [hnew]; exact Array.getElem?_push_lt .. |>.trans (Array.getElem?_eq_getElem hk).symm⟩⟩
  rcases h with ⟨rfl, rfl⟩ | ⟨g, cap, cur, rfl, hg, hle, hcs, htake, hbne⟩
  · by_cases h0 : s.size = 0
    · have hd : s.data.toList = [] := List.eq_nil_of_length_eq_zero (by omega)
      refine ⟨.slice none 0 0, w, ?_, rfl, rfl, rfl, .inl ⟨by rw [hd]; rfl, rfl, rfl⟩⟩
      have hnew : byteCells s = [] := List.eq_nil_of_length_eq_zero (by rw [byteCells_length]; exact h0)
      have hl := hS.len
      have hc := hS.cells
      rw [h0] at hl hc
      rw [hnew] at hc
      simp [Builtin.append_, run_underlying ht, run_underlying hk, Go.sizeOf, typeInfo, hi, hl, hc]
    · exact grow none 0 rfl (by simpa [byteV] using run_firstCells_none w.drew i.size 0 0 0) (by simp; omega)
  · by_cases hroom : bs.length + s.size ≤ cap
    · have hrun := run_append_room_at (P := Tryz.prog) w 105 9 105 5 i ht hi g 0 bs.length cap cur 5 hg (.string s) s.size (byteCells s) hS hroom (by rw [hs1, byteCells_length]; omega)
      have hbl : (byteV bs).length = bs.length := List.length_map ..
      have hcl : (byteCells s).length = s.size := byteCells_length s
      have hcul : cur.toList.length = cap := by rw [Array.length_toList]; exact hcs
      generalize hrow : (cur.toList.take (0 + bs.length * i.size) ++ byteCells s ++ cur.toList.drop (0 + bs.length * i.size + (byteCells s).length)).toArray = row at hrun
      have hrl : row.toList = cur.toList.take bs.length ++ byteCells s ++ cur.toList.drop (bs.length + s.size) := by
        rw [← hrow, hs1, hcl, Nat.mul_one, Nat.zero_add]
      have hsame : (w.setRow g row).heap[g]? = some (.cells row 5 (0, 0)) := by simp [World.setRow, Array.getElem?_modify, hg]
      have hoth : ∀ k, k ≠ g → (w.setRow g row).heap[k]? = w.heap[k]? := fun k hk => setRow_other w g k row hk
      refine ⟨_, _, hrun, rfl, rfl, rfl, .inr ⟨g, cap, row, by rw [List.length_append, hsl], hsame, by rw [List.length_append, hsl]; exact hroom, ?_, ?_, (by intro e; exact hbne (List.append_eq_nil_iff.1 e).1), by rw [setRow_size]; exact Nat.le_refl _, .inl ⟨⟨cap, rfl⟩, setRow_size ..⟩, fun k _ hk => hoth k hk⟩⟩
      · rw [← Array.length_toList, hrl]
        simp [hcul, hcl]; omega
      · rw [hrl, htake, byteV_app, ← byteCells_V]
        exact List.take_left' (by rw [List.length_append, List.length_append, hbl, hcl, hsl])
    · refine grow (some ⟨g, 0, none⟩) cap rfl ?_ (by omega)
      rw [hs1]
      refine run_firstCells_some w.drew 1 bs.length ⟨g, 0, none⟩ bs.length cap (byteV bs) (by simp [byteV]) fun j u hu => ?_
      have hlt : j < bs.length := by
        have := (List.getElem?_eq_some_iff.1 hu).1
        simpa [byteV] using this
      have hcj : cur[j]? = some u := by
        rw [← Array.getElem?_toList]
        have : (cur.toList.take bs.length)[j]? = some u := by rw [htake]; exact hu
        rwa [List.getElem?_take, if_pos hlt] at this
      have hg' : w.drew.heap[g]? = some (.cells cur 5 (0, 0)) := hg
      rw [Addr.add_lit, Lib.cell_of_heap hg', Nat.zero_add]
      exact hcj
theorem writeString_T {H : Heap} {id : Nat} {bs : List UInt8} (ho : H[id]? = some (.bld 109 5 false bs)) (s : List UInt8) (hfit : bs.length + s.length ≤ 140737488355328) :
    T Tryz.prog 143 [.ptr id 0 0, .str s] H (.tup [.int .i64 s.length, .u]) (H.set id (.bld 109 5 false (bs ++ s))) := by
  refine ⟨⟨_, Tryz.func143, by kernel_rfl, by kernel_rfl⟩, fun w G own cs bl hok hr hn ha => ?_⟩
  obtain ⟨b, p, v, cs', hcs, hr2, h1, h2, h3, h4, h5, h6⟩ := bld_ptr hok ho hr
  obtain ⟨sb, cs2, rfl, rfl, hr3⟩ := hr2.str_inv
  obtain ⟨rfl, rfl⟩ := hr3.nil_inv
  obtain rfl : cs = #[.pointer (some ⟨b, 0, none⟩), .string sb] := by cases cs; simp at hcs; rw [hcs]
  have hsl : sb.data.toList.length = sb.size := by rw [Array.length_toList]; rfl
  rw [hsl] at hfit
  have hbsz : b < w.heap.size := hok.size b _ h2
  have hgne : ∀ g, own g = some (.cell id) → g ≠ b := by rintro g hg rfl; rw [h2] at hg; cases hg
  have hrep : ∀ w' : World, RepL w' G [.tup [.int .i64 (sb.data.toList.length : Int), .u]] [.tuple #[.int .i64 sb.size, .nilIface]] [] := fun w' => by
    rw [hsl]
    have h := RepL.tup (w := w') (G := G) (ws := [.int .i64 (sb.size : Int), .u]) (acs := [.int .i64 sb.size, .nilIface]) (.imm _ _ (.int _ _ .nil) (.u _ .nil)) .nil
    simpa using h
  refine (write_calls b w p v h3 h5 sb (fun _ w' => Post w G own (.tup [.int .i64 (sb.data.toList.length : Int), .u]) (H.set id (.bld 109 5 false (bs ++ sb.data.toList))) (.tuple #[.int .i64 sb.size, .nilIface]) w') ?_).mono ?_
  · intro w1 k1 k2 k3 k4 k5 k6
    have hrow : (bs = [] ∧ v = .slice none 0 0) ∨ ∃ g cap cur, v = .slice (some ⟨g, 0, none⟩) bs.length cap ∧ w1.heap[g]? = some (.cells cur 5 (0, 0)) ∧ bs.length ≤ cap ∧ cur.size = cap ∧ cur.toList.take bs.length = byteV bs ∧ bs ≠ [] := by
      rcases h6 with h6 | ⟨g, cap, cur, fr, q1, q2, q3, q4, q5, q6, q7, q8⟩
      · exact .inl h6
      · refine .inr ⟨g, cap, cur, q1, ?_, q6, q7, q8⟩
        rw [k2 g (hgne g q2), q3, q4 rfl]
    obtain ⟨v', w2, hrun, j1, j2, j3, hres⟩ := append_bld hrow sb hfit
    have hfin : ∀ {w2 : World} {v' : Value}, w2.tape = w1.tape → w2.os = w1.os → w2.output = w1.output → w2.heap[b]? = w1.heap[b]? →
        ((bs ++ sb.data.toList = [] ∧ v' = .slice none 0 0 ∧ w2.heap = w1.heap) ∨ ∃ g cap cur, v' = .slice (some ⟨g, 0, none⟩) (bs ++ sb.data.toList).length cap ∧ w2.heap[g]? = some (.cells cur 5 (0, 0)) ∧ (bs ++ sb.data.toList).length ≤ cap ∧ cur.size = cap ∧
          cur.toList.take (bs ++ sb.data.toList).length = byteV (bs ++ sb.data.toList) ∧ bs ++ sb.data.toList ≠ [] ∧ w1.heap.size ≤ w2.heap.size ∧ ((∃ cap0, v = .slice (some ⟨g, 0, none⟩) bs.length cap0) ∧ w2.heap.size = w1.heap.size ∨ g = w1.heap.size ∧ w2.heap.size = w1.heap.size + 1) ∧ ∀ k, k < w1.heap.size → k ≠ g → w2.heap[k]? = w1.heap[k]?) →
        Post w G own (.tup [.int .i64 (sb.data.toList.length : Int), .u]) (H.set id (.bld 109 5 false (bs ++ sb.data.toList))) (.tuple #[.int .i64 sb.size, .nilIface]) (w2.setCell ⟨b, 1, none⟩ v') := by
      intro w2 v' j1 j2 j3 jb hres
      have hset : (w2.setCell ⟨b, 1, none⟩ v').heap[b]? = some (.cells #[.pointer (some ⟨b, 0, none⟩), v'] 109 (0, 0)) := by
        simp [World.setCell, Array.getElem?_modify, jb.trans k1]
      have hoth : ∀ k, k ≠ b → (w2.setCell ⟨b, 1, none⟩ v').heap[k]? = w2.heap[k]? := fun k hk => RowKit.Below.heap_setCell _ _ _ _ hk
      have hssz : (w2.setCell ⟨b, 1, none⟩ v').heap.size = w2.heap.size := by simp [World.setCell]
      have hsz0 : w.heap.size ≤ w2.heap.size := by
        rcases hres with ⟨_, _, h⟩ | ⟨_, _, _, _, _, _, _, _, _, h, _⟩
        · rw [h, k3]; exact Nat.le_refl _
        · rw [← k3]; exact h
      have hnone : ∀ k, w.heap.size ≤ k → own k = none := fun k hk => by
        cases hk2 : own k with
        | none => rfl
        | some q => exact absurd (hok.size k q hk2) (by omega)
      have t1 : (w2.setCell ⟨b, 1, none⟩ v').tape = w.tape := j1.trans k4
      have t2 : (w2.setCell ⟨b, 1, none⟩ v').os = w.os := j2.trans k5
      have t3 : (w2.setCell ⟨b, 1, none⟩ v').output = w.output := j3.trans k6
      rcases hres with ⟨e1, rfl, e3⟩ | ⟨g, cap, cur, rfl, e2, e3, e4, e5, e5n, e6, e7, e8⟩
      · refine bld_post hok ho h2 h4 (by rw [hssz]; exact hsz0) t1 t2 t3 (fun _ => False) (fun _ h => h.elim) (fun k _ hk _ => by rw [hoth k hk, e3, k2 k hk]) (own' := own) (fun _ _ => rfl) (fun k p hp => by rw [hssz]; exact Nat.lt_of_lt_of_le (hok.size k p hp) hsz0) (fun k hk => .inl (hnone k hk)) ?_ (hrep _)
        exact ⟨b, _, _, h1, h2, hset, h4, .inr rfl, .inl ⟨e1, rfl⟩⟩
      · rcases e7 with ⟨⟨cap0, rfl⟩, e9⟩ | ⟨rfl, e9⟩
        · rcases h6 with ⟨_, h⟩ | ⟨g', cap', cur', fr, q1, q2, q3, q4, q5, q6⟩
          · cases h
          · cases q1
            have hgb := hgne g q2
            refine bld_post hok ho h2 h4 (by rw [hssz]; exact hsz0) t1 t2 t3 (fun k => k = g) (fun k h => by subst h; exact ⟨q2, q5⟩) (fun k hk hkb hkg => by rw [hoth k hkb, e8 k (by rw [k3]; exact hk) hkg, k2 k hkb]) (own' := own) (fun _ _ => rfl) (fun k p hp => by rw [hssz]; exact Nat.lt_of_lt_of_le (hok.size k p hp) hsz0) (fun k hk => .inl (hnone k hk)) ?_ (hrep _)
            exact ⟨b, _, _, h1, h2, hset, h4, .inr rfl, .inr ⟨g, cap, cur, (0, 0), rfl, q2, by rw [hoth g hgb]; exact e2, fun _ => rfl, q5, e3, e4, e5, e5n⟩⟩
        · rw [k3] at *
          have hgb : w.heap.size ≠ b := by omega
          have himm : ∀ o, G.imm w.heap.size o = none := by
            intro o
            cases hi : G.imm w.heap.size o with
            | none => rfl
            | some x =>
              obtain ⟨c, e, f, h, _⟩ := hok.imm _ _ _ hi
              rw [Array.getElem?_eq_none (Nat.le_refl _)] at h; cases h
          refine bld_post hok ho h2 h4 (by rw [hssz]; exact hsz0) t1 t2 t3 (fun _ => False) (fun _ h => h.elim) (fun k hk hkb _ => by rw [hoth k hkb, e8 k hk (by omega), k2 k hkb]) (own' := fun k => if k = w.heap.size then some (.cell id) else own k) (fun k hk => by rw [if_neg (by omega)])
            (fun k p hp => by
              rw [hssz, e9]
              by_cases hk : k = w.heap.size
              · omega
              · rw [if_neg hk] at hp; have := hok.size k p hp; omega)
            (fun k hk => by
              by_cases hk2 : k = w.heap.size
              · rw [if_pos hk2]; exact .inr rfl
              · rw [if_neg hk2]; exact .inl (hnone k hk)) ?_ (hrep _)
          refine ⟨b, _, _, h1, by simp only; rw [if_neg (by omega)]; exact h2, hset, h4, .inr rfl, .inr ⟨w.heap.size, cap, cur, (0, 0), rfl, by simp, by rw [hoth _ hgb]; exact e2, fun _ => rfl, himm, e3, e4, e5, e5n⟩⟩
    have hbk : w2.heap[b]? = w1.heap[b]? := by
      rcases hres with ⟨_, _, h⟩ | ⟨g, cap, cur, _, _, _, _, _, _, _, e7, e8⟩
      · rw [h]
      · refine e8 b (by rw [k3]; exact hbsz) ?_
        rintro rfl
        rcases e7 with ⟨⟨cap0, rfl⟩, _⟩ | ⟨h, _⟩
        · rcases h6 with ⟨_, h⟩ | ⟨g', cap', cur', fr, q1, q2, _⟩
          · cases h
          · cases q1; exact hgne _ q2 rfl
        · rw [k3] at h; omega
    have hfin2 := hfin j1 j2 j3 hbk hres
    rcases hres with ⟨_, rfl, _⟩ | ⟨g, cap, cur, rfl, _⟩
    · exact ⟨_, _, _, w2, hrun, hbk, hfin2⟩
    · exact ⟨_, _, _, w2, hrun, hbk, hfin2⟩
  · rintro e w' ⟨rfl, _, hQ⟩
    exact ⟨_, rfl, hQ⟩
end Go.Proofs.YtoaohapbbnpbeaaGreat.Vm
namespace Go.Proofs.YtoaohapbbnpbeaaGreat.Vm
open Go

theorem byteV_get {bs : List UInt8} {j : Nat} {x : UInt8} (h : bs[j]? = some x) : (byteV bs)[j]? = some (.int .u8 x.toNat) := by
  unfold byteV; rw [List.getElem?_map, h]; rfl
set_option maxHeartbeats 2000000 in
set_option maxRecDepth 100000 in
theorem string_nil (b : Nat) (w : World) (p : Value) (h0 : w.heap[b]? = some (.cells #[p, .slice none 0 0] 109 (0, 0))) :
    Calls Tryz.prog 66 #[.pointer (some ⟨b, 0, none⟩)] w fun e w' => e = .returned (.string ⟨#[]⟩) ∧ w'.heap = w.heap ∧ w'.tape = w.tape ∧ w'.os = w.os ∧ w'.output = w.output := by
  have hUS : ∀ (W : World) (q : Option Addr), (Builtin.unsafeString_ #[144, 3] 9 #[.pointer q, .int .i64 0]).run Tryz.prog W = .ok (.string .empty) W := fun W q => Lib.run_unsafeString_none W _ _ _ q
  have c1 : w.drew.cell? ⟨b, 1, none⟩ = some (.slice none 0 0) := by
    have : w.drew.heap[b]? = some (.cells #[p, .slice none 0 0] 109 (0, 0)) := h0
    rw [Lib.cell_of_heap this]; rfl
  have hSD : (Builtin.unsafeSliceData_ #[105] 144 #[.slice none 0 0]).run Tryz.prog w.drew = .ok (.pointer none) w.drew := rfl
  have mixed : Tryz.prog.follows .mixedOrders = true := by kernel_rfl
  go_enter Tryz.func66, Tryz.ntmps66
  go_wp2
  go_region_o
  all_goals (go_wp2; go_ret; exact ⟨rfl, rfl, rfl, rfl, rfl⟩)
set_option maxHeartbeats 2000000 in
set_option maxRecDepth 100000 in
theorem string_row (b g cap : Nat) (w : World) (p : Value) (cur : Array Value) (fr : Nat × Nat) (l : List UInt8) (h0 : w.heap[b]? = some (.cells #[p, .slice (some ⟨g, 0, none⟩) l.length cap] 109 (0, 0))) (hg : w.heap[g]? = some (.cells cur 5 fr)) (hn : l ≠ []) (hle : l.length ≤ cap) (hcs : cur.size = cap) (h63 : l.length ≤ 140737488355328)
    (htake : cur.toList.take l.length = byteV l) :
    Calls Tryz.prog 66 #[.pointer (some ⟨b, 0, none⟩)] w fun e w' => e = .returned (.string ⟨l.toArray⟩) ∧ w'.heap = (w.freeze ⟨g, 0, none⟩ l.length).heap ∧ w'.tape = w.tape ∧ w'.os = w.os ∧ w'.output = w.output := by
  have hl0 : l.length ≠ 0 := by simpa using hn
  have c1 : w.drew.cell? ⟨b, 1, none⟩ = some (.slice (some ⟨g, 0, none⟩) l.length cap) := by
    have : w.drew.heap[b]? = some (.cells #[p, .slice (some ⟨g, 0, none⟩) l.length cap] 109 (0, 0)) := h0
    rw [Lib.cell_of_heap this]; rfl
  have hg' : w.drew.heap[g]? = some (.cells cur 5 fr) := hg
  have hSD : (Builtin.unsafeSliceData_ #[105] 144 #[.slice (some ⟨g, 0, none⟩) l.length cap]).run Tryz.prog w.drew = .ok (.pointer (some ⟨g, 0, none⟩)) w.drew := Lib.run_unsafeSliceData_row _ _ _ _ _ _ (by omega)
  have hUS : (Builtin.unsafeString_ #[144, 3] 9 #[.pointer (some ⟨g, 0, none⟩), .int .i64 l.length]).run Tryz.prog w.drew = .ok (.string ⟨l.toArray⟩) (w.drew.freeze ⟨g, 0, none⟩ l.length) := by
    refine Lib.run_unsafeString_row w.drew 144 3 9 5 (by kernel_rfl) (by kernel_rfl) g cur.size (by simp [World.shape?, hg']) l hn (by omega) (by omega) ?_
    intro j x hx
    have hj : j < l.length := (List.getElem?_eq_some_iff.1 hx).1
    have hcj : cur[j]? = some (.int .u8 x.toNat) := by
      rw [← Array.getElem?_toList]
      have : (cur.toList.take l.length)[j]? = some (.int .u8 x.toNat) := by rw [htake]; exact byteV_get hx
      rwa [List.getElem?_take, if_pos hj] at this
    rw [Addr.add_lit, Lib.cell_of_heap hg', Nat.zero_add]
    exact hcj
  have hfr : (w.drew.freeze ⟨g, 0, none⟩ l.length).heap = (w.freeze ⟨g, 0, none⟩ l.length).heap := by unfold World.freeze; split <;> rfl
  have hft : (w.drew.freeze ⟨g, 0, none⟩ l.length).tape = w.tape ∧ (w.drew.freeze ⟨g, 0, none⟩ l.length).os = w.os ∧ (w.drew.freeze ⟨g, 0, none⟩ l.length).output = w.output := by unfold World.freeze; split <;> exact ⟨rfl, rfl, rfl⟩
  have mixed : Tryz.prog.follows .mixedOrders = true := by kernel_rfl
  go_enter Tryz.func66, Tryz.ntmps66
  go_wp2
  go_region_o
  all_goals (go_wp2; go_ret; exact ⟨rfl, hfr, hft.1, hft.2.1, hft.2.2⟩)
theorem freezeO (w : World) (g n k : Nat) (hk : k ≠ g) : (w.freeze ⟨g, 0, none⟩ n).heap[k]? = w.heap[k]? := by
  unfold World.freeze; split
  · rfl
  · simp only [Array.getElem?_modify]; rw [if_neg (fun e => hk e.symm)]
theorem freeze_same (w : World) (g n : Nat) (cur : Array Value) (e : TypeId) (fr : Nat × Nat) (h : w.heap[g]? = some (.cells cur e fr)) : ∃ fr2, (w.freeze ⟨g, 0, none⟩ n).heap[g]? = some (.cells cur e fr2) := by
  unfold World.freeze; split
  · exact ⟨fr, h⟩
  · simp only [Array.getElem?_modify, if_pos rfl, h, Option.map_some]; exact ⟨_, rfl⟩
theorem freeze_size (w : World) (g n : Nat) : (w.freeze ⟨g, 0, none⟩ n).heap.size = w.heap.size := by
  unfold World.freeze; split
  · rfl
  · simp
theorem string_T {H : Heap} {id : Nat} {fz : Bool} {bs : List UInt8} (ho : H[id]? = some (.bld 109 5 fz bs)) (h63 : bs.length ≤ 140737488355328) : T Tryz.prog 66 [.ptr id 0 0] H (.str bs) (H.set id (.bld 109 5 true bs)) := by
  refine ⟨⟨_, Tryz.func66, by kernel_rfl, by kernel_rfl⟩, fun w G own cs bl hok hr hn ha => ?_⟩
  obtain ⟨b, p, v, cs', hcs, hr2, h1, h2, h3, h4, h5, h6⟩ := bld_ptr hok ho hr
  obtain ⟨rfl, rfl⟩ := hr2.nil_inv
  obtain rfl : cs = #[.pointer (some ⟨b, 0, none⟩)] := by cases cs; simp at hcs; rw [hcs]
  have hrep : ∀ w' : World, RepL w' G [.str bs] [.string ⟨bs.toArray⟩] [] := fun w' => .imm _ _ (RepI.mkStr ⟨bs.toArray⟩ (by simp)) .nil
  have hnone : ∀ k, w.heap.size ≤ k → own k = none := fun k hk => by
    cases hk2 : own k with
    | none => rfl
    | some q => exact absurd (hok.size k q hk2) (by omega)
  rcases h6 with ⟨rfl, rfl⟩ | ⟨g, cap, cur, fr, rfl, q2, q3, q4, q5, q6, q7, q8, q9⟩
  · refine (string_nil b w p h3).mono ?_
    rintro e w' ⟨rfl, j1, j2, j3, j4⟩
    refine ⟨_, rfl, ?_⟩
    refine bld_post hok ho h2 h4 (by rw [j1]; exact Nat.le_refl _) j2 j3 j4 (fun _ => False) (fun _ h => h.elim) (fun k _ _ _ => by rw [j1]) (own' := own) (fun _ _ => rfl) (fun k p hp => by rw [j1]; exact hok.size k p hp) (fun k hk => .inl (hnone k hk)) ?_ (hrep _)
    exact ⟨b, _, _, h1, h2, by rw [j1]; exact h3, h4, h5, .inl ⟨rfl, rfl⟩⟩
  · refine (string_row b g cap w p cur fr bs h3 q3 q9 q6 q7 h63 q8).mono ?_
    rintro e w' ⟨rfl, j1, j2, j3, j4⟩
    refine ⟨_, rfl, ?_⟩
    have hgb : g ≠ b := by rintro rfl; rw [h2] at q2; cases q2
    obtain ⟨fr2, hfr2⟩ := freeze_same w g bs.length cur 5 fr q3
    have hsz : w'.heap.size = w.heap.size := by rw [j1, freeze_size]
    refine bld_post hok ho h2 h4 (by rw [hsz]; exact Nat.le_refl _) j2 j3 j4 (fun k => k = g) (fun k h => by subst h; exact ⟨q2, q5⟩) (fun k hk hkb hkg => by rw [j1]; exact freezeO w g bs.length k hkg) (own' := own) (fun _ _ => rfl) (fun k p hp => by rw [hsz]; exact hok.size k p hp) (fun k hk => .inl (hnone k hk)) ?_ (hrep _)
    exact ⟨b, _, _, h1, h2, by rw [j1, freezeO w g bs.length b hgb.symm]; exact h3, h4, h5, .inr ⟨g, cap, cur, fr2, rfl, q2, by rw [j1]; exact hfr2, (fun h => by cases h), q5, q6, q7, q8, q9⟩⟩
end Go.Proofs.YtoaohapbbnpbeaaGreat.Vm
namespace Go.Proofs.YtoaohapbbnpbeaaGreat.Vm
open Go

def natF : CallF := fun f av H =>
  if f = 143 then (match av with
    | [.ptr id 0 0, .str s] => (match H[id]? with
      | some (.bld t e false bs) => if t = 109 ∧ e = 5 ∧ bs.length + s.length ≤ 140737488355328 then some (.tup [.int .i64 s.length, .u], H.set id (.bld 109 5 false (bs ++ s))) else none
      | _ => none)
    | _ => none)
  else if f = 66 then (match av with
    | [.ptr id 0 0] => (match H[id]? with
      | some (.bld t e _ bs) => if t = 109 ∧ e = 5 ∧ bs.length ≤ 140737488355328 then some (.str bs, H.set id (.bld 109 5 true bs)) else none
      | _ => none)
    | _ => none)
  else none
theorem natF_ok : ∀ f av H r H', natF f av H = some (r, H') → T Tryz.prog f av H r H' := by
  intro f av H r H' h
  unfold natF at h
  split at h
  · rename_i hf
    subst hf
    split at h
    · rename_i id s
      split at h
      · rename_i t e bs ho
        split at h
        · rename_i hc
          obtain ⟨rfl, rfl, hl⟩ := hc
          cases h
          exact writeString_T ho _ hl
        · cases h
      · cases h
    · cases h
  · split at h
    · rename_i hf
      subst hf
      split at h
      · rename_i id
        split at h
        · rename_i t e fz bs ho
          split at h
          · rename_i hc
            obtain ⟨rfl, rfl, hl⟩ := hc
            cases h
            exact string_T ho hl
          · cases h
        · cases h
      · cases h
    · cases h
end Go.Proofs.YtoaohapbbnpbeaaGreat.Vm
namespace Go.Proofs.YtoaohapbbnpbeaaGreat.Vm
open Go
theorem known_run : callM natF tab 100000 11 [] [] = some (.bool true, []) := by kernel_rfl
theorem known_T : T Tryz.prog 11 [] [] (.bool true) [] := callM_sound mix tab_ok natF_ok _ known_run
theorem known_H (H : Heap) : T Tryz.prog 11 [] H (.bool true) H := known_T.frame rfl H
end Go.Proofs.YtoaohapbbnpbeaaGreat.Vm
namespace Go.Proofs.YtoaohapbbnpbeaaGreat.Vm
open Go Lx
set_option linter.unusedSimpArgs false

theorem ofT_B (n : Nat) : ∀ {e : Ex} {t : Tm}, SizeOf.sizeOf e ≤ n → exW e ≤ 1048576 → ofT e = some t → TmB t := by
  induction n with
  | zero => rintro ⟨⟩ t h; simp at h
  | succ n ih =>
    rintro ⟨k, s, m, ps, xs, al, bs, l, c⟩ ⟨ts, tn, tl⟩ hn hw h
    have hlen := ofT_len (n + 1) hn h
    simp only [Ex.mk.sizeOf_spec] at hn
    rw [ofT_eq] at h
    split at h
    · cases h; exact .mk (by simp) (fun _ h => by cases h)
    · split at h
      · cases h; exact .mk (by simp) (fun _ h => by cases h)
      · split at h
        · cases h
        · split at h
          · rename_i f x
            simp only [List.cons.sizeOf_spec] at hn
            have hwx := exW_app (k := k) (s := s) (n := m) (ps := ps) (f := f) (x := x) (al := al) (bs := bs) (l := l) (c := c)
            cases hf : ofT f with
            | none => rw [hf] at h; cases hx : ofT x <;> rw [hx] at h <;> cases h
            | some a =>
              obtain ⟨s1, m1, l1⟩ := a
              rw [hf] at h
              cases s1 with
              | nil => cases hx : ofT x <;> rw [hx] at h <;> cases h
              | cons a r =>
                cases hx : ofT x with
                | none => rw [hx] at h; cases h
                | some b =>
                  rw [hx] at h
                  cases h
                  have hb := ih (by omega) (by omega) hx
                  cases ih (by omega) (by omega) hf with | mk q1 q2 =>
                  refine .mk (by omega) fun y hy => ?_
                  rcases List.mem_append.1 hy with hy | hy
                  · exact q2 y hy
                  · rw [List.mem_singleton] at hy; subst hy; exact hb
          · cases h
theorem tmOfX_P (e : Ex) (hB : ExB e) (hw : exW e ≤ 1048576) : Pu 8 [.agg (exC e)] (resT (if rEx e = true then ofT e else none)) := by
  have hR := showEx_P _ hB
  refine ⟨?_, by simp only [idsL, idsV, exC_ids, Bool.and_self]⟩
  refine T.of0 mix c_term_Of rfl ?_
  unfold v_term_Of
  simp only [go_sem, ↓reduceIte, callG_eq]
  refine hR.call (by simp only [go_sem]) ?_
  cases hr : rEx e with
  | false =>
    simp only [go_sem, ↓reduceIte, callG_eq, Bool.false_eq_true]
    rfl
  | true =>
    have hO := tmOf_P _ e (Nat.le_refl _) hB hw hr
    simp only [go_sem, ↓reduceIte, callG_eq]
    refine hO.call (by simp only [go_sem]) ?_
    unfold resT
    generalize (ofT e).getD (.mk [] 0 []) = t
    obtain ⟨s1, n1, l1⟩ := t
    simp only [tmQ_eq, go_sem, ↓reduceIte, callG_eq]
theorem termOf_T (e : Ex) (hB : ExB e) (hw : exW e ≤ 1048576) : T Tryz.prog 3 [.agg (exC e)] [] (.bool true) [] := by
  have h1 := tmOfX_P e hB hw
  have h2 := r19Of_P _ e (Nat.le_refl _) hB hw
  have h3 : TmB ((if rEx e = true then ofT e else none).getD (.mk [] 0 [])) := by
    split
    · cases h : ofT e with
      | none => exact .mk (by simp) (fun _ h => by cases h)
      | some t => exact ofT_B _ (Nat.le_refl _) hw h
    · exact .mk (by simp) (fun _ h => by cases h)
  unfold resT at h1 h2
  generalize (if rEx e = true then ofT e else none).isSome = o at h1 h2
  generalize (if rEx e = true then ofT e else none).getD (.mk [] 0 []) = t at h1 h2 h3
  have hS := r14Same_P t t h3 h3
  rw [eqB_true rfl] at hS
  obtain ⟨s1, n1, l1⟩ := t
  rw [tmQ_eq] at h1 h2
  rw [tmC_eq] at hS
  refine T.of0 mix c_l19_TermOf rfl ?_
  unfold v_l19_TermOf
  simp only [go_sem, ↓reduceIte, callG_eq]
  refine h1.call (by simp only [go_sem]) ?_
  simp only [go_sem, ↓reduceIte, callG_eq]
  refine h2.call (by simp only [go_sem]) ?_
  simp only [go_sem, ↓reduceIte, callG_eq]
  refine hS.call (by simp only [go_sem]) ?_
  simp only [go_sem, ↓reduceIte, callG_eq]
  refine ⟨fun _ => (known_H _).call ?_, fun h => by simp at h⟩
  simp only [go_sem]
end Go.Proofs.YtoaohapbbnpbeaaGreat.Vm
namespace Go.Proofs.YtoaohapbbnpbeaaGreat.Vm
open Go
set_option linter.unusedSimpArgs false

structure Co where
  s : Str
  fs : List Ty
  l : Int
  c : Int
structure Da where
  s : Str
  ps : List Str
  cs : List Co
  l : Int
  c : Int
structure Fx where
  s : Str
  a : Int
  v : Int
  l : Int
  c : Int
structure Pr where
  ds : List Da
  fs : List Fx
  bs : List Bi
def coC (x : Co) : List V := [.str x.s, .sl false 4 (x.fs.map tyC), .int .i64 x.l, .int .i64 x.c]
def daC (x : Da) : List V := [.str x.s, .sl false 1 (x.ps.map stC), .sl false 4 (x.cs.map coC), .int .i64 x.l, .int .i64 x.c]
def fxC (x : Fx) : List V := [.str x.s, .int .i64 x.a, .int .i64 x.v, .int .i64 x.l, .int .i64 x.c]
def prC (x : Pr) : List V := [.sl false 5 (x.ds.map daC), .sl false 5 (x.fs.map fxC), .sl false 4 (x.bs.map biC)]
structure CoB (x : Co) : Prop where
  h : LB 56 TyB x.fs
structure DaB (x : Da) : Prop where
  h1 : x.ps.length * 16 ≤ 140737488355328
  h2 : LB 56 CoB x.cs
structure PrB (x : Pr) : Prop where
  h1 : LB 80 DaB x.ds
  h2 : LB 48 (fun _ => True) x.fs
  h3 : LB 56 BiB x.bs
theorem prC_ok (x : Pr) : Cells 3 (prC x) := cells_of rfl rfl rfl (fun _ => rfl) rfl rfl
theorem coC_ok (x : Co) : Cells 4 (coC x) := cells_of rfl rfl rfl (fun _ => rfl) rfl rfl
theorem daC_ok (x : Da) : Cells 5 (daC x) := cells_of rfl rfl rfl (fun _ => rfl) rfl rfl
theorem fxC_ok (x : Fx) : Cells 5 (fxC x) := cells_of rfl rfl rfl (fun _ => rfl) rfl rfl

@[go_sem] theorem prC_len {x : Pr} : (prC x).length = 3 := (prC_ok x).len
@[go_sem] theorem prC_take {x : Pr} : List.take 3 (prC x) = prC x := List.take_of_length_le (by rw [prC_len]; exact Nat.le_refl _)
@[go_sem] theorem prC_strip {x : Pr} : (prC x).map strip0 = prC x := (prC_ok x).strip
@[go_sem] theorem prC_inl {x : Pr} : (prC x).map inl0 = prC x := (prC_ok x).inl
@[go_sem] theorem prC_ids {x : Pr} {m : Nat} : idsL m (prC x) = true := (prC_ok x).ids m
@[go_sem] theorem prC_p1 {x : Pr} : (prC x).all plain1 = true := (prC_ok x).p1
@[go_sem] theorem prC_pc {x : Pr} : (prC x).all plainC = true := (prC_ok x).pc
@[go_sem] theorem prC_thaw {x : Pr} {H : Heap} : thawL (prC x) H = (prC x, H) := thawL_all prC_pc
@[go_sem] theorem coC_len {x : Co} : (coC x).length = 4 := (coC_ok x).len
@[go_sem] theorem coC_take {x : Co} : List.take 4 (coC x) = coC x := List.take_of_length_le (by rw [coC_len]; exact Nat.le_refl _)
@[go_sem] theorem coC_strip {x : Co} : (coC x).map strip0 = coC x := (coC_ok x).strip
@[go_sem] theorem coC_inl {x : Co} : (coC x).map inl0 = coC x := (coC_ok x).inl
@[go_sem] theorem coC_ids {x : Co} {m : Nat} : idsL m (coC x) = true := (coC_ok x).ids m
@[go_sem] theorem coC_p1 {x : Co} : (coC x).all plain1 = true := (coC_ok x).p1
@[go_sem] theorem coC_pc {x : Co} : (coC x).all plainC = true := (coC_ok x).pc
@[go_sem] theorem coC_thaw {x : Co} {H : Heap} : thawL (coC x) H = (coC x, H) := thawL_all coC_pc
@[go_sem] theorem daC_len {x : Da} : (daC x).length = 5 := (daC_ok x).len
@[go_sem] theorem daC_take {x : Da} : List.take 5 (daC x) = daC x := List.take_of_length_le (by rw [daC_len]; exact Nat.le_refl _)
@[go_sem] theorem daC_strip {x : Da} : (daC x).map strip0 = daC x := (daC_ok x).strip
@[go_sem] theorem daC_inl {x : Da} : (daC x).map inl0 = daC x := (daC_ok x).inl
@[go_sem] theorem daC_ids {x : Da} {m : Nat} : idsL m (daC x) = true := (daC_ok x).ids m
@[go_sem] theorem daC_p1 {x : Da} : (daC x).all plain1 = true := (daC_ok x).p1
@[go_sem] theorem daC_pc {x : Da} : (daC x).all plainC = true := (daC_ok x).pc
@[go_sem] theorem daC_thaw {x : Da} {H : Heap} : thawL (daC x) H = (daC x, H) := thawL_all daC_pc
@[go_sem] theorem fxC_len {x : Fx} : (fxC x).length = 5 := (fxC_ok x).len
@[go_sem] theorem fxC_take {x : Fx} : List.take 5 (fxC x) = fxC x := List.take_of_length_le (by rw [fxC_len]; exact Nat.le_refl _)
@[go_sem] theorem fxC_strip {x : Fx} : (fxC x).map strip0 = fxC x := (fxC_ok x).strip
@[go_sem] theorem fxC_inl {x : Fx} : (fxC x).map inl0 = fxC x := (fxC_ok x).inl
@[go_sem] theorem fxC_ids {x : Fx} {m : Nat} : idsL m (fxC x) = true := (fxC_ok x).ids m
@[go_sem] theorem fxC_p1 {x : Fx} : (fxC x).all plain1 = true := (fxC_ok x).p1
@[go_sem] theorem fxC_pc {x : Fx} : (fxC x).all plainC = true := (fxC_ok x).pc
@[go_sem] theorem fxC_thaw {x : Fx} {H : Heap} : thawL (fxC x) H = (fxC x, H) := thawL_all fxC_pc
/-- An object that stands. -/
structure Has (G : Heap) (a v : Nat) (cs : List V) : Prop where
  lt : a < G.length
  get : getCells G a v = some cs
theorem Has.app {G : Heap} {a v : Nat} {cs : List V} (h : Has G a v cs) (l : Heap) : getCells (G ++ l) a v = some cs := by rw [gc_app h.lt, h.get]
theorem Has.more {G : Heap} {a v : Nat} {cs : List V} (h : Has G a v cs) (l : Heap) : Has (G ++ l) a v cs := ⟨by have := h.lt; simp; omega, h.app l⟩
theorem has_app0 {F l : Heap} {v : Nat} {cs : List V} : Has (F ++ .cells v cs :: l) F.length v cs := ⟨by simp, by rw [gc_app0]; exact gc_hit⟩
theorem has_app1 {F l : Heap} {o : Obj} {v : Nat} {cs : List V} : Has (F ++ o :: .cells v cs :: l) (F.length + 1) v cs := ⟨by simp, by rw [gc_appN, gc_next]; exact gc_hit⟩
theorem w_eq {α : Type} [BEq α] [LawfulBEq α] {a b : α} (h : (a != b) = false) : a = b := by simpa using h
theorem w_ne {α : Type} [BEq α] [LawfulBEq α] {a b : α} (h : ¬ (a != b) = false) : ¬ a = b := by simpa using h
theorem w_pl {l l' c c' : Int} (h : ¬ (((l == l' && (c == c' && true)) != true) = false)) : ¬ (l = l' ∧ c = c') := by simpa using h
theorem w_pl' {l l' c c' : Int} (h : ((l == l' && (c == c' && true)) != true) = false) : l = l' ∧ c = c' := by simpa using h
theorem w_len {a b : Nat} (h : ((a : Int) != (b : Int)) = false) : a = b := by have := w_eq h; omega
theorem w_lenN {α β : Type} {f : α → β} {a b : List α} (h : (((a.length : Int) != (b.length : Int)) = true)) : ¬ a.map f = b.map f := by
  intro e; have := congrArg List.length e; simp only [List.length_map] at this; rw [this] at h; simp at h
theorem w_lenN' {α β : Type} {f : α → β} {a b : List α} (h : ¬ (((a.length : Int) != (b.length : Int)) = false)) : ¬ a.map f = b.map f := w_lenN (by simpa using h)

end Go.Proofs.YtoaohapbbnpbeaaGreat.Vm
namespace Go.Proofs.YtoaohapbbnpbeaaGreat.Vm
open Go Go.RowKit Go.WideShapes
set_option maxRecDepth 4000

theorem T.belowL {P : Program} {w : World} {f : Nat} {vs : List V} (h : T P f vs [] (.bool true) []) {cs : Array Value} (hr : RepL w (gh0 w) vs cs.toList []) : Calls P f cs w fun e w' => e = .returned (.bool true) ∧ Below w.heap.size w w' := by
  refine (h.2 w (gh0 w) (own0 w) cs [] (ok0 w) hr List.nodup_nil (fun _ h => by cases h)).mono ?_
  rintro e w' ⟨c, rfl, G', own', bl, _, h2, _, _, h5⟩
  obtain ⟨cs', hcs, _⟩ := h2.bool_inv
  obtain ⟨rfl, _⟩ := List.cons.inj hcs
  refine ⟨rfl, h5.os, h5.tape, h5.out, h5.size, fun k hk => ?_⟩
  exact (h5.fixed k (by simp only [own0, if_pos hk])).1
theorem RepL.cons0 {w : World} {G : Gh} {v : V} {c : Value} {vs : List V} {cs : List Value} (h : RepL w G [v] [c] []) (k : RepL w G vs cs []) : RepL w G (v :: vs) (c :: cs) [] := RepL.cons h k
theorem RepI.toL0 {w : World} {vs : List V} {cs : List Value} (h : RepI (immW w) vs cs) : RepL w (gh0 w) vs cs [] := RepI.toL h

/-- What is read of a value that is not too heavy. -/
abbrev Qo {H : Type} (t : TypeId) (P : List V → Prop) : DataW H → List V → Prop := fun d vs => vszL vs ≤ Rows.uptoBulk d ∧ (Light Tryz.prog t d → P vs)
theorem bulk_one {H : Type} (d : DataW H) : 1 ≤ Rows.uptoBulk d := by
  cases d with
  | lit l => cases l <;> simp [Rows.uptoBulk]
  | _ => simp [Rows.uptoBulk]
theorem vszL_app (a b : List V) : vszL (a ++ b) = vszL a + vszL b := by
  induction a with
  | nil => simp [vszL]
  | cons x a ih => simp only [List.cons_append, vszL, ih]; omega
theorem bulk_parts {H : Type} : ∀ {ds : List (DataW H)} {vss : List (List V)}, vss.length = ds.length → (∀ (i : Nat) (d : DataW H) (vs : List V), ds[i]? = some d → vss[i]? = some vs → vszL vs ≤ Rows.uptoBulk d) → vszX vss ≤ Rows.uptoBulkAll ds ∧ vszL vss.flatten ≤ Rows.uptoBulkAll ds
  | [], [], _, _ => by simp [vszX, vszL]
  | [], _ :: _, h, _ => by cases h
  | _ :: _, [], h, _ => by cases h
  | d :: ds, v :: vss, h, hq => by
    obtain ⟨h1, h2⟩ := bulk_parts (ds := ds) (vss := vss) (by simpa using h) fun i d vs a b => hq (i + 1) d vs (by simpa using a) (by simpa using b)
    have h0 := hq 0 d v rfl rfl
    rw [List.flatten_cons, vszL_app]
    simp only [vszX, Rows.uptoBulkAll]
    omega
def AllF : List (List V → Prop) → List V → Prop
  | [], vs => vs = []
  | P :: Ps, vs => ∃ a b, vs = a ++ b ∧ P a ∧ AllF Ps b
def PI : List V → Prop := fun vs => ∃ n : Int, vs = [.int .i64 n]
def PS : List V → Prop := fun vs => ∃ s : Str, vs = [.str s]
def PBo : List V → Prop := fun vs => ∃ b : Bool, vs = [.bool b]
def PPos : List V → Prop := fun vs => ∃ l c : Int, vs = [.int .i64 l, .int .i64 c]
def PX {α : Type} (C : α → List V) (B : α → Prop) : List V → Prop := fun vs => ∃ x, vs = C x ∧ B x
def PL {α : Type} (n b : Nat) (C : α → List V) (B : α → Prop) : List V → Prop := fun vs => ∃ l : List α, vs = [.sl false n (l.map C)] ∧ LB b B l

section
variable {w : World} {H : Type} {enc : TypeId × Value → H} {sp : Nat → Bool} {held : Bool}
def RdAll (enc : TypeId × Value → H) (sp : Nat → Bool) (held : Bool) (w : World) (fuel : Nat) : List TypeId → List (List V → Prop) → Prop
  | [], [] => True
  | t :: ts, P :: Ps => ReadsF Tryz.prog enc sp held w fuel t (Qo t P) ∧ RdAll enc sp held w fuel ts Ps
  | _, _ => False
theorem rdAll_get {fuel : Nat} : ∀ {ts : List TypeId} {Ps : List (List V → Prop)}, RdAll enc sp held w fuel ts Ps → ts.length = Ps.length ∧ ∀ (i : Nat) t P, ts[i]? = some t → Ps[i]? = some P → ReadsF Tryz.prog enc sp held w fuel t (Qo t P)
  | [], [], _ => ⟨rfl, fun i t P h => by cases h⟩
  | t :: ts, P :: Ps, h => by
    obtain ⟨h1, h2⟩ := rdAll_get h.2
    refine ⟨congrArg (· + 1) h1, fun i t' P' hi hp => ?_⟩
    cases i with
    | zero => obtain rfl := Option.some.inj hi; obtain rfl := Option.some.inj hp; exact h.1
    | succ i => exact h2 i _ _ hi hp
  | [], _ :: _, h => h.elim
  | _ :: _, [], h => h.elim
theorem allF_of {fs : List Field} {t : TypeId} {ds : List (DataW H)} (hl : ∀ (j : Nat) (f : Field) (d : DataW H), fs[j]? = some f → ds[j]? = some d → Light Tryz.prog f.type d) : ∀ {ts : List TypeId} {Ps : List (List V → Prop)} {ds' : List (DataW H)} {vss : List (List V)} {k : Nat},
    ts = (fs.map (·.type)).drop k → ds' = ds.drop k → ds'.length = Ps.length → vss.length = Ps.length → ts.length = Ps.length →
    (∀ (i : Nat) (t : TypeId) (P : List V → Prop) (d : DataW H) (vs : List V), ts[i]? = some t → Ps[i]? = some P → ds'[i]? = some d → vss[i]? = some vs → Qo t P d vs) → AllF Ps vss.flatten
  | _, [], _, vss, _, _, _, _, hv, _, _ => by obtain rfl := List.length_eq_zero_iff.1 hv; exact rfl
  | [], _ :: _, _, _, _, _, _, _, _, ht, _ => by cases ht
  | t :: ts, P :: Ps, [], _, _, _, _, hd, _, _, _ => by cases hd
  | t :: ts, P :: Ps, d :: ds', [], _, _, _, _, hv, _, _ => by cases hv
  | t :: ts, P :: Ps, d :: ds', v :: vss, k, e1, e2, h1, h2, h3, h => by
    have g1 : (fs.map (·.type))[k]? = some t := by
      have := congrArg (·[0]?) e1
      rw [List.getElem?_drop] at this; exact this.symm
    have g2 : ds[k]? = some d := by
      have := congrArg (·[0]?) e2
      rw [List.getElem?_drop] at this; exact this.symm
    rw [List.getElem?_map] at g1
    obtain ⟨f, g3, rfl⟩ := Option.map_eq_some_iff.1 g1
    refine ⟨v, vss.flatten, by simp, (h 0 _ P d v rfl rfl rfl rfl).2 (hl k f d g3 g2), allF_of (t := f.type) hl (k := k + 1) ?_ ?_ ?_ ?_ ?_ fun i t P d vs a b c e => h (i + 1) t P d vs a b c e⟩
    · have := congrArg List.tail e1; rwa [List.tail_drop] at this
    · have := congrArg List.tail e2; rwa [List.tail_drop] at this
    · exact Nat.succ.inj h1
    · exact Nat.succ.inj h2
    · exact Nat.succ.inj h3
theorem rdStruct {t : TypeId} {fs : Array Field} {fuel : Nat} {ts : List TypeId} {Ps : List (List V → Prop)} (hu : Tryz.prog.underlying t = some (.struct fs)) (hc : contig Tryz.prog 0 fs.toList = some (Tryz.prog.cellsOf t)) (ht : fs.toList.map (·.type) = ts)
    (h : RdAll enc sp held w fuel ts Ps) : ReadsF Tryz.prog enc sp held w (fuel + 1) t (Qo t (AllF Ps)) := by
  obtain ⟨hlen, hg⟩ := rdAll_get h
  have hl1 : fs.toList.length = ts.length := by rw [← ht, List.length_map]
  refine readsF_mono (readsF_struct hu hc (Qs := (ts.zip Ps).map fun p => Qo p.1 p.2) (by rw [List.length_map, List.length_zip, hl1]; omega) ?_) ?_
  · intro i f Q hf hQ
    rw [List.getElem?_map] at hQ
    obtain ⟨⟨t', P⟩, hz, rfl⟩ := Option.map_eq_some_iff.1 hQ
    obtain ⟨h1, h2⟩ := List.getElem?_zip_eq_some.1 hz
    have : ts[i]? = some f.type := by rw [← ht, List.getElem?_map, hf]; rfl
    rw [this] at h1
    obtain rfl := Option.some.inj h1
    exact hg i _ P this h2
  · rintro d vs ⟨ds, vss, rfl, rfl, h1, h2, h3⟩
    rw [List.length_map, List.length_zip] at h1 h2
    have hpart : ∀ (i : Nat) (t' : TypeId) (P : List V → Prop) (d : DataW H) (vs : List V), ts[i]? = some t' → Ps[i]? = some P → ds[i]? = some d → vss[i]? = some vs → Qo t' P d vs := fun i t' P d vs a b c e => by
      refine h3 i _ d vs ?_ c e
      rw [List.getElem?_map, (List.getElem?_zip_eq_some (z := (t', P))).2 ⟨a, b⟩]; rfl
    refine ⟨?_, fun hl => ?_⟩
    · have := (bulk_parts (ds := ds) (vss := vss) (by omega) fun i d vs a b => by
        have hi : i < ds.length := (List.getElem?_eq_some_iff.1 a).1
        exact (hpart i _ _ d vs (List.getElem?_eq_getElem (by omega)) (List.getElem?_eq_getElem (by omega)) a b).1).2
      simp only [Rows.uptoBulk]; omega
    · exact allF_of (t := t) (fs := fs.toList) (ds := ds) (fun j f d hf hd => light_part hu hl hf hd) (ts := ts) (ds' := ds) (k := 0) ht.symm rfl (by omega) (by omega) hlen hpart
theorem rdSlice {t e : TypeId} {fuel n b : Nat} {α : Type} {C : α → List V} {B : α → Prop} (hu : Tryz.prog.underlying t = some (.slice e)) (hn : Tryz.prog.cellsOf e = n) (hb : Tryz.prog.bytesOf e = b) (h : ReadsF Tryz.prog enc sp held w fuel e (Qo e (PX C B))) :
    ReadsF Tryz.prog enc sp held w (fuel + 1) t (Qo t (PL n b C B)) := by
  refine readsF_mono (readsF_slice hu h) ?_
  rintro d vs ⟨xs, rfl, h2⟩
  rw [hn]
  rcases h2 with ⟨rfl, rfl⟩ | ⟨elems, spare, rfl, h3, h4⟩
  · exact ⟨by simp [vszL, vsz, vszX, Rows.uptoBulk], fun _ => ⟨[], rfl, by simp [LB], fun _ h => by cases h⟩⟩
  · refine ⟨?_, fun hl => ?_⟩
    · have := (bulk_parts (ds := elems) (vss := xs) h3 fun i d vs a b => (h4 i d vs a b).1).1
      simp only [vszL, vsz, Rows.uptoBulk]; omega
    · obtain ⟨k1, k2⟩ := light_slice hu hl
      obtain ⟨l, rfl, hp⟩ := ex_list (f := C) (p := B) (xs := xs) fun x hx => by
        obtain ⟨i, hi⟩ := List.mem_iff_getElem?.1 hx
        have hil : i < elems.length := by rw [← h3]; exact (List.getElem?_eq_some_iff.1 hi).1
        have hd := List.getElem?_eq_getElem hil
        exact (h4 i _ x hd hi).2 (k2 _ (List.getElem_mem hil))
      refine ⟨l, rfl, ?_, hp⟩
      rw [List.length_map] at h3
      rw [h3]
      rw [hb] at k1
      unfold reachBytes at k1
      omega
theorem rdI {t : TypeId} (hu : Tryz.prog.underlying t = some (.int .i64)) (fuel : Nat) : ReadsF Tryz.prog enc sp held w fuel t (Qo t PI) :=
  readsF_mono (reads_int hu fuel) fun d _ ⟨n, _, _, h⟩ => ⟨by rw [h]; exact bulk_one d, fun _ => ⟨n, h⟩⟩
theorem rdS {t : TypeId} (hu : Tryz.prog.underlying t = some .string) (fuel : Nat) : ReadsF Tryz.prog enc sp held w fuel t (Qo t PS) :=
  readsF_mono (reads_str hu fuel) fun d _ ⟨n, e, h⟩ => ⟨by rw [h, e]; simp [vszL, vsz, Rows.uptoBulk], fun _ => ⟨n, h⟩⟩
theorem rdS1 {t : TypeId} (hu : Tryz.prog.underlying t = some .string) (fuel : Nat) : ReadsF Tryz.prog enc sp held w fuel t (Qo t (PX stC fun _ => True)) :=
  readsF_mono (reads_str hu fuel) fun d _ ⟨n, e, h⟩ => ⟨by rw [h, e]; simp [vszL, vsz, Rows.uptoBulk], fun _ => ⟨n, h, trivial⟩⟩
theorem rdMono {t : TypeId} {P Q : List V → Prop} {fuel : Nat} (h : ReadsF Tryz.prog enc sp held w fuel t (Qo t P)) (hpq : ∀ vs, P vs → Q vs) : ReadsF Tryz.prog enc sp held w fuel t (Qo t Q) :=
  readsF_mono h fun _ vs h => ⟨h.1, fun hl => hpq vs (h.2 hl)⟩
theorem rd0 {t : TypeId} {Q : DataW H → List V → Prop} : ReadsF Tryz.prog enc sp held w 0 t Q := by intro cs d ps h; cases h

/-- A struct that is handed in. -/
theorem open_structP {t : TypeId} {fs : Array Field} {r : Reach} {b0 : Nat} {v : Value} {d : DataW H} {ps : List MemPlace} (hu : Tryz.prog.underlying t = some (.struct fs)) (hval : Value.okWide Tryz.prog w r b0 t v) {P : List V → Prop} (hr : ∀ fuel, ReadsF Tryz.prog enc sp held w fuel t (Qo t P))
    (hd : DataW.Trod enc Tryz.prog w 0 sp held t v d ps) : ∃ vs, RepL w (gh0 w) [.agg vs] [v] [] ∧ vszL vs ≤ Rows.uptoBulk d ∧ (Light Tryz.prog t d → P vs) := by
  unfold Value.okWide at hval
  rw [hu] at hval
  obtain ⟨cs, rfl, _, _⟩ := hval
  obtain ⟨fuel, h⟩ := hd
  obtain ⟨vs, h1, h2⟩ := hr fuel _ d ps h
  exact ⟨vs, .agg (acs := cs.toList) (b1 := []) (bl := []) (RepI.toL h1) .nil, h2⟩
end
end Go.Proofs.YtoaohapbbnpbeaaGreat.Vm
namespace Go.Proofs.YtoaohapbbnpbeaaGreat.Vm
open Go Go.RowKit Go.WideShapes
set_option maxRecDepth 4000
theorem under4 : Tryz.prog.underlying 4 = some (.bool) := by kernel_rfl
theorem under3 : Tryz.prog.underlying 3 = some (.int .i64) := by kernel_rfl
theorem under2 : Tryz.prog.underlying 2 = some (.int .i64) := by kernel_rfl
theorem under9 : Tryz.prog.underlying 9 = some (.string) := by kernel_rfl
theorem under24 : Tryz.prog.underlying 24 = some (.slice 63) := by kernel_rfl
theorem under25 : Tryz.prog.underlying 25 = some (.slice 117) := by kernel_rfl
theorem under115 : Tryz.prog.underlying 115 = some (.slice 119) := by kernel_rfl
theorem under23 : Tryz.prog.underlying 23 = some (.slice 29) := by kernel_rfl
theorem under58 : Tryz.prog.underlying 58 = some (.slice 60) := by kernel_rfl
theorem under61 : Tryz.prog.underlying 61 = some (.slice 114) := by kernel_rfl
theorem under22 : Tryz.prog.underlying 22 = some (.slice 9) := by kernel_rfl
noncomputable def fsPa : Array Field := match Tryz.prog.underlying 60 with | some (.struct fs) => fs | _ => #[]
theorem under60 : Tryz.prog.underlying 60 = some (.struct fsPa) := by kernel_rfl
theorem contigPa : contig Tryz.prog 0 fsPa.toList = some (Tryz.prog.cellsOf 60) := by kernel_rfl
theorem typesPa : fsPa.toList.map (·.type) = [3, 9, 2, 58, 27] := by kernel_rfl
theorem cellsPa : Tryz.prog.cellsOf 60 = 6 := by kernel_rfl
theorem bytesPa : Tryz.prog.bytesOf 60 = 72 := by kernel_rfl
noncomputable def fsEx : Array Field := match Tryz.prog.underlying 29 with | some (.struct fs) => fs | _ => #[]
theorem under29 : Tryz.prog.underlying 29 = some (.struct fsEx) := by kernel_rfl
theorem contigEx : contig Tryz.prog 0 fsEx.toList = some (Tryz.prog.cellsOf 29) := by kernel_rfl
theorem typesEx : fsEx.toList.map (·.type) = [3, 9, 2, 22, 23, 24, 25, 27] := by kernel_rfl
theorem cellsEx : Tryz.prog.cellsOf 29 = 9 := by kernel_rfl
theorem bytesEx : Tryz.prog.bytesOf 29 = 144 := by kernel_rfl
noncomputable def fsAl : Array Field := match Tryz.prog.underlying 63 with | some (.struct fs) => fs | _ => #[]
theorem under63 : Tryz.prog.underlying 63 = some (.struct fsAl) := by kernel_rfl
theorem contigAl : contig Tryz.prog 0 fsAl.toList = some (Tryz.prog.cellsOf 63) := by kernel_rfl
theorem typesAl : fsAl.toList.map (·.type) = [60, 61] := by kernel_rfl
theorem cellsAl : Tryz.prog.cellsOf 63 = 7 := by kernel_rfl
theorem bytesAl : Tryz.prog.bytesOf 63 = 96 := by kernel_rfl
noncomputable def fsRh : Array Field := match Tryz.prog.underlying 114 with | some (.struct fs) => fs | _ => #[]
theorem under114 : Tryz.prog.underlying 114 = some (.struct fsRh) := by kernel_rfl
theorem contigRh : contig Tryz.prog 0 fsRh.toList = some (Tryz.prog.cellsOf 114) := by kernel_rfl
theorem typesRh : fsRh.toList.map (·.type) = [23, 29] := by kernel_rfl
theorem cellsRh : Tryz.prog.cellsOf 114 = 10 := by kernel_rfl
theorem bytesRh : Tryz.prog.bytesOf 114 = 168 := by kernel_rfl
noncomputable def fsCl : Array Field := match Tryz.prog.underlying 119 with | some (.struct fs) => fs | _ => #[]
theorem under119 : Tryz.prog.underlying 119 = some (.struct fsCl) := by kernel_rfl
theorem contigCl : contig Tryz.prog 0 fsCl.toList = some (Tryz.prog.cellsOf 119) := by kernel_rfl
theorem typesCl : fsCl.toList.map (·.type) = [58, 61] := by kernel_rfl
theorem cellsCl : Tryz.prog.cellsOf 119 = 2 := by kernel_rfl
theorem bytesCl : Tryz.prog.bytesOf 119 = 48 := by kernel_rfl
noncomputable def fsBi : Array Field := match Tryz.prog.underlying 117 with | some (.struct fs) => fs | _ => #[]
theorem under117 : Tryz.prog.underlying 117 = some (.struct fsBi) := by kernel_rfl
theorem contigBi : contig Tryz.prog 0 fsBi.toList = some (Tryz.prog.cellsOf 117) := by kernel_rfl
theorem typesBi : fsBi.toList.map (·.type) = [9, 115, 27] := by kernel_rfl
theorem cellsBi : Tryz.prog.cellsOf 117 = 4 := by kernel_rfl
theorem bytesBi : Tryz.prog.bytesOf 117 = 56 := by kernel_rfl
noncomputable def fsPos : Array Field := match Tryz.prog.underlying 27 with | some (.struct fs) => fs | _ => #[]
theorem under27 : Tryz.prog.underlying 27 = some (.struct fsPos) := by kernel_rfl
theorem contigPos : contig Tryz.prog 0 fsPos.toList = some (Tryz.prog.cellsOf 27) := by kernel_rfl
theorem typesPos : fsPos.toList.map (·.type) = [3, 3] := by kernel_rfl
theorem cellsPos : Tryz.prog.cellsOf 27 = 2 := by kernel_rfl
theorem bytesPos : Tryz.prog.bytesOf 27 = 16 := by kernel_rfl
theorem cellsStr : Tryz.prog.cellsOf 9 = 1 := by kernel_rfl
theorem bytesStr : Tryz.prog.bytesOf 9 = 16 := by kernel_rfl
section
variable {w : World} {H : Type} {enc : TypeId × Value → H} {sp : Nat → Bool} {held : Bool}
theorem rdStrs : ∀ fuel, ReadsF Tryz.prog enc sp held w fuel 22 (Qo 22 (PL 1 16 stC fun _ => True))
  | 0 => rd0
  | fuel + 1 => rdSlice under22 cellsStr bytesStr (rdS1 under9 fuel)
theorem rdPos : ∀ fuel, ReadsF Tryz.prog enc sp held w fuel 27 (Qo 27 PPos)
  | 0 => rd0
  | fuel + 1 => rdMono (rdStruct (Ps := [PI, PI]) under27 contigPos typesPos ⟨rdI under3 _, rdI under3 _, trivial⟩) fun vs h => by
    obtain ⟨_, _, rfl, ⟨l, rfl⟩, _, _, rfl, ⟨c, rfl⟩, rfl⟩ := h
    exact ⟨l, c, rfl⟩
structure RdPa (enc : TypeId × Value → H) (sp : Nat → Bool) (held : Bool) (w : World) (fuel : Nat) : Prop where
  xPa : ReadsF Tryz.prog enc sp held w fuel 60 (Qo 60 (PX paC PaB))
  lPa : ReadsF Tryz.prog enc sp held w fuel 58 (Qo 58 (PL 6 72 paC PaB))
theorem allPa : ∀ fuel, RdPa enc sp held w fuel
  | 0 => ⟨rd0, rd0⟩
  | fuel + 1 => by
    have ih : RdPa enc sp held w fuel := allPa fuel
    refine ⟨?_, ?_⟩
    · exact rdMono (rdStruct (Ps := [PI, PS, PI, PL 6 72 paC PaB, PPos]) under60 contigPa typesPa ⟨rdI under3 fuel, rdS under9 fuel, rdI under2 fuel, ih.lPa, rdPos fuel, trivial⟩) fun vs h => by
        obtain ⟨_, _, rfl, ⟨k, rfl⟩, _, _, rfl, ⟨s, rfl⟩, _, _, rfl, ⟨n, rfl⟩, _, _, rfl, ⟨xs, rfl, xs1, xs2⟩, _, _, rfl, ⟨l, c, rfl⟩, rfl⟩ := h
        exact ⟨.mk k s n xs l c, by rw [paC_eq]; simp, .mk xs1 xs2⟩
    · exact rdSlice (by kernel_rfl) cellsPa bytesPa ih.xPa
theorem rdPa (fuel : Nat) : ReadsF Tryz.prog enc sp held w fuel 60 (Qo 60 (PX paC PaB)) := (allPa fuel).xPa
theorem rdPas (fuel : Nat) : ReadsF Tryz.prog enc sp held w fuel 58 (Qo 58 (PL 6 72 paC PaB)) := (allPa fuel).lPa
structure RdEx (enc : TypeId × Value → H) (sp : Nat → Bool) (held : Bool) (w : World) (fuel : Nat) : Prop where
  xEx : ReadsF Tryz.prog enc sp held w fuel 29 (Qo 29 (PX exC ExB))
  lEx : ReadsF Tryz.prog enc sp held w fuel 23 (Qo 23 (PL 9 144 exC ExB))
  xAl : ReadsF Tryz.prog enc sp held w fuel 63 (Qo 63 (PX alC AlB))
  lAl : ReadsF Tryz.prog enc sp held w fuel 24 (Qo 24 (PL 7 96 alC AlB))
  xRh : ReadsF Tryz.prog enc sp held w fuel 114 (Qo 114 (PX rhC RhB))
  lRh : ReadsF Tryz.prog enc sp held w fuel 61 (Qo 61 (PL 10 168 rhC RhB))
  xCl : ReadsF Tryz.prog enc sp held w fuel 119 (Qo 119 (PX clC ClB))
  lCl : ReadsF Tryz.prog enc sp held w fuel 115 (Qo 115 (PL 2 48 clC ClB))
  xBi : ReadsF Tryz.prog enc sp held w fuel 117 (Qo 117 (PX biC BiB))
  lBi : ReadsF Tryz.prog enc sp held w fuel 25 (Qo 25 (PL 4 56 biC BiB))
theorem allEx : ∀ fuel, RdEx enc sp held w fuel
  | 0 => ⟨rd0, rd0, rd0, rd0, rd0, rd0, rd0, rd0, rd0, rd0⟩
  | fuel + 1 => by
    have ih : RdEx enc sp held w fuel := allEx fuel
    refine ⟨?_, ?_, ?_, ?_, ?_, ?_, ?_, ?_, ?_, ?_⟩
    · exact rdMono (rdStruct (Ps := [PI, PS, PI, PL 1 16 stC fun _ => True, PL 9 144 exC ExB, PL 7 96 alC AlB, PL 4 56 biC BiB, PPos]) under29 contigEx typesEx ⟨rdI under3 fuel, rdS under9 fuel, rdI under2 fuel, rdStrs fuel, ih.lEx, ih.lAl, ih.lBi, rdPos fuel, trivial⟩) fun vs h => by
        obtain ⟨_, _, rfl, ⟨k, rfl⟩, _, _, rfl, ⟨s, rfl⟩, _, _, rfl, ⟨n, rfl⟩, _, _, rfl, ⟨ps, rfl, ps1, ps2⟩, _, _, rfl, ⟨xs, rfl, xs1, xs2⟩, _, _, rfl, ⟨al, rfl, al1, al2⟩, _, _, rfl, ⟨bs, rfl, bs1, bs2⟩, _, _, rfl, ⟨l, c, rfl⟩, rfl⟩ := h
        exact ⟨.mk k s n ps xs al bs l c, by rw [exC_eq]; simp, .mk ps1 xs1 al1 bs1 xs2 al2 bs2⟩
    · exact rdSlice (by kernel_rfl) cellsEx bytesEx ih.xEx
    · exact rdMono (rdStruct (Ps := [PX paC PaB, PL 10 168 rhC RhB]) under63 contigAl typesAl ⟨rdPa fuel, ih.lRh, trivial⟩) fun vs h => by
        obtain ⟨_, _, rfl, ⟨q, rfl, qB⟩, _, _, rfl, ⟨rs, rfl, rs1, rs2⟩, rfl⟩ := h
        exact ⟨.mk q rs, by rw [alC_eq]; simp, .mk qB rs1 rs2⟩
    · exact rdSlice (by kernel_rfl) cellsAl bytesAl ih.xAl
    · exact rdMono (rdStruct (Ps := [PL 9 144 exC ExB, PX exC ExB]) under114 contigRh typesRh ⟨ih.lEx, ih.xEx, trivial⟩) fun vs h => by
        obtain ⟨_, _, rfl, ⟨g, rfl, g1, g2⟩, _, _, rfl, ⟨b, rfl, bB⟩, rfl⟩ := h
        exact ⟨.mk g b, by rw [rhC_eq]; simp, .mk g1 g2 bB⟩
    · exact rdSlice (by kernel_rfl) cellsRh bytesRh ih.xRh
    · exact rdMono (rdStruct (Ps := [PL 6 72 paC PaB, PL 10 168 rhC RhB]) under119 contigCl typesCl ⟨rdPas fuel, ih.lRh, trivial⟩) fun vs h => by
        obtain ⟨_, _, rfl, ⟨ps, rfl, ps1, ps2⟩, _, _, rfl, ⟨rs, rfl, rs1, rs2⟩, rfl⟩ := h
        exact ⟨.mk ps rs, by rw [clC_eq]; simp, .mk ps1 ps2 rs1 rs2⟩
    · exact rdSlice (by kernel_rfl) cellsCl bytesCl ih.xCl
    · exact rdMono (rdStruct (Ps := [PS, PL 2 48 clC ClB, PPos]) under117 contigBi typesBi ⟨rdS under9 fuel, ih.lCl, rdPos fuel, trivial⟩) fun vs h => by
        obtain ⟨_, _, rfl, ⟨s, rfl⟩, _, _, rfl, ⟨cs, rfl, cs1, cs2⟩, _, _, rfl, ⟨l, c, rfl⟩, rfl⟩ := h
        exact ⟨.mk s cs l c, by rw [biC_eq]; simp, .mk cs1 cs2⟩
    · exact rdSlice (by kernel_rfl) cellsBi bytesBi ih.xBi
theorem rdEx (fuel : Nat) : ReadsF Tryz.prog enc sp held w fuel 29 (Qo 29 (PX exC ExB)) := (allEx fuel).xEx
theorem rdExs (fuel : Nat) : ReadsF Tryz.prog enc sp held w fuel 23 (Qo 23 (PL 9 144 exC ExB)) := (allEx fuel).lEx
theorem rdAl (fuel : Nat) : ReadsF Tryz.prog enc sp held w fuel 63 (Qo 63 (PX alC AlB)) := (allEx fuel).xAl
theorem rdAls (fuel : Nat) : ReadsF Tryz.prog enc sp held w fuel 24 (Qo 24 (PL 7 96 alC AlB)) := (allEx fuel).lAl
theorem rdRh (fuel : Nat) : ReadsF Tryz.prog enc sp held w fuel 114 (Qo 114 (PX rhC RhB)) := (allEx fuel).xRh
theorem rdRhs (fuel : Nat) : ReadsF Tryz.prog enc sp held w fuel 61 (Qo 61 (PL 10 168 rhC RhB)) := (allEx fuel).lRh
theorem rdCl (fuel : Nat) : ReadsF Tryz.prog enc sp held w fuel 119 (Qo 119 (PX clC ClB)) := (allEx fuel).xCl
theorem rdCls (fuel : Nat) : ReadsF Tryz.prog enc sp held w fuel 115 (Qo 115 (PL 2 48 clC ClB)) := (allEx fuel).lCl
theorem rdBi (fuel : Nat) : ReadsF Tryz.prog enc sp held w fuel 117 (Qo 117 (PX biC BiB)) := (allEx fuel).xBi
theorem rdBis (fuel : Nat) : ReadsF Tryz.prog enc sp held w fuel 25 (Qo 25 (PL 4 56 biC BiB)) := (allEx fuel).lBi
end
end Go.Proofs.YtoaohapbbnpbeaaGreat.Vm
