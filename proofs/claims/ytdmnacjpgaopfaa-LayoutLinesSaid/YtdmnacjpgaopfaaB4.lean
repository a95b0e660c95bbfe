/-
The layout, part 20: the reference's Lay.
The layout, part 21: the laws of any tokens.
The value machine, part 34: structs as a law is handed them.
The layout, part 24: tokens as a law is handed them.
The tokens of any source, part 1: skip, remark: places stay within the source.
The tokens of any source, part 2: what a token is.
The tokens of any source, part 3: a token.
The tokens of any source, part 4: the token that begins here.
The tokens of any source, part 5: all tokens.
The layout, part 23: any source's tokens; lines moved to the right.
The layout, part 22: lines of one column.
-/
import Derived.Test.YtdmnacjpgaopfaaB3
import Derived.Test.YtdmnacjpgaopfaaB2
namespace Go.Proofs.Ytdmnacjpgaopfaa.Vm
open Go
set_option linter.unusedSimpArgs false

/-- The locals of the reference's Lay. -/
structure LstH (H : Heap) (s : LS) (ln co : Int) (q : Option Nat) (fv : V) : Prop where
  c0 : getCells H 0 0 = some [.sl true 6 (s.out.map tokC), fv, .bool s.due]
  c1 : getCells H 1 0 = some [.int .i64 ln, .int .i64 co]
  fr : FrR H s.fs q fv
  n0 : q ≠ some 0
  n1 : q ≠ some 1
theorem LstH.next {H : Heap} {s : LS} {ln co : Int} {q : Option Nat} {fv : V} (h : LstH H s ln co q fv) {a b c : V} {H5 : Heap} {q5 : Option Nat} {s5 : LS} {fv5 : V}
    (hg : GrowR (H.set 0 (.cells 0 [a, b, c])) q H5 q5) (hf : FrR H5 s5.fs q5 fv5) : getCells H5 0 0 = some [a, b, c] ∧ LstH (H5.set 0 (boxW s5 fv5)) s5 ln co q5 fv5 := by
  have k0 := hg.keep 0 0 _ h.n0 (gc_same (gc_lt h.c0))
  have k1 := hg.keep 1 0 _ h.n1 (gc_nes h.c1 (by omega))
  have hl := gc_lt h.c1
  have hne : ∀ i, i < 2 → q5 ≠ some i := by
    intro i hi
    rcases hg.qs with e | ⟨_, j, e, hj⟩
    · rw [e]
      rcases (by omega : i = 0 ∨ i = 1) with rfl | rfl
      · exact h.n0
      · exact h.n1
    · rw [e]; intro e2; cases e2; rw [List.length_set] at hj; omega
  exact ⟨k0, gc_same (gc_lt k0), gc_nes k1 (by omega), hf.set (hne 0 (by omega)) _, hne 0 (by omega), hne 1 (by omega)⟩
theorem LstH.at {H : Heap} {s : LS} {ln co : Int} {q : Option Nat} {fv : V} (h : LstH H s ln co q fv) (ln' co' : Int) : LstH (H.set 1 (.cells 0 [.int .i64 ln', .int .i64 co'])) s ln' co' q fv :=
  ⟨gc_nes h.c0 (by omega), gc_same (gc_lt h.c1), h.fr.set h.n1 _, h.n0, h.n1⟩
theorem LstH.made {H : Heap} {s : LS} {ln co : Int} {q : Option Nat} {fv : V} (h : LstH H s ln co q fv) (hb : s.out.length ≤ 1000000000) (x : List UInt8) :
    ∃ L, T Try.prog 29 [.agg [.sl true 6 (s.out.map tokC), fv, .bool s.due], .str x, .agg [.int .i64 ln, .int .i64 co]] (H.set 0 (boxO s fv)) (.agg [.sl true 6 ((s.out ++ [mkT x ln co]).map tokC), fv, .bool s.due]) (H.set 0 (boxO s fv) ++ L) ∧
      getCells (H.set 0 (boxO s fv)) 1 0 = some [.int .i64 ln, .int .i64 co] ∧ getCells (H.set 0 (boxO s fv) ++ L) 1 0 = some [.int .i64 ln, .int .i64 co] ∧ getCells (H.set 0 (boxO s fv) ++ L) 0 0 = some [.sl false 6 (s.out.map tokC), fv, .bool s.due] ∧
      LstH ((H.set 0 (boxO s fv) ++ L).set 0 (boxW ⟨s.out ++ [mkT x ln co], s.fs, s.due⟩ fv)) ⟨s.out ++ [mkT x ln co], s.fs, s.due⟩ ln co q fv := by
  obtain ⟨r, H2, hT, rfl, L, rfl⟩ := made_T (H := H.set 0 (boxO s fv)) (s := s) h.fr.plain.1 h.fr.plain.2.1 h.fr.plain.2.2 hb x ln co
  have k1 : getCells (H.set 0 (boxO s fv)) 1 0 = some [.int .i64 ln, .int .i64 co] := gc_nes h.c1 (by omega)
  obtain ⟨k2, k3⟩ := h.next (a := .sl false 6 (s.out.map tokC)) (b := fv) (c := .bool s.due) (s5 := ⟨s.out ++ [mkT x ln co], s.fs, s.due⟩) (fv5 := fv) (GrowR.local L) ((h.fr.set h.n0 _).local L)
  exact ⟨L, hT, k1, gc_low k1, k2, k3⟩
theorem prev_last : ∀ (a : List Tok) (p : Int × Int), a ≠ [] → prevOf none a = some (lastAt p a).1 := by
  intro a p ha
  obtain ⟨b, t, rfl⟩ : ∃ b t, a = b ++ [t] := ⟨a.dropLast, a.getLast ha, (List.dropLast_concat_getLast ha).symm⟩
  rw [prevOf_snoc, lastAt_snoc]
def s15z : VCode := .seq (.seq (.region [
     ⟨(some 48), (.fieldAddr 1), [.t 3], [], none⟩,
     ⟨(some 49), (.load 1 false), [.t 48], [], none⟩,
     ⟨(some 50), .len, [.t 49], [], none⟩,
     ⟨(some 51), (.bin .sub), [.t 50, .c (.int .i64 1)], [], none⟩,
     ⟨(some 7), .mv, [.t 51], [], none⟩] [3, 4, 7])
   (.block 2 (.loop (.seq (.seq (.region [
        ⟨(some 52), .mv, [.t 7], [], none⟩,
        ⟨(some 53), (.bin .geq), [.t 52, .c (.int .i64 0)], [], none⟩] [3, 4, 7, 53])
      (.cond (.t 53)
       (.skip)
       (.exit 2)))
     (.seq (.block 3 (.seq (.region [
         ⟨(some 56), (.fieldAddr 1), [.t 3], [], none⟩,
         ⟨(some 57), (.load 1 false), [.t 56], [], none⟩,
         ⟨(some 58), .mv, [.t 7], [], none⟩,
         ⟨(some 59), (.indexAddr 2), [.t 57, .t 58], [], none⟩,
         ⟨(some 60), (.fieldAddr 0), [.t 59], [], none⟩,
         ⟨(some 61), (.load 1 false), [.t 60], [], none⟩,
         ⟨(some 62), (.bin .eql), [.t 61, .c (.str [98, 108, 111, 99, 107])], [], none⟩] [3, 4, 7, 62])
       (.cond (.t 62)
        (.region [
         ⟨(some 63), (.loadT 3 true), [.t 3], [], none⟩,
         ⟨(some 64), (.load 2 true), [.t 4], [], none⟩,
         ⟨(some 65), (.call .wr), [.c (.fn 29 []), .t 63, .c (.str [125]), .t 64], [63], none⟩,
         ⟨none, (.store 3), [.t 3, .t 65], [65], none⟩] [3, 4, 7])
        (.skip))))
     (.region [
      ⟨(some 54), .mv, [.t 7], [], none⟩,
      ⟨(some 55), (.bin .sub), [.t 54, .c (.int .i64 1)], [], none⟩,
      ⟨(some 7), .mv, [.t 55], [], none⟩] [3, 4, 7]))))))
  (.seq (.region [
    ⟨(some 66), (.fieldAddr 0), [.t 3], [], none⟩,
    ⟨(some 67), (.load 1 false), [.t 66], [], none⟩,
    ⟨(some 2), .mv, [.t 67], [67], none⟩] [2])
  (.ret))
def s15a : VCode := .seq (.region [
     ⟨(some 41), (.fieldAddr 2), [.t 3], [], none⟩,
     ⟨(some 42), (.load 1 false), [.t 41], [], none⟩] [3, 4, 42])
   (.cond (.t 42)
    (.region [
     ⟨(some 43), (.loadT 3 true), [.t 3], [], none⟩,
     ⟨(some 44), (.load 2 true), [.t 4], [], none⟩,
     ⟨(some 45), (.call .gr), [.c (.fn 29 []), .t 43, .c (.str [123]), .t 44], [43], none⟩,
     ⟨(some 46), (.load 2 true), [.t 4], [], none⟩,
     ⟨(some 47), (.call .wr), [.c (.fn 29 []), .t 45, .c (.str [125]), .t 46], [45], none⟩,
     ⟨none, (.store 3), [.t 3, .t 47], [47], none⟩] [3, 4])
    (.skip))
theorem body15 : v15.body = .seq (.region [
    ⟨(some 2), .mv, [.c (.sl true 6 [])], [], none⟩] [0]) (.seq (.region [
    ⟨(some 8), (.build [.sl true 6 [], .nilh 2, .bool false] [(2, 1)]), [.c (.bool true)], [], none⟩,
    ⟨(some 3), (.alloc [.sl true 6 [], .nilh 2, .bool false]), [], [], none⟩,
    ⟨none, (.store 3), [.t 3, .t 8], [8], none⟩] [0, 3]) (.seq (.region [
    ⟨(some 9), (.build [.int .i64 0, .int .i64 0] [(0, 1), (1, 1)]), [.c (.int .i64 1), .c (.int .i64 1)], [], none⟩,
    ⟨(some 4), (.alloc [.int .i64 0, .int .i64 0]), [], [], none⟩,
    ⟨none, (.store 2), [.t 4, .t 9], [], none⟩] [0, 3, 4]) (.seq (.seq (.region [
     ⟨(some 5), .mv, [.c (.int .i64 0)], [], none⟩] [0, 3, 4, 5])
   (.block 0 (.loop (.seq (.seq (.region [
        ⟨(some 10), .mv, [.t 5], [], none⟩,
        ⟨(some 11), .mv, [.t 0], [], none⟩,
        ⟨(some 12), .len, [.t 11], [], none⟩,
        ⟨(some 13), (.bin .lss), [.t 10, .t 12], [], none⟩] [0, 3, 4, 5, 13])
      (.cond (.t 13)
       (.skip)
       (.exit 0)))
     (.seq (.block 1 (.seq (.region [
         ⟨(some 16), .mv, [.t 5], [], none⟩,
         ⟨(some 17), (.bin .eql), [.t 16, .c (.int .i64 0)], [], none⟩,
         ⟨(some 18), .mv, [.t 17], [], none⟩,
         ⟨(some 19), .mv, [.t 0], [], some (18, false)⟩,
         ⟨(some 20), .mv, [.t 5], [], some (18, false)⟩,
         ⟨(some 21), (.indexAddr 6), [.t 19, .t 20], [], some (18, false)⟩,
         ⟨(some 22), (.fieldAddr 3), [.t 21], [], some (18, false)⟩,
         ⟨(some 23), (.fieldAddr 0), [.t 22], [], some (18, false)⟩,
         ⟨(some 24), (.load 1 false), [.t 23], [], some (18, false)⟩,
         ⟨(some 25), (.fieldAddr 0), [.t 4], [], some (18, false)⟩,
         ⟨(some 26), (.load 1 false), [.t 25], [], some (18, false)⟩,
         ⟨(some 27), (.bin .neq), [.t 24, .t 26], [], some (18, false)⟩,
         ⟨(some 28), .pick, [.t 18, .c (.bool true), .t 27], [], none⟩,
         ⟨(some 6), .mv, [.t 28], [], none⟩] [0, 3, 4, 5, 6])
       (.seq (.region [
         ⟨(some 29), .mv, [.t 0], [], none⟩,
         ⟨(some 30), .mv, [.t 5], [], none⟩,
         ⟨(some 31), (.indexAddr 6), [.t 29, .t 30], [], none⟩,
         ⟨(some 32), (.fieldAddr 3), [.t 31], [], none⟩,
         ⟨(some 33), (.load 2 true), [.t 32], [], none⟩,
         ⟨none, (.store 2), [.t 4, .t 33], [], none⟩] [0, 3, 4, 5, 6])
       (.region [
        ⟨(some 34), (.loadT 3 true), [.t 3], [], none⟩,
        ⟨(some 35), .mv, [.t 0], [], none⟩,
        ⟨(some 36), .mv, [.t 5], [], none⟩,
        ⟨(some 37), (.indexAddr 6), [.t 35, .t 36], [], none⟩,
        ⟨(some 38), (.load 6 true), [.t 37], [], none⟩,
        ⟨(some 39), .mv, [.t 6], [], none⟩,
        ⟨(some 40), (.call .wr), [.c (.fn 28 []), .t 34, .t 38, .t 39], [34], none⟩,
        ⟨none, (.store 3), [.t 3, .t 40], [40], none⟩] [0, 3, 4, 5]))))
     (.region [
      ⟨(some 14), .mv, [.t 5], [], none⟩,
      ⟨(some 15), (.bin .add), [.t 14, .c (.int .i64 1)], [], none⟩,
      ⟨(some 5), .mv, [.t 15], [], none⟩] [0, 3, 4, 5])))))) (.seq s15a s15z)))) := rfl
theorem lay_close {K : KK} {l : List Tok} (hK : (endX 0 [] [.tmp 2] fun r H' => r = toksV false (layL l) ∧ H' = []) = K) {H : Heap} {s : LS} {ln co : Int} {q : Option Nat} {fv : V} (hL : LstH H s ln co q fv) (hb : sz s ≤ 900000000)
    (hlay : layL l = s.out ++ List.replicate (laidN s.fs) (mkT bShut ln co)) (ex : List (Nat × V)) : run Try.prog s15z [] ⟨(3, .ptr 0 0 0) :: (4, .ptr 1 0 0) :: ex, .u⟩ H K := by
  have hend : ∀ (s' : LS) (fv' : V) (E : List (Nat × V)) (H' : Heap), layL l = s'.out → K .ret ⟨(2, .sl false 6 (s'.out.map tokC)) :: E, .u⟩ H' := by
    intro s' fv' E H' he
    rw [← hK]
    refine ⟨trivial, Nat.zero_le _, Nat.zero_le _, fun i ob h _ => absurd h (Nat.not_lt_zero _), toksV false s'.out, by simp [resV, resL, res1, pack, En.f, getE_cons, toksV], toksV false s'.out, rfl, by rw [he], rfl⟩
  have c0 := hL.c0
  have hw : IntKind.i64.wrap (0 - 1) = -1 := rfl
  have hm : (-1 : Int) ≥ 0 ↔ False := by simp
  unfold s15z
  cases q with
  | none =>
    obtain ⟨hfs, rfl⟩ := hL.fr
    simp only [go_sem, ↓reduceIte, ↓c0, ↓run_subW, hw]
    refine WP.loop' (fun _ E H' => H' = H ∧ ∃ ex, E = ⟨(3, .ptr 0 0 0) :: (4, .ptr 1 0 0) :: (7, .int .i64 (-1)) :: ex, .u⟩) (n := 0) ⟨rfl, _, rfl⟩ ?_
    rintro n E H' ⟨rfl, ex, rfl⟩
    simp only [go_sem, ↓reduceIte, hm, decide_false, ↓c0]
    exact hend s .u _ _ (by rw [hlay, hfs]; simp [laidN])
  | some k =>
    obtain ⟨hk6, ver, rest, rfl, h3⟩ := hL.fr
    have hd := dec64 (i := s.fs.length) (by unfold sz at hb; omega)
    simp only [go_sem, ↓reduceIte, ↓c0, ↓run_subW, hd]
    refine WP.loop' (fun n E H' => ∃ s5 pre suf fv5 ex, LstH H' s5 ln co (some k) fv5 ∧ s5.fs = s.fs ∧ s.fs = pre ++ suf ∧ n = suf.length ∧ s5.out = s.out ++ List.replicate (laidN pre) (mkT bShut ln co) ∧
        E = ⟨(3, .ptr 0 0 0) :: (4, .ptr 1 0 0) :: (7, .int .i64 ((suf.length : Int) - 1)) :: ex, .u⟩) (n := s.fs.length)
      ⟨s, [], s.fs, _, [], hL, rfl, rfl, rfl, by simp [laidN], rfl⟩ ?_
    rintro n E H' ⟨s5, pre, suf, fv5, ex, hL5, h5f, hps, rfl, h5o, rfl⟩
    have d0 := hL5.c0
    have hL50 := hL5
    obtain ⟨hk65, ver5, rest5, rfl, e3⟩ := hL5.fr
    cases suf with
    | nil =>
      simp only [go_sem, ↓reduceIte, ↓d0]
      refine ⟨fun h => absurd h (by simp), fun _ => ?_⟩
      exact hend s5 .u _ _ (by rw [hlay, h5o, hps]; simp)
    | cons f r =>
      have hl : s.fs.length = pre.length + (r.length + 1) := by rw [hps]; simp
      have e : (((f :: r).length : Nat) : Int) - 1 = (r.length : Int) := by simp
      have hd2 := dec64 (i := r.length) (by unfold sz at hb; omega)
      have hg := (fr_at (rest := rest5) (h5f.trans hps)).1
      have hlp := laidN_app pre [f]
      rw [laidN_one] at hlp
      have hpl : laidN pre ≤ s.fs.length := by rw [hl]; unfold laidN; have := List.length_filter_le (fun f : Fm => f.k == 0) pre; omega
      have hf6 : f.k ≤ 6 := hk6 f (by rw [hps]; simp)
      have e0 : (nm f.k == [98, 108, 111, 99, 107]) = (f.k == 0) := nm_eq hf6 (j := 0) (by omega)
      have hsl : s5.fs.length = s.fs.length := by rw [h5f]
      rw [e]
      simp only [go_sem, ↓reduceIte, ↓d0, ↓e3, ↓run_subW, hd2, Int.toNat_natCast, hg, e0]
      refine ⟨fun _ => ⟨by omega, by omega, ?_⟩, fun h => absurd h (by omega)⟩
      cases h0 : f.k == 0 with
      | true =>
        have hk : f.k = 0 := by simpa using h0
        obtain ⟨L, hT, m1, m2, m3, hL7⟩ := hL50.made (by unfold sz at hb; rw [h5o]; simp; omega) bShut
        simp only [go_sem, ↓reduceIte, ↓d0, ↓m1, ↓run_subW, hd2, List.map_cons, List.map_nil]
        refine ⟨_, _, hT, ?_⟩
        simp only [go_sem, ↓reduceIte, ↓m3, ↓run_subW, hd2]
        refine ⟨r.length, by simp, _, pre ++ [f], r, _, [], hL7, h5f, by rw [hps]; simp, rfl, ?_, rfl⟩
        simp only
        rw [h5o, hlp, if_pos hk, List.replicate_succ', ← List.append_assoc]
      | false =>
        have hk : ¬ f.k = 0 := by simpa using h0
        simp only [go_sem, ↓reduceIte, ↓run_subW, hd2]
        exact ⟨r.length, by simp, s5, pre ++ [f], r, _, [], hL50, h5f, by rw [hps]; simp, rfl, by rw [h5o, hlp, if_neg hk, Nat.add_zero], rfl⟩
theorem reflay_T (o : Bool) (l : List Tok) (hl : l.length ≤ 100000000) : ∃ r H', T Try.prog 15 [toksV o l] [] r H' ∧ r = toksV false (layL l) ∧ H' = [] := by
  refine T.of_ex mix c15 0 rfl ?_
  generalize hK : endX _ _ _ _ = K
  rw [body15]
  simp only [go_sem, ↓reduceIte, toksV, ↓gc_z, ↓gc_s, List.map_cons, List.map_nil]
  refine WP.loop' (fun m E H => ∃ i ln co q fv ex, i + m = l.length ∧ LstH H (runS s0 none (l.take i)) ln co q fv ∧ (ln, co) = lastAt (1, 1) (l.take i) ∧
      E = ⟨(0, toksV o l) :: (3, .ptr 0 0 0) :: (4, .ptr 1 0 0) :: (5, .int .i64 i) :: ex, .u⟩) (n := l.length)
    ⟨0, 1, 1, none, .nilh 2, [], by omega, ⟨rfl, rfl, ⟨rfl, rfl⟩, by simp, by simp⟩, rfl, by simp [toksV]⟩ ?_
  rintro m E H ⟨i, ln, co, q, fv, ex, hi, hL, hat, rfl⟩
  have hsz := sz_run (l.take i) s0 none
  have hs0 : sz s0 = 0 := rfl
  rw [List.length_take, hs0] at hsz
  have hwi := inc64 (i := i) (by omega)
  by_cases hil : i < l.length
  · obtain ⟨t, ht⟩ : ∃ t, l[i]? = some t := ⟨_, List.getElem?_eq_getElem hil⟩
    have htk : l.take (i + 1) = l.take i ++ [t] := by rw [List.take_add_one, ht]; rfl
    have hfirst : (i == 0 || t.ln != ln) = (prevOf none (l.take i) != some t.ln) := by
      by_cases h0 : i = 0
      · subst h0; rfl
      · have : l.take i ≠ [] := by
          intro e; have := congrArg List.length e; rw [List.length_take, List.length_nil] at this; omega
        rw [prev_last _ (1, 1) this, ← hat]
        have e0 : (i == 0) = false := by simpa using h0
        rw [e0, Bool.false_or]
        by_cases e : t.ln = ln
        · rw [e]; simp
        · have e1 : (t.ln == ln) = false := by simpa using e
          have e2 : (some ln == some t.ln) = false := by
            rw [beq_eq_false_iff_ne]; intro h; exact e (Option.some.inj h).symm
          simp only [bne, e1, e2]
    have hs1 := runS_snoc (l.take i) s0 none t
    rw [← htk, ← hfirst] at hs1
    have hl1 : lastAt (1, 1) (l.take (i + 1)) = (t.ln, t.co) := by rw [htk, lastAt_snoc]
    have ht6 : (List.map tokC l)[i]? = some [.int .i64 t.k, .str t.s, .int .i64 t.n, .int .i64 t.ln, .int .i64 t.co, .bool t.md] := by rw [List.getElem?_map, ht]; rfl
    have c0 := hL.c0
    have c1 := hL.c1
    have h0i : (0 : Int) ≤ (i : Int) ↔ True := ⟨fun _ => True.intro, fun _ => by omega⟩
    generalize hsr : runS s0 none (l.take i) = s at hL c0 hsz hs1
    have hLa := hL.at t.ln t.co
    have d0 := hLa.c0
    have d1 := hLa.c1
    obtain ⟨hp1, hp2, hp3⟩ := hL.fr.plain
    have hei : ((i : Int) == 0) = (i == 0) := by
      cases i with
      | zero => rfl
      | succ i => simp; omega
    obtain ⟨r5, H5, hT5, q5, fv5, rfl, hf5, hg5⟩ := step_T (hLa.fr.set hLa.n0 (boxO s fv)) (by omega) t (i == 0 || t.ln != ln)
    obtain ⟨k0, hL5⟩ := hLa.next hg5 hf5
    obtain ⟨z1, z2, z3⟩ := hf5.plain
    simp only [stV, toksV, tokC] at hT5
    simp only [go_sem, ↓reduceIte, toksV, ↓c0, ↓c1, hei]
    refine ⟨fun _ => ?_, fun h => absurd h (by omega)⟩
    cases hi0 : i == 0 with
    | true =>
      rw [hi0] at hT5 hL5 hs1
      simp only [Bool.true_or] at hT5 hL5 hs1
      refine ⟨fun h => (nomatch h), fun _ => ?_⟩
      simp only [go_sem, ↓reduceIte, toksV, ↓c0, ↓c1, ↓d0, ↓d1, ht6, ex_is, h0i, true_and, Int.toNat_natCast, hp1, hp2, hp3, ↓run_addW, hwi, List.map_cons, List.map_nil]
      refine ⟨_, _, hT5, ?_⟩
      simp only [go_sem, ↓reduceIte, stV, toksV, ↓k0, z1, z2, z3, ↓run_addW, hwi]
      exact ⟨m - 1, by omega, i + 1, t.ln, t.co, q5, fv5, [], by omega, by rw [hs1]; exact hL5, hl1.symm, rfl⟩
    | false =>
      rw [hi0] at hT5 hL5 hs1
      simp only [Bool.false_or] at hT5 hL5 hs1
      refine ⟨fun _ => ?_, fun h => absurd rfl h⟩
      simp only [go_sem, ↓reduceIte, toksV, ↓c0, ↓c1, ↓d0, ↓d1, ht6, ex_is, h0i, true_and, Int.toNat_natCast, hp1, hp2, hp3, ↓run_addW, hwi, List.map_cons, List.map_nil]
      refine ⟨_, _, hT5, ?_⟩
      simp only [go_sem, ↓reduceIte, stV, toksV, ↓k0, z1, z2, z3, ↓run_addW, hwi]
      exact ⟨m - 1, by omega, i + 1, t.ln, t.co, q5, fv5, [], by omega, by rw [hs1]; exact hL5, hl1.symm, rfl⟩
  · have hin : l.take i = l := List.take_of_length_le (by omega)
    rw [hin] at hL hat hsz
    have hlay : layL l = finS (runS s0 none l) (ln, co) := by rw [hat]; rfl
    generalize runS s0 none l = s at hL hlay hsz
    have c0 := hL.c0
    have c1 := hL.c1
    obtain ⟨hp1, hp2, hp3⟩ := hL.fr.plain
    unfold finS at hlay
    simp only [go_sem, ↓reduceIte, toksV, ↓c0, ↓c1, hp1, hp2, hp3]
    refine ⟨fun h => absurd h (by omega), fun _ => ?_⟩
    cases hdue : s.due with
    | true =>
      rw [hdue, if_pos rfl] at hlay
      obtain ⟨L, hT, m1, m2, m3, _⟩ := hL.made (by unfold sz at hsz; omega) bOpen
      obtain ⟨r2, H7, hT2, rfl, L2, rfl⟩ := made_T (H := H.set 0 (boxO s fv) ++ L) (s := ⟨s.out ++ [mkT bOpen ln co], s.fs, s.due⟩) (fv := fv) hp1 hp2 hp3 (by unfold sz at hsz; simp; omega) bShut ln co
      obtain ⟨k2, hL7⟩ := hL.next (a := .sl false 6 (s.out.map tokC)) (b := fv) (c := .bool s.due) (s5 := ⟨s.out ++ [mkT bOpen ln co] ++ [mkT bShut ln co], s.fs, s.due⟩) (fv5 := fv) (GrowR.trans (GrowR.local L) (GrowR.local L2)) (((hL.fr.set hL.n0 _).local L).local L2)
      have hfin := fun (ex : List (Nat × V)) => lay_close hK hL7 (by unfold sz at hsz ⊢; simp; omega) (by rw [hlay]; simp) ex
      simp only [boxO, boxW, stV, toksV, hdue, List.append_assoc, List.cons_append, List.nil_append] at c0 hT m1 m2 m3 hT2 k2 hfin
      unfold s15a
      simp only [go_sem, ↓reduceIte, ↓c0, ↓m1, hp1, hp2, hp3, List.map_cons, List.map_nil]
      refine ⟨_, L, hT, ?_⟩
      simp only [go_sem, ↓reduceIte, ↓m2, List.map_cons, List.map_nil]
      refine ⟨_, _, hT2, ?_⟩
      simp only [go_sem, ↓reduceIte, List.append_assoc, ↓k2, hp1, hp2, hp3]
      exact hfin _
    | false =>
      rw [hdue, if_neg (by simp)] at hlay
      have hfin := fun (ex : List (Nat × V)) => lay_close hK hL (by omega) (by rw [hlay]; simp) ex
      rw [hdue] at c0
      unfold s15a
      simp only [go_sem, ↓reduceIte, ↓c0]
      exact hfin _
end Go.Proofs.Ytdmnacjpgaopfaa.Vm
namespace Go.Proofs.Ytdmnacjpgaopfaa.Vm
open Go
set_option linter.unusedSimpArgs false

theorem toks_ids (m : Nat) (o : Bool) (l : List Tok) : idsL m [toksV o l] = true := rfl
theorem lay_H (o : Bool) (l : List Tok) (hl : l.length ≤ 100000000) (H : Heap) : T Try.prog 14 [toksV o l] H (toksV false (layL l)) H := by
  obtain ⟨r, H', h, rfl, rfl⟩ := lay_T o l hl
  exact h.frame rfl H
theorem reflay_H (o : Bool) (l : List Tok) (hl : l.length ≤ 100000000) (H : Heap) : T Try.prog 15 [toksV o l] H (toksV false (layL l)) H := by
  obtain ⟨r, H', h, rfl, rfl⟩ := reflay_T o l hl
  exact h.frame rfl H
theorem real_H (o : Bool) (l : List Tok) (hl : l.length ≤ 1000000000) (H : Heap) : T Try.prog 16 [toksV o l] H (toksV true (realL l)) H := (real_T o l hl).frame rfl H
theorem plain_H (o : Bool) (l : List Tok) (hl : l.length ≤ 1000000000) (H : Heap) : T Try.prog 17 [toksV o l] H (toksV true (l.filter real)) H := (plain_T o l hl).frame rfl H
theorem braced_H (o : Bool) (l : List Tok) (hl : l.length ≤ 1000000000) (H : Heap) : T Try.prog 18 [toksV o l] H (.bool (brun true l == some false)) H := (braced_T o l hl).frame rfl H
theorem same_H (o p : Bool) (a b : List Tok) (ha : a.length ≤ 1000000000) (H : Heap) : T Try.prog 13 [toksV o a, toksV p b] H (.bool (a == b)) H := (same_T o p a b ha).frame rfl H
theorem real_len (l : List Tok) : (realL l).length = l.length := by simp [realL]
theorem lay_len (l : List Tok) : (layL l).length ≤ 5 * l.length + 5 := by
  have h := sz_run l s0 none
  have hs0 : sz s0 = 0 := rfl
  unfold layL finS
  have hl : laidN (runS s0 none l).fs ≤ (runS s0 none l).fs.length := List.length_filter_le _ _
  unfold sz at h
  simp only [List.length_append, List.length_replicate]
  have h2 : (if (runS s0 none l).due = true then [mkT bOpen (lastAt (1, 1) l).1 (lastAt (1, 1) l).2, mkT bShut (lastAt (1, 1) l).1 (lastAt (1, 1) l).2] else []).length ≤ 2 := by split <;> simp
  have e : (s0.out.length + s0.fs.length) = 0 := rfl
  omega
theorem keepsLaw_T (l : List Tok) : T Try.prog 5 [toksV false l] [] (.bool true) [] := by
  refine T.of0 mix c5 rfl ?_
  unfold v5
  simp only [go_sem, ↓reduceIte, toksV]
  refine ⟨fun h => ⟨_, _, known_H [], ?_⟩, fun h => ?_⟩
  · simp only [go_sem, ↓reduceIte]
  · have hl : l.length ≤ 3000 := by omega
    refine ⟨_, _, real_H false l (by omega) [], ?_⟩
    simp only [go_sem, ↓reduceIte, toksV]
    refine ⟨_, _, lay_H false (realL l) (by rw [real_len]; omega) [], ?_⟩
    simp only [go_sem, ↓reduceIte, toksV]
    have hlen := lay_len (realL l)
    rw [real_len] at hlen
    refine ⟨_, _, plain_H false (layL (realL l)) (by omega) [], ?_⟩
    simp only [go_sem, ↓reduceIte, toksV]
    rw [keeps]
    refine ⟨_, _, same_H true true (realL l) (realL l) (by rw [real_len]; omega) [], ?_⟩
    have e : (realL l == realL l) = true := by simp
    rw [e]
    simp only [go_sem, ↓reduceIte]
    refine ⟨_, _, known_H [], ?_⟩
    simp only [go_sem, ↓reduceIte]
theorem onceLaw_T (l : List Tok) : T Try.prog 7 [toksV false l] [] (.bool true) [] := by
  refine T.of0 mix c7 rfl ?_
  unfold v7
  simp only [go_sem, ↓reduceIte, toksV]
  refine ⟨fun h => ⟨_, _, known_H [], ?_⟩, fun h => ?_⟩
  · simp only [go_sem, ↓reduceIte]
  · have hl : l.length ≤ 3000 := by omega
    have hlen := lay_len l
    refine ⟨_, _, lay_H false l (by omega) [], ?_⟩
    simp only [go_sem, ↓reduceIte, toksV]
    refine ⟨_, _, real_H false (layL l) (by omega) [], ?_⟩
    simp only [go_sem, ↓reduceIte, toksV]
    refine ⟨_, _, lay_H false (realL (layL l)) (by rw [real_len]; omega) [], ?_⟩
    simp only [go_sem, ↓reduceIte, toksV]
    rw [once]
    refine ⟨_, _, same_H false true (realL (layL l)) (realL (layL l)) (by rw [real_len]; omega) [], ?_⟩
    have e : (realL (layL l) == realL (layL l)) = true := by simp
    rw [e]
    simp only [go_sem, ↓reduceIte]
    refine ⟨_, _, known_H [], ?_⟩
    simp only [go_sem, ↓reduceIte]
theorem bracesLaw_T (l : List Tok) : T Try.prog 8 [toksV false l] [] (.bool true) [] := by
  refine T.of0 mix c8 rfl ?_
  unfold v8
  by_cases hl : l.length ≤ 3000
  · have hdec : decide ((l.length : Int) > 3000) = false := decide_eq_false (by omega)
    simp only [go_sem, ↓reduceIte, toksV, hdec]
    refine ⟨_, _, braced_H false l (by omega) [], ?_⟩
    cases hb : brun true l == some false with
    | false =>
      simp only [go_sem, ↓reduceIte]
      refine ⟨_, _, known_H [], ?_⟩
      simp only [go_sem, ↓reduceIte]
    | true =>
      simp only [go_sem, ↓reduceIte, toksV]
      refine ⟨_, _, lay_H false l (by omega) [], ?_⟩
      simp only [go_sem, ↓reduceIte, toksV]
      rw [braces (by simpa using hb)]
      refine ⟨_, _, same_H false false l l (by omega) [], ?_⟩
      have e : (l == l) = true := by simp
      rw [e]
      simp only [go_sem, ↓reduceIte]
      refine ⟨_, _, known_H [], ?_⟩
      simp only [go_sem, ↓reduceIte]
  · have hdec : decide ((l.length : Int) > 3000) = true := decide_eq_true (by omega)
    simp only [go_sem, ↓reduceIte, toksV, hdec]
    refine ⟨_, _, known_H [], ?_⟩
    simp only [go_sem, ↓reduceIte]
theorem realL_get {l : List Tok} {i : Nat} {t : Tok} (h : l[i]? = some t) : (realL l)[i]? = some { t with md := false } := by
  unfold realL; rw [List.getElem?_map, h]; rfl
theorem rawLaw_T (l : List Tok) : T Try.prog 4 [toksV false l] [] (.bool true) [] := by
  refine T.of0 mix c4 rfl ?_
  unfold v4
  simp only [go_sem, ↓reduceIte, toksV]
  refine ⟨fun h => ⟨_, _, known_H [], ?_⟩, fun h => ?_⟩
  · simp only [go_sem, ↓reduceIte]
  · have hl : l.length ≤ 3000 := by omega
    have hlen := lay_len l
    refine ⟨_, _, lay_H false l (by omega) [], ?_⟩
    simp only [go_sem, ↓reduceIte, toksV]
    refine ⟨_, _, reflay_H false l (by omega) [], ?_⟩
    simp only [go_sem, ↓reduceIte, toksV]
    refine ⟨_, _, real_H false l (by omega) [], ?_⟩
    simp only [go_sem, ↓reduceIte, toksV]
    refine ⟨_, _, same_H false false (layL l) (layL l) (by omega) [], ?_⟩
    have e : (layL l == layL l) = true := by simp
    rw [e]
    simp only [go_sem, ↓reduceIte, real_len, bne_self_eq_false]
    refine WP.loop' (fun m E H => ∃ i ex, i + m = l.length ∧
        E = ⟨(0, toksV false l) :: (5, toksV true (realL l)) :: (6, .int .i64 i) :: ex, .u⟩) (n := l.length)
      ⟨0, [], by omega, by simp [toksV]⟩ ?_
    rintro m E H ⟨i, ex, hi, rfl⟩
    have hwi := inc64 (i := i) (by omega)
    simp only [go_sem, ↓reduceIte, toksV, Int.toNat_natCast, ↓run_addW, hwi]
    by_cases hil : i < l.length
    · obtain ⟨t, ht⟩ : ∃ t, l[i]? = some t := ⟨_, List.getElem?_eq_getElem hil⟩
      have ht6 : (List.map tokC l)[i]? = some [.int .i64 t.k, .str t.s, .int .i64 t.n, .int .i64 t.ln, .int .i64 t.co, .bool t.md] := by rw [List.getElem?_map, ht]; rfl
      have hr6 : (List.map tokC (realL l))[i]? = some [.int .i64 t.k, .str t.s, .int .i64 t.n, .int .i64 t.ln, .int .i64 t.co, .bool false] := by rw [List.getElem?_map, realL_get ht]; rfl
      have h0 : (0 : Int) ≤ (i : Int) ↔ True := ⟨fun _ => True.intro, fun _ => by omega⟩
      have heq := eqCells_tok { t with md := false } { t with md := false }
      simp only [tokC, beq_self_eq_true] at heq
      refine ⟨fun _ => ?_, fun h => absurd h (by omega)⟩
      simp only [go_sem, ↓reduceIte, toksV, Int.toNat_natCast, ht6, hr6, ex_is, h0, true_and, ↓gc_new, set_last, List.map_cons, List.map_nil, ↓run_addW, hwi]
      refine ⟨true, heq, fun h => (nomatch h), fun _ => ⟨m - 1, by omega, i + 1, [], by omega, rfl⟩⟩
    · refine ⟨fun h => absurd h (by omega), fun _ => ⟨_, _, known_H H, ?_⟩⟩
      simp only [go_sem, ↓reduceIte]
/-! ### LayoutPairs -/
theorem pairs_none {l : List Tok} {i : Nat} {n : Nat} (h : pairs (l.take i) 0 = some n) (hall : pairs l 0 = some 0) : pairs (l.drop i) n = some 0 := by
  rw [← List.take_append_drop i l, pairs_app, h] at hall; exact hall
theorem pairsLaw_T (l : List Tok) : T Try.prog 6 [toksV false l] [] (.bool true) [] := by
  refine T.of0 mix c6 rfl ?_
  unfold v6
  simp only [go_sem, ↓reduceIte, toksV]
  refine ⟨fun h => ⟨_, _, known_H [], ?_⟩, fun h => ?_⟩
  · simp only [go_sem, ↓reduceIte]
  · have hl : l.length ≤ 3000 := by omega
    have hlen := lay_len (realL l)
    rw [real_len] at hlen
    refine ⟨_, _, real_H false l (by omega) [], ?_⟩
    simp only [go_sem, ↓reduceIte, toksV]
    refine ⟨_, _, lay_H true (realL l) (by rw [real_len]; omega) [], ?_⟩
    have hall := pairs_lay (realL l) (by
      intro t ht
      unfold realL at ht
      obtain ⟨x, _, rfl⟩ := List.mem_map.1 ht
      rfl)
    generalize layL (realL l) = a at hlen hall
    simp only [go_sem, ↓reduceIte, toksV]
    refine WP.loop' (fun m E H => ∃ i n ex, i + m = a.length ∧ pairs (a.take i) 0 = some n ∧ n ≤ i ∧
        E = ⟨(3, toksV false a) :: (4, .int .i64 (n : Nat)) :: (5, .int .i64 i) :: ex, .u⟩) (n := a.length)
      ⟨0, 0, [], by omega, rfl, Nat.le_refl _, by simp [toksV]⟩ ?_
    rintro m E H ⟨i, n, ex, hi, hp, hni, rfl⟩
    have hwi := inc64 (i := i) (by omega)
    have hwn := inc64 (i := n) (by omega)
    have hdn := dec64 (i := n) (by omega)
    simp only [go_sem, ↓reduceIte, toksV, Int.toNat_natCast, ↓run_addW, hwi]
    by_cases hil : i < a.length
    · obtain ⟨t, ht⟩ : ∃ t, a[i]? = some t := ⟨_, List.getElem?_eq_getElem hil⟩
      have htk : a.take (i + 1) = a.take i ++ [t] := by rw [List.take_add_one, ht]; rfl
      have hdr : a.drop i = t :: a.drop (i + 1) := by
        obtain ⟨h1, h2⟩ := List.getElem?_eq_some_iff.1 ht
        rw [List.drop_eq_getElem_cons h1, h2]
      have hrest := pairs_none hp hall
      rw [hdr] at hrest
      have hnext : pairs (a.take (i + 1)) 0 = pairs [t] n := by rw [htk, pairs_app, hp]; rfl
      have ht6 : (List.map tokC a)[i]? = some [.int .i64 t.k, .str t.s, .int .i64 t.n, .int .i64 t.ln, .int .i64 t.co, .bool t.md] := by rw [List.getElem?_map, ht]; rfl
      have h0 : (0 : Int) ≤ (i : Int) ↔ True := ⟨fun _ => True.intro, fun _ => by omega⟩
      have hnn : decide ((n : Int) < 0) = false := decide_eq_false (by omega)
      refine ⟨fun _ => ?_, fun h => absurd h (by omega)⟩
      simp only [pairs] at hrest hnext
      cases hmd : t.md with
      | false =>
        rw [hmd] at ht6 hrest hnext
        simp only [go_sem, ↓reduceIte, toksV, Int.toNat_natCast, ht6, ex_is, h0, true_and, ↓run_addW, hwi]
        exact ⟨m - 1, by omega, i + 1, n, [], by omega, by rw [hnext]; rfl, by omega, rfl⟩
      | true =>
        rw [hmd] at ht6 hrest hnext
        simp only [if_true] at hrest hnext
        by_cases hk : t.k = 5
        · have ek : (t.k == 5) = true := by rw [hk]; rfl
          have ek2 : (t.k != 5) = false := by rw [hk]; rfl
          simp only [ek, Bool.true_and] at hrest hnext
          by_cases s1 : t.s = [123]
          · have e1 : (t.s == [123]) = true := by rw [s1]; rfl
            have e2 : (t.s == [125]) = false := by rw [s1]; rfl
            have e3 : (t.s == [59]) = false := by rw [s1]; rfl
            have eo : (t.s == bOpen) = true := e1
            have hnn1 : decide (((n + 1 : Nat) : Int) < 0) = false := decide_eq_false (by omega)
            simp only [eo, if_true] at hnext
            simp only [go_sem, ↓reduceIte, toksV, Int.toNat_natCast, ht6, ex_is, h0, true_and, ek2, e1, e2, e3, ↓run_addW, ↓run_subW, hwi, hwn, hdn, Bool.not_true, Bool.not_false, hnn1]
            exact ⟨m - 1, by omega, i + 1, n + 1, [], by omega, hnext, by omega, rfl⟩
          · have e1 : (t.s == [123]) = false := by simpa using s1
            have eo : (t.s == bOpen) = false := e1
            by_cases s2 : t.s = [125]
            · have e2 : (t.s == [125]) = true := by rw [s2]; rfl
              have e3 : (t.s == [59]) = false := by rw [s2]; rfl
              have es : (t.s == bShut) = true := e2
              simp only [eo, es, if_true, Bool.false_eq_true, if_false] at hrest hnext
              have hn0 : n ≠ 0 := by rintro rfl; simp at hrest
              rw [if_neg hn0] at hnext
              have hn1 : (n : Int) - 1 = ((n - 1 : Nat) : Int) := by omega
              have hdn := hdn.trans hn1
              have hnn1 : decide (((n - 1 : Nat) : Int) < 0) = false := decide_eq_false (by omega)
              simp only [go_sem, ↓reduceIte, toksV, Int.toNat_natCast, ht6, ex_is, h0, true_and, ek2, e1, e2, e3, ↓run_addW, ↓run_subW, hwi, hwn, hdn, Bool.not_true, Bool.not_false, hnn1]
              exact ⟨m - 1, by omega, i + 1, n - 1, [], by omega, hnext, by omega, rfl⟩
            · have e2 : (t.s == [125]) = false := by simpa using s2
              have es : (t.s == bShut) = false := e2
              by_cases s3 : t.s = [59]
              · have e3 : (t.s == [59]) = true := by rw [s3]; rfl
                have em : (t.s == bSemi) = true := e3
                simp only [eo, es, em, if_true, Bool.false_eq_true, if_false] at hrest hnext
                have hn0 : n ≠ 0 := by rintro rfl; simp at hrest
                rw [if_neg hn0] at hnext
                have hz : ((n : Int) == 0) = false := by simp; omega
                simp only [go_sem, ↓reduceIte, toksV, Int.toNat_natCast, ht6, ex_is, h0, true_and, ek2, e1, e2, e3, ↓run_addW, ↓run_subW, hwi, hwn, hdn, Bool.not_true, Bool.not_false, hnn, hz]
                exact ⟨m - 1, by omega, i + 1, n, [], by omega, hnext, by omega, rfl⟩
              · have e3 : (t.s == [59]) = false := by simpa using s3
                have em : (t.s == bSemi) = false := e3
                simp [eo, es, em] at hrest
        · have ek : (t.k == 5) = false := by simpa using hk
          rw [ek] at hrest
          simp at hrest
    · refine ⟨fun h => absurd h (by omega), fun _ => ?_⟩
      rw [List.take_of_length_le (by omega), hall] at hp
      cases hp
      refine ⟨fun _ => ⟨_, _, known_H H, ?_⟩, fun h => (nomatch h)⟩
      simp only [go_sem, ↓reduceIte]
end Go.Proofs.Ytdmnacjpgaopfaa.Vm
namespace Go.Proofs.Ytdmnacjpgaopfaa.Vm
open Go Go.RowKit Go.WideShapes

section
variable {P : Program} {w : World} {H : Type} {enc : TypeId × Value → H} {sp : Nat → Bool} {held : Bool}
theorem readsF_of {t : TypeId} {Q : DataW H → List V → Prop} (h : Reads P enc sp held w t Q) (fuel : Nat) : ReadsF P enc sp held w fuel t Q := h fuel
/-- Fields that lie one behind the other: where they end. -/
def contig (P : Program) : Nat → List Field → Option Nat
  | o, [] => some o
  | o, f :: fs => if f.offset = o then contig P (o + P.cellsOf f.type) fs else none
theorem contig_le {P : Program} : ∀ {fs : List Field} {o e : Nat}, contig P o fs = some e → o ≤ e
  | [], o, e, h => by cases h; exact Nat.le_refl _
  | f :: fs, o, e, h => by
    unfold contig at h
    split at h
    · have := contig_le h; omega
    · cases h
inductive Fits3 (Qs : List (DataW H → List V → Prop)) : List (DataW H) → List (List V) → Prop
  | mk {ds vss} (hl : ds.length = Qs.length) (hv : vss.length = Qs.length) (h : ∀ (i : Nat) Q d v, Qs[i]? = some Q → ds[i]? = some d → vss[i]? = some v → Q d v) : Fits3 Qs ds vss
theorem drop_split {α : Type} (l : List α) (a b c : Nat) (hab : a ≤ b) (hbc : b ≤ c) : (l.drop a).take (c - a) = (l.drop a).take (b - a) ++ (l.drop b).take (c - b) := by
  rw [show c - a = (b - a) + (c - b) by omega, List.take_add, List.drop_drop, show a + (b - a) = b by omega]
theorem fields_read {fuel : Nat} {cs : List Value} : ∀ {fs : List Field} {Qs : List (DataW H → List V → Prop)} {o e : Nat} {xs : List (DataW H × List MemPlace)}, contig P o fs = some e → fs.length = Qs.length →
    (∀ (i : Nat) (f : Field) Q, fs[i]? = some f → Qs[i]? = some Q → ReadsF P enc sp held w fuel f.type Q) →
    (fs.mapM fun f => DataW.trod enc P w 0 sp held fuel f.type ((cs.drop f.offset).take (P.cellsOf f.type))) = some xs →
    ∃ vss : List (List V), RepI (immW w) vss.flatten ((cs.drop o).take (e - o)) ∧ Fits3 Qs (xs.map (·.1)) vss
  | [], [], o, e, xs, hc, _, _, h => by
    cases hc; cases h
    exact ⟨[], by simp; exact .nil, .mk rfl rfl fun i Q d v hQ => by simp at hQ⟩
  | [], _ :: _, _, _, _, _, hl, _, _ => by cases hl
  | _ :: _, [], _, _, _, _, hl, _, _ => by cases hl
  | f :: fs, Q :: Qs, o, e, xs, hc, hl, hq, h => by
    unfold contig at hc
    split at hc
    · rename_i ho
      rw [List.mapM_cons] at h
      obtain ⟨y, h1, h⟩ := Option.bind_eq_some_iff.1 h
      obtain ⟨ys, h2, h⟩ := Option.bind_eq_some_iff.1 h
      cases h
      obtain ⟨vs, k1, k2⟩ := hq 0 f Q rfl rfl _ y.1 y.2 h1
      obtain ⟨vss, k3, k4, k5, k6⟩ := fields_read hc (by simpa using hl) (fun i f' Q' hf hQ => hq (i + 1) f' Q' (by simpa using hf) (by simpa using hQ)) h2
      refine ⟨vs :: vss, ?_, .mk (by simpa using k4) (by simpa using k5) fun i Q' d v hQ hd hv => ?_⟩
      · rw [List.flatten_cons, drop_split cs o (o + P.cellsOf f.type) e (by omega) (contig_le hc), Nat.add_sub_cancel_left, ← ho]
        exact RepI.append (by rw [ho]; exact k3) k1
      · match i with
        | 0 => simp at hQ hd hv; subst hQ hd hv; exact k2
        | i + 1 => exact k6 i Q' d v (by simpa using hQ) (by simpa using hd) (by simpa using hv)
    · cases hc
theorem readsF_struct {t : TypeId} {fs : Array Field} {fuel : Nat} (hu : P.underlying t = some (.struct fs)) (hc : contig P 0 fs.toList = some (P.cellsOf t)) {Qs : List (DataW H → List V → Prop)} (hl : fs.toList.length = Qs.length)
    (hq : ∀ (i : Nat) (f : Field) Q, fs.toList[i]? = some f → Qs[i]? = some Q → ReadsF P enc sp held w fuel f.type Q) :
    ReadsF P enc sp held w (fuel + 1) t fun d vs => ∃ ds vss, d = .agg ds ∧ vs = vss.flatten ∧ Fits3 Qs ds vss := by
  intro cs d ps h
  unfold DataW.trod at h
  rw [hu] at h
  split at h <;> try (rename_i he; cases he; done)
  all_goals first | (cases h; done) | skip
  all_goals first | (rename_i he; exact (he fs rfl).elim) | skip
  all_goals first | (exact (‹∀ (fs_1 : Array Field), some (TypeDesc.struct fs) = some (TypeDesc.struct fs_1) → False› fs rfl).elim) | skip
  all_goals
    rename_i he
    cases he
    split at h
    · rename_i hlen
      obtain ⟨xs, h1, h⟩ := Option.map_eq_some_iff.1 h
      cases h
      obtain ⟨vss, k1, k2⟩ := fields_read hc hl hq h1
      rw [Nat.sub_zero, List.drop_zero, ← hlen, List.take_of_length_le (Nat.le_refl _)] at k1
      exact ⟨_, k1, _, vss, rfl, rfl, k2⟩
    · cases h
theorem readsF_mono {t : TypeId} {fuel : Nat} {Q Q' : DataW H → List V → Prop} (h : ReadsF P enc sp held w fuel t Q) (hq : ∀ d vs, Q d vs → Q' d vs) : ReadsF P enc sp held w fuel t Q' := by
  intro cs d ps hd
  obtain ⟨vs, h1, h2⟩ := h cs d ps hd
  exact ⟨vs, h1, hq _ _ h2⟩
theorem reads_of {t : TypeId} {Q : DataW H → List V → Prop} (h : ∀ fuel, ReadsF P enc sp held w (fuel + 1) t Q) : Reads P enc sp held w t Q := by
  intro fuel
  cases fuel with
  | zero => intro cs d ps h; cases h
  | succ fuel => exact h fuel
theorem light_part {t : TypeId} {fs : Array Field} {ds : List (DataW H)} (hu : P.underlying t = some (.struct fs)) (h : Light P t (.agg ds)) {j : Nat} {f : Field} {d : DataW H} (hf : fs.toList[j]? = some f) (hd : ds[j]? = some d) : Light P f.type d := by
  unfold Light at h
  simp only [DataW.weights, hu] at h
  exact light_each h (j := j) (by rw [List.getElem?_map, hf]; rfl) hd
end
theorem list1 {α : Type} {l : List α} (h : l.length = 1) : ∃ a, l = [a] := by
  match l, h with
  | [a], _ => exact ⟨a, rfl⟩
theorem list2 {α : Type} {l : List α} (h : l.length = 2) : ∃ a b, l = [a, b] := by
  match l, h with
  | [a, b], _ => exact ⟨a, b, rfl⟩
theorem list5 {α : Type} {l : List α} (h : l.length = 5) : ∃ a b c d e, l = [a, b, c, d, e] := by
  match l, h with
  | [a, b, c, d, e], _ => exact ⟨a, b, c, d, e, rfl⟩
end Go.Proofs.Ytdmnacjpgaopfaa.Vm
namespace Go.Proofs.Ytdmnacjpgaopfaa.Vm
open Go Go.RowKit Go.WideShapes

theorem under3 : Try.prog.underlying 3 = some (.int .i64) := by kernel_rfl
theorem under2 : Try.prog.underlying 2 = some (.int .i64) := by kernel_rfl
theorem under4 : Try.prog.underlying 4 = some .bool := by kernel_rfl
theorem under9 : Try.prog.underlying 9 = some .string := by kernel_rfl
theorem under22 : Try.prog.underlying 22 = some (.slice 35) := by kernel_rfl
noncomputable def posFs : Array Field := match Try.prog.underlying 25 with | some (.struct fs) => fs | _ => #[]
noncomputable def tokFs : Array Field := match Try.prog.underlying 35 with | some (.struct fs) => fs | _ => #[]
theorem under25 : Try.prog.underlying 25 = some (.struct posFs) := by kernel_rfl
theorem under35 : Try.prog.underlying 35 = some (.struct tokFs) := by kernel_rfl
theorem bytes35 : Try.prog.bytesOf 35 = 56 := by kernel_rfl
theorem cells35 : Try.prog.cellsOf 35 = 6 := by kernel_rfl
theorem pos_types : posFs.toList.map (·.type) = [3, 3] := by kernel_rfl
theorem tok_types : tokFs.toList.map (·.type) = [3, 9, 2, 25, 4] := by kernel_rfl
theorem pos_contig : contig Try.prog 0 posFs.toList = some (Try.prog.cellsOf 25) := by kernel_rfl
theorem tok_contig : contig Try.prog 0 tokFs.toList = some (Try.prog.cellsOf 35) := by kernel_rfl
theorem type_at {fs : List Field} {ts : List TypeId} (h : fs.map (·.type) = ts) {i : Nat} {f : Field} (hf : fs[i]? = some f) : ts[i]? = some f.type := by rw [← h, List.getElem?_map, hf]; rfl

section
variable {w : World} {H : Type} {enc : TypeId × Value → H} {sp : Nat → Bool} {held : Bool}
abbrev qInt (k : IntKind) : DataW H → List V → Prop := fun _ vs => ∃ n : Int, vs = [.int k n]
abbrev qStr : DataW H → List V → Prop := fun _ vs => ∃ l : List UInt8, vs = [.str l]
abbrev qBool : DataW H → List V → Prop := fun _ vs => ∃ b : Bool, vs = [.bool b]
theorem rdInt {t : TypeId} {k : IntKind} (hu : Try.prog.underlying t = some (.int k)) (fuel : Nat) : ReadsF Try.prog enc sp held w fuel t (qInt k) :=
  readsF_mono (reads_int hu fuel) fun _ _ ⟨n, _, _, h⟩ => ⟨n, h⟩
theorem rdStr {t : TypeId} (hu : Try.prog.underlying t = some .string) (fuel : Nat) : ReadsF Try.prog enc sp held w fuel t qStr :=
  readsF_mono (reads_str hu fuel) fun _ _ ⟨n, _, h⟩ => ⟨n, h⟩
theorem rdBool {t : TypeId} (hu : Try.prog.underlying t = some .bool) (fuel : Nat) : ReadsF Try.prog enc sp held w fuel t qBool :=
  readsF_mono (reads_bool hu fuel) fun _ _ ⟨n, _, h⟩ => ⟨n, h⟩
abbrev qPos : DataW H → List V → Prop := fun _ vs => ∃ a b : Int, vs = [.int .i64 a, .int .i64 b]
theorem rdPos (fuel : Nat) : ReadsF Try.prog enc sp held w fuel 25 qPos := by
  cases fuel with
  | zero => intro cs d ps h; cases h
  | succ fuel =>
    refine readsF_mono (readsF_struct under25 pos_contig (Qs := [qInt .i64, qInt .i64]) (by have := congrArg List.length pos_types; simpa using this) ?_) ?_
    · intro i f Q hf hQ
      have ht := type_at pos_types hf
      match i, ht, hQ with
      | 0, ht, hQ => cases hQ; exact (Option.some.inj ht) ▸ rdInt under3 fuel
      | 1, ht, hQ => cases hQ; exact (Option.some.inj ht) ▸ rdInt under3 fuel
      | i + 2, ht, _ => simp at ht
    · rintro d vs ⟨ds, vss, rfl, rfl, h1, h2, h3⟩
      obtain ⟨a, b, rfl⟩ := list2 (l := vss) h2
      obtain ⟨x, y, rfl⟩ := list2 (l := ds) h1
      obtain ⟨n, rfl⟩ := h3 0 _ x a rfl rfl rfl
      obtain ⟨m, rfl⟩ := h3 1 _ y b rfl rfl rfl
      exact ⟨n, m, rfl⟩
theorem rdTok (fuel : Nat) : ReadsF Try.prog enc sp held w fuel 35 fun _ vs => ∃ t : Tok, vs = tokC t := by
  cases fuel with
  | zero => intro cs d ps h; cases h
  | succ fuel =>
    refine readsF_mono (readsF_struct under35 tok_contig (Qs := [qInt .i64, qStr, qInt .i64, qPos, qBool]) (by have := congrArg List.length tok_types; simpa using this) ?_) ?_
    · intro i f Q hf hQ
      have ht := type_at tok_types hf
      match i, ht, hQ with
      | 0, ht, hQ => cases hQ; exact (Option.some.inj ht) ▸ rdInt under3 fuel
      | 1, ht, hQ => cases hQ; exact (Option.some.inj ht) ▸ rdStr under9 fuel
      | 2, ht, hQ => cases hQ; exact (Option.some.inj ht) ▸ rdInt under2 fuel
      | 3, ht, hQ => cases hQ; exact (Option.some.inj ht) ▸ rdPos fuel
      | 4, ht, hQ => cases hQ; exact (Option.some.inj ht) ▸ rdBool under4 fuel
      | i + 5, ht, _ => simp at ht
    · rintro d vs ⟨ds, vss, rfl, rfl, h1, h2, h3⟩
      obtain ⟨a, b, c, e, f, rfl⟩ := list5 (l := vss) h2
      obtain ⟨x, y, z, u, v, rfl⟩ := list5 (l := ds) h1
      obtain ⟨k, rfl⟩ := h3 0 _ x a rfl rfl rfl
      obtain ⟨s, rfl⟩ := h3 1 _ y b rfl rfl rfl
      obtain ⟨n, rfl⟩ := h3 2 _ z c rfl rfl rfl
      obtain ⟨ln, co, rfl⟩ := h3 3 _ u e rfl rfl rfl
      obtain ⟨md, rfl⟩ := h3 4 _ v f rfl rfl rfl
      exact ⟨⟨k, s, n, ln, co, md⟩, rfl⟩
theorem reads22 : Reads Try.prog enc sp held w 22 fun d vs => Light Try.prog 22 d → ∃ l : List Tok, vs = [toksV false l] ∧ l.length ≤ reachBytes ∧ True := by
  intro fuel cs d ps h
  obtain ⟨vs, h1, h2⟩ := reads_sl (P := Try.prog) (w := w) (enc := enc) (sp := sp) (held := held) under22 (f := tokC) (p := fun _ => True) (by rw [bytes35]; omega)
    (fun fuel => readsF_mono (rdTok fuel) fun _ _ ⟨t, h⟩ _ => ⟨t, h, trivial⟩) fuel cs d ps h
  refine ⟨vs, h1, fun hl => ?_⟩
  obtain ⟨l, rfl, h3, _⟩ := h2 hl
  exact ⟨l, by rw [cells35]; rfl, h3, trivial⟩
end
end Go.Proofs.Ytdmnacjpgaopfaa.Vm
namespace Go.Proofs.Ytdmnacjpgaopfaa.Vm
open Go
set_option linter.unusedSimpArgs false

section
variable {P : Program} {K : KK} {s : List Fr} {E : En} {H : Heap} {tk : List Nat} {dst : Option Nat} {os : List VOp} {keep : List Nat}
@[go_sem] theorem run_indexStr {x : List UInt8} {k : IntKind} {i : Int} : runAct P .indexStr [.str x, .int k i] tk dst os keep s E H K =
    (0 ≤ i ∧ ∃ b, x[i.toNat]? = some b ∧ runOps P os keep s ((stripEn tk E).setO dst (.int .u8 b.toNat)) H K) := (rfl)
@[go_sem] theorem run_lenStr {x : List UInt8} : runAct P .lenStr [.str x] tk dst os keep s E H K = runOps P os keep s ((stripEn tk E).setO dst (.int .i64 x.length)) H K := (rfl)
theorem run_sliceStr {x : List UInt8} {j k : IntKind} {a b : Int} : runAct P (.sliceStr true true) [.str x, .int j a, .int k b] tk dst os keep s E H K =
    ((0 ≤ a ∧ a ≤ b ∧ b ≤ x.length) ∧ nextV P (.str ((x.take b.toNat).drop a.toNat)) tk dst os keep s E H K) := by
  show (∃ r H', sSliceStr true true [.str x, .int j a, .int k b] H = some (r, H') ∧ _) = _
  apply propext
  constructor
  · rintro ⟨r, H', h, k⟩
    simp only [sSliceStr, bounds, Bool.true_and, decide_eq_true_eq] at h
    obtain ⟨p, h1, h2⟩ := Option.map_eq_some_iff.1 h
    split at h1
    · rename_i hc; cases h1; cases h2; exact ⟨hc, k⟩
    · cases h1
  · rintro ⟨hc, k⟩
    refine ⟨_, _, ?_, k⟩
    simp only [sSliceStr, bounds, Bool.true_and, decide_eq_true_eq]
    rw [if_pos hc]; rfl
theorem run_sliceStrL {x : List UInt8} {j : IntKind} {a : Int} : runAct P (.sliceStr true false) [.str x, .int j a] tk dst os keep s E H K =
    ((0 ≤ a ∧ a ≤ x.length) ∧ nextV P (.str (x.drop a.toNat)) tk dst os keep s E H K) := by
  show (∃ r H', sSliceStr true false [.str x, .int j a] H = some (r, H') ∧ _) = _
  apply propext
  constructor
  · rintro ⟨r, H', h, k⟩
    simp only [sSliceStr, bounds, Bool.not_false, Bool.and_self, if_true] at h
    obtain ⟨p, h1, h2⟩ := Option.map_eq_some_iff.1 h
    split at h1
    · rename_i hc; cases h1; cases h2; rw [List.take_of_length_le (Nat.le_refl _)] at k; exact ⟨hc, k⟩
    · cases h1
  · rintro ⟨hc, k⟩
    refine ⟨_, _, ?_, k⟩
    simp only [sSliceStr, bounds, Bool.not_false, Bool.and_self, if_true]
    rw [if_pos hc]; simp [List.take_of_length_le (Nat.le_refl _)]
end
theorem gc_self {H : Heap} {i v : Nat} {cs : List V} (h : getCells H i v = some cs) : H.set i (.cells v cs) = H := by
  apply List.ext_getElem?
  intro j
  rw [List.getElem?_set]
  split
  · rename_i e; subst e; rw [if_pos (gc_lt h), gc_some.1 h]
  · rfl
theorem idsO_set {H : Heap} {id : Nat} {o : Obj} (ho : idsO H.length o = true) : ∀ (i : Nat) (ob : Obj), (H.set id o)[i]? = some ob → H[i]? = some ob ∨ idsO (H.set id o).length ob = true := by
  intro i ob hi
  rw [List.length_set]
  rw [List.getElem?_set] at hi
  split at hi
  · split at hi
    · cases hi; exact .inr ho
    · cases hi
  · exact .inl hi

/-- The reader's cells. -/
def rdC (src : List UInt8) (i : Nat) (ln co : Int) : List V := [.str src, .int .i64 i, .int .i64 ln, .int .i64 co]
structure RdI (n i : Nat) (ln co : Int) : Prop where
  b : i ≤ n
  l1 : 1 ≤ ln
  l2 : ln ≤ i + 1
  c1 : 1 ≤ co
  c2 : co ≤ i + 1
theorem rd_ids (m : Nat) (src : List UInt8) (i : Nat) (ln co : Int) : idsO m (.cells 0 (rdC src i ln co)) = true := rfl
theorem endY_set {H : Heap} {id : Nat} {cs : List V} (ho : idsO H.length (.cells 0 cs) = true) {R : V → Heap → Prop} {x : X} {E : En} (hx : (match x with | .exit _ => False | _ => True)) (hR : R (.tup []) (H.set id (.cells 0 cs))) : endY H [] R x E (H.set id (.cells 0 cs)) :=
  ⟨hx, by simp, idsO_set ho, _, rfl, _, rfl, hR⟩
theorem endY_setB {H : Heap} {id : Nat} {cs : List V} (ho : idsO H.length (.cells 0 cs) = true) {R : V → Heap → Prop} {x : X} {l : List (Nat × V)} {d : V} {t : Nat} {b : Bool} (hx : (match x with | .exit _ => False | _ => True)) (hv : getE l d t = .bool b) (hR : R (.bool b) (H.set id (.cells 0 cs))) : endY H [.tmp t] R x ⟨l, d⟩ (H.set id (.cells 0 cs)) :=
  ⟨hx, by simp, idsO_set ho, .bool b, by simp [resV, resL, res1, pack, En.f, hv], _, rfl, hR⟩

theorem u8_eq {b : UInt8} {n : Nat} (hn : n < 256) : ((b.toNat : Int) = (n : Int)) ↔ b = UInt8.ofNat n := by
  constructor
  · intro h
    have : b.toNat = n := by omega
    rw [← this]; simp
  · rintro rfl
    simp; omega
theorem get_lt {src : List UInt8} {i : Nat} (h : i < src.length) : ∃ b, src[i]? = some b := ⟨_, List.getElem?_eq_getElem h⟩

theorem inc64' {i : Nat} (h : i < 4611686018427387904) : IntKind.i64.wrap ((i : Int) + 1) = ((i + 1 : Nat) : Int) := by
  rw [wrap64 (by omega) (by omega)]; rfl
theorem lexRemark_T {H : Heap} {id : Nat} {src : List UInt8} {i : Nat} {ln co : Int} (h : getCells H id 0 = some (rdC src i ln co)) (hr : RdI src.length i ln co) (hn : src.length ≤ 8192) :
    ∃ r H', T Try.prog 32 [.ptr id 0 0] H r H' ∧ r = .tup [] ∧ ∃ (i' : Nat) (co' : Int), H' = H.set id (.cells 0 (rdC src i' ln co')) ∧ i ≤ i' ∧ RdI src.length i' ln co' ∧ ((∃ b, src[i]? = some b ∧ b ≠ 10) → i < i') := by
  refine T.of_all mix c32 rfl ?_
  generalize hK : endY _ _ _ = K
  unfold v32
  simp only [go_sem, ↓reduceIte]
  refine WP.loop' (fun m E H1 => ∃ (j : Nat) (co' : Int) (ex : _) (d : V), H1 = H.set id (.cells 0 (rdC src j ln co')) ∧ i ≤ j ∧ RdI src.length j ln co' ∧ (i = j ∨ i < j) ∧ m = src.length - j ∧ E = ⟨(0, .ptr id 0 0) :: ex, d⟩) (n := src.length - i)
    ⟨i, co, _, _, (gc_self h).symm, Nat.le_refl _, hr, .inl rfl, rfl, rfl⟩ ?_
  rintro m E H1 ⟨j, co', ex, d, rfl, hij, hr', hc, rfl, rfl⟩
  have hg : getCells (H.set id (.cells 0 (rdC src j ln co'))) id 0 = some (rdC src j ln co') := gc_same (gc_lt h)
  simp only [rdC] at hg
  have hw := inc64' (i := j) (by have := hr'.b; omega)
  have hw2 : IntKind.i64.wrap (co' + 1) = co' + 1 := wrap64 (by have := hr'.c1; omega) (by have := hr'.c2; have := hr'.b; omega)
  have hlt := gc_lt h
  have hend : ∀ {x : X} {E : En}, (match x with | .exit _ => False | _ => True) → ((∃ b, src[i]? = some b ∧ b ≠ 10) → i < j) → K x E (H.set id (.cells 0 (rdC src j ln co'))) := by
    intro x E hx hp
    rw [← hK]
    exact endY_set rfl hx ⟨rfl, j, co', rfl, hij, hr', hp⟩
  have hlen := hr'.b
  simp only [rdC] at hend ⊢
  simp only [go_sem, ↓reduceIte, ↓hg, Int.toNat_natCast, ↓run_addW, hw, hw2, List.set_set, ↓gc_same hlt]
  refine ⟨fun hj => ⟨by omega, ?_⟩, fun hj => hend trivial fun ⟨b, h1, _⟩ => ?_⟩
  · obtain ⟨b, hb⟩ := get_lt (src := src) (i := j) (by omega)
    refine ⟨b, hb, fun hb10 => ?_, fun hb10 => ?_⟩
    · refine ⟨src.length - (j + 1), by omega, j + 1, co' + 1, _, _, rfl, by omega, ⟨by omega, hr'.l1, by have := hr'.l2; omega, by have := hr'.c1; omega, by have := hr'.c2; omega⟩, .inr (by omega), rfl, rfl⟩
    · refine hend trivial fun ⟨b', h1, h2⟩ => ?_
      rcases hc with rfl | hc
      · rw [hb] at h1; cases h1
        have : (b.toNat : Int) = ((10 : Nat) : Int) := by simpa using hb10
        exact absurd ((u8_eq (by omega)).1 this) h2
      · exact hc
  · have := (List.getElem?_eq_some_iff.1 h1).1
    omega
theorem lexSkip_T {H : Heap} {id : Nat} {src : List UInt8} {i : Nat} {ln co : Int} (h : getCells H id 0 = some (rdC src i ln co)) (hr : RdI src.length i ln co) (hn : src.length ≤ 8192) :
    ∃ r H', T Try.prog 20 [.ptr id 0 0] H r H' ∧ ∃ (i' : Nat) (ln' co' : Int), r = .bool (decide (i' < src.length)) ∧ H' = H.set id (.cells 0 (rdC src i' ln' co')) ∧ i ≤ i' ∧ RdI src.length i' ln' co' := by
  refine T.of_all mix c20 rfl ?_
  generalize hK : endY _ _ _ = K
  unfold v20
  simp only [go_sem, ↓reduceIte]
  refine WP.loop' (fun m E H1 => ∃ (j : Nat) (ln' co' : Int) (ex : _) (d : V), H1 = H.set id (.cells 0 (rdC src j ln' co')) ∧ i ≤ j ∧ RdI src.length j ln' co' ∧ m = src.length - j ∧ E = ⟨(0, .ptr id 0 0) :: ex, d⟩) (n := src.length - i)
    ⟨i, ln, co, _, _, (gc_self h).symm, Nat.le_refl _, hr, rfl, rfl⟩ ?_
  rintro m E H1 ⟨j, ln', co', ex, d, rfl, hij, hr', rfl, rfl⟩
  have hg : getCells (H.set id (.cells 0 (rdC src j ln' co'))) id 0 = some (rdC src j ln' co') := gc_same (gc_lt h)
  have hg0 := hg
  have hw := inc64' (i := j) (by have := hr'.b; omega)
  have hw2 : IntKind.i64.wrap (co' + 1) = co' + 1 := wrap64 (by have := hr'.c1; omega) (by have := hr'.c2; have := hr'.b; omega)
  have hw3 : IntKind.i64.wrap (ln' + 1) = ln' + 1 := wrap64 (by have := hr'.l1; omega) (by have := hr'.l2; have := hr'.b; omega)
  have hlt := gc_lt h
  have hend : ∀ {l : List (Nat × V)} {d : V}, getE l d 2 = .bool (decide ((j : Int) < (src.length : Int))) → K .ret ⟨l, d⟩ (H.set id (.cells 0 (rdC src j ln' co'))) := by
    intro l d hv
    rw [← hK]
    exact endY_setB rfl trivial hv ⟨j, ln', co', by simp, rfl, hij, hr'⟩
  have hlen := hr'.b
  simp only [rdC] at hg hend ⊢
  simp only [go_sem, ↓reduceIte, ↓hg, Int.toNat_natCast, ↓run_addW, hw, hw2, hw3, List.set_set, ↓gc_same hlt]
  have hR := hr'
  obtain ⟨r0, r1, r2, r3, r4⟩ := hR
  refine ⟨fun hj => ⟨by omega, ?_⟩, fun hj => hend (by rfl)⟩
  obtain ⟨b, hb⟩ := get_lt (src := src) (i := j) (by omega)
  refine ⟨b, hb, fun _ => ?_, fun _ => ⟨fun _ => ?_, fun _ => ⟨fun h45 => ⟨fun hj1 => ⟨by omega, ?_⟩, fun _ => hend (by rfl)⟩, fun _ => hend (by rfl)⟩⟩⟩
  · exact ⟨src.length - (j + 1), by omega, j + 1, ln', co' + 1, _, _, rfl, by omega, ⟨by omega, r1, by omega, by omega, by omega⟩, rfl, rfl⟩
  · exact ⟨src.length - (j + 1), by omega, j + 1, ln' + 1, 1, _, _, rfl, by omega, ⟨by omega, by omega, by omega, by omega, by omega⟩, rfl, rfl⟩
  · obtain ⟨b2, hb2⟩ := get_lt (src := src) (i := j + 1) (by omega)
    refine ⟨b2, hb2, fun _ => ?_, fun _ => hend (by rfl)⟩
    obtain ⟨r, H', hT, rfl, i', co2, rfl, hle, hr2, hlt2⟩ := lexRemark_T (src := src) (i := j) hg0 hr' hn
    refine ⟨_, _, hT, src.length - i', ?_, i', ln', co2, _, _, by rw [List.set_set]; rfl, by omega, hr2, rfl, rfl⟩
    have : j < i' := hlt2 ⟨b, hb, fun e => by subst e; simp at h45⟩
    omega
end Go.Proofs.Ytdmnacjpgaopfaa.Vm
namespace Go.Proofs.Ytdmnacjpgaopfaa.Vm
open Go
set_option linter.unusedSimpArgs false

/-- A function at the empty heap that answers something. -/
theorem T.of0x {P : Program} (hmix : P.follows .mixedOrders = true) {f : Nat} {vf : VFunc} (hc : chkFn P f vf = true) {args : List V} {R : V → Prop} (hl : Nat.ble args.length vf.n = true)
    (h : run P vf.body [] ⟨args.zipIdx.map fun p => (p.2, p.1), .tup []⟩ [] (end0 vf.results R)) : ∃ r, T P f args [] r [] ∧ R r := by
  obtain ⟨x, E1, H1, h1, h2, r0, h6, r, h7, h8⟩ := wp_sound h
  rw [env0_eq] at h1
  have := T_of (m := 0) hmix hc (Nat.le_of_ble_eq_true hl) h1 (by intro id e; subst e; exact h2) (Nat.le_refl _) (Nat.zero_le _) h6 h7 (fun i ob hi => absurd hi (Nat.not_lt_zero i))
  rw [List.take_zero] at this
  exact ⟨r, this, h8⟩

def okClass (c : Nat) : Bool := match callN tab 1000 33 [.int .u8 c] [] with
  | some (.int .i64 k, []) => decide (0 ≤ k ∧ k ≤ 5)
  | _ => false
theorem class_all : (List.range 256).all okClass = true := by kernel_rfl
theorem lexClass_T (c : Nat) (hc : c < 256) (H : Heap) : ∃ k : Int, T Try.prog 33 [.int .u8 c] H (.int .i64 k) H ∧ 0 ≤ k ∧ k ≤ 5 := by
  have h := List.all_eq_true.1 class_all c (List.mem_range.2 hc)
  unfold okClass at h
  split at h
  · rename_i k hr
    exact ⟨k, (callN_sound mix tab_ok _ hr).frame rfl H, of_decide_eq_true h⟩
  · cases h
theorem goesOn_T (k : Int) (c : Nat) (hc : c < 256) (H : Heap) : ∃ b : Bool, T Try.prog 34 [.int .i64 k, .int .u8 c] H (.bool b) H := by
  have : ∃ r, T Try.prog 34 [.int .i64 k, .int .u8 c] [] r [] ∧ ∃ b : Bool, r = .bool b := by
    refine T.of0x mix c34 rfl ?_
    unfold v34
    simp only [go_sem, ↓reduceIte]
    obtain ⟨k', hT, _, _⟩ := lexClass_T c hc []
    refine ⟨_, _, hT, ?_⟩
    simp only [go_sem, ↓reduceIte]
    simp
  obtain ⟨r, hT, b, rfl⟩ := this
  exact ⟨b, hT.frame rfl H⟩
theorem lexWord_T (x : List UInt8) : ∃ r, T Try.prog 48 [.str x] [] r [] ∧ ∃ b : Bool, r = .bool b := by
  refine T.of0x mix c48 rfl ?_
  unfold v48
  simp only [go_sem, ↓reduceIte]
  simp
theorem lexKind_T (k : Int) (x : List UInt8) : ∃ r, T Try.prog 35 [.int .i64 k, .str x] [] r [] ∧ ∃ n : Int, r = .int .i64 n := by
  refine T.of0x mix c35 rfl ?_
  unfold v35
  simp only [go_sem, ↓reduceIte]
  obtain ⟨r, hT, b, rfl⟩ := lexWord_T x
  simp only [V.int.injEq, true_and, exists_eq', implies_true, and_self, and_true]
  refine fun _ _ _ _ _ => ⟨_, _, hT, ?_⟩
  simp only [go_sem, ↓reduceIte]
  simp
end Go.Proofs.Ytdmnacjpgaopfaa.Vm
namespace Go.Proofs.Ytdmnacjpgaopfaa.Vm
open Go
set_option linter.unusedSimpArgs false

section
variable {P : Program} {K : KK} {s : List Fr} {E : En} {H : Heap} {tk : List Nat} {dst : Option Nat} {os : List VOp} {keep : List Nat}
theorem run_mulX {k : IntKind} {a b : Int} : runInt P .mul k a b tk dst os keep s E H K = runOps P os keep s ((stripEn tk E).setO dst (.int k (k.wrap (a * b)))) H K := by
  unfold runInt intW
  apply propext
  constructor
  · rintro ⟨z, rfl, h⟩; exact h
  · intro h; exact ⟨_, rfl, h⟩
theorem run_convW {j k : IntKind} {a : Int} : runAct P (.conv k) [.int j a] tk dst os keep s E H K = nextV P (.int k (k.wrap a)) tk dst os keep s E H K := by
  apply propext
  constructor
  · rintro ⟨z, rfl, h⟩; exact h
  · intro h; exact ⟨_, rfl, h⟩
theorem run_negW {k : IntKind} {a : Int} : runAct P .neg [.int k a] tk dst os keep s E H K = nextV P (.int k (k.wrap (0 - a))) tk dst os keep s E H K := by
  apply propext
  constructor
  · rintro ⟨z, rfl, h⟩; exact h
  · intro h; exact ⟨_, rfl, h⟩
end
theorem fin0_ii {H : Heap} {R : V → Prop} {j k : IntKind} {a b : Int} : fin0 H (.tup [.int j a, .int k b]) R = R (.tup [.int j a, .int k b]) := by
  simp [fin0, fixd_tup2, fixd_int]
theorem sub_one_len (x : List UInt8) : (x.drop 1).length ≤ x.length := by simp
/-- What the digits' loop leaves. -/
theorem parse_T (x : List UInt8) (hx : x.length ≤ 1000000000) : ∃ r, T Try.prog 49 [.str x] [] r [] ∧ ∃ n e : Int, r = .tup [.int .i64 n, .int .i64 e] := by
  refine T.of0x mix c49 rfl ?_
  generalize hK : end0 _ _ = K
  unfold v49
  simp only [go_sem, ↓reduceIte, ↓run_sliceStrL, ↓run_mulX, ↓run_convW, ↓run_negW, ↓run_addW, ↓run_subW]
  have hend : ∀ {l : List (Nat × V)} {d : V} {n e : Int}, getE l d 2 = .int .i64 n → getE l d 3 = .int .i64 e → K .ret ⟨l, d⟩ [] := by
    intro l d n e h1 h2
    rw [← hK]
    show end0 [.tmp 2, .tmp 3] _ .ret ⟨l, d⟩ []
    rw [end0_two, h1, h2, fin0_ii]
    exact ⟨_, _, rfl⟩
  generalize hL : VCode.loop _ = lp
  generalize hC : [Fr.blk 0, Fr.code _] = fs
  have key : ∀ (y : List UInt8) (b : Bool), y.length ≤ 1000000000 → WP Try.prog lp ⟨[(4, .str y), (5, .bool b), (6, .int .u64 0), (7, .bool true), (8, .int .i64 0)], .u⟩ [] (goes Try.prog K fs) := by
    intro y b hy
    rw [← hL, ← hC]
    have hgo : ∀ {z : Int} {ok : Bool} {l : List (Nat × V)} {d : V}, getE l d 5 = .bool b → getE l d 6 = .int .u64 z → getE l d 7 = .bool ok → goes Try.prog K fs (.exit 0) ⟨l, d⟩ [] := by
      intro z ok l d h5 h6 h7
      rw [← hC]
      simp only [go_sem, ↓reduceIte, h5, h6, h7, ↓run_convW, ↓run_negW]
      have hA : ∀ {l d} {n e : Int}, getE l d 2 = .int .i64 n → getE l d 3 = .int .i64 e → K .ret ⟨l, d⟩ [] := hend
      have hB : ∀ {n e : Int} {d : V}, K .ret ⟨[(2, .int .i64 n), (3, .int .i64 e)], d⟩ [] := hend rfl rfl
      simp only [hB, implies_true, and_self]
    rw [hC]
    refine WP.loop' (fun m E H1 => ∃ (j : Nat) (z : Int) (ex : _) (d : V), H1 = [] ∧ j ≤ y.length ∧ m = y.length - j ∧ E = ⟨(4, .str y) :: (5, .bool b) :: (6, .int .u64 z) :: (7, .bool true) :: (8, .int .i64 j) :: ex, d⟩) (n := y.length)
      ⟨0, 0, _, _, rfl, Nat.zero_le _, rfl, rfl⟩ ?_
    rintro m E H1 ⟨j, z, ex, d, rfl, hj, rfl, rfl⟩
    have hw := inc64' (i := j) (by omega)
    simp only [go_sem, ↓reduceIte, ↓run_mulX, ↓run_convW, ↓run_addW, ↓run_subW, hw, Int.toNat_natCast]
    refine ⟨fun hl => ⟨by omega, ?_⟩, fun _ => hgo rfl rfl rfl⟩
    obtain ⟨c, hc⟩ := get_lt (src := y) (i := j) (by omega)
    refine ⟨c, hc, ?_⟩
    refine ⟨fun _ => ⟨fun _ => hgo rfl rfl rfl, fun _ => ?_⟩, fun _ => hgo rfl rfl rfl⟩
    exact ⟨y.length - (j + 1), by omega, j + 1, _, _, _, by omega, rfl, rfl⟩
  have hB : ∀ {n e : Int} {d : V}, K .ret ⟨[(2, .int .i64 n), (3, .int .i64 e)], d⟩ [] := hend rfl rfl
  have hcond : ∀ (y : List UInt8) (b : Bool), y.length ≤ 1000000000 → ((y == []) = false → 0 ≤ (0 : Int) ∧ ∃ c, y[Int.toNat 0]? = some c) := by
    intro y b _ hy
    refine ⟨Int.le_refl _, ?_⟩
    cases y with
    | nil => simp at hy
    | cons c _ => exact ⟨c, rfl⟩
  have k1 := fun b => key x b hx
  have k2 := fun b => key (x.drop (Int.toNat 1)) b (by simp; omega)
  simp only [hB, k1, k2, implies_true, and_true]
  have tail : ∀ (y : List UInt8), ((y == []) = false → ¬(y.length : Int) > 19 → 0 ≤ (0 : Int) ∧ ∃ c, y[Int.toNat 0]? = some c) := by
    intro y hy _
    refine ⟨Int.le_refl _, ?_⟩
    cases y with
    | nil => simp at hy
    | cons c _ => exact ⟨c, rfl⟩
  refine ⟨fun hl => ⟨Int.le_refl _, ?_⟩, fun _ => tail x⟩
  obtain ⟨c, hc⟩ := get_lt (src := x) (i := 0) (by omega)
  exact ⟨c, hc, fun _ => ⟨⟨by omega, by omega⟩, tail _⟩, fun _ => tail x⟩
theorem lexValue_T (x : List UInt8) (hx : x.length ≤ 100000000) : ∃ r, T Try.prog 36 [.str x] [] r [] ∧ ∃ n e : Int, r = .tup [.int .i64 n, .int .i64 e] := by
  refine T.of0x mix c36 rfl ?_
  generalize hK : end0 _ _ = K
  have hB : ∀ {n e : Int} {d : V}, K .ret ⟨[(2, .int .i64 n), (3, .int .i64 e)], d⟩ [] := by
    intro n e d
    rw [← hK]
    show end0 [.tmp 2, .tmp 3] _ .ret ⟨_, d⟩ []
    rw [end0_two]
    simp only [go_sem, ↓reduceIte]
    rw [fin0_ii]
    exact ⟨_, _, rfl⟩
  unfold v36
  obtain ⟨r1, hT1, n1, e1, rfl⟩ := parse_T x (by omega)
  simp only [go_sem, ↓reduceIte]
  refine ⟨fun he => ⟨by omega, ?_⟩, fun _ => ⟨_, _, hT1, ?_⟩⟩
  · obtain ⟨r2, hT2, n2, e2, rfl⟩ := parse_T (45 :: x) (by simp; omega)
    refine ⟨_, _, hT2, ?_⟩
    simp only [go_sem, ↓reduceIte]
    simp [hB]
  · simp only [go_sem, ↓reduceIte]
    simp [hB]
end Go.Proofs.Ytdmnacjpgaopfaa.Vm
namespace Go.Proofs.Ytdmnacjpgaopfaa.Vm
open Go
set_option linter.unusedSimpArgs false

section
variable {A : Heap} {id : Nat} {o o1 x : Obj} {L : Heap} {cs : List V}
theorem gcA (h : id < A.length) : getCells (A.set id (.cells 0 cs) ++ L) id 0 = some cs := by rw [gc_app (by simp; exact h), gc_same h]
theorem gcA0 : getCells (A.set id o ++ .cells 0 cs :: L) A.length 0 = some cs := by
  rw [gc_some, List.getElem?_append_right (by simp), List.length_set, Nat.sub_self]; rfl
theorem gcA1 : getCells (A.set id o ++ o1 :: .cells 0 cs :: L) (A.length + 1) 0 = some cs := by
  rw [gc_some, List.getElem?_append_right (by simp), List.length_set, Nat.add_sub_cancel_left]; rfl
theorem stA (h : id < A.length) : (A.set id o ++ L).set id x = A.set id x ++ L := by
  rw [List.set_append_left _ _ (by simp; exact h), List.set_set]
theorem stA0 : (A.set id o ++ o1 :: L).set A.length x = A.set id o ++ x :: L := by
  rw [List.set_append_right _ _ (by simp), List.length_set, Nat.sub_self]; rfl
theorem stA1 {o2 : Obj} : (A.set id o ++ o1 :: o2 :: L).set (A.length + 1) x = A.set id o ++ o1 :: x :: L := by
  rw [List.set_append_right _ _ (by simp), List.length_set, Nat.add_sub_cancel_left]; rfl
end

def tok0 : Tok := ⟨0, [], 0, 0, 0, false⟩
/-- What next leaves. -/
def NextR (src : List UInt8) (A : Heap) (id i : Nat) (ln co : Int) (r : V) (H' : Heap) : Prop := ∃ (t : Tok) (e : Int) (i' : Nat) (co' : Int), r = .tup [.agg (tokC t), .int .i64 e] ∧ H' = A.set id (.cells 0 (rdC src i' ln co')) ∧ i ≤ i' ∧ RdI src.length i' ln co' ∧ (e = 0 → i < i' ∧ t.co = co ∧ t.ln = ln ∧ t.md = false)
theorem endX_next {A : Heap} {id : Nat} {src : List UInt8} {i : Nat} {ln co : Int} {o : List V} {t : Tok} {e : Int} {l : List (Nat × V)} {d : V} {L : Heap} {i' : Nat} {co' : Int} {ln' : Int} (ho : o = rdC src i' ln' co') (hid : id < A.length) (h2 : getE l d 2 = .ptr A.length 0 0) (h3 : getE l d 3 = .int .i64 e)
    (hii : i ≤ i') (hr : RdI src.length i' ln co') (hl : ln' = ln) (he : e = 0 → i < i' ∧ t.co = co ∧ t.ln = ln ∧ t.md = false) {o0 : Obj} :
    endX A.length (A.set id o0) [.cell 2 6 true, .tmp 3] (NextR src A id i ln co) .ret ⟨l, d⟩ (A.set id (.cells 0 o) ++ .cells 0 (tokC t) :: L) := by
  subst ho hl
  refine ⟨trivial, by simp, by simp, fun k ob hk hob => ?_, .tup [.agg (tokC t), .int .i64 e], ?_, .tup [.agg (tokC t), .int .i64 e], ?_, t, e, i', co', rfl, ?_, hii, hr, he⟩
  · rw [List.getElem?_append_left (by simp; exact hk), List.getElem?_set] at hob
    rw [List.getElem?_set]
    by_cases hkk : id = k
    · subst hkk
      rw [if_pos rfl, if_pos hid] at hob
      cases hob; exact .inr rfl
    · rw [if_neg hkk] at hob ⊢
      exact .inl hob
  · simp only [resV, resL, res1, En.f, h2, h3, gcA0, Option.bind_some, pack, Option.map_some]
    rfl
  · rfl
  · rw [List.take_append_of_le_length (by simp), List.take_of_length_le (by simp)]
theorem lexNext_T (A : Heap) (id : Nat) (hid : id < A.length) {src : List UInt8} {i : Nat} {ln co : Int} (hi : i < src.length) (hr : RdI src.length i ln co) (hn : src.length ≤ 8192) :
    ∃ r H', T Try.prog 21 [.ptr id 0 0] (A.set id (.cells 0 (rdC src i ln co))) r H' ∧ NextR src A id i ln co r H' := by
  refine T.of_ex mix c21 A.length rfl ?_
  generalize hK : endX _ _ _ _ = K
  obtain ⟨r0, r1, r2, r3, r4⟩ := hr
  have hw := inc64' (i := i) (by omega)
  obtain ⟨c, hc⟩ := get_lt (src := src) (i := i) hi
  unfold v21
  simp only [go_sem, ↓reduceIte, ↓gcA hid, ↓gcA0, ↓gcA1, stA hid, stA0, stA1, rdC, Int.toNat_natCast, List.length_set, ↓run_addW, ↓run_subW, ↓run_sliceStr, hw, List.append_assoc, hc]
  obtain ⟨k, hT, hk0, hk5⟩ := lexClass_T c.toNat (UInt8.toNat_lt c) (A.set id (.cells 0 (rdC src i ln co)) ++ [.cells 0 (tokC tok0)])
  refine ⟨by omega, _, _, hT, ?_⟩
  simp only [go_sem, ↓reduceIte, ↓gcA hid, ↓gcA0, ↓gcA1, stA hid, stA0, stA1, rdC, tokC, tok0, Int.toNat_natCast, List.length_set, ↓run_addW, ↓run_subW, ↓run_sliceStr, hw, List.append_assoc, hc]
  refine ⟨fun hk => ?_, fun _ => ?_⟩
  · rw [← hK]
    exact endX_next (t := tok0) (i' := i) rfl hid rfl rfl (Nat.le_refl _) ⟨r0, r1, r2, r3, r4⟩ rfl (fun h => by cases h)
  generalize hC : [Fr.blk 0, Fr.code _] = fs
  have hgo : ∀ (j : Nat) (ex : List (Nat × V)) (d : V), i < j → j ≤ src.length → goes Try.prog K fs (.exit 0) ⟨(0, .ptr id 0 0) :: (2, .ptr A.length 0 0) :: (4, .int .i64 k) :: (5, .int .i64 i) :: (6, .ptr (A.length + 1) 0 0) :: ex, d⟩
      (A.set id (.cells 0 (rdC src j ln co)) ++ [.cells 0 (tokC tok0), .cells 0 [.int .i64 0, .str [], .int .i64 0, .int .i64 ln, .int .i64 co, .bool false]]) := by
    intro j ex d hj1 hj2
    have e1 : IntKind.i64.wrap ((j : Int) - i) = (j : Int) - i := wrap64 (by omega) (by omega)
    have e2 : IntKind.i64.wrap (co + ((j : Int) - i)) = co + ((j : Int) - i) := wrap64 (by omega) (by omega)
    rw [← hC]
    simp only [go_sem, ↓reduceIte, ↓gcA hid, ↓gcA0, ↓gcA1, stA hid, stA0, stA1, Int.toNat_natCast, List.length_set, ↓run_addW, ↓run_subW, ↓run_sliceStr, List.append_assoc, rdC, tokC, tok0, e1, e2]
    refine ⟨⟨by omega, by omega, by omega⟩, ?_⟩
    have hyl : ((src.take j).drop i).length ≤ 8192 := by simp; omega
    generalize (src.take j).drop i = y at hyl
    obtain ⟨r, hkT, n, rfl⟩ := lexKind_T k y
    have hri : RdI src.length j ln (co + ((j : Int) - i)) := ⟨by omega, by omega, by omega, by omega, by omega⟩
    refine ⟨_, _, hkT.frame rfl _, ?_⟩
    obtain ⟨rv, hvT, vn, ve, rfl⟩ := lexValue_T y (by omega)
    have hzero : ∀ {e : Int} {L : Heap} {d : V}, e ≠ 0 → K .ret ⟨[(2, .ptr A.length 0 0), (3, .int .i64 e)], d⟩ (A.set id (.cells 0 (rdC src j ln (co + ((j : Int) - i)))) ++ .cells 0 (tokC tok0) :: L) := by
      intro e L d he
      rw [← hK]
      exact endX_next (t := tok0) (i' := j) rfl hid rfl rfl (by omega) hri rfl (fun h => absurd h he)
    have hfull : ∀ {L : Heap} {d : V} (vn : Int), K .ret ⟨[(2, .ptr A.length 0 0), (3, .int .i64 0)], d⟩ (A.set id (.cells 0 (rdC src j ln (co + ((j : Int) - i)))) ++ .cells 0 (tokC ⟨n, y, vn, ln, co, false⟩) :: L) := by
      intro L d vn
      rw [← hK]
      exact endX_next (t := ⟨n, y, vn, ln, co, false⟩) (i' := j) rfl hid rfl rfl (by omega) hri rfl (fun _ => ⟨hj1, rfl, rfl, rfl⟩)
    simp only [tokC, tok0, rdC] at hzero hfull
    simp only [go_sem, ↓reduceIte, ↓gcA hid, ↓gcA0, ↓gcA1, stA hid, stA0, stA1, Int.toNat_natCast, List.length_set, ↓run_addW, ↓run_subW, ↓run_sliceStr, List.append_assoc, rdC, tokC, tok0]
    have hval : ∀ (H1 : Heap), T Try.prog 36 [.str y] H1 (.tup [.int .i64 vn, .int .i64 ve]) H1 := fun H1 => hvT.frame rfl H1
    have hz2 := fun (L : Heap) (d : V) => hzero (e := 2) (L := L) (d := d) (by omega)
    by_cases hn4 : n = 4
    · have b1 : (n != 4) = false := by simp [hn4]
      have b2 : (n == 4) = true := by simp [hn4]
      simp only [go_sem, ↓reduceIte, ↓gcA hid, ↓gcA0, ↓gcA1, stA hid, stA0, stA1, Int.toNat_natCast, List.length_set, ↓run_addW, ↓run_subW, ↓run_sliceStr, List.append_assoc, rdC, tokC, tok0, b1, b2]
      refine ⟨_, _, hval _, ?_⟩
      simp only [go_sem, ↓reduceIte, ↓gcA hid, ↓gcA0, ↓gcA1, stA hid, stA0, stA1, Int.toNat_natCast, List.length_set, ↓run_addW, ↓run_subW, ↓run_sliceStr, List.append_assoc, rdC, tokC, tok0]
      refine ⟨fun hne => ?_, fun he0 => ?_⟩
      · exact hzero (by simpa using hne)
      · exact hfull vn
    · have b1 : (n != 4) = true := by simpa using hn4
      have b2 : (n == 4) = false := by simpa using hn4
      simp only [go_sem, ↓reduceIte, ↓gcA hid, ↓gcA0, ↓gcA1, stA hid, stA0, stA1, Int.toNat_natCast, List.length_set, ↓run_addW, ↓run_subW, ↓run_sliceStr, List.append_assoc, rdC, tokC, tok0, b1, b2]
      exact ⟨fun _ => hz2 _ _, fun _ => ⟨fun h => absurd h (by decide), fun _ => hfull 0⟩⟩
  refine WP.loop' (fun m E H1 => ∃ (j : Nat) (ex : List (Nat × V)) (d : V), i < j ∧ j ≤ src.length ∧ m = src.length - j ∧ E = ⟨(0, .ptr id 0 0) :: (2, .ptr A.length 0 0) :: (4, .int .i64 k) :: (5, .int .i64 i) :: (6, .ptr (A.length + 1) 0 0) :: ex, d⟩ ∧
      H1 = A.set id (.cells 0 (rdC src j ln co)) ++ [.cells 0 (tokC tok0), .cells 0 [.int .i64 0, .str [], .int .i64 0, .int .i64 ln, .int .i64 co, .bool false]]) (n := src.length - (i + 1))
    ⟨i + 1, _, _, by omega, by omega, rfl, rfl, rfl⟩ ?_
  rintro m E H1 ⟨j, ex, d, hj1, hj2, rfl, rfl, rfl⟩
  have hwj := inc64' (i := j) (by omega)
  have hgo' := fun ex d => hgo j ex d hj1 hj2
  simp only [rdC, tokC, tok0] at hgo'
  simp only [go_sem, ↓reduceIte, ↓gcA hid, ↓gcA0, ↓gcA1, stA hid, stA0, stA1, Int.toNat_natCast, List.length_set, ↓run_addW, ↓run_subW, ↓run_sliceStr, List.append_assoc, rdC, tokC, tok0, hwj]
  refine ⟨fun hl => ⟨by omega, ?_⟩, fun _ => hgo' _ _⟩
  obtain ⟨c2, hc2⟩ := get_lt (src := src) (i := j) (by omega)
  obtain ⟨b, hb⟩ := goesOn_T k c2.toNat (UInt8.toNat_lt c2) (A.set id (.cells 0 (rdC src j ln co)) ++ [.cells 0 (tokC tok0), .cells 0 [.int .i64 0, .str [], .int .i64 0, .int .i64 ln, .int .i64 co, .bool false]])
  refine ⟨c2, hc2, _, _, hb, ?_⟩
  simp only [go_sem, ↓reduceIte, ↓gcA hid, ↓gcA0, ↓gcA1, stA hid, stA0, stA1, Int.toNat_natCast, List.length_set, ↓run_addW, ↓run_subW, ↓run_sliceStr, List.append_assoc, rdC, tokC, tok0, hwj]
  refine ⟨fun _ => ⟨src.length - (j + 1), by omega, j + 1, [], .u, by omega, by omega, rfl, rfl, rfl⟩, fun _ => hgo' _ _⟩
end Go.Proofs.Ytdmnacjpgaopfaa.Vm
namespace Go.Proofs.Ytdmnacjpgaopfaa.Vm
open Go
set_option linter.unusedSimpArgs false

theorem gcL {H : Heap} {i : Nat} {cs : List V} (h : getCells H i 0 = some cs) (L : Heap) : getCells (H ++ L) i 0 = some cs := by rw [gc_app (gc_lt h)]; exact h
theorem gcS {H : Heap} {i j : Nat} {cs : List V} (h : getCells H i 0 = some cs) (hn : j ≠ i) (o : Obj) : getCells (H.set j o) i 0 = some cs := by rw [gc_ne hn]; exact h
theorem stX {H : Heap} {a b : Obj} : (H ++ [a]).set H.length b = H ++ [b] := by
  rw [List.set_append_right _ _ (Nat.le_refl _), Nat.sub_self]; rfl
/-- What a source's tokens are at least. -/
structure ToksOk (l : List Tok) : Prop where
  len : l.length ≤ 2048
  col : ∀ t ∈ l, 0 < t.co ∧ t.co ≤ 10000
  mad : ∀ t ∈ l, t.md = false
theorem tokens_T (src : List UInt8) : ∃ r, T Try.prog 11 [.str src] [] r [] ∧ ∃ (l : List Tok) (e a b : Int), r = .tup [toksV true l, .agg [.int .i64 e, .int .i64 a, .int .i64 b]] ∧ ToksOk l := by
  refine T.of0x mix c11 rfl ?_
  generalize hK : end0 _ _ = K
  have hend : ∀ {l : List Tok} {L : List (Nat × V)} {d : V} {H : Heap} {e a b : Int}, getE L d 2 = toksV true l → getE L d 3 = .ptr 0 0 0 → getCells H 0 0 = some [.int .i64 e, .int .i64 a, .int .i64 b] → ToksOk l → K .ret ⟨L, d⟩ H := by
    intro l L d H e a b h2 h3 hg hl
    rw [← hK]
    refine ⟨trivial, .tup [toksV true l, .agg [.int .i64 e, .int .i64 a, .int .i64 b]], ?_, _, rfl, l, e, a, b, rfl, hl⟩
    show resV 0 H (En.f ⟨L, d⟩) [.tmp 2, .cell 3 3 true] = _
    simp only [resV, resL, res1, En.f, h2, h3, hg, Option.bind_some, pack, Option.map_some]
    rfl
  unfold v11
  simp only [go_sem, ↓reduceIte, getCells]
  refine ⟨fun _ => ?_, fun hle => ?_⟩
  · exact hend (l := []) (e := 2) (a := 1) (b := 1) rfl rfl rfl ⟨by simp, by simp, by simp⟩
  have hn : src.length ≤ 8192 := by omega
  refine WP.loop' (fun m E H => ∃ (l : List Tok) (j : Nat) (ln co : Int) (ex : List (Nat × V)) (d : V), getCells H 0 0 = some [.int .i64 0, .int .i64 0, .int .i64 0] ∧ getCells H 2 0 = some (rdC src j ln co) ∧ RdI src.length j ln co ∧ m = src.length - j ∧ ToksOk l ∧
      E = ⟨(3, .ptr 0 0 0) :: (5, .ptr 2 0 0) :: (6, toksV true l) :: ex, d⟩) (n := src.length)
    ⟨[], 0, 1, 1, _, _, rfl, rfl, ⟨by omega, by omega, by simp, by omega, by simp⟩, rfl, ⟨by simp, by simp, by simp⟩, rfl⟩ ?_
  rintro m E H ⟨l, j, ln, co, ex, d, g0, g2, hr, rfl, hl, rfl⟩
  simp only [go_sem, ↓reduceIte, Int.toNat_natCast, ↓run_addW, ↓run_subW, List.append_assoc]
  obtain ⟨r, H1, hT, j1, ln1, co1, rfl, rfl, hjj, hr1⟩ := lexSkip_T g2 hr hn
  refine ⟨_, _, hT, ?_⟩
  have hlt2 := gc_lt g2
  have g0' := gcS g0 (j := 2) (by omega) (.cells 0 (rdC src j1 ln1 co1))
  have g2' : getCells (H.set 2 (.cells 0 (rdC src j1 ln1 co1))) 2 0 = some (rdC src j1 ln1 co1) := gc_same hlt2
  generalize hH1 : H.set 2 (.cells 0 (rdC src j1 ln1 co1)) = H1 at g0' g2' ⊢
  have hlt1 := gc_lt g2'
  have g2'' := g2'
  simp only [rdC] at g2''
  simp only [go_sem, ↓reduceIte, Int.toNat_natCast, ↓run_addW, ↓run_subW, List.append_assoc, ↓g2'', toksV]
  refine ⟨fun hj1 => ?_, fun hj1 => ?_⟩
  · have e1 : getCells (H1 ++ [.cells 0 [.int .i64 ln1, .int .i64 co1]]) 2 0 = some (rdC src j1 ln1 co1) := gcL g2' _
    have e0 := gcL g0' [.cells 0 [.int .i64 ln1, .int .i64 co1]]
    have e3 : getCells (H1 ++ [.cells 0 [.int .i64 ln1, .int .i64 co1]]) H1.length 0 = some [.int .i64 ln1, .int .i64 co1] := gc_new
    obtain ⟨r, H2, hT2, t, e, j2, co2, rfl, hH2, hj2, hr2, htk⟩ := lexNext_T (H1 ++ [.cells 0 [.int .i64 ln1, .int .i64 co1]]) 2 (by simp; omega) hj1 hr1 hn
    rw [gc_self e1] at hT2
    have hlen : H1.length + 1 = H2.length := by rw [hH2]; simp
    have k0 : getCells H2 0 0 = some [.int .i64 0, .int .i64 0, .int .i64 0] := by rw [hH2]; exact gcS e0 (by omega) _
    have k2 : getCells H2 2 0 = some (rdC src j2 ln1 co2) := by rw [hH2]; exact gc_same (by simp; omega)
    have k3 : getCells H2 H1.length 0 = some [.int .i64 ln1, .int .i64 co1] := by rw [hH2]; exact gcS e3 (by omega) _
    simp only [go_sem, ↓reduceIte, Int.toNat_natCast, ↓run_addW, ↓run_subW, List.append_assoc, ↓gc_new, stX]
    refine ⟨_, _, hT2, ?_⟩
    simp only [go_sem, ↓reduceIte, Int.toNat_natCast, ↓run_addW, ↓run_subW, List.append_assoc, ↓gc_new, stX, tokC, ↓gcL k0, ↓gcL k2, ↓gcL k3]
    have hbad : ∀ {e : Int} {L : Heap} {d : V}, K .ret ⟨[(2, .sl true 6 []), (3, .ptr 0 0 0)], d⟩ ((H2 ++ L).set 0 (.cells 0 [.int .i64 e, .int .i64 ln1, .int .i64 co1])) := by
      intro e L d
      exact hend (l := []) rfl rfl (gc_same (by simp; omega)) ⟨by simp, by simp, by simp⟩
    by_cases he : e = 0
    · have b1 : (e == 0) = true := by simp [he]
      have b2 : (e != 0) = false := by simp [he]
      simp only [go_sem, ↓reduceIte, Int.toNat_natCast, ↓run_addW, ↓run_subW, List.append_assoc, ↓gc_new, stX, tokC, ↓gcL k0, ↓gcL k2, ↓gcL k3, b1, b2, run_buildSlG, elems_agg, exX_some]
      refine ⟨fun _ => ⟨fun _ => hbad, fun h => absurd h (by decide)⟩, fun hlt => ?_⟩
      obtain ⟨q1, q2, q3, q4⟩ := htk he
      have q5 := hr1.c1
      have q6 := hr1.c2
      have q7 := hr1.b
      have hl2 : ToksOk (l ++ [t]) := by
        refine ⟨by simp; omega, fun u hu => ?_, fun u hu => ?_⟩
        · rcases List.mem_append.1 hu with hu | hu
          · exact hl.col u hu
          · rw [List.mem_singleton.1 hu]; omega
        · rcases List.mem_append.1 hu with hu | hu
          · exact hl.mad u hu
          · rw [List.mem_singleton.1 hu]; exact q4
      refine ⟨by simp [fits]; omega, src.length - j2, by omega, l ++ [t], j2, ln1, co2, [], .u, rfl, hr2, rfl, hl2, ?_⟩
      rw [List.map_append]; rfl
    · have b1 : (e == 0) = false := by simp [he]
      have b2 : (e != 0) = true := by simp [he]
      simp only [go_sem, ↓reduceIte, Int.toNat_natCast, ↓run_addW, ↓run_subW, List.append_assoc, ↓gc_new, stX, tokC, ↓gcL k0, ↓gcL k2, ↓gcL k3, b1, b2]
      exact hbad
  · simp only [go_sem, ↓reduceIte, Int.toNat_natCast, ↓run_addW, ↓run_subW, List.append_assoc, ↓g0']
    exact hend (l := l) rfl rfl (gc_same (by omega)) hl
end Go.Proofs.Ytdmnacjpgaopfaa.Vm
namespace Go.Proofs.Ytdmnacjpgaopfaa.Vm
open Go
set_option linter.unusedSimpArgs false

/-- All columns are within some bounds. -/
def Cols (p : Int → Prop) (l : List Tok) : Prop := ∀ t ∈ l, p t.co
theorem Cols.app {p : Int → Prop} {a b : List Tok} (ha : Cols p a) (hb : Cols p b) : Cols p (a ++ b) := fun t ht => (List.mem_append.1 ht).elim (ha t) (hb t)
theorem Cols.one {p : Int → Prop} {t : Tok} (h : p t.co) : Cols p [t] := fun u hu => by rw [List.mem_singleton.1 hu]; exact h
theorem Cols.rep {p : Int → Prop} {n : Nat} {x : List UInt8} {a c : Int} (h : p c) : Cols p (List.replicate n (mkT x a c)) := fun u hu => by rw [(List.mem_replicate.1 hu).2]; exact h
theorem Cols.nil {p : Int → Prop} : Cols p [] := fun _ h => by cases h
theorem closes_cols {p : Int → Prop} {s : LS} {t : Tok} (h : Cols p s.out) (ht : p t.co) : Cols p (closesS s t).out := by
  unfold closesS
  split
  · exact h
  · split
    · exact h
    · exact h.app (Cols.rep ht)
theorem beg_cols {p : Int → Prop} {s : LS} {t : Tok} (b : Bool) (h : Cols p s.out) (ht : p t.co) : Cols p (begI b s t).out := by
  unfold begI
  split
  · unfold begS
    refine (h.app (Cols.rep ht)).app ?_
    split
    · exact Cols.one ht
    · exact Cols.nil
  · exact h
theorem tell_cols {p : Int → Prop} {s : LS} {t : Tok} (h : Cols p s.out) (ht : p t.co) : Cols p (tellS s t).out := h.app (Cols.one ht)
theorem step_cols {p : Int → Prop} {s : LS} {t : Tok} (b : Bool) (h : Cols p s.out) (ht : p t.co) : Cols p (stepS s t b).out := by
  unfold stepS
  split
  · split
    · exact tell_cols (closes_cols h ht) ht
    · split
      · exact tell_cols (closes_cols (h.app (Cols.one ht)) ht) ht
      · refine tell_cols (closes_cols (beg_cols b ?_ ht) ht) ht
        exact h.app fun u hu => by
          rcases List.mem_cons.1 hu with rfl | hu
          · exact ht
          · rw [List.mem_singleton.1 hu]; exact ht
  · exact tell_cols (closes_cols (beg_cols b h ht) ht) ht
theorem run_cols {p : Int → Prop} : ∀ (l : List Tok) (s : LS) (q : Option Int), Cols p s.out → Cols p l → Cols p (runS s q l).out
  | [], _, _, h, _ => h
  | t :: l, s, q, h, hl => run_cols l _ _ (step_cols _ h (hl t (List.mem_cons_self ..))) fun u hu => hl u (List.mem_cons_of_mem _ hu)
theorem last_cols {p : Int → Prop} : ∀ (l : List Tok) (q : Int × Int), p q.2 → Cols p l → p (lastAt q l).2
  | [], _, h, _ => h
  | t :: l, _, _, hl => last_cols l _ (hl t (List.mem_cons_self ..)) fun u hu => hl u (List.mem_cons_of_mem _ hu)
theorem lay_cols {p : Int → Prop} {l : List Tok} (h1 : p 1) (hl : Cols p l) : Cols p (layL l) := by
  unfold layL finS
  have hla := last_cols l (1, 1) h1 hl
  refine ((run_cols l s0 none Cols.nil hl).app ?_).app (Cols.rep hla)
  split
  · intro u hu
    rcases List.mem_cons.1 hu with rfl | hu
    · exact hla
    · rw [List.mem_singleton.1 hu]; exact hla
  · exact Cols.nil

theorem laysLaw_T (src : List UInt8) : T Try.prog 3 [.str src] [] (.bool true) [] := by
  refine T.of0 mix c3 rfl ?_
  unfold v3
  obtain ⟨r, hT, l, e, a, b, rfl, hl⟩ := tokens_T src
  simp only [go_sem, ↓reduceIte]
  refine ⟨_, _, hT, ?_⟩
  simp only [go_sem, ↓reduceIte, toksV, getCells]
  refine ⟨fun _ => ⟨_, _, known_H _, ?_⟩, fun _ => ?_⟩
  · simp only [go_sem, ↓reduceIte]
  · have hlen := lay_len l
    have h1 := hl.len
    refine ⟨_, _, lay_H false l (by omega) _, ?_⟩
    simp only [go_sem, ↓reduceIte, toksV]
    refine ⟨_, _, reflay_H _ l (by omega) _, ?_⟩
    simp only [go_sem, ↓reduceIte, toksV]
    refine ⟨_, _, same_H false false _ _ (by omega) _, ?_⟩
    have e : (layL l == layL l) = true := by simp
    rw [e]
    simp only [go_sem, ↓reduceIte]
    refine ⟨_, _, known_H _, ?_⟩
    simp only [go_sem, ↓reduceIte]

theorem shiftLaw_T (src : List UInt8) (n : Int) : T Try.prog 9 [.str src, .int .i64 n] [] (.bool true) [] := by
  refine T.of0 mix c9 rfl ?_
  generalize hK : end0 _ _ = K
  have hend : ∀ {L : List (Nat × V)} {d : V} {H : Heap}, getE L d 4 = .bool true → K .ret ⟨L, d⟩ H := by
    intro L d H h
    rw [← hK]
    show end0 [.tmp 4] _ .ret ⟨L, d⟩ H
    rw [end0_tmp, h, fin0_bool]
  unfold v9
  obtain ⟨r, hT, l, e, a, b, rfl, hl⟩ := tokens_T src
  simp only [go_sem, ↓reduceIte, toksV, Int.toNat_natCast, ↓run_addW, ↓run_subW, List.append_assoc]
  refine ⟨_, _, hT, ?_⟩
  simp only [go_sem, ↓reduceIte, toksV, Int.toNat_natCast, ↓run_addW, ↓run_subW, List.append_assoc, getCells]
  have hkn : ∀ (H : Heap), ∃ r H', T Try.prog 12 [] H r H' ∧ K .ret ⟨[(4, strip r)], .u⟩ H' := fun H => ⟨_, _, known_H H, hend rfl⟩
  by_cases h1 : e = 0
  · have d1 : (e != 0) = false := by simp [h1]
    simp only [go_sem, ↓reduceIte, toksV, Int.toNat_natCast, ↓run_addW, ↓run_subW, List.append_assoc, d1]
    refine ⟨fun h2 => ⟨fun _ => hkn _, fun h3 => ?_⟩, fun _ => hkn _⟩
    generalize hC : [Fr.blk 0, Fr.code _] = fs
    obtain ⟨m, rfl⟩ : ∃ m : Nat, n = m := ⟨n.toNat, by omega⟩
    have hcol : ∀ (i : Nat) (t : Tok), l[i]? = some t → IntKind.i64.wrap (t.co + m) = t.co + m := by
      intro i t ht
      have := hl.col t (List.mem_of_getElem? ht)
      exact wrap64 (by omega) (by omega)
    have hgo : ∀ (ex : List (Nat × V)) (d : V) (H : Heap), goes Try.prog K fs (.exit 0) ⟨(1, .int .i64 m) :: (5, toksV false l) :: (7, toksV true (l.map (shT m))) :: ex, d⟩ H := by
      intro ex d H
      rw [← hC]
      have hlen := lay_len l
      have hlen2 := lay_len (l.map (shT m))
      have hll := hl.len
      simp only [List.length_map] at hlen2
      simp only [go_sem, ↓reduceIte, toksV, Int.toNat_natCast, ↓run_addW, ↓run_subW, List.append_assoc]
      refine ⟨_, _, lay_H false l (by omega) _, ?_⟩
      simp only [go_sem, ↓reduceIte, toksV, Int.toNat_natCast, ↓run_addW, ↓run_subW, List.append_assoc]
      refine ⟨_, _, lay_H true (l.map (shT m)) (by simp; omega) _, ?_⟩
      simp only [go_sem, ↓reduceIte, toksV, Int.toNat_natCast, ↓run_addW, ↓run_subW, List.append_assoc]
      obtain ⟨d2, hd2, hsh⟩ : ∃ d2 : Int, (0 < l.length → d2 = m) ∧ layL (l.map (shT m)) = (layL l).map (shT d2) := by
        by_cases hne : l = []
        · subst hne
          refine ⟨0, by simp, ?_⟩
          rw [List.map_nil]
          have : (shT 0) = id := by funext t; simp [shT]
          rw [this, List.map_id]
        · exact ⟨m, fun _ => rfl, shift (by omega) hne fun t ht => (hl.col t ht).1⟩
      have hcols : Cols (fun c => 0 < c ∧ c ≤ 10000) (layL l) := lay_cols (by omega) hl.col
      have hal := alike_T false false (layL l) d2 (by omega)
      rw [hsh]
      generalize hL1 : layL l = L1 at hal hcols hlen
      refine ⟨_, _, hal.frame rfl _, ?_⟩
      simp only [go_sem, ↓reduceIte, toksV, Int.toNat_natCast, ↓run_addW, ↓run_subW, List.append_assoc]
      refine WP.loop' (fun k E H => ∃ i ex d, i + k = L1.length ∧ E = ⟨(1, .int .i64 m) :: (5, toksV false l) :: (10, toksV false L1) :: (11, toksV false (L1.map (shT d2))) :: (12, .int .i64 i) :: ex, d⟩) (n := L1.length)
        ⟨0, _, _, by omega, rfl⟩ ?_
      rintro k E H ⟨i, ex, d, hi, rfl⟩
      have hwi := inc64' (i := i) (by omega)
      simp only [go_sem, ↓reduceIte, toksV, Int.toNat_natCast, ↓run_addW, ↓run_subW, List.append_assoc, hwi, ↓ex_map]
      refine ⟨fun hil => ?_, fun _ => ⟨_, _, known_H _, ?_⟩⟩
      · refine ⟨fun hpos => ⟨by omega, ?_⟩, fun _ => ⟨_, _, known_H _, ?_⟩⟩
        · obtain ⟨t, ht⟩ : ∃ t, L1[i]? = some t := ⟨_, List.getElem?_eq_getElem (by omega)⟩
          refine ⟨t, ht, ?_⟩
          simp only [go_sem, ↓reduceIte, toksV, Int.toNat_natCast, ↓run_addW, ↓run_subW, List.append_assoc, hwi, ↓ex_map, tokC]
          have f1 : (t.ln != (shT d2 t).ln) = false := by simp [shT]
          have f2 : IntKind.i64.wrap ((shT d2 t).co - m) = t.co := by
            have := hcols t (List.mem_of_getElem? ht)
            rw [hd2 (by omega)]
            show IntKind.i64.wrap (t.co + m - m) = t.co
            rw [wrap64 (by omega) (by omega)]; omega
          have f3 : (t.co != t.co) = false := by simp
          simp only [ht, Option.some.injEq, exists_eq_left', f1, f2, f3, true_and, Bool.false_eq_true, false_implies, forall_const, not_true_eq_false, and_true]
          refine ⟨by omega, by omega, by omega, k - 1, by omega, i + 1, [], .u, by omega, rfl⟩
        · simp only [go_sem, ↓reduceIte, toksV, Int.toNat_natCast, ↓run_addW, ↓run_subW, List.append_assoc]; exact hend rfl
      · simp only [go_sem, ↓reduceIte, toksV, Int.toNat_natCast, ↓run_addW, ↓run_subW, List.append_assoc]; exact hend rfl
    refine WP.loop' (fun k E H => ∃ i ex d, i + k = l.length ∧ E = ⟨(1, .int .i64 m) :: (5, toksV false l) :: (7, toksV true ((l.take i).map (shT m))) :: (8, .int .i64 i) :: ex, d⟩) (n := l.length)
      ⟨0, _, _, by omega, rfl⟩ ?_
    rintro k E H ⟨i, ex, d, hi, rfl⟩
    have hwi := inc64' (i := i) (by have := hl.len; omega)
    simp only [go_sem, ↓reduceIte, toksV, Int.toNat_natCast, ↓run_addW, ↓run_subW, List.append_assoc, hwi, ↓ex_map]
    refine ⟨fun hil => ⟨by omega, ?_⟩, fun hil => ?_⟩
    · obtain ⟨t, ht⟩ : ∃ t, l[i]? = some t := ⟨_, List.getElem?_eq_getElem (by omega)⟩
      refine ⟨t, ht, ?_⟩
      have hw := hcol i t ht
      simp only [go_sem, ↓reduceIte, toksV, Int.toNat_natCast, ↓run_addW, ↓run_subW, List.append_assoc, hwi, ↓ex_map, tokC, ↓gc_new, stX, hw, run_buildSlG, elems_agg, exX_some]
      refine ⟨by simp [fits]; have := hl.len; omega, k - 1, by omega, i + 1, [], .u, by omega, ?_⟩
      rw [List.take_add_one, ht, Option.toList_some, List.map_append, List.map_append]
      rfl
    · have : l.take i = l := List.take_of_length_le (by omega)
      rw [this]
      exact hgo _ _ _
  · have d1 : (e != 0) = true := by simp [h1]
    simp only [go_sem, ↓reduceIte, toksV, Int.toNat_natCast, ↓run_addW, ↓run_subW, List.append_assoc, d1]
    exact hkn _
end Go.Proofs.Ytdmnacjpgaopfaa.Vm
namespace Go.Proofs.Ytdmnacjpgaopfaa.Vm
open Go
set_option linter.unusedSimpArgs false

section
variable {P : Program} {K : KK} {s : List Fr} {E : En} {H : Heap} {tk : List Nat} {dst : Option Nat} {os : List VOp} {keep : List Nat}
theorem run_mulW {k : IntKind} {a b : Int} : runInt P .mul k a b tk dst os keep s E H K = runOps P os keep s ((stripEn tk E).setO dst (.int k (k.wrap (a * b)))) H K := by
  unfold runInt intW
  apply propext
  constructor
  · rintro ⟨z, rfl, h⟩; exact h
  · intro h; exact ⟨_, rfl, h⟩
end
theorem ex_get {l : List Tok} {i : Nat} {x : List UInt8} (h : (l[i]?).map (·.s) = some x) : ∃ t, l[i]? = some t ∧ t.s = x := by
  obtain ⟨t, h1, h2⟩ := Option.map_eq_some_iff.1 h
  exact ⟨t, h1, h2⟩
theorem tok6 {l : List Tok} {i : Nat} {t : Tok} (ht : l[i]? = some t) {x : List UInt8} (hs : t.s = x) : ∃ a c d e f, (List.map tokC l)[i]? = some [a, .str x, c, d, e, f] := by
  exact ⟨.int .i64 t.k, .int .i64 t.n, .int .i64 t.ln, .int .i64 t.co, .bool t.md, by rw [List.getElem?_map, ht, ← hs]; rfl⟩
theorem linesLaw_T (n col : Int) : T Try.prog 10 [.int .i64 n, .int .i64 col] [] (.bool true) [] := by
  refine T.of0 mix c10 rfl ?_
  unfold v10
  by_cases hg : n < 1 ∨ n > 500 ∨ col < 1 ∨ col > 100
  · by_cases h1 : n < 1
    · have d1 : decide (n < 1) = true := decide_eq_true h1
      simp only [go_sem, ↓reduceIte, d1]
      refine ⟨_, _, known_H [], ?_⟩
      simp only [go_sem, ↓reduceIte]
    · have d1 : decide (n < 1) = false := decide_eq_false h1
      by_cases h2 : n > 500
      · have d2 : decide (n > 500) = true := decide_eq_true h2
        simp only [go_sem, ↓reduceIte, d1, d2]
        refine ⟨_, _, known_H [], ?_⟩
        simp only [go_sem, ↓reduceIte]
      · have d2 : decide (n > 500) = false := decide_eq_false h2
        by_cases h3 : col < 1
        · have d3 : decide (col < 1) = true := decide_eq_true h3
          simp only [go_sem, ↓reduceIte, d1, d2, d3]
          refine ⟨_, _, known_H [], ?_⟩
          simp only [go_sem, ↓reduceIte]
        · have d3 : decide (col < 1) = false := decide_eq_false h3
          have d4 : decide (col > 100) = true := decide_eq_true (by omega)
          simp only [go_sem, ↓reduceIte, d1, d2, d3, d4]
          refine ⟨_, _, known_H [], ?_⟩
          simp only [go_sem, ↓reduceIte]
  · have d1 : decide (n < 1) = false := decide_eq_false (by omega)
    have d2 : decide (n > 500) = false := decide_eq_false (by omega)
    have d3 : decide (col < 1) = false := decide_eq_false (by omega)
    have d4 : decide (col > 100) = false := decide_eq_false (by omega)
    obtain ⟨k, rfl⟩ : ∃ k : Nat, n = k := ⟨n.toNat, by omega⟩
    obtain ⟨m0, hm0, hlen, hfst, hlst, hmid⟩ := lines (col := col) (by omega) (n := k) (by omega)
    simp only [go_sem, ↓reduceIte, d1, d2, d3, d4]
    refine WP.loop' (fun m E H => ∃ i ex, i + m = k ∧
        E = ⟨(0, .int .i64 k) :: (1, .int .i64 col) :: (5, toksV true ((List.range i).map (xT col))) :: (6, .int .i64 i) :: ex, .u⟩) (n := k)
      ⟨0, [], by omega, by simp [toksV]⟩ ?_
    rintro m E H ⟨i, ex, hi, rfl⟩
    have hwi := inc64 (i := i) (by omega)
    have hds : decide ((i : Int) < (k : Int)) = decide (i < k) := by simp
    simp only [go_sem, ↓reduceIte, toksV, Int.toNat_natCast, ↓run_addW, hwi, run_buildSlG, elems_agg, exX_some]
    by_cases hil : i < k
    · refine ⟨fun _ => ⟨by simp [fits]; omega, m - 1, by omega, i + 1, [], by omega, ?_⟩, fun h => absurd h (by omega)⟩
      rw [List.range_succ, List.map_append]
      simp only [List.map_append, List.map_cons, List.map_nil, tokC, xT]
    · refine ⟨fun h => absurd h (by omega), fun _ => ?_⟩
      have : i = k := by omega
      subst this
      refine ⟨_, _, lay_H true ((List.range i).map (xT col)) (by simp; omega) H, ?_⟩
      rw [← hm0]
      have w2 : IntKind.i64.wrap (2 * (i : Int)) = ((2 * i : Nat) : Int) := by rw [wrap64 (by omega) (by omega)]; omega
      have w3 := inc64 (i := 2 * i) (by omega)
      obtain ⟨t0, ht0, hs0⟩ := ex_get hfst
      obtain ⟨t1, ht1, hs1⟩ := ex_get hlst
      obtain ⟨a0, b0, c0, e0, f0, g0⟩ := tok6 ht0 hs0
      obtain ⟨a1, b1, c1, e1, f1, g1⟩ := tok6 ht1 hs1
      have hne : (((m0.length : Nat) : Int) != ((2 * i + 1 : Nat) : Int)) = false := by rw [hlen]; simp
      have z0 : (0 : Int) ≤ 0 ↔ True := by simp
      have z1 : (0 : Int) ≤ ((2 * i : Nat) : Int) ↔ True := ⟨fun _ => True.intro, fun _ => by omega⟩
      have eo : (bOpen == [123]) = true := rfl
      have es : (bShut == [125]) = true := rfl
      have t00 : (0 : Int).toNat = 0 := rfl
      simp only [go_sem, ↓reduceIte, toksV, Int.toNat_natCast, ↓run_addW, ↓run_mulW, w2, w3, hne, g0, g1, ex_is, z0, z1, t00, true_and, eo, es, Bool.not_true]
      refine WP.loop' (fun m E H => ∃ j ex, j + m = i ∧ E = ⟨(0, .int .i64 i) :: (7, toksV false m0) :: (8, .int .i64 j) :: ex, .u⟩) (n := i) ⟨0, [], by omega, by simp [toksV]⟩ ?_
      rintro m2 E2 H2 ⟨j, ex2, hj, rfl⟩
      have hwj := inc64 (i := j) (by omega)
      have w4 : IntKind.i64.wrap (2 * (j : Int)) = ((2 * j : Nat) : Int) := by rw [wrap64 (by omega) (by omega)]; omega
      have w5 := inc64 (i := 2 * j) (by omega)
      simp only [go_sem, ↓reduceIte, toksV, Int.toNat_natCast, ↓run_addW, ↓run_mulW, w4, w5, hwj]
      by_cases hjl : j < i
      · obtain ⟨hx, hsemi⟩ := hmid j hjl
        obtain ⟨t2, ht2, hs2⟩ := ex_get hx
        obtain ⟨a2, b2, c2, e2, f2, g2⟩ := tok6 ht2 hs2
        have z2 : (0 : Int) ≤ ((2 * j + 1 : Nat) : Int) ↔ True := ⟨fun _ => True.intro, fun _ => by omega⟩
        have z3 : (0 : Int) ≤ ((2 * j : Nat) : Int) ↔ True := ⟨fun _ => True.intro, fun _ => by omega⟩
        have ex0 : (([120] : List UInt8) == [120]) = true := rfl
        refine ⟨fun _ => ?_, fun h => absurd h (by omega)⟩
        cases hj0 : decide ((j : Int) > 0) with
        | false =>
          simp only [go_sem, ↓reduceIte, toksV, Int.toNat_natCast, ↓run_addW, ↓run_mulW, w4, w5, g2, ex_is, z2, true_and, ex0, Bool.not_true, hj0, hwj]
          exact ⟨m2 - 1, by omega, j + 1, [], by omega, rfl⟩
        | true =>
          have hjp : 0 < j := by have := of_decide_eq_true hj0; omega
          obtain ⟨t3, ht3, hs3⟩ := ex_get (hsemi hjp)
          obtain ⟨a3, b3, c3, e3, f3, g3⟩ := tok6 ht3 hs3
          have em : (bSemi == [59]) = true := rfl
          simp only [go_sem, ↓reduceIte, toksV, Int.toNat_natCast, ↓run_addW, ↓run_mulW, w4, w5, g2, g3, ex_is, z2, z3, true_and, ex0, em, Bool.not_true, hj0, hwj]
          exact ⟨m2 - 1, by omega, j + 1, [], by omega, rfl⟩
      · refine ⟨fun h => absurd h (by omega), fun _ => ⟨_, _, known_H H2, ?_⟩⟩
        simp only [go_sem, ↓reduceIte]
end Go.Proofs.Ytdmnacjpgaopfaa.Vm
