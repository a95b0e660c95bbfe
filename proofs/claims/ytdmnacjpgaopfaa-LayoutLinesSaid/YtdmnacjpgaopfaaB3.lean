/-
The layout, part 1: what is laid, as a plain function.
The value machine, part 32: heaps that are not written out.
The layout, part 3: the layer in memory; make, push.
The layout, part 4: block, column, inLaid.
The layout, part 5: find, closeTo.
The layout, part 6: closeTo.
The layout, part 7: closes.
The layout, part 8: opens.
The layout, part 9: starts, begins.
The layout, part 10: a token more.
The layout, part 11: what the laws ask of rows of tokens.
The value machine, part 33: a function whose answer takes what its cell owns.
The layout, part 12: the reference's state; made, pushed.
The layout, part 13: the reference's top and dropped.
The layout, part 14: the reference's dropped and closed.
The layout, part 15: the reference's closes.
The layout, part 16: the reference's tells.
The layout, part 17: the reference's step: its end.
The layout, part 18: the reference's step: a line's first token.
The layout, part 19: the reference's step.
-/
import Derived.Test.YtdmnacjpgaopfaaB2
namespace Go.Proofs.Ytdmnacjpgaopfaa.Vm
open Go

structure Tok where
  k : Int
  s : List UInt8
  n : Int
  ln : Int
  co : Int
  md : Bool
deriving DecidableEq
/-- A frame: 0 a block that is laid out, 1 a brace, 2 a bracket, 3 let, 4 case, 5 if, 6 then. -/
structure Fm where
  k : Nat
  co : Int
deriving DecidableEq
/-- What was told; the frames, the topmost one first; whether a block is due. -/
structure LS where
  out : List Tok
  fs : List Fm
  due : Bool

def bOpen : List UInt8 := [123]
def bShut : List UInt8 := [125]
def bSemi : List UInt8 := [59]
def mkT (x : List UInt8) (ln co : Int) : Tok := ⟨5, x, 0, ln, co, true⟩
def isM (t : Tok) (x : List UInt8) : Bool := t.k == 5 && t.s == x
def isW (t : Tok) (x : List UInt8) : Bool := t.k == 6 && t.s == x
def isBlk (f : Fm) : Bool := f.k == 0 || f.k == 1
def colF : List Fm → Int
  | [] => 0
  | f :: fs => if isBlk f then (if f.k = 0 then f.co else 0) else colF fs
def inLaid : List Fm → Bool
  | [] => false
  | f :: fs => if isBlk f then f.k == 0 else inLaid fs
def dropF : List Fm → List Fm
  | [] => []
  | f :: fs => if isBlk f then fs else dropF fs
/-- Closing up to a frame: how many blocks above it were laid out, and what is below. -/
def closeF (want : Nat) (bars : List Nat) : List Fm → Option (Nat × List Fm)
  | [] => none
  | f :: fs => if f.k = want then some (0, fs) else if bars.contains f.k then none else (closeF want bars fs).map fun p => (p.1 + (if f.k = 0 then 1 else 0), p.2)
def closeOf (t : Tok) : Option (Nat × List Nat) :=
  if isM t [41] then some (2, [1]) else if isM t bShut then some (1, []) else if isW t [105, 110] then some (3, [1, 2]) else if isW t [111, 102] then some (4, [1, 2])
  else if isW t [116, 104, 101, 110] then some (5, [1, 2]) else if isW t [101, 108, 115, 101] then some (6, [1, 2]) else none
def openOf (t : Tok) : Option Nat :=
  if isM t [40] then some 2 else if isM t bOpen then some 1 else if isW t [108, 101, 116] then some 3 else if isW t [99, 97, 115, 101] then some 4
  else if isW t [105, 102] then some 5 else if isW t [116, 104, 101, 110] then some 6 else none
def dueOf (t : Tok) : Bool := isW t [108, 101, 116] || isW t [111, 102]
def closesS (s : LS) (t : Tok) : LS := match closeOf t with
  | none => s
  | some (w, b) => match closeF w b s.fs with
    | none => s
    | some (n, fs) => { s with out := s.out ++ List.replicate n (mkT bShut t.ln t.co), fs := fs }
def pushF (t : Tok) (fs : List Fm) : List Fm := match openOf t with
  | some k => ⟨k, 0⟩ :: fs
  | none => fs
def tellS (s : LS) (t : Tok) : LS := ⟨s.out ++ [t], pushF t s.fs, s.due || dueOf t⟩
def begF (co : Int) : Nat → List Fm → Nat × List Fm
  | 0, fs => (0, fs)
  | f + 1, fs => if inLaid fs && decide (co < colF fs) then ((begF co f (dropF fs)).1 + 1, (begF co f (dropF fs)).2) else (0, fs)
def begS (s : LS) (t : Tok) : LS :=
  let p := begF t.co s.fs.length s.fs
  { s with out := s.out ++ List.replicate p.1 (mkT bShut t.ln t.co) ++ (if inLaid p.2 && colF p.2 == t.co then [mkT bSemi t.ln t.co] else []), fs := p.2 }
def begI (first : Bool) (s : LS) (t : Tok) : LS := if first then begS s t else s
def stepS (s : LS) (t : Tok) (first : Bool) : LS :=
  if s.due then
    if isM t bOpen then tellS (closesS { s with due := false } t) t
    else if colF s.fs < t.co then tellS (closesS ⟨s.out ++ [mkT bOpen t.ln t.co], ⟨0, t.co⟩ :: s.fs, false⟩ t) t
    else tellS (closesS (begI first ⟨s.out ++ [mkT bOpen t.ln t.co, mkT bShut t.ln t.co], s.fs, false⟩ t) t) t
  else tellS (closesS (begI first s t) t) t
def runS : LS → Option Int → List Tok → LS
  | s, _, [] => s
  | s, p, t :: l => runS (stepS s t (p != some t.ln)) (some t.ln) l
def laidN (fs : List Fm) : Nat := (fs.filter fun f => f.k == 0).length
def lastAt : Int × Int → List Tok → Int × Int
  | p, [] => p
  | _, t :: l => lastAt (t.ln, t.co) l
def finS (s : LS) (p : Int × Int) : List Tok := s.out ++ (if s.due then [mkT bOpen p.1 p.2, mkT bShut p.1 p.2] else []) ++ List.replicate (laidN s.fs) (mkT bShut p.1 p.2)
def s0 : LS := ⟨[], [], true⟩
def layL (l : List Tok) : List Tok := finS (runS s0 none l) (lastAt (1, 1) l)
def realL (l : List Tok) : List Tok := l.map fun t => { t with md := false }

/-! ### What is not made is there -/
def real (t : Tok) : Bool := !t.md
theorem real_mkT (x : List UInt8) (a b : Int) : real (mkT x a b) = false := rfl
theorem filter_rep (n : Nat) (x : List UInt8) (a b : Int) : (List.replicate n (mkT x a b)).filter real = [] := by
  rw [List.filter_eq_nil_iff]
  intro t ht
  rw [List.eq_of_mem_replicate ht]; simp [real_mkT]
theorem closes_real (s : LS) (t : Tok) : (closesS s t).out.filter real = s.out.filter real := by
  unfold closesS
  split
  · rfl
  · split
    · rfl
    · simp [filter_rep]
theorem beg_real (s : LS) (t : Tok) : (begS s t).out.filter real = s.out.filter real := by
  unfold begS
  simp only [List.filter_append, filter_rep, List.append_nil]
  split <;> simp [real_mkT]
theorem begI_real (b : Bool) (s : LS) (t : Tok) : (begI b s t).out.filter real = s.out.filter real := by
  unfold begI; split
  · exact beg_real s t
  · rfl
theorem step_real (s : LS) (t : Tok) (b : Bool) : (stepS s t b).out.filter real = s.out.filter real ++ [t].filter real := by
  unfold stepS
  split
  · split
    · simp [tellS, closes_real]
    · split
      · simp [tellS, closes_real, real_mkT]
      · simp [tellS, closes_real, begI_real, real_mkT]
  · simp [tellS, closes_real, begI_real]
theorem run_real : ∀ (l : List Tok) (s : LS) (p : Option Int), (runS s p l).out.filter real = s.out.filter real ++ l.filter real
  | [], s, p => by simp [runS]
  | t :: l, s, p => by rw [runS, run_real l, step_real, List.append_assoc, ← List.filter_append]; rfl
theorem lay_real (l : List Tok) : (layL l).filter real = l.filter real := by
  unfold layL finS
  rw [List.filter_append, List.filter_append, run_real, filter_rep, List.append_nil]
  split <;> simp [s0, real_mkT]
theorem keeps (l : List Tok) : (layL (realL l)).filter real = realL l := by
  rw [lay_real, List.filter_eq_self]
  intro t ht
  obtain ⟨u, _, rfl⟩ := List.mem_map.1 ht
  rfl

/-! ### Made braces come in pairs -/
/-- How many made braces are open behind a row, if they come in pairs; a semicolon stands within. -/
def pairs : List Tok → Nat → Option Nat
  | [], n => some n
  | t :: l, n => if t.md then (if t.k == 5 && t.s == bOpen then pairs l (n + 1) else if t.k == 5 && t.s == bShut then (if n = 0 then none else pairs l (n - 1)) else if t.k == 5 && t.s == bSemi then (if n = 0 then none else pairs l n) else none) else pairs l n
theorem pairs_app : ∀ (a b : List Tok) (n : Nat), pairs (a ++ b) n = (pairs a n).bind (pairs b)
  | [], b, n => rfl
  | t :: a, b, n => by
    rw [List.cons_append, pairs, pairs]
    split
    · split
      · exact pairs_app a b _
      · split
        · split
          · rfl
          · exact pairs_app a b _
        · split
          · split
            · rfl
            · exact pairs_app a b _
          · rfl
    · exact pairs_app a b _
theorem pairs_shut (x y : Int) : ∀ (k n : Nat), pairs (List.replicate k (mkT bShut x y)) (n + k) = some n
  | 0, n => rfl
  | k + 1, n => by
    rw [List.replicate_succ, show n + (k + 1) = (n + k) + 1 by omega]
    show (if n + k + 1 = 0 then none else pairs (List.replicate k (mkT bShut x y)) (n + k)) = some n
    rw [if_neg (by omega)]
    exact pairs_shut x y k n
theorem closeF_laid {w : Nat} {b : List Nat} : ∀ {fs : List Fm} {n : Nat} {r : List Fm}, w ≠ 0 → closeF w b fs = some (n, r) → laidN fs = laidN r + n
  | [], n, r, _, h => by cases h
  | f :: fs, n, r, hw, h => by
    rw [closeF] at h
    split at h
    · rename_i hk
      cases h
      have : (f.k == 0) = false := by rw [hk]; simpa using hw
      simp [laidN, this]
    · split at h
      · cases h
      · obtain ⟨⟨n', r'⟩, h1, h2⟩ := Option.map_eq_some_iff.1 h
        cases h2
        have := closeF_laid hw h1
        by_cases hk : f.k = 0
        · simp [laidN, hk] at this ⊢; omega
        · have : (f.k == 0) = false := by simpa using hk
          simp [laidN, this, hk] at *; assumption
theorem drop_laid : ∀ {fs : List Fm}, inLaid fs = true → laidN fs = laidN (dropF fs) + 1
  | [], h => by cases h
  | f :: fs, h => by
    rw [inLaid] at h
    rw [dropF]
    split at h
    · rename_i hb
      rw [if_pos hb]
      simp [laidN, h]
    · rename_i hb
      rw [if_neg hb]
      have := drop_laid h
      have hk : (f.k == 0) = false := by
        cases hk : f.k == 0 with
        | false => rfl
        | true => simp [isBlk, hk] at hb
      simp [laidN, hk] at this ⊢; omega
theorem begF_laid (co : Int) : ∀ (f : Nat) (fs : List Fm), laidN fs = laidN (begF co f fs).2 + (begF co f fs).1
  | 0, fs => rfl
  | f + 1, fs => by
    rw [begF]
    split
    · rename_i h
      simp only [Bool.and_eq_true] at h
      have h1 := begF_laid co f (dropF fs)
      have h2 := drop_laid h.1
      simp only; omega
    · rfl
theorem inLaid_pos : ∀ {fs : List Fm}, inLaid fs = true → laidN fs ≠ 0
  | fs, h => by have := drop_laid h; omega
/-- What holds of what was told. -/
def PairsOk (s : LS) : Prop := pairs s.out 0 = some (laidN s.fs)
theorem pairs_close {s : LS} (h : PairsOk s) (t : Tok) : PairsOk (closesS s t) := by
  unfold closesS
  split
  · exact h
  · rename_i w b hc
    have hw : w ≠ 0 := by
      unfold closeOf at hc
      repeat' split at hc
      all_goals first | (cases hc; decide) | cases hc
    split
    · exact h
    · rename_i n fs hcf
      have := closeF_laid hw hcf
      unfold PairsOk at *
      simp only
      rw [pairs_app, h, this]
      exact pairs_shut _ _ _ _
theorem pairs_beg {s : LS} (h : PairsOk s) (t : Tok) : PairsOk (begS s t) := by
  unfold PairsOk begS at *
  simp only
  have h1 := begF_laid t.co s.fs.length s.fs
  rw [pairs_app, pairs_app, h, h1]
  rw [Option.bind_some, pairs_shut]
  split
  · rename_i hc
    simp only [Bool.and_eq_true] at hc
    have := inLaid_pos hc.1
    rw [Option.bind_some]
    show (if laidN (begF t.co s.fs.length s.fs).2 = 0 then none else some (laidN (begF t.co s.fs.length s.fs).2)) = _
    rw [if_neg this]
  · rfl
theorem pairs_begI {s : LS} (b : Bool) (h : PairsOk s) (t : Tok) : PairsOk (begI b s t) := by
  unfold begI; split
  · exact pairs_beg h t
  · exact h
theorem pairs_tell {s : LS} (h : PairsOk s) {t : Tok} (ht : t.md = false) : PairsOk (tellS s t) := by
  unfold PairsOk tellS at *
  simp only
  rw [pairs_app, h, Option.bind_some]
  have e1 : pairs [t] (laidN s.fs) = some (laidN s.fs) := by simp [pairs, ht]
  rw [e1]
  congr 1
  unfold pushF
  split
  · rename_i k hk
    have : k ≠ 0 := by
      unfold openOf at hk
      repeat' split at hk
      all_goals first | (cases hk; decide) | cases hk
    have : (k == 0) = false := by simpa using this
    simp [laidN, this]
  · rfl
theorem pairs_step {s : LS} (h : PairsOk s) {t : Tok} (ht : t.md = false) (b : Bool) : PairsOk (stepS s t b) := by
  unfold stepS
  split
  · split
    · exact pairs_tell (pairs_close (s := { s with due := false }) h t) ht
    · split
      · refine pairs_tell (pairs_close ?_ t) ht
        unfold PairsOk at *
        simp only
        rw [pairs_app, h, Option.bind_some]
        simp [pairs, mkT, laidN]
      · refine pairs_tell (pairs_close (pairs_begI b ?_ t) t) ht
        unfold PairsOk at *
        simp only
        rw [pairs_app, h, Option.bind_some]
        simp [pairs, mkT]
        intro h; exact absurd h (by decide)
  · exact pairs_tell (pairs_close (pairs_begI b h t) t) ht
theorem pairs_run : ∀ (l : List Tok) {s : LS} (p : Option Int), PairsOk s → (∀ t ∈ l, t.md = false) → PairsOk (runS s p l)
  | [], s, p, h, _ => h
  | t :: l, s, p, h, hl => pairs_run l _ (pairs_step h (hl t (List.mem_cons_self ..)) _) fun u hu => hl u (List.mem_cons_of_mem _ hu)
theorem pairs_lay (l : List Tok) (hl : ∀ t ∈ l, t.md = false) : pairs (layL l) 0 = some 0 := by
  have h := pairs_run l (s := s0) none rfl hl
  unfold layL finS
  unfold PairsOk at h
  rw [pairs_app, pairs_app, h, Option.bind_some]
  have h2 : ∀ n : Nat, (pairs (if (runS s0 none l).due = true then [mkT bOpen (lastAt (1, 1) l).1 (lastAt (1, 1) l).2, mkT bShut (lastAt (1, 1) l).1 (lastAt (1, 1) l).2] else []) n) = some n := by
    intro n
    split
    · simp [pairs, mkT]; intro h; exact absurd h (by decide)
    · rfl
  rw [h2, Option.bind_some]
  have := pairs_shut (lastAt (1, 1) l).1 (lastAt (1, 1) l).2 (laidN (runS s0 none l).fs) 0
  rwa [Nat.zero_add] at this

/-! ### Where each block that is due is braced, nothing is made -/
def brun : Bool → List Tok → Option Bool
  | d, [] => some d
  | d, t :: l => if !d || isM t bOpen then brun (dueOf t) l else none
theorem brun_app : ∀ (a b : List Tok) (d : Bool), brun d (a ++ b) = (brun d a).bind fun d => brun d b
  | [], b, d => rfl
  | t :: a, b, d => by
    rw [List.cons_append, brun, brun]
    split
    · exact brun_app a b _
    · rfl
def NoLaid (fs : List Fm) : Prop := ∀ f ∈ fs, f.k ≠ 0
theorem noLaid_in : ∀ {fs : List Fm}, NoLaid fs → inLaid fs = false
  | [], _ => rfl
  | f :: fs, h => by
    rw [inLaid]
    have h0 := h f (List.mem_cons_self ..)
    split
    · simpa using h0
    · exact noLaid_in fun g hg => h g (List.mem_cons_of_mem _ hg)
theorem noLaid_close {w : Nat} {b : List Nat} : ∀ {fs : List Fm} {n : Nat} {r : List Fm}, NoLaid fs → closeF w b fs = some (n, r) → n = 0 ∧ NoLaid r
  | [], n, r, _, h => by cases h
  | f :: fs, n, r, hf, h => by
    have ht : NoLaid fs := fun g hg => hf g (List.mem_cons_of_mem _ hg)
    rw [closeF] at h
    split at h
    · cases h; exact ⟨rfl, ht⟩
    · split at h
      · cases h
      · obtain ⟨⟨n', r'⟩, h1, h2⟩ := Option.map_eq_some_iff.1 h
        cases h2
        obtain ⟨k1, k2⟩ := noLaid_close ht h1
        subst k1
        exact ⟨by simp [hf f (List.mem_cons_self ..)], k2⟩
theorem closes_noLaid {s : LS} (h : NoLaid s.fs) (t : Tok) : (closesS s t).out = s.out ∧ NoLaid (closesS s t).fs ∧ (closesS s t).due = s.due := by
  unfold closesS
  split
  · exact ⟨rfl, h, rfl⟩
  · split
    · exact ⟨rfl, h, rfl⟩
    · rename_i n fs hc
      obtain ⟨rfl, k⟩ := noLaid_close h hc
      exact ⟨by simp, k, rfl⟩
theorem begI_noLaid {s : LS} (h : NoLaid s.fs) (b : Bool) (t : Tok) : begI b s t = s := by
  unfold begI
  split
  · unfold begS
    have h1 : begF t.co s.fs.length s.fs = (0, s.fs) := by
      cases s.fs.length with
      | zero => rfl
      | succ n => rw [begF, noLaid_in h]; rfl
    rw [h1]
    simp [noLaid_in h]
  · rfl
theorem push_noLaid {t : Tok} {fs : List Fm} (h : NoLaid fs) : NoLaid (pushF t fs) := by
  unfold pushF
  split
  · rename_i k hk
    have : k ≠ 0 := by
      unfold openOf at hk
      repeat' split at hk
      all_goals first | (cases hk; decide) | cases hk
    intro f hf
    rcases List.mem_cons.1 hf with rfl | hf
    · exact this
    · exact h f hf
  · exact h
theorem closes_due (s : LS) (t : Tok) : (closesS s t).due = s.due := by
  unfold closesS
  split
  · rfl
  · split <;> rfl
theorem step_braced {s : LS} {t : Tok} (b : Bool) (h : NoLaid s.fs) (hb : (!s.due || isM t bOpen) = true) : (stepS s t b).out = s.out ++ [t] ∧ NoLaid (stepS s t b).fs ∧ (stepS s t b).due = dueOf t := by
  unfold stepS
  cases hd : s.due with
  | true =>
    have hm : isM t bOpen = true := by simpa [hd] using hb
    obtain ⟨h1, h2, h3⟩ := closes_noLaid (s := { s with due := false }) h t
    simp only [hm, if_true]
    refine ⟨by simp [tellS, h1], push_noLaid h2, by simp [tellS, h3]⟩
  | false =>
    obtain ⟨h1, h2, h3⟩ := closes_noLaid h t
    simp only [begI_noLaid h, Bool.false_eq_true, if_false]
    refine ⟨by simp [tellS, h1], push_noLaid h2, by simp [tellS, h3, hd]⟩
theorem run_braced : ∀ (l : List Tok) {s : LS} (p : Option Int) {d : Bool}, NoLaid s.fs → brun s.due l = some d → (runS s p l).out = s.out ++ l ∧ NoLaid (runS s p l).fs ∧ (runS s p l).due = d
  | [], s, p, d, h, hb => by cases hb; exact ⟨by simp [runS], h, rfl⟩
  | t :: l, s, p, d, h, hb => by
    rw [brun] at hb
    split at hb
    · rename_i hc
      obtain ⟨h1, h2, h3⟩ := step_braced (p != some t.ln) h hc
      rw [← h3] at hb
      obtain ⟨k1, k2, k3⟩ := run_braced l (some t.ln) h2 hb
      exact ⟨by rw [runS, k1, h1]; simp, k2, k3⟩
    · cases hb
theorem laidN_no {fs : List Fm} (h : NoLaid fs) : laidN fs = 0 := by
  unfold laidN
  rw [List.length_eq_zero_iff, List.filter_eq_nil_iff]
  intro f hf
  simpa using h f hf
theorem braces {l : List Tok} (h : brun true l = some false) : layL l = l := by
  obtain ⟨h1, h2, h3⟩ := run_braced l (s := s0) none (fun f hf => by cases hf) h
  unfold layL finS
  rw [h1, h3, laidN_no h2]
  simp [s0]

/-! ### What was laid is braced -/
theorem brun_real : ∀ (l : List Tok) (d : Bool), brun d (realL l) = brun d l
  | [], d => rfl
  | t :: l, d => by
    show brun d ({ t with md := false } :: realL l) = _
    rw [brun, brun]
    have h1 : isM { t with md := false } bOpen = isM t bOpen := rfl
    have h2 : dueOf { t with md := false } = dueOf t := rfl
    rw [h1, h2, brun_real l]
theorem brun_shut (x y : Int) : ∀ n : Nat, brun false (List.replicate n (mkT bShut x y)) = some false
  | 0 => rfl
  | n + 1 => by
    rw [List.replicate_succ, brun, if_pos (by simp)]
    exact brun_shut x y n
def BrOk (s : LS) : Prop := brun true s.out = some s.due
theorem br_close {s : LS} (h : BrOk s) (hd : s.due = false) (t : Tok) : BrOk (closesS s t) := by
  unfold BrOk at *
  rw [closes_due]
  unfold closesS
  split
  · exact h
  · split
    · exact h
    · simp only
      rw [brun_app, h, hd, Option.bind_some]
      exact brun_shut _ _ _
theorem begI_due (b : Bool) (s : LS) (t : Tok) : (begI b s t).due = s.due := by
  unfold begI begS; split <;> rfl
theorem br_beg {s : LS} (h : BrOk s) (hd : s.due = false) (b : Bool) (t : Tok) : BrOk (begI b s t) := by
  unfold BrOk at *
  rw [begI_due]
  unfold begI
  split
  · unfold begS
    simp only
    rw [brun_app, brun_app, h, hd, Option.bind_some, brun_shut, Option.bind_some]
    split
    · rfl
    · rfl
  · exact h
theorem br_tell {s : LS} (h : BrOk s) {t : Tok} (hd : s.due = false ∨ isM t bOpen = true) : brun true (s.out ++ [t]) = some (dueOf t) := by
  unfold BrOk at h
  rw [brun_app, h, Option.bind_some, brun, if_pos (by rcases hd with hd | hd <;> simp [hd])]
  rfl
theorem open_close {t : Tok} (h : isM t bOpen = true) : closeOf t = none := by
  unfold isM at h
  simp only [Bool.and_eq_true, beq_iff_eq] at h
  obtain ⟨h1, h2⟩ := h
  simp [closeOf, isM, isW, h1, h2, bOpen, bShut]
theorem br_step {s : LS} (h : BrOk s) (t : Tok) (b : Bool) : BrOk (stepS s t b) ∧ (stepS s t b).due = dueOf t := by
  unfold stepS
  split
  · rename_i hd
    split
    · rename_i hm
      have hc : closesS { s with due := false } t = { s with due := false } := by unfold closesS; rw [open_close hm]
      rw [hc]
      have e : (tellS { s with due := false } t).due = dueOf t := by simp [tellS]
      refine ⟨?_, e⟩
      unfold BrOk; rw [e]
      exact br_tell h (.inr hm)
    · split
      · have h1 : BrOk ⟨s.out ++ [mkT bOpen t.ln t.co], ⟨0, t.co⟩ :: s.fs, false⟩ := br_tell h (t := mkT bOpen t.ln t.co) (.inr (by simp [isM, mkT]))
        have h2 := br_close h1 rfl t
        have e : (tellS (closesS ⟨s.out ++ [mkT bOpen t.ln t.co], ⟨0, t.co⟩ :: s.fs, false⟩ t) t).due = dueOf t := by simp [tellS, closes_due]
        refine ⟨?_, e⟩
        unfold BrOk; rw [e]
        exact br_tell h2 (.inl (closes_due _ _))
      · have h1 : BrOk ⟨s.out ++ [mkT bOpen t.ln t.co, mkT bShut t.ln t.co], s.fs, false⟩ := by
          have := br_tell h (t := mkT bOpen t.ln t.co) (.inr (by simp [isM, mkT]))
          unfold BrOk
          simp only
          rw [show s.out ++ [mkT bOpen t.ln t.co, mkT bShut t.ln t.co] = (s.out ++ [mkT bOpen t.ln t.co]) ++ [mkT bShut t.ln t.co] by simp, brun_app, this]
          rfl
        have h2 := br_close (br_beg h1 rfl b t) (begI_due _ _ _) t
        have e : (tellS (closesS (begI b ⟨s.out ++ [mkT bOpen t.ln t.co, mkT bShut t.ln t.co], s.fs, false⟩ t) t) t).due = dueOf t := by simp [tellS, closes_due, begI_due]
        refine ⟨?_, e⟩
        unfold BrOk; rw [e]
        exact br_tell h2 (.inl (by rw [closes_due, begI_due]))
  · rename_i hd
    have hd : s.due = false := by simpa using hd
    have h2 := br_close (br_beg h hd b t) (by rw [begI_due]; exact hd) t
    have e : (tellS (closesS (begI b s t) t) t).due = dueOf t := by simp [tellS, closes_due, begI_due, hd]
    refine ⟨?_, e⟩
    unfold BrOk; rw [e]
    exact br_tell h2 (.inl (by rw [closes_due, begI_due]; exact hd))
theorem br_run : ∀ (l : List Tok) {s : LS} (p : Option Int), BrOk s → BrOk (runS s p l)
  | [], _, _, h => h
  | t :: l, _, p, h => br_run l _ (br_step h t _).1
theorem lay_braced (l : List Tok) : brun true (layL l) = some false := by
  have h := br_run l (s := s0) none rfl
  unfold layL finS
  unfold BrOk at h
  rw [brun_app, brun_app, h, Option.bind_some]
  cases (runS s0 none l).due with
  | false => rw [if_neg (by simp), brun, Option.bind_some]; exact brun_shut _ _ _
  | true =>
    rw [if_pos rfl]
    have : brun true [mkT bOpen (lastAt (1, 1) l).1 (lastAt (1, 1) l).2, mkT bShut (lastAt (1, 1) l).1 (lastAt (1, 1) l).2] = some false := rfl
    rw [this, Option.bind_some]; exact brun_shut _ _ _
theorem once (l : List Tok) : layL (realL (layL l)) = realL (layL l) := braces (by rw [brun_real]; exact lay_braced l)

/-! ### Lines moved to the right -/
def shT (d : Int) (t : Tok) : Tok := { t with co := t.co + d }
def shF (d : Int) (f : Fm) : Fm := if f.k = 0 then ⟨0, f.co + d⟩ else f
def shS (d : Int) (s : LS) : LS := ⟨s.out.map (shT d), s.fs.map (shF d), s.due⟩
theorem shF_k (d : Int) (f : Fm) : (shF d f).k = f.k := by
  unfold shF; split
  · rename_i h; exact h.symm
  · rfl
theorem sh_inLaid (d : Int) : ∀ fs : List Fm, inLaid (fs.map (shF d)) = inLaid fs
  | [] => rfl
  | f :: fs => by
    rw [List.map_cons, inLaid, inLaid, sh_inLaid d fs]
    have hk := shF_k d f
    unfold isBlk
    rw [hk]
theorem sh_colF (d : Int) : ∀ fs : List Fm, colF (fs.map (shF d)) = if inLaid fs then colF fs + d else colF fs
  | [] => rfl
  | f :: fs => by
    rw [List.map_cons, colF, colF, inLaid, sh_colF d fs]
    simp only [isBlk, shF_k]
    by_cases hb : (f.k == 0 || f.k == 1) = true
    · simp only [hb, if_true]
      by_cases hk : f.k = 0
      · simp [hk, shF]
      · simp [hk]
    · simp only [hb]; rfl
theorem colF_out : ∀ {fs : List Fm}, inLaid fs = false → colF fs = 0
  | [], _ => rfl
  | f :: fs, h => by
    rw [inLaid] at h
    rw [colF]
    split
    · rename_i hb
      rw [if_pos hb] at h
      rw [if_neg (by simpa using h)]
    · rename_i hb
      rw [if_neg hb] at h
      exact colF_out h
theorem sh_drop (d : Int) : ∀ fs : List Fm, dropF (fs.map (shF d)) = (dropF fs).map (shF d)
  | [] => rfl
  | f :: fs => by
    rw [List.map_cons, dropF, dropF, sh_drop d fs]
    have hk := shF_k d f
    unfold isBlk
    rw [hk]
    split <;> rfl
theorem sh_close (d : Int) (w : Nat) (b : List Nat) : ∀ fs : List Fm, closeF w b (fs.map (shF d)) = (closeF w b fs).map fun p => (p.1, p.2.map (shF d))
  | [] => rfl
  | f :: fs => by
    rw [List.map_cons, closeF, closeF, sh_close d w b fs, shF_k]
    split
    · rfl
    · split
      · rfl
      · cases closeF w b fs <;> rfl
theorem sh_begF (d co : Int) : ∀ (n : Nat) (fs : List Fm), begF (co + d) n (fs.map (shF d)) = ((begF co n fs).1, (begF co n fs).2.map (shF d))
  | 0, fs => rfl
  | n + 1, fs => by
    rw [begF, begF, sh_inLaid, sh_colF, sh_drop, sh_begF d co n]
    cases h : inLaid fs with
    | false => rfl
    | true =>
      simp only [if_true, Bool.true_and]
      have e : decide (co + d < colF fs + d) = decide (co < colF fs) := by
        by_cases h : co < colF fs
        · rw [decide_eq_true h, decide_eq_true (by omega)]
        · rw [decide_eq_false h, decide_eq_false (by omega)]
      rw [e]
      split <;> rfl
theorem sh_mk (d : Int) (x : List UInt8) (a b : Int) : shT d (mkT x a b) = mkT x a (b + d) := rfl
theorem sh_closes (d : Int) (s : LS) (t : Tok) : closesS (shS d s) (shT d t) = shS d (closesS s t) := by
  unfold closesS
  have h1 : closeOf (shT d t) = closeOf t := rfl
  rw [h1]
  cases closeOf t with
  | none => rfl
  | some p =>
    obtain ⟨w, b⟩ := p
    simp only [shS, sh_close]
    cases closeF w b s.fs with
    | none => rfl
    | some q => simp [shT, mkT]
theorem sh_beg (d : Int) (s : LS) (t : Tok) (b : Bool) : begI b (shS d s) (shT d t) = shS d (begI b s t) := by
  unfold begI
  split
  · unfold begS
    simp only [shS, List.length_map]
    have e := sh_begF d t.co s.fs.length s.fs
    have e2 : (shT d t).co = t.co + d := rfl
    rw [e2, e]
    simp only [sh_inLaid, sh_colF]
    cases hi : inLaid (begF t.co s.fs.length s.fs).2 with
    | false => simp [shT, mkT]
    | true =>
      have e3 : (colF (begF t.co s.fs.length s.fs).2 + d == t.co + d) = (colF (begF t.co s.fs.length s.fs).2 == t.co) := by
        rw [Bool.eq_iff_iff]; simp only [beq_iff_eq]; omega
      simp only [if_true, Bool.true_and, e3]
      cases colF (begF t.co s.fs.length s.fs).2 == t.co <;> simp [shT, mkT]
  · rfl
theorem sh_tell (d : Int) (s : LS) (t : Tok) : tellS (shS d s) (shT d t) = shS d (tellS s t) := by
  unfold tellS shS
  have h1 : dueOf (shT d t) = dueOf t := rfl
  have h2 : pushF (shT d t) (s.fs.map (shF d)) = (pushF t s.fs).map (shF d) := by
    unfold pushF
    have h3 : openOf (shT d t) = openOf t := rfl
    rw [h3]
    cases ho : openOf t with
    | none => rfl
    | some k =>
      have : k ≠ 0 := by
        unfold openOf at ho
        repeat' split at ho
        all_goals first | (cases ho; decide) | cases ho
      simp [shF, this]
  simp [h1, h2]
theorem sh_step {d : Int} (hd : 0 ≤ d) (s : LS) {t : Tok} (ht : 0 < t.co) (b : Bool) : stepS (shS d s) (shT d t) b = shS d (stepS s t b) := by
  unfold stepS
  have h1 : (shS d s).due = s.due := rfl
  have h2 : isM (shT d t) bOpen = isM t bOpen := rfl
  have h3 : (colF (shS d s).fs < (shT d t).co) ↔ (colF s.fs < t.co) := by
    show colF (s.fs.map (shF d)) < t.co + d ↔ _
    rw [sh_colF]
    cases hi : inLaid s.fs with
    | true => simp only [if_true]; omega
    | false => rw [colF_out hi]; simp only [Bool.false_eq_true, if_false]; omega
  rw [h1, h2]
  cases s.due with
  | false =>
    simp only [Bool.false_eq_true, if_false]
    rw [sh_beg, sh_closes, sh_tell]
  | true =>
    simp only [if_true]
    split
    · rw [← sh_tell, ← sh_closes]; rfl
    · by_cases hc : colF s.fs < t.co
      · rw [if_pos hc, if_pos (h3.2 hc), ← sh_tell, ← sh_closes]
        congr 2
        simp [shS, shF, shT, mkT]
      · rw [if_neg hc, if_neg (fun h => hc (h3.1 h)), ← sh_tell, ← sh_closes, ← sh_beg]
        congr 3
        simp [shS, shT, mkT]
theorem sh_run {d : Int} (hd : 0 ≤ d) : ∀ (l : List Tok) (s : LS) (p : Option Int), (∀ t ∈ l, 0 < t.co) → runS (shS d s) p (l.map (shT d)) = shS d (runS s p l)
  | [], _, _, _ => rfl
  | t :: l, s, p, h => by
    rw [List.map_cons, runS, runS, ← sh_run hd l _ _ fun u hu => h u (List.mem_cons_of_mem _ hu), ← sh_step hd s (h t (List.mem_cons_self ..))]
    rfl
theorem sh_last (d : Int) : ∀ (l : List Tok) (p q : Int × Int), l ≠ [] → lastAt p (l.map (shT d)) = ((lastAt q l).1, (lastAt q l).2 + d)
  | [], _, _, h => absurd rfl h
  | [t], _, _, _ => rfl
  | t :: u :: l, p, q, _ => by
    rw [List.map_cons, lastAt, lastAt]
    exact sh_last d (u :: l) _ _ (by simp)
theorem laidN_sh (d : Int) (fs : List Fm) : laidN (fs.map (shF d)) = laidN fs := by
  unfold laidN
  rw [List.filter_map, List.length_map]
  congr 2
  funext f
  simp [shF_k]
theorem shift {d : Int} (hd : 0 ≤ d) {l : List Tok} (hl : l ≠ []) (h : ∀ t ∈ l, 0 < t.co) : layL (l.map (shT d)) = (layL l).map (shT d) := by
  unfold layL finS
  have hr := sh_run hd l s0 none h
  have e0 : shS d s0 = s0 := rfl
  rw [e0] at hr
  rw [hr, sh_last d l (1, 1) (1, 1) hl]
  simp only [shS, laidN_sh]
  by_cases hdue : (runS s0 none l).due = true <;> simp [hdue, shT, mkT]

/-! ### Lines of one column -/
def xT (col : Int) (i : Nat) : Tok := ⟨1, [120], 0, ((i + 1 : Nat) : Int), col, false⟩
structure LinesOk (col : Int) (i : Nat) (s : LS) : Prop where
  fs : s.fs = [⟨0, col⟩]
  due : s.due = false
  len : s.out.length = 2 * i
  fst : (s.out[0]?).map (·.s) = some bOpen
  xs : ∀ j, j < i → (s.out[2 * j + 1]?).map (·.s) = some [120] ∧ (0 < j → (s.out[2 * j]?).map (·.s) = some bSemi)
theorem xT_close (col : Int) (i : Nat) : closeOf (xT col i) = none := by simp [closeOf, isM, isW, xT]
theorem xT_open (col : Int) (i : Nat) : openOf (xT col i) = none := by simp [openOf, isM, isW, xT]
theorem xT_due (col : Int) (i : Nat) : dueOf (xT col i) = false := by simp [dueOf, isW, xT]
theorem lines_step {col : Int} {i : Nat} {s : LS} (h : LinesOk col i s) (hi : 0 < i) : LinesOk col (i + 1) (stepS s (xT col i) true) := by
  have hb : begF col 1 [⟨0, col⟩] = (0, [⟨0, col⟩]) := by
    rw [begF]
    simp [inLaid, colF, isBlk]
  have e : stepS s (xT col i) true = ⟨s.out ++ [mkT bSemi (xT col i).ln col, xT col i], [⟨0, col⟩], false⟩ := by
    unfold stepS
    rw [h.due]
    simp only [Bool.false_eq_true, if_false]
    have e1 : begI true s (xT col i) = ⟨s.out ++ [mkT bSemi (xT col i).ln col], [⟨0, col⟩], false⟩ := by
      unfold begI begS
      rw [if_pos rfl, h.fs]
      have e2 : (xT col i).co = col := rfl
      rw [e2]
      simp only [List.length_singleton, hb]
      simp [inLaid, colF, isBlk, h.due]
    rw [e1]
    unfold closesS
    rw [xT_close]
    simp [tellS, pushF, xT_open, xT_due]
  rw [e]
  refine ⟨rfl, rfl, by simp [h.len]; omega, ?_, fun j hj => ?_⟩
  · simp only
    rw [List.getElem?_append_left (by rw [h.len]; omega)]; exact h.fst
  · simp only
    by_cases hji : j < i
    · obtain ⟨k1, k2⟩ := h.xs j hji
      refine ⟨?_, fun h0 => ?_⟩
      · rw [List.getElem?_append_left (by rw [h.len]; omega)]; exact k1
      · rw [List.getElem?_append_left (by rw [h.len]; omega)]; exact k2 h0
    · have : j = i := by omega
      subst this
      refine ⟨?_, fun _ => ?_⟩
      · rw [List.getElem?_append_right (by rw [h.len]; omega), h.len, show 2 * j + 1 - 2 * j = 1 by omega]; rfl
      · rw [List.getElem?_append_right (by rw [h.len]; omega), h.len, Nat.sub_self]; rfl
theorem lines_one {col : Int} (hc : 0 < col) : LinesOk col 1 (stepS s0 (xT col 0) true) := by
  have e : stepS s0 (xT col 0) true = ⟨[mkT bOpen 1 col, xT col 0], [⟨0, col⟩], false⟩ := by
    unfold stepS
    have h1 : isM (xT col 0) bOpen = false := by simp [isM, xT]
    have h2 : colF s0.fs < (xT col 0).co := hc
    have h0 : s0.due = true := rfl
    rw [if_pos h0, h1, if_neg (by simp), if_pos h2]
    unfold closesS
    rw [xT_close]
    simp [tellS, pushF, xT_open, xT_due, s0]
    exact ⟨rfl, rfl⟩
  rw [e]
  refine ⟨rfl, rfl, rfl, rfl, fun j hj => ?_⟩
  have : j = 0 := by omega
  subst this
  exact ⟨rfl, fun h => absurd h (by omega)⟩
theorem lines_run {col : Int} : ∀ (m i : Nat) (s : LS), 0 < i → LinesOk col i s → LinesOk col (i + m) (runS s (some (((i - 1 + 1 : Nat) : Int))) ((List.range m).map fun j => xT col (i + j)))
  | 0, i, s, _, h => h
  | m + 1, i, s, hi, h => by
    rw [List.range_succ_eq_map, List.map_cons, runS]
    have h1 : (some (((i - 1 + 1 : Nat) : Int)) != some (xT col (i + 0)).ln) = true := by
      simp [xT]; omega
    rw [h1]
    have h2 := lines_run m (i + 1) _ (by omega) (lines_step h hi)
    rw [show i + 1 + m = i + (m + 1) by omega] at h2
    rw [List.map_map]
    have e : ((fun j => xT col (i + j)) ∘ Nat.succ) = fun j => xT col (i + 1 + j) := by
      funext j; simp only [Function.comp]; congr 1; omega
    rw [e]
    have e2 : (xT col (i + 0)).ln = (((i + 1 - 1 + 1 : Nat)) : Int) := by simp [xT]
    rw [e2]
    exact h2
theorem lines {col : Int} (hc : 0 < col) {n : Nat} (hn : 0 < n) : ∃ m, m = layL ((List.range n).map (xT col)) ∧ m.length = 2 * n + 1 ∧ (m[0]?).map (·.s) = some bOpen ∧ (m[2 * n]?).map (·.s) = some bShut ∧
    ∀ j, j < n → (m[2 * j + 1]?).map (·.s) = some [120] ∧ (0 < j → (m[2 * j]?).map (·.s) = some bSemi) := by
  refine ⟨_, rfl, ?_⟩
  obtain ⟨k, rfl⟩ : ∃ k, n = k + 1 := ⟨n - 1, by omega⟩
  have h : LinesOk col (1 + k) (runS s0 none ((List.range (k + 1)).map (xT col))) := by
    rw [List.range_succ_eq_map, List.map_cons, runS]
    have h1 : ((none : Option Int) != some (xT col 0).ln) = true := rfl
    rw [h1, List.map_map]
    have e : (xT col ∘ Nat.succ) = fun j => xT col (1 + j) := by
      funext j; simp only [Function.comp]; congr 1; omega
    rw [e]
    exact lines_run k 1 _ (by omega) (lines_one hc)
  rw [show 1 + k = k + 1 by omega] at h
  unfold layL finS
  generalize lastAt (1, 1) ((List.range (k + 1)).map (xT col)) = p
  generalize runS s0 none ((List.range (k + 1)).map (xT col)) = s at h
  rw [h.due, h.fs]
  have hl : laidN [⟨0, col⟩] = 1 := rfl
  simp only [hl, Bool.false_eq_true, if_false, List.append_nil, List.replicate_one]
  refine ⟨by rw [List.length_append, h.len]; rfl, ?_, ?_, fun j hj => ?_⟩
  · rw [List.getElem?_append_left (by rw [h.len]; omega)]; exact h.fst
  · rw [List.getElem?_append_right (by rw [h.len]; omega), h.len, Nat.sub_self]; rfl
  · obtain ⟨k1, k2⟩ := h.xs j hj
    refine ⟨?_, fun h0 => ?_⟩
    · rw [List.getElem?_append_left (by rw [h.len]; omega)]; exact k1
    · rw [List.getElem?_append_left (by rw [h.len]; omega)]; exact k2 h0
end Go.Proofs.Ytdmnacjpgaopfaa.Vm
namespace Go.Proofs.Ytdmnacjpgaopfaa.Vm
open Go

section
variable {H : Heap} {i j v : Nat} {cs : List V} {o : Obj}
theorem gc_some : getCells H i v = some cs ↔ H[i]? = some (.cells v cs) := by
  constructor
  · exact getCells_some
  · intro h; unfold getCells; rw [h]; simp
theorem gc_lt (h : getCells H i v = some cs) : i < H.length := (List.getElem?_eq_some_iff.1 (gc_some.1 h)).1
theorem gc_same (h : i < H.length) : getCells (H.set i (.cells v cs)) i v = some cs := by
  rw [gc_some, List.getElem?_set, if_pos rfl, if_pos h]
theorem gc_ne (h : i ≠ j) : getCells (H.set i o) j v = getCells H j v := by
  unfold getCells; rw [List.getElem?_set, if_neg h]
theorem gc_app {l : Heap} (h : j < H.length) : getCells (H ++ l) j v = getCells H j v := by
  unfold getCells; rw [List.getElem?_append_left h]
theorem gc_new : getCells (H ++ [.cells v cs]) H.length v = some cs := by
  rw [gc_some, List.getElem?_append_right (Nat.le_refl _), Nat.sub_self]; rfl
end
/-- All objects that were turned, or are new, name only such as stay. -/
theorem endX_all {H0 : Heap} {rs : List VRes} {R : V → Heap → Prop} {x : X} {E : En} {H : Heap} {m : Nat} (hm : m = H.length) (hx : (match x with | .exit _ => False | _ => True)) (h1 : H0.length ≤ H.length)
    (h3 : ∀ (i : Nat) (ob : Obj), H[i]? = some ob → H0[i]? = some ob ∨ idsO H.length ob = true) {r0 r : V} (h4 : resV H.length H E.f rs = some r0) (h5 : fixV H.length H 8 r0 = some r) (h6 : R r H) : endX m H0 rs R x E H := by
  subst hm
  refine ⟨hx, h1, Nat.le_refl _, fun i ob _ hob => h3 i ob hob, r0, h4, r, h5, ?_⟩
  rw [List.take_of_length_le (Nat.le_refl _)]
  exact h6
/-- A function whose last heap is known only behind it. -/
def endY (H0 : Heap) (rs : List VRes) (R : V → Heap → Prop) : KK := fun x E H => (match x with | .exit _ => False | _ => True) ∧ H0.length ≤ H.length ∧ (∀ (i : Nat) (ob : Obj), H[i]? = some ob → H0[i]? = some ob ∨ idsO H.length ob = true) ∧
  ∃ r0, resV H.length H E.f rs = some r0 ∧ ∃ r, fixV H.length H 8 r0 = some r ∧ R r H
theorem T.of_all {P : Program} (hmix : P.follows .mixedOrders = true) {f : Nat} {vf : VFunc} (hc : chkFn P f vf = true) {args : List V} {H : Heap} {R : V → Heap → Prop} (hl : Nat.ble args.length vf.n = true)
    (h : run P vf.body [] ⟨args.zipIdx.map fun p => (p.2, p.1), .tup []⟩ H (endY H vf.results R)) : ∃ r H', T P f args H r H' ∧ R r H' := by
  obtain ⟨x, E1, H1, h1, h2, h3, h4, r0, h6, r, h7, h8⟩ := wp_sound h
  rw [env0_eq] at h1
  refine ⟨r, H1, ?_, h8⟩
  have := T_of hmix hc (Nat.le_of_ble_eq_true hl) h1 (by intro id e; subst e; exact h2) (m := H1.length) h3 (Nat.le_refl _) h6 h7 (fun i ob _ hob => h4 i ob hob)
  rwa [List.take_of_length_le (Nat.le_refl _)] at this
/-- The objects that stay as they were; the others are new or turned. -/
def Same (H0 H : Heap) : Prop := ∀ (i : Nat) (ob : Obj), H[i]? = some ob → H0[i]? = some ob ∨ idsO H.length ob = true

@[go_sem] theorem fillV_agg {zs vs cs : List V} {off n : Nat} {ps : List (Nat × Nat)} (h : n = cs.length) : fillV zs ((off, n) :: ps) (.agg cs :: vs) = if off + cs.length ≤ zs.length then fillV (put zs off cs) ps vs else none := by
  subst h
  rw [fillV]
  by_cases hl : off + cs.length ≤ zs.length
  · rw [if_pos ⟨rfl, rfl, hl⟩, if_pos hl]; rfl
  · rw [if_neg (fun hh => hl hh.2.2), if_neg hl]
@[go_sem] theorem plain0_int {k : IntKind} {n : Int} : plain0 (.int k n) = true := (rfl)
@[go_sem] theorem plain0_bool {b : Bool} : plain0 (.bool b) = true := (rfl)
@[go_sem] theorem plain0_str {b : List UInt8} : plain0 (.str b) = true := (rfl)
@[go_sem] theorem plain0_sl {o : Bool} {z : Nat} {xs : List (List V)} : plain0 (.sl o z xs) = true := (rfl)
theorem elems_agg {sz : Nat} {cs : List V} (h : cs.all plain0 = true) (hn : sz = cs.length) : elems sz [.agg cs] = some [cs.map strip0] := by
  subst hn
  simp [elems, solid, V.cells, inl, h]
theorem elems_nil {sz : Nat} : elems sz [] = some [] := rfl
attribute [go_sem] List.drop_succ_cons List.drop_zero List.take_succ_cons List.take_zero put List.drop_nil List.take_nil
section
variable {P : Program} {K : KK} {s : List Fr} {E : En} {H : Heap} {tk : List Nat} {dst : Option Nat} {os : List VOp} {keep : List Nat}
theorem run_str {op : BinOp} {a b : List UInt8} : runAct P (.bin op) [.str a, .str b] tk dst os keep s E H K = ∃ v, binStr op a b = some v ∧ runOps P os keep s ((stripEn tk E).setO dst v) H K := rfl
@[go_sem] theorem run_eqlS {a b : List UInt8} : runAct P (.bin .eql) [.str a, .str b] tk dst os keep s E H K = runOps P os keep s ((stripEn tk E).setO dst (.bool (a == b))) H K := by
  rw [run_str]; simp [binStr]
@[go_sem] theorem run_neqS {a b : List UInt8} : runAct P (.bin .neq) [.str a, .str b] tk dst os keep s E H K = runOps P os keep s ((stripEn tk E).setO dst (.bool (!(a == b)))) H K := by
  rw [run_str]; simp [binStr]
@[go_sem] theorem run_addS {a b : List UInt8} : runAct P (.bin .add) [.str a, .str b] tk dst os keep s E H K = (a.length + b.length ≤ 9223372036854775807 ∧ runOps P os keep s ((stripEn tk E).setO dst (.str (a ++ b))) H K) := by
  rw [run_str]
  apply propext
  constructor
  · rintro ⟨v, h1, h2⟩
    unfold binStr at h1
    simp only at h1
    split at h1
    · rename_i hl; cases h1; exact ⟨hl, h2⟩
    · cases h1
  · rintro ⟨h1, h2⟩
    exact ⟨_, by unfold binStr; simp only; rw [if_pos h1], h2⟩
end
theorem elems_int {k : IntKind} {n : Int} {vs : List V} : elems 1 (.int k n :: vs) = (elems 1 vs).map ([.int k n] :: ·) := by
  simp [elems, solid, scal0, V.cells, inl, plain0, strip0]
end Go.Proofs.Ytdmnacjpgaopfaa.Vm
namespace Go.Proofs.Ytdmnacjpgaopfaa.Vm
open Go

def iv (l : List Int) : List V := l.map fun n => V.int .i64 n
theorem iv_len (l : List Int) : (iv l).length = l.length := by simp [iv]
theorem iv_app (a b : List Int) : iv (a ++ b) = iv a ++ iv b := by simp [iv]
theorem iv_get (l : List Int) (i : Nat) : (iv l)[i]? = l[i]?.map fun n => V.int .i64 n := by simp [iv]
theorem ids_iv (m : Nat) (l : List Int) : idsL m (iv l) = true := by simp [idsL_all, iv, idsV]
def tokC (t : Tok) : List V := [.int .i64 t.k, .str t.s, .int .i64 t.n, .int .i64 t.ln, .int .i64 t.co, .bool t.md]
def toksV (o : Bool) (l : List Tok) : V := .sl o 6 (l.map tokC)
def frI (fs : List Fm) : List Int := fs.reverse.flatMap fun f => [(f.k : Int), f.co]
theorem frI_cons (f : Fm) (fs : List Fm) : frI (f :: fs) = frI fs ++ [(f.k : Int), f.co] := by simp [frI]
theorem frI_len : ∀ fs : List Fm, (frI fs).length = fs.length * 2
  | [] => rfl
  | f :: fs => by rw [frI_cons, List.length_append, frI_len fs]; simp; omega

/-- The frames' list in memory. -/
def FrOk (H : Heap) (fs : List Fm) : Option Nat → V → Prop
  | none, fv => fs = [] ∧ fv = .nilh 2
  | some k, fv => k ≠ 0 ∧ ∃ ver rest, fv = .hsl k ver 0 fs.length 2 ∧ getCells H k ver = some (iv (frI fs ++ rest))
/-- The layer in memory. -/
def Lyr (H : Heap) (s : LS) (ln co : Int) (q : Option Nat) : Prop := ∃ fv, getCells H 0 0 = some [toksV true s.out, fv, .bool s.due, .int .i64 ln, .int .i64 co] ∧ FrOk H s.fs q fv
structure Grow (H : Heap) (q : Option Nat) (H' : Heap) (q' : Option Nat) : Prop where
  len : H.length ≤ H'.length
  same : Same H H'
  keep : ∀ i v cs, i ≠ 0 → q ≠ some i → getCells H i v = some cs → getCells H' i v = some cs
  qs : q' = q ∨ (q = none ∧ ∃ k, q' = some k ∧ H.length ≤ k)
theorem idsO_mono {m m' : Nat} (h : m ≤ m') {ob : Obj} (ho : idsO m ob = true) : idsO m' ob = true := by
  cases ob with
  | dead => rfl
  | cells v cs => exact idsL_mono h _ ho
  | map es => exact idsL_mono h _ ho
theorem Same.refl (H : Heap) : Same H H := fun _ _ h => .inl h
theorem Same.trans {A B C : Heap} (h : Same A B) (k : Same B C) (hl : B.length ≤ C.length) : Same A C := by
  intro i ob hi
  rcases k i ob hi with h1 | h1
  · rcases h i ob h1 with h2 | h2
    · exact .inl h2
    · exact .inr (idsO_mono hl h2)
  · exact .inr h1
theorem Same.set {A B : Heap} (h : Same A B) {i : Nat} {o : Obj} (ho : idsO B.length o = true) : Same A (B.set i o) := by
  intro j ob hj
  rw [List.length_set]
  rw [List.getElem?_set] at hj
  split at hj
  · split at hj
    · cases hj; exact .inr ho
    · cases hj
  · exact h j ob hj
theorem Same.app {A B : Heap} (h : Same A B) {o : Obj} (ho : idsO (B.length + 1) o = true) : Same A (B ++ [o]) := by
  intro j ob hj
  rw [List.length_append, List.length_singleton]
  rcases Nat.lt_or_ge j B.length with h' | h'
  · rw [List.getElem?_append_left h'] at hj
    rcases h j ob hj with h1 | h1
    · exact .inl h1
    · exact .inr (idsO_mono (by omega) h1)
  · rw [List.getElem?_append_right h'] at hj
    have : j - B.length = 0 := by
      rcases Nat.eq_zero_or_pos (j - B.length) with h | h
      · exact h
      · rw [List.getElem?_eq_none (by simp; omega)] at hj; cases hj
    rw [this] at hj
    simp at hj; subst hj; exact .inr ho
theorem Grow.refl (H : Heap) (q : Option Nat) : Grow H q H q := ⟨Nat.le_refl _, Same.refl H, fun _ _ _ _ _ h => h, .inl rfl⟩
theorem Grow.trans {A B C : Heap} {q r t : Option Nat} (h : Grow A q B r) (k : Grow B r C t) : Grow A q C t := by
  refine ⟨Nat.le_trans h.len k.len, h.same.trans k.same k.len, fun i v cs h0 hq hc => ?_, ?_⟩
  · have hr : r ≠ some i := by
      rcases h.qs with e | ⟨_, j, e, hj⟩
      · rw [e]; exact hq
      · rw [e]; intro e2; cases e2; have := gc_lt hc; omega
    exact k.keep i v cs h0 hr (h.keep i v cs h0 hq hc)
  · rcases h.qs with rfl | ⟨e1, j, e2, hj⟩
    · rcases k.qs with e | ⟨e, j, e2, hj⟩
      · exact .inl e
      · exact .inr ⟨e, j, e2, Nat.le_trans h.len hj⟩
    · rcases k.qs with e | ⟨e, _⟩
      · exact .inr ⟨e1, j, by rw [e, e2], hj⟩
      · rw [e2] at e; cases e
/-- A local object does not turn what stands. -/
theorem Grow.local {H : Heap} {q : Option Nat} {o : Obj} (ho : idsO (H.length + 1) o = true) : Grow H q (H ++ [o]) q :=
  ⟨by simp, (Same.refl H).app ho, fun _ _ _ _ _ h => by rw [gc_app (gc_lt h)]; exact h, .inl rfl⟩
theorem FrOk.mono {H H' : Heap} {fs : List Fm} {q : Option Nat} {fv : V} (h : FrOk H fs q fv) (hk : ∀ i v cs, i ≠ 0 → getCells H i v = some cs → getCells H' i v = some cs) : FrOk H' fs q fv := by
  cases q with
  | none => exact h
  | some k =>
    obtain ⟨h0, ver, rest, h1, h2⟩ := h
    exact ⟨h0, ver, rest, h1, hk k ver _ h0 h2⟩
theorem Lyr.local {H : Heap} {s : LS} {ln co : Int} {q : Option Nat} (h : Lyr H s ln co q) (l : Heap) : Lyr (H ++ l) s ln co q := by
  obtain ⟨fv, h1, h2⟩ := h
  exact ⟨fv, by rw [gc_app (gc_lt h1)]; exact h1, h2.mono fun i v cs _ hc => by rw [gc_app (gc_lt hc)]; exact hc⟩
theorem Lyr.pos {H : Heap} {s : LS} {ln co : Int} {q : Option Nat} (h : Lyr H s ln co q) : 0 < H.length := by obtain ⟨fv, h1, _⟩ := h; exact gc_lt h1
theorem FrOk.ids {H : Heap} {fs : List Fm} {q : Option Nat} {fv : V} (h : FrOk H fs q fv) : idsV H.length fv = true := by
  cases q with
  | none => rw [h.2]; rfl
  | some k =>
    obtain ⟨_, ver, rest, h1, h2⟩ := h
    rw [h1]; exact decide_eq_true (gc_lt h2)
/-- The layer's own cells are turned. -/
theorem Grow.layer {H : Heap} {q : Option Nat} {cs : List V} (h : idsL H.length cs = true) : Grow H q (H.set 0 (.cells 0 cs)) q :=
  ⟨by simp, (Same.refl H).set h, fun i v c h0 _ hc => by rw [gc_ne (fun e => h0 e.symm)]; exact hc, .inl rfl⟩
theorem elems_tok (t : Tok) : elems 6 [.agg (tokC t)] = some [tokC t] := by simp [elems, solid, V.cells, inl, plain0, strip0, tokC]
theorem elems_fr (k : Nat) (co : Int) : elems 2 [.agg [.int .i64 k, .int .i64 co]] = some [[.int .i64 k, .int .i64 co]] := by simp [elems, solid, V.cells, inl, plain0, strip0]

section
variable {P : Program} {K : KK} {s : List Fr} {E : En} {H : Heap} {tk : List Nat} {dst : Option Nat} {os : List VOp} {keep : List Nat}
def exX (x : Option (List (List V))) (F : List (List V) → Prop) : Prop := ∃ cs, x = some cs ∧ F cs
theorem exX_some {cs : List (List V)} {F : List (List V) → Prop} : exX (some cs) F = F cs := by
  apply propext
  constructor
  · rintro ⟨_, h, k⟩; cases h; exact k
  · intro k; exact ⟨_, rfl, k⟩
theorem run_buildSlG {sz : Nat} {vs : List V} : runAct P (.buildSl sz) vs tk dst os keep s E H K = exX (elems sz vs) fun xs => nextV P (.sl true sz xs) tk dst os keep s E H K := by
  show (∃ r H', sBuildSl sz vs H = some (r, H') ∧ _) = _
  apply propext
  constructor
  · rintro ⟨r, H', h, k⟩
    obtain ⟨cs, h1, h2⟩ := Option.map_eq_some_iff.1 h
    cases h2; exact ⟨cs, h1, k⟩
  · rintro ⟨cs, h1, k⟩
    exact ⟨_, _, by unfold sBuildSl; rw [h1]; rfl, k⟩
end

theorem Lyr.turn {H : Heap} {s : LS} {q : Option Nat} {fv : V} {c0 : List V} (h1 : getCells H 0 0 = some c0) (h2 : FrOk H s.fs q fv) (s' : LS) (hfs : s'.fs = s.fs) (ln co : Int) :
    Lyr (H.set 0 (.cells 0 [toksV true s'.out, fv, .bool s'.due, .int .i64 ln, .int .i64 co])) s' ln co q ∧ Grow H q (H.set 0 (.cells 0 [toksV true s'.out, fv, .bool s'.due, .int .i64 ln, .int .i64 co])) q := by
  refine ⟨⟨fv, gc_same (gc_lt h1), ?_⟩, Grow.layer ?_⟩
  · rw [hfs]
    exact h2.mono fun i v c h0 hc => by rw [gc_ne (fun e => h0 e.symm)]; exact hc
  · simp only [idsL, idsV, toksV, h2.ids, Bool.and_self]
theorem endY_nil {H H' : Heap} {q q' : Option Nat} {R : V → Heap → Prop} {x : X} {E : En} (hx : (match x with | .exit _ => False | _ => True)) (hg : Grow H q H' q') (hR : R (.tup []) H') : endY H [] R x E H' :=
  ⟨hx, hg.len, hg.same, _, rfl, _, rfl, hR⟩
theorem endY_bool {H H' : Heap} {q q' : Option Nat} {R : V → Heap → Prop} {x : X} {l : List (Nat × V)} {d : V} {t : Nat} {b : Bool} (hx : (match x with | .exit _ => False | _ => True)) (hv : getE l d t = .bool b) (hg : Grow H q H' q') (hR : R (.bool b) H') : endY H [.tmp t] R x ⟨l, d⟩ H' :=
  ⟨hx, hg.len, hg.same, .bool b, by simp [resV, resL, res1, pack, En.f, hv], _, rfl, hR⟩
theorem toks_snoc (l : List Tok) (t : Tok) : V.sl true 6 (l.map tokC ++ [tokC t]) = toksV true (l ++ [t]) := by simp [toksV]

theorem make_T {H : Heap} {s : LS} {ln co : Int} {q : Option Nat} (h : Lyr H s ln co q) (hb : s.out.length ≤ 1000000000) (x : List UInt8) :
    ∃ r H', T Try.prog 27 [.ptr 0 0 0, .str x] H r H' ∧ r = .tup [] ∧ Lyr H' { s with out := s.out ++ [mkT x ln co] } ln co q ∧ Grow H q H' q := by
  refine T.of_all mix c27 rfl ?_
  obtain ⟨fv, h1, h2⟩ := h
  have hlt := gc_lt h1
  generalize hK : endY _ _ _ = K
  unfold v27
  simp only [go_sem, ↓reduceIte, ↓h1, toksV, ↓gc_same hlt, run_buildSlG, elems_agg, exX_some, List.set_set, List.length_map]
  refine ⟨by simp [fits]; omega, ?_⟩
  rw [← hK]
  obtain ⟨k1, k2⟩ := Lyr.turn h1 h2 { s with out := s.out ++ [mkT x ln co] } rfl ln co
  have e := toks_snoc s.out (mkT x ln co)
  simp only [mkT, tokC] at e
  simp only [e]
  exact endY_nil trivial k2 ⟨rfl, k1, k2⟩

theorem FrOk.push_heap {fs : List Fm} {f : Fm} {rest : List Int} : (iv (frI fs ++ rest)).take (fs.length * 2) ++ [[V.int .i64 (f.k : Int), V.int .i64 f.co]].flatten = iv (frI (f :: fs) ++ []) := by
  rw [iv_app, List.take_append_of_le_length (by rw [iv_len, frI_len]; omega), List.take_of_length_le (by rw [iv_len, frI_len]; omega), frI_cons]
  simp [iv]
theorem push_T {H : Heap} {s : LS} {ln co : Int} {q : Option Nat} (h : Lyr H s ln co q) (hb : s.fs.length ≤ 1000000000) (f : Fm) :
    ∃ r H', T Try.prog 38 [.ptr 0 0 0, .int .i64 f.k, .int .i64 f.co] H r H' ∧ r = .tup [] ∧ ∃ q', Lyr H' { s with fs := f :: s.fs } ln co q' ∧ Grow H q H' q' := by
  refine T.of_all mix c38 rfl ?_
  obtain ⟨fv, h1, h2⟩ := h
  have hlt := gc_lt h1
  generalize hK : endY _ _ _ = K
  unfold v38
  cases q with
  | none =>
    obtain ⟨hfs, rfl⟩ := h2
    simp only [go_sem, ↓reduceIte, ↓h1, toksV, ↓gc_app hlt, run_buildSlG, elems_agg, exX_some]
    refine ⟨by simp [fits], ?_⟩
    rw [← hK]
    have hg : Grow H none ((H ++ [Obj.cells 0 [[V.int .i64 (f.k : Int), V.int .i64 f.co]].flatten]).set 0
        (.cells 0 [V.sl true 6 (List.map tokC s.out), V.hsl (List.length H) 0 0 1 2, V.bool s.due, V.int .i64 ln, V.int .i64 co])) (some H.length) := by
      refine ⟨by simp, ((Same.refl H).app ?_).set ?_, fun i v c h0 _ hc => ?_, .inr ⟨rfl, _, rfl, Nat.le_refl _⟩⟩
      · simp [idsO, idsL, idsV]
      · simp [idsO, idsL, idsV]
      · rw [gc_ne (fun e => h0 e.symm), gc_app (gc_lt hc)]; exact hc
    refine endY_nil trivial hg ⟨rfl, some H.length, ⟨_, gc_same (by simp), by omega, 0, [], ?_, ?_⟩, hg⟩
    · simp [hfs]
    · rw [gc_ne (by omega), gc_new, hfs]; simp [frI, iv]
  | some k =>
    obtain ⟨hk0, ver, rest, rfl, h3⟩ := h2
    have hk := gc_lt h3
    simp only [go_sem, ↓reduceIte, ↓h1, ↓h3, toksV, ↓gc_ne hk0, run_buildSlG, elems_agg, exX_some]
    refine ⟨by simp [fits]; omega, by rw [iv_len, List.length_append, frI_len]; omega, ?_⟩
    rw [← hK, FrOk.push_heap]
    have hg : Grow H (some k) ((H.set k (.cells (ver + 1) (iv (frI (f :: s.fs) ++ [])))).set 0
        (.cells 0 [V.sl true 6 (List.map tokC s.out), V.hsl k (ver + 1) 0 (s.fs.length + 1) 2, V.bool s.due, V.int .i64 ln, V.int .i64 co])) (some k) := by
      refine ⟨by simp, ((Same.refl H).set ?_).set ?_, fun i v c h0 hq hc => ?_, .inl rfl⟩
      · exact ids_iv _ _
      · simp [idsO, idsL, idsV, hk]
      · rw [gc_ne (fun e => h0 e.symm), gc_ne (fun e => hq (by rw [e]))]; exact hc
    refine endY_nil trivial hg ⟨rfl, some k, ⟨_, gc_same (by simp; exact hlt), hk0, ver + 1, [], rfl, ?_⟩, hg⟩
    rw [gc_ne (fun e => hk0 e.symm), gc_same hk]
end Go.Proofs.Ytdmnacjpgaopfaa.Vm
namespace Go.Proofs.Ytdmnacjpgaopfaa.Vm
open Go

theorem inc64 {i : Nat} (h : i < 4611686018427387904) : IntKind.i64.wrap ((i : Int) + 1) = ((i + 1 : Nat) : Int) := by
  rw [wrap64 (by omega) (by omega)]; rfl
theorem dec64 {i : Nat} (h : i < 4611686018427387904) : IntKind.i64.wrap ((i : Int) - 1) = (i : Int) - 1 := wrap64 (by omega) (by omega)
def blkI : List Fm → Int
  | [] => -1
  | f :: fs => if isBlk f then (fs.length : Int) else blkI fs
theorem blk_split : ∀ fs : List Fm, (blkI fs = -1 ∧ colF fs = 0 ∧ inLaid fs = false) ∨ ∃ pre f r, fs = pre ++ f :: r ∧ blkI fs = (r.length : Int) ∧ colF fs = (if f.k = 0 then f.co else 0) ∧ inLaid fs = (f.k == 0) ∧ isBlk f = true ∧ dropF fs = r
  | [] => .inl ⟨rfl, rfl, rfl⟩
  | f :: fs => by
    by_cases hb : isBlk f = true
    · exact .inr ⟨[], f, fs, rfl, by rw [blkI, if_pos hb], by rw [colF, if_pos hb], by rw [inLaid, if_pos hb], hb, by rw [dropF, if_pos hb]⟩
    · rw [blkI, colF, inLaid, dropF, if_neg hb, if_neg hb, if_neg hb, if_neg hb]
      rcases blk_split fs with h | ⟨pre, g, r, rfl, h⟩
      · exact .inl h
      · exact .inr ⟨f :: pre, g, r, rfl, h⟩
theorem frI_app (a b : List Fm) : frI (a ++ b) = frI b ++ frI a := by simp [frI]
theorem fr_get0 {pre : List Fm} {f : Fm} {r : List Fm} {rest : List Int} : (iv (frI (pre ++ f :: r) ++ rest))[r.length * 2]? = some (.int .i64 f.k) := by
  rw [iv_get, frI_app, frI_cons, List.append_assoc, List.append_assoc, List.getElem?_append_right (by rw [frI_len]; omega), frI_len, Nat.sub_self]; rfl
theorem fr_get1 {pre : List Fm} {f : Fm} {r : List Fm} {rest : List Int} : (iv (frI (pre ++ f :: r) ++ rest))[r.length * 2 + 1]? = some (.int .i64 f.co) := by
  rw [iv_get, frI_app, frI_cons, List.append_assoc, List.append_assoc, List.getElem?_append_right (by rw [frI_len]; omega), frI_len, show r.length * 2 + 1 - r.length * 2 = 1 by omega]; rfl

theorem block_T {H : Heap} {s : LS} {ln co : Int} {q : Option Nat} (h : Lyr H s ln co q) (hb : s.fs.length ≤ 1000000000) : T Try.prog 40 [.ptr 0 0 0] H (.int .i64 (blkI s.fs)) H := by
  refine T.of mix c40 rfl ?_
  obtain ⟨fv, h1, h2⟩ := h
  unfold v40
  cases q with
  | none =>
    obtain ⟨hfs, rfl⟩ := h2
    have hw : IntKind.i64.wrap (0 - 1) = -1 := rfl
    have hm : (-1 : Int) ≥ 0 ↔ False := by simp
    simp only [go_sem, ↓reduceIte, ↓h1, ↓run_subW, hw]
    refine WP.loop' (fun _ E H' => H' = H ∧ ∃ ex, E = ⟨(0, .ptr 0 0 0) :: (3, .int .i64 (-1)) :: ex, .u⟩) (n := 0) ⟨rfl, _, rfl⟩ ?_
    rintro n E H' ⟨rfl, ex, rfl⟩
    simp only [go_sem, ↓reduceIte, hm, decide_false]
    rw [hfs]; rfl
  | some k =>
    obtain ⟨hk0, ver, rest, rfl, h3⟩ := h2
    have hd := dec64 (i := s.fs.length) (by omega)
    simp only [go_sem, ↓reduceIte, ↓h1, ↓run_subW, hd]
    refine WP.loop' (fun n E H' => H' = H ∧ ∃ pre suf ex, s.fs = pre ++ suf ∧ n = suf.length ∧ blkI suf = blkI s.fs ∧ E = ⟨(0, .ptr 0 0 0) :: (3, .int .i64 ((suf.length : Int) - 1)) :: ex, .u⟩) (n := s.fs.length)
      ⟨rfl, [], s.fs, _, rfl, rfl, rfl, rfl⟩ ?_
    rintro n E H' ⟨rfl, pre, suf, ex, hps, rfl, hbl, rfl⟩
    cases suf with
    | nil =>
      simp only [go_sem, ↓reduceIte]
      refine ⟨fun h => absurd h (by simp), fun _ => ?_⟩
      rw [← hbl]; rfl
    | cons f r =>
      have hl : s.fs.length = pre.length + (r.length + 1) := by rw [hps]; simp
      have e : (((f :: r).length : Nat) : Int) - 1 = (r.length : Int) := by simp
      have hd2 := dec64 (i := r.length) (by omega)
      have hg := fr_get0 (pre := pre) (f := f) (r := r) (rest := rest)
      rw [← hps] at hg
      rw [e]
      simp only [go_sem, ↓reduceIte, ↓h1, ↓h3, ↓run_subW, hd2, Int.toNat_natCast, hg]
      have hbk : isBlk f = true → V.int .i64 (r.length : Int) = V.int .i64 (blkI s.fs) := by
        intro h; rw [← hbl, blkI, if_pos h]
      refine ⟨fun _ => ⟨by omega, by omega, fun h0 => ⟨fun h1 => hbk ?_, fun h1 => ⟨r.length, by omega, pre ++ [f], r, _, by rw [hps]; simp, rfl, ?_, rfl⟩⟩, fun h0 => hbk ?_⟩, fun h => absurd h (by omega)⟩
      · unfold isBlk; simp at h1 ⊢; omega
      · rw [← hbl, blkI, if_neg]
        unfold isBlk; simp at h0 h1 ⊢; omega
      · unfold isBlk; simp at h0 ⊢; omega

theorem column_T {H : Heap} {s : LS} {ln co : Int} {q : Option Nat} (h : Lyr H s ln co q) (hb : s.fs.length ≤ 1000000000) : T Try.prog 37 [.ptr 0 0 0] H (.int .i64 (colF s.fs)) H := by
  have hB := block_T h hb
  refine T.of mix c37 rfl ?_
  obtain ⟨fv, h1, h2⟩ := h
  unfold v37
  simp only [go_sem, ↓reduceIte]
  refine ⟨_, _, hB, ?_⟩
  rcases blk_split s.fs with ⟨e1, e2, _⟩ | ⟨pre, f, r, hfs, e1, e2, _, e4, _⟩
  · have hm : (-1 : Int) < 0 ↔ True := by simp
    rw [e1]
    simp only [go_sem, ↓reduceIte, hm, decide_true]
    rw [e2]
  · have hm : (r.length : Int) < 0 ↔ False := ⟨fun h => by omega, False.elim⟩
    cases q with
    | none => rw [h2.1] at hfs; simp at hfs
    | some k =>
      obtain ⟨hk0, ver, rest, rfl, h3⟩ := h2
      have hg0 := fr_get0 (pre := pre) (f := f) (r := r) (rest := rest)
      have hg1 := fr_get1 (pre := pre) (f := f) (r := r) (rest := rest)
      rw [← hfs] at hg0 hg1
      have hl : s.fs.length = pre.length + (r.length + 1) := by rw [hfs]; simp
      rw [e1]
      simp only [go_sem, ↓reduceIte, hm, decide_false, ↓h1, ↓h3, Int.toNat_natCast, hg0, hg1]
      refine ⟨by omega, by omega, fun hk => ?_, fun hk => ⟨by omega, by omega, ?_⟩⟩
      · rw [e2, if_neg]; simp at hk; omega
      · rw [e2, if_pos]; unfold isBlk at e4; simp at hk e4; omega

theorem inLaid_T {H : Heap} {s : LS} {ln co : Int} {q : Option Nat} (h : Lyr H s ln co q) (hb : s.fs.length ≤ 1000000000) : T Try.prog 39 [.ptr 0 0 0] H (.bool (inLaid s.fs)) H := by
  have hB := block_T h hb
  refine T.of mix c39 rfl ?_
  obtain ⟨fv, h1, h2⟩ := h
  unfold v39
  simp only [go_sem, ↓reduceIte]
  refine ⟨_, _, hB, ?_⟩
  rcases blk_split s.fs with ⟨e1, _, e2⟩ | ⟨pre, f, r, hfs, e1, _, e2, e4, _⟩
  · have hm : (-1 : Int) ≥ 0 ↔ False := by simp
    rw [e1]
    simp only [go_sem, ↓reduceIte, hm, decide_false]
    rw [e2]
  · have hm : (r.length : Int) ≥ 0 ↔ True := ⟨fun _ => True.intro, fun _ => by omega⟩
    cases q with
    | none => rw [h2.1] at hfs; simp at hfs
    | some k =>
      obtain ⟨hk0, ver, rest, rfl, h3⟩ := h2
      have hg0 := fr_get0 (pre := pre) (f := f) (r := r) (rest := rest)
      rw [← hfs] at hg0
      have hl : s.fs.length = pre.length + (r.length + 1) := by rw [hfs]; simp
      rw [e1]
      simp only [go_sem, ↓reduceIte, hm, decide_true, ↓h1, ↓h3, Int.toNat_natCast, hg0]
      refine ⟨by omega, ?_⟩
      try rw [e2]
      congr 1
      rw [Bool.eq_iff_iff]; simp
end Go.Proofs.Ytdmnacjpgaopfaa.Vm
namespace Go.Proofs.Ytdmnacjpgaopfaa.Vm
open Go

def findI (w : Nat) (b : List Nat) (fs : List Fm) : Int := match closeF w b fs with
  | some (_, r) => (r.length : Int)
  | none => -1
theorem findI_nil (w : Nat) (b : List Nat) : findI w b [] = -1 := rfl
theorem findI_yes {w : Nat} {b : List Nat} {f : Fm} {r : List Fm} (h : f.k = w) : findI w b (f :: r) = (r.length : Int) := by
  unfold findI; rw [closeF, if_pos h]
theorem findI_bar {w : Nat} {b : List Nat} {f : Fm} {r : List Fm} (h : f.k ≠ w) (hb : b.contains f.k = true) : findI w b (f :: r) = -1 := by
  unfold findI; rw [closeF, if_neg h, if_pos hb]
theorem findI_on {w : Nat} {b : List Nat} {f : Fm} {r : List Fm} (h : f.k ≠ w) (hb : b.contains f.k = false) : findI w b (f :: r) = findI w b r := by
  unfold findI; rw [closeF, if_neg h, hb]
  cases closeF w b r <;> rfl
def barsV (o : Bool) (b : List Nat) : V := .sl o 1 (b.map fun (x : Nat) => [V.int .i64 (x : Int)])

theorem find_T {H : Heap} {s : LS} {ln co : Int} {q : Option Nat} (h : Lyr H s ln co q) (hb : s.fs.length ≤ 1000000000) (o : Bool) (w : Nat) (b : List Nat) (hbl : b.length ≤ 10) :
    T Try.prog 41 [.ptr 0 0 0, .int .i64 w, barsV o b] H (.int .i64 (findI w b s.fs)) H := by
  refine T.of mix c41 rfl ?_
  obtain ⟨fv, h1, h2⟩ := h
  unfold v41
  cases q with
  | none =>
    obtain ⟨hfs, rfl⟩ := h2
    have hw : IntKind.i64.wrap (0 - 1) = -1 := rfl
    have hm : (-1 : Int) ≥ 0 ↔ False := by simp
    simp only [go_sem, ↓reduceIte, ↓h1, ↓run_subW, hw]
    refine WP.loop' (fun _ E H' => H' = H ∧ ∃ ex, E = ⟨(0, .ptr 0 0 0) :: (1, .int .i64 w) :: (2, barsV o b) :: (7, .int .i64 (-1)) :: (8, .int .i64 (-1)) :: ex, .u⟩) (n := 0) ⟨rfl, _, rfl⟩ ?_
    rintro n E H' ⟨rfl, ex, rfl⟩
    simp only [go_sem, ↓reduceIte, hm, decide_false]
    rw [hfs]; rfl
  | some k =>
    obtain ⟨hk0, ver, rest, rfl, h3⟩ := h2
    have hd := dec64 (i := s.fs.length) (by omega)
    simp only [go_sem, ↓reduceIte, ↓h1, ↓run_subW, hd]
    refine WP.loop' (fun n E H' => H' = H ∧ ∃ pre suf ex, s.fs = pre ++ suf ∧ n = suf.length ∧ findI w b suf = findI w b s.fs ∧ E = ⟨(0, .ptr 0 0 0) :: (1, .int .i64 w) :: (2, barsV o b) :: (7, .int .i64 (-1)) :: (8, .int .i64 ((suf.length : Int) - 1)) :: ex, .u⟩) (n := s.fs.length)
      ⟨rfl, [], s.fs, _, rfl, rfl, rfl, rfl⟩ ?_
    rintro n E H' ⟨rfl, pre, suf, ex, hps, rfl, hfi, rfl⟩
    cases suf with
    | nil =>
      simp only [go_sem, ↓reduceIte]
      refine ⟨fun h => absurd h (by simp), fun _ => ?_⟩
      rw [← hfi]; rfl
    | cons f r =>
      have hl : s.fs.length = pre.length + (r.length + 1) := by rw [hps]; simp
      have e : (((f :: r).length : Nat) : Int) - 1 = (r.length : Int) := by simp
      have hd2 := dec64 (i := r.length) (by omega)
      have hg := fr_get0 (pre := pre) (f := f) (r := r) (rest := rest)
      rw [← hps] at hg
      rw [e]
      simp only [go_sem, ↓reduceIte, ↓h1, ↓h3, ↓run_subW, hd2, Int.toNat_natCast, hg, barsV]
      refine ⟨fun _ => ⟨by omega, by omega, fun hk => ?_, fun hk => ?_⟩, fun h => absurd h (by omega)⟩
      · rw [← hfi, findI_yes (by simp at hk; omega)]
      · have hkw : f.k ≠ w := by simp at hk; omega
        refine WP.loop' (fun m E H1 => H1 = H' ∧ ∃ j ex, j + m = b.length ∧ (∀ i, i < j → ∀ x, b[i]? = some x → x ≠ f.k) ∧
          E = ⟨(0, .ptr 0 0 0) :: (1, .int .i64 w) :: (2, barsV o b) :: (7, .int .i64 (-1)) :: (8, .int .i64 r.length) :: (9, .int .i64 f.k) :: (34, barsV false b) :: (35, .int .i64 b.length) :: (36, .int .i64 j) :: ex, .u⟩) (n := b.length)
          ⟨rfl, 0, [], by omega, fun i hi => absurd hi (Nat.not_lt_zero _), by simp [barsV]⟩ ?_
        rintro m E H1 ⟨rfl, j, ex, hj, hno, rfl⟩
        have hwj := inc64 (i := j) (by omega)
        simp only [go_sem, ↓reduceIte, ↓ex_map, ↓run_subW, ↓run_addW, hwj, hd2, Int.toNat_natCast, barsV]
        refine ⟨fun hlt => ?_, fun hge => ?_⟩
        · have hjb : j < b.length := by omega
          refine ⟨by omega, b[j], List.getElem?_eq_getElem hjb, fun he => ?_, fun hne => ⟨m - 1, by omega, j + 1, _, by omega, ?_, rfl⟩⟩
          · rw [← hfi, findI_bar hkw]
            rw [List.contains_iff_mem]
            have : f.k = b[j] := by simp at he; omega
            rw [this]; exact List.getElem_mem hjb
          · intro i hi x hx
            by_cases hij : i < j
            · exact hno i hij x hx
            · have : i = j := by omega
              subst this
              rw [List.getElem?_eq_getElem hjb] at hx
              cases hx
              simp at hne; omega
        · refine ⟨r.length, by omega, pre ++ [f], r, _, by rw [hps]; simp, rfl, ?_, rfl⟩
          rw [← hfi, findI_on hkw]
          cases hc : b.contains f.k with
          | false => rfl
          | true =>
            exfalso
            rw [List.contains_iff_mem] at hc
            obtain ⟨i, hi⟩ := List.mem_iff_getElem?.1 hc
            exact hno i (by have := (List.getElem?_eq_some_iff.1 hi).1; omega) _ hi rfl
end Go.Proofs.Ytdmnacjpgaopfaa.Vm
namespace Go.Proofs.Ytdmnacjpgaopfaa.Vm
open Go

theorem laidN_app (a b : List Fm) : laidN (a ++ b) = laidN a + laidN b := by simp [laidN]
theorem laidN_one (f : Fm) : laidN [f] = if f.k = 0 then 1 else 0 := by
  unfold laidN
  by_cases h : f.k = 0
  · simp [h]
  · have : (f.k == 0) = false := by simpa using h
    simp [this, h]
theorem closeF_split {w : Nat} {b : List Nat} : ∀ {fs : List Fm} {n : Nat} {r : List Fm}, closeF w b fs = some (n, r) → ∃ pre f, fs = pre ++ f :: r ∧ laidN pre = n
  | [], n, r, h => by cases h
  | f :: fs, n, r, h => by
    rw [closeF] at h
    split at h
    · cases h; exact ⟨[], f, rfl, rfl⟩
    · split at h
      · cases h
      · obtain ⟨⟨n', r'⟩, h1, h2⟩ := Option.map_eq_some_iff.1 h
        cases h2
        obtain ⟨pre, g, rfl, h3⟩ := closeF_split h1
        refine ⟨f :: pre, g, rfl, ?_⟩
        rw [show f :: pre = [f] ++ pre from rfl, laidN_app, laidN_one, h3, Nat.add_comm]
/-- Fewer frames. -/
theorem Lyr.pop {H : Heap} {s : LS} {k ver : Nat} {rest : List Int} {c0 : List V} (h1 : getCells H 0 0 = some c0) (hk0 : k ≠ 0) (h3 : getCells H k ver = some (iv (frI s.fs ++ rest))) {pre r : List Fm} (hfs : s.fs = pre ++ r) {n : Nat} (hn : n = r.length) (ln co : Int) :
    Lyr (H.set 0 (.cells 0 [toksV true s.out, .hsl k ver 0 n 2, .bool s.due, .int .i64 ln, .int .i64 co])) { s with fs := r } ln co (some k) ∧
      Grow H (some k) (H.set 0 (.cells 0 [toksV true s.out, .hsl k ver 0 n 2, .bool s.due, .int .i64 ln, .int .i64 co])) (some k) := by
  subst hn
  refine ⟨⟨_, gc_same (gc_lt h1), hk0, ver, frI pre ++ rest, rfl, ?_⟩, Grow.layer ?_⟩
  · rw [gc_ne (fun e => hk0 e.symm), h3, hfs, frI_app, List.append_assoc]
  · simp only [idsL, idsV, toksV, decide_eq_true (gc_lt h3), Bool.and_self]

theorem closeTo_T {H : Heap} {s : LS} {ln co : Int} {q : Option Nat} (h : Lyr H s ln co q) (hb : s.fs.length ≤ 1000000000) {pre : List Fm} {f : Fm} {r : List Fm} (hfs : s.fs = pre ++ f :: r) (ho : s.out.length + s.fs.length ≤ 1000000000) :
    ∃ x H', T Try.prog 42 [.ptr 0 0 0, .int .i64 r.length] H x H' ∧ x = .tup [] ∧ Lyr H' { s with out := s.out ++ List.replicate (laidN pre) (mkT bShut ln co), fs := r } ln co q ∧ Grow H q H' q := by
  refine T.of_all mix c42 rfl ?_
  generalize hK : endY _ _ _ = K
  unfold v42
  simp only [go_sem, ↓reduceIte]
  obtain ⟨k, rfl⟩ : ∃ k, q = some k := by
    cases q with
    | none => obtain ⟨fv, _, h2⟩ := h; rw [h2.1] at hfs; simp at hfs
    | some k => exact ⟨k, rfl⟩
  refine WP.loop' (fun m E H1 => ∃ s1 ex d, Lyr H1 s1 ln co (some k) ∧ Grow H (some k) H1 (some k) ∧ s1.due = s.due ∧ s1.out.length + s1.fs.length ≤ 1000000000 ∧
      ((∃ pre1, s1.fs = pre1 ++ f :: r ∧ m = pre1.length + 1 ∧ s1.out ++ List.replicate (laidN pre1) (mkT bShut ln co) = s.out ++ List.replicate (laidN pre) (mkT bShut ln co)) ∨
        (m = 0 ∧ s1.fs = r ∧ s1.out = s.out ++ List.replicate (laidN pre) (mkT bShut ln co))) ∧
      E = ⟨(0, .ptr 0 0 0) :: (1, .int .i64 r.length) :: ex, d⟩) (n := pre.length + 1)
    ⟨s, _, _, h, Grow.refl _ _, rfl, ho, .inl ⟨pre, hfs, rfl, rfl⟩, rfl⟩ ?_
  rintro m E H1 ⟨s1, ex, dd, hL, hg, hdue, hlen, hcase, rfl⟩
  have hL0 := hL
  obtain ⟨fv, h1, hk0, ver, rest, rfl, h3⟩ := hL
  have hlt := gc_lt h1
  rcases hcase with ⟨pre1, hs1, rfl, hout⟩ | ⟨rfl, hs1, hout⟩
  · have hl1 : s1.fs.length = pre1.length + (r.length + 1) := by rw [hs1]; simp
    have hd := dec64 (i := s1.fs.length) (by omega)
    cases pre1 with
    | nil =>
      have hl1' : ((s1.fs.length : Nat) : Int) - 1 = (r.length : Int) := by simp at hl1; omega
      have hd := hd.trans hl1'
      have hself : (r.length : Int) > (r.length : Int) ↔ False := by simp
      simp only [go_sem, ↓reduceIte, ↓h1, ↓run_subW, hd, hself, decide_false, Int.toNat_natCast, toksV]
      refine ⟨fun _ => ⟨⟨by omega, by omega⟩, ?_⟩, fun h => absurd h (by omega)⟩
      have hp := Lyr.pop (s := s1) h1 hk0 h3 (pre := [f]) (r := r) hs1 rfl ln co
      exact ⟨0, by simp, { s1 with fs := r }, [], .u, hp.1, hg.trans hp.2, hdue, by simp only; omega, .inr ⟨rfl, rfl, by rw [show laidN [] = 0 from rfl, List.replicate_zero, List.append_nil] at hout; exact hout⟩, rfl⟩
    | cons g pre1 =>
      have hd := hd.trans (show ((s1.fs.length : Nat) : Int) - 1 = ((pre1.length + (r.length + 1) : Nat) : Int) by simp at hl1 ⊢; omega)
      have hgt : ((pre1.length + (r.length + 1) : Nat) : Int) > (r.length : Int) ↔ True := ⟨fun _ => True.intro, fun _ => by omega⟩
      have hg0 := fr_get0 (pre := []) (f := g) (r := pre1 ++ f :: r) (rest := rest)
      rw [List.nil_append, ← List.cons_append, ← hs1, List.length_append, List.length_cons] at hg0
      simp only [go_sem, ↓reduceIte, ↓h1, ↓h3, ↓run_subW, hd, hgt, decide_true, Int.toNat_natCast, hg0]
      have hlp : pre1.length + (r.length + 1) = (pre1 ++ f :: r).length := by simp
      have hl2 : s1.fs.length = pre1.length + (r.length + 1) + 1 := by rw [hs1]; simp
      refine ⟨fun _ => ⟨by omega, by omega, fun hk => ?_, fun hk => ?_⟩, fun h => absurd h (by omega)⟩
      · have hk : g.k = 0 := by simp at hk; omega
        obtain ⟨x, H2, hT, rfl, hL2, hg2⟩ := make_T hL0 (by omega) bShut
        refine ⟨_, H2, hT, ?_⟩
        obtain ⟨fv2, j1, _, ver2, rest2, rfl, j3⟩ := hL2
        simp only [go_sem, ↓reduceIte, ↓j1, Int.toNat_natCast, toksV]
        have hp := Lyr.pop (s := { s1 with out := s1.out ++ [mkT bShut ln co] }) j1 hk0 j3 (pre := [g]) (r := pre1 ++ f :: r) hs1 hlp ln co
        refine ⟨⟨by omega, by omega⟩, pre1.length + 1, by omega, _, [], .u, hp.1, (hg.trans hg2).trans hp.2, hdue, ?_, .inl ⟨pre1, rfl, rfl, ?_⟩, rfl⟩
        · simp only [List.length_append, List.length_cons, List.length_nil]; omega
        · rw [← hout]
          simp only
          rw [show g :: pre1 = [g] ++ pre1 from rfl, laidN_app, laidN_one, if_pos hk, List.append_assoc]
          congr 1
          rw [Nat.add_comm, List.replicate_succ]; rfl
      · have hk : g.k ≠ 0 := by simp at hk; omega
        have hp := Lyr.pop (s := s1) h1 hk0 h3 (pre := [g]) (r := pre1 ++ f :: r) hs1 hlp ln co
        simp only [go_sem, ↓reduceIte, ↓h1, Int.toNat_natCast, toksV]
        refine ⟨⟨by omega, by omega⟩, pre1.length + 1, by omega, _, [], .u, hp.1, hg.trans hp.2, hdue, ?_, .inl ⟨pre1, rfl, rfl, ?_⟩, rfl⟩
        · simp only [List.length_append, List.length_cons]; omega
        · rw [← hout]
          simp only
          rw [show g :: pre1 = [g] ++ pre1 from rfl, laidN_app, laidN_one, if_neg hk, Nat.zero_add]
  · simp only [go_sem, ↓reduceIte, ↓h1]
    refine ⟨fun h => absurd h (by rw [hs1]; simp), fun _ => ?_⟩
    rw [← hK]
    have e : s1 = { s with out := s.out ++ List.replicate (laidN pre) (mkT bShut ln co), fs := r } := by cases s1; simp at hs1 hout hdue; rw [hs1, hout, hdue]
    rw [e] at hL0
    exact endY_nil trivial hg ⟨rfl, hL0, hg⟩
end Go.Proofs.Ytdmnacjpgaopfaa.Vm
namespace Go.Proofs.Ytdmnacjpgaopfaa.Vm
open Go

theorem tok_ids (m : Nat) (t : Tok) : idsO m (.cells 0 (tokC t)) = true := by simp [idsO, idsL, idsV, tokC]
/-- What is left of closes, once it is known what is looked for. -/
theorem closes_fin {H Hl : Heap} {s : LS} {ln co : Int} {q : Option Nat} (hL : Lyr Hl s ln co q) (hg : Grow H q Hl q) (ho : s.out.length + s.fs.length ≤ 1000000000) {t : Tok} (hln : t.ln = ln) (hco : t.co = co) {w : Nat} {b : List Nat} (hc : closeOf t = some (w, b))
    {K : KK} (hK : ∀ H', Lyr H' (closesS s t) ln co q → Grow H q H' q → ∀ E, K .normal E H') :
    ((findI w b s.fs ≥ 0) → ∃ r H', T Try.prog 42 [.ptr 0 0 0, .int .i64 (findI w b s.fs)] Hl r H' ∧ ∀ E, K .normal E H') ∧ (¬ (findI w b s.fs ≥ 0) → ∀ E, K .normal E Hl) := by
  cases hf : closeF w b s.fs with
  | none =>
    have e : findI w b s.fs = -1 := by unfold findI; rw [hf]
    have e2 : closesS s t = s := by unfold closesS; rw [hc]; simp only [hf]
    rw [e]
    rw [e2] at hK
    exact ⟨fun h => absurd h (by simp), fun _ => hK _ hL hg⟩
  | some p =>
    obtain ⟨n, r⟩ := p
    have e : findI w b s.fs = (r.length : Int) := by unfold findI; rw [hf]
    have e2 : closesS s t = { s with out := s.out ++ List.replicate n (mkT bShut ln co), fs := r } := by unfold closesS; rw [hc]; simp only [hf, hln, hco]
    rw [e]
    rw [e2] at hK
    obtain ⟨pre, f, h1, h2⟩ := closeF_split hf
    obtain ⟨x, H', hT, rfl, k1, k2⟩ := closeTo_T hL (by omega) h1 ho
    rw [h2] at k1
    exact ⟨fun _ => ⟨_, H', hT, hK _ k1 (hg.trans k2)⟩, fun h => absurd h (by omega)⟩
theorem closes_T {H : Heap} {s : LS} {ln co : Int} {q : Option Nat} (h : Lyr H s ln co q) (ho : s.out.length + s.fs.length ≤ 1000000000) (t : Tok) (hln : t.ln = ln) (hco : t.co = co) :
    ∃ x H', T Try.prog 25 [.ptr 0 0 0, .agg (tokC t)] H x H' ∧ x = .tup [] ∧ Lyr H' (closesS s t) ln co q ∧ Grow H q H' q := by
  refine T.of_all mix c25 rfl ?_
  have hlt := h.pos
  generalize hK : endY _ _ _ = K
  have hKK : ∀ H', Lyr H' (closesS s t) ln co q → Grow H q H' q → ∀ E, K .normal E H' := by
    intro H' k1 k2 E
    rw [← hK]
    exact endY_nil trivial k2 ⟨rfl, k1, k2⟩
  unfold v25 tokC
  have hL := h.local [.cells 0 (tokC t)]
  have hg : Grow H q (H ++ [.cells 0 (tokC t)]) q := Grow.local (tok_ids _ t)
  have hnew : getCells (H ++ [.cells 0 [V.int .i64 t.k, .str t.s, .int .i64 t.n, .int .i64 t.ln, .int .i64 t.co, .bool t.md]]) H.length 0 = some [V.int .i64 t.k, .str t.s, .int .i64 t.n, .int .i64 t.ln, .int .i64 t.co, .bool t.md] := gc_new
  have hnone : closeOf t = none → ∀ E, K .normal E (H ++ [.cells 0 (tokC t)]) := by
    intro hc
    have e2 : closesS s t = s := by unfold closesS; rw [hc]
    rw [e2] at hKK
    exact hKK _ hL hg
  unfold tokC at hL hg hnone
  have hm : (-1 : Int) ≥ 0 ↔ False := by simp
  by_cases k5 : t.k = 5
  · have e5 : (t.k == 5) = true := by rw [k5]; rfl
    have e6 : (t.k != 6) = true := by rw [k5]; rfl
    by_cases s1 : t.s = [41]
    · have f1 : (t.s == [41]) = true := by rw [s1]; rfl
      have hc : closeOf t = some (2, [1]) := by simp [closeOf, isM, k5, s1]
      have hT := find_T hL (by omega) true 2 [1] (by simp)
      have hfin := closes_fin hL hg ho hln hco hc hKK
      simp only [barsV, List.map_cons, List.map_nil] at hT
      generalize findI 2 [1] s.fs = fi at hT hfin
      simp only [go_sem, ↓reduceIte, ↓hnew, e5, f1, elems_int, elems_nil, exX_some, Option.map_some]
      refine ⟨_, _, hT, ?_⟩
      simp only [go_sem, ↓reduceIte, ↓hnew, e5, f1]
      exact ⟨fun hge => (hfin.1 hge).imp fun r hr => hr.imp fun H' hH => ⟨hH.1, hH.2 _⟩, fun hlt => hfin.2 hlt _⟩
    · have f1 : (t.s == [41]) = false := by simpa using s1
      by_cases s2 : t.s = [125]
      · have f2 : (t.s == [125]) = true := by rw [s2]; rfl
        have hc : closeOf t = some (1, []) := by simp [closeOf, isM, k5, s2, bShut]
        have hT := find_T hL (by omega) true 1 [] (by simp)
        have hfin := closes_fin hL hg ho hln hco hc hKK
        simp only [barsV, List.map_cons, List.map_nil] at hT
        generalize findI 1 [] s.fs = fi at hT hfin
        simp only [go_sem, ↓reduceIte, ↓hnew, e5, f1, f2, elems_int, elems_nil, exX_some, Option.map_some]
        refine ⟨_, _, hT, ?_⟩
        simp only [go_sem, ↓reduceIte, ↓hnew, e5, f1, f2]
        exact ⟨fun hge => (hfin.1 hge).imp fun r hr => hr.imp fun H' hH => ⟨hH.1, hH.2 _⟩, fun hlt => hfin.2 hlt _⟩
      · have f2 : (t.s == [125]) = false := by simpa using s2
        have hc : closeOf t = none := by simp [closeOf, isM, isW, k5, s1, s2, bShut]
        simp only [go_sem, ↓reduceIte, ↓hnew, e5, f1, f2, e6, hm, decide_false]
        exact hnone hc _
  · have e5 : (t.k == 5) = false := by simpa using k5
    by_cases k6 : t.k = 6
    · have e6 : (t.k != 6) = false := by rw [k6]; rfl
      by_cases w0 : t.s = [105, 110]
      · have g0 : (t.s == [105, 110]) = true := by rw [w0]; rfl
        have hc : closeOf t = some (3, [1, 2]) := by simp [closeOf, isM, isW, k6, w0]
        have hT := find_T hL (by omega) true 3 [1, 2] (by simp)
        have hfin := closes_fin hL hg ho hln hco hc hKK
        simp only [barsV, List.map_cons, List.map_nil] at hT
        generalize findI 3 [1, 2] s.fs = fi at hT hfin
        simp only [go_sem, ↓reduceIte, ↓hnew, e5, e6, g0, run_buildSlG, elems_int, elems_nil, exX_some, Option.map_some]
        refine ⟨_, _, hT, ?_⟩
        simp only [go_sem, ↓reduceIte, ↓hnew, e5, e6, g0]
        exact ⟨fun hge => (hfin.1 hge).imp fun r hr => hr.imp fun H' hH => ⟨hH.1, hH.2 _⟩, fun hlt => hfin.2 hlt _⟩
      have g0 : (t.s == [105, 110]) = false := by simpa using w0
      by_cases w1 : t.s = [111, 102]
      · have g1 : (t.s == [111, 102]) = true := by rw [w1]; rfl
        have hc : closeOf t = some (4, [1, 2]) := by simp [closeOf, isM, isW, k6, w1]
        have hT := find_T hL (by omega) true 4 [1, 2] (by simp)
        have hfin := closes_fin hL hg ho hln hco hc hKK
        simp only [barsV, List.map_cons, List.map_nil] at hT
        generalize findI 4 [1, 2] s.fs = fi at hT hfin
        simp only [go_sem, ↓reduceIte, ↓hnew, e5, e6, g0, g1, run_buildSlG, elems_int, elems_nil, exX_some, Option.map_some]
        refine ⟨_, _, hT, ?_⟩
        simp only [go_sem, ↓reduceIte, ↓hnew, e5, e6, g0, g1]
        exact ⟨fun hge => (hfin.1 hge).imp fun r hr => hr.imp fun H' hH => ⟨hH.1, hH.2 _⟩, fun hlt => hfin.2 hlt _⟩
      have g1 : (t.s == [111, 102]) = false := by simpa using w1
      by_cases w2 : t.s = [116, 104, 101, 110]
      · have g2 : (t.s == [116, 104, 101, 110]) = true := by rw [w2]; rfl
        have hc : closeOf t = some (5, [1, 2]) := by simp [closeOf, isM, isW, k6, w2]
        have hT := find_T hL (by omega) true 5 [1, 2] (by simp)
        have hfin := closes_fin hL hg ho hln hco hc hKK
        simp only [barsV, List.map_cons, List.map_nil] at hT
        generalize findI 5 [1, 2] s.fs = fi at hT hfin
        simp only [go_sem, ↓reduceIte, ↓hnew, e5, e6, g0, g1, g2, run_buildSlG, elems_int, elems_nil, exX_some, Option.map_some]
        refine ⟨_, _, hT, ?_⟩
        simp only [go_sem, ↓reduceIte, ↓hnew, e5, e6, g0, g1, g2]
        exact ⟨fun hge => (hfin.1 hge).imp fun r hr => hr.imp fun H' hH => ⟨hH.1, hH.2 _⟩, fun hlt => hfin.2 hlt _⟩
      have g2 : (t.s == [116, 104, 101, 110]) = false := by simpa using w2
      by_cases w3 : t.s = [101, 108, 115, 101]
      · have g3 : (t.s == [101, 108, 115, 101]) = true := by rw [w3]; rfl
        have hc : closeOf t = some (6, [1, 2]) := by simp [closeOf, isM, isW, k6, w3]
        have hT := find_T hL (by omega) true 6 [1, 2] (by simp)
        have hfin := closes_fin hL hg ho hln hco hc hKK
        simp only [barsV, List.map_cons, List.map_nil] at hT
        generalize findI 6 [1, 2] s.fs = fi at hT hfin
        simp only [go_sem, ↓reduceIte, ↓hnew, e5, e6, g0, g1, g2, g3, run_buildSlG, elems_int, elems_nil, exX_some, Option.map_some]
        refine ⟨_, _, hT, ?_⟩
        simp only [go_sem, ↓reduceIte, ↓hnew, e5, e6, g0, g1, g2, g3]
        exact ⟨fun hge => (hfin.1 hge).imp fun r hr => hr.imp fun H' hH => ⟨hH.1, hH.2 _⟩, fun hlt => hfin.2 hlt _⟩
      have g3 : (t.s == [101, 108, 115, 101]) = false := by simpa using w3
      have hc : closeOf t = none := by simp [closeOf, isM, isW, k6, w0, w1, w2, w3]
      simp only [go_sem, ↓reduceIte, ↓hnew, e5, e6, g0, g1, g2, g3, hm, decide_false]
      exact hnone hc _
    · have e6 : (t.k != 6) = true := by simpa using k6
      have hc : closeOf t = none := by simp [closeOf, isM, isW, k5, k6]
      simp only [go_sem, ↓reduceIte, ↓hnew, e5, e6, hm, decide_false]
      exact hnone hc _
end Go.Proofs.Ytdmnacjpgaopfaa.Vm
namespace Go.Proofs.Ytdmnacjpgaopfaa.Vm
open Go

def opensS (s : LS) (t : Tok) : LS := ⟨s.out, pushF t s.fs, s.due || dueOf t⟩
theorem opens_T {H : Heap} {s : LS} {ln co : Int} {q : Option Nat} (h : Lyr H s ln co q) (ho : s.out.length + s.fs.length ≤ 1000000000) (t : Tok) :
    ∃ x H', T Try.prog 26 [.ptr 0 0 0, .agg (tokC t)] H x H' ∧ x = .tup [] ∧ ∃ q', Lyr H' (opensS s t) ln co q' ∧ Grow H q H' q' := by
  refine T.of_all mix c26 rfl ?_
  have hlt := h.pos
  generalize hK : endY _ _ _ = K
  have hKK : ∀ q' H', Lyr H' (opensS s t) ln co q' → Grow H q H' q' → ∀ E, K .normal E H' := by
    intro q' H' k1 k2 E
    rw [← hK]
    exact endY_nil trivial k2 ⟨rfl, q', k1, k2⟩
  unfold v26 tokC
  have hL := h.local [.cells 0 (tokC t)]
  have hg : Grow H q (H ++ [.cells 0 (tokC t)]) q := Grow.local (tok_ids _ t)
  have hnew : getCells (H ++ [.cells 0 [V.int .i64 t.k, .str t.s, .int .i64 t.n, .int .i64 t.ln, .int .i64 t.co, .bool t.md]]) H.length 0 = some [V.int .i64 t.k, .str t.s, .int .i64 t.n, .int .i64 t.ln, .int .i64 t.co, .bool t.md] := gc_new
  unfold tokC at hL hg
  have hdue : ∀ {H1 : Heap} {s1 : LS} {q1 : Option Nat}, Lyr H1 s1 ln co q1 → Grow H q H1 q1 → { s1 with due := true } = opensS s t → ∃ c0, getCells H1 0 0 = some c0 ∧ 2 < c0.length ∧ ∀ E, K .normal E (H1.set 0 (.cells 0 (c0.set 2 (.bool true)))) := by
    intro H1 s1 q1 hL1 hg1 he
    obtain ⟨fv, h1, h2⟩ := hL1
    obtain ⟨k1, k2⟩ := Lyr.turn h1 h2 { s1 with due := true } rfl ln co
    have k1' : Lyr (H1.set 0 (.cells 0 ([toksV true s1.out, fv, .bool s1.due, .int .i64 ln, .int .i64 co].set 2 (.bool true)))) { s1 with due := true } ln co q1 := k1
    rw [he] at k1'
    exact ⟨_, h1, by simp, hKK _ _ k1' (hg1.trans k2)⟩
  have hnone : opensS s t = s → ∀ E, K .normal E (H ++ [.cells 0 (tokC t)]) := by
    intro hc
    rw [hc] at hKK
    exact hKK _ _ hL hg
  unfold tokC at hnone
  by_cases k5 : t.k = 5
  · have e5 : (t.k == 5) = true := by rw [k5]; rfl
    have e6 : (t.k != 6) = true := by rw [k5]; rfl
    have hd1 : dueOf t = false := by simp [dueOf, isW, k5]
    by_cases s1 : t.s = [40]
    · have f1 : (t.s == [40]) = true := by rw [s1]; rfl
      have ho1 : openOf t = some 2 := by simp [openOf, isM, k5, s1]
      obtain ⟨x, H', hT, rfl, q', k1, k2⟩ := push_T hL (by omega) ⟨2, 0⟩
      simp only [go_sem, ↓reduceIte, ↓hnew, e5, f1]
      have he : opensS s t = { s with fs := ⟨2, 0⟩ :: s.fs } := by unfold opensS pushF; rw [ho1, hd1]; simp
      rw [← he] at k1
      exact ⟨_, H', hT, hKK _ _ k1 (hg.trans k2) _⟩
    · have f1 : (t.s == [40]) = false := by simpa using s1
      by_cases s2 : t.s = [123]
      · have f2 : (t.s == [123]) = true := by rw [s2]; rfl
        have ho1 : openOf t = some 1 := by simp [openOf, isM, k5, s2, bOpen]
        obtain ⟨x, H', hT, rfl, q', k1, k2⟩ := push_T hL (by omega) ⟨1, 0⟩
        simp only [go_sem, ↓reduceIte, ↓hnew, e5, f1, f2]
        have he : opensS s t = { s with fs := ⟨1, 0⟩ :: s.fs } := by unfold opensS pushF; rw [ho1, hd1]; simp
        rw [← he] at k1
        exact ⟨_, H', hT, hKK _ _ k1 (hg.trans k2) _⟩
      · have f2 : (t.s == [123]) = false := by simpa using s2
        have ho1 : openOf t = none := by simp [openOf, isM, isW, k5, s1, s2, bOpen]
        simp only [go_sem, ↓reduceIte, ↓hnew, e5, f1, f2, e6]
        exact hnone (by unfold opensS pushF; rw [ho1, hd1]; simp) _
  · have e5 : (t.k == 5) = false := by simpa using k5
    by_cases k6 : t.k = 6
    · have e6 : (t.k != 6) = false := by rw [k6]; rfl
      by_cases w0 : t.s = [108, 101, 116]
      · have g0 : (t.s == [108, 101, 116]) = true := by rw [w0]; rfl
        have ho1 : openOf t = some 3 := by simp [openOf, isM, isW, k6, w0]
        have hd1 : dueOf t = true := by simp [dueOf, isW, k6, w0]
        obtain ⟨x, H', hT, rfl, q', k1, k2⟩ := push_T hL (by omega) ⟨3, 0⟩
        obtain ⟨c0, j1, j2, j3⟩ := hdue k1 (hg.trans k2) (by unfold opensS pushF; rw [ho1, hd1]; simp)
        simp only [go_sem, ↓reduceIte, ↓hnew, e5, e6, g0]
        refine ⟨_, H', hT, ?_⟩
        simp only [go_sem, ↓reduceIte, ↓j1]
        exact ⟨j2, j3 _⟩
      have g0 : (t.s == [108, 101, 116]) = false := by simpa using w0
      by_cases w1 : t.s = [99, 97, 115, 101]
      · have g1 : (t.s == [99, 97, 115, 101]) = true := by rw [w1]; rfl
        have ho1 : openOf t = some 4 := by simp [openOf, isM, isW, k6, w1]
        have hd1 : dueOf t = false := by simp [dueOf, isW, k6, w1]
        obtain ⟨x, H', hT, rfl, q', k1, k2⟩ := push_T hL (by omega) ⟨4, 0⟩
        simp only [go_sem, ↓reduceIte, ↓hnew, e5, e6, g0, g1]
        have he : opensS s t = { s with fs := ⟨4, 0⟩ :: s.fs } := by unfold opensS pushF; rw [ho1, hd1]; simp
        rw [← he] at k1
        exact ⟨_, H', hT, hKK _ _ k1 (hg.trans k2) _⟩
      have g1 : (t.s == [99, 97, 115, 101]) = false := by simpa using w1
      by_cases w2 : t.s = [111, 102]
      · have g2 : (t.s == [111, 102]) = true := by rw [w2]; rfl
        have ho1 : openOf t = none := by simp [openOf, isM, isW, k6, w2]
        have hd1 : dueOf t = true := by simp [dueOf, isW, k6, w2]
        obtain ⟨c0, j1, j2, j3⟩ := hdue hL hg (by unfold opensS pushF; rw [ho1, hd1]; simp)
        simp only [go_sem, ↓reduceIte, ↓hnew, e5, e6, g0, g1, g2, ↓j1]
        exact ⟨j2, j3 _⟩
      have g2 : (t.s == [111, 102]) = false := by simpa using w2
      by_cases w3 : t.s = [105, 102]
      · have g3 : (t.s == [105, 102]) = true := by rw [w3]; rfl
        have ho1 : openOf t = some 5 := by simp [openOf, isM, isW, k6, w3]
        have hd1 : dueOf t = false := by simp [dueOf, isW, k6, w3]
        obtain ⟨x, H', hT, rfl, q', k1, k2⟩ := push_T hL (by omega) ⟨5, 0⟩
        simp only [go_sem, ↓reduceIte, ↓hnew, e5, e6, g0, g1, g2, g3]
        have he : opensS s t = { s with fs := ⟨5, 0⟩ :: s.fs } := by unfold opensS pushF; rw [ho1, hd1]; simp
        rw [← he] at k1
        exact ⟨_, H', hT, hKK _ _ k1 (hg.trans k2) _⟩
      have g3 : (t.s == [105, 102]) = false := by simpa using w3
      by_cases w4 : t.s = [116, 104, 101, 110]
      · have g4 : (t.s == [116, 104, 101, 110]) = true := by rw [w4]; rfl
        have ho1 : openOf t = some 6 := by simp [openOf, isM, isW, k6, w4]
        have hd1 : dueOf t = false := by simp [dueOf, isW, k6, w4]
        obtain ⟨x, H', hT, rfl, q', k1, k2⟩ := push_T hL (by omega) ⟨6, 0⟩
        simp only [go_sem, ↓reduceIte, ↓hnew, e5, e6, g0, g1, g2, g3, g4]
        have he : opensS s t = { s with fs := ⟨6, 0⟩ :: s.fs } := by unfold opensS pushF; rw [ho1, hd1]; simp
        rw [← he] at k1
        exact ⟨_, H', hT, hKK _ _ k1 (hg.trans k2) _⟩
      have g4 : (t.s == [116, 104, 101, 110]) = false := by simpa using w4
      have ho1 : openOf t = none := by simp [openOf, isM, isW, k6, w0, w1, w2, w3, w4]
      have hd1 : dueOf t = false := by simp [dueOf, isW, k6, w0, w1, w2, w3, w4]
      simp only [go_sem, ↓reduceIte, ↓hnew, e5, e6, g0, g1, g2, g3, g4]
      exact hnone (by unfold opensS pushF; rw [ho1, hd1]; simp) _
    · have e6 : (t.k != 6) = true := by simpa using k6
      have ho1 : openOf t = none := by simp [openOf, isM, isW, k5, k6]
      have hd1 : dueOf t = false := by simp [dueOf, isW, k6]
      simp only [go_sem, ↓reduceIte, ↓hnew, e5, e6]
      exact hnone (by unfold opensS pushF; rw [ho1, hd1]; simp) _
end Go.Proofs.Ytdmnacjpgaopfaa.Vm
namespace Go.Proofs.Ytdmnacjpgaopfaa.Vm
open Go

def startsS (s : LS) (t : Tok) : Bool × LS :=
  if isM t bOpen then (true, { s with due := false })
  else if colF s.fs < t.co then (true, ⟨s.out ++ [mkT bOpen t.ln t.co], ⟨0, t.co⟩ :: s.fs, false⟩)
  else (false, ⟨s.out ++ [mkT bOpen t.ln t.co, mkT bShut t.ln t.co], s.fs, false⟩)
theorem Lyr.q_ne {H : Heap} {s : LS} {ln co : Int} {q : Option Nat} (h : Lyr H s ln co q) {j : Nat} (hj : H.length ≤ j) : q ≠ some j := by
  rintro rfl
  obtain ⟨fv, _, _, ver, rest, _, h3⟩ := h
  have := gc_lt h3
  omega
theorem starts_T {H : Heap} {s : LS} {ln co : Int} {q : Option Nat} (h : Lyr H s ln co q) (ho : s.out.length + s.fs.length ≤ 900000000) (t : Tok) (hln : t.ln = ln) (hco : t.co = co) :
    ∃ x H', T Try.prog 23 [.ptr 0 0 0, .agg (tokC t)] H x H' ∧ x = .bool (startsS s t).1 ∧ ∃ q', Lyr H' (startsS s t).2 ln co q' ∧ Grow H q H' q' := by
  refine T.of_all mix c23 rfl ?_
  have hlt := h.pos
  generalize hK : endY _ _ _ = K
  have hKK : ∀ q' H' (E : List (Nat × V)), Lyr H' (startsS s t).2 ln co q' → Grow H q H' q' → K .ret ⟨(4, .bool (startsS s t).1) :: E, .u⟩ H' := by
    intro q' H' E k1 k2
    rw [← hK]
    exact endY_bool trivial rfl k2 ⟨rfl, q', k1, k2⟩
  unfold v23 tokC
  have hL := h.local [.cells 0 (tokC t)]
  have hg : Grow H q (H ++ [.cells 0 (tokC t)]) q := Grow.local (tok_ids _ t)
  have hnew : getCells (H ++ [.cells 0 [V.int .i64 t.k, .str t.s, .int .i64 t.n, .int .i64 t.ln, .int .i64 t.co, .bool t.md]]) H.length 0 = some [V.int .i64 t.k, .str t.s, .int .i64 t.n, .int .i64 t.ln, .int .i64 t.co, .bool t.md] := gc_new
  unfold tokC at hL hg
  obtain ⟨fv, h1, h2⟩ := hL
  obtain ⟨k1, k2⟩ := Lyr.turn h1 h2 { s with due := false } rfl ln co
  have hg1 := hg.trans k2
  have hnew1 : getCells ((H ++ [Obj.cells 0 [V.int .i64 t.k, .str t.s, .int .i64 t.n, .int .i64 t.ln, .int .i64 t.co, .bool t.md]]).set 0 (.cells 0 [toksV true s.out, fv, .bool false, .int .i64 ln, .int .i64 co])) H.length 0 =
      some [V.int .i64 t.k, .str t.s, .int .i64 t.n, .int .i64 t.ln, .int .i64 t.co, .bool t.md] := by rw [gc_ne (by omega)]; exact hnew
  have hcol := column_T k1 (by simp only; omega)
  simp only at k1 hcol hg1
  have hmake := make_T k1 (by simp only; omega) bOpen
  simp only [go_sem, ↓reduceIte, ↓h1]
  generalize (H ++ [Obj.cells 0 [V.int .i64 t.k, .str t.s, .int .i64 t.n, .int .i64 t.ln, .int .i64 t.co, .bool t.md]]).set 0 (.cells 0 [toksV true s.out, fv, .bool false, .int .i64 ln, .int .i64 co]) = H1 at k1 hg1 hnew1 hcol hmake
  have hH0 : H.length ≠ 0 := by omega
  have hq := h.q_ne (Nat.le_refl _)
  have hno : isM t bOpen = false → ((colF s.fs < t.co) → ∃ r H', T Try.prog 27 [.ptr 0 0 0, .str [123]] H1 r H' ∧ getCells H' H.length 0 = some [V.int .i64 t.k, .str t.s, .int .i64 t.n, .int .i64 t.ln, .int .i64 t.co, .bool t.md] ∧
      ∃ r2 H2, T Try.prog 38 [.ptr 0 0 0, .int .i64 0, .int .i64 t.co] H' r2 H2 ∧ ∀ E, K .ret ⟨(4, .bool true) :: E, .u⟩ H2) ∧
      (¬ (colF s.fs < t.co) → ∃ r H', T Try.prog 27 [.ptr 0 0 0, .str [123]] H1 r H' ∧ ∃ r2 H2, T Try.prog 27 [.ptr 0 0 0, .str [125]] H' r2 H2 ∧ ∀ E, K .ret ⟨(4, .bool false) :: E, .u⟩ H2) := by
    intro hM
    obtain ⟨x, H2, hT, rfl, hL2, hg2⟩ := hmake
    refine ⟨fun hc => ⟨_, H2, hT, hg2.keep _ _ _ hH0 hq hnew1, ?_⟩, fun hc => ⟨_, H2, hT, ?_⟩⟩
    · obtain ⟨y, H3, hT3, rfl, q', hL3, hg3⟩ := push_T hL2 (by simp only; omega) ⟨0, t.co⟩
      refine ⟨_, H3, hT3, fun E => ?_⟩
      have e : startsS s t = (true, ⟨s.out ++ [mkT bOpen t.ln t.co], ⟨0, t.co⟩ :: s.fs, false⟩) := by unfold startsS; rw [hM, if_neg (by simp), if_pos hc]
      have := hKK q' H3 E (by rw [e]; simp only; rw [hln, hco] at *; exact hL3) ((hg1.trans hg2).trans hg3)
      rw [e] at this; exact this
    · obtain ⟨y, H3, hT3, rfl, hL3, hg3⟩ := make_T hL2 (by simp only [List.length_append, List.length_cons, List.length_nil]; omega) bShut
      refine ⟨_, H3, hT3, fun E => ?_⟩
      have e : startsS s t = (false, ⟨s.out ++ [mkT bOpen t.ln t.co, mkT bShut t.ln t.co], s.fs, false⟩) := by unfold startsS; rw [hM, if_neg (by simp), if_neg hc]
      have := hKK q H3 E (by rw [e]; simp only; rw [hln, hco] at *; simpa using hL3) ((hg1.trans hg2).trans hg3)
      rw [e] at this; exact this
  by_cases k5 : t.k = 5
  · have e5 : (t.k == 5) = true := by rw [k5]; rfl
    by_cases s1 : t.s = [123]
    · have f1 : (t.s == [123]) = true := by rw [s1]; rfl
      have hM : isM t bOpen = true := by simp [isM, k5, s1, bOpen]
      simp only [go_sem, ↓reduceIte, ↓hnew1, e5, f1]
      have e : startsS s t = (true, { s with due := false }) := by unfold startsS; rw [hM, if_pos rfl]
      have := hKK q H1 [] (by rw [e]; exact k1) hg1
      rw [e] at this; exact this
    · have f1 : (t.s == [123]) = false := by simpa using s1
      have hn := hno (by simp [isM, k5, s1, bOpen])
      simp only [go_sem, ↓reduceIte, ↓hnew1, e5, f1]
      refine ⟨_, hcol, ?_⟩
      simp only [go_sem, ↓reduceIte]
      refine ⟨fun hgt => ?_, fun hngt => ?_⟩
      · obtain ⟨r, H', hT, hn1, r2, H2, hT2, hk⟩ := hn.1 hgt
        refine ⟨r, H', hT, ?_⟩
        simp only [go_sem, ↓reduceIte, ↓hn1]
        exact ⟨r2, H2, hT2, hk []⟩
      · obtain ⟨r, H', hT, r2, H2, hT2, hk⟩ := hn.2 hngt
        exact ⟨r, H', hT, r2, H2, hT2, hk []⟩
  · have e5 : (t.k == 5) = false := by simpa using k5
    have hn := hno (by simp [isM, k5])
    simp only [go_sem, ↓reduceIte, ↓hnew1, e5]
    refine ⟨_, hcol, ?_⟩
    simp only [go_sem, ↓reduceIte]
    refine ⟨fun hgt => ?_, fun hngt => ?_⟩
    · obtain ⟨r, H', hT, hn1, r2, H2, hT2, hk⟩ := hn.1 hgt
      refine ⟨r, H', hT, ?_⟩
      simp only [go_sem, ↓reduceIte, ↓hn1]
      exact ⟨r2, H2, hT2, hk []⟩
    · obtain ⟨r, H', hT, r2, H2, hT2, hk⟩ := hn.2 hngt
      exact ⟨r, H', hT, r2, H2, hT2, hk []⟩

theorem drop_lt : ∀ {fs : List Fm}, inLaid fs = true → (dropF fs).length < fs.length
  | [], h => by cases h
  | f :: fs, h => by
    rw [inLaid] at h
    rw [dropF]
    split at h
    · rename_i hb
      rw [if_pos hb]; simp
    · rename_i hb
      rw [if_neg hb]
      have := drop_lt h
      simp; omega
theorem begF_fuel (co : Int) : ∀ (n m : Nat) (fs : List Fm), fs.length ≤ n → fs.length ≤ m → begF co n fs = begF co m fs
  | 0, 0, _, _, _ => rfl
  | 0, m + 1, fs, h, _ => by
    have : fs = [] := List.eq_nil_of_length_eq_zero (by omega)
    subst this; rfl
  | n + 1, 0, fs, _, h => by
    have : fs = [] := List.eq_nil_of_length_eq_zero (by omega)
    subst this; rfl
  | n + 1, m + 1, fs, h1, h2 => by
    rw [begF, begF]
    cases hi : inLaid fs with
    | false => rfl
    | true =>
      have := drop_lt hi
      rw [begF_fuel co n m (dropF fs) (by omega) (by omega)]
theorem begF_step {co : Int} {fs : List Fm} (hi : inLaid fs = true) (hc : co < colF fs) : begF co fs.length fs = ((begF co (dropF fs).length (dropF fs)).1 + 1, (begF co (dropF fs).length (dropF fs)).2) := by
  have hlt := drop_lt hi
  obtain ⟨n, hn⟩ : ∃ n, fs.length = n + 1 := ⟨fs.length - 1, by omega⟩
  rw [hn, begF, hi, decide_eq_true hc, begF_fuel co n (dropF fs).length (dropF fs) (by omega) (Nat.le_refl _)]
  rfl
theorem begF_stop {co : Int} {fs : List Fm} (h : ¬ (inLaid fs = true ∧ co < colF fs)) : begF co fs.length fs = (0, fs) := by
  cases hn : fs.length with
  | zero => rfl
  | succ n =>
    rw [begF, if_neg]
    simpa using h

theorem begins_T {H : Heap} {s : LS} {ln co : Int} {q : Option Nat} (h : Lyr H s ln co q) (ho : s.out.length + s.fs.length ≤ 900000000) (t : Tok) (hln : t.ln = ln) (hco : t.co = co) :
    ∃ x H', T Try.prog 24 [.ptr 0 0 0, .agg (tokC t)] H x H' ∧ x = .tup [] ∧ Lyr H' (begS s t) ln co q ∧ Grow H q H' q := by
  refine T.of_all mix c24 rfl ?_
  have hlt := h.pos
  have hH0 : H.length ≠ 0 := by omega
  have hq := h.q_ne (Nat.le_refl _)
  generalize hK : endY _ _ _ = K
  unfold v24 tokC
  have hL := h.local [.cells 0 (tokC t)]
  have hg : Grow H q (H ++ [.cells 0 (tokC t)]) q := Grow.local (tok_ids _ t)
  have hnew : getCells (H ++ [.cells 0 [V.int .i64 t.k, .str t.s, .int .i64 t.n, .int .i64 t.ln, .int .i64 t.co, .bool t.md]]) H.length 0 = some [V.int .i64 t.k, .str t.s, .int .i64 t.n, .int .i64 t.ln, .int .i64 t.co, .bool t.md] := gc_new
  unfold tokC at hL hg
  simp only [go_sem, ↓reduceIte]
  refine WP.loop' (fun m E H1 => ∃ s1 ex, Lyr H1 s1 ln co q ∧ Grow H q H1 q ∧ getCells H1 H.length 0 = some [V.int .i64 t.k, .str t.s, .int .i64 t.n, .int .i64 t.ln, .int .i64 t.co, .bool t.md] ∧ s1.due = s.due ∧ s1.out.length + s1.fs.length ≤ 900000000 ∧ m = s1.fs.length ∧
      s1.out ++ List.replicate (begF t.co s1.fs.length s1.fs).1 (mkT bShut t.ln t.co) = s.out ++ List.replicate (begF t.co s.fs.length s.fs).1 (mkT bShut t.ln t.co) ∧ (begF t.co s1.fs.length s1.fs).2 = (begF t.co s.fs.length s.fs).2 ∧
      E = ⟨(0, .ptr 0 0 0) :: (3, .ptr H.length 0 0) :: ex, .u⟩) (n := s.fs.length)
    ⟨s, [], hL, hg, hnew, rfl, ho, rfl, rfl, rfl, rfl⟩ ?_
  rintro m E H1 ⟨s1, ex, hL1, hg1, hn1, hdue, hlen, rfl, hout, hfs, rfl⟩
  have hin := inLaid_T hL1 (by omega)
  have hcol := column_T hL1 (by omega)
  have hblk := block_T hL1 (by omega)
  have hmake := make_T hL1 (by omega) bSemi
  have hL10 := hL1
  obtain ⟨fv, j1, j2⟩ := hL1
  -- what is behind the loop
  have hend : ¬ (inLaid s1.fs = true ∧ t.co < colF s1.fs) → s1.out = s.out ++ List.replicate (begF t.co s.fs.length s.fs).1 (mkT bShut t.ln t.co) ∧ s1.fs = (begF t.co s.fs.length s.fs).2 := by
    intro hstop
    rw [begF_stop hstop] at hout hfs
    exact ⟨by simpa using hout, hfs⟩
  have hfinN : ¬ (inLaid s1.fs = true ∧ t.co < colF s1.fs) → (inLaid s1.fs && colF s1.fs == t.co) = false → ∀ E, K .normal E H1 := by
    intro hstop hb E
    obtain ⟨e1, e2⟩ := hend hstop
    rw [← hK]
    have e : begS s t = s1 := by
      unfold begS
      simp only
      rw [← e2, hb, ← e1]
      simp [← hdue]
    exact endY_nil trivial hg1 ⟨rfl, by rw [e]; exact hL10, hg1⟩
  have hfinY : ¬ (inLaid s1.fs = true ∧ t.co < colF s1.fs) → (inLaid s1.fs && colF s1.fs == t.co) = true → ∃ r H', T Try.prog 27 [.ptr 0 0 0, .str [59]] H1 r H' ∧ ∀ E, K .normal E H' := by
    intro hstop hb
    obtain ⟨e1, e2⟩ := hend hstop
    obtain ⟨x, H2, hT, rfl, hL2, hg2⟩ := hmake
    refine ⟨_, H2, hT, fun E => ?_⟩
    rw [← hK]
    have e : begS s t = { s1 with out := s1.out ++ [mkT bSemi ln co] } := by
      unfold begS
      simp only
      rw [← e2, hb, ← e1, hln, hco]
      simp [← hdue]
    exact endY_nil trivial (hg1.trans hg2) ⟨rfl, by rw [e]; exact hL2, hg1.trans hg2⟩
  simp only [go_sem, ↓reduceIte]
  refine ⟨_, hin, ?_⟩
  cases hi : inLaid s1.fs with
  | false =>
    have hs1 : ¬ (inLaid s1.fs = true ∧ t.co < colF s1.fs) := by rw [hi]; simp
    simp only [go_sem, ↓reduceIte]
    rw [hi] at hin
    refine ⟨_, hin, ?_⟩
    simp only [go_sem, ↓reduceIte]
    exact hfinN hs1 (by rw [hi]; rfl) _
  | true =>
    simp only [go_sem, ↓reduceIte]
    refine ⟨_, hcol, ?_⟩
    simp only [go_sem, ↓reduceIte, ↓hn1]
    rw [hi] at hin
    refine ⟨fun hgt => ?_, fun hngt => ?_⟩
    · rcases blk_split s1.fs with ⟨_, _, e3⟩ | ⟨pre, f, r, e0, e1, e2, e3, e4, e5⟩
      · rw [e3] at hi; cases hi
      · cases q with
        | none => rw [j2.1] at e0; simp at e0
        | some k =>
          obtain ⟨hk0, ver, rest, rfl, j3⟩ := j2
          have hl : s1.fs.length = pre.length + 1 + r.length := by rw [e0]; simp; omega
          have hp := Lyr.pop (s := s1) j1 hk0 j3 (pre := pre ++ [f]) (r := r) (by rw [e0]; simp) rfl ln co
          obtain ⟨x, H2, hT, rfl, hL2, hg2⟩ := make_T hp.1 (by simp only; omega) bShut
          rw [e1] at hblk
          simp only [go_sem, ↓reduceIte, ↓j1]
          refine ⟨_, hblk, ?_⟩
          simp only [go_sem, ↓reduceIte, ↓j1, Int.toNat_natCast]
          refine ⟨⟨by omega, by omega⟩, _, H2, hT, ?_⟩
          have hstep := begF_step hi hgt
          rw [e5] at hstep
          refine ⟨r.length, by omega, _, [], hL2, (hg1.trans hp.2).trans hg2, (hp.2.trans hg2).keep _ _ _ hH0 hq hn1, hdue, ?_, rfl, ?_, ?_, rfl⟩
          · simp only [List.length_append, List.length_cons, List.length_nil]; omega
          · rw [← hout, hstep]
            simp only
            rw [List.append_assoc, List.replicate_succ, hln, hco]; rfl
          · rw [← hfs, hstep]
    · have hs1 : ¬ (inLaid s1.fs = true ∧ t.co < colF s1.fs) := fun h => hngt h.2
      refine ⟨_, hin, ?_⟩
      simp only [go_sem, ↓reduceIte]
      refine ⟨_, hcol, ?_⟩
      simp only [go_sem, ↓reduceIte, ↓hn1]
      refine ⟨fun he => ?_, fun hne => ?_⟩
      · obtain ⟨r, H', hT, hk⟩ := hfinY hs1 (by rw [hi, he]; rfl)
        exact ⟨r, H', hT, hk _⟩
      · exact hfinN hs1 (by rw [hi, hne]; rfl) _
end Go.Proofs.Ytdmnacjpgaopfaa.Vm
namespace Go.Proofs.Ytdmnacjpgaopfaa.Vm
open Go

theorem set_last {H : Heap} {a b : Obj} : (H ++ [a]).set H.length b = H ++ [b] := by
  rw [List.set_append_right _ _ (Nat.le_refl _), Nat.sub_self]; rfl
def prevOf : Option Int → List Tok → Option Int
  | p, [] => p
  | _, t :: l => prevOf (some t.ln) l
theorem prevOf_snoc : ∀ (a : List Tok) (p : Option Int) (t : Tok), prevOf p (a ++ [t]) = some t.ln
  | [], _, _ => rfl
  | u :: a, _, t => prevOf_snoc a _ t
theorem runS_snoc : ∀ (a : List Tok) (s : LS) (p : Option Int) (t : Tok), runS s p (a ++ [t]) = stepS (runS s p a) t (prevOf p a != some t.ln)
  | [], _, _, _ => rfl
  | u :: a, s, p, t => by rw [List.cons_append, runS, runS, runS_snoc a, prevOf]
theorem lastAt_snoc : ∀ (a : List Tok) (p : Int × Int) (t : Tok), lastAt p (a ++ [t]) = (t.ln, t.co)
  | [], _, _ => rfl
  | u :: a, _, t => lastAt_snoc a _ t
theorem step_due {s : LS} {t : Tok} (b : Bool) (h : s.due = true) : stepS s t b = opensS { (closesS (begI (b && !(startsS s t).1) (startsS s t).2 t) t) with out := (closesS (begI (b && !(startsS s t).1) (startsS s t).2 t) t).out ++ [t] } t := by
  unfold stepS startsS
  rw [if_pos h]
  split
  · simp [begI, tellS, opensS]
  · split
    · simp [begI, tellS, opensS]
    · simp [tellS, opensS]
theorem step_not {s : LS} {t : Tok} (b : Bool) (h : s.due = false) : stepS s t b = opensS { (closesS (begI b s t) t) with out := (closesS (begI b s t) t).out ++ [t] } t := by
  unfold stepS
  rw [if_neg (by rw [h]; simp)]
  rfl
def sz (s : LS) : Nat := s.out.length + s.fs.length
theorem closeF_len {w : Nat} {b : List Nat} : ∀ {fs : List Fm} {n : Nat} {r : List Fm}, closeF w b fs = some (n, r) → n + r.length ≤ fs.length
  | [], _, _, h => by cases h
  | f :: fs, n, r, h => by
    rw [closeF] at h
    split at h
    · cases h; simp
    · split at h
      · cases h
      · obtain ⟨⟨n', r'⟩, h1, h2⟩ := Option.map_eq_some_iff.1 h
        cases h2
        have := closeF_len h1
        simp only [List.length_cons]
        split <;> omega
theorem sz_closes (s : LS) (t : Tok) : sz (closesS s t) ≤ sz s := by
  unfold closesS
  split
  · exact Nat.le_refl _
  · split
    · exact Nat.le_refl _
    · rename_i h
      have := closeF_len h
      simp only [sz, List.length_append, List.length_replicate]; omega
theorem begF_len (co : Int) : ∀ (n : Nat) (fs : List Fm), (begF co n fs).1 + (begF co n fs).2.length ≤ fs.length
  | 0, fs => by simp [begF]
  | n + 1, fs => by
    rw [begF]
    split
    · rename_i h
      simp only [Bool.and_eq_true] at h
      have h1 := begF_len co n (dropF fs)
      have h2 := drop_lt h.1
      simp only; omega
    · simp
theorem sz_begI (b : Bool) (s : LS) (t : Tok) : sz (begI b s t) ≤ sz s + 1 := by
  unfold begI
  split
  · unfold begS
    have := begF_len t.co s.fs.length s.fs
    simp only [sz, List.length_append, List.length_replicate]
    split <;> simp <;> omega
  · omega
theorem sz_starts (s : LS) (t : Tok) : sz (startsS s t).2 ≤ sz s + 2 := by
  unfold startsS
  split
  · simp [sz]
  · split <;> simp [sz] <;> omega
theorem sz_opens (s : LS) (t : Tok) : sz (opensS s t) ≤ sz s + 1 := by
  unfold opensS pushF sz
  split <;> simp <;> omega
theorem sz_step (s : LS) (t : Tok) (b : Bool) : sz (stepS s t b) ≤ sz s + 5 := by
  cases h : s.due with
  | true =>
    rw [step_due b h]
    have h1 := sz_starts s t
    have h2 := sz_begI (b && !(startsS s t).1) (startsS s t).2 t
    have h3 := sz_closes (begI (b && !(startsS s t).1) (startsS s t).2 t) t
    have h4 := sz_opens { (closesS (begI (b && !(startsS s t).1) (startsS s t).2 t) t) with out := (closesS (begI (b && !(startsS s t).1) (startsS s t).2 t) t).out ++ [t] } t
    have h5 : sz { (closesS (begI (b && !(startsS s t).1) (startsS s t).2 t) t) with out := (closesS (begI (b && !(startsS s t).1) (startsS s t).2 t) t).out ++ [t] } = sz (closesS (begI (b && !(startsS s t).1) (startsS s t).2 t) t) + 1 := by simp [sz]; omega
    omega
  | false =>
    rw [step_not b h]
    have h2 := sz_begI b s t
    have h3 := sz_closes (begI b s t) t
    have h4 := sz_opens { (closesS (begI b s t) t) with out := (closesS (begI b s t) t).out ++ [t] } t
    have h5 : sz { (closesS (begI b s t) t) with out := (closesS (begI b s t) t).out ++ [t] } = sz (closesS (begI b s t) t) + 1 := by simp [sz]; omega
    omega
theorem sz_run : ∀ (l : List Tok) (s : LS) (p : Option Int), sz (runS s p l) ≤ sz s + 5 * l.length
  | [], s, p => by simp [runS]
  | t :: l, s, p => by
    rw [runS]
    have h1 := sz_run l (stepS s t (p != some t.ln)) (some t.ln)
    have h2 := sz_step s t (p != some t.ln)
    simp only [List.length_cons]; omega
theorem Lyr.tok {H : Heap} {s : LS} {ln co : Int} {q : Option Nat} (h : Lyr H s ln co q) (t : Tok) : getCells (H ++ [.cells 0 (tokC t)]) H.length 0 = some (tokC t) := gc_new

theorem Grow.ne {A B : Heap} {q r : Option Nat} (h : Grow A q B r) {j : Nat} (hq : q ≠ some j) (hj : j < A.length) : r ≠ some j := by
  rcases h.qs with e | ⟨_, k, e, hk⟩
  · rw [e]; exact hq
  · rw [e]; intro e2; cases e2; omega
theorem lay_T (o : Bool) (l : List Tok) (hl : l.length ≤ 100000000) : ∃ r H', T Try.prog 14 [toksV o l] [] r H' ∧ r = toksV false (layL l) ∧ H' = [] := by
  refine T.of_ex mix c14 0 rfl ?_
  generalize hK : endX _ _ _ _ = K
  unfold v14
  simp only [go_sem, ↓reduceIte, toksV]
  refine WP.loop' (fun m E H => ∃ i ln co q line ex, i + m = l.length ∧ Lyr H (runS s0 none (l.take i)) ln co q ∧ (ln, co) = lastAt (1, 1) (l.take i) ∧ (i = 0 ∨ prevOf none (l.take i) = some line) ∧
      E = ⟨(3, .ptr 0 0 0) :: (4, .int .i64 line) :: (12, toksV o l) :: (13, .int .i64 l.length) :: (14, .int .i64 i) :: ex, .u⟩) (n := l.length)
    ⟨0, 1, 1, none, 0, [], by omega, ⟨.nilh 2, rfl, rfl, rfl⟩, rfl, .inl rfl, by simp [toksV]⟩ ?_
  rintro m E H ⟨i, ln, co, q, line, ex, hi, hL, hat, hprev, rfl⟩
  have hsz := sz_run (l.take i) s0 none
  have hs0 : sz s0 = 0 := rfl
  rw [List.length_take, hs0] at hsz
  have hwi := inc64 (i := i) (by omega)
  have hlt := hL.pos
  by_cases hil : i < l.length
  · obtain ⟨t, ht⟩ : ∃ t, l[i]? = some t := ⟨_, List.getElem?_eq_getElem hil⟩
    have htk : l.take (i + 1) = l.take i ++ [t] := by rw [List.take_add_one, ht]; rfl
    have hT0 := hL.local [.cells 0 (tokC t)]
    have hg0 : Grow H q (H ++ [.cells 0 (tokC t)]) q := Grow.local (tok_ids _ t)
    have hn0 := hL.tok t
    have hH0 : H.length ≠ 0 := by omega
    have hq := hL.q_ne (Nat.le_refl _)
    generalize hs : runS s0 none (l.take i) = s at hL hT0 hsz
    obtain ⟨fv, j1, j2⟩ := hT0
    obtain ⟨k1, k2⟩ := Lyr.turn j1 j2 s rfl t.ln t.co
    have hn1 : getCells ((H ++ [Obj.cells 0 (tokC t)]).set 0 (.cells 0 [toksV true s.out, fv, .bool s.due, .int .i64 t.ln, .int .i64 t.co])) H.length 0 = some (tokC t) := by rw [gc_ne (by omega)]; exact hn0
    simp only [go_sem, ↓reduceIte, ↓ex_map, toksV, Int.toNat_natCast, ↓run_addW, hwi]
    refine ⟨fun _ => ⟨by omega, t, ht, ?_⟩, fun h => absurd h (by omega)⟩
    simp only [tokC] at j1 hn0 hn1 k1 k2
    simp only [go_sem, ↓reduceIte, ↓ex_map, toksV, Int.toNat_natCast, tokC, ↓gc_new, set_last, ↓j1, ↓hn0]
    have hg1 := hg0.trans k2
    simp only [toksV] at hn1 k1 k2 hg1
    have kl := gc_same (cs := [V.sl true 6 (s.out.map tokC), fv, .bool s.due, .int .i64 t.ln, .int .i64 t.co]) (v := 0) (gc_lt j1)
    have hH1 : H.length < ((H ++ [Obj.cells 0 [V.int .i64 t.k, .str t.s, .int .i64 t.n, .int .i64 t.ln, .int .i64 t.co, .bool t.md]]).set 0 (.cells 0 [V.sl true 6 (s.out.map tokC), fv, .bool s.due, .int .i64 t.ln, .int .i64 t.co])).length := by simp
    generalize ((H ++ [Obj.cells 0 [V.int .i64 t.k, .str t.s, .int .i64 t.n, .int .i64 t.ln, .int .i64 t.co, .bool t.md]]).set 0 (.cells 0 [V.sl true 6 (s.out.map tokC), fv, .bool s.due, .int .i64 t.ln, .int .i64 t.co])) = H1 at hn1 k1 hg1 kl hH1
    obtain ⟨first, hfirst⟩ : ∃ first, first = (prevOf none (l.take i) != some t.ln) := ⟨_, rfl⟩
    have hpl : i ≠ 0 → first = (t.ln != line) := by
      intro h0
      rcases hprev with h | h
      · exact absurd h h0
      · rw [hfirst, h, Bool.eq_iff_iff]; simp
        exact ⟨fun h e => h e.symm, fun h e => h e.symm⟩
    by_cases hi0 : i = 0
    · have e0 : (((i : Nat) : Int) == 0) = true := by rw [hi0]; rfl
      have hft : first = true := by rw [hfirst, hi0]; rfl
      subst hft
      simp only [go_sem, ↓reduceIte, e0, ↓hn1]
      cases hdue : s.due with
      | true =>
        obtain ⟨x2, H2, hT2, rfl, q2, hL2, hg2⟩ := starts_T k1 (by unfold sz at hsz; omega) t rfl rfl
        have hn2 := hg2.keep _ _ _ hH0 hq hn1
        have hb2 := sz_starts s t
        have hstep := step_due (s := s) (t := t) true hdue
        simp only [tokC] at hT2
        rw [hdue] at kl
        simp only [go_sem, ↓reduceIte, ↓kl, ↓hn1]
        refine ⟨_, H2, hT2, ?_⟩
        generalize hst : startsS s t = st at hT2 hL2 hb2 hstep
        obtain ⟨sb, s2⟩ := st
        cases sb with
        | true =>
          have hb2 : sz s2 ≤ sz s + 2 := hb2
          simp only [go_sem, ↓reduceIte, ↓hn2]
          have hstep : stepS s t true = opensS { (closesS s2 t) with out := (closesS s2 t).out ++ [t] } t := hstep
          have hB3 : sz (s2) ≤ 600000000 := by omega
          obtain ⟨x4, H4, hT4, rfl, hL4, hg4⟩ := closes_T hL2 (Nat.le_trans hB3 (by decide)) t rfl rfl
          refine ⟨_, H4, hT4, ?_⟩
          have hq3 := Grow.ne hg2 hq hH1
          have hn4 := hg4.keep _ _ _ hH0 hq3 hn2
          have hgr4 := hg2.trans hg4
          have hb4 := sz_closes (s2) t
          generalize hs4 : closesS (s2) t = s4 at hL4 hb4
          obtain ⟨fv4, j41, j42⟩ := hL4
          obtain ⟨k41, k42⟩ := Lyr.turn j41 j42 { s4 with out := s4.out ++ [t] } rfl t.ln t.co
          have hn5 : getCells (H4.set 0 (.cells 0 [toksV true (s4.out ++ [t]), fv4, .bool s4.due, .int .i64 t.ln, .int .i64 t.co])) H.length 0 = _ := (gc_ne (Ne.symm hH0)).trans hn4
          have hes := toks_snoc s4.out t
          simp only [tokC] at hes
          obtain ⟨x6, H6, hT6, rfl, q6, hL6, hg6⟩ := opens_T k41 (by simp only [List.length_append, List.length_cons, List.length_nil]; unfold sz at hb4 hB3; omega) t
          simp only [tokC] at hT6
          simp only [go_sem, ↓reduceIte, ↓j41, toksV, ↓gc_same (gc_lt j41), ↓gc_ne (Ne.symm hH0), ↓hn4, List.set_set, run_buildSlG, elems_agg, exX_some, List.length_map, ↓run_addW, hwi]
          refine ⟨by unfold sz at hb4 hB3; simp [fits]; omega, ?_⟩
          rw [hes]
          try simp only [go_sem, ↓reduceIte, ↓gc_ne (Ne.symm hH0), ↓hn4, ↓run_addW, hwi]
          refine ⟨_, H6, hT6, ?_⟩
          try simp only [go_sem, ↓reduceIte, ↓run_addW, hwi]
          refine ⟨m - 1, by omega, i + 1, t.ln, t.co, q6, t.ln, [], by omega, ?_, ?_, .inr ?_, rfl⟩
          · rw [htk, runS_snoc, hs, ← hfirst, hstep, hs4]; exact hL6
          · rw [htk, lastAt_snoc]
          · rw [htk, prevOf_snoc]
        | false =>
          have hb2 : sz s2 ≤ sz s + 2 := hb2
          obtain ⟨x3, H3, hT3, rfl, hL3, hg3⟩ := begins_T hL2 (by unfold sz at hb2 hsz; simp only; omega) t rfl rfl
          have hn3 := hg3.keep _ _ _ hH0 (Grow.ne hg2 hq hH1) hn2
          have hb3 : sz (begS s2 t) ≤ sz s2 + 1 := sz_begI true s2 t
          have hgr3 := hg2.trans hg3
          have hstep : stepS s t true = opensS { (closesS (begS s2 t) t) with out := (closesS (begS s2 t) t).out ++ [t] } t := hstep
          simp only [tokC] at hT3
          simp only [go_sem, ↓reduceIte, ↓hn2]
          refine ⟨_, H3, hT3, ?_⟩
          simp only [go_sem, ↓reduceIte, ↓hn3]
          have hB3 : sz (begS s2 t) ≤ 600000000 := by omega
          obtain ⟨x4, H4, hT4, rfl, hL4, hg4⟩ := closes_T hL3 (Nat.le_trans hB3 (by decide)) t rfl rfl
          refine ⟨_, H4, hT4, ?_⟩
          have hq3 := Grow.ne hgr3 hq hH1
          have hn4 := hg4.keep _ _ _ hH0 hq3 hn3
          have hgr4 := hgr3.trans hg4
          have hb4 := sz_closes (begS s2 t) t
          generalize hs4 : closesS (begS s2 t) t = s4 at hL4 hb4
          obtain ⟨fv4, j41, j42⟩ := hL4
          obtain ⟨k41, k42⟩ := Lyr.turn j41 j42 { s4 with out := s4.out ++ [t] } rfl t.ln t.co
          have hn5 : getCells (H4.set 0 (.cells 0 [toksV true (s4.out ++ [t]), fv4, .bool s4.due, .int .i64 t.ln, .int .i64 t.co])) H.length 0 = _ := (gc_ne (Ne.symm hH0)).trans hn4
          have hes := toks_snoc s4.out t
          simp only [tokC] at hes
          obtain ⟨x6, H6, hT6, rfl, q6, hL6, hg6⟩ := opens_T k41 (by simp only [List.length_append, List.length_cons, List.length_nil]; unfold sz at hb4 hB3; omega) t
          simp only [tokC] at hT6
          simp only [go_sem, ↓reduceIte, ↓j41, toksV, ↓gc_same (gc_lt j41), ↓gc_ne (Ne.symm hH0), ↓hn4, List.set_set, run_buildSlG, elems_agg, exX_some, List.length_map, ↓run_addW, hwi]
          refine ⟨by unfold sz at hb4 hB3; simp [fits]; omega, ?_⟩
          rw [hes]
          try simp only [go_sem, ↓reduceIte, ↓gc_ne (Ne.symm hH0), ↓hn4, ↓run_addW, hwi]
          refine ⟨_, H6, hT6, ?_⟩
          try simp only [go_sem, ↓reduceIte, ↓run_addW, hwi]
          refine ⟨m - 1, by omega, i + 1, t.ln, t.co, q6, t.ln, [], by omega, ?_, ?_, .inr ?_, rfl⟩
          · rw [htk, runS_snoc, hs, ← hfirst, hstep, hs4]; exact hL6
          · rw [htk, lastAt_snoc]
          · rw [htk, prevOf_snoc]
      | false =>
        have hstep := step_not (s := s) (t := t) true hdue
        have hgr1 := Grow.refl H1 q
        rw [hdue] at kl
        obtain ⟨x3, H3, hT3, rfl, hL3, hg3⟩ := begins_T k1 (by unfold sz at hsz; omega) t rfl rfl
        have hn3 := hg3.keep _ _ _ hH0 hq hn1
        have hb3 : sz (begS s t) ≤ sz s + 1 := sz_begI true s t
        have hstep : stepS s t true = opensS { (closesS (begS s t) t) with out := (closesS (begS s t) t).out ++ [t] } t := hstep
        simp only [tokC] at hT3
        simp only [go_sem, ↓reduceIte, ↓kl, ↓hn1]
        refine ⟨_, H3, hT3, ?_⟩
        simp only [go_sem, ↓reduceIte, ↓hn3]
        have hB3 : sz (begS s t) ≤ 600000000 := by omega
        obtain ⟨x4, H4, hT4, rfl, hL4, hg4⟩ := closes_T hL3 (Nat.le_trans hB3 (by decide)) t rfl rfl
        refine ⟨_, H4, hT4, ?_⟩
        have hq3 := Grow.ne hg3 hq hH1
        have hn4 := hg4.keep _ _ _ hH0 hq3 hn3
        have hgr4 := hg3.trans hg4
        have hb4 := sz_closes (begS s t) t
        generalize hs4 : closesS (begS s t) t = s4 at hL4 hb4
        obtain ⟨fv4, j41, j42⟩ := hL4
        obtain ⟨k41, k42⟩ := Lyr.turn j41 j42 { s4 with out := s4.out ++ [t] } rfl t.ln t.co
        have hn5 : getCells (H4.set 0 (.cells 0 [toksV true (s4.out ++ [t]), fv4, .bool s4.due, .int .i64 t.ln, .int .i64 t.co])) H.length 0 = _ := (gc_ne (Ne.symm hH0)).trans hn4
        have hes := toks_snoc s4.out t
        simp only [tokC] at hes
        obtain ⟨x6, H6, hT6, rfl, q6, hL6, hg6⟩ := opens_T k41 (by simp only [List.length_append, List.length_cons, List.length_nil]; unfold sz at hb4 hB3; omega) t
        simp only [tokC] at hT6
        simp only [go_sem, ↓reduceIte, ↓j41, toksV, ↓gc_same (gc_lt j41), ↓gc_ne (Ne.symm hH0), ↓hn4, List.set_set, run_buildSlG, elems_agg, exX_some, List.length_map, ↓run_addW, hwi]
        refine ⟨by unfold sz at hb4 hB3; simp [fits]; omega, ?_⟩
        rw [hes]
        try simp only [go_sem, ↓reduceIte, ↓gc_ne (Ne.symm hH0), ↓hn4, ↓run_addW, hwi]
        refine ⟨_, H6, hT6, ?_⟩
        try simp only [go_sem, ↓reduceIte, ↓run_addW, hwi]
        refine ⟨m - 1, by omega, i + 1, t.ln, t.co, q6, t.ln, [], by omega, ?_, ?_, .inr ?_, rfl⟩
        · rw [htk, runS_snoc, hs, ← hfirst, hstep, hs4]; exact hL6
        · rw [htk, lastAt_snoc]
        · rw [htk, prevOf_snoc]
    · have e0 : (((i : Nat) : Int) == 0) = false := by simp; omega
      have e1 := (hpl hi0).symm
      cases first with
      | true =>
        simp only [go_sem, ↓reduceIte, e0, e1, ↓hn1]
        cases hdue : s.due with
        | true =>
          obtain ⟨x2, H2, hT2, rfl, q2, hL2, hg2⟩ := starts_T k1 (by unfold sz at hsz; omega) t rfl rfl
          have hn2 := hg2.keep _ _ _ hH0 hq hn1
          have hb2 := sz_starts s t
          have hstep := step_due (s := s) (t := t) true hdue
          simp only [tokC] at hT2
          rw [hdue] at kl
          simp only [go_sem, ↓reduceIte, ↓kl, ↓hn1]
          refine ⟨_, H2, hT2, ?_⟩
          generalize hst : startsS s t = st at hT2 hL2 hb2 hstep
          obtain ⟨sb, s2⟩ := st
          cases sb with
          | true =>
            have hb2 : sz s2 ≤ sz s + 2 := hb2
            simp only [go_sem, ↓reduceIte, ↓hn2]
            have hstep : stepS s t true = opensS { (closesS s2 t) with out := (closesS s2 t).out ++ [t] } t := hstep
            have hB3 : sz (s2) ≤ 600000000 := by omega
            obtain ⟨x4, H4, hT4, rfl, hL4, hg4⟩ := closes_T hL2 (Nat.le_trans hB3 (by decide)) t rfl rfl
            refine ⟨_, H4, hT4, ?_⟩
            have hq3 := Grow.ne hg2 hq hH1
            have hn4 := hg4.keep _ _ _ hH0 hq3 hn2
            have hgr4 := hg2.trans hg4
            have hb4 := sz_closes (s2) t
            generalize hs4 : closesS (s2) t = s4 at hL4 hb4
            obtain ⟨fv4, j41, j42⟩ := hL4
            obtain ⟨k41, k42⟩ := Lyr.turn j41 j42 { s4 with out := s4.out ++ [t] } rfl t.ln t.co
            have hn5 : getCells (H4.set 0 (.cells 0 [toksV true (s4.out ++ [t]), fv4, .bool s4.due, .int .i64 t.ln, .int .i64 t.co])) H.length 0 = _ := (gc_ne (Ne.symm hH0)).trans hn4
            have hes := toks_snoc s4.out t
            simp only [tokC] at hes
            obtain ⟨x6, H6, hT6, rfl, q6, hL6, hg6⟩ := opens_T k41 (by simp only [List.length_append, List.length_cons, List.length_nil]; unfold sz at hb4 hB3; omega) t
            simp only [tokC] at hT6
            simp only [go_sem, ↓reduceIte, ↓j41, toksV, ↓gc_same (gc_lt j41), ↓gc_ne (Ne.symm hH0), ↓hn4, List.set_set, run_buildSlG, elems_agg, exX_some, List.length_map, ↓run_addW, hwi]
            refine ⟨by unfold sz at hb4 hB3; simp [fits]; omega, ?_⟩
            rw [hes]
            try simp only [go_sem, ↓reduceIte, ↓gc_ne (Ne.symm hH0), ↓hn4, ↓run_addW, hwi]
            refine ⟨_, H6, hT6, ?_⟩
            try simp only [go_sem, ↓reduceIte, ↓run_addW, hwi]
            refine ⟨m - 1, by omega, i + 1, t.ln, t.co, q6, t.ln, [], by omega, ?_, ?_, .inr ?_, rfl⟩
            · rw [htk, runS_snoc, hs, ← hfirst, hstep, hs4]; exact hL6
            · rw [htk, lastAt_snoc]
            · rw [htk, prevOf_snoc]
          | false =>
            have hb2 : sz s2 ≤ sz s + 2 := hb2
            obtain ⟨x3, H3, hT3, rfl, hL3, hg3⟩ := begins_T hL2 (by unfold sz at hb2 hsz; simp only; omega) t rfl rfl
            have hn3 := hg3.keep _ _ _ hH0 (Grow.ne hg2 hq hH1) hn2
            have hb3 : sz (begS s2 t) ≤ sz s2 + 1 := sz_begI true s2 t
            have hgr3 := hg2.trans hg3
            have hstep : stepS s t true = opensS { (closesS (begS s2 t) t) with out := (closesS (begS s2 t) t).out ++ [t] } t := hstep
            simp only [tokC] at hT3
            simp only [go_sem, ↓reduceIte, ↓hn2]
            refine ⟨_, H3, hT3, ?_⟩
            simp only [go_sem, ↓reduceIte, ↓hn3]
            have hB3 : sz (begS s2 t) ≤ 600000000 := by omega
            obtain ⟨x4, H4, hT4, rfl, hL4, hg4⟩ := closes_T hL3 (Nat.le_trans hB3 (by decide)) t rfl rfl
            refine ⟨_, H4, hT4, ?_⟩
            have hq3 := Grow.ne hgr3 hq hH1
            have hn4 := hg4.keep _ _ _ hH0 hq3 hn3
            have hgr4 := hgr3.trans hg4
            have hb4 := sz_closes (begS s2 t) t
            generalize hs4 : closesS (begS s2 t) t = s4 at hL4 hb4
            obtain ⟨fv4, j41, j42⟩ := hL4
            obtain ⟨k41, k42⟩ := Lyr.turn j41 j42 { s4 with out := s4.out ++ [t] } rfl t.ln t.co
            have hn5 : getCells (H4.set 0 (.cells 0 [toksV true (s4.out ++ [t]), fv4, .bool s4.due, .int .i64 t.ln, .int .i64 t.co])) H.length 0 = _ := (gc_ne (Ne.symm hH0)).trans hn4
            have hes := toks_snoc s4.out t
            simp only [tokC] at hes
            obtain ⟨x6, H6, hT6, rfl, q6, hL6, hg6⟩ := opens_T k41 (by simp only [List.length_append, List.length_cons, List.length_nil]; unfold sz at hb4 hB3; omega) t
            simp only [tokC] at hT6
            simp only [go_sem, ↓reduceIte, ↓j41, toksV, ↓gc_same (gc_lt j41), ↓gc_ne (Ne.symm hH0), ↓hn4, List.set_set, run_buildSlG, elems_agg, exX_some, List.length_map, ↓run_addW, hwi]
            refine ⟨by unfold sz at hb4 hB3; simp [fits]; omega, ?_⟩
            rw [hes]
            try simp only [go_sem, ↓reduceIte, ↓gc_ne (Ne.symm hH0), ↓hn4, ↓run_addW, hwi]
            refine ⟨_, H6, hT6, ?_⟩
            try simp only [go_sem, ↓reduceIte, ↓run_addW, hwi]
            refine ⟨m - 1, by omega, i + 1, t.ln, t.co, q6, t.ln, [], by omega, ?_, ?_, .inr ?_, rfl⟩
            · rw [htk, runS_snoc, hs, ← hfirst, hstep, hs4]; exact hL6
            · rw [htk, lastAt_snoc]
            · rw [htk, prevOf_snoc]
        | false =>
          have hstep := step_not (s := s) (t := t) true hdue
          have hgr1 := Grow.refl H1 q
          rw [hdue] at kl
          obtain ⟨x3, H3, hT3, rfl, hL3, hg3⟩ := begins_T k1 (by unfold sz at hsz; omega) t rfl rfl
          have hn3 := hg3.keep _ _ _ hH0 hq hn1
          have hb3 : sz (begS s t) ≤ sz s + 1 := sz_begI true s t
          have hstep : stepS s t true = opensS { (closesS (begS s t) t) with out := (closesS (begS s t) t).out ++ [t] } t := hstep
          simp only [tokC] at hT3
          simp only [go_sem, ↓reduceIte, ↓kl, ↓hn1]
          refine ⟨_, H3, hT3, ?_⟩
          simp only [go_sem, ↓reduceIte, ↓hn3]
          have hB3 : sz (begS s t) ≤ 600000000 := by omega
          obtain ⟨x4, H4, hT4, rfl, hL4, hg4⟩ := closes_T hL3 (Nat.le_trans hB3 (by decide)) t rfl rfl
          refine ⟨_, H4, hT4, ?_⟩
          have hq3 := Grow.ne hg3 hq hH1
          have hn4 := hg4.keep _ _ _ hH0 hq3 hn3
          have hgr4 := hg3.trans hg4
          have hb4 := sz_closes (begS s t) t
          generalize hs4 : closesS (begS s t) t = s4 at hL4 hb4
          obtain ⟨fv4, j41, j42⟩ := hL4
          obtain ⟨k41, k42⟩ := Lyr.turn j41 j42 { s4 with out := s4.out ++ [t] } rfl t.ln t.co
          have hn5 : getCells (H4.set 0 (.cells 0 [toksV true (s4.out ++ [t]), fv4, .bool s4.due, .int .i64 t.ln, .int .i64 t.co])) H.length 0 = _ := (gc_ne (Ne.symm hH0)).trans hn4
          have hes := toks_snoc s4.out t
          simp only [tokC] at hes
          obtain ⟨x6, H6, hT6, rfl, q6, hL6, hg6⟩ := opens_T k41 (by simp only [List.length_append, List.length_cons, List.length_nil]; unfold sz at hb4 hB3; omega) t
          simp only [tokC] at hT6
          simp only [go_sem, ↓reduceIte, ↓j41, toksV, ↓gc_same (gc_lt j41), ↓gc_ne (Ne.symm hH0), ↓hn4, List.set_set, run_buildSlG, elems_agg, exX_some, List.length_map, ↓run_addW, hwi]
          refine ⟨by unfold sz at hb4 hB3; simp [fits]; omega, ?_⟩
          rw [hes]
          try simp only [go_sem, ↓reduceIte, ↓gc_ne (Ne.symm hH0), ↓hn4, ↓run_addW, hwi]
          refine ⟨_, H6, hT6, ?_⟩
          try simp only [go_sem, ↓reduceIte, ↓run_addW, hwi]
          refine ⟨m - 1, by omega, i + 1, t.ln, t.co, q6, t.ln, [], by omega, ?_, ?_, .inr ?_, rfl⟩
          · rw [htk, runS_snoc, hs, ← hfirst, hstep, hs4]; exact hL6
          · rw [htk, lastAt_snoc]
          · rw [htk, prevOf_snoc]
      | false =>
        simp only [go_sem, ↓reduceIte, e0, e1, ↓hn1]
        cases hdue : s.due with
        | true =>
          obtain ⟨x2, H2, hT2, rfl, q2, hL2, hg2⟩ := starts_T k1 (by unfold sz at hsz; omega) t rfl rfl
          have hn2 := hg2.keep _ _ _ hH0 hq hn1
          have hb2 := sz_starts s t
          have hstep := step_due (s := s) (t := t) false hdue
          simp only [tokC] at hT2
          rw [hdue] at kl
          simp only [go_sem, ↓reduceIte, ↓kl, ↓hn1]
          refine ⟨_, H2, hT2, ?_⟩
          generalize hst : startsS s t = st at hT2 hL2 hb2 hstep
          obtain ⟨sb, s2⟩ := st
          cases sb with
          | true =>
            have hb2 : sz s2 ≤ sz s + 2 := hb2
            simp only [go_sem, ↓reduceIte, ↓hn2]
            have hstep : stepS s t false = opensS { (closesS s2 t) with out := (closesS s2 t).out ++ [t] } t := hstep
            have hB3 : sz (s2) ≤ 600000000 := by omega
            obtain ⟨x4, H4, hT4, rfl, hL4, hg4⟩ := closes_T hL2 (Nat.le_trans hB3 (by decide)) t rfl rfl
            refine ⟨_, H4, hT4, ?_⟩
            have hq3 := Grow.ne hg2 hq hH1
            have hn4 := hg4.keep _ _ _ hH0 hq3 hn2
            have hgr4 := hg2.trans hg4
            have hb4 := sz_closes (s2) t
            generalize hs4 : closesS (s2) t = s4 at hL4 hb4
            obtain ⟨fv4, j41, j42⟩ := hL4
            obtain ⟨k41, k42⟩ := Lyr.turn j41 j42 { s4 with out := s4.out ++ [t] } rfl t.ln t.co
            have hn5 : getCells (H4.set 0 (.cells 0 [toksV true (s4.out ++ [t]), fv4, .bool s4.due, .int .i64 t.ln, .int .i64 t.co])) H.length 0 = _ := (gc_ne (Ne.symm hH0)).trans hn4
            have hes := toks_snoc s4.out t
            simp only [tokC] at hes
            obtain ⟨x6, H6, hT6, rfl, q6, hL6, hg6⟩ := opens_T k41 (by simp only [List.length_append, List.length_cons, List.length_nil]; unfold sz at hb4 hB3; omega) t
            simp only [tokC] at hT6
            simp only [go_sem, ↓reduceIte, ↓j41, toksV, ↓gc_same (gc_lt j41), ↓gc_ne (Ne.symm hH0), ↓hn4, List.set_set, run_buildSlG, elems_agg, exX_some, List.length_map, ↓run_addW, hwi]
            refine ⟨by unfold sz at hb4 hB3; simp [fits]; omega, ?_⟩
            rw [hes]
            try simp only [go_sem, ↓reduceIte, ↓gc_ne (Ne.symm hH0), ↓hn4, ↓run_addW, hwi]
            refine ⟨_, H6, hT6, ?_⟩
            try simp only [go_sem, ↓reduceIte, ↓run_addW, hwi]
            refine ⟨m - 1, by omega, i + 1, t.ln, t.co, q6, t.ln, [], by omega, ?_, ?_, .inr ?_, rfl⟩
            · rw [htk, runS_snoc, hs, ← hfirst, hstep, hs4]; exact hL6
            · rw [htk, lastAt_snoc]
            · rw [htk, prevOf_snoc]
          | false =>
            have hb2 : sz s2 ≤ sz s + 2 := hb2
            simp only [go_sem, ↓reduceIte, ↓hn2]
            have hstep : stepS s t false = opensS { (closesS s2 t) with out := (closesS s2 t).out ++ [t] } t := hstep
            have hB3 : sz (s2) ≤ 600000000 := by omega
            obtain ⟨x4, H4, hT4, rfl, hL4, hg4⟩ := closes_T hL2 (Nat.le_trans hB3 (by decide)) t rfl rfl
            refine ⟨_, H4, hT4, ?_⟩
            have hq3 := Grow.ne hg2 hq hH1
            have hn4 := hg4.keep _ _ _ hH0 hq3 hn2
            have hgr4 := hg2.trans hg4
            have hb4 := sz_closes (s2) t
            generalize hs4 : closesS (s2) t = s4 at hL4 hb4
            obtain ⟨fv4, j41, j42⟩ := hL4
            obtain ⟨k41, k42⟩ := Lyr.turn j41 j42 { s4 with out := s4.out ++ [t] } rfl t.ln t.co
            have hn5 : getCells (H4.set 0 (.cells 0 [toksV true (s4.out ++ [t]), fv4, .bool s4.due, .int .i64 t.ln, .int .i64 t.co])) H.length 0 = _ := (gc_ne (Ne.symm hH0)).trans hn4
            have hes := toks_snoc s4.out t
            simp only [tokC] at hes
            obtain ⟨x6, H6, hT6, rfl, q6, hL6, hg6⟩ := opens_T k41 (by simp only [List.length_append, List.length_cons, List.length_nil]; unfold sz at hb4 hB3; omega) t
            simp only [tokC] at hT6
            simp only [go_sem, ↓reduceIte, ↓j41, toksV, ↓gc_same (gc_lt j41), ↓gc_ne (Ne.symm hH0), ↓hn4, List.set_set, run_buildSlG, elems_agg, exX_some, List.length_map, ↓run_addW, hwi]
            refine ⟨by unfold sz at hb4 hB3; simp [fits]; omega, ?_⟩
            rw [hes]
            try simp only [go_sem, ↓reduceIte, ↓gc_ne (Ne.symm hH0), ↓hn4, ↓run_addW, hwi]
            refine ⟨_, H6, hT6, ?_⟩
            try simp only [go_sem, ↓reduceIte, ↓run_addW, hwi]
            refine ⟨m - 1, by omega, i + 1, t.ln, t.co, q6, t.ln, [], by omega, ?_, ?_, .inr ?_, rfl⟩
            · rw [htk, runS_snoc, hs, ← hfirst, hstep, hs4]; exact hL6
            · rw [htk, lastAt_snoc]
            · rw [htk, prevOf_snoc]
        | false =>
          have hstep := step_not (s := s) (t := t) false hdue
          have hgr1 := Grow.refl H1 q
          rw [hdue] at kl
          have hstep : stepS s t false = opensS { (closesS s t) with out := (closesS s t).out ++ [t] } t := hstep
          simp only [go_sem, ↓reduceIte, ↓kl, ↓hn1]
          have hB3 : sz (s) ≤ 600000000 := by omega
          obtain ⟨x4, H4, hT4, rfl, hL4, hg4⟩ := closes_T k1 (Nat.le_trans hB3 (by decide)) t rfl rfl
          refine ⟨_, H4, hT4, ?_⟩
          have hq3 := Grow.ne hgr1 hq hH1
          have hn4 := hg4.keep _ _ _ hH0 hq3 hn1
          have hgr4 := hgr1.trans hg4
          have hb4 := sz_closes (s) t
          generalize hs4 : closesS (s) t = s4 at hL4 hb4
          obtain ⟨fv4, j41, j42⟩ := hL4
          obtain ⟨k41, k42⟩ := Lyr.turn j41 j42 { s4 with out := s4.out ++ [t] } rfl t.ln t.co
          have hn5 : getCells (H4.set 0 (.cells 0 [toksV true (s4.out ++ [t]), fv4, .bool s4.due, .int .i64 t.ln, .int .i64 t.co])) H.length 0 = _ := (gc_ne (Ne.symm hH0)).trans hn4
          have hes := toks_snoc s4.out t
          simp only [tokC] at hes
          obtain ⟨x6, H6, hT6, rfl, q6, hL6, hg6⟩ := opens_T k41 (by simp only [List.length_append, List.length_cons, List.length_nil]; unfold sz at hb4 hB3; omega) t
          simp only [tokC] at hT6
          simp only [go_sem, ↓reduceIte, ↓j41, toksV, ↓gc_same (gc_lt j41), ↓gc_ne (Ne.symm hH0), ↓hn4, List.set_set, run_buildSlG, elems_agg, exX_some, List.length_map, ↓run_addW, hwi]
          refine ⟨by unfold sz at hb4 hB3; simp [fits]; omega, ?_⟩
          rw [hes]
          try simp only [go_sem, ↓reduceIte, ↓gc_ne (Ne.symm hH0), ↓hn4, ↓run_addW, hwi]
          refine ⟨_, H6, hT6, ?_⟩
          try simp only [go_sem, ↓reduceIte, ↓run_addW, hwi]
          refine ⟨m - 1, by omega, i + 1, t.ln, t.co, q6, t.ln, [], by omega, ?_, ?_, .inr ?_, rfl⟩
          · rw [htk, runS_snoc, hs, ← hfirst, hstep, hs4]; exact hL6
          · rw [htk, lastAt_snoc]
          · rw [htk, prevOf_snoc]
  · have hin : l.take i = l := List.take_of_length_le (by omega)
    rw [hin] at hL hat hsz
    have hlay : layL l = finS (runS s0 none l) (ln, co) := by rw [hat]; rfl
    generalize runS s0 none l = s at hL hlay hsz
    have hL0 := hL
    obtain ⟨fv, j1, j2⟩ := hL
    unfold finS at hlay
    cases hdue : s.due with
    | true =>
      rw [hdue, if_pos rfl] at hlay
      obtain ⟨x, H2, hT2, rfl, hL2, hg2⟩ := make_T hL0 (by unfold sz at hsz; omega) bOpen
      obtain ⟨x, H3, hT3, rfl, hL3, hg3⟩ := make_T hL2 (by simp only [List.length_append, List.length_cons, List.length_nil]; unfold sz at hsz; omega) bShut
      rw [hdue] at j1
      simp only [go_sem, ↓reduceIte, ↓j1, Int.toNat_natCast]
      refine ⟨fun h => absurd h (by omega), fun _ => ⟨_, H2, hT2, ?_⟩⟩
      try simp only [go_sem, ↓reduceIte]
      refine ⟨_, H3, hT3, ?_⟩
      have hL4 : Lyr H3 ⟨s.out ++ [mkT bOpen ln co, mkT bShut ln co], s.fs, true⟩ ln co q := by
        have := hL3
        simp only [List.append_assoc, hdue] at this
        exact this
      obtain ⟨fv1, f1, f2⟩ := hL4
      have hfin : ∀ (H5 : Heap) (s5 : LS) (E : List (Nat × V)), Lyr H5 s5 ln co q → s5.out = s.out ++ [mkT bOpen ln co, mkT bShut ln co] ++ List.replicate (laidN s.fs) (mkT bShut ln co) →
          getCells H5 0 0 = getCells H5 0 0 → ∃ c0, getCells H5 0 0 = some c0 ∧ ∃ v, c0[0]? = some v ∧ K .ret ⟨(2, strip0 v) :: E, .u⟩ H5 := by
        intro H5 s5 E hL5 he _
        obtain ⟨fv5, g1, _⟩ := hL5
        refine ⟨_, g1, _, rfl, ?_⟩
        rw [← hK]
        refine ⟨trivial, Nat.zero_le _, Nat.zero_le _, fun i ob h _ => absurd h (Nat.not_lt_zero _), toksV false s5.out, by simp [v14, resV, resL, res1, pack, En.f, getE_cons, toksV, strip0], toksV false s5.out, rfl, ?_, rfl⟩
        rw [he, ← hlay]
      simp only [go_sem, ↓reduceIte, ↓f1]
      cases q with
      | none =>
        obtain ⟨hfs, rfl⟩ := f2
        have hfs0 : s.fs = [] := hfs
        have hw : IntKind.i64.wrap (0 - 1) = -1 := rfl
        have hm : (-1 : Int) ≥ 0 ↔ False := by simp
        simp only [go_sem, ↓reduceIte, ↓run_subW, hw]
        refine WP.loop' (fun _ E H' => H' = H3 ∧ ∃ ex, E = ⟨(3, .ptr 0 0 0) :: (8, .int .i64 (-1)) :: ex, .u⟩) (n := 0) ⟨rfl, _, rfl⟩ ?_
        rintro n E H' ⟨rfl, ex, rfl⟩
        obtain ⟨c0, g1, v0, g2, g3⟩ := hfin _ ⟨s.out ++ [mkT bOpen ln co, mkT bShut ln co], s.fs, true⟩ [] ⟨_, f1, hfs, rfl⟩ (by rw [hfs0]; simp [laidN]) rfl
        rw [f1] at g1
        cases g1
        simp only [go_sem, ↓reduceIte, hm, decide_false, ↓f1]
        simp at g2
        subst g2
        exact g3
      | some k =>
        obtain ⟨hk0, ver, rest, rfl, f3⟩ := f2
        simp only at f1 f3
        have hd := dec64 (i := s.fs.length) (by unfold sz at hsz; omega)
        simp only [go_sem, ↓reduceIte, ↓run_subW, hd]
        refine WP.loop' (fun n E H' => ∃ s5 pre suf ex, Lyr H' s5 ln co (some k) ∧ s5.fs = s.fs ∧ s.fs = pre ++ suf ∧ n = suf.length ∧ s5.out = s.out ++ [mkT bOpen ln co, mkT bShut ln co] ++ List.replicate (laidN pre) (mkT bShut ln co) ∧
            E = ⟨(3, .ptr 0 0 0) :: (8, .int .i64 ((suf.length : Int) - 1)) :: ex, .u⟩) (n := s.fs.length)
          ⟨⟨s.out ++ [mkT bOpen ln co, mkT bShut ln co], s.fs, true⟩, [], s.fs, _, ⟨_, f1, hk0, ver, rest, rfl, f3⟩, rfl, rfl, rfl, by simp [laidN], rfl⟩ ?_
        rintro n E H' ⟨s5, pre, suf, ex, hL5, h5f, hps, rfl, h5o, rfl⟩
        have hL50 := hL5
        obtain ⟨fv5, e1, _, ver5, rest5, rfl, e3⟩ := hL5
        cases suf with
        | nil =>
          obtain ⟨c0, g1, v0, g2, g3⟩ := hfin _ s5 [] hL50 (by rw [h5o, hps]; simp) rfl
          rw [e1] at g1
          cases g1
          simp only [go_sem, ↓reduceIte, ↓e1]
          refine ⟨fun h => absurd h (by simp), fun _ => ?_⟩
          simp at g2
          subst g2
          exact g3
        | cons f r =>
          have hl : s.fs.length = pre.length + (r.length + 1) := by rw [hps]; simp
          have e : (((f :: r).length : Nat) : Int) - 1 = (r.length : Int) := by simp
          have hd2 := dec64 (i := r.length) (by unfold sz at hsz; omega)
          have hg := fr_get0 (pre := pre) (f := f) (r := r) (rest := rest5)
          rw [← hps, ← h5f] at hg
          have hlp := laidN_app pre [f]
          rw [laidN_one] at hlp
          have hpl : laidN pre ≤ s.fs.length := by rw [hl]; unfold laidN; have := List.length_filter_le (fun f : Fm => f.k == 0) pre; omega
          rw [e]
          simp only [go_sem, ↓reduceIte, ↓e1, ↓e3, ↓run_subW, hd2, Int.toNat_natCast, hg]
          refine ⟨fun _ => ⟨by omega, by rw [h5f]; omega, fun hk => ?_, fun hk => ?_⟩, fun h => absurd h (by omega)⟩
          · have hk : f.k = 0 := by simp at hk; omega
            obtain ⟨x, H7, hT, rfl, hL7, hg7⟩ := make_T hL50 (by rw [h5o]; simp only [List.length_append, List.length_replicate, List.length_cons, List.length_nil]; unfold sz at hsz; omega) bShut
            refine ⟨_, H7, hT, r.length, by omega, _, pre ++ [f], r, [], hL7, h5f, by rw [hps]; simp, rfl, ?_, rfl⟩
            simp only
            rw [h5o, hlp, if_pos hk, List.replicate_succ', ← List.append_assoc]
          · have hk : f.k ≠ 0 := by simp at hk; omega
            refine ⟨r.length, by omega, s5, pre ++ [f], r, [], hL50, h5f, by rw [hps]; simp, rfl, ?_, rfl⟩
            rw [h5o, hlp, if_neg hk, Nat.add_zero]
    | false =>
      rw [hdue, if_neg (by simp)] at hlay
      rw [hdue] at j1
      have hfin : ∀ (H5 : Heap) (s5 : LS) (E : List (Nat × V)), Lyr H5 s5 ln co q → s5.out = s.out ++ [] ++ List.replicate (laidN s.fs) (mkT bShut ln co) →
          getCells H5 0 0 = getCells H5 0 0 → ∃ c0, getCells H5 0 0 = some c0 ∧ ∃ v, c0[0]? = some v ∧ K .ret ⟨(2, strip0 v) :: E, .u⟩ H5 := by
        intro H5 s5 E hL5 he _
        obtain ⟨fv5, g1, _⟩ := hL5
        refine ⟨_, g1, _, rfl, ?_⟩
        rw [← hK]
        refine ⟨trivial, Nat.zero_le _, Nat.zero_le _, fun i ob h _ => absurd h (Nat.not_lt_zero _), toksV false s5.out, by simp [v14, resV, resL, res1, pack, En.f, getE_cons, toksV, strip0], toksV false s5.out, rfl, ?_, rfl⟩
        rw [he, ← hlay]
      cases q with
      | none =>
        obtain ⟨hfs, rfl⟩ := j2
        have hfs0 : s.fs = [] := hfs
        have hw : IntKind.i64.wrap (0 - 1) = -1 := rfl
        have hm : (-1 : Int) ≥ 0 ↔ False := by simp
        simp only [go_sem, ↓reduceIte, ↓j1, ↓run_subW, hw]
        refine ⟨fun h => absurd h (by omega), fun _ => ?_⟩
        refine WP.loop' (fun _ E H' => H' = H ∧ ∃ ex, E = ⟨(3, .ptr 0 0 0) :: (8, .int .i64 (-1)) :: ex, .u⟩) (n := 0) ⟨rfl, _, rfl⟩ ?_
        rintro n E H' ⟨rfl, ex, rfl⟩
        obtain ⟨c0, g1, v0, g2, g3⟩ := hfin _ s [] ⟨_, by rw [hdue]; exact j1, hfs, rfl⟩ (by rw [hfs0]; simp [laidN]) rfl
        rw [j1] at g1
        cases g1
        simp only [go_sem, ↓reduceIte, hm, decide_false, ↓j1]
        simp at g2
        subst g2
        exact g3
      | some k =>
        obtain ⟨hk0, ver, rest, rfl, f3⟩ := j2
        have hd := dec64 (i := s.fs.length) (by unfold sz at hsz; omega)
        simp only [go_sem, ↓reduceIte, ↓j1, ↓run_subW, hd]
        refine ⟨fun h => absurd h (by omega), fun _ => ?_⟩
        refine WP.loop' (fun n E H' => ∃ s5 pre suf ex, Lyr H' s5 ln co (some k) ∧ s5.fs = s.fs ∧ s.fs = pre ++ suf ∧ n = suf.length ∧ s5.out = s.out ++ [] ++ List.replicate (laidN pre) (mkT bShut ln co) ∧
            E = ⟨(3, .ptr 0 0 0) :: (8, .int .i64 ((suf.length : Int) - 1)) :: ex, .u⟩) (n := s.fs.length)
          ⟨s, [], s.fs, _, ⟨_, by rw [hdue]; exact j1, hk0, ver, rest, rfl, f3⟩, rfl, rfl, rfl, by simp [laidN], rfl⟩ ?_
        rintro n E H' ⟨s5, pre, suf, ex, hL5, h5f, hps, rfl, h5o, rfl⟩
        have hL50 := hL5
        obtain ⟨fv5, e1, _, ver5, rest5, rfl, e3⟩ := hL5
        cases suf with
        | nil =>
          obtain ⟨c0, g1, v0, g2, g3⟩ := hfin _ s5 [] hL50 (by rw [h5o, hps]; simp) rfl
          rw [e1] at g1
          cases g1
          simp only [go_sem, ↓reduceIte, ↓e1]
          refine ⟨fun h => absurd h (by simp), fun _ => ?_⟩
          simp at g2
          subst g2
          exact g3
        | cons f r =>
          have hl : s.fs.length = pre.length + (r.length + 1) := by rw [hps]; simp
          have e : (((f :: r).length : Nat) : Int) - 1 = (r.length : Int) := by simp
          have hd2 := dec64 (i := r.length) (by unfold sz at hsz; omega)
          have hg := fr_get0 (pre := pre) (f := f) (r := r) (rest := rest5)
          rw [← hps, ← h5f] at hg
          have hlp := laidN_app pre [f]
          rw [laidN_one] at hlp
          have hpl : laidN pre ≤ s.fs.length := by rw [hl]; unfold laidN; have := List.length_filter_le (fun f : Fm => f.k == 0) pre; omega
          rw [e]
          simp only [go_sem, ↓reduceIte, ↓e1, ↓e3, ↓run_subW, hd2, Int.toNat_natCast, hg]
          refine ⟨fun _ => ⟨by omega, by rw [h5f]; omega, fun hk => ?_, fun hk => ?_⟩, fun h => absurd h (by omega)⟩
          · have hk : f.k = 0 := by simp at hk; omega
            obtain ⟨x, H7, hT, rfl, hL7, hg7⟩ := make_T hL50 (by rw [h5o]; simp only [List.length_append, List.length_replicate, List.length_cons, List.length_nil]; unfold sz at hsz; omega) bShut
            refine ⟨_, H7, hT, r.length, by omega, _, pre ++ [f], r, [], hL7, h5f, by rw [hps]; simp, rfl, ?_, rfl⟩
            simp only
            rw [h5o, hlp, if_pos hk, List.replicate_succ', ← List.append_assoc, List.append_nil]
          · have hk : f.k ≠ 0 := by simp at hk; omega
            refine ⟨r.length, by omega, s5, pre ++ [f], r, [], hL50, h5f, by rw [hps]; simp, rfl, ?_, rfl⟩
            rw [h5o, hlp, if_neg hk, Nat.add_zero, List.append_nil]
end Go.Proofs.Ytdmnacjpgaopfaa.Vm
namespace Go.Proofs.Ytdmnacjpgaopfaa.Vm
open Go
set_option linter.unusedSimpArgs false

section
variable {P : Program} {K : KK} {s : List Fr} {E : En} {H : Heap} {tk : List Nat} {dst : Option Nat} {os : List VOp} {keep : List Nat}
@[go_sem] theorem run_loadcH {v : V} {vs : List V} : runAct P (.load 1 false) [.cptr (v :: vs)] tk dst os keep s E H K = runOps P os keep s ((stripEn tk E).setO dst v) H K := by
  show (1 ≤ (v :: vs).length ∧ _) = _
  simp [mkW]
end
theorem ex_is {α : Type} {c : α} {F : α → Prop} : (∃ y, some c = some y ∧ F y) = F c := by
  apply propext
  constructor
  · rintro ⟨_, h, k⟩; cases h; exact k
  · intro k; exact ⟨_, rfl, k⟩
theorem gc_z {v : Nat} {cs : List V} {H : Heap} : getCells (.cells v cs :: H) 0 v = some cs := by rw [gc_some]; rfl
theorem gc_s {v n : Nat} {o : Obj} {H : Heap} : getCells (o :: H) (n + 1) v = getCells H n v := (rfl)
theorem mark_T (t : Tok) (x : List UInt8) (H : Heap) : T Try.prog 30 [.agg (tokC t), .str x] H (.bool (isM t x)) H := by
  refine T.frame ?_ (by simp [idsL, idsV, tokC]) H
  refine T.of0 mix c30 rfl ?_
  unfold v30 tokC isM
  simp only [go_sem, ↓reduceIte]
  by_cases h : t.k = 5
  · have e : (t.k == 5) = true := by rw [h]; rfl
    simp only [go_sem, ↓reduceIte, ↓gc_z, e]
    try simp
  · have e : (t.k == 5) = false := by simpa using h
    simp only [go_sem, ↓reduceIte, ↓gc_z, e]
    try simp
theorem word_T (t : Tok) (x : List UInt8) (H : Heap) : T Try.prog 31 [.agg (tokC t), .str x] H (.bool (isW t x)) H := by
  refine T.frame ?_ (by simp [idsL, idsV, tokC]) H
  refine T.of0 mix c31 rfl ?_
  unfold v31 tokC isW
  simp only [go_sem, ↓reduceIte]
  by_cases h : t.k = 6
  · have e : (t.k == 6) = true := by rw [h]; rfl
    simp only [go_sem, ↓reduceIte, ↓gc_z, e]
    try simp
  · have e : (t.k == 6) = false := by simpa using h
    simp only [go_sem, ↓reduceIte, ↓gc_z, e]
    try simp

theorem real_T (o : Bool) (l : List Tok) (hl : l.length ≤ 1000000000) : T Try.prog 16 [toksV o l] [] (toksV true (realL l)) [] := by
  refine T.of0 mix c16 rfl ?_
  unfold v16
  simp only [go_sem, ↓reduceIte, toksV]
  refine WP.loop' (fun m E H => ∃ i ex, i + m = l.length ∧
      E = ⟨(3, toksV true (realL (l.take i))) :: (6, toksV o l) :: (7, .int .i64 l.length) :: (8, .int .i64 i) :: ex, .u⟩) (n := l.length)
    ⟨0, [], by omega, by simp [toksV, realL]⟩ ?_
  rintro m E H ⟨i, ex, hi, rfl⟩
  have hwi := inc64 (i := i) (by omega)
  simp only [go_sem, ↓reduceIte, ↓ex_map, toksV, Int.toNat_natCast, ↓run_addW, hwi]
  by_cases hil : i < l.length
  · obtain ⟨t, ht⟩ : ∃ t, l[i]? = some t := ⟨_, List.getElem?_eq_getElem hil⟩
    refine ⟨fun _ => ⟨by omega, t, ht, ?_⟩, fun h => absurd h (by omega)⟩
    simp only [go_sem, ↓reduceIte, ↓ex_map, toksV, Int.toNat_natCast, tokC, ↓gc_new, set_last, run_buildSlG, elems_agg, exX_some, ↓run_addW, hwi]
    refine ⟨by simp [fits]; have := List.length_take_le i l; simp [realL]; omega, m - 1, by omega, i + 1, [], by omega, ?_⟩
    rw [List.take_add_one, ht]
    simp only [realL, List.map_append, Option.toList_some, List.map_cons, List.map_nil, tokC]
  · refine ⟨fun h => absurd h (by omega), fun _ => ?_⟩
    rw [List.take_of_length_le (by omega)]

theorem plain_T (o : Bool) (l : List Tok) (hl : l.length ≤ 1000000000) : T Try.prog 17 [toksV o l] [] (toksV true (l.filter real)) [] := by
  refine T.of0 mix c17 rfl ?_
  unfold v17
  simp only [go_sem, ↓reduceIte, toksV]
  refine WP.loop' (fun m E H => ∃ i ex, i + m = l.length ∧
      E = ⟨(0, toksV o l) :: (3, toksV true ((l.take i).filter real)) :: (4, .int .i64 i) :: ex, .u⟩) (n := l.length)
    ⟨0, [], by omega, by simp [toksV]⟩ ?_
  rintro m E H ⟨i, ex, hi, rfl⟩
  have hwi := inc64 (i := i) (by omega)
  simp only [go_sem, ↓reduceIte, ↓ex_map, toksV, Int.toNat_natCast, ↓run_addW, hwi]
  by_cases hil : i < l.length
  · obtain ⟨t, ht⟩ : ∃ t, l[i]? = some t := ⟨_, List.getElem?_eq_getElem hil⟩
    have hfl : (List.filter real (l.take i)).length ≤ 1000000000 := Nat.le_trans (List.length_filter_le _ _) (by simp; omega)
    refine ⟨fun _ => ⟨by omega, t, ht, ?_⟩, fun h => absurd h (by omega)⟩
    simp only [go_sem, ↓reduceIte, ↓ex_map, toksV, Int.toNat_natCast, tokC, run_buildSlG, elems_agg, exX_some, ↓run_addW, hwi]
    refine ⟨fun hmd => ⟨by omega, t, ht, ?_⟩, fun hmd => ⟨m - 1, by omega, i + 1, [], by omega, ?_⟩⟩
    · refine ⟨by simp [fits]; omega, m - 1, by omega, i + 1, [], by omega, ?_⟩
      have hr : real t = true := hmd
      rw [List.take_add_one, ht]
      simp only [List.filter_append, Option.toList_some, List.filter_cons, hr, if_true, List.filter_nil, List.map_append, List.map_cons, List.map_nil, tokC]
    · have hr : real t = false := by simpa [real] using hmd
      rw [List.take_add_one, ht]
      simp only [List.filter_append, Option.toList_some, List.filter_cons, hr, Bool.false_eq_true, if_false, List.filter_nil, List.append_nil]
  · refine ⟨fun h => absurd h (by omega), fun _ => ?_⟩
    rw [List.take_of_length_le (by omega)]

theorem brun_snoc {l : List Tok} {d : Bool} (h : brun true l = some d) (t : Tok) : brun true (l ++ [t]) = if !d || isM t bOpen then some (dueOf t) else none := by
  rw [brun_app, h]; rfl
theorem brun_part {l : List Tok} {i : Nat} (h : brun true (l.take i) = none) : brun true l = none := by
  rw [← List.take_append_drop i l, brun_app, h]; rfl
theorem braced_T (o : Bool) (l : List Tok) (hl : l.length ≤ 1000000000) : T Try.prog 18 [toksV o l] [] (.bool (brun true l == some false)) [] := by
  refine T.of0 mix c18 rfl ?_
  unfold v18
  simp only [go_sem, ↓reduceIte, toksV]
  refine WP.loop' (fun m E H => ∃ i d ex, i + m = l.length ∧ brun true (l.take i) = some d ∧
      E = ⟨(0, toksV o l) :: (3, .bool d) :: (4, .int .i64 i) :: ex, .u⟩) (n := l.length)
    ⟨0, true, [], by omega, rfl, by simp [toksV]⟩ ?_
  rintro m E H ⟨i, d, ex, hi, hb, rfl⟩
  have hwi := inc64 (i := i) (by omega)
  simp only [go_sem, ↓reduceIte, ↓ex_map, toksV, Int.toNat_natCast, ↓run_addW, hwi]
  by_cases hil : i < l.length
  · obtain ⟨t, ht⟩ : ∃ t, l[i]? = some t := ⟨_, List.getElem?_eq_getElem hil⟩
    have hsn := brun_snoc hb t
    have htk : l.take (i + 1) = l.take i ++ [t] := by rw [List.take_add_one, ht]; rfl
    rw [← htk] at hsn
    refine ⟨fun _ => ?_, fun h => absurd h (by omega)⟩
    have hm := mark_T t bOpen H
    have hw1 := word_T t [108, 101, 116] H
    have hw2 := word_T t [111, 102] H
    have hrest : (!d || isM t bOpen) = true → brun true (l.take (i + 1)) = some (dueOf t) := by
      intro h; rw [hsn, if_pos h]
    have hsec : ∀ (K : KK) (ex1 : List (Nat × V)), (!d || isM t bOpen) = true → True := fun _ _ _ => trivial
    cases d with
    | true =>
      simp only [go_sem, ↓reduceIte, ↓ex_map, toksV, Int.toNat_natCast, tokC]
      refine ⟨by omega, t, ht, _, _, hm, ?_⟩
      cases hc : isM t bOpen with
      | false =>
        rw [hc] at hsn
        have := brun_part (l := l) (i := i + 1) hsn
        simp only [go_sem, ↓reduceIte, ↓ex_map, toksV, Int.toNat_natCast, tokC]
        rw [this]; rfl
      | true =>
        have hb2 := hrest (by rw [hc]; rfl)
        simp only [go_sem, ↓reduceIte, ↓ex_map, toksV, Int.toNat_natCast, tokC]
        refine ⟨by omega, t, ht, _, _, hw1, ?_⟩
        cases hc1 : isW t [108, 101, 116] with
        | true =>
          simp only [go_sem, ↓reduceIte, ↓ex_map, toksV, Int.toNat_natCast, tokC, ↓run_addW, hwi]
          exact ⟨m - 1, by omega, i + 1, true, [], by omega, by rw [hb2]; simp [dueOf, hc1], rfl⟩
        | false =>
          simp only [go_sem, ↓reduceIte, ↓ex_map, toksV, Int.toNat_natCast, tokC, ↓run_addW, hwi]
          refine ⟨by omega, t, ht, _, _, hw2, ?_⟩
          simp only [go_sem, ↓reduceIte, ↓ex_map, toksV, Int.toNat_natCast, tokC, ↓run_addW, hwi]
          exact ⟨m - 1, by omega, i + 1, _, [], by omega, by rw [hb2]; simp [dueOf, hc1], rfl⟩
    | false =>
      have hb2 := hrest rfl
      simp only [go_sem, ↓reduceIte, ↓ex_map, toksV, Int.toNat_natCast, tokC]
      refine ⟨by omega, t, ht, _, _, hw1, ?_⟩
      cases hc1 : isW t [108, 101, 116] with
      | true =>
        simp only [go_sem, ↓reduceIte, ↓ex_map, toksV, Int.toNat_natCast, tokC, ↓run_addW, hwi]
        exact ⟨m - 1, by omega, i + 1, true, [], by omega, by rw [hb2]; simp [dueOf, hc1], rfl⟩
      | false =>
        simp only [go_sem, ↓reduceIte, ↓ex_map, toksV, Int.toNat_natCast, tokC, ↓run_addW, hwi]
        refine ⟨by omega, t, ht, _, _, hw2, ?_⟩
        simp only [go_sem, ↓reduceIte, ↓ex_map, toksV, Int.toNat_natCast, tokC, ↓run_addW, hwi]
        exact ⟨m - 1, by omega, i + 1, _, [], by omega, by rw [hb2]; simp [dueOf, hc1], rfl⟩
  · refine ⟨fun h => absurd h (by omega), fun _ => ?_⟩
    rw [List.take_of_length_le (by omega)] at hb
    rw [hb]
    cases d <;> rfl

theorem eqCells_tok (a b : Tok) : eqCells [.i, .s, .i, .i, .i, .b] (tokC a) (tokC b) = some (a == b) := by
  cases a; cases b
  simp [eqCells, eqScal, tokC]
  rw [Bool.eq_iff_iff]; simp
theorem beq_upto {a b : List Tok} {i : Nat} (h : i = a.length) (hl : a.length = b.length) (he : a.take i = b.take i) : (a == b) = true := by
  rw [List.take_of_length_le (by omega), List.take_of_length_le (by omega)] at he
  rw [he]; simp
theorem beq_not {a b : List Tok} {i : Nat} {x y : Tok} (hx : a[i]? = some x) (hy : b[i]? = some y) (h : (x == y) = false) : (a == b) = false := by
  rw [beq_eq_false_iff_ne] at h ⊢
  rintro rfl
  rw [hx] at hy; cases hy; exact h rfl
theorem same_T (o p : Bool) (a b : List Tok) (ha : a.length ≤ 1000000000) : T Try.prog 13 [toksV o a, toksV p b] [] (.bool (a == b)) [] := by
  refine T.of0 mix c13 rfl ?_
  unfold v13
  simp only [go_sem, ↓reduceIte, toksV]
  refine ⟨fun hne => ?_, fun heq => ?_⟩
  · have : (a == b) = false := by
      rw [beq_eq_false_iff_ne]; rintro rfl; simp at hne
    rw [this]
  · have hlen : a.length = b.length := by simp at heq; omega
    refine WP.loop' (fun m E H => ∃ i ex, i + m = a.length ∧ a.take i = b.take i ∧
        E = ⟨(0, toksV o a) :: (1, toksV p b) :: (5, .int .i64 i) :: ex, .u⟩) (n := a.length)
      ⟨0, [], by omega, rfl, by simp [toksV]⟩ ?_
    rintro m E H ⟨i, ex, hi, he, rfl⟩
    have hwi := inc64 (i := i) (by omega)
    simp only [go_sem, ↓reduceIte, ↓ex_map, toksV, Int.toNat_natCast, ↓run_addW, hwi]
    by_cases hil : i < a.length
    · obtain ⟨x, hx⟩ : ∃ t, a[i]? = some t := ⟨_, List.getElem?_eq_getElem hil⟩
      obtain ⟨y, hy⟩ : ∃ t, b[i]? = some t := ⟨_, List.getElem?_eq_getElem (by omega)⟩
      have hxy := eqCells_tok x y
      refine ⟨fun _ => ⟨by omega, x, hx, ?_⟩, fun h => absurd h (by omega)⟩
      have e6 : ∀ t : Tok, (tokC t).length = 6 := fun _ => rfl
      have t6 : ∀ t : Tok, (tokC t).take 6 = tokC t := fun _ => rfl
      simp only [go_sem, ↓reduceIte, ↓ex_map, toksV, Int.toNat_natCast, e6, t6]
      refine ⟨by omega, y, hy, ?_⟩
      refine ⟨_, hxy, ?_⟩
      cases hq : x == y with
      | true =>
        refine ⟨fun h => (nomatch h), fun _ => ⟨m - 1, by omega, i + 1, [], by omega, ?_, rfl⟩⟩
        rw [List.take_add_one, List.take_add_one, hx, hy, he, eq_of_beq hq]
      | false =>
        exact ⟨fun _ => by rw [beq_not hx hy hq], fun h => (nomatch h)⟩
    · refine ⟨fun h => absurd h (by omega), fun _ => ?_⟩
      rw [beq_upto (i := i) (by omega) hlen he]
theorem alike_T (o p : Bool) (a : List Tok) (d : Int) (ha : a.length ≤ 1000000000) : T Try.prog 19 [toksV o a, toksV p (a.map (shT d))] [] (.bool true) [] := by
  refine T.of0 mix c19 rfl ?_
  unfold v19
  simp only [go_sem, ↓reduceIte, toksV]
  refine ⟨fun hne => ?_, fun heq => ?_⟩
  · simp at hne
  · refine WP.loop' (fun m E H => ∃ i ex, i + m = a.length ∧
        E = ⟨(0, toksV o a) :: (1, toksV p (a.map (shT d))) :: (5, .int .i64 i) :: ex, .u⟩) (n := a.length)
      ⟨0, [], by omega, by simp [toksV]⟩ ?_
    rintro m E H ⟨i, ex, hi, rfl⟩
    have hwi := inc64 (i := i) (by omega)
    simp only [go_sem, ↓reduceIte, ↓ex_map, toksV, Int.toNat_natCast, ↓run_addW, hwi]
    by_cases hil : i < a.length
    · obtain ⟨x, hx⟩ : ∃ t, a[i]? = some t := ⟨_, List.getElem?_eq_getElem hil⟩
      have hy : (a.map (shT d))[i]? = some (shT d x) := by rw [List.getElem?_map, hx]; rfl
      refine ⟨fun _ => ⟨by omega, x, hx, ?_⟩, fun h => absurd h (by omega)⟩
      have hx6 : (List.map tokC a)[i]? = some (tokC x) := by rw [List.getElem?_map, hx]; rfl
      have hy6 : (List.map tokC (a.map (shT d)))[i]? = some (tokC (shT d x)) := by rw [List.getElem?_map, hy]; rfl
      have h0 : (0 : Int) ≤ (i : Int) ↔ True := ⟨fun _ => True.intro, fun _ => by omega⟩
      simp only [tokC, shT] at hx6 hy6
      simp only [go_sem, ↓reduceIte, toksV, Int.toNat_natCast, tokC, shT, ex_is, hx6, hy6, h0, true_and, bne_self_eq_false, beq_self_eq_true, Bool.not_true, ↓run_addW, hwi]
      exact ⟨m - 1, by omega, i + 1, [], by omega, rfl⟩
    · exact ⟨fun h => absurd h (by omega), fun _ => trivial⟩
end Go.Proofs.Ytdmnacjpgaopfaa.Vm
namespace Go.Proofs.Ytdmnacjpgaopfaa.Vm
open Go

/-- A FUNCTION that answers one cell's value: the cell keeps a copy that owns nothing; all objects stay. -/
theorem T_ofT {P : Program} (hmix : P.follows .mixedOrders = true) {f : Nat} {vf : VFunc} (hc : chkFn P f vf = true) {args : List V} {H : Heap} (hl : args.length ≤ vf.n) {x : X} {σ' : Env} {H1 : Heap} (hx : VExec P vf.body (env0 args) H x σ' H1) (hnx : ∀ id, x ≠ .exit id)
    {t n : Nat} {agg : Bool} (hrs : vf.results = [.cell t n agg]) {id ver off : Nat} (hσ : σ' t = .ptr id ver off) {cs0 l : List V} (hg : getCells H1 id ver = some cs0) (hcut : cut cs0 off n = some l) {r : V} (hm : mk agg l = some r) :
    T P f args H r (H1.set id (.cells ver (put cs0 off (l.map strip0)))) := by
  unfold chkFn at hc
  split at hc
  · rename_i fn hfn
    simp only [Bool.and_eq_true, beq_iff_eq, decide_eq_true_eq, bne_iff_ne] at hc
    obtain ⟨⟨⟨⟨hbody, hnt⟩, hres⟩, hnd⟩, hname⟩ := hc
    cases hb : fn.body with
    | none => rw [hb] at hbody; cases hbody
    | some c =>
      rw [hb] at hbody
      refine ⟨⟨fn, hfn, by rw [hb]; rfl, by simpa using hname⟩, ?_⟩
      intro w G own cs bl hok hrep hnod harg
      obtain ⟨fo, fo1, fo2⟩ := hrep.parts hnod
      let own1 : Nat → Option Place := fun b => match fo b with
        | some j => some (.slot j)
        | none => match own b with
          | some .frame => some .frame
          | some (.obj i) => some (.obj i)
          | some (.cell i) => some (.cell i)
          | _ => none
      have hnone : ∀ b, own b ≠ some .arg → fo b = none := by
        intro b hb
        cases h : fo b with
        | none => rfl
        | some j => exact absurd (harg b (fo1 b j h)) hb
      have hok1 : Ok w G own1 H := by
        refine hok.relabel (fun b i hb => ?_) fun b p hp => ?_
        · have : fo b = none := hnone b (by rcases hb with hb | hb <;> rw [hb] <;> simp)
          simp only [own1, this]; rcases hb with hb | hb <;> rw [hb]
        · simp only [own1] at hp
          split at hp
          · rename_i j hj; exact ⟨_, harg b (fo1 b j hj)⟩
          · split at hp
            · exact ⟨_, by assumption⟩
            · exact ⟨_, by assumption⟩
            · exact ⟨_, by assumption⟩
            · cases hp
      have hlen : cs.size = args.length := by have := hrep.length; rw [this]; exact Array.length_toList.symm
      have hat : At w G own1 (env0 args) H vf.n { tmps := cs ++ Array.replicate (fn.ntmps - cs.size) undef, defers := [] } := by
        refine ⟨hok1, fun i => ?_, ?_, rfl⟩
        · cases hi : args[i]? with
          | none =>
            have hge : args.length ≤ i := by
              rcases Nat.lt_or_ge i args.length with h | h
              · rw [List.getElem?_eq_getElem h] at hi; cases hi
              · exact h
            refine ⟨[], ?_, List.nodup_nil, fun _ h => by cases h⟩
            have : (cs ++ Array.replicate (fn.ntmps - cs.size) undef).getD i undef = undef := by
              rw [Array.getD_eq_getD_getElem?, Array.getElem?_append_right (by omega), Array.getElem?_replicate]
              split <;> rfl
            simp only [env0, hi, Option.getD_none]
            rw [this]
            exact .tup .nil .nil
          | some v =>
            obtain ⟨c', b1, e1, e2, e3, e4⟩ := fo2 i v hi
            refine ⟨b1, ?_, e3, fun b hb => by simp only [own1, e4 b hb]⟩
            have hlt : i < cs.size := by
              rw [hlen]; exact (List.getElem?_eq_some_iff.1 hi).1
            have : (cs ++ Array.replicate (fn.ntmps - cs.size) undef).getD i undef = c' := by
              rw [Array.getD_eq_getD_getElem?, Array.getElem?_append_left hlt, ← Array.getElem?_toList, e1]; rfl
            simp only [env0, hi, Option.getD_some]
            rw [this]; exact e2
        · simp only [Array.size_append, Array.size_replicate]; omega
      refine calls_of_wp hfn hb (Code.wp_mono ?_ ((exec_sound hmix hx c hbody).1 w G own1 _ hat))
      rintro e a1 w1 ⟨rfl, G1, own2, hat1, hext⟩
      rw [hrs] at hres
      obtain ⟨cr, w2, q1, q2, G3, own3, br, k1, k2, k3, k4, k5⟩ : ∃ cr w2, (results fn a1.tmps).run P w1 = .ok cr w1 ∧ w2 = w1 ∧ ∃ G3 own3 br, Ok w1 G3 own3 (H1.set id (.cells ver (put cs0 off (l.map strip0)))) ∧ RepL w1 G3 [r] [cr] br ∧ br.Nodup ∧ (∀ b ∈ br, own3 b = some .res) ∧ Ext w1 G1 own2 w1 G3 own3 := by
        match hfr : fn.results.toList, hres with
        | [.cell x t'], hres =>
          simp only [chkRess, chkRes, Bool.and_eq_true, beq_iff_eq, Bool.and_true] at hres
          obtain ⟨rfl, hlo⟩ := hres
          obtain ⟨c', e1, _, _⟩ := res_cell (P := P) hat1 hlo hσ hg hcut
          obtain ⟨d, h1, h2, h3, h4⟩ := loadOk_eq hlo
          obtain ⟨bs, rs, _, _⟩ := hat1.slots x
          rw [hσ] at rs
          obtain ⟨b, ver', n', bb, cs', hcs, _⟩ := rs.ptr_inv
          have hc0 := (List.cons.inj hcs).1
          subst h3
          obtain ⟨c2, w2, e3, G3, own3, br, k⟩ := loadT_post (P := P) hat1.ok h1 h2 h4 rs hg hcut hm
          rw [hc0] at e1 e3
          have e1' : (loadVar t' ⟨bb, off, none⟩).run P w1 = .ok c' w1 := by simpa [asAddr] using e1
          have e3' : (loadVar t' ⟨bb, off, none⟩).run P w1 = .ok c2 w2 := by simpa [Instr.loadAt, Instr.sureAddr] using e3
          rw [e1'] at e3'
          cases e3'
          have hrun : (fn.results.toList.mapM (run1 a1)).run P w1 = .ok [c'] w1 := by
            rw [hfr]
            have : (run1 a1 (.cell x t')).run P w1 = .ok c' w1 := by
              show (do loadVar t' (← asAddr (a1.tmps.getD x undef)) : Sem Value).run P w1 = _
              rw [hc0]; simpa [asAddr] using e1'
            simp [List.mapM_cons, this]
          exact ⟨c', w1, results_run hrun, rfl, G3, own3, br, k⟩
        | [.tmp _], hres => simp [chkRess, chkRes] at hres
        | [], hres => cases hres
        | _ :: _ :: _, hres => simp [chkRess] at hres
      let own4 : Nat → Option Place := fun b => if b ∈ br then some .res else match own3 b with
        | some .frame => some .frame
        | some (.obj i) => some (.obj i)
        | some (.cell i) => some (.cell i)
        | _ => none
      have hok4 : Ok w1 G3 own4 (H1.set id (.cells ver (put cs0 off (l.map strip0)))) := by
        refine k1.relabel (fun b i hb => ?_) fun b p hp => ?_
        · have hnb : b ∉ br := by
            intro hb'
            rw [k4 b hb'] at hb; rcases hb with hb | hb <;> cases hb
          simp only [own4, if_neg hnb]
          rcases hb with hb | hb <;> rw [hb]
        · simp only [own4] at hp
          split at hp
          · rename_i hb'; exact ⟨_, k4 b hb'⟩
          · cases ho : own3 b with
            | none => rw [ho] at hp; cases hp
            | some q => exact ⟨q, rfl⟩
      have hext2 := hext.trans k5
      have hpost : Post w G own r (H1.set id (.cells ver (put cs0 off (l.map strip0)))) cr w1 := by
        refine ⟨G3, own4, br, hok4, k2, k3, fun b hb => by simp only [own4, if_pos hb], ⟨hext2.size, hext2.imm, hext2.loc, ?_, hext2.tape, hext2.os, hext2.out⟩⟩
        intro b hb
        have h1 : own1 b = some .frame := by
          have : fo b = none := hnone b (by rw [hb]; simp)
          simp only [own1, this, hb]
        obtain ⟨j1, j2, j3⟩ := hext2.fixed b h1
        refine ⟨j1, j2, ?_⟩
        have hnb : b ∉ br := by
          intro hb'
          rw [k4 b hb'] at j3; cases j3
        simp only [own4, if_neg hnb, j3]
      cases x with
      | normal => exact ⟨hat1.defers, cr, q1, cr, rfl, hpost⟩
      | ret => exact ⟨hat1.defers, cr, q1, cr, rfl, hpost⟩
      | exit id => exact absurd rfl (hnx id)
  · cases hc
/-- How such a function ends. -/
def endT (t n : Nat) (agg : Bool) (R : V → Heap → Prop) : KK := fun x E H => (match x with | .exit _ => False | _ => True) ∧
  ∃ id ver off cs l r, E.f t = .ptr id ver off ∧ getCells H id ver = some cs ∧ cut cs off n = some l ∧ mk agg l = some r ∧ R r (H.set id (.cells ver (put cs off (l.map strip0))))
theorem T.of_take {P : Program} (hmix : P.follows .mixedOrders = true) {f : Nat} {vf : VFunc} (hc : chkFn P f vf = true) {args : List V} {H : Heap} {R : V → Heap → Prop} (hl : Nat.ble args.length vf.n = true) {t n : Nat} {agg : Bool} (hrs : vf.results = [.cell t n agg])
    (h : run P vf.body [] ⟨args.zipIdx.map fun p => (p.2, p.1), .tup []⟩ H (endT t n agg R)) : ∃ r H', T P f args H r H' ∧ R r H' := by
  obtain ⟨x, E1, H1, h1, h2, id, ver, off, cs, l, r, h3, h4, h5, h6, h7⟩ := wp_sound h
  rw [env0_eq] at h1
  exact ⟨r, _, T_ofT hmix hc (Nat.le_of_ble_eq_true hl) h1 (by intro id e; subst e; exact h2) hrs h3 h4 h5 h6, h7⟩

section
variable {P : Program} {K : KK} {s : List Fr} {E : En} {H : Heap} {tk : List Nat} {dst : Option Nat} {os : List VOp} {keep : List Nat}
def loadTA (P : Program) (n : Nat) (x : Option (List V)) (id ver off : Nat) (tk : List Nat) (dst : Option Nat) (os : List VOp) (keep : List Nat) (s : List Fr) (E : En) (H : Heap) (K : KK) : Prop :=
  ∃ cs, x = some cs ∧ off + n ≤ cs.length ∧ nextV P (.agg ((cs.drop off).take n)) tk dst os keep s E (H.set id (.cells ver (put cs off (((cs.drop off).take n).map strip0)))) K
@[go_sem] theorem loadTA_some {n : Nat} {cs : List V} {id ver off : Nat} : loadTA P n (some cs) id ver off tk dst os keep s E H K = (off + n ≤ cs.length ∧ nextV P (.agg ((cs.drop off).take n)) tk dst os keep s E (H.set id (.cells ver (put cs off (((cs.drop off).take n).map strip0)))) K) := by
  apply propext
  constructor
  · rintro ⟨v, h, k⟩; cases h; exact k
  · intro k; exact ⟨cs, rfl, k⟩
@[go_sem] theorem run_loadTA {id ver off n : Nat} : runAct P (.loadT n true) [.ptr id ver off] tk dst os keep s E H K = loadTA P n (getCells H id ver) id ver off tk dst os keep s E H K := (rfl)
end
end Go.Proofs.Ytdmnacjpgaopfaa.Vm
namespace Go.Proofs.Ytdmnacjpgaopfaa.Vm
open Go
set_option linter.unusedSimpArgs false

/-- The reference's names of frames. -/
def nm : Nat → List UInt8
  | 0 => [98, 108, 111, 99, 107]
  | 1 => [123]
  | 2 => [40]
  | 3 => [108, 101, 116]
  | 4 => [99, 97, 115, 101]
  | 5 => [105, 102]
  | _ => [116, 104, 101, 110]
theorem nm_eq {i j : Nat} (hi : i ≤ 6) (hj : j ≤ 6) : (nm i == nm j) = (i == j) := by
  have : ∀ i, i < 7 → ∀ j, j < 7 → (nm i == nm j) = (i == j) := by decide
  exact this i (by omega) j (by omega)
def frC (f : Fm) : List V := [.str (nm f.k), .int .i64 f.co]
def frL (l : List Fm) : List V := l.flatMap frC
theorem frL_len (l : List Fm) : (frL l).length = l.length * 2 := by
  induction l with
  | nil => rfl
  | cons f l ih => rw [frL, List.flatMap_cons, List.length_append, ← frL, ih]; simp [frC]; omega
theorem frL_app (a b : List Fm) : frL (a ++ b) = frL a ++ frL b := by simp [frL]
/-- The reference's frames in memory. -/
def FrR (H : Heap) (fs : List Fm) : Option Nat → V → Prop
  | none, fv => fs = [] ∧ fv = .nilh 2
  | some k, fv => (∀ f ∈ fs, f.k ≤ 6) ∧ ∃ ver rest, fv = .hsl k ver 0 fs.length 2 ∧ getCells H k ver = some (frL (fs.reverse ++ rest))
def stV (s : LS) (fv : V) : V := .agg [toksV true s.out, fv, .bool s.due]
structure GrowR (H : Heap) (q : Option Nat) (H' : Heap) (q' : Option Nat) : Prop where
  len : H.length ≤ H'.length
  keep : ∀ i v cs, q ≠ some i → getCells H i v = some cs → getCells H' i v = some cs
  qs : q' = q ∨ (q = none ∧ ∃ k, q' = some k ∧ H.length ≤ k)
theorem GrowR.refl (H : Heap) (q : Option Nat) : GrowR H q H q := ⟨Nat.le_refl _, fun _ _ _ _ h => h, .inl rfl⟩
theorem GrowR.trans {A B C : Heap} {q r t : Option Nat} (h : GrowR A q B r) (k : GrowR B r C t) : GrowR A q C t := by
  refine ⟨Nat.le_trans h.len k.len, fun i v cs hq hc => ?_, ?_⟩
  · have hr : r ≠ some i := by
      rcases h.qs with e | ⟨_, j, e, hj⟩
      · rw [e]; exact hq
      · rw [e]; intro e2; cases e2; have := gc_lt hc; omega
    exact k.keep i v cs hr (h.keep i v cs hq hc)
  · rcases h.qs with rfl | ⟨e1, j, e2, hj⟩
    · rcases k.qs with e | ⟨e, j, e2, hj⟩
      · exact .inl e
      · exact .inr ⟨e, j, e2, Nat.le_trans h.len hj⟩
    · rcases k.qs with e | ⟨e, _⟩
      · exact .inr ⟨e1, j, by rw [e, e2], hj⟩
      · rw [e2] at e; cases e
theorem GrowR.local {H : Heap} {q : Option Nat} (l : Heap) : GrowR H q (H ++ l) q :=
  ⟨by simp, fun _ _ _ _ h => by rw [gc_app (gc_lt h)]; exact h, .inl rfl⟩
/-- A local object is turned. -/
theorem GrowR.set {H A : Heap} {q q' : Option Nat} (h : GrowR H q A q') {i : Nat} (hi : H.length ≤ i) (o : Obj) : GrowR H q (A.set i o) q' :=
  ⟨by rw [List.length_set]; exact h.len, fun j v cs hq hc => by rw [gc_ne (by have := gc_lt hc; omega)]; exact h.keep j v cs hq hc, h.qs⟩
theorem FrR.mono {H H' : Heap} {fs : List Fm} {q : Option Nat} {fv : V} (h : FrR H fs q fv) (hk : ∀ k ver cs, q = some k → getCells H k ver = some cs → getCells H' k ver = some cs) : FrR H' fs q fv := by
  cases q with
  | none => exact h
  | some k =>
    obtain ⟨h0, ver, rest, h1, h2⟩ := h
    exact ⟨h0, ver, rest, h1, hk k ver _ rfl h2⟩
theorem FrR.local {H : Heap} {fs : List Fm} {q : Option Nat} {fv : V} (h : FrR H fs q fv) (l : Heap) : FrR (H ++ l) fs q fv :=
  h.mono fun _ _ _ _ h => by rw [gc_app (gc_lt h)]; exact h
theorem FrR.lt {H : Heap} {fs : List Fm} {q : Option Nat} {fv : V} (h : FrR H fs q fv) {j : Nat} (hj : H.length ≤ j) : q ≠ some j := by
  cases q with
  | none => intro e; cases e
  | some k =>
    obtain ⟨_, ver, rest, _, h2⟩ := h
    have := gc_lt h2
    intro e; cases e; omega
theorem FrR.set {H : Heap} {fs : List Fm} {q : Option Nat} {fv : V} (h : FrR H fs q fv) {i : Nat} (hi : q ≠ some i) (o : Obj) : FrR (H.set i o) fs q fv :=
  h.mono fun k _ _ e h => by rw [gc_ne (by rintro rfl; exact hi e)]; exact h
theorem FrR.plain {H : Heap} {fs : List Fm} {q : Option Nat} {fv : V} (h : FrR H fs q fv) : plainC fv = true ∧ scal0 fv = true ∧ strip0 fv = fv := by
  cases q with
  | none => rw [h.2]; exact ⟨rfl, rfl, rfl⟩
  | some k => obtain ⟨_, ver, rest, h1, _⟩ := h; rw [h1]; exact ⟨rfl, rfl, rfl⟩

section
variable {H L : Heap} {v i : Nat} {cs : List V} {o : Obj}
theorem gc_loc (i : Nat) : getCells (H ++ L) (H.length + i) v = getCells L i v := by
  unfold getCells; rw [List.getElem?_append_right (by omega), Nat.add_sub_cancel_left]
theorem gc_loc0 : getCells (H ++ L) H.length v = getCells L 0 v := gc_loc 0
theorem set_loc (i : Nat) : (H ++ L).set (H.length + i) o = H ++ L.set i o := by
  rw [List.set_append_right _ _ (by omega), Nat.add_sub_cancel_left]
theorem set_loc0 : (H ++ L).set H.length o = H ++ L.set 0 o := set_loc 0
end
/-- What a state's function answers. -/
def ansR (H : Heap) (q : Option Nat) (s' : LS) (r : V) (H' : Heap) : Prop := ∃ q' fv', r = stV s' fv' ∧ FrR H' s'.fs q' fv' ∧ GrowR H q H' q'
theorem endT_st {R : V → Heap → Prop} {x : X} {l : List (Nat × V)} {d : V} {H : Heap} {t id : Nat} {a b c : V} (hx : (match x with | .exit _ => False | _ => True)) (ht : getE l d t = .ptr id 0 0) (hg : getCells H id 0 = some [a, b, c]) (hR : R (.agg [a, b, c]) (H.set id (.cells 0 [strip0 a, strip0 b, strip0 c]))) :
    endT t 3 true R x ⟨l, d⟩ H :=
  ⟨hx, id, 0, 0, [a, b, c], [a, b, c], .agg [a, b, c], ht, hg, rfl, rfl, hR⟩

theorem made_T {H : Heap} {s : LS} {fv : V} (hp : plainC fv = true) (hs : scal0 fv = true) (h0 : strip0 fv = fv) (hb : s.out.length ≤ 1000000000) (x : List UInt8) (ln co : Int) :
    ∃ r H', T Try.prog 29 [stV s fv, .str x, .agg [.int .i64 ln, .int .i64 co]] H r H' ∧ r = stV { s with out := s.out ++ [mkT x ln co] } fv ∧ ∃ L, H' = H ++ L := by
  refine T.of_take mix c29 rfl rfl ?_
  generalize hK : endT _ _ _ _ = K
  unfold v29 stV
  simp only [go_sem, ↓reduceIte, toksV, List.append_assoc, gc_loc0, gc_loc, ↓gc_z, ↓gc_s, set_loc0, set_loc, hp, hs, h0, run_buildSlG, elems_agg, exX_some]
  refine ⟨by simp [fits]; omega, ?_⟩
  rw [← hK]
  have e := toks_snoc s.out (mkT x ln co)
  simp only [mkT, tokC] at e
  simp only [e]
  refine endT_st (id := H.length + 2) trivial rfl (gc_loc 2) ⟨rfl, _, set_loc 2⟩

section
variable {H L : Heap} {v k : Nat} {cs : List V} {o b : Obj}
theorem gc_locS (i : Nat) : getCells (H.set k b ++ L) (H.length + i) v = getCells L i v := by
  have := gc_loc (H := H.set k b) (L := L) (v := v) i
  rwa [List.length_set] at this
theorem gc_locS0 : getCells (H.set k b ++ L) H.length v = getCells L 0 v := gc_locS 0
theorem set_locS (i : Nat) : (H.set k b ++ L).set (H.length + i) o = H.set k b ++ L.set i o := by
  have := set_loc (H := H.set k b) (L := L) (o := o) i
  rwa [List.length_set] at this
theorem set_locS0 : (H.set k b ++ L).set H.length o = H.set k b ++ L.set 0 o := set_locS 0
theorem gc_low (h : getCells H k v = some cs) : getCells (H ++ L) k v = some cs := by rw [gc_app (gc_lt h)]; exact h
theorem set_low (h : k < H.length) : (H ++ L).set k o = H.set k o ++ L := List.set_append_left _ _ h
end
theorem FrR.push_heap {fs : List Fm} {f : Fm} {rest : List Fm} : (frL (fs.reverse ++ rest)).take (fs.length * 2) ++ [[V.str (nm f.k), V.int .i64 f.co]].flatten = frL ((f :: fs).reverse ++ []) := by
  rw [frL_app, List.take_append_of_le_length (by rw [frL_len]; simp), List.take_of_length_le (by rw [frL_len]; simp)]
  simp [frL, frC]
theorem pushed_T {H : Heap} {s : LS} {q : Option Nat} {fv : V} (h : FrR H s.fs q fv) (hb : s.fs.length ≤ 1000000000) (f : Fm) (hf : f.k ≤ 6) :
    ∃ r H', T Try.prog 45 [stV s fv, .str (nm f.k), .int .i64 f.co] H r H' ∧ ansR H q { s with fs := f :: s.fs } r H' := by
  refine T.of_take mix c45 rfl rfl ?_
  generalize hK : endT _ _ _ _ = K
  unfold v45 stV
  cases q with
  | none =>
    obtain ⟨hfs, rfl⟩ := h
    simp only [go_sem, ↓reduceIte, toksV, List.append_assoc, gc_loc0, gc_loc, ↓gc_z, ↓gc_s, set_loc0, set_loc, run_buildSlG, elems_agg, exX_some]
    refine ⟨by simp [fits], ?_⟩
    rw [← hK]
    refine endT_st (id := H.length + 1) trivial rfl (gc_loc 1) ⟨some (H.length + 2), .hsl (H.length + 2) 0 0 1 2, rfl, ⟨?_, 0, [], ?_, ?_⟩, ?_⟩
    · intro g hg
      rw [hfs] at hg; simp at hg; rw [hg]; exact hf
    · simp [hfs]
    · rw [set_loc 1, gc_loc 2, hfs]; simp [getCells, frL, frC]
    · rw [set_loc 1]
      exact ⟨by simp, fun i v cs _ hc => by rw [gc_app (gc_lt hc)]; exact hc, .inr ⟨rfl, _, rfl, by omega⟩⟩
  | some k =>
    obtain ⟨hk6, ver, rest, rfl, h3⟩ := h
    have hlow := fun L => gc_low (L := L) h3
    have hsl := fun (o : Obj) (L : Heap) => set_low (o := o) (L := L) (gc_lt h3)
    simp only [go_sem, ↓reduceIte, toksV, List.append_assoc, gc_loc0, gc_loc, gc_locS0, gc_locS, ↓gc_z, ↓gc_s, set_loc0, set_loc, set_locS0, set_locS, run_buildSlG, elems_agg, exX_some, hlow, hsl]
    refine ⟨by simp [fits]; omega, by rw [frL_len]; simp; omega, ?_⟩
    rw [← hK, FrR.push_heap]
    have hkl := gc_lt h3
    refine endT_st (id := H.length + 1) trivial rfl (gc_locS 1) ⟨some k, .hsl k (ver + 1) 0 (s.fs.length + 1) 2, rfl, ⟨?_, ver + 1, [], ?_, ?_⟩, ?_⟩
    · intro g hg
      rcases List.mem_cons.1 hg with rfl | hg
      · exact hf
      · exact hk6 g hg
    · simp
    · rw [set_locS 1, gc_app (by simpa using hkl), gc_same hkl]
    · rw [set_locS 1]
      exact ⟨by simp, fun i v cs hq hc => by rw [gc_app (by simpa using gc_lt hc), gc_ne (fun e => hq (by rw [e]))]; exact hc, .inl rfl⟩
end Go.Proofs.Ytdmnacjpgaopfaa.Vm
namespace Go.Proofs.Ytdmnacjpgaopfaa.Vm
open Go
set_option linter.unusedSimpArgs false

theorem frL_get : ∀ (l : List Fm) (i : Nat), (frL l)[i * 2]? = l[i]?.map (fun f => V.str (nm f.k)) ∧ (frL l)[i * 2 + 1]? = l[i]?.map (fun f => V.int .i64 f.co)
  | [], i => by simp [frL]
  | f :: l, 0 => by simp [frL, frC]
  | f :: l, i + 1 => by
    have h := frL_get l i
    have e : frL (f :: l) = V.str (nm f.k) :: V.int .i64 f.co :: frL l := by simp [frL, frC]
    rw [e, show (i + 1) * 2 = i * 2 + 1 + 1 by omega]
    simpa using h
/-- The frames in memory at a place, from the bottom on. -/
theorem fr_at {fs rest : List Fm} {pre : List Fm} {f : Fm} {r : List Fm} (h : fs = pre ++ f :: r) : (frL (fs.reverse ++ rest))[r.length * 2]? = some (.str (nm f.k)) ∧ (frL (fs.reverse ++ rest))[r.length * 2 + 1]? = some (.int .i64 f.co) := by
  have e : (fs.reverse ++ rest)[r.length]? = some f := by
    rw [h, List.reverse_append, List.reverse_cons, List.append_assoc, List.append_assoc, List.getElem?_append_right (by simp), List.length_reverse, Nat.sub_self]; rfl
  obtain ⟨h1, h2⟩ := frL_get (fs.reverse ++ rest) r.length
  rw [h1, h2, e]; exact ⟨rfl, rfl⟩
theorem take_two {l : List V} {i : Nat} {a b : V} (h1 : l[i]? = some a) (h2 : l[i + 1]? = some b) : (l.drop i).take 2 = [a, b] := by
  obtain ⟨k1, e1⟩ := List.getElem?_eq_some_iff.1 h1
  obtain ⟨k2, e2⟩ := List.getElem?_eq_some_iff.1 h2
  rw [List.drop_eq_getElem_cons k1, List.drop_eq_getElem_cons k2, e1, e2]; rfl
theorem split_at {fs : List Fm} {i : Nat} (h : i < fs.length) : ∃ pre f r, fs = pre ++ f :: r ∧ r.length = i := by
  refine ⟨fs.take (fs.length - 1 - i), fs[fs.length - 1 - i], fs.drop (fs.length - 1 - i + 1), ?_, by simp; omega⟩
  rw [← List.drop_eq_getElem_cons (by omega), List.take_append_drop]
theorem split_last {fs : List Fm} {m : Nat} (h : m + 1 ≤ fs.length) : ∃ f, fs.drop (fs.length - (m + 1)) = f :: fs.drop (fs.length - m) := by
  refine ⟨fs[fs.length - (m + 1)], ?_⟩
  rw [List.drop_eq_getElem_cons (by omega)]
  congr 2; omega

def topF : List Fm → List UInt8 × Int
  | [] => ([], 0)
  | f :: r => if isBlk f then (nm f.k, f.co) else topF r
theorem blk_nm {f : Fm} (h : f.k ≤ 6) : (nm f.k == nm 0 || nm f.k == nm 1) = isBlk f := by
  rw [nm_eq h (by omega), nm_eq h (by omega)]; rfl
theorem endT_2 {R : V → Heap → Prop} {x : X} {l : List (Nat × V)} {d : V} {H : Heap} {t id : Nat} {a b : V} (hx : (match x with | .exit _ => False | _ => True)) (ht : getE l d t = .ptr id 0 0) (hg : getCells H id 0 = some [a, b]) (hR : R (.agg [a, b]) (H.set id (.cells 0 [strip0 a, strip0 b]))) :
    endT t 2 true R x ⟨l, d⟩ H :=
  ⟨hx, id, 0, 0, [a, b], [a, b], .agg [a, b], ht, hg, rfl, rfl, hR⟩

theorem top_T {H : Heap} {fs : List Fm} {q : Option Nat} {fv : V} (h : FrR H fs q fv) (hb : fs.length ≤ 1000000000) :
    ∃ r H', T Try.prog 43 [fv] H r H' ∧ r = .agg [.str (topF fs).1, .int .i64 (topF fs).2] ∧ ∃ L, H' = H ++ L := by
  refine T.of_take mix c43 rfl rfl ?_
  generalize hK : endT _ _ _ _ = K
  unfold v43
  have hend : ∀ (a : List UInt8 × Int) (E : List (Nat × V)), a = topF fs → K .ret ⟨(2, .ptr H.length 0 0) :: E, .u⟩ (H ++ [.cells 0 [.str a.1, .int .i64 a.2], .cells 0 [.str a.1, .int .i64 a.2]]) := by
    rintro a E rfl
    rw [← hK]
    exact endT_2 (id := H.length) trivial rfl gc_loc0 ⟨rfl, _, set_loc0⟩
  cases q with
  | none =>
    obtain ⟨hfs, rfl⟩ := h
    simp only [go_sem, ↓reduceIte, List.append_assoc, gc_loc0, gc_loc, ↓gc_z, ↓gc_s, set_loc0, set_loc]
    refine WP.loop' (fun _ E H' => H' = H ++ [.cells 0 [.str [], .int .i64 0], .cells 0 [.str [], .int .i64 0]] ∧ ∃ ex, E = ⟨(0, .nilh 2) :: (2, .ptr H.length 0 0) :: (3, .ptr (H.length + 1) 0 0) :: (4, .int .i64 0) :: ex, .u⟩) (n := 0) ⟨rfl, _, rfl⟩ ?_
    rintro n E H' ⟨rfl, ex, rfl⟩
    simp only [go_sem, ↓reduceIte, List.append_assoc, gc_loc0, gc_loc, ↓gc_z, ↓gc_s, set_loc0, set_loc]
    exact ⟨fun h => absurd h (by omega), fun _ => hend ([], 0) [] (by rw [hfs]; rfl)⟩
  | some k =>
    obtain ⟨hk6, ver, rest, rfl, h3⟩ := h
    have hlow := fun L => gc_low (L := L) h3
    simp only [go_sem, ↓reduceIte, List.append_assoc, gc_loc0, gc_loc, ↓gc_z, ↓gc_s, set_loc0, set_loc, hlow]
    refine WP.loop' (fun n E H' => ∃ i a ex, i + n = fs.length ∧ a = topF (fs.drop n) ∧ H' = H ++ [.cells 0 [.str [], .int .i64 0], .cells 0 [.str a.1, .int .i64 a.2]] ∧
      E = ⟨(0, .hsl k ver 0 fs.length 2) :: (2, .ptr H.length 0 0) :: (3, .ptr (H.length + 1) 0 0) :: (4, .int .i64 i) :: ex, .u⟩) (n := fs.length) ⟨0, ([], 0), _, by omega, by simp [topF], rfl, rfl⟩ ?_
    rintro n E H' ⟨i, a, ex, hi, rfl, rfl, rfl⟩
    have hwi := inc64 (i := i) (by omega)
    simp only [go_sem, ↓reduceIte, List.append_assoc, gc_loc0, gc_loc, ↓gc_z, ↓gc_s, set_loc0, set_loc, hlow, ↓run_addW, hwi, Int.toNat_natCast]
    by_cases hil : i < fs.length
    · obtain ⟨m, rfl⟩ : ∃ m, n = m + 1 := ⟨n - 1, by omega⟩
      obtain ⟨f, hf⟩ : ∃ f, fs.drop m = f :: fs.drop (m + 1) := ⟨_, List.drop_eq_getElem_cons (by omega)⟩
      have hsp : fs = fs.take m ++ f :: fs.drop (m + 1) := by rw [← hf, List.take_append_drop]
      have hlen : (fs.drop (m + 1)).length = i := by simp; omega
      obtain ⟨g0, g1⟩ := fr_at (rest := rest) hsp
      rw [hlen] at g0 g1
      have hf6 : f.k ≤ 6 := hk6 f (by rw [hsp]; simp)
      have e0 : (nm f.k == [98, 108, 111, 99, 107]) = (f.k == 0) := nm_eq hf6 (j := 0) (by omega)
      have e1 : (nm f.k == [123]) = (f.k == 1) := nm_eq hf6 (j := 1) (by omega)
      refine ⟨fun _ => ⟨by omega, by omega, ?_⟩, fun h => absurd h (by omega)⟩
      simp only [go_sem, ↓reduceIte, List.append_assoc, gc_loc0, gc_loc, ↓gc_z, ↓gc_s, set_loc0, set_loc, hlow, g0, g1, e0, ↓run_addW, hwi, Int.toNat_natCast]
      have g2 := take_two g0 g1
      have hlen2 : i * 2 + 2 ≤ (frL (fs.reverse ++ rest)).length := by rw [frL_len]; simp; omega
      have hyes : isBlk f = true → topF (f :: fs.drop (m + 1)) = (nm f.k, f.co) := fun h => by rw [topF, if_pos h]
      have hno : isBlk f = false → topF (f :: fs.drop (m + 1)) = topF (fs.drop (m + 1)) := fun h => by rw [topF, if_neg (by rw [h]; simp)]
      cases h0 : f.k == 0 with
      | true =>
        simp only [go_sem, ↓reduceIte, List.append_assoc, gc_loc0, gc_loc, ↓gc_z, ↓gc_s, set_loc0, set_loc, hlow, g0, g1, e0, ↓run_addW, hwi, Int.toNat_natCast]
        refine ⟨by omega, by omega, hlen2, ?_⟩
        simp only [go_sem, ↓reduceIte, List.append_assoc, gc_loc0, gc_loc, ↓gc_z, ↓gc_s, set_loc0, set_loc, hlow, g0, g1, g2, e0, ↓run_addW, hwi, Int.toNat_natCast, List.map_cons, List.map_nil]
        exact ⟨m, by omega, i + 1, (nm f.k, f.co), [], by omega, by rw [hf, hyes (by unfold isBlk; rw [h0]; rfl)], rfl, rfl⟩
      | false =>
        simp only [go_sem, ↓reduceIte, List.append_assoc, gc_loc0, gc_loc, ↓gc_z, ↓gc_s, set_loc0, set_loc, hlow, g0, g1, e0, e1, ↓run_addW, hwi, Int.toNat_natCast]
        cases h1 : f.k == 1 with
        | true =>
          simp only [go_sem, ↓reduceIte, List.append_assoc, gc_loc0, gc_loc, ↓gc_z, ↓gc_s, set_loc0, set_loc, hlow, g0, g1, e0, e1, ↓run_addW, hwi, Int.toNat_natCast]
          refine ⟨by omega, by omega, by omega, by omega, hlen2, ?_⟩
          simp only [go_sem, ↓reduceIte, List.append_assoc, gc_loc0, gc_loc, ↓gc_z, ↓gc_s, set_loc0, set_loc, hlow, g0, g1, g2, e0, ↓run_addW, hwi, Int.toNat_natCast, List.map_cons, List.map_nil]
          exact ⟨m, by omega, i + 1, (nm f.k, f.co), [], by omega, by rw [hf, hyes (by unfold isBlk; rw [h0, h1]; rfl)], rfl, rfl⟩
        | false =>
          simp only [go_sem, ↓reduceIte, List.append_assoc, gc_loc0, gc_loc, ↓gc_z, ↓gc_s, set_loc0, set_loc, hlow, g0, g1, e0, e1, ↓run_addW, hwi, Int.toNat_natCast]
          exact ⟨by omega, by omega, m, by omega, i + 1, _, [], by omega, by rw [hf, hno (by unfold isBlk; rw [h0, h1]; rfl)], rfl, rfl⟩
    · refine ⟨fun h => absurd h (by omega), fun _ => ?_⟩
      have : n = 0 := by omega
      subst this
      simp only [go_sem, ↓reduceIte, List.append_assoc, gc_loc0, gc_loc, ↓gc_z, ↓gc_s, set_loc0, set_loc, hlow]
      exact hend _ [] rfl
end Go.Proofs.Ytdmnacjpgaopfaa.Vm
namespace Go.Proofs.Ytdmnacjpgaopfaa.Vm
open Go
set_option linter.unusedSimpArgs false

theorem dropF_yes {f : Fm} {r : List Fm} (h : isBlk f = true) : dropF (f :: r) = r := by rw [dropF, if_pos h]
theorem dropF_no {f : Fm} {r : List Fm} (h : isBlk f = false) : dropF (f :: r) = dropF r := by rw [dropF, if_neg (by rw [h]; simp)]
theorem dropF_suf : ∀ fs : List Fm, ∃ pre, fs = pre ++ dropF fs
  | [] => ⟨[], rfl⟩
  | f :: r => by
    cases h : isBlk f with
    | true => exact ⟨[f], by rw [dropF_yes h]; rfl⟩
    | false =>
      obtain ⟨pre, e⟩ := dropF_suf r
      exact ⟨f :: pre, by rw [dropF_no h, List.cons_append, ← e]⟩
theorem FrR.pop {H : Heap} {fs : List Fm} {k ver : Nat} {rest : List Fm} (h6 : ∀ f ∈ fs, f.k ≤ 6) (h3 : getCells H k ver = some (frL (fs.reverse ++ rest))) {pre r : List Fm} (hfs : fs = pre ++ r) : FrR H r (some k) (.hsl k ver 0 r.length 2) := by
  refine ⟨fun f hf => h6 f (by rw [hfs]; exact List.mem_append_right _ hf), ver, pre.reverse ++ rest, rfl, ?_⟩
  rw [h3, hfs, List.reverse_append, List.append_assoc]

theorem dropped_T {H : Heap} {fs : List Fm} {k : Nat} {fv : V} (h : FrR H fs (some k) fv) (hb : fs.length ≤ 1000000000) :
    ∃ fv', T Try.prog 47 [fv] H fv' H ∧ FrR H (dropF fs) (some k) fv' := by
  obtain ⟨hk6, ver, rest, rfl, h3⟩ := h
  obtain ⟨pre0, hpre⟩ := dropF_suf fs
  have hk := gc_lt h3
  refine ⟨.hsl k ver 0 (dropF fs).length 2, ?_, FrR.pop hk6 h3 hpre⟩
  refine T.of mix c47 rfl ?_
  unfold v47
  simp only [go_sem, ↓reduceIte]
  refine WP.loop' (fun n E H' => H' = H ∧ ∃ i ex, i + n = fs.length ∧
      E = ⟨(0, .hsl k ver 0 fs.length 2) :: (3, .int .i64 ((dropF (fs.drop n)).length : Nat)) :: (4, .int .i64 i) :: ex, .u⟩) (n := fs.length) ⟨rfl, 0, [], by omega, by simp [dropF]⟩ ?_
  rintro n E H' ⟨rfl, i, ex, hi, rfl⟩
  have hwi := inc64 (i := i) (by omega)
  simp only [go_sem, ↓reduceIte, ↓h3, ↓run_addW, hwi, Int.toNat_natCast]
  by_cases hil : i < fs.length
  · obtain ⟨m, rfl⟩ : ∃ m, n = m + 1 := ⟨n - 1, by omega⟩
    obtain ⟨f, hf⟩ : ∃ f, fs.drop m = f :: fs.drop (m + 1) := ⟨_, List.drop_eq_getElem_cons (by omega)⟩
    have hsp : fs = fs.take m ++ f :: fs.drop (m + 1) := by rw [← hf, List.take_append_drop]
    have hlen : (fs.drop (m + 1)).length = i := by simp; omega
    obtain ⟨g0, g1⟩ := fr_at (rest := rest) hsp
    rw [hlen] at g0 g1
    have hf6 : f.k ≤ 6 := hk6 f (by rw [hsp]; simp)
    have e0 : (nm f.k == [98, 108, 111, 99, 107]) = (f.k == 0) := nm_eq hf6 (j := 0) (by omega)
    have e1 : (nm f.k == [123]) = (f.k == 1) := nm_eq hf6 (j := 1) (by omega)
    refine ⟨fun _ => ⟨by omega, by omega, ?_⟩, fun h => absurd h (by omega)⟩
    simp only [go_sem, ↓reduceIte, ↓h3, g0, g1, e0, ↓run_addW, hwi, Int.toNat_natCast]
    cases h0 : f.k == 0 with
    | true =>
      simp only [go_sem, ↓reduceIte, ↓h3, g0, g1, e0, ↓run_addW, hwi, Int.toNat_natCast]
      exact ⟨m, by omega, i + 1, [], by omega, by rw [hf, dropF_yes (by unfold isBlk; rw [h0]; rfl), hlen]⟩
    | false =>
      simp only [go_sem, ↓reduceIte, ↓h3, g0, g1, e0, e1, ↓run_addW, hwi, Int.toNat_natCast]
      cases h1 : f.k == 1 with
      | true =>
        simp only [go_sem, ↓reduceIte, ↓h3, g0, g1, e0, e1, ↓run_addW, hwi, Int.toNat_natCast]
        exact ⟨by omega, by omega, m, by omega, i + 1, [], by omega, by rw [hf, dropF_yes (by unfold isBlk; rw [h0, h1]; rfl), hlen]⟩
      | false =>
        simp only [go_sem, ↓reduceIte, ↓h3, g0, g1, e0, e1, ↓run_addW, hwi, Int.toNat_natCast]
        exact ⟨by omega, by omega, m, by omega, i + 1, _, by omega, by rw [hf, dropF_no (by unfold isBlk; rw [h0, h1]; rfl)]⟩
  · refine ⟨fun h => absurd h (by omega), fun _ => ?_⟩
    have : n = 0 := by omega
    subst this
    have hle : (dropF fs).length ≤ fs.length := by
      have e := congrArg List.length hpre
      rw [List.length_append] at e; omega
    simp only [go_sem, ↓reduceIte, ↓h3, List.drop_zero, Int.toNat_natCast]
    exact ⟨⟨by omega, by omega⟩, _, by simp [fixV, hk], rfl⟩

/-! ### closed -/
def lastI (w : Nat) : List Fm → Int
  | [] => -1
  | f :: r => if f.k = w then (r.length : Int) else lastI w r
theorem lastI_none {w : Nat} : ∀ {fs : List Fm} (b : List Nat), lastI w fs = -1 → closeF w b fs = none
  | [], _, _ => rfl
  | f :: r, b, h => by
    rw [lastI] at h
    split at h
    · omega
    · rename_i hw
      rw [closeF, if_neg hw, lastI_none b h]
      split <;> rfl
theorem lastI_some {w : Nat} : ∀ {fs : List Fm}, lastI w fs ≠ -1 → ∃ pre f r, fs = pre ++ f :: r ∧ f.k = w ∧ (∀ g ∈ pre, g.k ≠ w) ∧ lastI w fs = r.length
  | [], h => absurd rfl h
  | f :: r, h => by
    rw [lastI] at h
    split at h
    · rename_i hw
      exact ⟨[], f, r, rfl, hw, fun _ h => (nomatch h), by rw [lastI, if_pos hw]⟩
    · rename_i hw
      obtain ⟨pre, g, r', e, h1, h2, h3⟩ := lastI_some h
      exact ⟨f :: pre, g, r', by rw [e]; rfl, h1, fun x hx => by
        rcases List.mem_cons.1 hx with rfl | hx
        · exact hw
        · exact h2 x hx, by rw [lastI, if_neg hw, h3]⟩
theorem closeF_bar {w : Nat} {b : List Nat} {f : Fm} {r : List Fm} (hf : f.k = w) : ∀ {pre : List Fm}, (∀ g ∈ pre, g.k ≠ w) → (∃ g ∈ pre, b.contains g.k = true) → closeF w b (pre ++ f :: r) = none
  | [], _, ⟨_, h, _⟩ => nomatch h
  | g :: pre, h1, ⟨x, hx, hb⟩ => by
    rw [List.cons_append, closeF, if_neg (h1 g (List.mem_cons_self ..))]
    split
    · rfl
    · rename_i hg
      rcases List.mem_cons.1 hx with rfl | hx
      · exact absurd hb hg
      · rw [closeF_bar hf (fun y hy => h1 y (List.mem_cons_of_mem _ hy)) ⟨x, hx, hb⟩]; rfl
theorem closeF_ok {w : Nat} {b : List Nat} {f : Fm} {r : List Fm} (hf : f.k = w) : ∀ {pre : List Fm}, (∀ g ∈ pre, g.k ≠ w) → (∀ g ∈ pre, b.contains g.k = false) → closeF w b (pre ++ f :: r) = some (laidN pre, r)
  | [], _, _ => by rw [List.nil_append, closeF, if_pos hf]; rfl
  | g :: pre, h1, h2 => by
    rw [List.cons_append, closeF, if_neg (h1 g (List.mem_cons_self ..)), if_neg (by rw [h2 g (List.mem_cons_self ..)]; simp), closeF_ok hf (fun y hy => h1 y (List.mem_cons_of_mem _ hy)) (fun y hy => h2 y (List.mem_cons_of_mem _ hy))]
    simp only [Option.map_some, laidN, List.filter_cons, beq_iff_eq]
    split <;> simp

def barS (o : Bool) (b : List Nat) : V := .sl o 1 (b.map fun x => [V.str (nm x)])
theorem FrR.len0 {H : Heap} {fs : List Fm} {fv : V} (h : FrR H fs none fv) : fs = [] ∧ fv = .nilh 2 := h
theorem closed_T {H : Heap} {s : LS} {q : Option Nat} {fv : V} (h : FrR H s.fs q fv) (hb : s.out.length + s.fs.length ≤ 1000000000) (o : Bool) {w : Nat} (hw : w ≤ 6) (b : List Nat) (hb6 : ∀ x ∈ b, x ≤ 6) (hbl : b.length ≤ 10) (ln co : Int) :
    ∃ r H', T Try.prog 50 [stV s fv, .str (nm w), barS o b, .agg [.int .i64 ln, .int .i64 co]] H r H' ∧
      (∃ s' fv', r = stV s' fv' ∧ FrR H' s'.fs q fv' ∧ s' = (match closeF w b s.fs with | none => s | some (n, fs) => { s with out := s.out ++ List.replicate n (mkT bShut ln co), fs := fs })) ∧ ∃ L, H' = H ++ L := by
  refine T.of_take mix c50 rfl rfl ?_
  generalize hK : endT _ _ _ _ = K
  have hend : ∀ (s' : LS) (fv' : V) (x y : Obj) (L : Heap) (E : List (Nat × V)), FrR H s'.fs q fv' → s' = (match closeF w b s.fs with | none => s | some (n, fs) => { s with out := s.out ++ List.replicate n (mkT bShut ln co), fs := fs }) →
      K .ret ⟨(8, .ptr (H.length + 2) 0 0) :: E, .u⟩ (H ++ x :: y :: .cells 0 [toksV true s'.out, fv', .bool s'.due] :: L) := by
    intro s' fv' x y L E hf hs
    rw [← hK]
    refine endT_st (id := H.length + 2) trivial rfl (gc_loc 2) ⟨⟨s', fv', rfl, ?_, hs⟩, _, set_loc 2⟩
    rw [set_loc 2]
    exact hf.local _
  have hfr := h
  unfold v50 stV
  cases q with
  | none =>
    obtain ⟨hfs, rfl⟩ := h
    simp only [go_sem, ↓reduceIte, toksV, barS, List.append_assoc, gc_loc0, gc_loc, ↓gc_z, ↓gc_s, set_loc0, set_loc]
    refine WP.loop' (fun _ E H' => H' = H ++ [.cells 0 [.sl true 6 (List.map tokC s.out), .nilh 2, .bool s.due], .cells 0 [.int .i64 ln, .int .i64 co], .cells 0 [.sl true 6 [], .nilh 2, .bool false]] ∧ ∃ ex, E = ⟨(1, .str (nm w)) :: (2, barS o b) :: (4, .ptr H.length 0 0) :: (7, .ptr (H.length + 1) 0 0) :: (8, .ptr (H.length + 2) 0 0) :: (9, .int .i64 0) :: (10, .int .i64 (-1)) :: (11, .int .i64 0) :: ex, .u⟩) (n := 0) ⟨rfl, _, rfl⟩ ?_
    rintro n E H' ⟨rfl, ex, rfl⟩
    have hm : (-1 : Int) < 0 ↔ True := by simp
    simp only [go_sem, ↓reduceIte, toksV, barS, List.append_assoc, gc_loc0, gc_loc, ↓gc_z, ↓gc_s, set_loc0, set_loc, hm, decide_true, List.map_cons, List.map_nil]
    refine ⟨fun h => absurd h (by omega), fun _ => ?_⟩
    exact hend s (.nilh 2) _ _ [] _ hfr (by rw [hfs]; rfl)
  | some k =>
    obtain ⟨hk6, ver, rest, rfl, h3⟩ := h
    have hlow := fun L => gc_low (L := L) h3
    simp only [go_sem, ↓reduceIte, toksV, barS, List.append_assoc, gc_loc0, gc_loc, ↓gc_z, ↓gc_s, set_loc0, set_loc, hlow]
    refine WP.loop' (fun n E H' => H' = H ++ [.cells 0 [.sl true 6 (List.map tokC s.out), .hsl k ver 0 s.fs.length 2, .bool s.due], .cells 0 [.int .i64 ln, .int .i64 co], .cells 0 [.sl true 6 [], .nilh 2, .bool false]] ∧ ∃ i ex, i + n = s.fs.length ∧
      E = ⟨(1, .str (nm w)) :: (2, barS o b) :: (4, .ptr H.length 0 0) :: (7, .ptr (H.length + 1) 0 0) :: (8, .ptr (H.length + 2) 0 0) :: (9, .int .i64 s.fs.length) :: (10, .int .i64 (lastI w (s.fs.drop n))) :: (11, .int .i64 i) :: ex, .u⟩) (n := s.fs.length) ⟨rfl, 0, [], by omega, by simp [lastI, barS]⟩ ?_
    rintro n E H' ⟨rfl, i, ex, hi, rfl⟩
    have hwi := inc64 (i := i) (by omega)
    simp only [go_sem, ↓reduceIte, toksV, barS, List.append_assoc, gc_loc0, gc_loc, ↓gc_z, ↓gc_s, set_loc0, set_loc, hlow, ↓run_addW, hwi, Int.toNat_natCast]
    by_cases hil : i < s.fs.length
    · obtain ⟨m, rfl⟩ : ∃ m, n = m + 1 := ⟨n - 1, by omega⟩
      obtain ⟨f, hf⟩ : ∃ f, s.fs.drop m = f :: s.fs.drop (m + 1) := ⟨_, List.drop_eq_getElem_cons (by omega)⟩
      have hsp : s.fs = s.fs.take m ++ f :: s.fs.drop (m + 1) := by rw [← hf, List.take_append_drop]
      have hlen : (s.fs.drop (m + 1)).length = i := by simp; omega
      obtain ⟨g0, g1⟩ := fr_at (rest := rest) hsp
      rw [hlen] at g0 g1
      have hf6 : f.k ≤ 6 := hk6 f (by rw [hsp]; simp)
      have e0 : (nm f.k == nm w) = (f.k == w) := nm_eq hf6 hw
      refine ⟨fun _ => ⟨by omega, by omega, ?_⟩, fun h => absurd h (by omega)⟩
      simp only [go_sem, ↓reduceIte, toksV, barS, List.append_assoc, gc_loc0, gc_loc, ↓gc_z, ↓gc_s, set_loc0, set_loc, hlow, g0, g1, e0, ↓run_addW, hwi, Int.toNat_natCast]
      cases h0 : f.k == w with
      | true =>
        simp only [go_sem, ↓reduceIte, ↓run_addW, hwi, Int.toNat_natCast]
        exact ⟨m, by omega, i + 1, [], by omega, by rw [hf, lastI, if_pos (by simpa using h0), hlen]⟩
      | false =>
        simp only [go_sem, ↓reduceIte, ↓run_addW, hwi, Int.toNat_natCast]
        exact ⟨m, by omega, i + 1, [], by omega, by rw [hf, lastI, if_neg (by simpa using h0)]⟩
    · refine ⟨fun h => absurd h (by omega), fun _ => ?_⟩
      have : n = 0 := by omega
      subst this
      simp only [go_sem, ↓reduceIte, toksV, barS, List.append_assoc, gc_loc0, gc_loc, ↓gc_z, ↓gc_s, set_loc0, set_loc, hlow, ↓run_addW, hwi, Int.toNat_natCast, List.drop_zero]
      by_cases hlast : lastI w s.fs = -1
      · have hm : (-1 : Int) < 0 ↔ True := by simp
        rw [hlast]
        simp only [go_sem, ↓reduceIte, toksV, barS, List.append_assoc, gc_loc0, gc_loc, ↓gc_z, ↓gc_s, set_loc0, set_loc, hm, decide_true, List.map_cons, List.map_nil]
        exact hend s _ _ _ [] _ hfr (by rw [lastI_none b hlast])
      · obtain ⟨pre, f, r, hfs, hfw, hpre, hlr⟩ := lastI_some hlast
        have hm : (r.length : Int) < 0 ↔ False := ⟨fun h => by omega, False.elim⟩
        have hwr := inc64 (i := r.length) (by rw [hfs] at hb; simp at hb; omega)
        rw [hlr]
        simp only [go_sem, ↓reduceIte, toksV, barS, List.append_assoc, gc_loc0, gc_loc, ↓gc_z, ↓gc_s, set_loc0, set_loc, hm, decide_false, List.map_cons, List.map_nil, ↓run_addW, hwr]
        have hfl : s.fs.length = pre.length + (r.length + 1) := by rw [hfs]; simp
        refine WP.loop' (fun n E H' => H' = H ++ [.cells 0 [.sl true 6 (List.map tokC s.out), .hsl k ver 0 s.fs.length 2, .bool s.due], .cells 0 [.int .i64 ln, .int .i64 co], .cells 0 [.sl true 6 [], .nilh 2, .bool false]] ∧ ∃ i ex, i + n = s.fs.length ∧ n ≤ pre.length ∧ (∀ g ∈ pre.drop n, b.contains g.k = false) ∧
          E = ⟨(2, barS o b) :: (4, .ptr H.length 0 0) :: (7, .ptr (H.length + 1) 0 0) :: (8, .ptr (H.length + 2) 0 0) :: (9, .int .i64 s.fs.length) :: (10, .int .i64 r.length) :: (12, .int .i64 i) :: ex, .u⟩) (n := pre.length) ⟨rfl, r.length + 1, [], by omega, Nat.le_refl _, by simp, by simp [barS]⟩ ?_
        rintro n E H' ⟨rfl, i, ex, hi, hn, hno, rfl⟩
        have hwi := inc64 (i := i) (by omega)
        simp only [go_sem, ↓reduceIte, toksV, barS, List.append_assoc, gc_loc0, gc_loc, ↓gc_z, ↓gc_s, set_loc0, set_loc, hlow, ↓run_addW, hwi, Int.toNat_natCast]
        by_cases hil : i < s.fs.length
        · obtain ⟨m, rfl⟩ : ∃ m, n = m + 1 := ⟨n - 1, by omega⟩
          obtain ⟨g, hg⟩ : ∃ g, pre.drop m = g :: pre.drop (m + 1) := ⟨_, List.drop_eq_getElem_cons (by omega)⟩
          have hsp : s.fs = pre.take m ++ g :: (pre.drop (m + 1) ++ f :: r) := by
            rw [hfs]
            conv => lhs; rw [← List.take_append_drop m pre, hg]
            simp
          have hlen : (pre.drop (m + 1) ++ f :: r).length = i := by simp; omega
          obtain ⟨g0, g1⟩ := fr_at (rest := rest) hsp
          rw [hlen] at g0 g1
          have hg6 : g.k ≤ 6 := hk6 g (by rw [hsp]; simp)
          have hgm : g ∈ pre := by rw [← List.take_append_drop m pre, hg]; simp
          refine ⟨fun _ => ?_, fun h => absurd h (by omega)⟩
          refine WP.loop' (fun m2 E H' => H' = H ++ [.cells 0 [.sl true 6 (List.map tokC s.out), .hsl k ver 0 s.fs.length 2, .bool s.due], .cells 0 [.int .i64 ln, .int .i64 co], .cells 0 [.sl true 6 [], .nilh 2, .bool false]] ∧ ∃ j ex, j + m2 = b.length ∧ (∀ x ∈ b.take j, x ≠ g.k) ∧
            E = ⟨(2, barS o b) :: (4, .ptr H.length 0 0) :: (7, .ptr (H.length + 1) 0 0) :: (8, .ptr (H.length + 2) 0 0) :: (9, .int .i64 s.fs.length) :: (10, .int .i64 r.length) :: (12, .int .i64 i) :: (13, .int .i64 j) :: ex, .u⟩) (n := b.length) ⟨rfl, 0, [], by omega, by simp, by simp [barS]⟩ ?_
          rintro m2 E H' ⟨rfl, j, ex, hj, hnj, rfl⟩
          have hwj := inc64 (i := j) (by omega)
          simp only [go_sem, ↓reduceIte, toksV, barS, List.append_assoc, gc_loc0, gc_loc, ↓gc_z, ↓gc_s, set_loc0, set_loc, hlow, ↓run_addW, hwi, hwj, Int.toNat_natCast, g0, g1]
          by_cases hjl : j < b.length
          · obtain ⟨x, hx⟩ : ∃ x, b[j]? = some x := ⟨_, List.getElem?_eq_getElem hjl⟩
            have hxb : x ∈ b := List.mem_of_getElem? hx
            have e0 : (nm g.k == nm x) = (g.k == x) := nm_eq hg6 (hb6 x hxb)
            refine ⟨fun _ => ⟨by omega, by omega, ?_⟩, fun h => absurd h (by omega)⟩
            simp only [go_sem, ↓reduceIte, ↓ex_map, toksV, barS, List.append_assoc, gc_loc0, gc_loc, ↓gc_z, ↓gc_s, set_loc0, set_loc, hlow, ↓run_addW, hwi, hwj, Int.toNat_natCast, g0, g1]
            refine ⟨by omega, x, hx, ?_⟩
            simp only [go_sem, ↓reduceIte, e0]
            cases h0 : g.k == x with
            | true =>
              simp only [go_sem, ↓reduceIte, toksV, barS, List.append_assoc, gc_loc0, gc_loc, ↓gc_z, ↓gc_s, set_loc0, set_loc, List.map_cons, List.map_nil]
              have hgx : g.k = x := by simpa using h0
              exact hend s _ _ _ [] _ hfr (by rw [hfs, closeF_bar hfw hpre ⟨g, hgm, by rw [hgx]; simpa using hxb⟩])
            | false =>
              simp only [go_sem, ↓reduceIte, ↓run_addW, hwj]
              refine ⟨m2 - 1, by omega, j + 1, [], by omega, ?_, rfl⟩
              intro y hy
              rw [List.take_add_one, hx] at hy
              rcases List.mem_append.1 hy with hy | hy
              · exact hnj y hy
              · simp at hy; subst hy
                intro e; rw [e] at h0; simp at h0
          · refine ⟨fun h => absurd h (by omega), fun _ => ?_⟩
            rw [List.take_of_length_le (by omega)] at hnj
            refine ⟨m, by omega, i + 1, [], by omega, by omega, ?_, rfl⟩
            intro y hy
            rw [hg] at hy
            rcases List.mem_cons.1 hy with rfl | hy
            · simp only [List.contains_eq_mem, decide_eq_false_iff_not]
              intro hm; exact hnj _ hm rfl
            · exact hno y hy
        · refine ⟨fun h => absurd h (by omega), fun _ => ?_⟩
          have : n = 0 := by omega
          subst this
          rw [List.drop_zero] at hno
          have hclose := closeF_ok (r := r) hfw hpre hno
          rw [← hfs] at hclose
          rw [hclose] at hend
          have hd := dec64 (i := s.fs.length) (by omega)
          simp only [go_sem, ↓reduceIte, toksV, barS, List.append_assoc, gc_loc0, gc_loc, ↓gc_z, ↓gc_s, set_loc0, set_loc, hlow, ↓run_subW, hd, Int.toNat_natCast]
          refine ⟨(s.fs.length : Int) - 1, rfl, ?_⟩
          have hret : ∃ rc : Obj, rc = .cells 0 [.sl true 6 [], .nilh 2, .bool false] := ⟨_, rfl⟩
          refine WP.loop' (fun n E H' => ∃ p p2 ex L, pre = p ++ p2 ∧ n = p2.length ∧ H' = H ++ .cells 0 [toksV true (s.out ++ List.replicate (laidN p) (mkT bShut ln co)), .hsl k ver 0 s.fs.length 2, .bool s.due] :: .cells 0 [.int .i64 ln, .int .i64 co] :: .cells 0 [.sl true 6 [], .nilh 2, .bool false] :: L ∧
            E = ⟨(4, .ptr H.length 0 0) :: (7, .ptr (H.length + 1) 0 0) :: (8, .ptr (H.length + 2) 0 0) :: (10, .int .i64 r.length) :: (14, .int .i64 ((r.length : Int) + p2.length)) :: ex, .u⟩) (n := pre.length) ⟨[], pre, [], [], rfl, rfl, by simp [laidN, toksV], by
              have e : (s.fs.length : Int) - 1 = (r.length : Int) + pre.length := by rw [hfl]; omega
              rw [e]⟩ ?_
          rintro n E H' ⟨p, p2, ex, L, hp, rfl, rfl, rfl⟩
          have hlp : laidN p ≤ pre.length := by rw [hp]; unfold laidN; have := List.length_filter_le (fun f : Fm => f.k == 0) p; simp; omega
          simp only [go_sem, ↓reduceIte, toksV, List.append_assoc, gc_loc0, gc_loc, ↓gc_z, ↓gc_s, set_loc0, set_loc, hlow, Int.toNat_natCast]
          cases p2 with
          | nil =>
            refine ⟨fun h => absurd h (by simp), fun _ => ?_⟩
            rw [List.append_nil] at hp
            subst hp
            refine ⟨⟨by omega, by omega⟩, ?_⟩
            exact hend { s with out := s.out ++ List.replicate (laidN pre) (mkT bShut ln co), fs := r } _ _ _ L [] (FrR.pop (pre := pre ++ [f]) hk6 h3 (by rw [hfs]; simp)) rfl
          | cons g p2 =>
            have e : (r.length : Int) + ((g :: p2).length : Nat) = ((r.length + (p2.length + 1) : Nat) : Int) := by simp
            have e2 : ((r.length + (p2.length + 1) : Nat) : Int) - 1 = (r.length : Int) + p2.length := by omega
            have hsp : s.fs = p ++ g :: (p2 ++ f :: r) := by rw [hfs, hp]; simp
            have hlen : (p2 ++ f :: r).length = r.length + (p2.length + 1) := by simp; omega
            obtain ⟨g0, g1⟩ := fr_at (rest := rest) hsp
            rw [hlen] at g0 g1
            have hg6 : g.k ≤ 6 := hk6 g (by rw [hsp]; simp)
            have e0 : (nm g.k == [98, 108, 111, 99, 107]) = (g.k == 0) := nm_eq hg6 (j := 0) (by omega)
            have hpl : pre.length = p.length + (p2.length + 1) := by rw [hp]; simp
            have hd2 := (dec64 (i := r.length + (p2.length + 1)) (by omega)).trans e2
            have hla := laidN_app p [g]
            rw [laidN_one] at hla
            rw [e]
            refine ⟨fun _ => ⟨by omega, by omega, ?_⟩, fun h => absurd h (by omega)⟩
            simp only [go_sem, ↓reduceIte, toksV, List.append_assoc, gc_loc0, gc_loc, ↓gc_z, ↓gc_s, set_loc0, set_loc, hlow, Int.toNat_natCast, g0, g1, e0, ↓run_subW, hd2]
            cases h0 : g.k == 0 with
            | true =>
              have hg0 : g.k = 0 := by simpa using h0
              obtain ⟨x, H7, hT, rfl, L7, rfl⟩ := made_T (H := H ++ .cells 0 [toksV false (s.out ++ List.replicate (laidN p) (mkT bShut ln co)), .hsl k ver 0 s.fs.length 2, .bool s.due] :: .cells 0 [.int .i64 ln, .int .i64 co] :: .cells 0 [.sl true 6 [], .nilh 2, .bool false] :: L)
                (s := { s with out := s.out ++ List.replicate (laidN p) (mkT bShut ln co) }) (fv := .hsl k ver 0 s.fs.length 2) rfl rfl rfl (by simp; omega) bShut ln co
              simp only [go_sem, ↓reduceIte, toksV, List.append_assoc, gc_loc0, gc_loc, ↓gc_z, ↓gc_s, set_loc0, set_loc, hlow, Int.toNat_natCast, ↓run_subW, hd2, List.map_cons, List.map_nil]
              refine ⟨_, _, hT, ?_⟩
              simp only [go_sem, ↓reduceIte, toksV, stV, List.append_assoc, gc_loc0, gc_loc, ↓gc_z, ↓gc_s, set_loc0, set_loc, hlow, Int.toNat_natCast, ↓run_subW, hd2, List.map_cons, List.map_nil]
              refine ⟨p2.length, by simp, p ++ [g], p2, [], L ++ L7, by rw [hp]; simp, rfl, ?_, rfl⟩
              rw [hla, if_pos hg0, List.replicate_succ']
            | false =>
              have hg0 : ¬ g.k = 0 := by simpa using h0
              simp only [go_sem, ↓reduceIte, ↓run_subW, hd2]
              exact ⟨p2.length, by simp, p ++ [g], p2, [], L, by rw [hp]; simp, rfl, by rw [hla, if_neg hg0, Nat.add_zero], rfl⟩
end Go.Proofs.Ytdmnacjpgaopfaa.Vm
namespace Go.Proofs.Ytdmnacjpgaopfaa.Vm
open Go
set_option linter.unusedSimpArgs false

theorem elems_one {a : List UInt8} : elems 1 [.str a] = some [[.str a]] := by simp [elems, solid, scal0, V.cells, inl, plain0, strip0]
theorem elems_two {a b : List UInt8} : elems 1 [.str a, .str b] = some [[.str a], [.str b]] := by simp [elems, solid, scal0, V.cells, inl, plain0, strip0]
theorem FrR.back {H L : Heap} {fs : List Fm} {q : Option Nat} {fv : V} (hq : ∀ k, q = some k → k < H.length) (h : FrR (H ++ L) fs q fv) : FrR H fs q fv := by
  cases q with
  | none => exact h
  | some k =>
    obtain ⟨h0, ver, rest, h1, h2⟩ := h
    rw [gc_app (hq k rfl)] at h2
    exact ⟨h0, ver, rest, h1, h2⟩
theorem FrR.qlt {H : Heap} {fs : List Fm} {q : Option Nat} {fv : V} (h : FrR H fs q fv) : ∀ k, q = some k → k < H.length := by
  rintro k rfl
  obtain ⟨_, ver, rest, _, h2⟩ := h
  exact gc_lt h2
theorem rcloses_T {H : Heap} {s : LS} {q : Option Nat} {fv : V} (h : FrR H s.fs q fv) (hb : s.out.length + s.fs.length ≤ 1000000000) (t : Tok) :
    ∃ r H', T Try.prog 46 [stV s fv, .agg (tokC t)] H r H' ∧ ∃ fv' L, r = stV (closesS s t) fv' ∧ FrR H (closesS s t).fs q fv' ∧ H' = H ++ L := by
  refine T.of_take mix c46 rfl rfl ?_
  generalize hK : endT _ _ _ _ = K
  have hend : ∀ (s' : LS) (fv' : V) (x y : Obj) (L : Heap) (E : List (Nat × V)), FrR H s'.fs q fv' → s' = closesS s t →
      K .ret ⟨(4, .ptr (H.length + 2) 0 0) :: E, .u⟩ (H ++ x :: y :: .cells 0 [toksV true s'.out, fv', .bool s'.due] :: L) := by
    rintro s' fv' x y L E hf rfl
    rw [← hK]
    exact endT_st (id := H.length + 2) trivial rfl (gc_loc 2) ⟨fv', _, rfl, hf, set_loc 2⟩
  obtain ⟨hp1, hp2, hp3⟩ := h.plain
  have hcl : ∀ (L0 : Heap) (w : Nat) (b : List Nat), closeOf t = some (w, b) → w ≤ 6 → (∀ x ∈ b, x ≤ 6) → b.length ≤ 10 →
      ∃ r L fv', T Try.prog 50 [stV s fv, .str (nm w), barS true b, .agg [.int .i64 t.ln, .int .i64 t.co]] (H ++ L0) r (H ++ (L0 ++ L)) ∧ r = stV (closesS s t) fv' ∧ FrR H (closesS s t).fs q fv' := by
    intro L0 w b hc hw h6 h10
    obtain ⟨x, H7, hT, ⟨s', fv', rfl, hf', hs'⟩, L7, rfl⟩ := closed_T (h.local L0) hb true hw b h6 h10 t.ln t.co
    rw [List.append_assoc] at hT hf'
    have e : s' = closesS s t := by
      rw [hs']; unfold closesS
      first | (rw [hc]; done) | (rw [hc]; simp only; cases closeF w b s.fs <;> rfl)
    exact ⟨_, L7, fv', hT, by rw [e], by rw [← e]; exact hf'.back h.qlt⟩
  have hno : closeOf t = none → closesS s t = s := fun hc => by unfold closesS; rw [hc]
  unfold closeOf at hcl hno
  unfold v46 stV tokC
  simp only [go_sem, ↓reduceIte, toksV, stV, tokC, List.append_assoc, gc_loc0, gc_loc, ↓gc_z, ↓gc_s, set_loc0, set_loc, List.map_cons, List.map_nil, hp1, hp2, hp3, run_buildSlG, elems_nil, elems_one, elems_two, exX_some, barS, nm]
  refine ⟨_, _, mark_T t [41] _, ?_⟩
  cases c0 : isM t [41] with
  | true =>
    simp only [c0, ↓reduceIte, Bool.false_eq_true] at hcl
    obtain ⟨x, L7, fv', hT, rfl, hf'⟩ := hcl [.cells 0 [.sl false 6 (s.out.map tokC), fv, .bool s.due], .cells 0 (tokC t), .cells 0 [.sl true 6 [], .nilh 2, .bool false]] 2 [1] rfl (by omega) (by simp) (by simp)
    simp only [go_sem, ↓reduceIte, toksV, stV, tokC, List.append_assoc, gc_loc0, gc_loc, ↓gc_z, ↓gc_s, set_loc0, set_loc, List.map_cons, List.map_nil, hp1, hp2, hp3, run_buildSlG, elems_nil, elems_one, elems_two, exX_some, barS, nm] at hT ⊢
    refine ⟨_, _, hT, ?_⟩
    obtain ⟨hq1, hq2, hq3⟩ := hf'.plain
    simp only [go_sem, ↓reduceIte, toksV, stV, tokC, List.append_assoc, gc_loc0, gc_loc, ↓gc_z, ↓gc_s, set_loc0, set_loc, List.map_cons, List.map_nil, hp1, hp2, hp3, run_buildSlG, elems_nil, elems_one, elems_two, exX_some, barS, nm, hq1, hq2, hq3]
    exact hend _ _ _ _ L7 _ hf' rfl
  | false =>
    simp only [go_sem, ↓reduceIte, toksV, stV, tokC, List.append_assoc, gc_loc0, gc_loc, ↓gc_z, ↓gc_s, set_loc0, set_loc, List.map_cons, List.map_nil, hp1, hp2, hp3, run_buildSlG, elems_nil, elems_one, elems_two, exX_some, barS, nm]
    refine ⟨_, _, mark_T t bShut _, ?_⟩
    cases c1 : isM t bShut with
    | true =>
      simp only [c0, c1, ↓reduceIte, Bool.false_eq_true] at hcl
      obtain ⟨x, L7, fv', hT, rfl, hf'⟩ := hcl [.cells 0 [.sl false 6 (s.out.map tokC), fv, .bool s.due], .cells 0 (tokC t), .cells 0 [.sl true 6 [], .nilh 2, .bool false]] 1 [] rfl (by omega) (by simp) (by simp)
      simp only [go_sem, ↓reduceIte, toksV, stV, tokC, List.append_assoc, gc_loc0, gc_loc, ↓gc_z, ↓gc_s, set_loc0, set_loc, List.map_cons, List.map_nil, hp1, hp2, hp3, run_buildSlG, elems_nil, elems_one, elems_two, exX_some, barS, nm] at hT ⊢
      refine ⟨_, _, hT, ?_⟩
      obtain ⟨hq1, hq2, hq3⟩ := hf'.plain
      simp only [go_sem, ↓reduceIte, toksV, stV, tokC, List.append_assoc, gc_loc0, gc_loc, ↓gc_z, ↓gc_s, set_loc0, set_loc, List.map_cons, List.map_nil, hp1, hp2, hp3, run_buildSlG, elems_nil, elems_one, elems_two, exX_some, barS, nm, hq1, hq2, hq3]
      exact hend _ _ _ _ L7 _ hf' rfl
    | false =>
      simp only [go_sem, ↓reduceIte, toksV, stV, tokC, List.append_assoc, gc_loc0, gc_loc, ↓gc_z, ↓gc_s, set_loc0, set_loc, List.map_cons, List.map_nil, hp1, hp2, hp3, run_buildSlG, elems_nil, elems_one, elems_two, exX_some, barS, nm]
      refine ⟨_, _, word_T t [105, 110] _, ?_⟩
      cases c2 : isW t [105, 110] with
      | true =>
        simp only [c0, c1, c2, ↓reduceIte, Bool.false_eq_true] at hcl
        obtain ⟨x, L7, fv', hT, rfl, hf'⟩ := hcl [.cells 0 [.sl false 6 (s.out.map tokC), fv, .bool s.due], .cells 0 (tokC t), .cells 0 [.sl true 6 [], .nilh 2, .bool false]] 3 [1, 2] rfl (by omega) (by simp) (by simp)
        simp only [go_sem, ↓reduceIte, toksV, stV, tokC, List.append_assoc, gc_loc0, gc_loc, ↓gc_z, ↓gc_s, set_loc0, set_loc, List.map_cons, List.map_nil, hp1, hp2, hp3, run_buildSlG, elems_nil, elems_one, elems_two, exX_some, barS, nm] at hT ⊢
        refine ⟨_, _, hT, ?_⟩
        obtain ⟨hq1, hq2, hq3⟩ := hf'.plain
        simp only [go_sem, ↓reduceIte, toksV, stV, tokC, List.append_assoc, gc_loc0, gc_loc, ↓gc_z, ↓gc_s, set_loc0, set_loc, List.map_cons, List.map_nil, hp1, hp2, hp3, run_buildSlG, elems_nil, elems_one, elems_two, exX_some, barS, nm, hq1, hq2, hq3]
        exact hend _ _ _ _ L7 _ hf' rfl
      | false =>
        simp only [go_sem, ↓reduceIte, toksV, stV, tokC, List.append_assoc, gc_loc0, gc_loc, ↓gc_z, ↓gc_s, set_loc0, set_loc, List.map_cons, List.map_nil, hp1, hp2, hp3, run_buildSlG, elems_nil, elems_one, elems_two, exX_some, barS, nm]
        refine ⟨_, _, word_T t [111, 102] _, ?_⟩
        cases c3 : isW t [111, 102] with
        | true =>
          simp only [c0, c1, c2, c3, ↓reduceIte, Bool.false_eq_true] at hcl
          obtain ⟨x, L7, fv', hT, rfl, hf'⟩ := hcl [.cells 0 [.sl false 6 (s.out.map tokC), fv, .bool s.due], .cells 0 (tokC t), .cells 0 [.sl true 6 [], .nilh 2, .bool false]] 4 [1, 2] rfl (by omega) (by simp) (by simp)
          simp only [go_sem, ↓reduceIte, toksV, stV, tokC, List.append_assoc, gc_loc0, gc_loc, ↓gc_z, ↓gc_s, set_loc0, set_loc, List.map_cons, List.map_nil, hp1, hp2, hp3, run_buildSlG, elems_nil, elems_one, elems_two, exX_some, barS, nm] at hT ⊢
          refine ⟨_, _, hT, ?_⟩
          obtain ⟨hq1, hq2, hq3⟩ := hf'.plain
          simp only [go_sem, ↓reduceIte, toksV, stV, tokC, List.append_assoc, gc_loc0, gc_loc, ↓gc_z, ↓gc_s, set_loc0, set_loc, List.map_cons, List.map_nil, hp1, hp2, hp3, run_buildSlG, elems_nil, elems_one, elems_two, exX_some, barS, nm, hq1, hq2, hq3]
          exact hend _ _ _ _ L7 _ hf' rfl
        | false =>
          simp only [go_sem, ↓reduceIte, toksV, stV, tokC, List.append_assoc, gc_loc0, gc_loc, ↓gc_z, ↓gc_s, set_loc0, set_loc, List.map_cons, List.map_nil, hp1, hp2, hp3, run_buildSlG, elems_nil, elems_one, elems_two, exX_some, barS, nm]
          refine ⟨_, _, word_T t [116, 104, 101, 110] _, ?_⟩
          cases c4 : isW t [116, 104, 101, 110] with
          | true =>
            simp only [c0, c1, c2, c3, c4, ↓reduceIte, Bool.false_eq_true] at hcl
            obtain ⟨x, L7, fv', hT, rfl, hf'⟩ := hcl [.cells 0 [.sl false 6 (s.out.map tokC), fv, .bool s.due], .cells 0 (tokC t), .cells 0 [.sl true 6 [], .nilh 2, .bool false]] 5 [1, 2] rfl (by omega) (by simp) (by simp)
            simp only [go_sem, ↓reduceIte, toksV, stV, tokC, List.append_assoc, gc_loc0, gc_loc, ↓gc_z, ↓gc_s, set_loc0, set_loc, List.map_cons, List.map_nil, hp1, hp2, hp3, run_buildSlG, elems_nil, elems_one, elems_two, exX_some, barS, nm] at hT ⊢
            refine ⟨_, _, hT, ?_⟩
            obtain ⟨hq1, hq2, hq3⟩ := hf'.plain
            simp only [go_sem, ↓reduceIte, toksV, stV, tokC, List.append_assoc, gc_loc0, gc_loc, ↓gc_z, ↓gc_s, set_loc0, set_loc, List.map_cons, List.map_nil, hp1, hp2, hp3, run_buildSlG, elems_nil, elems_one, elems_two, exX_some, barS, nm, hq1, hq2, hq3]
            exact hend _ _ _ _ L7 _ hf' rfl
          | false =>
            simp only [go_sem, ↓reduceIte, toksV, stV, tokC, List.append_assoc, gc_loc0, gc_loc, ↓gc_z, ↓gc_s, set_loc0, set_loc, List.map_cons, List.map_nil, hp1, hp2, hp3, run_buildSlG, elems_nil, elems_one, elems_two, exX_some, barS, nm]
            refine ⟨_, _, word_T t [101, 108, 115, 101] _, ?_⟩
            cases c5 : isW t [101, 108, 115, 101] with
            | true =>
              simp only [c0, c1, c2, c3, c4, c5, ↓reduceIte, Bool.false_eq_true] at hcl
              obtain ⟨x, L7, fv', hT, rfl, hf'⟩ := hcl [.cells 0 [.sl false 6 (s.out.map tokC), fv, .bool s.due], .cells 0 (tokC t), .cells 0 [.sl true 6 [], .nilh 2, .bool false]] 6 [1, 2] rfl (by omega) (by simp) (by simp)
              simp only [go_sem, ↓reduceIte, toksV, stV, tokC, List.append_assoc, gc_loc0, gc_loc, ↓gc_z, ↓gc_s, set_loc0, set_loc, List.map_cons, List.map_nil, hp1, hp2, hp3, run_buildSlG, elems_nil, elems_one, elems_two, exX_some, barS, nm] at hT ⊢
              refine ⟨_, _, hT, ?_⟩
              obtain ⟨hq1, hq2, hq3⟩ := hf'.plain
              simp only [go_sem, ↓reduceIte, toksV, stV, tokC, List.append_assoc, gc_loc0, gc_loc, ↓gc_z, ↓gc_s, set_loc0, set_loc, List.map_cons, List.map_nil, hp1, hp2, hp3, run_buildSlG, elems_nil, elems_one, elems_two, exX_some, barS, nm, hq1, hq2, hq3]
              exact hend _ _ _ _ L7 _ hf' rfl
            | false =>
              simp only [c0, c1, c2, c3, c4, c5, ↓reduceIte, Bool.false_eq_true] at hno
              simp only [go_sem, ↓reduceIte, toksV, stV, tokC, List.append_assoc, gc_loc0, gc_loc, ↓gc_z, ↓gc_s, set_loc0, set_loc, List.map_cons, List.map_nil, hp1, hp2, hp3, run_buildSlG, elems_nil, elems_one, elems_two, exX_some, barS, nm]
              exact hend s fv _ _ [] _ h (hno trivial).symm
end Go.Proofs.Ytdmnacjpgaopfaa.Vm
namespace Go.Proofs.Ytdmnacjpgaopfaa.Vm
open Go
set_option linter.unusedSimpArgs false

theorem isM_s {t : Tok} {x : List UInt8} (h : isM t x = true) : t.s = x := by
  simp only [isM, Bool.and_eq_true, beq_iff_eq] at h; exact h.2
theorem isW_s {t : Tok} {x : List UInt8} (h : isW t x = true) : t.s = x := by
  simp only [isW, Bool.and_eq_true, beq_iff_eq] at h; exact h.2
/-- The locals of the reference's tells. -/
structure TellH (H : Heap) (q : Option Nat) (t : Tok) (s2 : LS) (H3 : Heap) (q2 : Option Nat) (fv2 : V) : Prop where
  b0 : getCells H3 H.length 0 = some [.sl true 6 (s2.out.map tokC), fv2, .bool s2.due]
  b1 : getCells H3 (H.length + 1) 0 = some [.int .i64 t.k, .str t.s, .int .i64 t.n, .int .i64 t.ln, .int .i64 t.co, .bool t.md]
  b4 : getCells H3 (H.length + 2) 0 = some [.sl true 6 [], .nilh 2, .bool false]
  fr : FrR H3 s2.fs q2 fv2
  gr : GrowR H q H3 q2
  ne : ∀ i, H.length ≤ i → i ≤ H.length + 2 → q2 ≠ some i
theorem gc_nes {H : Heap} {i j v : Nat} {cs : List V} {o : Obj} (h : getCells H j v = some cs) (hn : i ≠ j) : getCells (H.set i o) j v = some cs := by rw [gc_ne hn]; exact h
theorem tells_T {H : Heap} {s : LS} {q : Option Nat} {fv : V} (h : FrR H s.fs q fv) (hb : s.out.length + s.fs.length ≤ 1000000000) (t : Tok) :
    ∃ r H', T Try.prog 44 [stV s fv, .agg (tokC t)] H r H' ∧ ansR H q (tellS s t) r H' := by
  refine T.of_take mix c44 rfl rfl ?_
  generalize hK : endT _ _ _ _ = K
  -- the end: the state stands in the box
  have hend : ∀ (s2 : LS) (H3 : Heap) (q2 : Option Nat) (fv2 : V) (x : Obj) (E : List (Nat × V)) (d : Bool), TellH H q t s2 H3 q2 fv2 → tellS s t = ⟨s2.out, s2.fs, d⟩ →
      K .ret ⟨(4, .ptr (H.length + 2) 0 0) :: E, .u⟩ ((H3.set H.length x).set (H.length + 2) (.cells 0 [.sl true 6 (s2.out.map tokC), fv2, .bool d])) := by
    intro s2 H3 q2 fv2 x E d hL he
    rw [← hK]
    have hl : H.length + 2 < (H3.set H.length x).length := by rw [List.length_set]; exact gc_lt hL.b4
    refine endT_st (id := H.length + 2) trivial rfl (gc_same hl) ⟨q2, fv2, by rw [he]; rfl, ?_, ?_⟩
    · rw [he]
      exact ((hL.fr.set (hL.ne _ (by omega) (by omega)) _).set (hL.ne _ (by omega) (by omega)) _).set (hL.ne _ (by omega) (by omega)) _
    · exact ((hL.gr.set (by omega) _).set (by omega) _).set (by omega) _
  obtain ⟨hp1, hp2, hp3⟩ := h.plain
  have hE := toks_snoc s.out t
  simp only [tokC, toksV] at hE
  let HB : Heap := H ++ [.cells 0 [.sl false 6 (s.out.map tokC ++ [[.int .i64 t.k, .str t.s, .int .i64 t.n, .int .i64 t.ln, .int .i64 t.co, .bool t.md]]), fv, .bool s.due], .cells 0 [.int .i64 t.k, .str t.s, .int .i64 t.n, .int .i64 t.ln, .int .i64 t.co, .bool t.md], .cells 0 [.sl true 6 [], .nilh 2, .bool false]]
  have hpush : ∀ k, k ≤ 6 → t.s = nm k → openOf t = some k → ∃ r H2 q2 fv2, T Try.prog 45 [.agg [.sl true 6 (s.out.map tokC ++ [[.int .i64 t.k, .str t.s, .int .i64 t.n, .int .i64 t.ln, .int .i64 t.co, .bool t.md]]), fv, .bool s.due], .str t.s, .int .i64 0] HB r H2 ∧
      r = .agg [.sl true 6 (((s.out ++ [t]).map tokC)), fv2, .bool s.due] ∧ (∃ x1 x2 x3, getCells H2 H.length 0 = some [x1, x2, x3]) ∧ plainC fv2 = true ∧ scal0 fv2 = true ∧ strip0 fv2 = fv2 ∧ TellH H q t ⟨s.out ++ [t], pushF t s.fs, s.due⟩ (H2.set H.length (.cells 0 [.sl true 6 ((s.out ++ [t]).map tokC), fv2, .bool s.due])) q2 fv2 := by
    intro k hk hs ho
    obtain ⟨r, H2, hT, q2, fv2, rfl, hf, hg⟩ := pushed_T (H := HB) (s := ⟨s.out ++ [t], s.fs, s.due⟩) (h.local _) (by simp only; omega) ⟨k, 0⟩ hk
    rw [← hs] at hT
    have hqne : ∀ i, H.length ≤ i → q ≠ some i := fun i hi => h.lt hi
    have hq2 : ∀ i, H.length ≤ i → i ≤ H.length + 2 → q2 ≠ some i := by
      intro i h1 h2
      rcases hg.qs with e | ⟨_, j, e, hj⟩
      · rw [e]; exact hqne i h1
      · rw [e]; intro e2; cases e2
        simp only [HB, List.length_append, List.length_cons, List.length_nil] at hj; omega
    have k0 := hg.keep (H.length) 0 _ (hqne _ (by omega)) (gc_loc0 (v := 0))
    have k1 := hg.keep (H.length + 1) 0 _ (hqne _ (by omega)) (gc_loc 1 (v := 0))
    have k2 := hg.keep (H.length + 2) 0 _ (hqne _ (by omega)) (gc_loc 2 (v := 0))
    obtain ⟨z1, z2, z3⟩ := hf.plain
    have hpf : pushF t s.fs = ⟨k, 0⟩ :: s.fs := by unfold pushF; rw [ho]
    refine ⟨_, H2, q2, fv2, ?_, rfl, ⟨_, _, _, k0⟩, z1, z2, z3, gc_same (gc_lt k0), gc_nes k1 (by omega), gc_nes k2 (by omega), ?_, ?_, hq2⟩
    · have e : stV (⟨s.out ++ [t], s.fs, s.due⟩ : LS) fv = .agg [.sl true 6 (s.out.map tokC ++ [[.int .i64 t.k, .str t.s, .int .i64 t.n, .int .i64 t.ln, .int .i64 t.co, .bool t.md]]), fv, .bool s.due] := by
        simp only [stV, toksV]; rw [← hE]
      rw [← e]; exact hT
    · rw [hpf]
      exact hf.set (hq2 _ (by omega) (by omega)) _
    · exact (GrowR.trans (GrowR.local _) hg).set (by omega) _
  have hpl : ∀ fs k, openOf t = some k → pushF t fs = ⟨k, 0⟩ :: fs := fun fs k ho => by unfold pushF; rw [ho]
  unfold openOf at hpush
  unfold v44 stV tokC
  simp only [go_sem, ↓reduceIte, toksV, stV, tokC, List.append_assoc, gc_loc0, gc_loc, ↓gc_z, ↓gc_s, set_loc0, set_loc, List.map_cons, List.map_nil, hp1, hp2, hp3, run_buildSlG, elems_agg, exX_some]
  refine ⟨by simp [fits]; omega, _, _, mark_T t [40] _, ?_⟩
  cases c0 : isM t [40] with
  | true =>
    simp only [c0, ↓reduceIte, Bool.false_eq_true] at hpush
    obtain ⟨r, H2, q2, fv2, hT, rfl, ⟨x1, x2, x3, k0⟩, z1, z2, z3, hL⟩ := hpush 2 (by omega) (isM_s c0) rfl
    simp only [go_sem, ↓reduceIte, toksV, stV, tokC, List.append_assoc, gc_loc0, gc_loc, ↓gc_z, ↓gc_s, set_loc0, set_loc, List.map_cons, List.map_nil, hp1, hp2, hp3, run_buildSlG, elems_agg, exX_some]
    refine ⟨_, _, hT, ?_⟩
    simp only [go_sem, ↓reduceIte, z1, z2, z3, ↓k0, strip0_bool, strip0_sl, List.map_cons, List.map_nil]
    generalize H2.set H.length _ = H3 at hL ⊢
    obtain ⟨h21, h22, h23⟩ := hL.fr.plain
    have b0 := hL.b0
    have b1 := hL.b1
    have b4 := hL.b4
    have hl0 := gc_lt b0
    have hl4 := gc_lt b4
    have b5 := fun (o : Obj) => gc_nes (o := o) b4 (show H.length ≠ H.length + 2 by omega)
    have b6 := fun (cs : List V) => gc_same (v := 0) (cs := cs) hl0
    simp only [go_sem, ↓reduceIte, ↓b0, ↓b1, ↓b4, ↓b5, ↓b6, h21, h22, h23, List.map_cons, List.map_nil, List.set_set, strip0_sl, strip0_bool]
    refine ⟨_, _, word_T t [108, 101, 116] _, ?_⟩
    cases w0 : isW t [108, 101, 116] with
    | true =>
      have hd : dueOf t = true := by unfold dueOf; rw [w0]; rfl
      simp only [go_sem, ↓reduceIte, ↓b0, ↓b1, ↓b4, ↓b5, ↓b6, h21, h22, h23, List.map_cons, List.map_nil, List.set_set, strip0_sl, strip0_bool]
      exact hend _ _ _ _ _ _ _ hL (by unfold tellS; rw [hd]; simp)
    | false =>
      simp only [go_sem, ↓reduceIte, ↓b0, ↓b1, ↓b4, ↓b5, ↓b6, h21, h22, h23, List.map_cons, List.map_nil, List.set_set, strip0_sl, strip0_bool]
      refine ⟨_, _, word_T t [111, 102] _, ?_⟩
      cases w1 : isW t [111, 102] with
      | true =>
        have hd : dueOf t = true := by unfold dueOf; rw [w0, w1]; rfl
        simp only [go_sem, ↓reduceIte, ↓b0, ↓b1, ↓b4, ↓b5, ↓b6, h21, h22, h23, List.map_cons, List.map_nil, List.set_set, strip0_sl, strip0_bool]
        exact hend _ _ _ _ _ _ _ hL (by unfold tellS; rw [hd]; simp)
      | false =>
        have hd : dueOf t = false := by unfold dueOf; rw [w0, w1]; rfl
        simp only [go_sem, ↓reduceIte, ↓b0, ↓b1, ↓b4, ↓b5, ↓b6, h21, h22, h23, List.map_cons, List.map_nil, List.set_set, strip0_sl, strip0_bool]
        exact hend _ _ _ _ _ _ _ hL (by unfold tellS; rw [hd]; simp)
  | false =>
    simp only [go_sem, ↓reduceIte, toksV, stV, tokC, List.append_assoc, gc_loc0, gc_loc, ↓gc_z, ↓gc_s, set_loc0, set_loc, List.map_cons, List.map_nil, hp1, hp2, hp3, run_buildSlG, elems_agg, exX_some]
    refine ⟨_, _, mark_T t bOpen _, ?_⟩
    cases c1 : isM t bOpen with
    | true =>
      simp only [c0, c1, ↓reduceIte, Bool.false_eq_true] at hpush
      obtain ⟨r, H2, q2, fv2, hT, rfl, ⟨x1, x2, x3, k0⟩, z1, z2, z3, hL⟩ := hpush 1 (by omega) (isM_s c1) rfl
      simp only [go_sem, ↓reduceIte, toksV, stV, tokC, List.append_assoc, gc_loc0, gc_loc, ↓gc_z, ↓gc_s, set_loc0, set_loc, List.map_cons, List.map_nil, hp1, hp2, hp3, run_buildSlG, elems_agg, exX_some]
      refine ⟨_, _, hT, ?_⟩
      simp only [go_sem, ↓reduceIte, z1, z2, z3, ↓k0, strip0_bool, strip0_sl, List.map_cons, List.map_nil]
      generalize H2.set H.length _ = H3 at hL ⊢
      obtain ⟨h21, h22, h23⟩ := hL.fr.plain
      have b0 := hL.b0
      have b1 := hL.b1
      have b4 := hL.b4
      have hl0 := gc_lt b0
      have hl4 := gc_lt b4
      have b5 := fun (o : Obj) => gc_nes (o := o) b4 (show H.length ≠ H.length + 2 by omega)
      have b6 := fun (cs : List V) => gc_same (v := 0) (cs := cs) hl0
      simp only [go_sem, ↓reduceIte, ↓b0, ↓b1, ↓b4, ↓b5, ↓b6, h21, h22, h23, List.map_cons, List.map_nil, List.set_set, strip0_sl, strip0_bool]
      refine ⟨_, _, word_T t [108, 101, 116] _, ?_⟩
      cases w0 : isW t [108, 101, 116] with
      | true =>
        have hd : dueOf t = true := by unfold dueOf; rw [w0]; rfl
        simp only [go_sem, ↓reduceIte, ↓b0, ↓b1, ↓b4, ↓b5, ↓b6, h21, h22, h23, List.map_cons, List.map_nil, List.set_set, strip0_sl, strip0_bool]
        exact hend _ _ _ _ _ _ _ hL (by unfold tellS; rw [hd]; simp)
      | false =>
        simp only [go_sem, ↓reduceIte, ↓b0, ↓b1, ↓b4, ↓b5, ↓b6, h21, h22, h23, List.map_cons, List.map_nil, List.set_set, strip0_sl, strip0_bool]
        refine ⟨_, _, word_T t [111, 102] _, ?_⟩
        cases w1 : isW t [111, 102] with
        | true =>
          have hd : dueOf t = true := by unfold dueOf; rw [w0, w1]; rfl
          simp only [go_sem, ↓reduceIte, ↓b0, ↓b1, ↓b4, ↓b5, ↓b6, h21, h22, h23, List.map_cons, List.map_nil, List.set_set, strip0_sl, strip0_bool]
          exact hend _ _ _ _ _ _ _ hL (by unfold tellS; rw [hd]; simp)
        | false =>
          have hd : dueOf t = false := by unfold dueOf; rw [w0, w1]; rfl
          simp only [go_sem, ↓reduceIte, ↓b0, ↓b1, ↓b4, ↓b5, ↓b6, h21, h22, h23, List.map_cons, List.map_nil, List.set_set, strip0_sl, strip0_bool]
          exact hend _ _ _ _ _ _ _ hL (by unfold tellS; rw [hd]; simp)
    | false =>
      simp only [go_sem, ↓reduceIte, toksV, stV, tokC, List.append_assoc, gc_loc0, gc_loc, ↓gc_z, ↓gc_s, set_loc0, set_loc, List.map_cons, List.map_nil, hp1, hp2, hp3, run_buildSlG, elems_agg, exX_some]
      refine ⟨_, _, word_T t [108, 101, 116] _, ?_⟩
      cases c2 : isW t [108, 101, 116] with
      | true =>
        simp only [c0, c1, c2, ↓reduceIte, Bool.false_eq_true] at hpush
        obtain ⟨r, H2, q2, fv2, hT, rfl, ⟨x1, x2, x3, k0⟩, z1, z2, z3, hL⟩ := hpush 3 (by omega) (isW_s c2) rfl
        simp only [go_sem, ↓reduceIte, toksV, stV, tokC, List.append_assoc, gc_loc0, gc_loc, ↓gc_z, ↓gc_s, set_loc0, set_loc, List.map_cons, List.map_nil, hp1, hp2, hp3, run_buildSlG, elems_agg, exX_some]
        refine ⟨_, _, hT, ?_⟩
        simp only [go_sem, ↓reduceIte, z1, z2, z3, ↓k0, strip0_bool, strip0_sl, List.map_cons, List.map_nil]
        generalize H2.set H.length _ = H3 at hL ⊢
        obtain ⟨h21, h22, h23⟩ := hL.fr.plain
        have b0 := hL.b0
        have b1 := hL.b1
        have b4 := hL.b4
        have hl0 := gc_lt b0
        have hl4 := gc_lt b4
        have b5 := fun (o : Obj) => gc_nes (o := o) b4 (show H.length ≠ H.length + 2 by omega)
        have b6 := fun (cs : List V) => gc_same (v := 0) (cs := cs) hl0
        simp only [go_sem, ↓reduceIte, ↓b0, ↓b1, ↓b4, ↓b5, ↓b6, h21, h22, h23, List.map_cons, List.map_nil, List.set_set, strip0_sl, strip0_bool]
        refine ⟨_, _, word_T t [108, 101, 116] _, ?_⟩
        cases w0 : isW t [108, 101, 116] with
        | true =>
          have hd : dueOf t = true := by unfold dueOf; rw [w0]; rfl
          simp only [go_sem, ↓reduceIte, ↓b0, ↓b1, ↓b4, ↓b5, ↓b6, h21, h22, h23, List.map_cons, List.map_nil, List.set_set, strip0_sl, strip0_bool]
          exact hend _ _ _ _ _ _ _ hL (by unfold tellS; rw [hd]; simp)
        | false =>
          simp only [go_sem, ↓reduceIte, ↓b0, ↓b1, ↓b4, ↓b5, ↓b6, h21, h22, h23, List.map_cons, List.map_nil, List.set_set, strip0_sl, strip0_bool]
          refine ⟨_, _, word_T t [111, 102] _, ?_⟩
          cases w1 : isW t [111, 102] with
          | true =>
            have hd : dueOf t = true := by unfold dueOf; rw [w0, w1]; rfl
            simp only [go_sem, ↓reduceIte, ↓b0, ↓b1, ↓b4, ↓b5, ↓b6, h21, h22, h23, List.map_cons, List.map_nil, List.set_set, strip0_sl, strip0_bool]
            exact hend _ _ _ _ _ _ _ hL (by unfold tellS; rw [hd]; simp)
          | false =>
            have hd : dueOf t = false := by unfold dueOf; rw [w0, w1]; rfl
            simp only [go_sem, ↓reduceIte, ↓b0, ↓b1, ↓b4, ↓b5, ↓b6, h21, h22, h23, List.map_cons, List.map_nil, List.set_set, strip0_sl, strip0_bool]
            exact hend _ _ _ _ _ _ _ hL (by unfold tellS; rw [hd]; simp)
      | false =>
        simp only [go_sem, ↓reduceIte, toksV, stV, tokC, List.append_assoc, gc_loc0, gc_loc, ↓gc_z, ↓gc_s, set_loc0, set_loc, List.map_cons, List.map_nil, hp1, hp2, hp3, run_buildSlG, elems_agg, exX_some]
        refine ⟨_, _, word_T t [99, 97, 115, 101] _, ?_⟩
        cases c3 : isW t [99, 97, 115, 101] with
        | true =>
          simp only [c0, c1, c2, c3, ↓reduceIte, Bool.false_eq_true] at hpush
          obtain ⟨r, H2, q2, fv2, hT, rfl, ⟨x1, x2, x3, k0⟩, z1, z2, z3, hL⟩ := hpush 4 (by omega) (isW_s c3) rfl
          simp only [go_sem, ↓reduceIte, toksV, stV, tokC, List.append_assoc, gc_loc0, gc_loc, ↓gc_z, ↓gc_s, set_loc0, set_loc, List.map_cons, List.map_nil, hp1, hp2, hp3, run_buildSlG, elems_agg, exX_some]
          refine ⟨_, _, hT, ?_⟩
          simp only [go_sem, ↓reduceIte, z1, z2, z3, ↓k0, strip0_bool, strip0_sl, List.map_cons, List.map_nil]
          generalize H2.set H.length _ = H3 at hL ⊢
          obtain ⟨h21, h22, h23⟩ := hL.fr.plain
          have b0 := hL.b0
          have b1 := hL.b1
          have b4 := hL.b4
          have hl0 := gc_lt b0
          have hl4 := gc_lt b4
          have b5 := fun (o : Obj) => gc_nes (o := o) b4 (show H.length ≠ H.length + 2 by omega)
          have b6 := fun (cs : List V) => gc_same (v := 0) (cs := cs) hl0
          simp only [go_sem, ↓reduceIte, ↓b0, ↓b1, ↓b4, ↓b5, ↓b6, h21, h22, h23, List.map_cons, List.map_nil, List.set_set, strip0_sl, strip0_bool]
          refine ⟨_, _, word_T t [108, 101, 116] _, ?_⟩
          cases w0 : isW t [108, 101, 116] with
          | true =>
            have hd : dueOf t = true := by unfold dueOf; rw [w0]; rfl
            simp only [go_sem, ↓reduceIte, ↓b0, ↓b1, ↓b4, ↓b5, ↓b6, h21, h22, h23, List.map_cons, List.map_nil, List.set_set, strip0_sl, strip0_bool]
            exact hend _ _ _ _ _ _ _ hL (by unfold tellS; rw [hd]; simp)
          | false =>
            simp only [go_sem, ↓reduceIte, ↓b0, ↓b1, ↓b4, ↓b5, ↓b6, h21, h22, h23, List.map_cons, List.map_nil, List.set_set, strip0_sl, strip0_bool]
            refine ⟨_, _, word_T t [111, 102] _, ?_⟩
            cases w1 : isW t [111, 102] with
            | true =>
              have hd : dueOf t = true := by unfold dueOf; rw [w0, w1]; rfl
              simp only [go_sem, ↓reduceIte, ↓b0, ↓b1, ↓b4, ↓b5, ↓b6, h21, h22, h23, List.map_cons, List.map_nil, List.set_set, strip0_sl, strip0_bool]
              exact hend _ _ _ _ _ _ _ hL (by unfold tellS; rw [hd]; simp)
            | false =>
              have hd : dueOf t = false := by unfold dueOf; rw [w0, w1]; rfl
              simp only [go_sem, ↓reduceIte, ↓b0, ↓b1, ↓b4, ↓b5, ↓b6, h21, h22, h23, List.map_cons, List.map_nil, List.set_set, strip0_sl, strip0_bool]
              exact hend _ _ _ _ _ _ _ hL (by unfold tellS; rw [hd]; simp)
        | false =>
          simp only [go_sem, ↓reduceIte, toksV, stV, tokC, List.append_assoc, gc_loc0, gc_loc, ↓gc_z, ↓gc_s, set_loc0, set_loc, List.map_cons, List.map_nil, hp1, hp2, hp3, run_buildSlG, elems_agg, exX_some]
          refine ⟨_, _, word_T t [105, 102] _, ?_⟩
          cases c4 : isW t [105, 102] with
          | true =>
            simp only [c0, c1, c2, c3, c4, ↓reduceIte, Bool.false_eq_true] at hpush
            obtain ⟨r, H2, q2, fv2, hT, rfl, ⟨x1, x2, x3, k0⟩, z1, z2, z3, hL⟩ := hpush 5 (by omega) (isW_s c4) rfl
            simp only [go_sem, ↓reduceIte, toksV, stV, tokC, List.append_assoc, gc_loc0, gc_loc, ↓gc_z, ↓gc_s, set_loc0, set_loc, List.map_cons, List.map_nil, hp1, hp2, hp3, run_buildSlG, elems_agg, exX_some]
            refine ⟨_, _, hT, ?_⟩
            simp only [go_sem, ↓reduceIte, z1, z2, z3, ↓k0, strip0_bool, strip0_sl, List.map_cons, List.map_nil]
            generalize H2.set H.length _ = H3 at hL ⊢
            obtain ⟨h21, h22, h23⟩ := hL.fr.plain
            have b0 := hL.b0
            have b1 := hL.b1
            have b4 := hL.b4
            have hl0 := gc_lt b0
            have hl4 := gc_lt b4
            have b5 := fun (o : Obj) => gc_nes (o := o) b4 (show H.length ≠ H.length + 2 by omega)
            have b6 := fun (cs : List V) => gc_same (v := 0) (cs := cs) hl0
            simp only [go_sem, ↓reduceIte, ↓b0, ↓b1, ↓b4, ↓b5, ↓b6, h21, h22, h23, List.map_cons, List.map_nil, List.set_set, strip0_sl, strip0_bool]
            refine ⟨_, _, word_T t [108, 101, 116] _, ?_⟩
            cases w0 : isW t [108, 101, 116] with
            | true =>
              have hd : dueOf t = true := by unfold dueOf; rw [w0]; rfl
              simp only [go_sem, ↓reduceIte, ↓b0, ↓b1, ↓b4, ↓b5, ↓b6, h21, h22, h23, List.map_cons, List.map_nil, List.set_set, strip0_sl, strip0_bool]
              exact hend _ _ _ _ _ _ _ hL (by unfold tellS; rw [hd]; simp)
            | false =>
              simp only [go_sem, ↓reduceIte, ↓b0, ↓b1, ↓b4, ↓b5, ↓b6, h21, h22, h23, List.map_cons, List.map_nil, List.set_set, strip0_sl, strip0_bool]
              refine ⟨_, _, word_T t [111, 102] _, ?_⟩
              cases w1 : isW t [111, 102] with
              | true =>
                have hd : dueOf t = true := by unfold dueOf; rw [w0, w1]; rfl
                simp only [go_sem, ↓reduceIte, ↓b0, ↓b1, ↓b4, ↓b5, ↓b6, h21, h22, h23, List.map_cons, List.map_nil, List.set_set, strip0_sl, strip0_bool]
                exact hend _ _ _ _ _ _ _ hL (by unfold tellS; rw [hd]; simp)
              | false =>
                have hd : dueOf t = false := by unfold dueOf; rw [w0, w1]; rfl
                simp only [go_sem, ↓reduceIte, ↓b0, ↓b1, ↓b4, ↓b5, ↓b6, h21, h22, h23, List.map_cons, List.map_nil, List.set_set, strip0_sl, strip0_bool]
                exact hend _ _ _ _ _ _ _ hL (by unfold tellS; rw [hd]; simp)
          | false =>
            simp only [go_sem, ↓reduceIte, toksV, stV, tokC, List.append_assoc, gc_loc0, gc_loc, ↓gc_z, ↓gc_s, set_loc0, set_loc, List.map_cons, List.map_nil, hp1, hp2, hp3, run_buildSlG, elems_agg, exX_some]
            refine ⟨_, _, word_T t [116, 104, 101, 110] _, ?_⟩
            cases c5 : isW t [116, 104, 101, 110] with
            | true =>
              simp only [c0, c1, c2, c3, c4, c5, ↓reduceIte, Bool.false_eq_true] at hpush
              obtain ⟨r, H2, q2, fv2, hT, rfl, ⟨x1, x2, x3, k0⟩, z1, z2, z3, hL⟩ := hpush 6 (by omega) (isW_s c5) rfl
              simp only [go_sem, ↓reduceIte, toksV, stV, tokC, List.append_assoc, gc_loc0, gc_loc, ↓gc_z, ↓gc_s, set_loc0, set_loc, List.map_cons, List.map_nil, hp1, hp2, hp3, run_buildSlG, elems_agg, exX_some]
              refine ⟨_, _, hT, ?_⟩
              simp only [go_sem, ↓reduceIte, z1, z2, z3, ↓k0, strip0_bool, strip0_sl, List.map_cons, List.map_nil]
              generalize H2.set H.length _ = H3 at hL ⊢
              obtain ⟨h21, h22, h23⟩ := hL.fr.plain
              have b0 := hL.b0
              have b1 := hL.b1
              have b4 := hL.b4
              have hl0 := gc_lt b0
              have hl4 := gc_lt b4
              have b5 := fun (o : Obj) => gc_nes (o := o) b4 (show H.length ≠ H.length + 2 by omega)
              have b6 := fun (cs : List V) => gc_same (v := 0) (cs := cs) hl0
              simp only [go_sem, ↓reduceIte, ↓b0, ↓b1, ↓b4, ↓b5, ↓b6, h21, h22, h23, List.map_cons, List.map_nil, List.set_set, strip0_sl, strip0_bool]
              refine ⟨_, _, word_T t [108, 101, 116] _, ?_⟩
              cases w0 : isW t [108, 101, 116] with
              | true =>
                have hd : dueOf t = true := by unfold dueOf; rw [w0]; rfl
                simp only [go_sem, ↓reduceIte, ↓b0, ↓b1, ↓b4, ↓b5, ↓b6, h21, h22, h23, List.map_cons, List.map_nil, List.set_set, strip0_sl, strip0_bool]
                exact hend _ _ _ _ _ _ _ hL (by unfold tellS; rw [hd]; simp)
              | false =>
                simp only [go_sem, ↓reduceIte, ↓b0, ↓b1, ↓b4, ↓b5, ↓b6, h21, h22, h23, List.map_cons, List.map_nil, List.set_set, strip0_sl, strip0_bool]
                refine ⟨_, _, word_T t [111, 102] _, ?_⟩
                cases w1 : isW t [111, 102] with
                | true =>
                  have hd : dueOf t = true := by unfold dueOf; rw [w0, w1]; rfl
                  simp only [go_sem, ↓reduceIte, ↓b0, ↓b1, ↓b4, ↓b5, ↓b6, h21, h22, h23, List.map_cons, List.map_nil, List.set_set, strip0_sl, strip0_bool]
                  exact hend _ _ _ _ _ _ _ hL (by unfold tellS; rw [hd]; simp)
                | false =>
                  have hd : dueOf t = false := by unfold dueOf; rw [w0, w1]; rfl
                  simp only [go_sem, ↓reduceIte, ↓b0, ↓b1, ↓b4, ↓b5, ↓b6, h21, h22, h23, List.map_cons, List.map_nil, List.set_set, strip0_sl, strip0_bool]
                  exact hend _ _ _ _ _ _ _ hL (by unfold tellS; rw [hd]; simp)
            | false =>
              have ho : openOf t = none := by unfold openOf; simp only [c0, c1, c2, c3, c4, c5, ↓reduceIte, Bool.false_eq_true]
              have hpf : pushF t s.fs = s.fs := by unfold pushF; rw [ho]
              simp only [go_sem, ↓reduceIte, toksV, stV, tokC, List.append_assoc, gc_loc0, gc_loc, ↓gc_z, ↓gc_s, set_loc0, set_loc, List.map_cons, List.map_nil, hp1, hp2, hp3, run_buildSlG, elems_agg, exX_some]
              have hL : TellH H q t ⟨s.out ++ [t], pushF t s.fs, s.due⟩ (H ++ [.cells 0 [.sl true 6 (s.out.map tokC ++ [[.int .i64 t.k, .str t.s, .int .i64 t.n, .int .i64 t.ln, .int .i64 t.co, .bool t.md]]), fv, .bool s.due], .cells 0 [.int .i64 t.k, .str t.s, .int .i64 t.n, .int .i64 t.ln, .int .i64 t.co, .bool t.md], .cells 0 [.sl true 6 [], .nilh 2, .bool false]]) q fv := by
                refine ⟨?_, gc_loc 1, gc_loc 2, ?_, GrowR.local _, fun i hi _ => h.lt hi⟩
                · rw [gc_loc0, gc_z]; simp [tokC]
                · rw [hpf]; exact h.local _
              generalize H ++ _ = H3 at hL ⊢
              obtain ⟨h21, h22, h23⟩ := hL.fr.plain
              have b0 := hL.b0
              have b1 := hL.b1
              have b4 := hL.b4
              have hl0 := gc_lt b0
              have hl4 := gc_lt b4
              have b5 := fun (o : Obj) => gc_nes (o := o) b4 (show H.length ≠ H.length + 2 by omega)
              have b6 := fun (cs : List V) => gc_same (v := 0) (cs := cs) hl0
              try simp only [go_sem, ↓reduceIte, ↓b0, ↓b1, ↓b4, ↓b5, ↓b6, h21, h22, h23, List.map_cons, List.map_nil, List.set_set, strip0_sl, strip0_bool]
              refine ⟨_, _, word_T t [108, 101, 116] _, ?_⟩
              cases w0 : isW t [108, 101, 116] with
              | true =>
                have hd : dueOf t = true := by unfold dueOf; rw [w0]; rfl
                simp only [go_sem, ↓reduceIte, ↓b0, ↓b1, ↓b4, ↓b5, ↓b6, h21, h22, h23, List.map_cons, List.map_nil, List.set_set, strip0_sl, strip0_bool]
                exact hend _ _ _ _ _ _ _ hL (by unfold tellS; rw [hd]; simp)
              | false =>
                simp only [go_sem, ↓reduceIte, ↓b0, ↓b1, ↓b4, ↓b5, ↓b6, h21, h22, h23, List.map_cons, List.map_nil, List.set_set, strip0_sl, strip0_bool]
                refine ⟨_, _, word_T t [111, 102] _, ?_⟩
                cases w1 : isW t [111, 102] with
                | true =>
                  have hd : dueOf t = true := by unfold dueOf; rw [w0, w1]; rfl
                  simp only [go_sem, ↓reduceIte, ↓b0, ↓b1, ↓b4, ↓b5, ↓b6, h21, h22, h23, List.map_cons, List.map_nil, List.set_set, strip0_sl, strip0_bool]
                  exact hend _ _ _ _ _ _ _ hL (by unfold tellS; rw [hd]; simp)
                | false =>
                  have hd : dueOf t = false := by unfold dueOf; rw [w0, w1]; rfl
                  simp only [go_sem, ↓reduceIte, ↓b0, ↓b1, ↓b4, ↓b5, ↓b6, h21, h22, h23, List.map_cons, List.map_nil, List.set_set, strip0_sl, strip0_bool]
                  exact hend _ _ _ _ _ _ _ hL (by unfold tellS; rw [hd]; simp)
end Go.Proofs.Ytdmnacjpgaopfaa.Vm
namespace Go.Proofs.Ytdmnacjpgaopfaa.Vm
open Go
set_option linter.unusedSimpArgs false

def s28a : VCode := .seq (.region [
     ⟨(some 9), (.fieldAddr 2), [.t 3], [], none⟩,
     ⟨(some 10), (.load 1 false), [.t 9], [], none⟩] [2, 3, 4, 6, 10])
   (.cond (.t 10)
    (.seq (.region [
      ⟨(some 11), (.fieldAddr 2), [.t 3], [], none⟩,
      ⟨none, (.store 1), [.t 11, .c (.bool false)], [], none⟩] [2, 3, 4, 6])
    (.seq (.region [
      ⟨(some 12), (.fieldAddr 1), [.t 3], [], none⟩,
      ⟨(some 13), (.load 1 false), [.t 12], [], none⟩,
      ⟨(some 14), (.call .wr), [.c (.fn 43 []), .t 13], [13], none⟩,
      ⟨(some 7), (.alloc [.str [], .int .i64 0]), [], [], none⟩,
      ⟨none, (.store 2), [.t 7, .t 14], [], none⟩] [2, 3, 4, 6, 7])
    (.seq (.seq (.region [
       ⟨(some 15), (.load 6 true), [.t 4], [], none⟩,
       ⟨(some 16), (.call .wr), [.c (.fn 30 []), .t 15, .c (.str [123])], [], none⟩] [2, 3, 4, 6, 7, 16])
     (.cond (.t 16)
      (.seq (.region [
        ⟨(some 17), (.loadT 3 true), [.t 3], [], none⟩,
        ⟨(some 18), (.load 6 true), [.t 4], [], none⟩,
        ⟨(some 19), (.call .wr), [.c (.fn 44 []), .t 17, .t 18], [17], none⟩,
        ⟨none, (.store 3), [.t 6, .t 19], [19], none⟩] [6])
      (.ret))
      (.skip)))
    (.seq (.region [
      ⟨(some 20), (.loadT 3 true), [.t 3], [], none⟩,
      ⟨(some 21), (.fieldAddr 3), [.t 4], [], none⟩,
      ⟨(some 22), (.load 2 true), [.t 21], [], none⟩,
      ⟨(some 23), (.call .wr), [.c (.fn 29 []), .t 20, .c (.str [123]), .t 22], [20], none⟩,
      ⟨none, (.store 3), [.t 3, .t 23], [23], none⟩] [2, 3, 4, 6, 7])
    (.seq (.seq (.region [
       ⟨(some 24), (.fieldAddr 0), [.t 7], [], none⟩,
       ⟨(some 25), (.load 1 false), [.t 24], [], none⟩,
       ⟨(some 26), (.bin .neq), [.t 25, .c (.str [98, 108, 111, 99, 107])], [], none⟩,
       ⟨(some 27), .mv, [.t 26], [], none⟩,
       ⟨(some 28), (.fieldAddr 3), [.t 4], [], some (27, true)⟩,
       ⟨(some 29), (.fieldAddr 1), [.t 28], [], some (27, true)⟩,
       ⟨(some 30), (.load 1 false), [.t 29], [], some (27, true)⟩,
       ⟨(some 31), (.bin .gtr), [.t 30, .c (.int .i64 0)], [], some (27, true)⟩,
       ⟨(some 32), .pick, [.t 27, .t 31, .c (.bool false)], [], none⟩,
       ⟨(some 33), .mv, [.t 32], [], none⟩,
       ⟨(some 34), (.fieldAddr 0), [.t 7], [], some (33, false)⟩,
       ⟨(some 35), (.load 1 false), [.t 34], [], some (33, false)⟩,
       ⟨(some 36), (.bin .eql), [.t 35, .c (.str [98, 108, 111, 99, 107])], [], some (33, false)⟩,
       ⟨(some 37), .mv, [.t 36], [], some (33, false)⟩,
       ⟨(some 38), (.fieldAddr 3), [.t 4], [], some (37, true)⟩,
       ⟨(some 39), (.fieldAddr 1), [.t 38], [], some (37, true)⟩,
       ⟨(some 40), (.load 1 false), [.t 39], [], some (37, true)⟩,
       ⟨(some 41), (.fieldAddr 1), [.t 7], [], some (37, true)⟩,
       ⟨(some 42), (.load 1 false), [.t 41], [], some (37, true)⟩,
       ⟨(some 43), (.bin .gtr), [.t 40, .t 42], [], some (37, true)⟩,
       ⟨(some 44), .pick, [.t 37, .t 43, .c (.bool false)], [], some (33, false)⟩,
       ⟨(some 45), .pick, [.t 33, .c (.bool true), .t 44], [], none⟩] [2, 3, 4, 6, 45])
     (.cond (.t 45)
      (.seq (.region [
        ⟨(some 46), (.loadT 3 true), [.t 3], [], none⟩,
        ⟨(some 47), (.fieldAddr 3), [.t 4], [], none⟩,
        ⟨(some 48), (.fieldAddr 1), [.t 47], [], none⟩,
        ⟨(some 49), (.load 1 false), [.t 48], [], none⟩,
        ⟨(some 50), (.call .wr), [.c (.fn 45 []), .t 46, .c (.str [98, 108, 111, 99, 107]), .t 49], [46], none⟩,
        ⟨none, (.store 3), [.t 3, .t 50], [50], none⟩] [3, 4, 6])
      (.seq (.region [
        ⟨(some 51), (.loadT 3 true), [.t 3], [], none⟩,
        ⟨(some 52), (.load 6 true), [.t 4], [], none⟩,
        ⟨(some 53), (.call .gr), [.c (.fn 46 []), .t 51, .t 52], [51], none⟩,
        ⟨(some 54), (.load 6 true), [.t 4], [], none⟩,
        ⟨(some 55), (.call .wr), [.c (.fn 44 []), .t 53, .t 54], [53], none⟩,
        ⟨none, (.store 3), [.t 6, .t 55], [55], none⟩] [6])
      (.ret)))
      (.skip)))
    (.region [
     ⟨(some 56), (.loadT 3 true), [.t 3], [], none⟩,
     ⟨(some 57), (.fieldAddr 3), [.t 4], [], none⟩,
     ⟨(some 58), (.load 2 true), [.t 57], [], none⟩,
     ⟨(some 59), (.call .wr), [.c (.fn 29 []), .t 56, .c (.str [125]), .t 58], [56], none⟩,
     ⟨none, (.store 3), [.t 3, .t 59], [59], none⟩] [2, 3, 4, 6]))))))
    (.skip))
def s28b : VCode := .seq (.region [
     ⟨(some 60), .mv, [.t 2], [], none⟩] [3, 4, 6, 60])
   (.cond (.t 60)
    (.seq (.region [
      ⟨(some 61), (.fieldAddr 1), [.t 3], [], none⟩,
      ⟨(some 62), (.load 1 false), [.t 61], [], none⟩,
      ⟨(some 63), (.call .wr), [.c (.fn 43 []), .t 62], [62], none⟩,
      ⟨(some 8), (.alloc [.str [], .int .i64 0]), [], [], none⟩,
      ⟨none, (.store 2), [.t 8, .t 63], [], none⟩] [3, 4, 6, 8])
    (.seq (.block 0 (.loop (.seq (.seq (.region [
          ⟨(some 64), (.fieldAddr 0), [.t 8], [], none⟩,
          ⟨(some 65), (.load 1 false), [.t 64], [], none⟩,
          ⟨(some 66), (.bin .eql), [.t 65, .c (.str [98, 108, 111, 99, 107])], [], none⟩,
          ⟨(some 67), .mv, [.t 66], [], none⟩,
          ⟨(some 68), (.fieldAddr 1), [.t 8], [], some (67, true)⟩,
          ⟨(some 69), (.load 1 false), [.t 68], [], some (67, true)⟩,
          ⟨(some 70), (.fieldAddr 3), [.t 4], [], some (67, true)⟩,
          ⟨(some 71), (.fieldAddr 1), [.t 70], [], some (67, true)⟩,
          ⟨(some 72), (.load 1 false), [.t 71], [], some (67, true)⟩,
          ⟨(some 73), (.bin .gtr), [.t 69, .t 72], [], some (67, true)⟩,
          ⟨(some 74), .pick, [.t 67, .t 73, .c (.bool false)], [], none⟩] [3, 4, 6, 8, 74])
        (.cond (.t 74)
         (.skip)
         (.exit 0)))
       (.block 1 (.seq (.region [
          ⟨(some 75), (.fieldAddr 1), [.t 3], [], none⟩,
          ⟨(some 76), (.load 1 false), [.t 75], [], none⟩,
          ⟨(some 77), (.call .wr), [.c (.fn 47 []), .t 76], [76], none⟩,
          ⟨(some 78), (.fieldAddr 1), [.t 3], [], none⟩,
          ⟨none, (.store 1), [.t 78, .t 77], [77], none⟩] [3, 4, 6, 8])
        (.seq (.region [
          ⟨(some 79), (.loadT 3 true), [.t 3], [], none⟩,
          ⟨(some 80), (.fieldAddr 3), [.t 4], [], none⟩,
          ⟨(some 81), (.load 2 true), [.t 80], [], none⟩,
          ⟨(some 82), (.call .wr), [.c (.fn 29 []), .t 79, .c (.str [125]), .t 81], [79], none⟩,
          ⟨none, (.store 3), [.t 3, .t 82], [82], none⟩] [3, 4, 6, 8])
        (.region [
         ⟨(some 83), (.fieldAddr 1), [.t 3], [], none⟩,
         ⟨(some 84), (.load 1 false), [.t 83], [], none⟩,
         ⟨(some 85), (.call .wr), [.c (.fn 43 []), .t 84], [84], none⟩,
         ⟨none, (.store 2), [.t 8, .t 85], [], none⟩] [3, 4, 6, 8])))))))
    (.seq (.region [
      ⟨(some 86), (.fieldAddr 0), [.t 8], [], none⟩,
      ⟨(some 87), (.load 1 false), [.t 86], [], none⟩,
      ⟨(some 88), (.bin .eql), [.t 87, .c (.str [98, 108, 111, 99, 107])], [], none⟩,
      ⟨(some 89), .mv, [.t 88], [], none⟩,
      ⟨(some 90), (.fieldAddr 1), [.t 8], [], some (89, true)⟩,
      ⟨(some 91), (.load 1 false), [.t 90], [], some (89, true)⟩,
      ⟨(some 92), (.fieldAddr 3), [.t 4], [], some (89, true)⟩,
      ⟨(some 93), (.fieldAddr 1), [.t 92], [], some (89, true)⟩,
      ⟨(some 94), (.load 1 false), [.t 93], [], some (89, true)⟩,
      ⟨(some 95), (.bin .eql), [.t 91, .t 94], [], some (89, true)⟩,
      ⟨(some 96), .pick, [.t 89, .t 95, .c (.bool false)], [], none⟩] [3, 4, 6, 96])
    (.cond (.t 96)
     (.region [
      ⟨(some 97), (.loadT 3 true), [.t 3], [], none⟩,
      ⟨(some 98), (.fieldAddr 3), [.t 4], [], none⟩,
      ⟨(some 99), (.load 2 true), [.t 98], [], none⟩,
      ⟨(some 100), (.call .wr), [.c (.fn 29 []), .t 97, .c (.str [59]), .t 99], [97], none⟩,
      ⟨none, (.store 3), [.t 3, .t 100], [100], none⟩] [3, 4, 6])
     (.skip)))))
    (.skip))
def s28c : VCode := .seq (.region [
    ⟨(some 101), (.loadT 3 true), [.t 3], [], none⟩,
    ⟨(some 102), (.load 6 true), [.t 4], [], none⟩,
    ⟨(some 103), (.call .gr), [.c (.fn 46 []), .t 101, .t 102], [101], none⟩,
    ⟨(some 104), (.load 6 true), [.t 4], [], none⟩,
    ⟨(some 105), (.call .wr), [.c (.fn 44 []), .t 103, .t 104], [103], none⟩,
    ⟨none, (.store 3), [.t 6, .t 105], [105], none⟩] [6])
  (.ret)
theorem body28 : v28.body = .seq (.region [
    ⟨(some 3), .box, [.t 0], [0], none⟩,
    ⟨(some 4), .box, [.t 1], [], none⟩,
    ⟨(some 6), (.alloc [.sl true 6 [], .nilh 2, .bool false]), [], [], none⟩] [2, 3, 4, 6]) (.seq s28a (.seq s28b s28c)) := rfl

theorem TellH.next {H : Heap} {q : Option Nat} {t : Tok} {s2 : LS} {H3 : Heap} {q2 : Option Nat} {fv2 : V} (hL : TellH H q t s2 H3 q2 fv2) {a b c : V} {H5 : Heap} {q5 : Option Nat} {s5 : LS} {fv5 : V}
    (hg : GrowR (H3.set H.length (.cells 0 [a, b, c])) q2 H5 q5) (hf : FrR H5 s5.fs q5 fv5) :
    TellH H q t s5 (H5.set H.length (.cells 0 [.sl true 6 (s5.out.map tokC), fv5, .bool s5.due])) q5 fv5 ∧ getCells H5 H.length 0 = some [a, b, c] ∧ (∀ j, H.length + 2 < j → ∀ x, getCells H3 j 0 = some x → q2 ≠ some j → getCells (H5.set H.length (.cells 0 [.sl true 6 (s5.out.map tokC), fv5, .bool s5.due])) j 0 = some x) := by
  have hl := gc_lt hL.b0
  have k0 := hg.keep H.length 0 _ (hL.ne _ (by omega) (by omega)) (gc_same hl)
  have k1 := hg.keep (H.length + 1) 0 _ (hL.ne _ (by omega) (by omega)) (gc_nes hL.b1 (by omega))
  have k2 := hg.keep (H.length + 2) 0 _ (hL.ne _ (by omega) (by omega)) (gc_nes hL.b4 (by omega))
  have hl3 : H.length + 2 < H3.length := gc_lt hL.b4
  have hne : ∀ i, H.length ≤ i → i ≤ H.length + 2 → q5 ≠ some i := by
    intro i h1 h2
    rcases hg.qs with e | ⟨_, j, e, hj⟩
    · rw [e]; exact hL.ne i h1 h2
    · rw [e]; intro e2; cases e2; rw [List.length_set] at hj; omega
  refine ⟨⟨gc_same (gc_lt k0), gc_nes k1 (by omega), gc_nes k2 (by omega), hf.set (hne _ (by omega) (by omega)) _, ?_, hne⟩, k0, ?_⟩
  · exact (GrowR.trans (hL.gr.set (by omega) _) hg).set (by omega) _
  · intro j hj x hx hq
    exact gc_nes (hg.keep j 0 _ hq (gc_nes hx (by omega))) (by omega)
theorem sz_eq (s : LS) : s.out.length + s.fs.length = sz s := rfl

/-- Closing and telling: the end of a step. -/
theorem step_end {H : Heap} {q : Option Nat} {t : Tok} {s2 : LS} {H3 : Heap} {q2 : Option Nat} {fv2 : V} {s0 : LS} {R : V → Heap → Prop} (hL : TellH H q t s2 H3 q2 fv2) (hb : sz s2 ≤ 1000000000)
    (hs : tellS (closesS s2 t) t = s0) (hR : ∀ r H', ansR H q s0 r H' → R r H') (ex : List (Nat × V)) :
    run Try.prog s28c [] ⟨(3, .ptr H.length 0 0) :: (4, .ptr (H.length + 1) 0 0) :: (6, .ptr (H.length + 2) 0 0) :: ex, .u⟩ H3 (endT 6 3 true R) := by
  generalize hK : endT 6 3 true R = K
  obtain ⟨h21, h22, h23⟩ := hL.fr.plain
  have b0 := hL.b0
  have hl0 := gc_lt b0
  have hl4 := gc_lt hL.b4
  have b1 := fun (o : Obj) => gc_nes (o := o) hL.b1 (show H.length ≠ H.length + 1 by omega)
  have hx : ∃ x : Obj, x = .cells 0 [.sl false 6 (s2.out.map tokC), fv2, .bool s2.due] := ⟨_, rfl⟩
  obtain ⟨r, H', hT, fv3, L, rfl, hf3, rfl⟩ := rcloses_T (hL.fr.set (hL.ne _ (Nat.le_refl _) (by omega)) (.cells 0 [.sl false 6 (s2.out.map tokC), fv2, .bool s2.due])) (by rw [sz_eq]; exact hb) t
  have hszc := sz_closes s2 t
  obtain ⟨r5, H5, hT5, hans⟩ := tells_T (hf3.local L) (by rw [sz_eq]; omega) t
  obtain ⟨q5, fv5, rfl, hf5, hg5⟩ := hans
  have hg6 : GrowR (H3.set H.length (.cells 0 [.sl false 6 (s2.out.map tokC), fv2, .bool s2.due])) q2 H5 q5 := GrowR.trans (GrowR.local L) hg5
  obtain ⟨hN, k0, _⟩ := hL.next hg6 hf5
  have k1 := fun (o : Obj) => gc_low (L := L) (b1 o)
  have k4 := hg6.keep (H.length + 2) 0 _ (hL.ne _ (by omega) (by omega)) (gc_nes hL.b4 (by omega))
  obtain ⟨h51, h52, h53⟩ := hf5.plain
  unfold s28c
  simp only [go_sem, ↓reduceIte, ↓b0, ↓b1, h21, h22, h23, List.map_cons, List.map_nil, strip0_sl, strip0_bool]
  refine ⟨_, L, hT, ?_⟩
  simp only [go_sem, ↓reduceIte, ↓k1, stV, toksV]
  refine ⟨_, _, hT5, ?_⟩
  simp only [go_sem, ↓reduceIte, ↓k4, stV, toksV, h51, h52, h53]
  rw [← hK]
  have hne : q5 ≠ some (H.length + 2) := by
    rcases hg6.qs with e | ⟨_, j, e, hj⟩
    · rw [e]; exact hL.ne _ (by omega) (by omega)
    · rw [e]; intro e2; cases e2; rw [List.length_set] at hj; omega
  refine endT_st (id := H.length + 2) trivial rfl (gc_same (gc_lt k4)) (hR _ _ ⟨q5, fv5, by rw [← hs]; rfl, ?_, ?_⟩)
  · rw [← hs]; exact (hf5.set hne _).set hne _
  · exact ((GrowR.trans (hL.gr.set (by omega) _) hg6).set (by omega) _).set (by omega) _
end Go.Proofs.Ytdmnacjpgaopfaa.Vm
namespace Go.Proofs.Ytdmnacjpgaopfaa.Vm
open Go
set_option linter.unusedSimpArgs false

theorem TellH.grow {H : Heap} {q : Option Nat} {t : Tok} {s2 : LS} {H3 : Heap} {q2 : Option Nat} {fv2 : V} (h : TellH H q t s2 H3 q2 fv2) (L : Heap) : TellH H q t s2 (H3 ++ L) q2 fv2 :=
  ⟨gc_low h.b0, gc_low h.b1, gc_low h.b4, h.fr.local L, h.gr.trans (GrowR.local L), h.ne⟩
theorem TellH.out {H : Heap} {q : Option Nat} {t : Tok} {s2 : LS} {H3 : Heap} {q2 : Option Nat} {fv2 : V} (h : TellH H q t s2 H3 q2 fv2) {j : Nat} (hj : H.length + 2 < j) (hq : q2 ≠ some j) (o : Obj) : TellH H q t s2 (H3.set j o) q2 fv2 :=
  ⟨gc_nes h.b0 (by omega), gc_nes h.b1 (by omega), gc_nes h.b4 (by omega), h.fr.set hq o, h.gr.set (by omega) o, h.ne⟩
theorem TellH.box {H : Heap} {q : Option Nat} {t : Tok} {s2 : LS} {H3 : Heap} {q2 : Option Nat} {fv2 : V} (h : TellH H q t s2 H3 q2 fv2) {s5 : LS} {fv5 : V} (hf : FrR H3 s5.fs q2 fv5) :
    TellH H q t s5 (H3.set H.length (.cells 0 [.sl true 6 (s5.out.map tokC), fv5, .bool s5.due])) q2 fv5 := by
  have k := (h.next (a := .u) (b := .u) (c := .u) (s5 := s5) (GrowR.refl _ _) (hf.set (h.ne _ (Nat.le_refl _) (by omega)) _)).1
  rwa [List.set_set] at k
theorem topF_laid : ∀ {fs : List Fm}, (∀ f ∈ fs, f.k ≤ 6) → ((topF fs).1 == [98, 108, 111, 99, 107]) = inLaid fs ∧ (inLaid fs = true → (topF fs).2 = colF fs)
  | [], _ => ⟨rfl, fun h => (nomatch h)⟩
  | f :: r, h => by
    have hf := h f (List.mem_cons_self ..)
    rw [topF, inLaid, colF]
    cases hb : isBlk f with
    | false => simpa using topF_laid fun g hg => h g (List.mem_cons_of_mem _ hg)
    | true =>
      simp only [if_true]
      refine ⟨nm_eq hf (j := 0) (by omega), fun h0 => ?_⟩
      have : f.k = 0 := by simpa using h0
      rw [if_pos this]
theorem FrR.six {H : Heap} {fs : List Fm} {q : Option Nat} {fv : V} (h : FrR H fs q fv) : ∀ f ∈ fs, f.k ≤ 6 := by
  cases q with
  | none => rw [h.1]; intro f hf; cases hf
  | some k => exact h.1

/-- A mark more, told to the box. -/
theorem TellH.made {H : Heap} {q : Option Nat} {t : Tok} {s1 : LS} {H1 : Heap} {q2 : Option Nat} {fv1 : V} (hL : TellH H q t s1 H1 q2 fv1) (hb : sz s1 ≤ 1000000000) (x : List UInt8) :
    getCells (H1.set H.length (.cells 0 [.sl false 6 (s1.out.map tokC), fv1, .bool s1.due])) (H.length + 1) 0 = some [.int .i64 t.k, .str t.s, .int .i64 t.n, .int .i64 t.ln, .int .i64 t.co, .bool t.md] ∧
    ∃ r H2, T Try.prog 29 [.agg [.sl true 6 (s1.out.map tokC), fv1, .bool s1.due], .str x, .agg [.int .i64 t.ln, .int .i64 t.co]] (H1.set H.length (.cells 0 [.sl false 6 (s1.out.map tokC), fv1, .bool s1.due])) r H2 ∧
      r = .agg [.sl true 6 ((s1.out ++ [mkT x t.ln t.co]).map tokC), fv1, .bool s1.due] ∧ getCells H2 H.length 0 = some [.sl false 6 (s1.out.map tokC), fv1, .bool s1.due] ∧
      TellH H q t ⟨s1.out ++ [mkT x t.ln t.co], s1.fs, s1.due⟩ (H2.set H.length (.cells 0 [.sl true 6 ((s1.out ++ [mkT x t.ln t.co]).map tokC), fv1, .bool s1.due])) q2 fv1 ∧
      (∀ j, H.length + 2 < j → ∀ y, getCells H1 j 0 = some y → q2 ≠ some j → getCells (H2.set H.length (.cells 0 [.sl true 6 ((s1.out ++ [mkT x t.ln t.co]).map tokC), fv1, .bool s1.due])) j 0 = some y) := by
  refine ⟨gc_nes hL.b1 (by omega), ?_⟩
  obtain ⟨r, H2, hT, rfl, L, rfl⟩ := made_T (H := H1.set H.length (.cells 0 [.sl false 6 (s1.out.map tokC), fv1, .bool s1.due])) (s := s1) hL.fr.plain.1 hL.fr.plain.2.1 hL.fr.plain.2.2 (by unfold sz at hb; omega) x t.ln t.co
  obtain ⟨k1, k2, k3⟩ := hL.next (a := .sl false 6 (s1.out.map tokC)) (b := fv1) (c := .bool s1.due) (s5 := ⟨s1.out ++ [mkT x t.ln t.co], s1.fs, s1.due⟩) (fv5 := fv1) (GrowR.local L) ((hL.fr.set (hL.ne _ (Nat.le_refl _) (by omega)) _).local L)
  exact ⟨_, _, hT, rfl, k2, k1, k3⟩

theorem step_first {H : Heap} {q : Option Nat} {t : Tok} {s2 : LS} {H3 : Heap} {q2 : Option Nat} {fv2 : V} {s0 : LS} {R : V → Heap → Prop} (hL : TellH H q t s2 H3 q2 fv2) (hb : sz s2 ≤ 900000000) (first : Bool)
    (hs : tellS (closesS (begI first s2 t) t) t = s0) (hR : ∀ r H', ansR H q s0 r H' → R r H') (ex : List (Nat × V)) :
    run Try.prog s28b [.code s28c] ⟨(2, .bool first) :: (3, .ptr H.length 0 0) :: (4, .ptr (H.length + 1) 0 0) :: (6, .ptr (H.length + 2) 0 0) :: ex, .u⟩ H3 (endT 6 3 true R) := by
  generalize hK : endT 6 3 true R = K
  have hfin : ∀ {s5 : LS} {H5 : Heap} {q5 : Option Nat} {fv5 : V} (ex : List (Nat × V)), TellH H q t s5 H5 q5 fv5 → s5 = begI first s2 t →
      run Try.prog s28c [] ⟨(3, .ptr H.length 0 0) :: (4, .ptr (H.length + 1) 0 0) :: (6, .ptr (H.length + 2) 0 0) :: ex, .u⟩ H5 K := by
    rintro s5 H5 q5 fv5 ex hL5 rfl
    rw [← hK]
    exact step_end hL5 (by have := sz_begI first s2 t; omega) hs hR ex
  cases first with
  | false =>
    unfold s28b
    simp only [go_sem, ↓reduceIte]
    exact hfin _ hL rfl
  | true =>
    have b0 := hL.b0
    unfold s28b
    simp only [go_sem, ↓reduceIte, ↓b0, hL.fr.plain.1, hL.fr.plain.2.1, hL.fr.plain.2.2]
    obtain ⟨r, H', hT, rfl, L, rfl⟩ := top_T hL.fr (by unfold sz at hb; omega)
    refine ⟨_, _, hT, ?_⟩
    have hL4 := hL.grow L
    generalize H3 ++ L = H4 at hL4 ⊢
    have hn8 : H.length + 2 < H4.length := gc_lt hL4.b4
    have hq8 : q2 ≠ some H4.length := hL4.fr.lt (Nat.le_refl _)
    simp only [go_sem, ↓reduceIte, ↓gc_new, set_last, List.map_cons, List.map_nil]
    have hL4' := hL4.grow [.cells 0 [.str (topF s2.fs).1, .int .i64 (topF s2.fs).2]]
    have hn4 : getCells (H4 ++ [Obj.cells 0 [V.str (topF s2.fs).1, V.int .i64 (topF s2.fs).2]]) H4.length 0 = some [V.str (topF s2.fs).1, V.int .i64 (topF s2.fs).2] := gc_new
    generalize H4 ++ [Obj.cells 0 [V.str (topF s2.fs).1, V.int .i64 (topF s2.fs).2]] = H5 at hL4' hn4 ⊢
    generalize H4.length = n8 at hn8 hq8 hn4 ⊢
    refine WP.loop' (fun m E H1 => ∃ s1 fv1 ex, TellH H q t s1 H1 q2 fv1 ∧ getCells H1 n8 0 = some [.str (topF s1.fs).1, .int .i64 (topF s1.fs).2] ∧ s1.due = s2.due ∧ sz s1 ≤ 900000000 ∧ m = s1.fs.length ∧
      s1.out ++ List.replicate (begF t.co s1.fs.length s1.fs).1 (mkT bShut t.ln t.co) = s2.out ++ List.replicate (begF t.co s2.fs.length s2.fs).1 (mkT bShut t.ln t.co) ∧ (begF t.co s1.fs.length s1.fs).2 = (begF t.co s2.fs.length s2.fs).2 ∧
      E = ⟨(3, .ptr H.length 0 0) :: (4, .ptr (H.length + 1) 0 0) :: (6, .ptr (H.length + 2) 0 0) :: (8, .ptr n8 0 0) :: ex, .u⟩) (n := s2.fs.length)
      ⟨s2, fv2, [], hL4', hn4, rfl, hb, rfl, rfl, rfl, rfl⟩ ?_
    rintro m E H1 ⟨s1, fv1, ex, hL1, hn1, hdue, hlen, rfl, hout, hfs, rfl⟩
    have c0 := hL1.b0
    have c1 := hL1.b1
    obtain ⟨e0, e1⟩ := topF_laid hL1.fr.six
    -- what is behind the loop
    have hend : ¬ (inLaid s1.fs = true ∧ t.co < colF s1.fs) → s1.out = s2.out ++ List.replicate (begF t.co s2.fs.length s2.fs).1 (mkT bShut t.ln t.co) ∧ s1.fs = (begF t.co s2.fs.length s2.fs).2 := by
      intro hstop
      rw [begF_stop hstop] at hout hfs
      exact ⟨by simpa using hout, hfs⟩
    have hfinN : ¬ (inLaid s1.fs = true ∧ t.co < colF s1.fs) → (inLaid s1.fs && colF s1.fs == t.co) = false → s1 = begI true s2 t := by
      intro hstop hb
      obtain ⟨e1, e2⟩ := hend hstop
      unfold begI begS
      simp only [if_true]
      rw [← e2, hb, ← e1]
      simp [← hdue]
    have hfinY : ¬ (inLaid s1.fs = true ∧ t.co < colF s1.fs) → (inLaid s1.fs && colF s1.fs == t.co) = true → (⟨s1.out ++ [mkT bSemi t.ln t.co], s1.fs, s1.due⟩ : LS) = begI true s2 t := by
      intro hstop hb
      obtain ⟨e1, e2⟩ := hend hstop
      unfold begI begS
      simp only [if_true]
      rw [← e2, hb, ← e1]
      simp [← hdue]
    cases hi : inLaid s1.fs with
    | false =>
      rw [hi] at e0
      simp only [go_sem, ↓reduceIte, ↓hn1, ↓c1, e0]
      exact hfin _ hL1 (hfinN (by rw [hi]; simp) (by rw [hi]; rfl))
    | true =>
      rw [hi] at e0
      have e1 := e1 hi
      by_cases hc : t.co < colF s1.fs
      · obtain ⟨k, rfl⟩ : ∃ k, q2 = some k := by
          cases q2 with
          | none => have := hL1.fr.1; rw [this] at hi; cases hi
          | some k => exact ⟨k, rfl⟩
        obtain ⟨fv', hTd, hfd⟩ := dropped_T hL1.fr (by unfold sz at hlen; omega)
        have hsh := hfd
        obtain ⟨_, ver', rest', rfl, _⟩ := hsh
        have hdec : decide (colF s1.fs > t.co) = true := decide_eq_true hc
        have hstep := begF_step hi hc
        have hlt := drop_lt hi
        have hLd := hL1.box (s5 := ⟨s1.out, dropF s1.fs, s1.due⟩) hfd
        have hnd : getCells (H1.set H.length (.cells 0 [.sl true 6 (s1.out.map tokC), .hsl k ver' 0 (dropF s1.fs).length 2, .bool s1.due])) n8 0 = some [.str (topF s1.fs).1, .int .i64 (topF s1.fs).2] := gc_nes hn1 (by omega)
        simp only [go_sem, ↓reduceIte, ↓hn1, ↓c0, ↓c1, e0, e1, hdec, hL1.fr.plain.1, hL1.fr.plain.2.1, hL1.fr.plain.2.2]
        refine ⟨_, _, hTd, ?_⟩
        simp only [go_sem, ↓reduceIte, ↓hn1, ↓c0, ↓c1]
        generalize H1.set H.length (.cells 0 [.sl true 6 (s1.out.map tokC), .hsl k ver' 0 (dropF s1.fs).length 2, .bool s1.due]) = H2 at hLd hnd ⊢
        have d0 := hLd.b0
        have d1 := hLd.b1
        obtain ⟨m1, r2, H5', hTm, rfl, m2, hLm, m3⟩ := hLd.made (by simp only [sz]; unfold sz at hlen; omega) bShut
        simp only at m1 hTm m2 hLm m3
        have hnm := m3 n8 hn8 _ hnd hq8
        try simp only [go_sem, ↓reduceIte, ↓d0, ↓d1, ↓m1, hfd.plain.1, hfd.plain.2.1, hfd.plain.2.2, List.map_cons, List.map_nil]
        refine ⟨_, _, hTm, ?_⟩
        simp only [go_sem, ↓reduceIte, ↓m2]
        generalize H5'.set H.length _ = H6 at hLm hnm ⊢
        have f0 := hLm.b0
        obtain ⟨r3, H7, hTt, rfl, L7, rfl⟩ := top_T hLm.fr (by simp only; unfold sz at hlen; omega)
        have hn7 := gc_low (L := L7) hnm
        simp only [go_sem, ↓reduceIte, ↓f0]
        refine ⟨_, _, hTt, ?_⟩
        simp only [go_sem, ↓reduceIte, ↓hn7, List.map_cons, List.map_nil]
        refine ⟨(dropF s1.fs).length, hlt, ⟨s1.out ++ [mkT bShut t.ln t.co], dropF s1.fs, s1.due⟩, _, [], (hLm.grow L7).out hn8 hq8 _, gc_same (gc_lt hn7), hdue, ?_, rfl, ?_, ?_, rfl⟩
        · unfold sz at hlen ⊢; simp; omega
        · rw [← hout, hstep]
          simp only [List.append_assoc, List.replicate_succ, List.singleton_append]
        · rw [← hfs, hstep]
      · have hdec : decide (colF s1.fs > t.co) = false := decide_eq_false hc
        simp only [go_sem, ↓reduceIte, ↓hn1, ↓c1, e0, e1, hdec]
        have hstop : ¬ (inLaid s1.fs = true ∧ t.co < colF s1.fs) := fun h => hc h.2
        cases hq : colF s1.fs == t.co with
        | false =>
          simp only [go_sem, ↓reduceIte, Bool.false_eq_true]
          exact hfin _ hL1 (hfinN hstop (by rw [hi, hq]; rfl))
        | true =>
          obtain ⟨m1, r2, H5', hTm, rfl, m2, hLm, m3⟩ := hL1.made (by omega) bSemi
          simp only [go_sem, ↓reduceIte, ↓c0, ↓c1, ↓m1, hL1.fr.plain.1, hL1.fr.plain.2.1, hL1.fr.plain.2.2, List.map_cons, List.map_nil]
          refine ⟨_, _, hTm, ?_⟩
          simp only [go_sem, ↓reduceIte, ↓m2, hL1.fr.plain.1, hL1.fr.plain.2.1, hL1.fr.plain.2.2]
          exact hfin _ hLm (hfinY hstop (by rw [hi, hq]; rfl))
end Go.Proofs.Ytdmnacjpgaopfaa.Vm
namespace Go.Proofs.Ytdmnacjpgaopfaa.Vm
open Go
set_option linter.unusedSimpArgs false

section
variable {H : Heap} {q : Option Nat} {t : Tok} {s2 : LS} {H3 : Heap} {q2 : Option Nat} {fv2 : V}
/-- The box's cells when what they own was handed over. -/
abbrev boxO (s : LS) (fv : V) : Obj := .cells 0 [.sl false 6 (s.out.map tokC), fv, .bool s.due]
abbrev boxW (s : LS) (fv : V) : Obj := .cells 0 [.sl true 6 (s.out.map tokC), fv, .bool s.due]
abbrev tokW (t : Tok) : List V := [.int .i64 t.k, .str t.s, .int .i64 t.n, .int .i64 t.ln, .int .i64 t.co, .bool t.md]
/-- The answer's cell is written last. -/
theorem TellH.answer (hL : TellH H q t s2 H3 q2 fv2) {a b c : V} {H5 : Heap} {q5 : Option Nat} {fv5 : V} {s5 : LS} (hf5 : FrR H5 s5.fs q5 fv5) (hg6 : GrowR (H3.set H.length (.cells 0 [a, b, c])) q2 H5 q5)
    {R : V → Heap → Prop} (hR : ∀ r H', ansR H q s5 r H' → R r H') (E : List (Nat × V)) :
    getCells H5 (H.length + 2) 0 = some [.sl true 6 [], .nilh 2, .bool false] ∧ endT 6 3 true R .ret ⟨(6, .ptr (H.length + 2) 0 0) :: E, .u⟩ (H5.set (H.length + 2) (boxW s5 fv5)) := by
  have hl3 : H.length + 2 < H3.length := gc_lt hL.b4
  have k4 := hg6.keep (H.length + 2) 0 _ (hL.ne _ (by omega) (by omega)) (gc_nes hL.b4 (by omega))
  have hne : q5 ≠ some (H.length + 2) := by
    rcases hg6.qs with e | ⟨_, j, e, hj⟩
    · rw [e]; exact hL.ne _ (by omega) (by omega)
    · rw [e]; intro e2; cases e2; rw [List.length_set] at hj; omega
  refine ⟨k4, endT_st (id := H.length + 2) trivial rfl (gc_same (gc_lt k4)) (hR _ _ ⟨q5, fv5, rfl, ?_, ?_⟩)⟩
  · exact (hf5.set hne _).set hne _
  · exact ((GrowR.trans (hL.gr.set (by omega) _) hg6).set (by omega) _).set (by omega) _
theorem TellH.tell (hL : TellH H q t s2 H3 q2 fv2) (hb : sz s2 ≤ 1000000000) {R : V → Heap → Prop} (hR : ∀ r H', ansR H q (tellS s2 t) r H' → R r H') :
    getCells (H3.set H.length (boxO s2 fv2)) (H.length + 1) 0 = some (tokW t) ∧ ∃ r H5, T Try.prog 44 [.agg [.sl true 6 (s2.out.map tokC), fv2, .bool s2.due], .agg (tokW t)] (H3.set H.length (boxO s2 fv2)) r H5 ∧
      ∃ fv5, r = stV (tellS s2 t) fv5 ∧ (plainC fv5 = true ∧ scal0 fv5 = true ∧ strip0 fv5 = fv5) ∧ getCells H5 (H.length + 2) 0 = some [.sl true 6 [], .nilh 2, .bool false] ∧
      ∀ E, endT 6 3 true R .ret ⟨(6, .ptr (H.length + 2) 0 0) :: E, .u⟩ (H5.set (H.length + 2) (boxW (tellS s2 t) fv5)) := by
  refine ⟨gc_nes hL.b1 (by omega), ?_⟩
  obtain ⟨r5, H5, hT5, q5, fv5, rfl, hf5, hg5⟩ := tells_T (hL.fr.set (hL.ne _ (Nat.le_refl _) (by omega)) (boxO s2 fv2)) (by rw [sz_eq]; omega) t
  exact ⟨_, H5, hT5, fv5, rfl, hf5.plain, (hL.answer hf5 hg5 hR []).1, fun E => (hL.answer hf5 hg5 hR E).2⟩
theorem TellH.fin (hL : TellH H q t s2 H3 q2 fv2) (hb : sz s2 ≤ 1000000000) {R : V → Heap → Prop} (hR : ∀ r H', ansR H q (tellS (closesS s2 t) t) r H' → R r H') :
    getCells (H3.set H.length (boxO s2 fv2)) (H.length + 1) 0 = some (tokW t) ∧ ∃ fv3 L, T Try.prog 46 [.agg [.sl true 6 (s2.out.map tokC), fv2, .bool s2.due], .agg (tokW t)] (H3.set H.length (boxO s2 fv2)) (stV (closesS s2 t) fv3) (H3.set H.length (boxO s2 fv2) ++ L) ∧
      getCells (H3.set H.length (boxO s2 fv2) ++ L) (H.length + 1) 0 = some (tokW t) ∧ ∃ H5 fv5, T Try.prog 44 [stV (closesS s2 t) fv3, .agg (tokW t)] (H3.set H.length (boxO s2 fv2) ++ L) (stV (tellS (closesS s2 t) t) fv5) H5 ∧
      (plainC fv5 = true ∧ scal0 fv5 = true ∧ strip0 fv5 = fv5) ∧ getCells H5 (H.length + 2) 0 = some [.sl true 6 [], .nilh 2, .bool false] ∧
      ∀ E, endT 6 3 true R .ret ⟨(6, .ptr (H.length + 2) 0 0) :: E, .u⟩ (H5.set (H.length + 2) (boxW (tellS (closesS s2 t) t) fv5)) := by
  have k1 : getCells (H3.set H.length (boxO s2 fv2)) (H.length + 1) 0 = some (tokW t) := gc_nes hL.b1 (by omega)
  refine ⟨k1, ?_⟩
  obtain ⟨r, H', hT, fv3, L, rfl, hf3, rfl⟩ := rcloses_T (hL.fr.set (hL.ne _ (Nat.le_refl _) (by omega)) (boxO s2 fv2)) (by rw [sz_eq]; exact hb) t
  have hszc := sz_closes s2 t
  obtain ⟨r5, H5, hT5, q5, fv5, rfl, hf5, hg5⟩ := tells_T (hf3.local L) (by rw [sz_eq]; omega) t
  have hg6 : GrowR (H3.set H.length (boxO s2 fv2)) q2 H5 q5 := GrowR.trans (GrowR.local L) hg5
  exact ⟨fv3, L, hT, gc_low k1, H5, fv5, hT5, hf5.plain, (hL.answer hf5 hg6 hR []).1, fun E => (hL.answer hf5 hg6 hR E).2⟩
theorem TellH.pushed (hL : TellH H q t s2 H3 q2 fv2) (hb : sz s2 ≤ 1000000000) (f : Fm) (hf : f.k ≤ 6) :
    getCells (H3.set H.length (boxO s2 fv2)) (H.length + 1) 0 = some (tokW t) ∧ ∃ r H2, T Try.prog 45 [.agg [.sl true 6 (s2.out.map tokC), fv2, .bool s2.due], .str (nm f.k), .int .i64 f.co] (H3.set H.length (boxO s2 fv2)) r H2 ∧
      ∃ q5 fv5, r = .agg [.sl true 6 (s2.out.map tokC), fv5, .bool s2.due] ∧ (plainC fv5 = true ∧ scal0 fv5 = true ∧ strip0 fv5 = fv5) ∧ (∃ a b c, getCells H2 H.length 0 = some [a, b, c]) ∧ TellH H q t ⟨s2.out, f :: s2.fs, s2.due⟩ (H2.set H.length (.cells 0 [.sl true 6 (s2.out.map tokC), fv5, .bool s2.due])) q5 fv5 := by
  refine ⟨gc_nes hL.b1 (by omega), ?_⟩
  obtain ⟨r5, H5, hT5, q5, fv5, rfl, hf5, hg5⟩ := pushed_T (hL.fr.set (hL.ne _ (Nat.le_refl _) (by omega)) (boxO s2 fv2)) (by unfold sz at hb; omega) f hf
  obtain ⟨k1, k2, k3⟩ := hL.next (s5 := ⟨s2.out, f :: s2.fs, s2.due⟩) hg5 hf5
  exact ⟨_, H5, hT5, q5, fv5, rfl, hf5.plain, ⟨_, _, _, k2⟩, k1⟩
end

theorem step_T {H : Heap} {s : LS} {q : Option Nat} {fv : V} (h : FrR H s.fs q fv) (hb : sz s ≤ 800000000) (t : Tok) (first : Bool) :
    ∃ r H', T Try.prog 28 [stV s fv, .agg (tokC t), .bool first] H r H' ∧ ansR H q (stepS s t first) r H' := by
  refine T.of_take mix c28 rfl rfl ?_
  have hL : TellH H q t s (H ++ [boxW s fv, .cells 0 (tokW t), .cells 0 [.sl true 6 [], .nilh 2, .bool false]]) q fv :=
    ⟨gc_loc0, gc_loc 1, gc_loc 2, h.local _, GrowR.local _, fun i hi _ => h.lt hi⟩
  obtain ⟨hp1, hp2, hp3⟩ := h.plain
  rw [body28]
  unfold stV tokC
  simp only [go_sem, ↓reduceIte, toksV, List.append_assoc, hp1, hp2, hp3]
  generalize H ++ _ = H1 at hL ⊢
  have b0 := hL.b0
  cases hd : s.due with
  | false =>
    rw [hd] at b0
    have hK := fun (ex : List (Nat × V)) => step_first (R := ansR H q (stepS s t first)) hL (by omega) first (by unfold stepS; rw [if_neg (by rw [hd]; simp)]) (fun _ _ h => h) ex
    generalize endT 6 3 true (ansR H q (stepS s t first)) = K at hK ⊢
    unfold s28a
    simp only [go_sem, ↓reduceIte, ↓b0]
    exact hK _
  | true =>
    rw [hd] at b0
    have hstep : stepS s t first = if isM t bOpen then tellS (closesS ⟨s.out, s.fs, false⟩ t) t else if colF s.fs < t.co then tellS (closesS ⟨s.out ++ [mkT bOpen t.ln t.co], ⟨0, t.co⟩ :: s.fs, false⟩ t) t
        else tellS (closesS (begI first ⟨s.out ++ [mkT bOpen t.ln t.co, mkT bShut t.ln t.co], s.fs, false⟩ t) t) t := by
      unfold stepS; rw [if_pos hd]
    have hL1 := hL.box (s5 := ⟨s.out, s.fs, false⟩) hL.fr
    obtain ⟨e0, e1⟩ := topF_laid h.six
    have hKR : ∃ R, R = ansR H q (stepS s t first) := ⟨_, rfl⟩
    obtain ⟨R, hR⟩ := hKR
    rw [← hR]
    have hRR : ∀ s', stepS s t first = s' → ∀ r H', ansR H q s' r H' → R r H' := by
      rintro s' rfl r H' hh; rw [hR]; exact hh
    unfold s28a
    simp only [go_sem, ↓reduceIte, ↓b0]
    generalize H1.set H.length _ = H2 at hL1 ⊢
    have d0 := hL1.b0
    obtain ⟨r3, H3, hTt, rfl, L3, rfl⟩ := top_T hL1.fr (by simp only; unfold sz at hb; omega)
    simp only [go_sem, ↓reduceIte, ↓d0, hp1, hp2, hp3]
    refine ⟨_, _, hTt, ?_⟩
    have hL4 := hL1.grow L3
    generalize H2 ++ L3 = H4 at hL4 ⊢
    have hn7 : H.length + 2 < H4.length := gc_lt hL4.b4
    have hq7 : q ≠ some H4.length := hL4.fr.lt (Nat.le_refl _)
    have hL5 := hL4.grow [.cells 0 [.str (topF s.fs).1, .int .i64 (topF s.fs).2]]
    have hn5 : getCells (H4 ++ [Obj.cells 0 [V.str (topF s.fs).1, V.int .i64 (topF s.fs).2]]) H4.length 0 = some [V.str (topF s.fs).1, V.int .i64 (topF s.fs).2] := gc_new
    have hm := mark_T t bOpen (H4 ++ [Obj.cells 0 [V.str (topF s.fs).1, V.int .i64 (topF s.fs).2]])
    have f1 := hL5.b1
    have f0 := hL5.b0
    simp only [go_sem, ↓reduceIte, ↓gc_new, set_last, List.map_cons, List.map_nil, ↓f1]
    refine ⟨_, _, hm, ?_⟩
    generalize H4 ++ [Obj.cells 0 [V.str (topF s.fs).1, V.int .i64 (topF s.fs).2]] = H5 at hL5 hn5 f0 f1 ⊢
    generalize H4.length = n7 at hn7 hq7 hn5 ⊢
    cases hmk : isM t bOpen with
    | true =>
      rw [hmk, if_pos rfl] at hstep
      have hcl : closesS (⟨s.out, s.fs, false⟩ : LS) t = ⟨s.out, s.fs, false⟩ := by unfold closesS; rw [open_close hmk]
      rw [hcl] at hstep
      obtain ⟨k1, r6, H6, hT6, fv6, rfl, ⟨z1, z2, z3⟩, k2, hend⟩ := hL5.tell (by unfold sz at hb ⊢; simp only; omega) (hRR _ hstep)
      generalize endT 6 3 true R = K at hend ⊢
      simp only [go_sem, ↓reduceIte, ↓f0, ↓k1, hp1, hp2, hp3, List.map_cons, List.map_nil]
      refine ⟨_, _, hT6, ?_⟩
      simp only [go_sem, ↓reduceIte, stV, toksV, ↓k2, z1, z2, z3]
      exact hend _
    | false =>
      rw [hmk, if_neg (by simp)] at hstep
      obtain ⟨m1, r6, H6, hT6, rfl, m2, hL6, m3⟩ := hL5.made (by unfold sz at hb ⊢; simp only; omega) bOpen
      have hn6 := m3 n7 hn7 _ hn5 hq7
      simp only [go_sem, ↓reduceIte, ↓f0, ↓m1, hp1, hp2, hp3, List.map_cons, List.map_nil]
      refine ⟨_, _, hT6, ?_⟩
      simp only [go_sem, ↓reduceIte, ↓m2, hp1, hp2, hp3]
      generalize H6.set H.length _ = H7 at hL6 hn6 ⊢
      have g0 := hL6.b0
      have g1 := hL6.b1
      cases hi : inLaid s.fs with
      | true =>
        rw [hi] at e0
        have e1 := e1 hi
        by_cases hlt : colF s.fs < t.co
        · have hdec : decide (t.co > colF s.fs) = true := decide_eq_true hlt
          simp only [go_sem, ↓reduceIte, ↓hn6, ↓g1, e0, e1, hdec]
          rw [if_pos hlt] at hstep
          obtain ⟨y1, r8, H8, hT8, q8, fv8, rfl, ⟨z1, z2, z3⟩, ⟨u1, u2, u3, y2⟩, hL8⟩ := hL6.pushed (by unfold sz at hb ⊢; simp; omega) ⟨0, t.co⟩ (by simp)
          simp only [nm] at hT8
          simp only [go_sem, ↓reduceIte, ↓g0, ↓g1, ↓y1, hp1, hp2, hp3, List.map_cons, List.map_nil]
          refine ⟨_, _, hT8, ?_⟩
          simp only [go_sem, ↓reduceIte, ↓y2, z1, z2, z3]
          generalize H8.set H.length _ = H9 at hL8 ⊢
          have x0 := hL8.b0
          obtain ⟨w1, fv3, L9, hT9, w2, H10, fv10, hT10, ⟨v1, v2, v3⟩, w3, hend⟩ := hL8.fin (by unfold sz at hb ⊢; simp; omega) (hRR _ hstep)
          generalize endT 6 3 true R = K at hend ⊢
          simp only [go_sem, ↓reduceIte, ↓x0, ↓w1, z1, z2, z3, List.map_cons, List.map_nil]
          refine ⟨_, _, hT9, ?_⟩
          simp only [go_sem, ↓reduceIte, ↓w2, stV, toksV]
          refine ⟨_, _, hT10, ?_⟩
          simp only [go_sem, ↓reduceIte, stV, toksV, ↓w3, v1, v2, v3]
          exact hend _
        · have hdec : decide (t.co > colF s.fs) = false := decide_eq_false hlt
          simp only [go_sem, ↓reduceIte, ↓hn6, ↓g1, e0, e1, hdec]
          rw [if_neg hlt] at hstep
          obtain ⟨y1, r8, H8, hT8, rfl, y2, hL8, y3⟩ := hL6.made (by unfold sz at hb ⊢; simp; omega) bShut
          have hst := fun (ex : List (Nat × V)) => step_first (R := R) hL8 (by unfold sz at hb ⊢; simp; omega) first (by rw [List.append_assoc]; exact hstep.symm) (hRR _ rfl) ex
          generalize endT 6 3 true R = K at hst ⊢
          simp only [go_sem, ↓reduceIte, ↓g0, ↓g1, ↓y1, hp1, hp2, hp3, List.map_cons, List.map_nil]
          refine ⟨_, _, hT8, ?_⟩
          simp only [go_sem, ↓reduceIte, ↓y2, hp1, hp2, hp3]
          exact hst _
      | false =>
        rw [hi] at e0
        have ec := colF_out hi
        by_cases hlt : colF s.fs < t.co
        · have hdec : decide (t.co > 0) = true := decide_eq_true (by omega)
          simp only [go_sem, ↓reduceIte, ↓hn6, ↓g1, e0, hdec]
          rw [if_pos hlt] at hstep
          obtain ⟨y1, r8, H8, hT8, q8, fv8, rfl, ⟨z1, z2, z3⟩, ⟨u1, u2, u3, y2⟩, hL8⟩ := hL6.pushed (by unfold sz at hb ⊢; simp; omega) ⟨0, t.co⟩ (by simp)
          simp only [nm] at hT8
          simp only [go_sem, ↓reduceIte, ↓g0, ↓g1, ↓y1, hp1, hp2, hp3, List.map_cons, List.map_nil]
          refine ⟨_, _, hT8, ?_⟩
          simp only [go_sem, ↓reduceIte, ↓y2, z1, z2, z3]
          generalize H8.set H.length _ = H9 at hL8 ⊢
          have x0 := hL8.b0
          obtain ⟨w1, fv3, L9, hT9, w2, H10, fv10, hT10, ⟨v1, v2, v3⟩, w3, hend⟩ := hL8.fin (by unfold sz at hb ⊢; simp; omega) (hRR _ hstep)
          generalize endT 6 3 true R = K at hend ⊢
          simp only [go_sem, ↓reduceIte, ↓x0, ↓w1, z1, z2, z3, List.map_cons, List.map_nil]
          refine ⟨_, _, hT9, ?_⟩
          simp only [go_sem, ↓reduceIte, ↓w2, stV, toksV]
          refine ⟨_, _, hT10, ?_⟩
          simp only [go_sem, ↓reduceIte, stV, toksV, ↓w3, v1, v2, v3]
          exact hend _
        · have hdec : decide (t.co > 0) = false := decide_eq_false (by omega)
          simp only [go_sem, ↓reduceIte, ↓hn6, ↓g1, e0, hdec]
          rw [if_neg hlt] at hstep
          obtain ⟨y1, r8, H8, hT8, rfl, y2, hL8, y3⟩ := hL6.made (by unfold sz at hb ⊢; simp; omega) bShut
          have hst := fun (ex : List (Nat × V)) => step_first (R := R) hL8 (by unfold sz at hb ⊢; simp; omega) first (by rw [List.append_assoc]; exact hstep.symm) (hRR _ rfl) ex
          generalize endT 6 3 true R = K at hst ⊢
          simp only [go_sem, ↓reduceIte, ↓g0, ↓g1, ↓y1, hp1, hp2, hp3, List.map_cons, List.map_nil]
          refine ⟨_, _, hT8, ?_⟩
          simp only [go_sem, ↓reduceIte, ↓y2, hp1, hp2, hp3]
          exact hst _
end Go.Proofs.Ytdmnacjpgaopfaa.Vm
