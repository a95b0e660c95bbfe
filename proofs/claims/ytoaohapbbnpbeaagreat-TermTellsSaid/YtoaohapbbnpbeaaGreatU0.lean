/-
What the lexer tells, as plain functions of lists of bytes: blanks, classes, runs, kinds, numbers, places, tokens. No program in sight.
The value machine, part 1: values, heaps of objects, and how they stand for the model's values and memory.
The value machine, part 2: operations on values.
The value machine, part 3: lists of values that stand for lists of cells: cut, joined, copied.
The value machine, part 4: memory that is made, written or handed on keeps what all else stands for.
The value machine, part 5: append, and objects that are written.
The value machine, part 6: objects that are read, written, made of fresh lists.
The value machine, part 7: operations that only reckon.
The value machine, part 8: operations on memory.
The value machine, part 9: objects that are made and written.
The value machine, part 10: structs and lists that are built; slices, indexes, lengths; append.
The value machine, part 11: places, parts, lengths.
The value machine, part 12: parts of lists, lists that are made, appended to.
The value machine, part 13: append, of lists and of objects.
The value machine, part 14: structs that are held against each other.
The value machine: maps.
The value machine, part 15: which operation of the model is which of the machine; each answers as the machine says.
-/
import Derived.Test.YtoaohapbbnpbeaaGreatProg
import Derived.Tactics
import Derived.Orders
import Derived.LoopN
import Derived.Scope
import Derived.KernelRfl
import Derived.Laws.CopyRow
import Derived.Laws.Cells
import Derived.Deep.AppendSrc
import Derived.Laws.Strings
import Derived.Great.BuildSlice
import Derived.MapKept
set_option linter.unusedVariables false
set_option linter.unusedSimpArgs false
set_option linter.constructorNameAsVariable false
namespace Go.Proofs.YtoaohapbbnpbeaaGreat.Lx

abbrev L := List UInt8
structure Tok where
  k : Int
  s : L
  n : Int
  ln : Int
  co : Int
  md : Bool
deriving DecidableEq
/-! ### Blanks -/
/-- How many bytes stand ahead of the line's end. -/
def eolN : L → Nat
  | [] => 0
  | c :: r => if c = 10 then 0 else eolN r + 1
theorem eolN_le : ∀ l, eolN l ≤ l.length
  | [] => Nat.le_refl _
  | c :: r => by
    have := eolN_le r
    simp only [eolN]
    split <;> simp <;> omega

/-- How many bytes of blanks and remarks some bytes begin with. -/
def blankN (l : L) : Nat :=
  match l with
  | [] => 0
  | c :: r => if c = 32 ∨ c = 10 then blankN r + 1 else if c = 45 ∧ r.head? = some 45 then (eolN r + 1) + blankN (r.drop (eolN r)) else 0
termination_by l.length
decreasing_by
  · simp
  · simp; omega
theorem blankN_nil : blankN [] = 0 := by rw [blankN]
theorem blankN_blank {c : UInt8} {r : L} (h : c = 32 ∨ c = 10) : blankN (c :: r) = blankN r + 1 := by rw [blankN, if_pos h]
theorem blankN_remark {r : L} (h : r.head? = some 45) : blankN (45 :: r) = (eolN r + 1) + blankN (r.drop (eolN r)) := by
  rw [blankN, if_neg (by decide), if_pos ⟨rfl, h⟩]
theorem blankN_none {c : UInt8} {r : L} (h : ¬ (c = 32 ∨ c = 10)) (h2 : ¬ (c = 45 ∧ r.head? = some 45)) : blankN (c :: r) = 0 := by
  rw [blankN, if_neg h, if_neg h2]
theorem blankN_le : ∀ (n : Nat) (l : L), l.length ≤ n → blankN l ≤ l.length
  | _, [], _ => by rw [blankN_nil]; simp
  | 0, _ :: _, h => by simp at h
  | n + 1, c :: r, h => by
    simp only [List.length_cons] at h ⊢
    rw [blankN]
    split
    · have := blankN_le n r (by omega); omega
    · split
      · have := blankN_le n (r.drop (eolN r)) (by simp; omega)
        have := eolN_le r
        simp at *
        omega
      · omega

/-! ### Places -/
def step (p : Int × Int) (c : UInt8) : Int × Int := if c = 10 then (p.1 + 1, 1) else (p.1, p.2 + 1)
def adv (p : Int × Int) (l : L) : Int × Int := l.foldl step p
theorem adv_nil (p : Int × Int) : adv p [] = p := rfl
theorem adv_cons (p : Int × Int) (c : UInt8) (l : L) : adv p (c :: l) = adv (step p c) l := rfl
theorem adv_append (p : Int × Int) (a b : L) : adv p (a ++ b) = adv (adv p a) b := List.foldl_append ..
theorem adv_plain {p : Int × Int} : ∀ {l : L}, (∀ c ∈ l, c ≠ 10) → adv p l = (p.1, p.2 + l.length) := by
  intro l
  induction l generalizing p with
  | nil => intro _; simp [adv_nil]
  | cons c r ih =>
    intro h
    rw [adv_cons, ih (fun x hx => h x (by simp [hx]))]
    simp only [step, if_neg (h c (by simp)), List.length_cons]
    refine Prod.ext rfl ?_
    show p.2 + 1 + (r.length : Int) = p.2 + ((r.length + 1 : Nat) : Int)
    omega

/-! ### Classes -/
def isSign (n : Nat) : Bool := [33, 35, 36, 37, 38, 42, 43, 46, 47, 58, 60, 61, 62, 63, 64, 94, 124, 126, 45].contains n
def cls (n : Nat) : Int :=
  if 97 ≤ n ∧ n ≤ 122 ∨ n = 95 then 1 else if 65 ≤ n ∧ n ≤ 90 then 2 else if 48 ≤ n ∧ n ≤ 57 then 3 else if n = 40 ∨ n = 41 ∨ n = 123 ∨ n = 125 ∨ n = 59 ∨ n = 92 then 4 else if isSign n then 5 else 0
/-- Does a token that began so go on with a byte? -/
def goes (k : Int) (n : Nat) : Bool :=
  if k = 1 ∨ k = 2 then cls n == 1 || cls n == 2 || cls n == 3 || n == 39 else if k = 3 ∨ k = 5 then cls n == k else false
def runL (k : Int) (l : L) : L := l.takeWhile (fun c => goes k c.toNat)
def tokLen : L → Nat
  | [] => 0
  | c :: r => if cls c.toNat = 0 then 0 else (runL (cls c.toNat) r).length + 1
theorem runL_le (k : Int) (l : L) : (runL k l).length ≤ l.length := (List.takeWhile_sublist _).length_le
theorem tokLen_le (l : L) : tokLen l ≤ l.length := by
  cases l with
  | nil => simp [tokLen]
  | cons c r =>
    have := runL_le (cls c.toNat) r
    simp only [tokLen]
    split <;> simp <;> omega
theorem runL_take (k : Int) (l : L) : l.take (runL k l).length = runL k l := by
  induction l with
  | nil => rfl
  | cons c r ih =>
    unfold runL at *
    rw [List.takeWhile_cons]
    split
    · simp only [List.length_cons, List.take_succ_cons]; rw [ih]
    · rfl

/-! ### Kinds -/
def words : List L := [[100, 97, 116, 97], [105, 110, 102, 105, 120, 108], [105, 110, 102, 105, 120, 114], [105, 110, 102, 105, 120], [108, 101, 116], [105, 110], [99, 97, 115, 101], [111, 102], [105, 102], [116, 104, 101, 110], [101, 108, 115, 101]]
def isWord (t : L) : Bool := words.contains t
def kindS (b : Int) (t : L) : Int :=
  if b = 2 then 2 else if b = 3 then 4 else if b = 5 then (if t = [61] ∨ t = [124] ∨ t = [45, 62] then 5 else 3) else if b = 1 then (if t = [95] then 5 else if isWord t then 6 else 1) else 5

/-! ### Numbers -/
def leastL : L := [57, 50, 50, 51, 51, 55, 50, 48, 51, 54, 56, 53, 52, 55, 55, 53, 56, 48, 56]
def numv (t : L) : Nat := t.foldl (fun u c => u * 10 + (c.toNat - 48)) 0
/-- What the digits of a token come to: a number, or an error. -/
def valS (t : L) : Int × Int :=
  if t = leastL then (-9223372036854775808, 0)
  else if t.length > 19 ∨ (t.head? = some 48 ∧ t.length > 1) ∨ numv t > 9223372036854775807 then (0, 11) else ((numv t : Int), 0)

/-! ### Tokens -/
def tok (k : Int) (t : L) (n : Int) (p : Int × Int) : Tok := ⟨k, t, n, p.1, p.2, false⟩
def errOf (k : Int) (t : L) (n : Nat) : Int :=
  let e := if k = 4 then (valS t).2 else if t.length > 32 then 2 else 0
  if e = 0 ∧ n ≥ 2048 then 2 else e
def toks (p : Int × Int) (n : Nat) (l : L) : List Tok × Int × Int × Int :=
  match h : l.drop (blankN l) with
  | [] => ([], 0, 0, 0)
  | c :: r =>
    let p1 := adv p (l.take (blankN l))
    if hc : cls c.toNat = 0 then ([], 20, p1.1, p1.2)
    else
      let t := (c :: r).take (tokLen (c :: r))
      let k := kindS (cls c.toNat) t
      if errOf k t n = 0 then
        let q := toks (adv p1 t) (n + 1) ((c :: r).drop (tokLen (c :: r)))
        (if q.2.1 = 0 then tok k t (if k = 4 then (valS t).1 else 0) p1 :: q.1 else [], q.2)
      else ([], errOf k t n, p1.1, p1.2)
termination_by l.length
decreasing_by
  have hl := congrArg List.length h
  simp only [List.length_drop, List.length_cons, tokLen, hc, if_false] at hl ⊢
  omega

/-- What a source is taken apart to: its tokens, and what is wrong (0: nothing) and where. -/
def tokens (src : L) : List Tok × Int × Int × Int := if src.length > 8192 then ([], 2, 1, 1) else toks (1, 1) 0 src
/-- The token that a text is. -/
def one (s : L) : Option Tok := match tokens s with
  | ([t], 0, _) => if t.s = s then some t else none
  | _ => none
end Go.Proofs.YtoaohapbbnpbeaaGreat.Lx
namespace Go.Proofs.YtoaohapbbnpbeaaGreat.Vm
open Go

/-- A value: lists that never change stand as they are; what changes is an object. -/
inductive V where
  | u
  | int (k : IntKind) (n : Int)
  | bool (b : Bool)
  | str (s : List UInt8)
  | nilp
  | ptr (id ver off : Nat)
  | cptr (cs : List V)
  | sl (own : Bool) (sz : Nat) (xs : List (List V))
  | hsl (id ver off len sz : Nat)
  | fr (sz : Nat) (xs : List (List V))
  | nilh (sz : Nat)
  | map (id : Nat)
  | nilmap
  | fn (f : Nat) (caps : List V)
  | nilfn
  | agg (cs : List V)
  | tup (vs : List V)
  deriving Inhabited

def V.cells : V → List V
  | .agg cs => cs
  | v => [v]

/-- A copy that may not be appended to. -/
def strip0 : V → V
  | .sl _ sz xs => .sl false sz xs
  | .fr _ _ => .u
  | .agg _ => .u
  | .tup _ => .u
  | v => v
def stripA : V → V
  | .agg cs => .agg (cs.map strip0)
  | v => strip0 v
def strip : V → V
  | .agg cs => .agg (cs.map strip0)
  | .tup vs => .tup (vs.map stripA)
  | v => strip0 v

/-- What may stand in a list that never changes. -/
def plain0 : V → Bool
  | .int .. | .bool _ | .str _ | .nilp | .cptr _ | .sl .. | .nilmap | .nilfn => true
  | _ => false
/-- As it stands in a list that never changes. -/
def inl0 : V → V
  | .nilh sz => .sl false sz []
  | v => strip0 v
def plain1 : V → Bool
  | .nilh _ => true
  | v => plain0 v
def inl (cs : List V) : Option (List V) := if cs.all plain1 then some (cs.map inl0) else none

inductive Obj where
  | dead
  | hole (t : Nat)
  | cells (ver : Nat) (cs : List V)
  | map (es : List (V × V))
  | bld (t e : Nat) (fz : Bool) (bs : List UInt8)
  deriving Inhabited
abbrev Heap := List Obj

structure Gh where
  imm : Nat → Nat → Option Value
  loc : List (Nat × Nat × Nat)

def ImmAt (imm : Nat → Nat → Option Value) (a : Addr) (cs : List Value) : Prop :=
  (cs ≠ [] → a.spot = none) ∧ ∀ i v, cs[i]? = some v → imm a.block (a.off + i) = some v

inductive RepI (imm : Nat → Nat → Option Value) : List V → List Value → Prop
  | nil : RepI imm [] []
  | int {vs cs} (k : IntKind) (n : Int) (h : RepI imm vs cs) : RepI imm (.int k n :: vs) (.int k n :: cs)
  | bool {vs cs} (b : Bool) (h : RepI imm vs cs) : RepI imm (.bool b :: vs) (.bool b :: cs)
  | str {vs cs} (b : ByteArray) (h : RepI imm vs cs) : RepI imm (.str b.data.toList :: vs) (.string b :: cs)
  | nilp {vs cs} (h : RepI imm vs cs) : RepI imm (.nilp :: vs) (.pointer none :: cs)
  | nilmap {vs cs} (h : RepI imm vs cs) : RepI imm (.nilmap :: vs) (.map none :: cs)
  | nilfn {vs cs} (h : RepI imm vs cs) : RepI imm (.nilfn :: vs) (.nilFunc :: cs)
  | cptr {vs cs ws acs} (a : Addr) (ha : ImmAt imm a acs) (hr : RepI imm ws acs) (h : RepI imm vs cs) : RepI imm (.cptr ws :: vs) (.pointer (some a) :: cs)
  | slnil {vs cs} (sz : Nat) (h : RepI imm vs cs) : RepI imm (.sl false sz [] :: vs) (.slice none 0 0 :: cs)
  | sl {vs cs acs} (sz : Nat) (xs : List (List V)) (a : Addr) (cap : Nat) (hz : ∀ x ∈ xs, x.length = sz) (ha : ImmAt imm a acs) (hr : RepI imm xs.flatten acs)
      (hc : xs.length ≤ cap) (h : RepI imm vs cs) : RepI imm (.sl false sz xs :: vs) (.slice (some a) xs.length cap :: cs)

/-- The cells behind a slice's end are there, and nobody's. -/
def Tail (w : World) (G : Gh) (a : Addr) (len cap sz : Nat) : Prop :=
  (a.spot = none ∧ ∃ c e, w.heap[a.block]? = some (.cells c e (0, 0)) ∧ a.off + cap * sz ≤ c.size) ∧ ∀ o, a.off + len * sz ≤ o → G.imm a.block o = none

inductive RepL (w : World) (G : Gh) : List V → List Value → List Nat → Prop
  | nil : RepL w G [] [] []
  | u {vs cs bl} (c : Value) (h : RepL w G vs cs bl) : RepL w G (.u :: vs) (c :: cs) bl
  | imm {vs cs bl} (v : V) (c : Value) (hi : RepI G.imm [v] [c]) (h : RepL w G vs cs bl) : RepL w G (v :: vs) (c :: cs) bl
  | ptr {vs cs bl} (id ver off b ver' n bb : Nat) (hl : G.loc[id]? = some (b, ver', n)) (hv : ver ≤ ver') (hb : ver = ver' → bb = b)
      (h : RepL w G vs cs bl) : RepL w G (.ptr id ver off :: vs) (.pointer (some ⟨bb, off, none⟩) :: cs) bl
  | hsl {vs cs bl} (id ver off len sz b ver' n bb cap : Nat) (hl : G.loc[id]? = some (b, ver', n)) (hv : ver ≤ ver') (hc : len ≤ cap)
      (hb : ver = ver' → bb = b ∧ off + cap * sz ≤ n)
      (h : RepL w G vs cs bl) : RepL w G (.hsl id ver off len sz :: vs) (.slice (some ⟨bb, off, none⟩) len cap :: cs) bl
  | map {vs cs bl} (id b ver' n bb : Nat) (hl : G.loc[id]? = some (b, ver', n)) (hb : ver' = 0 → bb = b) (h : RepL w G vs cs bl) : RepL w G (.map id :: vs) (.map (some bb) :: cs) bl
  | fn {vs cs bl ws acs} (f : Nat) (hr : RepL w G ws acs []) (h : RepL w G vs cs bl) : RepL w G (.fn f ws :: vs) (.func (.func f) #[] acs.toArray :: cs) bl
  | full {vs cs bl acs} (sz : Nat) (xs : List (List V)) (a : Addr) (hz : ∀ x ∈ xs, x.length = sz) (ha : ImmAt G.imm a acs) (hr : RepI G.imm xs.flatten acs)
      (h : RepL w G vs cs bl) : RepL w G (.sl true sz xs :: vs) (.slice (some a) xs.length xs.length :: cs) bl
  | nilh {vs cs bl} (sz : Nat) (h : RepL w G vs cs bl) : RepL w G (.nilh sz :: vs) (.slice none 0 0 :: cs) bl
  | slnone {vs cs bl} (sz : Nat) (h : RepL w G vs cs bl) : RepL w G (.sl true sz [] :: vs) (.slice none 0 0 :: cs) bl
  | tail {vs cs bl acs} (sz : Nat) (xs : List (List V)) (a : Addr) (cap : Nat) (hz : ∀ x ∈ xs, x.length = sz) (ha : ImmAt G.imm a acs) (hr : RepI G.imm xs.flatten acs)
      (hc : xs.length ≤ cap) (ht : Tail w G a xs.length cap sz) (h : RepL w G vs cs bl) : RepL w G (.sl true sz xs :: vs) (.slice (some a) xs.length cap :: cs) (a.block :: bl)
  | fr {vs cs bl acs} (sz : Nat) (xs : List (List V)) (b cap : Nat) (c : Array Value) (e : TypeId) (hz : ∀ x ∈ xs, x.length = sz) (hw : w.heap[b]? = some (.cells c e (0, 0)))
      (hn : ∀ o, G.imm b o = Option.none) (hp : ∃ rest, c.toList = acs ++ rest) (hr : RepI G.imm xs.flatten acs) (hc : xs.length ≤ cap) (hs : cap * sz ≤ c.size)
      (h : RepL w G vs cs bl) : RepL w G (.fr sz xs :: vs) (.slice (some ⟨b, 0, Option.none⟩) xs.length cap :: cs) (b :: bl)
  | agg {vs cs ws acs b1 bl} (hr : RepL w G ws acs b1) (h : RepL w G vs cs bl) : RepL w G (.agg ws :: vs) (.agg acs.toArray :: cs) (b1 ++ bl)
  | tup {vs cs ws acs b1 bl} (hr : RepL w G ws acs b1) (h : RepL w G vs cs bl) : RepL w G (.tup ws :: vs) (.tuple acs.toArray :: cs) (b1 ++ bl)

inductive Place where
  | slot (i : Nat)
  | obj (i : Nat)
  | cell (i : Nat)
  | arg
  | res
  | frame
  deriving DecidableEq

def ObjOk (w : World) (G : Gh) (own : Nat → Option Place) (i : Nat) : Obj → Prop
  | .dead => True
  | .hole _ => ∃ b n, G.loc[i]? = some (b, 0, n)
  | .cells ver vs => ∃ b c e bl, G.loc[i]? = some (b, ver, c.size) ∧ own b = some (.obj i) ∧ w.heap[b]? = some (.cells c e (0, 0)) ∧ (∀ o, G.imm b o = none) ∧
      vs.length ≤ c.size ∧ RepL w G vs (c.toList.take vs.length) bl ∧ bl.Nodup ∧ ∀ b' ∈ bl, own b' = some (.cell i)
  | .map es => ∃ b ents clk, G.loc[i]? = some (b, 0, 0) ∧ own b = some (.obj i) ∧ w.heap[b]? = some (.map ents clk) ∧
      RepL w G (es.map (·.1)) (ents.toList.map (·.key)) [] ∧ RepL w G (es.map (·.2)) (ents.toList.map (·.val)) []
  | .bld t e fz bs => ∃ b p v, G.loc[i]? = some (b, 0, 2) ∧ own b = some (.obj i) ∧ w.heap[b]? = some (.cells #[p, v] t (0, 0)) ∧ (∀ o, G.imm b o = none) ∧ (p = .pointer none ∨ p = .pointer (some ⟨b, 0, none⟩)) ∧
      ((bs = [] ∧ v = .slice none 0 0) ∨ ∃ g cap cur fr, v = .slice (some ⟨g, 0, none⟩) bs.length cap ∧ own g = some (.cell i) ∧ w.heap[g]? = some (.cells cur e fr) ∧ (fz = false → fr = (0, 0)) ∧ (∀ o, G.imm g o = none) ∧
        bs.length ≤ cap ∧ cur.size = cap ∧ cur.toList.take bs.length = bs.map (fun x => .int .u8 x.toNat) ∧ bs ≠ [])

structure Ok (w : World) (G : Gh) (own : Nat → Option Place) (H : Heap) : Prop where
  imm : ∀ b o v, G.imm b o = some v → ∃ c e f, w.heap[b]? = some (.cells c e f) ∧ c[o]? = some v
  size : ∀ b p, own b = some p → b < w.heap.size
  len : H.length = G.loc.length
  obj : ∀ i ob, H[i]? = some ob → ObjOk w G own i ob

structure Ext (w : World) (G : Gh) (own : Nat → Option Place) (w' : World) (G' : Gh) (own' : Nat → Option Place) : Prop where
  size : w.heap.size ≤ w'.heap.size
  imm : ∀ b o v, G.imm b o = some v → G'.imm b o = some v
  loc : ∀ (i b v n : Nat), G.loc[i]? = some (b, v, n) → ∃ b' v' n' : Nat, G'.loc[i]? = some (b', v', n') ∧ v ≤ v' ∧ (v = v' → b' = b ∧ n' = n)
  fixed : ∀ b, own b = some .frame → w'.heap[b]? = w.heap[b]? ∧ (∀ o, G'.imm b o = G.imm b o) ∧ own' b = some .frame
  tape : w'.tape = w.tape
  os : w'.os = w.os
  out : w'.output = w.output

theorem Ext.refl (w : World) (G : Gh) (own : Nat → Option Place) : Ext w G own w G own :=
  ⟨Nat.le_refl _, fun _ _ _ h => h, fun _ b v n h => ⟨b, v, n, h, Nat.le_refl _, fun _ => ⟨rfl, rfl⟩⟩, fun _ h => ⟨rfl, fun _ => rfl, h⟩, rfl, rfl, rfl⟩

theorem Ext.trans {w1 w2 w3 : World} {G1 G2 G3 : Gh} {o1 o2 o3 : Nat → Option Place} (h : Ext w1 G1 o1 w2 G2 o2) (k : Ext w2 G2 o2 w3 G3 o3) : Ext w1 G1 o1 w3 G3 o3 := by
  refine ⟨Nat.le_trans h.size k.size, fun b o v e => k.imm b o v (h.imm b o v e), ?_, ?_, k.tape.trans h.tape, k.os.trans h.os, k.out.trans h.out⟩
  · intro i b v n e
    obtain ⟨b', v', n', e', le, q⟩ := h.loc i b v n e
    obtain ⟨b'', v'', n'', e'', le', q'⟩ := k.loc i b' v' n' e'
    refine ⟨b'', v'', n'', e'', Nat.le_trans le le', fun x => ?_⟩
    have h1 : v = v' := by omega
    have h2 : v' = v'' := by omega
    exact ⟨((q' h2).1).trans (q h1).1, ((q' h2).2).trans (q h1).2⟩
  · intro b e
    obtain ⟨a1, a2, a3⟩ := h.fixed b e
    obtain ⟨b1, b2, b3⟩ := k.fixed b a3
    exact ⟨b1.trans a1, fun o => (b2 o).trans (a2 o), b3⟩

theorem ImmAt.mono {imm imm' : Nat → Nat → Option Value} {a : Addr} {cs : List Value} (h : ImmAt imm a cs) (hm : ∀ b o v, imm b o = some v → imm' b o = some v) : ImmAt imm' a cs :=
  ⟨h.1, fun i v e => hm _ _ _ (h.2 i v e)⟩

theorem RepI.mono {imm imm' : Nat → Nat → Option Value} (hm : ∀ b o v, imm b o = some v → imm' b o = some v) {vs : List V} {cs : List Value} (h : RepI imm vs cs) : RepI imm' vs cs := by
  induction h with
  | nil => exact .nil
  | int k n _ ih => exact .int k n ih
  | bool b _ ih => exact .bool b ih
  | str b _ ih => exact .str b ih
  | nilp _ ih => exact .nilp ih
  | nilmap _ ih => exact .nilmap ih
  | nilfn _ ih => exact .nilfn ih
  | cptr a ha _ _ ih1 ih2 => exact .cptr a (ha.mono hm) ih1 ih2
  | slnil sz _ ih => exact .slnil sz ih
  | sl sz xs a cap hz ha _ hc _ ih1 ih2 => exact .sl sz xs a cap hz (ha.mono hm) ih1 hc ih2

/-- What a list of values stands for stays so, if what it owns stays. -/
theorem RepL.mono {w w' : World} {G G' : Gh} (hi : ∀ b o v, G.imm b o = some v → G'.imm b o = some v)
    (hl : ∀ (i b v n : Nat), G.loc[i]? = some (b, v, n) → ∃ b' v' n' : Nat, G'.loc[i]? = some (b', v', n') ∧ v ≤ v' ∧ (v = v' → b' = b ∧ n' = n))
    {vs : List V} {cs : List Value} {bl : List Nat} (h : RepL w G vs cs bl)
    (hb : ∀ b ∈ bl, w'.heap[b]? = w.heap[b]? ∧ ∀ o, G'.imm b o = G.imm b o) : RepL w' G' vs cs bl := by
  induction h with
  | nil => exact .nil
  | u c _ ih => exact .u c (ih hb)
  | imm v c h1 _ ih => exact .imm v c (h1.mono hi) (ih hb)
  | ptr id ver off b ver' n bb h1 h2 h3 _ ih =>
    obtain ⟨b', v', n', e, le, q⟩ := hl _ _ _ _ h1
    refine .ptr id ver off b' v' n' bb e (Nat.le_trans h2 le) (fun x => ?_) (ih hb)
    have : ver' = v' := by omega
    rw [(q this).1]; exact h3 (by omega)
  | hsl id ver off len sz b ver' n bb cap h1 h2 h3 h4 _ ih =>
    obtain ⟨b', v', n', e, le, q⟩ := hl _ _ _ _ h1
    refine .hsl id ver off len sz b' v' n' bb cap e (Nat.le_trans h2 le) h3 (fun x => ?_) (ih hb)
    have : ver' = v' := by omega
    rw [(q this).1, (q this).2]; exact h4 (by omega)
  | map id b ver' n bb h1 h2 _ ih =>
    obtain ⟨b', v', n', e, le, q⟩ := hl _ _ _ _ h1
    refine .map id b' v' n' bb e (fun x => ?_) (ih hb)
    have : ver' = v' := by omega
    rw [(q this).1]; exact h2 (by omega)
  | fn f _ _ ih1 ih2 => exact .fn f (ih1 (fun _ h => by cases h)) (ih2 hb)
  | full sz xs a hz ha hr _ ih => exact .full sz xs a hz (ha.mono hi) (hr.mono hi) (ih hb)
  | slnone sz _ ih => exact .slnone sz (ih hb)
  | nilh sz _ ih => exact .nilh sz (ih hb)
  | tail sz xs a cap hz ha hr hc ht _ ih =>
    obtain ⟨e1, e2⟩ := hb a.block (List.mem_cons_self ..)
    refine .tail sz xs a cap hz (ha.mono hi) (hr.mono hi) hc ⟨?_, fun o ho => by rw [e2 o]; exact ht.2 o ho⟩ (ih fun b hb' => hb b (List.mem_cons_of_mem _ hb'))
    rw [e1]; exact ht.1
  | fr sz xs b cap c e hz hw hn hp hr hc hs _ ih =>
    obtain ⟨e1, e2⟩ := hb b (List.mem_cons_self ..)
    exact .fr sz xs b cap c e hz (e1.trans hw) (fun o => by rw [e2 o]; exact hn o) hp (hr.mono hi) hc hs (ih fun b hb' => hb b (List.mem_cons_of_mem _ hb'))
  | agg _ _ ih1 ih2 => exact .agg (ih1 fun b hb' => hb b (List.mem_append_left _ hb')) (ih2 fun b hb' => hb b (List.mem_append_right _ hb'))
  | tup _ _ ih1 ih2 => exact .tup (ih1 fun b hb' => hb b (List.mem_append_left _ hb')) (ih2 fun b hb' => hb b (List.mem_append_right _ hb'))

end Go.Proofs.YtoaohapbbnpbeaaGreat.Vm
namespace Go.Proofs.YtoaohapbbnpbeaaGreat.Vm
open Go

inductive K3 where
  | i | s | b
  deriving DecidableEq, Inhabited

/-- How a call stands to memory: it may write; it reads alone; it needs none; it only adds to it; it stays below the object that a slot points to; it keeps what stands from that object on. -/
inductive CM where
  | wr | rd | al | gr
  | fr (s : Nat)
  | kp (s : Nat)
  deriving DecidableEq, Inhabited

inductive Act where
  | mv
  | pick
  | thaw
  | bin (op : BinOp)
  | eqc (ne agg : Bool) (ks : List K3)
  | isNil (ne : Bool)
  | not
  | neg
  | conv (k : IntKind)
  | toStr
  | same
  | alloc (zs : List V)
  | box
  | boxB (t e : Nat)
  | build (zs : List V) (places : List (Nat × Nat))
  | buildSl (sz : Nat)
  | buildFr (sz : Nat)
  | load (n : Nat) (agg : Bool)
  | loadT (n : Nat) (agg : Bool)
  | store (n : Nat)
  | nilCheck
  | fieldAddr (off : Nat)
  | field (off n : Nat) (agg : Bool)
  | indexAddr (sz : Nat)
  | indexStr
  | slice (lo hi : Bool) (sz : Nat)
  | sliceStr (lo hi : Bool)
  | makeSl (sz bytes : Nat) (zs : List V)
  | makeH (sz bytes : Nat) (zs : List V)
  | append (sz bytes : Nat)
  | appendS (bytes : Nat)
  | appendR (sz bytes : Nat)
  | appendH (sz bytes : Nat)
  | len
  | lenStr
  | mapLen
  | min
  | max
  | extract (i : Nat)
  | mkfn (f : Nat)
  | makeMap
  | lookup (ka : Bool) (ks : List K3) (ok : Bool) (zs : List V) (agg : Bool)
  | mapUpdate (ka : Bool) (ks : List K3)
  | delete (ka : Bool) (ks : List K3)
  | call (m : CM)
  | loadL (s n : Nat) (agg : Bool)
  | loadTL (s n : Nat) (agg : Bool)
  | allocL (s : Nat) (zs : List V)
  | loadC (n : Nat) (agg : Bool)
  | storeP (n : Nat)
  | allocR (t : Nat) (zs : List V)
  | appendA (sz bytes : Nat)
  | reserve (ts : List Nat)
  | apart
  deriving Inhabited
/-- The slot that bounds what an act of a function's own objects looks at. -/
def Act.base : Act → Option Nat
  | .loadL s _ _ => some s
  | .loadTL s _ _ => some s
  | .allocL s _ => some s
  | .call (.fr s) => some s
  | .call (.kp s) => some s
  | _ => none

def scal0 : V → Bool
  | .u | .agg _ | .tup _ => false
  | _ => true
def solid : V → Bool
  | .agg _ => true
  | v => scal0 v

def thawL : List V → Heap → List V × Heap
  | [], H => ([], H)
  | .fr sz xs :: vs, H => (.hsl H.length 0 0 xs.length sz :: (thawL vs (H ++ [.cells 0 xs.flatten])).1, (thawL vs (H ++ [.cells 0 xs.flatten])).2)
  | v :: vs, H => (v :: (thawL vs H).1, (thawL vs H).2)

def getCells (H : Heap) (id ver : Nat) : Option (List V) :=
  match H[id]? with
  | some (.cells v cs) => if v = ver then some cs else none
  | _ => none

def mk : Bool → List V → Option V
  | true, l => some (.agg l)
  | false, [v] => some v
  | false, _ => none

def cut (cs : List V) (off n : Nat) : Option (List V) := if off + n ≤ cs.length then some ((cs.drop off).take n) else none
def put (cs : List V) (off : Nat) (vs : List V) : List V := cs.take off ++ vs ++ cs.drop (off + vs.length)

def chunks (sz : Nat) : Nat → List V → List (List V)
  | 0, _ => []
  | n + 1, cs => cs.take sz :: chunks sz n (cs.drop sz)

def binInt (op : BinOp) (k : IntKind) (a b : Int) : Option V :=
  match op with
  | .add => some (.int k (k.wrap (a + b)))
  | .sub => some (.int k (k.wrap (a - b)))
  | .mul => some (.int k (k.wrap (a * b)))
  | .quo => if b = 0 then none else some (.int k (k.wrap (a.tdiv b)))
  | .rem => if b = 0 then none else some (.int k (a.tmod b))
  | .eql => some (.bool (a == b))
  | .neq => some (.bool (a != b))
  | .lss => some (.bool (a < b))
  | .leq => some (.bool (a ≤ b))
  | .gtr => some (.bool (a > b))
  | .geq => some (.bool (a ≥ b))
  | _ => none

def binStr (op : BinOp) (a b : List UInt8) : Option V :=
  match op with
  | .add => if a.length + b.length ≤ 9223372036854775807 then some (.str (a ++ b)) else none
  | .eql => some (.bool (a == b))
  | .neq => some (.bool (!(a == b)))
  | .lss => some (.bool (Op.bytesLess a b))
  | .leq => some (.bool (Op.bytesLess a b || a == b))
  | .gtr => some (.bool !(Op.bytesLess a b || a == b))
  | .geq => some (.bool !(Op.bytesLess a b))
  | _ => none

def eqScal : K3 → V → V → Option Bool
  | .i, .int j a, .int k b => if j = k then some (a == b) else none
  | .s, .str a, .str b => some (a == b)
  | .b, .bool a, .bool b => some (a == b)
  | _, _, _ => none
def eqCells : List K3 → List V → List V → Option Bool
  | [], [], [] => some true
  | k :: ks, x :: xs, y :: ys => (eqScal k x y).bind fun b => (eqCells ks xs ys).map fun c => b && c
  | _, _, _ => none
def eqV (ks : List K3) : Bool → V → V → Option Bool
  | true, .agg xs, .agg ys => eqCells ks xs ys
  | false, x, y => eqCells ks [x] [y]
  | _, _, _ => none

def nilOf : V → V → Option Bool
  | .nilp, .nilp | .nilmap, .nilmap | .nilfn, .nilfn | .nilh _, .nilh _ => some true
  | .ptr .., .nilp | .cptr _, .nilp | .map _, .nilmap | .fn .., .nilfn | .hsl .., .nilh _ => some false
  | .sl _ _ (_ :: _), .nilh _ => some false
  | _, _ => none

def fillV (zs : List V) : List (Nat × Nat) → List V → Option (List V)
  | [], [] => some zs
  | (off, n) :: ps, v :: vs => if solid v ∧ v.cells.length = n ∧ off + n ≤ zs.length then fillV (put zs off v.cells) ps vs else none
  | _, _ => none

def elems (sz : Nat) : List V → Option (List (List V))
  | [] => some []
  | v :: vs => if solid v ∧ v.cells.length = sz then (inl v.cells).bind fun c => (elems sz vs).map (c :: ·) else none

def findV (ka : Bool) (ks : List K3) (k : V) : List (V × V) → Nat → Option (Option Nat)
  | [], _ => (eqV ks ka k k).map fun _ => none
  | e :: es, i => (eqV ks ka k e.1).bind fun b => if b then some (some i) else findV ka ks k es (i + 1)

def byteOf : V → Option UInt8
  | .int .u8 n => some (UInt8.ofNat n.toNat)
  | _ => none

abbrev R := Option (V × Heap)
def sMv : List V → Heap → R
  | [v], H => some (v, H)
  | _, _ => none
def sPick : List V → Heap → R
  | [.bool c, a, b], H => some (if c then a else b, H)
  | _, _ => none
def sThaw : List V → Heap → R
  | [.fr sz xs], H => some (.hsl H.length 0 0 xs.length sz, H ++ [.cells 0 xs.flatten])
  | [v], H => some (v, H)
  | _, _ => none
def sBin (op : BinOp) : List V → Heap → R
  | [.int j a, .int k b], H => if j = k then (binInt op j a b).map (·, H) else none
  | [.str a, .str b], H => (binStr op a b).map (·, H)
  | _, _ => none
def sEqc (ne agg : Bool) (ks : List K3) : List V → Heap → R
  | [x, y], H => (eqV ks agg x y).map fun b => (.bool (b != ne), H)
  | _, _ => none
def sIsNil (ne : Bool) : List V → Heap → R
  | [x, y], H => (nilOf x y).map fun b => (.bool (b != ne), H)
  | _, _ => none
def sNot : List V → Heap → R
  | [.bool b], H => some (.bool !b, H)
  | _, _ => none
def sNeg : List V → Heap → R
  | [.int k n], H => some (.int k (k.wrap (0 - n)), H)
  | _, _ => none
def sConv (k : IntKind) : List V → Heap → R
  | [.int _ n], H => some (.int k (k.wrap n), H)
  | _, _ => none
def sSame : List V → Heap → R
  | [.str s], H => some (.str s, H)
  | _, _ => none
def sToStr : List V → Heap → R
  | [.hsl id ver off ln 1], H => (getCells H id ver).bind fun cs => (cut cs off (ln * 1)).bind fun l => (l.mapM byteOf).map fun s => (.str s, H)
  | _, _ => none
def sAlloc (zs : List V) : List V → Heap → R
  | [], H => some (.ptr H.length 0 0, H ++ [.cells 0 zs])
  | _, _ => none
def sBox : List V → Heap → R
  | [v], H => if solid v then some (.ptr (thawL v.cells H).2.length 0 0, (thawL v.cells H).2 ++ [.cells 0 (thawL v.cells H).1]) else none
  | _, _ => none
def sBoxB (t e : Nat) : List V → Heap → R
  | [.agg [.nilp, .nilh 1]], H => some (.ptr H.length 0 0, H ++ [.bld t e false []])
  | _, _ => none
def sBuild (zs : List V) (ps : List (Nat × Nat)) (vs : List V) (H : Heap) : R := (fillV zs ps vs).map fun cs => (.agg cs, H)
def sBuildSl (sz : Nat) (vs : List V) (H : Heap) : R := (elems sz vs).map fun xs => (.sl true sz xs, H)
def sBuildFr (sz : Nat) (vs : List V) (H : Heap) : R := (elems sz vs).bind fun xs => if 0 < xs.length then some (.fr sz xs, H) else none
def sLoad (n : Nat) (agg : Bool) : List V → Heap → R
  | [.ptr id ver off], H => (getCells H id ver).bind fun cs => (cut cs off n).bind fun l => (mk agg (l.map strip0)).map (·, H)
  | [.cptr cs], H => (cut cs 0 n).bind fun l => (mk agg l).map (·, H)
  | _, _ => none
def sLoadT (n : Nat) (agg : Bool) : List V → Heap → R
  | [.ptr id ver off], H => (getCells H id ver).bind fun cs => (cut cs off n).bind fun l => (mk agg l).map fun v => (v, H.set id (.cells ver (put cs off (l.map strip0))))
  | _, _ => none
def sStore (n : Nat) : List V → Heap → R
  | [.ptr id ver off, v], H => (getCells H id ver).bind fun cs => if solid v ∧ v.cells.all scal0 ∧ v.cells.length = n ∧ off + n ≤ cs.length then
      some (.tup [], (thawL v.cells H).2.set id (.cells ver (put cs off (thawL v.cells H).1))) else none
  | _, _ => none
def sLoadC (n : Nat) (agg : Bool) : List V → Heap → R
  | [.cptr cs], H => (cut cs 0 n).bind fun l => (mk agg l).map (·, H)
  | _, _ => none
def notFr : V → Bool
  | .fr .. => false
  | _ => true
/-- A store that lays no new list down. -/
def sStoreP (n : Nat) : List V → Heap → R
  | [.ptr id ver off, v], H => (getCells H id ver).bind fun cs => if solid v ∧ v.cells.all scal0 ∧ v.cells.all notFr ∧ v.cells.length = n ∧ off + n ≤ cs.length then
      some (.tup [], H.set id (.cells ver (put cs off v.cells))) else none
  | _, _ => none
def isHole (t : Nat) : Obj → Bool
  | .hole s => Nat.beq s t
  | _ => false
/-- The last place that is held for a slot. -/
def holeAt (t : Nat) : Heap → Nat → Option Nat
  | [], _ => none
  | o :: l, i => match holeAt t l (i + 1) with
    | some k => some k
    | none => cond (isHole t o) (some i) none
def sAllocR (t : Nat) (zs : List V) : List V → Heap → R
  | [], H => (holeAt t H 0).map fun i => (.ptr i 1 0, H.set i (.cells 1 zs))
  | _, _ => none
def sReserve (ts : List Nat) : List V → Heap → R
  | [], H => some (.tup [], H ++ ts.map .hole)
  | _, _ => none
def idOf : V → Option Nat
  | .ptr i _ _ => some i
  | .hsl i _ _ _ _ => some i
  | _ => none
/-- No one object's. -/
def farV (x y : V) : Bool := match idOf x, idOf y with
  | some i, some k => !(Nat.beq i k)
  | _, _ => true
def sApart : List V → Heap → R
  | [x, y], H => if farV x y then some (.tup [], H) else none
  | _, _ => none
def sNilCheck : List V → Heap → R
  | [.ptr id ver off], H => some (.ptr id ver off, H)
  | [.cptr cs], H => some (.cptr cs, H)
  | [.fn f cs], H => some (.fn f cs, H)
  | _, _ => none
def sFieldAddr (off : Nat) : List V → Heap → R
  | [.ptr id ver o], H => some (.ptr id ver (o + off), H)
  | [.cptr cs], H => some (.cptr (cs.drop off), H)
  | _, _ => none
def sField (off n : Nat) (agg : Bool) : List V → Heap → R
  | [.agg cs], H => (cut cs off n).bind fun l => (mk agg l).map (·, H)
  | _, _ => none
def sIndexAddr (sz : Nat) : List V → Heap → R
  | [.sl _ z xs, .int _ i], H => if z = sz ∧ 0 ≤ i then (xs[i.toNat]?).map fun x => (.cptr x, H) else none
  | [.hsl id ver off ln z, .int _ i], H => if z = sz ∧ 0 ≤ i ∧ i < ln then some (.ptr id ver (off + i.toNat * sz), H) else none
  | _, _ => none
def sIndexStr : List V → Heap → R
  | [.str s, .int _ i], H => if 0 ≤ i then (s[i.toNat]?).map fun b => (.int .u8 b.toNat, H) else none
  | _, _ => none
def bounds (lo hi : Bool) (n : Nat) : List V → Option (Nat × Nat)
  | [] => if !lo && !hi then some (0, n) else none
  | [.int _ x] => if lo && !hi then (if 0 ≤ x ∧ x ≤ n then some (x.toNat, n) else none) else if !lo && hi then (if 0 ≤ x ∧ x ≤ n then some (0, x.toNat) else none) else none
  | [.int _ l, .int _ h] => if lo && hi && decide (0 ≤ l ∧ l ≤ h ∧ h ≤ n) then some (l.toNat, h.toNat) else none
  | _ => none
def sSlice (lo hi : Bool) (sz : Nat) : List V → Heap → R
  | .sl _ z xs :: bs, H => if z = sz then (bounds lo hi xs.length bs).map fun p => (.sl false z ((xs.take p.2).drop p.1), H) else none
  | .nilh z :: bs, H => (bounds lo hi 0 bs).map fun _ => (.nilh z, H)
  | .hsl id ver off ln z :: bs, H => if z = sz then (bounds lo hi ln bs).map fun p => (if p.1 = ln ∧ 0 < ln then .sl false z [] else .hsl id ver (off + p.1 * z) (p.2 - p.1) z, H) else none
  | _, _ => none
def sSliceStr (lo hi : Bool) : List V → Heap → R
  | .str s :: bs, H => (bounds lo hi s.length bs).map fun p => (.str ((s.take p.2).drop p.1), H)
  | _, _ => none
def sMakeSl (sz bytes : Nat) (zs : List V) : List V → Heap → R
  | [.int _ n, .int _ c], H => if n = c ∧ 0 ≤ n ∧ bytes * n ≤ 281474976710656 ∧ n ≤ 9223372036854775807 then some (.fr sz (List.replicate n.toNat zs), H) else none
  | _, _ => none
def sMakeH (sz bytes : Nat) (zs : List V) : List V → Heap → R
  | [.int _ n, .int _ c], H => if n = c ∧ 0 ≤ n ∧ bytes * n ≤ 281474976710656 ∧ n ≤ 9223372036854775807 then some (.hsl H.length 0 0 n.toNat sz, H ++ [.cells 0 (List.replicate n.toNat zs).flatten]) else none
  | _, _ => none
def fits (n bytes : Nat) : Prop := n * bytes ≤ 140737488355328 ∧ n ≤ 9223372036854775807
instance (n bytes : Nat) : Decidable (fits n bytes) := inferInstanceAs (Decidable (_ ∧ _))
def sAppend (sz bytes : Nat) : List V → Heap → R
  | [.sl true z xs, .sl _ z' ys], H => if z = sz ∧ z' = sz ∧ fits (xs.length + ys.length) bytes then some (.sl true z (xs ++ ys), H) else none
  | _, _ => none
def sAppendS (bytes : Nat) : List V → Heap → R
  | [.sl true z xs, .str s], H => if z = 1 ∧ fits (xs.length + s.length) bytes then some (.sl true 1 (xs ++ s.map fun b => [.int .u8 b.toNat]), H) else none
  | _, _ => none
def sAppendR (sz bytes : Nat) : List V → Heap → R
  | [.sl true z xs, .hsl id ver off ln z'], H => if z = sz ∧ z' = sz ∧ fits (xs.length + ln) bytes then
      (getCells H id ver).bind fun cs => (cut cs off (ln * sz)).bind fun l => (inl l).map fun l => (.sl true sz (xs ++ chunks sz ln l), H) else none
  | _, _ => none
def sAppendH (sz bytes : Nat) : List V → Heap → R
  | [.nilh z, .sl _ z' ys], H => if z = sz ∧ z' = sz ∧ 0 < ys.length ∧ fits ys.length bytes then some (.fr sz ys, H) else none
  | [.hsl id ver off ln z, .sl _ z' ys], H => if z = sz ∧ z' = sz ∧ off = 0 ∧ fits (ln + ys.length) bytes then
      (getCells H id ver).bind fun cs => (cut cs 0 (ln * sz)).bind fun l =>
        some (.hsl id (ver + 1) 0 (ln + ys.length) sz, H.set id (.cells (ver + 1) (l ++ ys.flatten))) else none
  | _, _ => none
/-- An append that lays a new list down at once. -/
def sAppendA (sz bytes : Nat) : List V → Heap → R
  | [.nilh z, .sl o z' ys], H => (sAppendH sz bytes [.nilh z, .sl o z' ys] H).map fun _ => (.hsl H.length 0 0 ys.length sz, H ++ [.cells 0 ys.flatten])
  | vs, H => sAppendH sz bytes vs H
def sLenStr : List V → Heap → R
  | [.str s], H => some (.int .i64 s.length, H)
  | _, _ => none
def sLen : List V → Heap → R
  | [.sl _ _ xs], H => some (.int .i64 xs.length, H)
  | [.nilh _], H => some (.int .i64 0, H)
  | [.hsl _ _ _ ln _], H => some (.int .i64 ln, H)
  | _, _ => none
def mapOf (H : Heap) : V → Option (List (V × V))
  | .nilmap => some []
  | .map id => match H[id]? with
    | some (.map es) => some es
    | _ => none
  | _ => none
def sMapLen : List V → Heap → R
  | [m], H => (mapOf H m).map fun es => (.int .i64 es.length, H)
  | _, _ => none
def sMin : List V → Heap → R
  | [.int j a, .int k b], H => if j = k then some (.int j (if b < a then b else a), H) else none
  | _, _ => none
def sMax : List V → Heap → R
  | [.int j a, .int k b], H => if j = k then some (.int j (if b > a then b else a), H) else none
  | _, _ => none
def sExtract (i : Nat) : List V → Heap → R
  | [.tup vs], H => (vs[i]?).map (·, H)
  | _, _ => none
def sMkfn (f : Nat) (vs : List V) (H : Heap) : R := some (.fn f vs, H)
def sMakeMap : List V → Heap → R
  | [], H => some (.map H.length, H ++ [.map []])
  | _, _ => none
def sLookup (ka : Bool) (ks : List K3) (ok : Bool) (zs : List V) (agg : Bool) : List V → Heap → R
  | [m, k], H => (mapOf H m).bind fun es => (findV ka ks k es 0).bind fun r => match r with
      | some i => (es[i]?).map fun e => (if ok then .tup [e.2, .bool true] else e.2, H)
      | none => (mk agg zs).map fun z => (if ok then .tup [z, .bool false] else z, H)
  | _, _ => none
def sMapUpdate (ka : Bool) (ks : List K3) : List V → Heap → R
  | [.map id, k, v], H => (mapOf H (.map id)).bind fun es => (findV ka ks k es 0).map fun r => match r with
      | some i => (.tup [], H.set id (.map (es.modify i fun _ => (k, v))))
      | none => (.tup [], H.set id (.map (es ++ [(k, v)])))
  | _, _ => none
def sDelete (ka : Bool) (ks : List K3) : List V → Heap → R
  | [.map id, k], H => (mapOf H (.map id)).bind fun es => (findV ka ks k es 0).map fun r => match r with
      | some i => (.tup [], H.set id (.map (es.eraseIdx i)))
      | none => (.tup [], H)
  | _, _ => none

def Act.sem : Act → List V → Heap → R
  | .mv => sMv
  | .pick => sPick
  | .thaw => sThaw
  | .bin op => sBin op
  | .eqc ne agg ks => sEqc ne agg ks
  | .isNil ne => sIsNil ne
  | .not => sNot
  | .neg => sNeg
  | .conv k => sConv k
  | .same => sSame
  | .toStr => sToStr
  | .alloc zs => sAlloc zs
  | .box => sBox
  | .boxB t e => sBoxB t e
  | .build zs ps => sBuild zs ps
  | .buildSl sz => sBuildSl sz
  | .buildFr sz => sBuildFr sz
  | .load n agg => sLoad n agg
  | .loadT n agg => sLoadT n agg
  | .store n => sStore n
  | .nilCheck => sNilCheck
  | .fieldAddr off => sFieldAddr off
  | .field off n agg => sField off n agg
  | .indexAddr sz => sIndexAddr sz
  | .indexStr => sIndexStr
  | .slice lo hi sz => sSlice lo hi sz
  | .sliceStr lo hi => sSliceStr lo hi
  | .makeSl sz bytes zs => sMakeSl sz bytes zs
  | .makeH sz bytes zs => sMakeH sz bytes zs
  | .append sz bytes => sAppend sz bytes
  | .appendS bytes => sAppendS bytes
  | .appendR sz bytes => sAppendR sz bytes
  | .appendH sz bytes => sAppendH sz bytes
  | .len => sLen
  | .lenStr => sLenStr
  | .mapLen => sMapLen
  | .min => sMin
  | .max => sMax
  | .extract i => sExtract i
  | .mkfn f => sMkfn f
  | .makeMap => sMakeMap
  | .lookup ka ks ok zs agg => sLookup ka ks ok zs agg
  | .mapUpdate ka ks => sMapUpdate ka ks
  | .delete ka ks => sDelete ka ks
  | .call _ => fun _ _ => none
  | .loadL _ n agg => sLoad n agg
  | .loadTL _ n agg => sLoadT n agg
  | .allocL _ zs => sAlloc zs
  | .loadC n agg => sLoadC n agg
  | .storeP n => sStoreP n
  | .allocR t zs => sAllocR t zs
  | .appendA sz bytes => sAppendA sz bytes
  | .reserve ts => sReserve ts
  | .apart => sApart
/-- The same act of any object. -/
def Act.plain : Act → Act
  | .loadL _ n agg => .load n agg
  | .loadTL _ n agg => .loadT n agg
  | .allocL _ zs => .alloc zs
  | a => a
/-- An own object: it lies behind the one that bounds. -/
def farOk : V → List V → Bool
  | .ptr k _ _, .ptr id _ _ :: _ => decide (k ≤ id)
  | .ptr .., [] => true
  | _, _ => false

/-- Acts that are handed nothing over. -/
def Act.bare : Act → Bool
  | .mkfn _ | .mapUpdate .. => true
  | _ => false
inductive Opnd where
  | t (i : Nat)
  | c (v : V)
  deriving Inhabited

structure VOp where
  dst : Option Nat
  act : Act
  args : List Opnd
  take : List Nat := []
  guard : Option (Nat × Bool) := none
  deriving Inhabited

abbrev Env := Nat → V
def upd (σ : Env) (i : Nat) (v : V) : Env := fun j => if j = i then v else σ j
def updO (σ : Env) : Option Nat → V → Env
  | some i, v => upd σ i v
  | none, _ => σ
def evalA (σ : Env) (take : List Nat) : Opnd → V
  | .t i => if i ∈ take then σ i else strip (σ i)
  | .c v => v
def stripE (take : List Nat) (σ : Env) : Env := fun j => if j ∈ take then strip (σ j) else σ j

def VOp.wanted (o : VOp) (σ : Env) : Option Bool :=
  match o.guard with
  | none => some true
  | some (g, b) => match σ g with
    | .bool c => some (c == b)
    | .tup _ => some false
    | _ => none

/-- An operation that calls nothing. -/
def VOp.step (o : VOp) (σ : Env) (H : Heap) : Option (Env × Heap) :=
  (o.wanted σ).bind fun y => if y then
    (o.act.sem (o.args.map (evalA σ o.take)) H).map fun r => (updO (stripE o.take σ) o.dst r.1, r.2)
  else some (updO σ o.dst (.tup []), H)

end Go.Proofs.YtoaohapbbnpbeaaGreat.Vm
namespace Go.Proofs.YtoaohapbbnpbeaaGreat.Vm
open Go

theorem RepI.length {imm : Nat → Nat → Option Value} {vs : List V} {cs : List Value} (h : RepI imm vs cs) : vs.length = cs.length := by
  induction h <;> simp_all

theorem RepL.length {w : World} {G : Gh} {vs : List V} {cs : List Value} {bl : List Nat} (h : RepL w G vs cs bl) : vs.length = cs.length := by
  induction h <;> simp_all

theorem RepI.one {imm : Nat → Nat → Option Value} {vs : List V} {cs : List Value} (h : RepI imm vs cs) : ∀ c ∈ cs, c.oneCell' = true := by
  induction h <;> intro c hc <;> (first | (cases hc; done) | skip) <;> (rcases List.mem_cons.1 hc with rfl | hc) <;> (first | rfl | (rename_i ih; exact ih _ hc) | (rename_i ih _; exact ih _ hc) | (rename_i ih1 ih2; exact ih2 _ hc) | skip)

theorem RepI.cons_inv {imm : Nat → Nat → Option Value} {v : V} {vs : List V} {cs : List Value} (h : RepI imm (v :: vs) cs) :
    ∃ c cs', cs = c :: cs' ∧ RepI imm [v] [c] ∧ RepI imm vs cs' := by
  cases h with
  | int k n h => exact ⟨_, _, rfl, .int k n .nil, h⟩
  | bool b h => exact ⟨_, _, rfl, .bool b .nil, h⟩
  | str b h => exact ⟨_, _, rfl, .str b .nil, h⟩
  | nilp h => exact ⟨_, _, rfl, .nilp .nil, h⟩
  | nilmap h => exact ⟨_, _, rfl, .nilmap .nil, h⟩
  | nilfn h => exact ⟨_, _, rfl, .nilfn .nil, h⟩
  | cptr a ha hr h => exact ⟨_, _, rfl, .cptr a ha hr .nil, h⟩
  | slnil sz h => exact ⟨_, _, rfl, .slnil sz .nil, h⟩
  | sl sz xs a cap hz ha hr hc h => exact ⟨_, _, rfl, .sl sz xs a cap hz ha hr hc .nil, h⟩

theorem RepI.cons {imm : Nat → Nat → Option Value} {v : V} {c : Value} {vs : List V} {cs : List Value} (h1 : RepI imm [v] [c]) (h : RepI imm vs cs) : RepI imm (v :: vs) (c :: cs) := by
  cases h1 with
  | int k n _ => exact .int k n h
  | bool b _ => exact .bool b h
  | str b _ => exact .str b h
  | nilp _ => exact .nilp h
  | nilmap _ => exact .nilmap h
  | nilfn _ => exact .nilfn h
  | cptr a ha hr _ => exact .cptr a ha hr h
  | slnil sz _ => exact .slnil sz h
  | sl sz xs a cap hz ha hr hc _ => exact .sl sz xs a cap hz ha hr hc h

theorem RepI.nil_inv {imm : Nat → Nat → Option Value} {cs : List Value} (h : RepI imm [] cs) : cs = [] := by cases h; rfl

theorem RepI.append {imm : Nat → Nat → Option Value} {v1 v2 : List V} {c2 : List Value} (h2 : RepI imm v2 c2) : ∀ {c1 : List Value}, RepI imm v1 c1 → RepI imm (v1 ++ v2) (c1 ++ c2) := by
  induction v1 with
  | nil => intro c1 h; rw [h.nil_inv]; exact h2
  | cons v vs ih =>
    intro c1 h
    obtain ⟨c, cs, rfl, h1, h⟩ := h.cons_inv
    exact .cons h1 (ih h)

theorem RepI.split {imm : Nat → Nat → Option Value} {v2 : List V} (v1 : List V) : ∀ {cs : List Value}, RepI imm (v1 ++ v2) cs → RepI imm v1 (cs.take v1.length) ∧ RepI imm v2 (cs.drop v1.length) := by
  induction v1 with
  | nil => intro cs h; exact ⟨.nil, h⟩
  | cons v vs ih =>
    intro cs h
    obtain ⟨c, cs, rfl, h1, h⟩ := RepI.cons_inv h
    obtain ⟨a, b⟩ := ih h
    exact ⟨.cons h1 a, b⟩

theorem RepI.take {imm : Nat → Nat → Option Value} {vs : List V} {cs : List Value} (h : RepI imm vs cs) (n : Nat) : RepI imm (vs.take n) (cs.take n) := by
  have e := h
  rw [← List.take_append_drop n vs] at e
  have := (RepI.split _ e).1
  rw [List.length_take, h.length] at this
  by_cases hn : n ≤ cs.length
  · rwa [Nat.min_eq_left hn] at this
  · rw [Nat.min_eq_right (by omega)] at this
    rwa [List.take_of_length_le (by omega : cs.length ≤ n), ← List.take_of_length_le (Nat.le_refl cs.length)]

theorem RepI.drop {imm : Nat → Nat → Option Value} {vs : List V} {cs : List Value} (h : RepI imm vs cs) (n : Nat) : RepI imm (vs.drop n) (cs.drop n) := by
  have e := h
  rw [← List.take_append_drop n vs] at e
  have := (RepI.split _ e).2
  rw [List.length_take, h.length] at this
  by_cases hn : n ≤ cs.length
  · rwa [Nat.min_eq_left hn] at this
  · rw [Nat.min_eq_right (by omega)] at this
    rw [List.drop_of_length_le (by omega : cs.length ≤ n)]
    rwa [List.drop_of_length_le (Nat.le_refl _)] at this

theorem RepL.cons_inv {w : World} {G : Gh} {v : V} {vs : List V} {cs : List Value} {bl : List Nat} (h : RepL w G (v :: vs) cs bl) :
    ∃ c cs' b1 b2, cs = c :: cs' ∧ bl = b1 ++ b2 ∧ RepL w G [v] [c] b1 ∧ RepL w G vs cs' b2 := by
  cases h with
  | u c h => exact ⟨_, _, [], _, rfl, rfl, .u c .nil, h⟩
  | imm _ c h1 h => exact ⟨_, _, [], _, rfl, rfl, .imm _ c h1 .nil, h⟩
  | ptr id ver off b ver' n bb h1 h2 h3 h => exact ⟨_, _, [], _, rfl, rfl, .ptr id ver off b ver' n bb h1 h2 h3 .nil, h⟩
  | hsl id ver off len sz b ver' n bb cap h1 h2 h3 h4 h => exact ⟨_, _, [], _, rfl, rfl, .hsl id ver off len sz b ver' n bb cap h1 h2 h3 h4 .nil, h⟩
  | map id b ver' n bb h1 h2 h => exact ⟨_, _, [], _, rfl, rfl, .map id b ver' n bb h1 h2 .nil, h⟩
  | fn f h1 h => exact ⟨_, _, [], _, rfl, rfl, .fn f h1 .nil, h⟩
  | full sz xs a hz ha hr h => exact ⟨_, _, [], _, rfl, rfl, .full sz xs a hz ha hr .nil, h⟩
  | slnone sz h => exact ⟨_, _, [], _, rfl, rfl, .slnone sz .nil, h⟩
  | nilh sz h => exact ⟨_, _, [], _, rfl, rfl, .nilh sz .nil, h⟩
  | tail sz xs a cap hz ha hr hc ht h => exact ⟨_, _, [_], _, rfl, rfl, .tail sz xs a cap hz ha hr hc ht .nil, h⟩
  | fr sz xs b cap c e hz hw hn hp hr hc hs h => exact ⟨_, _, [_], _, rfl, rfl, .fr sz xs b cap c e hz hw hn hp hr hc hs .nil, h⟩
  | agg hr h => exact ⟨_, _, _, _, rfl, rfl, by simpa using RepL.agg hr .nil, h⟩
  | tup hr h => exact ⟨_, _, _, _, rfl, rfl, by simpa using RepL.tup hr .nil, h⟩

theorem RepL.cons {w : World} {G : Gh} {v : V} {c : Value} {b1 : List Nat} {vs : List V} {cs : List Value} {bl : List Nat} (h1 : RepL w G [v] [c] b1) (h : RepL w G vs cs bl) : RepL w G (v :: vs) (c :: cs) (b1 ++ bl) := by
  cases h1 with
  | u c e => cases e; exact .u c h
  | imm _ c h1 e => cases e; exact .imm _ c h1 h
  | ptr id ver off b ver' n bb h1 h2 h3 e => cases e; exact .ptr id ver off b ver' n bb h1 h2 h3 h
  | hsl id ver off len sz b ver' n bb cap h1 h2 h3 h4 e => cases e; exact .hsl id ver off len sz b ver' n bb cap h1 h2 h3 h4 h
  | map id b ver' n bb h1 h2 e => cases e; exact .map id b ver' n bb h1 h2 h
  | fn f h1 e => cases e; exact .fn f h1 h
  | full sz xs a hz ha hr e => cases e; exact .full sz xs a hz ha hr h
  | slnone sz e => cases e; exact .slnone sz h
  | nilh sz e => cases e; exact .nilh sz h
  | tail sz xs a cap hz ha hr hc ht e => cases e; exact .tail sz xs a cap hz ha hr hc ht h
  | fr sz xs b cap c e hz hw hn hp hr hc hs e => cases e; exact .fr sz xs b cap c _ hz hw hn hp hr hc hs h
  | agg hr e => cases e; simpa using RepL.agg hr h
  | tup hr e => cases e; simpa using RepL.tup hr h

theorem RepL.nil_inv {w : World} {G : Gh} {cs : List Value} {bl : List Nat} (h : RepL w G [] cs bl) : cs = [] ∧ bl = [] := by cases h; exact ⟨rfl, rfl⟩

theorem RepL.append {w : World} {G : Gh} {v1 v2 : List V} {c2 : List Value} {b2 : List Nat} (h2 : RepL w G v2 c2 b2) : ∀ {c1 : List Value} {b1 : List Nat}, RepL w G v1 c1 b1 → RepL w G (v1 ++ v2) (c1 ++ c2) (b1 ++ b2) := by
  induction v1 with
  | nil => intro c1 b1 h; obtain ⟨rfl, rfl⟩ := h.nil_inv; exact h2
  | cons v vs ih =>
    intro c1 b1 h
    obtain ⟨c, cs, b, b', rfl, rfl, h1, h⟩ := h.cons_inv
    rw [List.append_assoc]
    exact .cons h1 (ih h)

theorem RepL.split {w : World} {G : Gh} {v2 : List V} (v1 : List V) : ∀ {cs : List Value} {bl : List Nat}, RepL w G (v1 ++ v2) cs bl →
    ∃ b1 b2, bl = b1 ++ b2 ∧ RepL w G v1 (cs.take v1.length) b1 ∧ RepL w G v2 (cs.drop v1.length) b2 := by
  induction v1 with
  | nil => intro cs bl h; exact ⟨[], bl, rfl, .nil, h⟩
  | cons v vs ih =>
    intro cs bl h
    obtain ⟨c, cs, b, b', rfl, rfl, h1, h⟩ := RepL.cons_inv h
    obtain ⟨b1, b2, rfl, x, y⟩ := ih h
    exact ⟨b ++ b1, b2, by simp, .cons h1 x, y⟩

theorem RepL.single {w : World} {G : Gh} {v : V} {cs : List Value} {bl : List Nat} (h : RepL w G [v] cs bl) : ∃ c, cs = [c] := by
  have := h.length
  match cs, this with
  | [c], _ => exact ⟨c, rfl⟩

/-- The i-th of a list. -/
theorem RepL.at {w : World} {G : Gh} : ∀ {vs : List V} {cs : List Value} {bl : List Nat}, RepL w G vs cs bl → ∀ (i : Nat) (v : V), vs[i]? = some v → ∃ c b, cs[i]? = some c ∧ RepL w G [v] [c] b ∧ (∀ x ∈ b, x ∈ bl) ∧ (bl.Nodup → b.Nodup)
  | [], _, _, _, i, v, e => by simp at e
  | v0 :: vs, cs, bl, h, i, v, e => by
    obtain ⟨c, cs, b1, b2, rfl, rfl, h1, h⟩ := h.cons_inv
    match i with
    | 0 =>
      simp at e; subst e
      exact ⟨c, b1, rfl, h1, fun x hx => List.mem_append_left _ hx, fun hn => (List.nodup_append.1 hn).1⟩
    | i + 1 =>
      obtain ⟨c', b, e1, e2, e3, e4⟩ := RepL.at h i v (by simpa using e)
      exact ⟨c', b, by simpa using e1, e2, fun x hx => List.mem_append_right _ (e3 x hx), fun hn => e4 (List.nodup_append.1 hn).2.1⟩

theorem strip0_plain {imm : Nat → Nat → Option Value} {v : V} {c : Value} (h : RepI imm [v] [c]) : strip0 v = v := by cases h <;> rfl
theorem RepI.plain {imm : Nat → Nat → Option Value} {v : V} {c : Value} (h : RepI imm [v] [c]) : plain0 v = true := by cases h <;> rfl
theorem strip_plain {imm : Nat → Nat → Option Value} {v : V} {c : Value} (h : RepI imm [v] [c]) : strip v = v := by cases h <;> rfl

theorem RepI.strips {imm : Nat → Nat → Option Value} : ∀ {vs : List V} {cs : List Value}, RepI imm vs cs → vs.map strip0 = vs
  | [], _, _ => rfl
  | v :: vs, cs, h => by
    obtain ⟨c, cs, rfl, h1, h⟩ := h.cons_inv
    simp [strip0_plain h1, RepI.strips h]

theorem RepI.toL {w : World} {G : Gh} : ∀ {vs : List V} {cs : List Value}, RepI G.imm vs cs → RepL w G vs cs []
  | [], cs, h => by rw [h.nil_inv]; exact .nil
  | v :: vs, cs, h => by
    obtain ⟨c, cs, rfl, h1, h⟩ := h.cons_inv
    exact .imm v c h1 (RepI.toL h)

theorem RepL.strip0 {w : World} {G : Gh} {v : V} {c : Value} {bl : List Nat} (h : RepL w G [v] [c] bl) : RepL w G [Vm.strip0 v] [c] [] := by
  cases h with
  | u c e => exact .u c .nil
  | imm _ c h1 e => rw [strip0_plain h1]; exact .imm _ c h1 .nil
  | ptr id ver off b ver' n bb h1 h2 h3 e => exact .ptr id ver off b ver' n bb h1 h2 h3 .nil
  | hsl id ver off len sz b ver' n bb cap h1 h2 h3 h4 e => exact .hsl id ver off len sz b ver' n bb cap h1 h2 h3 h4 .nil
  | map id b ver' n bb h1 h2 e => exact .map id b ver' n bb h1 h2 .nil
  | fn f h1 e => exact .fn f h1 .nil
  | full sz xs a hz ha hr e => exact .imm _ _ (.sl sz xs a _ hz ha hr (Nat.le_refl _) .nil) .nil
  | slnone sz e => exact .imm _ _ (.slnil sz .nil) .nil
  | nilh sz e => exact .nilh sz .nil
  | tail sz xs a cap hz ha hr hc ht e => exact .imm _ _ (.sl sz xs a _ hz ha hr hc .nil) .nil
  | fr sz xs b cap c e hz hw hn hp hr hc hs e => exact .u _ .nil
  | agg hr e => exact .u _ .nil
  | tup hr e => exact .u _ .nil

theorem RepL.strips0 {w : World} {G : Gh} : ∀ {vs : List V} {cs : List Value} {bl : List Nat}, RepL w G vs cs bl → RepL w G (vs.map Vm.strip0) cs []
  | [], cs, bl, h => by rw [h.nil_inv.1]; exact .nil
  | v :: vs, cs, bl, h => by
    obtain ⟨c, cs, b1, b2, rfl, rfl, h1, h⟩ := h.cons_inv
    have := RepL.cons h1.strip0 (RepL.strips0 h)
    simpa using this

theorem RepL.stripA {w : World} {G : Gh} {v : V} {c : Value} {bl : List Nat} (h : RepL w G [v] [c] bl) : RepL w G [Vm.stripA v] [c] [] := by
  have k := h.strip0
  cases h with
  | agg hr e => simpa [Vm.stripA] using RepL.agg hr.strips0 (RepL.nil (w := w) (G := G))
  | imm _ c h1 e => cases h1 <;> exact k
  | _ => exact k

theorem RepL.stripsA {w : World} {G : Gh} : ∀ {vs : List V} {cs : List Value} {bl : List Nat}, RepL w G vs cs bl → RepL w G (vs.map Vm.stripA) cs []
  | [], cs, bl, h => by rw [h.nil_inv.1]; exact .nil
  | v :: vs, cs, bl, h => by
    obtain ⟨c, cs, b1, b2, rfl, rfl, h1, h⟩ := h.cons_inv
    have := RepL.cons h1.stripA (RepL.stripsA h)
    simpa using this

theorem RepL.strip {w : World} {G : Gh} {v : V} {c : Value} {bl : List Nat} (h : RepL w G [v] [c] bl) : RepL w G [Vm.strip v] [c] [] := by
  have k := h.strip0
  cases h with
  | agg hr e => simpa [Vm.strip] using RepL.agg hr.strips0 (RepL.nil (w := w) (G := G))
  | tup hr e => simpa [Vm.strip] using RepL.tup hr.stripsA (RepL.nil (w := w) (G := G))
  | imm _ c h1 e => cases h1 <;> exact k
  | _ => exact k

/-- What is plain stands in memory that never changes. -/
theorem inl0_plain {imm : Nat → Nat → Option Value} {v : V} {c : Value} (h : RepI imm [v] [c]) : Vm.inl0 v = v := by cases h <;> rfl
theorem RepL.inl1 {w : World} {G : Gh} {v : V} {c : Value} {bl : List Nat} (h : RepL w G [v] [c] bl) (hp : plain1 v = true) : RepI G.imm [Vm.inl0 v] [c] := by
  cases h with
  | imm _ c h1 e => rw [inl0_plain h1]; exact h1
  | nilh sz e => exact .slnil sz .nil
  | full sz xs a hz ha hr e => exact .sl sz xs a _ hz ha hr (Nat.le_refl _) .nil
  | slnone sz e => exact .slnil sz .nil
  | tail sz xs a cap hz ha hr hc ht e => exact .sl sz xs a _ hz ha hr hc .nil
  | _ => cases hp

theorem RepL.inl {w : World} {G : Gh} : ∀ {vs vs' : List V} {cs : List Value} {bl : List Nat}, RepL w G vs cs bl → Vm.inl vs = some vs' → RepI G.imm vs' cs
  | [], vs', cs, bl, h, e => by
    rw [h.nil_inv.1]
    simp [Vm.inl] at e
    subst e; exact .nil
  | v :: vs, vs', cs, bl, h, e => by
    obtain ⟨c, cs, b1, b2, rfl, rfl, h1, h⟩ := h.cons_inv
    unfold Vm.inl at e
    split at e
    · rename_i ha
      simp at e; subst e
      simp at ha
      refine .cons (h1.inl1 ha.1) (RepL.inl h ?_)
      unfold Vm.inl
      rw [if_pos (by simpa using ha.2)]
    · cases e

end Go.Proofs.YtoaohapbbnpbeaaGreat.Vm
namespace Go.Proofs.YtoaohapbbnpbeaaGreat.Vm
open Go

/-- What an operation leaves: a value that stands for what it answers. -/
def Post (w : World) (G : Gh) (own : Nat → Option Place) (v : V) (H' : Heap) (c : Value) (w' : World) : Prop :=
  ∃ G' own' bl, Ok w' G' own' H' ∧ RepL w' G' [v] [c] bl ∧ bl.Nodup ∧ (∀ b ∈ bl, own' b = some .res) ∧ Ext w G own w' G' own'

theorem ObjOk.mono {w w' : World} {G G' : Gh} {own own' : Nat → Option Place} {i : Nat} {ob : Obj} (h : ObjOk w G own i ob)
    (hi : ∀ b o v, G.imm b o = some v → G'.imm b o = some v)
    (hl : ∀ (i b v n : Nat), G.loc[i]? = some (b, v, n) → ∃ b' v' n' : Nat, G'.loc[i]? = some (b', v', n') ∧ v ≤ v' ∧ (v = v' → b' = b ∧ n' = n))
    (hli : G'.loc[i]? = G.loc[i]?)
    (hb : ∀ b, (own b = some (.obj i) ∨ own b = some (.cell i)) → w'.heap[b]? = w.heap[b]? ∧ (∀ o, G'.imm b o = G.imm b o) ∧ own' b = own b) : ObjOk w' G' own' i ob := by
  match ob with
  | .dead => exact True.intro
  | .hole _ => obtain ⟨b, n, h⟩ := h; exact ⟨b, n, hli.trans h⟩
  | .cells ver vs =>
    obtain ⟨b, c, e, bl, h1, h2, h3, h4, h5, h6, h7, h8⟩ := h
    obtain ⟨k1, k2, k3⟩ := hb b (.inl h2)
    refine ⟨b, c, e, bl, hli.trans h1, k3.trans h2, k1.trans h3, fun o => (k2 o).trans (h4 o), h5, ?_, h7, ?_⟩
    · exact h6.mono hi hl fun b' hb' => ⟨(hb b' (.inr (h8 b' hb'))).1, (hb b' (.inr (h8 b' hb'))).2.1⟩
    · intro b' hb'; rw [(hb b' (.inr (h8 b' hb'))).2.2]; exact h8 b' hb'
  | .map es =>
    obtain ⟨b, ents, clk, h1, h2, h3, h4, h5⟩ := h
    obtain ⟨k1, k2, k3⟩ := hb b (.inl h2)
    exact ⟨b, ents, clk, hli.trans h1, k3.trans h2, k1.trans h3, h4.mono hi hl (fun b' hb' => by cases hb'), h5.mono hi hl fun b' hb' => by cases hb'⟩
  | .bld t e fz bs =>
    obtain ⟨b, p, v, h1, h2, h3, h4, h5, h6⟩ := h
    obtain ⟨k1, k2, k3⟩ := hb b (.inl h2)
    refine ⟨b, p, v, hli.trans h1, k3.trans h2, k1.trans h3, fun o => (k2 o).trans (h4 o), h5, ?_⟩
    rcases h6 with h6 | ⟨g, cap, cur, fr, q1, q2, q3, q4, q5, q6⟩
    · exact .inl h6
    · obtain ⟨j1, j2, j3⟩ := hb g (.inr q2)
      exact .inr ⟨g, cap, cur, fr, q1, j3.trans q2, j1.trans q3, q4, fun o => (j2 o).trans (q5 o), q6⟩

theorem loc_refl (G : Gh) : ∀ (i b v n : Nat), G.loc[i]? = some (b, v, n) → ∃ b' v' n' : Nat, G.loc[i]? = some (b', v', n') ∧ v ≤ v' ∧ (v = v' → b' = b ∧ n' = n) :=
  fun _ b v n h => ⟨b, v, n, h, Nat.le_refl _, fun _ => ⟨rfl, rfl⟩⟩

theorem loc_append (G : Gh) (l : List (Nat × Nat × Nat)) : ∀ (i b v n : Nat), G.loc[i]? = some (b, v, n) → ∃ b' v' n' : Nat, (G.loc ++ l)[i]? = some (b', v', n') ∧ v ≤ v' ∧ (v = v' → b' = b ∧ n' = n) := by
  intro i b v n h
  refine ⟨b, v, n, ?_, Nat.le_refl _, fun _ => ⟨rfl, rfl⟩⟩
  have : i < G.loc.length := by
    rcases Nat.lt_or_ge i G.loc.length with h' | h'
    · exact h'
    · rw [List.getElem?_eq_none h'] at h; cases h
  rw [List.getElem?_append_left this, h]

theorem RepL.heap {w w' : World} {G : Gh} {vs : List V} {cs : List Value} {bl : List Nat} (h : RepL w G vs cs bl) (e : w'.heap = w.heap) : RepL w' G vs cs bl :=
  h.mono (fun _ _ _ h => h) (loc_refl G) fun _ _ => ⟨by rw [e], fun _ => rfl⟩

theorem Ok.heap {w w' : World} {G : Gh} {own : Nat → Option Place} {H : Heap} (h : Ok w G own H) (e : w'.heap = w.heap) : Ok w' G own H := by
  refine ⟨fun b o v hv => ?_, fun b p hp => ?_, h.len, fun i ob ho => ?_⟩
  · rw [e]; exact h.imm b o v hv
  · rw [e]; exact h.size b p hp
  · exact (h.obj i ob ho).mono (fun _ _ _ h => h) (loc_refl G) rfl fun _ _ => ⟨by rw [e], fun _ => rfl, rfl⟩

/-- Other names for who owns what is no object's. -/
theorem Ok.relabel {w : World} {G : Gh} {own own' : Nat → Option Place} {H : Heap} (h : Ok w G own H)
    (ho : ∀ b i, own b = some (.obj i) ∨ own b = some (.cell i) → own' b = own b) (hs : ∀ b p, own' b = some p → ∃ q, own b = some q) : Ok w G own' H := by
  refine ⟨h.imm, fun b p hp => ?_, h.len, fun i ob hob => ?_⟩
  · obtain ⟨q, hq⟩ := hs b p hp; exact h.size b q hq
  · exact (h.obj i ob hob).mono (fun _ _ _ h => h) (loc_refl G) rfl fun b hb => ⟨rfl, fun _ => rfl, ho b i hb⟩

theorem post_same {w : World} {G : Gh} {own : Nat → Option Place} {H : Heap} {v : V} {c : Value} (h : Ok w G own H) (hr : RepL w G [v] [c] []) : Post w G own v H c w :=
  ⟨G, own, [], h, hr, List.nodup_nil, (fun _ h => by cases h), Ext.refl ..⟩

theorem post_plain {w : World} {G : Gh} {own : Nat → Option Place} {H : Heap} {v : V} {c : Value} (h : Ok w G own H) (hr : RepI G.imm [v] [c]) : Post w G own v H c w :=
  post_same h (.imm v c hr .nil)

def toRes (own : Nat → Option Place) : Nat → Option Place := fun b => if own b = some .arg then some .res else own b

theorem toRes_frame {own : Nat → Option Place} {b : Nat} (h : own b = some .frame) : toRes own b = some .frame := by
  unfold toRes; rw [if_neg (by rw [h]; simp)]; exact h

theorem Ok.toRes {w : World} {G : Gh} {own : Nat → Option Place} {H : Heap} (h : Ok w G own H) : Ok w G (toRes own) H := by
  refine h.relabel (fun b i hb => ?_) fun b p hp => ?_
  · unfold Vm.toRes; rw [if_neg]; rcases hb with hb | hb <;> rw [hb] <;> simp
  · unfold Vm.toRes at hp; split at hp
    · rename_i e; exact ⟨_, e⟩
    · exact ⟨_, hp⟩

theorem post_arg {w : World} {G : Gh} {own : Nat → Option Place} {H : Heap} {v : V} {c : Value} {bl : List Nat} (h : Ok w G own H) (hr : RepL w G [v] [c] bl) (hn : bl.Nodup)
    (ha : ∀ b ∈ bl, own b = some .arg) : Post w G own v H c w := by
  refine ⟨G, toRes own, bl, h.toRes, hr, hn, fun b hb => ?_, ?_⟩
  · unfold Vm.toRes; rw [if_pos (ha b hb)]
  · exact ⟨Nat.le_refl _, fun _ _ _ h => h, loc_refl G, fun b hb => ⟨rfl, fun _ => rfl, toRes_frame hb⟩, rfl, rfl, rfl⟩

/-! ### A block that is made -/

def setO (own : Nat → Option Place) (b : Nat) (p : Option Place) : Nat → Option Place := fun x => if x = b then p else own x
theorem setO_same (own : Nat → Option Place) (b : Nat) (p : Option Place) : setO own b p b = p := by simp [setO]
theorem setO_ne (own : Nat → Option Place) {b x : Nat} (p : Option Place) (h : x ≠ b) : setO own b p x = own x := by simp [setO, h]

def addImm (imm : Nat → Nat → Option Value) (b : Nat) (f : Nat → Option Value) : Nat → Nat → Option Value := fun x o => if x = b then f o else imm x o
theorem addImm_same (imm : Nat → Nat → Option Value) (b : Nat) (f : Nat → Option Value) (o : Nat) : addImm imm b f b o = f o := by simp [addImm]
theorem addImm_ne (imm : Nat → Nat → Option Value) {b x : Nat} (f : Nat → Option Value) (o : Nat) (h : x ≠ b) : addImm imm b f x o = imm x o := by simp [addImm, h]

theorem heap_push {w w' : World} {o : Go.Obj} (e : w'.heap = w.heap.push o) {b : Nat} (h : b < w.heap.size) : w'.heap[b]? = w.heap[b]? := by
  rw [e, Array.getElem?_push]; rw [if_neg (by omega)]
theorem heap_new {w w' : World} {o : Go.Obj} (e : w'.heap = w.heap.push o) : w'.heap[w.heap.size]? = some o := by
  rw [e, Array.getElem?_push]; rw [if_pos rfl]

theorem Ok.fresh {w : World} {G : Gh} {own : Nat → Option Place} {H : Heap} (h : Ok w G own H) (o : Nat) : G.imm w.heap.size o = none := by
  cases e : G.imm w.heap.size o with
  | none => rfl
  | some v =>
    obtain ⟨c, _, _, h1, _⟩ := h.imm _ _ _ e
    rw [Array.getElem?_eq_none (Nat.le_refl _)] at h1
    cases h1
theorem Ok.freshOwn {w : World} {G : Gh} {own : Nat → Option Place} {H : Heap} (h : Ok w G own H) : own w.heap.size = none := by
  cases e : own w.heap.size with
  | none => rfl
  | some p => exact absurd (h.size _ _ e) (Nat.lt_irrefl _)

theorem addImm_mono {w : World} {G : Gh} {own : Nat → Option Place} {H : Heap} (h : Ok w G own H) (f : Nat → Option Value) :
    ∀ b o v, G.imm b o = some v → addImm G.imm w.heap.size f b o = some v := by
  intro b o v e
  by_cases hb : b = w.heap.size
  · subst hb; rw [h.fresh o] at e; cases e
  · rw [addImm_ne _ _ _ hb]; exact e

/-- A new block, of which some cells never change. -/
theorem Ok.pushed {w w' : World} {G : Gh} {own : Nat → Option Place} {H : Heap} (h : Ok w G own H) {o : Go.Obj} (e : w'.heap = w.heap.push o) (f : Nat → Option Value)
    (hf : ∀ i v, f i = some v → ∃ c t z, o = .cells c t z ∧ c[i]? = some v) (p : Option Place) :
    Ok w' ⟨addImm G.imm w.heap.size f, G.loc⟩ (setO own w.heap.size p) H := by
  have hm := addImm_mono h f
  refine ⟨?_, ?_, h.len, ?_⟩
  · intro b i v hv
    by_cases hb : b = w.heap.size
    · subst hb
      simp only [addImm_same] at hv
      obtain ⟨c, t, z, rfl, hc⟩ := hf i v hv
      exact ⟨c, t, z, heap_new e, hc⟩
    · simp only [addImm_ne _ _ _ hb] at hv
      obtain ⟨c, t, z, h1, h2⟩ := h.imm b i v hv
      refine ⟨c, t, z, ?_, h2⟩
      rw [heap_push e]; exact h1
      rcases Nat.lt_or_ge b w.heap.size with h' | h'
      · exact h'
      · rw [Array.getElem?_eq_none h'] at h1; cases h1
  · intro b q hq
    rw [e, Array.size_push]
    by_cases hb : b = w.heap.size
    · omega
    · rw [setO_ne _ _ hb] at hq
      have := h.size _ _ hq; omega
  · intro i ob hob
    refine (h.obj i ob hob).mono hm (loc_refl G) rfl ?_
    intro b hb
    have hlt : b < w.heap.size := by rcases hb with hb | hb <;> exact h.size _ _ hb
    exact ⟨heap_push e hlt, fun o => addImm_ne _ _ _ (by omega), setO_ne _ _ (by omega)⟩

theorem Ext.pushed {w w' : World} {G : Gh} {own : Nat → Option Place} {H : Heap} (h : Ok w G own H) {o : Go.Obj} (e : w'.heap = w.heap.push o) (ht : w'.tape = w.tape) (hos : w'.os = w.os) (hout : w'.output = w.output)
    (f : Nat → Option Value) (p : Option Place) (l : List (Nat × Nat × Nat)) : Ext w G own w' ⟨addImm G.imm w.heap.size f, G.loc ++ l⟩ (setO own w.heap.size p) := by
  refine ⟨by rw [e, Array.size_push]; omega, addImm_mono h f, loc_append G l, fun b hb => ?_, ht, hos, hout⟩
  have := h.size _ _ hb
  exact ⟨heap_push e this, fun o => addImm_ne _ _ _ (by omega), by rw [setO_ne _ _ (by omega)]; exact hb⟩

theorem RepI.addNew {w : World} {G : Gh} {own : Nat → Option Place} {H : Heap} (h : Ok w G own H) (f : Nat → Option Value) {vs : List V} {cs : List Value} (hr : RepI G.imm vs cs) :
    RepI (addImm G.imm w.heap.size f) vs cs := hr.mono (addImm_mono h f)

/-- A list of its own, with or without room behind it. -/
theorem post_list {w w' : World} {G : Gh} {own : Nat → Option Place} {H : Heap} (h : Ok w G own H) {sz : Nat} {xs : List (List V)} {acs rest : List Value} {t : TypeId} {cap : Nat}
    (e : w'.heap = w.heap.push (.cells (acs ++ rest).toArray t)) (ht : w'.tape = w.tape) (hos : w'.os = w.os) (hout : w'.output = w.output)
    (hz : ∀ x ∈ xs, x.length = sz) (hr : RepI G.imm xs.flatten acs) (hc : xs.length ≤ cap) (hcap : cap * sz ≤ (acs ++ rest).length) :
    Post w G own (.sl true sz xs) H (.slice (some ⟨w.heap.size, 0, none⟩) xs.length cap) w' := by
  have hlen : acs.length = xs.length * sz := by
    rw [← hr.length, List.length_flatten]
    rw [List.map_congr_left (g := fun _ => sz) (by intro x hx; exact hz x hx), List.map_const', List.sum_replicate_nat]
  let f : Nat → Option Value := fun i => if i < acs.length then acs[i]? else none
  refine ⟨_, _, [w.heap.size], h.pushed e f (fun i v hv => ?_) (some .res), ?_, by simp, fun b hb => ?_, ?_⟩
  · refine ⟨_, _, _, rfl, ?_⟩
    simp only [f] at hv; split at hv
    · rename_i hi; simp [List.getElem?_append_left hi, hv]
    · cases hv
  · refine .tail sz xs ⟨w.heap.size, 0, none⟩ cap hz ?_ (hr.addNew h f) hc ⟨⟨rfl, _, _, heap_new e, ?_⟩, fun o ho => ?_⟩ .nil
    · refine ⟨fun _ => rfl, fun i v hv => ?_⟩
      simp only [addImm_same, f, Nat.zero_add]
      rw [if_pos, hv]
      rcases Nat.lt_or_ge i acs.length with h' | h'
      · exact h'
      · rw [List.getElem?_eq_none h'] at hv; cases hv
    · simpa using hcap
    · simp only [addImm_same, f]
      rw [if_neg]; simp only [Nat.zero_add] at ho; omega
  · rw [List.mem_singleton.1 hb, setO_same]
  · have := Ext.pushed h e ht hos hout f (some .res) []
    rwa [List.append_nil] at this

/-- An object more. -/
theorem post_obj {w w' : World} {G : Gh} {own : Nat → Option Place} {H : Heap} (h : Ok w G own H) {vs : List V} {cs : List Value} {t : TypeId} {bl : List Nat}
    (e : w'.heap = w.heap.push (.cells cs.toArray t)) (ht : w'.tape = w.tape) (hos : w'.os = w.os) (hout : w'.output = w.output)
    (hr : RepL w G vs cs bl) (hn : bl.Nodup) (ha : ∀ b ∈ bl, own b = some .arg) :
    Post w G own (.ptr H.length 0 0) (H ++ [.cells 0 vs]) (.pointer (some ⟨w.heap.size, 0, none⟩)) w' := by
  let own' : Nat → Option Place := fun b => if own b = some .arg then (if b ∈ bl then some (.cell H.length) else none) else setO own w.heap.size (some (.obj H.length)) b
  have hsz : ∀ b p, own b = some p → b < w.heap.size := h.size
  have hnew : own' w.heap.size = some (.obj H.length) := by
    simp only [own', h.freshOwn, setO_same]; simp
  have hkeep : ∀ b, (∃ p, own b = some p ∧ p ≠ .arg) → own' b = own b := by
    rintro b ⟨p, hp, hne⟩
    have : b ≠ w.heap.size := by have := hsz b p hp; omega
    simp only [own']; rw [if_neg (by rw [hp]; simpa using hne), setO_ne _ _ this]
  have hE := Ext.pushed h e ht hos hout (fun _ => none) none [(w.heap.size, 0, cs.length)]
  have hi : ∀ b o, addImm G.imm w.heap.size (fun _ => none) b o = G.imm b o := by
    intro b o
    by_cases hb : b = w.heap.size
    · subst hb; rw [addImm_same, h.fresh]
    · rw [addImm_ne _ _ _ hb]
  have himm : addImm G.imm w.heap.size (fun _ => none) = G.imm := by funext b o; exact hi b o
  rw [himm] at hE
  have hloc : (G.loc ++ [(w.heap.size, 0, cs.length)])[H.length]? = some (w.heap.size, 0, cs.length) := by rw [h.len]; simp
  have hmono : ∀ {vs : List V} {cs' : List Value} {bl : List Nat}, RepL w G vs cs' bl → (∀ b ∈ bl, b < w.heap.size) → RepL w' ⟨G.imm, G.loc ++ [(w.heap.size, 0, cs.length)]⟩ vs cs' bl :=
    fun hr hlt => RepL.mono (G := G) (G' := ⟨G.imm, G.loc ++ [(w.heap.size, 0, cs.length)]⟩) (fun _ _ _ h => h) (loc_append G _) hr fun b hb => ⟨heap_push e (hlt b hb), fun _ => rfl⟩
  refine ⟨⟨G.imm, G.loc ++ [(w.heap.size, 0, cs.length)]⟩, own', [], ⟨?_, ?_, ?_, ?_⟩, ?_, List.nodup_nil, (fun _ hb => by cases hb), ?_⟩
  · intro b o v hv
    obtain ⟨c, t', z, h1, h2⟩ := h.imm b o v hv
    refine ⟨c, t', z, ?_, h2⟩
    rw [heap_push e]; exact h1
    rcases Nat.lt_or_ge b w.heap.size with h' | h'
    · exact h'
    · rw [Array.getElem?_eq_none h'] at h1; cases h1
  · intro b p hp
    rw [e, Array.size_push]
    by_cases hb : b = w.heap.size
    · omega
    · simp only [own'] at hp
      split at hp
      · rename_i ha; have := hsz b _ ha; omega
      · rw [setO_ne _ _ hb] at hp; have := hsz b p hp; omega
  · simp [h.len]
  · intro i ob hob
    rcases Nat.lt_or_ge i H.length with hlt | hge
    · rw [List.getElem?_append_left hlt] at hob
      refine ObjOk.mono (G := G) (G' := ⟨G.imm, G.loc ++ [(w.heap.size, 0, cs.length)]⟩) (h.obj i ob hob) (fun _ _ _ h => h) (loc_append G _) ?_ ?_
      · have : i < G.loc.length := by rw [← h.len]; exact hlt
        exact List.getElem?_append_left this
      · intro b hb
        have hp : ∃ p, own b = some p ∧ p ≠ .arg := by
          rcases hb with hb | hb <;> exact ⟨_, hb, by simp⟩
        have hk := hkeep b hp
        obtain ⟨p, hp1, _⟩ := hp
        exact ⟨heap_push e (hsz b p hp1), fun _ => rfl, hk⟩
    · have : i = H.length := by
        rcases Nat.lt_or_ge H.length i with h' | h'
        · rw [List.getElem?_eq_none (by simp; omega)] at hob; cases hob
        · omega
      subst this
      simp at hob; subst hob
      refine ⟨w.heap.size, cs.toArray, t, bl, ?_, hnew, heap_new e, fun o => h.fresh o, ?_, ?_, hn, ?_⟩
      · simpa using hloc
      · simp [hr.length]
      · have : cs.toArray.toList.take vs.length = cs := by simp [hr.length]
        rw [this]
        exact hmono hr fun b hb => hsz b _ (ha b hb)
      · intro b hb; simp only [own']; rw [if_pos (ha b hb), if_pos hb]
  · exact .ptr H.length 0 0 w.heap.size 0 cs.length _ hloc (Nat.le_refl _) (fun _ => rfl) .nil
  · exact ⟨hE.size, fun _ _ _ h => h, hE.loc, fun b hb => ⟨(hE.fixed b hb).1, fun _ => rfl, by rw [hkeep b ⟨_, hb, by simp⟩]; exact hb⟩, hE.tape, hE.os, hE.out⟩

end Go.Proofs.YtoaohapbbnpbeaaGreat.Vm
namespace Go.Proofs.YtoaohapbbnpbeaaGreat.Vm
open Go

theorem flat_len {sz : Nat} {xs : List (List V)} (hz : ∀ x ∈ xs, x.length = sz) : xs.flatten.length = xs.length * sz := by
  rw [List.length_flatten, List.map_congr_left (g := fun _ => sz) (by intro x hx; exact hz x hx), List.map_const', List.sum_replicate_nat]

theorem ImmAt.cells {w : World} {G : Gh} {own : Nat → Option Place} {H : Heap} (h : Ok w G own H) {a : Addr} {cs : List Value} (hi : ImmAt G.imm a cs) : ∀ j v, cs[j]? = some v → w.cell? (a.add j) = some v := by
  intro j v hv
  obtain ⟨hs, hc⟩ := hi
  have hs := hs (by intro e; rw [e] at hv; simp at hv)
  obtain ⟨c, t, z, h1, h2⟩ := h.imm _ _ _ (hc j v hv)
  have : a.add j = ⟨a.block, a.off + j, none⟩ := by
    unfold Addr.add; split
    · subst_vars; cases a; simp_all
    · rfl
  rw [this]
  simp only [World.cell?, h1]
  simpa using h2

theorem World.heap_lt {w : World} {b : Nat} {o : Go.Obj} (h : w.heap[b]? = some o) : b < w.heap.size := by
  rcases Nat.lt_or_ge b w.heap.size with h' | h'
  · exact h'
  · rw [Array.getElem?_eq_none h'] at h; cases h

/-- A block whose tail is owned by what was handed over is written behind all that never changes. -/
theorem Ok.wrote {w : World} {G : Gh} {own : Nat → Option Place} {H : Heap} (h : Ok w G own H) {b : Nat} {c c' : Array Value} {t : TypeId} {z : Nat × Nat} (hown : own b = some .arg)
    (hw : w.heap[b]? = some (.cells c t z)) (f : Nat → Option Value) (hf : ∀ i v, f i = some v → c'[i]? = some v) (hx : ∀ o v, G.imm b o = some v → f o = some v) :
    Ok (w.setRow b c') ⟨addImm G.imm b f, G.loc⟩ (Vm.toRes own) H ∧ Ext w G own (w.setRow b c') ⟨addImm G.imm b f, G.loc⟩ (Vm.toRes own) := by
  have hm : ∀ x o v, G.imm x o = some v → addImm G.imm b f x o = some v := by
    intro x o v hv
    by_cases hb : x = b
    · subst hb; rw [addImm_same]; exact hx o v hv
    · rw [addImm_ne _ _ _ hb]; exact hv
  refine ⟨⟨?_, ?_, h.len, ?_⟩, ?_⟩
  · intro x o v hv
    by_cases hb : x = b
    · subst hb
      simp only [addImm_same] at hv
      exact ⟨c', t, z, setRow_heap w x c c' t z hw, hf o v hv⟩
    · simp only [addImm_ne _ _ _ hb] at hv
      obtain ⟨c2, t2, z2, h1, h2⟩ := h.imm x o v hv
      exact ⟨c2, t2, z2, by rw [setRow_other w b x c' hb]; exact h1, h2⟩
  · intro x p hp
    rw [setRow_size]
    unfold Vm.toRes at hp; split at hp
    · rename_i e; exact h.size _ _ e
    · exact h.size _ _ hp
  · clear hx
    intro i ob hob
    refine ObjOk.mono (G := G) (G' := ⟨addImm G.imm b f, G.loc⟩) (h.obj i ob hob) hm (loc_refl G) rfl ?_
    intro x hx
    have hne : x ≠ b := by intro e; rw [e, hown] at hx; rcases hx with hx | hx <;> cases hx
    refine ⟨setRow_other w b x c' hne, fun o => addImm_ne _ _ _ hne, ?_⟩
    unfold Vm.toRes; rw [if_neg]; rcases hx with hx | hx <;> rw [hx] <;> simp
  · refine ⟨by rw [setRow_size]; exact Nat.le_refl _, hm, loc_refl G, fun x hx => ?_, rfl, rfl, rfl⟩
    have hne : x ≠ b := by intro e; rw [e, hown] at hx; cases hx
    exact ⟨setRow_other w b x c' hne, fun o => addImm_ne _ _ _ hne, toRes_frame hx⟩

section
variable {P : Program}

theorem run_append_room_at (w : World) (t tx ty e : TypeId) (i : TypeInfo) (ht : P.underlying t = some (.slice e)) (hi : P.info? e = some i) (b off sLen sCap : Nat) (cur : Array Value) (E : TypeId)
    (hg : w.heap[b]? = some (.cells cur E (0, 0))) (x : Value) (n : Nat) (news : List Value) (hs : Src P i.size tx x n news w) (hroom : sLen + n ≤ sCap) (hfit : off + sLen * i.size + news.length ≤ cur.size) :
    (Builtin.append_ #[t, tx] ty #[.slice (some ⟨b, off, none⟩) sLen sCap, x]).run P w =
      .ok (.slice (some ⟨b, off, none⟩) (sLen + n) sCap) (w.setRow b (cur.toList.take (off + sLen * i.size) ++ news ++ cur.toList.drop (off + sLen * i.size + news.length)).toArray) := by
  have hst := run_storeCells_at P b (off + sLen * i.size) E news 0 cur w hg (by simpa using hfit) hs.one
  simp only [Nat.add_zero] at hst
  rcases hs.kind with ⟨e', hk⟩ | hk <;> simp [Builtin.append_, run_underlying ht, run_underlying hk, sizeOf, typeInfo, hi, hs.len, hroom, hs.cells, Addr.add_lit, hst]

theorem firstCells_imm {w : World} {G : Gh} {own : Nat → Option Place} {H : Heap} (h : Ok w G own H) {a : Addr} {acs : List Value} (hi : ImmAt G.imm a acs) (size n cap : Nat) (hl : acs.length = n * size) :
    (Builtin.firstCells size n (.slice (some a) n cap)).run P w.drew = .ok acs.toArray w.drew :=
  run_firstCells_some w.drew size n a n cap acs hl (by simpa using hi.cells h)

/-- A list that is appended to. -/
theorem append_post {w : World} {G : Gh} {own : Nat → Option Place} {H : Heap} (h : Ok w G own H) {t tx ty e : TypeId} {i : TypeInfo} {z : Value}
    (ht : P.underlying t = some (.slice e)) (hi : P.info? e = some i) (hz : i.zero = some z) (hzs : z.cells.size = i.size)
    {xs ys : List (List V)} {cs cx : Value} {bl : List Nat} (hs : RepL w G [.sl true i.size xs] [cs] bl) (hn : bl.Nodup) (ha : ∀ b ∈ bl, own b = some .arg)
    {news : List Value} (hx : Src P i.size tx cx ys.length news w) (hy : RepI G.imm ys.flatten news) (hyz : ∀ y ∈ ys, y.length = i.size)
    (hb : (xs.length + ys.length) * i.bytes ≤ 140737488355328) (h63 : xs.length + ys.length ≤ 9223372036854775807) :
    ∃ c w', (Builtin.append_ #[t, tx] ty #[cs, cx]).run P w = .ok c w' ∧ Post w G own (.sl true i.size (xs ++ ys)) H c w' := by
  -- a new row
  have grow : ∀ (base : Option Addr) (cap : Nat) (acs : List Value), (Builtin.firstCells i.size xs.length (.slice base xs.length cap)).run P w.drew = .ok acs.toArray w.drew → RepI G.imm xs.flatten acs → (∀ x ∈ xs, x.length = i.size) →
      cap < xs.length + ys.length → ∃ c w', (Builtin.append_ #[t, tx] ty #[.slice base xs.length cap, cx]).run P w = .ok c w' ∧ Post w G own (.sl true i.size (xs ++ ys)) H c w' := by
    intro base cap acs hold hr hxz hcap
    have hrun := run_append_grow_src w t tx ty e i z ht hi hz base xs.length cap acs hold cx ys.length news hx hcap (by omega) (growslice_fits hcap hb)
    refine ⟨_, _, hrun, ?_⟩
    have hge := grownCap_ge w (xs.length + ys.length) cap e
    have hl : (acs ++ news).length = (xs.length + ys.length) * i.size := by
      rw [List.length_append, ← hr.length, ← hy.length, flat_len hxz, flat_len hyz, Nat.add_mul]
    have := post_list (w := w) (w' := w.drew.alloc (.cells ((acs ++ news).toArray ++ Builtin.zeroCells z.cells (grownCap w (xs.length + ys.length) cap e - (xs.length + ys.length))) e)) h
      (sz := i.size) (xs := xs ++ ys) (acs := acs ++ news) (rest := (Builtin.zeroCells z.cells (grownCap w (xs.length + ys.length) cap e - (xs.length + ys.length))).toList) (t := e) (cap := grownCap w (xs.length + ys.length) cap e)
      (by
        show w.heap.push _ = _
        congr 2
        apply Array.ext'; simp) rfl rfl rfl
      (List.forall_mem_append.2 ⟨hxz, hyz⟩)
      (by rw [List.flatten_append]; exact RepI.append hy hr)
      (by rw [List.length_append]; exact hge)
      (by
        have hzl : (Builtin.zeroCells z.cells (grownCap w (xs.length + ys.length) cap e - (xs.length + ys.length))).toList.length = (grownCap w (xs.length + ys.length) cap e - (xs.length + ys.length)) * i.size := by
          rw [← hzs]; exact (Array.length_toList (xs := Builtin.zeroCells z.cells _)).trans (size_zeroCells _ _)
        rw [List.length_append, hl, hzl, ← Nat.add_mul]
        exact Nat.mul_le_mul_right _ (by omega))
    rwa [List.length_append] at this
  cases hs with
  | imm _ c h1 _ => cases h1
  | slnone sz _ =>
    by_cases hy0 : ys.length = 0
    · have : ys = [] := List.eq_nil_of_length_eq_zero hy0
      subst this
      refine ⟨.slice none 0 0, w, ?_, ?_⟩
      · have hnew : news = [] := by simpa using hx.newsLen
        subst hnew
        have hl := hx.len
        have hc := hx.cells
        simp only [List.length_nil] at hl hc
        rcases hx.kind with ⟨e', hk⟩ | hk <;> simp [Builtin.append_, run_underlying ht, run_underlying hk, sizeOf, typeInfo, hi, hl, hc]
      · exact post_same h (.slnone _ .nil)
    · exact grow none 0 [] (by simpa using run_firstCells_none w.drew i.size 0 0 0) .nil (by simp) (by simp; omega)
  | full sz xs a hxz hia hr _ =>
    by_cases hy0 : ys.length = 0
    · have : ys = [] := List.eq_nil_of_length_eq_zero hy0
      subst this
      refine ⟨.slice (some a) xs.length xs.length, w, ?_, ?_⟩
      · have hnew : news = [] := by simpa using hx.newsLen
        subst hnew
        have hl := hx.len
        have hc := hx.cells
        simp only [List.length_nil] at hl hc
        rcases hx.kind with ⟨e', hk⟩ | hk <;> simp [Builtin.append_, run_underlying ht, run_underlying hk, sizeOf, typeInfo, hi, hl, hc, storeCells]
      · rw [List.append_nil]; exact post_same h (.full _ xs a hxz hia hr .nil)
    · have hl := hr.length.symm.trans (flat_len hxz)
      exact grow (some a) xs.length _ (firstCells_imm h hia i.size xs.length xs.length hl) hr hxz (by omega)
  | tail sz xs a cap hxz hia hr hc htl _ =>
    have hl := hr.length.symm.trans (flat_len hxz)
    by_cases hroom : xs.length + ys.length ≤ cap
    · obtain ⟨⟨hsp, cur, E, hw, hfit⟩, hfree⟩ := htl
      have hnl := hx.newsLen
      have hae : a = ⟨a.block, a.off, none⟩ := by cases a; simp_all
      have hfit' : a.off + xs.length * i.size + news.length ≤ cur.size := by
        have : (xs.length + ys.length) * i.size ≤ cap * i.size := Nat.mul_le_mul_right _ hroom
        rw [Nat.add_mul] at this; omega
      have hrun := run_append_room_at (P := P) w t tx ty e i ht hi a.block a.off xs.length cap cur E hw cx ys.length news hx hroom hfit'
      rw [← hae] at hrun
      refine ⟨_, _, hrun, ?_⟩
      let c' := (cur.toList.take (a.off + xs.length * i.size) ++ news ++ cur.toList.drop (a.off + xs.length * i.size + news.length)).toArray
      let f : Nat → Option Value := fun o => if a.off + xs.length * i.size ≤ o then (if o < a.off + xs.length * i.size + news.length then news[o - (a.off + xs.length * i.size)]? else none) else G.imm a.block o
      have hcl : cur.toList.length = cur.size := Array.length_toList
      have hget1 : ∀ o, o < a.off + xs.length * i.size → c'[o]? = cur[o]? := by
        intro o ho
        simp only [c', List.getElem?_toArray]
        rw [List.append_assoc, List.getElem?_append_left (by rw [List.length_take, hcl]; omega), List.getElem?_take, if_pos ho, Array.getElem?_toList]
      have hget2 : ∀ o, a.off + xs.length * i.size ≤ o → o < a.off + xs.length * i.size + news.length → c'[o]? = news[o - (a.off + xs.length * i.size)]? := by
        intro o ho ho'
        simp only [c', List.getElem?_toArray]
        rw [List.append_assoc, List.getElem?_append_right (by rw [List.length_take, hcl]; omega), List.length_take, hcl, Nat.min_eq_left (by omega), List.getElem?_append_left (by omega)]
      have him : ∀ o v, G.imm a.block o = some v → c'[o]? = some v ∧ o < a.off + xs.length * i.size := by
        intro o v hv
        have : o < a.off + xs.length * i.size := by
          rcases Nat.lt_or_ge o (a.off + xs.length * i.size) with h' | h'
          · exact h'
          · rw [hfree o h'] at hv; cases hv
        obtain ⟨c2, t2, z2, h1, h2⟩ := h.imm _ _ _ hv
        rw [hw] at h1; cases h1
        exact ⟨by rw [hget1 o this]; exact h2, this⟩
      obtain ⟨hok, hext⟩ := h.wrote (c' := c') (ha a.block (by simp)) hw f (by
        intro o v hv
        simp only [f] at hv
        split at hv
        · rename_i h1
          split at hv
          · rename_i h2; rw [hget2 o h1 h2]; exact hv
          · cases hv
        · exact (him o v hv).1) (by
        intro o v hv
        simp only [f]
        rw [if_neg (by have := (him o v hv).2; omega)]; exact hv)
      have hm : ∀ b o v, G.imm b o = some v → addImm G.imm a.block f b o = some v := hext.imm
      refine ⟨_, _, [a.block], hok, ?_, by simp, ?_, hext⟩
      · rw [← List.length_append]
        refine .tail (acs := _ ++ news) i.size (xs ++ ys) a cap (List.forall_mem_append.2 ⟨hxz, hyz⟩) ⟨fun _ => hsp, ?_⟩ (by rw [List.flatten_append]; exact RepI.append (hy.mono hm) (hr.mono hm)) (by rw [List.length_append]; exact hroom) ⟨⟨hsp, c', E, setRow_heap w a.block cur c' E (0, 0) hw, ?_⟩, ?_⟩ .nil
        · intro j v hv
          rcases Nat.lt_or_ge j (xs.length * i.size) with hj | hj
          · rw [List.getElem?_append_left (by omega)] at hv
            exact hm _ _ _ (hia.2 j v hv)
          · rw [List.getElem?_append_right (by omega), hl] at hv
            have hjn : j - xs.length * i.size < news.length := by
              rcases Nat.lt_or_ge (j - xs.length * i.size) news.length with h' | h'
              · exact h'
              · rw [List.getElem?_eq_none h'] at hv; cases hv
            simp only [addImm_same, f]
            rw [if_pos (by omega), if_pos (by omega)]
            rw [show a.off + j - (a.off + xs.length * i.size) = j - xs.length * i.size by omega]; exact hv
        · have : c'.size = cur.size := by simp [c']; omega
          omega
        · intro o ho
          rw [List.length_append, Nat.add_mul] at ho
          simp only [addImm_same, f]
          rw [if_pos (by omega), if_neg (by omega)]
      · intro b hb'
        rw [List.mem_singleton.1 hb']
        unfold Vm.toRes; rw [if_pos (ha a.block (by simp))]
    · exact grow (some a) cap _ (firstCells_imm h hia i.size xs.length cap hl) hr hxz (by omega)
end
end Go.Proofs.YtoaohapbbnpbeaaGreat.Vm
namespace Go.Proofs.YtoaohapbbnpbeaaGreat.Vm
open Go

theorem Ok.replace {w w' : World} {G G' : Gh} {own own' : Nat → Option Place} {H : Heap} (h : Ok w G own H) {id : Nat} {ob : Obj}
    (himm : ∀ b o v, G.imm b o = some v → G'.imm b o = some v)
    (himm' : ∀ b o v, G'.imm b o = some v → ∃ c e f, w'.heap[b]? = some (.cells c e f) ∧ c[o]? = some v)
    (hsize : ∀ b p, own' b = some p → b < w'.heap.size)
    (hloc : ∀ (i b v n : Nat), G.loc[i]? = some (b, v, n) → ∃ b' v' n' : Nat, G'.loc[i]? = some (b', v', n') ∧ v ≤ v' ∧ (v = v' → b' = b ∧ n' = n))
    (hlen : G'.loc.length = G.loc.length) (hloc' : ∀ j, j ≠ id → G'.loc[j]? = G.loc[j]?)
    (hb : ∀ j b, j ≠ id → (own b = some (.obj j) ∨ own b = some (.cell j)) → w'.heap[b]? = w.heap[b]? ∧ (∀ o, G'.imm b o = G.imm b o) ∧ own' b = own b)
    (hob : ObjOk w' G' own' id ob) : Ok w' G' own' (H.set id ob) := by
  refine ⟨himm', hsize, by rw [List.length_set, hlen]; exact h.len, fun j obj hj => ?_⟩
  by_cases e : j = id
  · subst e
    rw [List.getElem?_set] at hj
    split at hj
    · split at hj
      · cases hj; exact hob
      · cases hj
    · exact absurd rfl ‹_›
  · rw [List.getElem?_set, if_neg (by omega)] at hj
    exact (h.obj j obj hj).mono himm hloc (hloc' j e) (hb j · e)

/-- A place that was held is filled. -/
theorem hole_post {w w' : World} {G : Gh} {own : Nat → Option Place} {H : Heap} (h : Ok w G own H) {id t : Nat} (hid : H[id]? = some (.hole t)) {vs : List V} {cs : List Value} {ty : TypeId}
    (e : w'.heap = w.heap.push (.cells cs.toArray ty)) (ht : w'.tape = w.tape) (hos : w'.os = w.os) (hout : w'.output = w.output) (hr : RepL w G vs cs []) :
    Post w G own (.ptr id 1 0) (H.set id (.cells 1 vs)) (.pointer (some ⟨w.heap.size, 0, none⟩)) w' := by
  obtain ⟨b0, n0, hl⟩ := h.obj id _ hid
  have hlt : id < G.loc.length := (List.getElem?_eq_some_iff.1 hl).1
  have hL : ∀ (i b2 v n2 : Nat), G.loc[i]? = some (b2, v, n2) → ∃ b3 v' n' : Nat, (G.loc.set id (w.heap.size, 1, cs.length))[i]? = some (b3, v', n') ∧ v ≤ v' ∧ (v = v' → b3 = b2 ∧ n' = n2) := by
    intro i b2 v n2 e
    by_cases hi : i = id
    · subst hi
      rw [hl] at e; cases e
      exact ⟨w.heap.size, 1, cs.length, List.getElem?_set_self hlt, by omega, by omega⟩
    · exact ⟨b2, v, n2, by rw [List.getElem?_set_ne (by omega)]; exact e, Nat.le_refl _, fun _ => ⟨rfl, rfl⟩⟩
  have hkeep : ∀ b p, own b = some p → b ≠ w.heap.size := fun b p hp => by have := h.size b p hp; omega
  refine ⟨⟨G.imm, G.loc.set id (w.heap.size, 1, cs.length)⟩, setO own w.heap.size (some (.obj id)), [], ?_, ?_, List.nodup_nil, (fun _ hb => by cases hb), ?_⟩
  · refine Ok.replace (G := G) (G' := ⟨G.imm, G.loc.set id (w.heap.size, 1, cs.length)⟩) h (fun _ _ _ h => h) ?_ ?_ hL (by simp) ?_ ?_ ?_
    · intro x o v hv
      obtain ⟨c2, e2, f2, h1, h2⟩ := h.imm x o v hv
      refine ⟨c2, e2, f2, ?_, h2⟩
      rw [heap_push e]; exact h1
      rcases Nat.lt_or_ge x w.heap.size with h' | h'
      · exact h'
      · rw [Array.getElem?_eq_none h'] at h1; cases h1
    · intro x p hp
      rw [e, Array.size_push]
      by_cases hx : x = w.heap.size
      · omega
      · rw [setO_ne _ _ hx] at hp; have := h.size x p hp; omega
    · intro j hj; exact List.getElem?_set_ne (by omega)
    · intro j x hj hx
      have hp : ∃ p, own x = some p := by rcases hx with hx | hx <;> exact ⟨_, hx⟩
      obtain ⟨p, hp⟩ := hp
      exact ⟨heap_push e (h.size _ _ hp), fun _ => rfl, setO_ne _ _ (hkeep x p hp)⟩
    · refine ⟨w.heap.size, cs.toArray, ty, [], by simpa using List.getElem?_set_self hlt, setO_same .., heap_new e, fun o => h.fresh o, ?_, ?_, List.nodup_nil, (fun _ hb => by cases hb)⟩
      · simp [hr.length]
      · have : cs.toArray.toList.take vs.length = cs := by simp [hr.length]
        rw [this]
        exact RepL.mono (G := G) (G' := ⟨G.imm, G.loc.set id (w.heap.size, 1, cs.length)⟩) (fun _ _ _ h => h) hL hr fun b hb => by cases hb
  · exact .ptr id 1 0 w.heap.size 1 cs.length _ (List.getElem?_set_self hlt) (Nat.le_refl _) (fun _ => rfl) .nil
  · refine ⟨by rw [e, Array.size_push]; omega, fun _ _ _ h => h, hL, fun b hb => ⟨heap_push e (h.size _ _ hb), fun _ => rfl, ?_⟩, ht, hos, hout⟩
    rw [setO_ne _ _ (hkeep b _ hb)]; exact hb
/-- Where a place is held. -/
theorem holeAt_some {t : Nat} : ∀ {H : Heap} {i k : Nat}, holeAt t H i = some k → i ≤ k ∧ H[k - i]? = some (.hole t)
  | [], i, k, h => by cases h
  | o :: l, i, k, h => by
    simp only [holeAt] at h
    split at h
    · rename_i k' hk
      cases h
      obtain ⟨h1, h2⟩ := holeAt_some hk
      refine ⟨by omega, ?_⟩
      rw [show k - i = (k - (i + 1)) + 1 by omega]; exact h2
    · cases hb : isHole t o with
      | false => rw [hb] at h; cases h
      | true =>
        rw [hb] at h; cases h
        refine ⟨Nat.le_refl _, ?_⟩
        rw [Nat.sub_self]
        unfold isHole at hb
        split at hb
        · rw [Nat.eq_of_beq_eq_true hb]; rfl
        · cases hb
theorem holeAt_get {t : Nat} {H : Heap} {k : Nat} (h : holeAt t H 0 = some k) : H[k]? = some (.hole t) := (holeAt_some h).2

/-- An object's cells are written, where it lies. -/
theorem Ok.put {w : World} {G : Gh} {own : Nat → Option Place} {H : Heap} (h : Ok w G own H) {id ver b : Nat} {vs vs' : List V} {c c' : Array Value} {e : TypeId} {bl' blr : List Nat}
    (hloc : G.loc[id]? = some (b, ver, c.size)) (hown : own b = some (.obj id)) (hw : w.heap[b]? = some (.cells c e (0, 0))) (hn0 : ∀ o, G.imm b o = none)
    (hsz : c'.size = c.size) (hle : vs'.length ≤ c'.size) (hr : RepL w G vs' (c'.toList.take vs'.length) bl') (hn : bl'.Nodup) (ho : ∀ x ∈ bl', own x = some .arg ∨ own x = some (.cell id))
    (hrr : ∀ x ∈ blr, own x = some (.cell id)) (hd : ∀ x ∈ blr, x ∉ bl') :
    ∃ own', Ok (w.setRow b c') G own' (H.set id (.cells ver vs')) ∧ Ext w G own (w.setRow b c') G own' ∧ ∀ x ∈ blr, own' x = some .res := by
  let own' : Nat → Option Place := fun x => if x ∈ bl' then some (.cell id) else if x ∈ blr then some .res else if own x = some .arg ∨ own x = some (.cell id) then none else own x
  have hkeep : ∀ x, own x ≠ some .arg → own x ≠ some (.cell id) → own' x = own x := by
    intro x h1 h2
    simp only [own']
    rw [if_neg (fun hx => by rcases ho x hx with h' | h' <;> contradiction), if_neg (fun hx => h2 (hrr x hx)), if_neg (fun hx => by rcases hx with h' | h' <;> contradiction)]
  have hbs : ∀ x, own x ≠ some (.obj id) → x ≠ b := by intro x hx e; rw [e] at hx; exact hx hown
  refine ⟨own', ?_, ?_, ?_⟩
  · refine h.replace (fun _ _ _ h => h) ?_ ?_ (loc_refl G) rfl (fun _ _ => rfl) ?_ ?_
    · intro x o v hv
      have hne : x ≠ b := by intro e; rw [e, hn0 o] at hv; cases hv
      rw [setRow_other w b x c' hne]; exact h.imm x o v hv
    · intro x p hp
      rw [setRow_size]
      simp only [own'] at hp
      split at hp
      · rename_i hx; rcases ho x hx with h' | h' <;> exact h.size _ _ h'
      · split at hp
        · rename_i hx; exact h.size _ _ (hrr x hx)
        · split at hp
          · cases hp
          · exact h.size _ _ hp
    · intro j x hj hx
      have h1 : own x ≠ some .arg := by rcases hx with hx | hx <;> rw [hx] <;> simp
      have h2 : own x ≠ some (.cell id) := by rcases hx with hx | hx <;> rw [hx] <;> simp <;> omega
      have h3 : own x ≠ some (.obj id) := by rcases hx with hx | hx <;> rw [hx] <;> simp <;> omega
      exact ⟨setRow_other w b x c' (hbs x h3), fun _ => rfl, hkeep x h1 h2⟩
    · refine ⟨b, c', e, bl', by rw [hsz]; exact hloc, ?_, setRow_heap w b c c' e (0, 0) hw, hn0, hle, ?_, hn, fun x hx => ?_⟩
      · rw [hkeep b (by rw [hown]; simp) (by rw [hown]; simp)]; exact hown
      · refine hr.mono (fun _ _ _ h => h) (loc_refl G) fun x hx => ⟨setRow_other w b x c' (hbs x ?_), fun _ => rfl⟩
        rcases ho x hx with h' | h' <;> rw [h'] <;> simp
      · simp only [own']; rw [if_pos hx]
  · refine ⟨by rw [setRow_size]; exact Nat.le_refl _, fun _ _ _ h => h, loc_refl G, fun x hx => ?_, rfl, rfl, rfl⟩
    exact ⟨setRow_other w b x c' (hbs x (by rw [hx]; simp)), fun _ => rfl, by rw [hkeep x (by rw [hx]; simp) (by rw [hx]; simp)]; exact hx⟩
  · intro x hx; simp only [own']; rw [if_neg (hd x hx), if_pos hx]

/-! ### Cells of objects and of lists -/

theorem getCells_some {H : Heap} {id ver : Nat} {cs : List V} (h : getCells H id ver = some cs) : H[id]? = some (.cells ver cs) := by
  unfold getCells at h
  split at h
  · rename_i v c e
    split at h
    · rename_i hv; subst hv; cases h; exact e
    · cases h
  · cases h

theorem cut_some {cs l : List V} {off n : Nat} (h : cut cs off n = some l) : off + n ≤ cs.length ∧ l = (cs.drop off).take n ∧ l.length = n ∧ cs = cs.take off ++ l ++ cs.drop (off + n) := by
  unfold cut at h
  split at h
  · rename_i hl
    cases h
    refine ⟨hl, rfl, by simp; omega, ?_⟩
    rw [List.append_assoc, ← List.drop_drop, List.take_append_drop, List.take_append_drop]
  · cases h

def mkC : Bool → List Value → Value
  | true, l => .agg l.toArray
  | false, l => l.headD undef

theorem mk_rep {w : World} {G : Gh} {agg : Bool} {l : List V} {cs : List Value} {bl : List Nat} {v : V} (h : RepL w G l cs bl) (e : mk agg l = some v) : RepL w G [v] [mkC agg cs] bl := by
  unfold mk at e
  split at e
  · cases e; simpa [mkC] using RepL.agg h (RepL.nil (w := w) (G := G))
  · cases e; obtain ⟨c, rfl⟩ := h.single; exact h
  · cases e

theorem mk_repI {imm : Nat → Nat → Option Value} {agg : Bool} {l : List V} {cs : List Value} {v : V} (h : RepI imm l cs) (e : mk agg l = some v) (ha : agg = false) : RepI imm [v] [mkC agg cs] := by
  unfold mk at e
  split at e
  · cases ha
  · cases e; have := h.length
    match cs, this with
    | [c], _ => exact h
  · cases e

def aggOf (P : Program) (t : TypeId) : Bool := match P.underlying t with
  | some (.struct _) | some (.array _ _) => true
  | _ => false

section
variable {P : Program}
theorem run_isAgg {t : TypeId} {d : TypeDesc} (hu : P.underlying t = some d) (w : World) : (isAgg t).run P w = .ok (aggOf P t) w := by
  unfold isAgg aggOf
  simp only [Sem.run_bind, run_underlying hu, Result.andThen_ok, hu]
  cases d <;> rfl

theorem run_sizeOf {t : TypeId} {n : Nat} (hs : (P.info? t).map (·.size) = some n) (w : World) : (sizeOf t).run P w = .ok n w := by
  cases hi : P.info? t with
  | none => rw [hi] at hs; cases hs
  | some i => rw [hi] at hs; cases hs; simp [sizeOf, typeInfo, hi]

theorem run_loadVar {w : World} {t : TypeId} {d : TypeDesc} {n : Nat} (hu : P.underlying t = some d) (hs : (P.info? t).map (·.size) = some n) (a : Addr) (cs : List Value) (hl : cs.length = n)
    (hc : ∀ j v, cs[j]? = some v → w.cell? (a.add j) = some v) (hg : aggOf P t = false → n = 1) : (loadVar t a).run P w = .ok (mkC (aggOf P t) cs) w := by
  unfold loadVar
  simp only [Sem.run_bind, run_isAgg hu, Result.andThen_ok]
  cases hagg : aggOf P t with
  | true =>
    simp only [if_true, Sem.run_bind, run_sizeOf hs, Result.andThen_ok]
    rw [← hl, run_loadCells_list w a cs hc]; rfl
  | false =>
    have h1 := hg hagg
    subst h1
    match cs, hl with
    | [c], _ =>
      have := hc 0 c rfl
      rw [show a.add 0 = a from rfl] at this
      simp [this, mkC]
end

theorem cell_of_heap {w : World} {b off : Nat} {c : Array Value} {e : TypeId} {z : Nat × Nat} (hw : w.heap[b]? = some (.cells c e z)) {cs : List Value} (hc : ∀ j v, cs[j]? = some v → c[off + j]? = some v) :
    ∀ j v, cs[j]? = some v → w.cell? ((⟨b, off, none⟩ : Addr).add j) = some v := by
  intro j v hv
  have : (⟨b, off, none⟩ : Addr).add j = ⟨b, off + j, none⟩ := by unfold Addr.add; split <;> simp_all
  rw [this]
  simp only [World.cell?, hw]
  simpa using hc j v hv

/-- Parts of an object's cells, as they lie in memory. -/
theorem obj_part {w : World} {G : Gh} {cs l : List V} {c : Array Value} {bl : List Nat} {off n : Nat} (hr : RepL w G cs (c.toList.take cs.length) bl) (hle : cs.length ≤ c.size) (hc : cut cs off n = some l) :
    ∃ b1 b2 b3, bl = b1 ++ (b2 ++ b3) ∧ RepL w G (cs.take off) (c.toList.take off) b1 ∧ RepL w G l ((c.toList.drop off).take n) b2 ∧ RepL w G (cs.drop (off + n)) ((c.toList.take cs.length).drop (off + n)) b3 ∧
      ((c.toList.drop off).take n).length = n ∧ (∀ j v, ((c.toList.drop off).take n)[j]? = some v → c[off + j]? = some v) := by
  obtain ⟨h1, h2, h3, h4⟩ := cut_some hc
  have hcl : c.toList.length = c.size := Array.length_toList
  rw [h4, List.append_assoc] at hr
  obtain ⟨b1, b', e1, r1, r'⟩ := RepL.split _ hr
  obtain ⟨b2, b3, e2, r2, r3⟩ := RepL.split _ r'
  have hL : (cs.take off ++ (l ++ cs.drop (off + n))).length = cs.length := by rw [← List.append_assoc, ← h4]
  have ht : (cs.take off).length = off := by rw [List.length_take]; omega
  rw [hL, ht] at r1 r2 r3
  rw [h3] at r2 r3
  refine ⟨b1, b2, b3, by rw [e1, e2], ?_, ?_, ?_, ?_, ?_⟩
  · rw [List.take_take, Nat.min_eq_left (by omega)] at r1; exact r1
  · rw [List.drop_take, List.take_take, Nat.min_eq_left (by omega)] at r2; exact r2
  · rw [List.drop_drop] at r3; exact r3
  · rw [List.length_take, List.length_drop, hcl]; omega
  · intro j v hv
    rw [List.getElem?_take] at hv
    split at hv
    · rw [List.getElem?_drop, Array.getElem?_toList] at hv; exact hv
    · cases hv

end Go.Proofs.YtoaohapbbnpbeaaGreat.Vm
namespace Go.Proofs.YtoaohapbbnpbeaaGreat.Vm
open Go

/-- The operation is done, and left a value of which R holds. -/
def Done (r : Result Next) (R : Value → World → Prop) : Prop :=
  (∃ c w', r = .ok (.value c) w' ∧ R c w') ∨ ∃ w', r = .ok .skip w' ∧ R undef w'

def DoneV (r : Result Value) (R : Value → World → Prop) : Prop := ∃ c w', r = .ok c w' ∧ R c w'

theorem DoneV.ok {c : Value} {w' : World} {R : Value → World → Prop} (h : R c w') : DoneV (.ok c w') R := ⟨c, w', rfl, h⟩

section
variable {P : Program} {w : World} {G : Gh} {own : Nat → Option Place} {H : Heap}

theorem RepL.int_inv {k : IntKind} {n : Int} {vs : List V} {cs : List Value} {bl : List Nat} (h : RepL w G (.int k n :: vs) cs bl) : ∃ cs', cs = .int k n :: cs' ∧ RepL w G vs cs' bl := by
  cases h with
  | imm _ c h1 h => cases h1 with | int k n _ => exact ⟨_, rfl, h⟩
theorem RepL.bool_inv {b : Bool} {vs : List V} {cs : List Value} {bl : List Nat} (h : RepL w G (.bool b :: vs) cs bl) : ∃ cs', cs = .bool b :: cs' ∧ RepL w G vs cs' bl := by
  cases h with
  | imm _ c h1 h => cases h1 with | bool b _ => exact ⟨_, rfl, h⟩
theorem RepL.str_inv {s : List UInt8} {vs : List V} {cs : List Value} {bl : List Nat} (h : RepL w G (.str s :: vs) cs bl) : ∃ (b : ByteArray) (cs' : List Value), s = b.data.toList ∧ cs = .string b :: cs' ∧ RepL w G vs cs' bl := by
  cases h with
  | imm _ c h1 h => cases h1 with | str b _ => exact ⟨b, _, rfl, rfl, h⟩
theorem RepI.mkStr {imm : Nat → Nat → Option Value} (b : ByteArray) {s : List UInt8} (h : b.data.toList = s) : RepI imm [.str s] [.string b] := by
  rw [← h]; exact .str b .nil

theorem binInt_post (hok : Ok w G own H) {op : BinOp} {k : IntKind} {a b : Int} {v : V} (h : binInt op k a b = some v) (t : TypeId) (x y : Operand) :
    DoneV ((do eqGuard op t x y (.int k a) (.int k b); binOp op t (.int k a) (.int k b) : Sem Value).run P w) (Post w G own v H) := by
  have hg : (eqGuard op t x y (.int k a) (.int k b)).run P w = .ok () w := by
    unfold eqGuard; split <;> rfl
  rw [Sem.run_bind, hg, Result.andThen_ok]
  unfold binInt at h
  cases op <;> simp only [reduceCtorEq] at h <;> simp [binOp, Op.intArith, Op.intDiv, Op.intCmp]
  all_goals first
    | (cases h; exact .ok (post_plain hok (.int _ _ .nil)))
    | (cases h; exact .ok (post_plain hok (.bool _ .nil)))
    | (split at h
       · cases h
       · rename_i hb
         cases h
         rw [if_neg hb]
         exact .ok (post_plain hok (.int _ _ .nil)))

theorem binStr_post (hok : Ok w G own H) {op : BinOp} {a b : ByteArray} {v : V} (h : binStr op a.data.toList b.data.toList = some v) (t : TypeId) (x y : Operand) :
    DoneV ((do eqGuard op t x y (.string a) (.string b); binOp op t (.string a) (.string b) : Sem Value).run P w) (Post w G own v H) := by
  have hg : (eqGuard op t x y (.string a) (.string b)).run P w = .ok () w := by
    unfold eqGuard; split <;> rfl
  rw [Sem.run_bind, hg, Result.andThen_ok]
  unfold binStr at h
  have hs : ∀ c : ByteArray, c.data.toList.length = c.size := fun c => by rw [Array.length_toList]; rfl
  cases op <;> simp only [reduceCtorEq] at h <;> simp only [binOp, Op.stringOp, ByteArray.toList_eq, Sem.run_pure, Sem.run_ite]
  all_goals first
    | (cases h; exact .ok (post_plain hok (.bool _ .nil)))
    | (split at h
       · rename_i hb
         cases h
         rw [hs, hs] at hb
         have : IntKind.i64.max = 9223372036854775807 := by decide
         rw [if_neg (by rw [this]; omega)]
         exact .ok (post_plain hok (.mkStr _ (by simp)))
       · cases h)

theorem equal_bool {t : TypeId} (ht : P.underlying t = some .bool) (a b : Bool) : (Op.equal t (.bool a) (.bool b)).run P w = .ok (a == b) w := by
  have h : ∀ d, (Op.equalIn (d + 1) t (.bool a) (.bool b)).run P w = .ok (a == b) w := by
    intro d
    simp [Op.equalIn, run_underlying ht]
  exact h 9999

theorem eqBool_post (hok : Ok w G own H) {ne : Bool} {t : TypeId} (ht : P.underlying t = some .bool) (a b : Bool) (x y : Operand) :
    DoneV ((do eqGuard (if ne then .neq else .eql) t x y (.bool a) (.bool b); binOp (if ne then .neq else .eql) t (.bool a) (.bool b) : Sem Value).run P w) (Post w G own (.bool ((a == b) != ne)) H) := by
  have hg : ∀ op, (eqGuard op t x y (.bool a) (.bool b)).run P w = .ok () w := by
    intro op; unfold eqGuard; split <;> rfl
  rw [Sem.run_bind, hg, Result.andThen_ok]
  cases ne <;> simp [binOp, equal_bool ht] <;> exact .ok (post_plain hok (.bool _ .nil))

theorem neg_post (hok : Ok w G own H) (k : IntKind) (n : Int) : DoneV ((Op.unary .neg (.int k n)).run P w) (Post w G own (.int k (k.wrap (0 - n))) H) := by
  simp [Op.unary, Op.intArith]; exact .ok (post_plain hok (.int _ _ .nil))
theorem not_post (hok : Ok w G own H) (b : Bool) : DoneV ((Op.unary .not (.bool b)).run P w) (Post w G own (.bool !b) H) := by
  simp [Op.unary]; exact .ok (post_plain hok (.bool _ .nil))

theorem conv_post (hok : Ok w G own H) {s d : TypeId} {k : IntKind} {ds : TypeDesc} (hs : P.underlying s = some ds) (hd : P.underlying d = some (.int k)) (j : IntKind) (n : Int) :
    DoneV ((convert s d (.int j n)).run P w) (Post w G own (.int k (k.wrap n)) H) := by
  simp [convert, run_underlying hs, run_underlying hd, Conv.intToInt]; exact .ok (post_plain hok (.int _ _ .nil))

theorem same_post (hok : Ok w G own H) {s d : TypeId} {ds : TypeDesc} (hs : P.underlying s = some ds) (hd : P.underlying d = some .string) (b : ByteArray) :
    DoneV ((convert s d (.string b)).run P w) (Post w G own (.str b.data.toList) H) := by
  simp [convert, run_underlying hs, run_underlying hd]
  exact .ok (post_plain hok (.str _ .nil))

def isNilC : Value → Bool
  | .pointer none | .map none | .slice none _ _ | .nilFunc => true
  | _ => false

theorem nil_eq {t : TypeId} (c n : Value)
    (h : (∃ e, P.underlying t = some (.pointer e) ∧ n = .pointer none ∧ ∃ a, c = .pointer a) ∨ (∃ k e, P.underlying t = some (.map k e) ∧ n = .map none ∧ ∃ a, c = .map a) ∨
      (∃ e, P.underlying t = some (.slice e) ∧ n = .slice none 0 0 ∧ ∃ a l k, c = .slice a l k) ∨ (∃ a b v, P.underlying t = some (.func a b v) ∧ n = .nilFunc ∧ (c = .nilFunc ∨ ∃ f x y, c = .func f x y))) :
    (Op.equal t c n).run P w = .ok (isNilC c) w := by
  have hd : ∀ d, (Op.equalIn (d + 1) t c n).run P w = .ok (isNilC c) w := by
    intro d
    rcases h with ⟨e, ht, rfl, a, rfl⟩ | ⟨k, e, ht, rfl, a, rfl⟩ | ⟨e, ht, rfl, a, l, k, rfl⟩ | ⟨a, b, v, ht, rfl, h⟩
    · cases a <;> simp [Op.equalIn, run_underlying ht, isNilC]
    · cases a <;> simp [Op.equalIn, run_underlying ht, isNilC]
    · cases a <;> simp [Op.equalIn, run_underlying ht, isNilC]
    · rcases h with rfl | ⟨f, x, y, rfl⟩ <;> simp [Op.equalIn, run_underlying ht, isNilC]
  exact hd 9999

def nilFits (P : Program) (t : TypeId) : Value → Bool
  | .pointer none => (match P.underlying t with | some (.pointer _) => true | _ => false)
  | .map none => (match P.underlying t with | some (.map _ _) => true | _ => false)
  | .slice none 0 0 => (match P.underlying t with | some (.slice _) => true | _ => false)
  | .nilFunc => (match P.underlying t with | some (.func _ _ _) => true | _ => false)
  | _ => false

end
end Go.Proofs.YtoaohapbbnpbeaaGreat.Vm
namespace Go.Proofs.YtoaohapbbnpbeaaGreat.Vm
open Go

section
variable {P : Program} {w : World} {G : Gh} {own : Nat → Option Place} {H : Heap}

theorem add_none (b off n : Nat) : (⟨b, off, none⟩ : Addr).add n = ⟨b, off + n, none⟩ := by unfold Addr.add; split <;> simp_all
theorem add_off (a : Addr) (n : Nat) : (a.add n).off = a.off + n ∧ (a.add n).block = a.block := by
  unfold Addr.add; split
  · subst_vars; exact ⟨rfl, rfl⟩
  · exact ⟨rfl, rfl⟩
theorem ImmAt.drop {imm : Nat → Nat → Option Value} {a : Addr} {cs : List Value} (h : ImmAt imm a cs) (n : Nat) : ImmAt imm (a.add n) (cs.drop n) := by
  refine ⟨fun hne => ?_, fun i v hv => ?_⟩
  · have := h.1 (by intro e; rw [e] at hne; simp at hne)
    unfold Addr.add; split
    · exact this
    · rfl
  · rw [List.getElem?_drop] at hv
    have := h.2 _ v hv
    rw [(add_off a n).1, (add_off a n).2]
    rw [← Nat.add_assoc] at this; exact this
theorem ImmAt.take {imm : Nat → Nat → Option Value} {a : Addr} {cs : List Value} (h : ImmAt imm a cs) (n : Nat) : ImmAt imm a (cs.take n) := by
  refine ⟨fun hne => h.1 (by intro e; rw [e] at hne; simp at hne), fun i v hv => ?_⟩
  rw [List.getElem?_take] at hv
  split at hv
  · exact h.2 i v hv
  · cases hv

theorem RepL.ptr_inv {id ver off : Nat} {vs : List V} {cs : List Value} {bl : List Nat} (h : RepL w G (.ptr id ver off :: vs) cs bl) :
    ∃ b ver' n bb cs', cs = .pointer (some ⟨bb, off, none⟩) :: cs' ∧ G.loc[id]? = some (b, ver', n) ∧ ver ≤ ver' ∧ (ver = ver' → bb = b) ∧ RepL w G vs cs' bl := by
  cases h with
  | imm _ c h1 h => cases h1
  | ptr id ver off b ver' n bb hl hv hb h => exact ⟨b, ver', n, bb, _, rfl, hl, hv, hb, h⟩
theorem RepL.hsl_inv {id ver off len sz : Nat} {vs : List V} {cs : List Value} {bl : List Nat} (h : RepL w G (.hsl id ver off len sz :: vs) cs bl) :
    ∃ b ver' n bb cap cs', cs = .slice (some ⟨bb, off, none⟩) len cap :: cs' ∧ G.loc[id]? = some (b, ver', n) ∧ ver ≤ ver' ∧ len ≤ cap ∧ (ver = ver' → bb = b ∧ off + cap * sz ≤ n) ∧ RepL w G vs cs' bl := by
  cases h with
  | imm _ c h1 h => cases h1
  | hsl id ver off len sz b ver' n bb cap hl hv hc hb h => exact ⟨b, ver', n, bb, cap, _, rfl, hl, hv, hc, hb, h⟩
theorem RepL.cptr_inv {ws : List V} {vs : List V} {cs : List Value} {bl : List Nat} (h : RepL w G (.cptr ws :: vs) cs bl) :
    ∃ a acs cs', cs = .pointer (some a) :: cs' ∧ ImmAt G.imm a acs ∧ RepI G.imm ws acs ∧ RepL w G vs cs' bl := by
  cases h with
  | imm _ c h1 h => cases h1 with | cptr a ha hr _ => exact ⟨a, _, _, rfl, ha, hr, h⟩

/-- A list, owned or not. -/
theorem RepL.sl_inv {own : Bool} {sz : Nat} {xs : List (List V)} {vs : List V} {cs : List Value} {bl : List Nat} (h : RepL w G (.sl own sz xs :: vs) cs bl) :
    ∃ c cs' b1 b2, cs = c :: cs' ∧ bl = b1 ++ b2 ∧ RepL w G vs cs' b2 ∧ RepL w G [.sl own sz xs] [c] b1 ∧
      ((c = .slice none 0 0 ∧ xs = []) ∨ ∃ a cap acs, c = .slice (some a) xs.length cap ∧ xs.length ≤ cap ∧ ImmAt G.imm a acs ∧ RepI G.imm xs.flatten acs ∧ ∀ x ∈ xs, x.length = sz) := by
  have hw := h.cons_inv
  obtain ⟨c, cs', b1, b2, rfl, rfl, h1, h2⟩ := hw
  refine ⟨c, cs', b1, b2, rfl, rfl, h2, h1, ?_⟩
  cases h1 with
  | imm _ c h1 h => cases h1 with
    | slnil sz _ => exact .inl ⟨rfl, rfl⟩
    | sl sz xs a cap hz ha hr hc _ => exact .inr ⟨a, cap, _, rfl, hc, ha, hr, hz⟩
  | full sz xs a hz ha hr _ => exact .inr ⟨a, _, _, rfl, Nat.le_refl _, ha, hr, hz⟩
  | slnone sz _ => exact .inl ⟨rfl, rfl⟩
  | tail sz xs a cap hz ha hr hc ht _ => exact .inr ⟨a, cap, _, rfl, hc, ha, hr, hz⟩

theorem obj_live (hok : Ok w G own H) {id ver : Nat} {cs : List V} (h : getCells H id ver = some cs) {b ver' n : Nat} (hl : G.loc[id]? = some (b, ver', n)) (hv : ver ≤ ver') :
    ver = ver' ∧ ∃ c e bl, n = c.size ∧ own b = some (.obj id) ∧ w.heap[b]? = some (.cells c e (0, 0)) ∧ (∀ o, G.imm b o = none) ∧
      cs.length ≤ c.size ∧ RepL w G cs (c.toList.take cs.length) bl ∧ bl.Nodup ∧ ∀ b' ∈ bl, own b' = some (.cell id) := by
  obtain ⟨b2, c, e, bl, h1, h2, h3, h4, h5, h6, h7, h8⟩ := hok.obj _ _ (getCells_some h)
  rw [hl] at h1
  cases h1
  exact ⟨rfl, c, e, bl, rfl, h2, h3, h4, h5, h6, h7, h8⟩

theorem load_ptr_post (hok : Ok w G own H) {t : TypeId} {d : TypeDesc} {n : Nat} (hu : P.underlying t = some d) (hs : (P.info? t).map (·.size) = some n) (hg : aggOf P t = false → n = 1)
    {id ver off : Nat} {c : Value} {bl : List Nat} (hr : RepL w G [.ptr id ver off] [c] bl) {cs l : List V} {v : V} (hc : getCells H id ver = some cs) (hcut : cut cs off n = some l) (hm : mk (aggOf P t) (l.map strip0) = some v) :
    DoneV ((Instr.loadAt t c).run P w) (Post w G own v H) := by
  obtain ⟨b, ver', n', bb, _, hcs, hl, hv, hb, _⟩ := hr.ptr_inv
  cases hcs
  obtain ⟨hve, c, e, bl, _, h2, h3, h4, h5, h6, h7, h8⟩ := obj_live hok hc hl hv
  rw [hb hve]
  obtain ⟨b1, b2, b3, _, _, r2, _, hl2, hcell⟩ := obj_part h6 h5 hcut
  have hrun := run_loadVar (P := P) (w := w) hu hs ⟨b, off, none⟩ _ hl2 (cell_of_heap h3 hcell) hg
  refine ⟨_, w, ?_, post_same hok (mk_rep r2.strips0 hm)⟩
  simp [Instr.loadAt, Instr.sureAddr, hrun]

theorem load_cptr_post (hok : Ok w G own H) {t : TypeId} {d : TypeDesc} {n : Nat} (hu : P.underlying t = some d) (hs : (P.info? t).map (·.size) = some n) (hg : aggOf P t = false → n = 1)
    {cs l : List V} {c : Value} {bl : List Nat} (hr : RepL w G [.cptr cs] [c] bl) {v : V} (hcut : cut cs 0 n = some l) (hm : mk (aggOf P t) l = some v) :
    DoneV ((Instr.loadAt t c).run P w) (Post w G own v H) := by
  obtain ⟨a, acs, _, hcs, ha, hri, _⟩ := hr.cptr_inv
  cases hcs
  obtain ⟨h1, h2, h3, _⟩ := cut_some hcut
  have hl : l = cs.take n := by rw [h2, List.drop_zero]
  have hlen : (acs.take n).length = n := by rw [List.length_take, ← hri.length]; omega
  have hrun := run_loadVar (P := P) (w := w) hu hs a (acs.take n) hlen ((ha.take n).cells hok) hg
  refine ⟨_, w, ?_, post_same hok (mk_rep (RepI.toL (by rw [hl]; exact hri.take n)) hm)⟩
  simp [Instr.loadAt, Instr.sureAddr, hrun]

theorem loadT_post (hok : Ok w G own H) {t : TypeId} {d : TypeDesc} {n : Nat} (hu : P.underlying t = some d) (hs : (P.info? t).map (·.size) = some n) (hg : aggOf P t = false → n = 1)
    {id ver off : Nat} {c : Value} {bl : List Nat} (hr : RepL w G [.ptr id ver off] [c] bl) {cs l : List V} {v : V} (hc : getCells H id ver = some cs) (hcut : cut cs off n = some l) (hm : mk (aggOf P t) l = some v) :
    DoneV ((Instr.loadAt t c).run P w) (Post w G own v (H.set id (.cells ver (put cs off (l.map strip0))))) := by
  obtain ⟨b, ver', n', bb, _, hcs, hl, hv, hb, _⟩ := hr.ptr_inv
  cases hcs
  obtain ⟨hve, c, e, bl, hn', h2, h3, h4, h5, h6, h7, h8⟩ := obj_live hok hc hl hv
  subst hn'
  rw [hb hve]
  subst hve
  obtain ⟨b1, b2, b3, hbl, r1, r2, r3, hl2, hcell⟩ := obj_part h6 h5 hcut
  have hrun := run_loadVar (P := P) (w := w) hu hs ⟨b, off, none⟩ _ hl2 (cell_of_heap h3 hcell) hg
  obtain ⟨k1, k2, k3, k4⟩ := cut_some hcut
  have hcl : c.toList.length = c.size := Array.length_toList
  have hput : (put cs off (l.map strip0)).length = cs.length := by
    unfold put; simp [k3]; omega
  have hcells : c.toList.take (put cs off (l.map strip0)).length = c.toList.take off ++ ((c.toList.drop off).take n ++ (c.toList.take cs.length).drop (off + n)) := by
    rw [hput, List.drop_take, ← List.append_assoc]
    have : c.toList.take off ++ (c.toList.drop off).take n = c.toList.take (off + n) := by rw [List.take_add]
    rw [this, ← List.take_add]
    congr 1; omega
  have hrep : RepL w G (put cs off (l.map strip0)) (c.toList.take (put cs off (l.map strip0)).length) (b1 ++ ([] ++ b3)) := by
    rw [hcells]
    unfold put
    rw [List.append_assoc]
    refine RepL.append (RepL.append (by rw [List.length_map, k3]; exact r3) r2.strips0) r1
  have hnd : bl.Nodup := h7
  rw [hbl] at hnd h8
  have hnd1 := List.nodup_append.1 hnd
  have hnd2 := List.nodup_append.1 hnd1.2.1
  obtain ⟨own', hok', hext, hres⟩ := hok.put (vs := cs) (c' := c) (blr := b2) hl h2 h3 h4 rfl (by rw [hput]; exact h5) hrep
    (by
      rw [List.nil_append]
      exact List.nodup_append.2 ⟨hnd1.1, hnd2.2.1, fun x hx y hy => hnd1.2.2 x hx y (List.mem_append_right _ hy)⟩)
    (fun x hx => .inr (h8 x (by
      rcases List.mem_append.1 hx with hx | hx
      · exact List.mem_append_left _ hx
      · exact List.mem_append_right _ (List.mem_append_right _ (by simpa using hx)))))
    (fun x hx => h8 x (List.mem_append_right _ (List.mem_append_left _ hx)))
    (fun x hx hx' => by
      rcases List.mem_append.1 hx' with hx' | hx'
      · exact hnd1.2.2 x hx' x (List.mem_append_left _ hx) rfl
      · exact hnd2.2.2 x hx x (by simpa using hx') rfl)
  rw [setRow_self w b c e (0, 0) h3] at hok' hext
  refine ⟨_, w, ?_, G, own', b2, hok', mk_rep r2 hm, hnd2.1, hres, hext⟩
  simp [Instr.loadAt, Instr.sureAddr, hrun]

end
end Go.Proofs.YtoaohapbbnpbeaaGreat.Vm
namespace Go.Proofs.YtoaohapbbnpbeaaGreat.Vm
open Go

section
variable {P : Program} {w : World} {G : Gh} {own : Nat → Option Place} {H : Heap}

theorem RepL.one1 {v : V} {c : Value} {bl : List Nat} (h : RepL w G [v] [c] bl) (hs : scal0 v = true) : c.oneCell' = true := by
  cases h with
  | imm _ c h1 _ => exact h1.one c (by simp)
  | u c _ => cases hs
  | agg _ _ => cases hs
  | tup _ _ => cases hs
  | _ => rfl

theorem RepL.ones : ∀ {vs : List V} {cs : List Value} {bl : List Nat}, RepL w G vs cs bl → vs.all scal0 = true → ∀ c ∈ cs, c.oneCell' = true
  | [], cs, bl, h, _ => by rw [h.nil_inv.1]; intro c hc; cases hc
  | v :: vs, cs, bl, h, hs => by
    obtain ⟨c, cs, b1, b2, rfl, rfl, h1, h⟩ := h.cons_inv
    simp only [List.all_cons, Bool.and_eq_true] at hs
    intro x hx
    rcases List.mem_cons.1 hx with rfl | hx
    · exact h1.one1 hs.1
    · exact RepL.ones h hs.2 x hx

theorem one_cells {c : Value} (h : c.oneCell' = true) : c.cells = #[c] := by cases c <;> first | rfl | cases h

theorem solid_cells {v : V} {c : Value} {bl : List Nat} (h : RepL w G [v] [c] bl) (hs : solid v = true) : RepL w G v.cells c.cells.toList bl := by
  have hcase : ∀ (hv : scal0 v = true) (hc : v.cells = [v]), RepL w G v.cells c.cells.toList bl := by
    intro hv hc
    rw [hc, one_cells (h.one1 hv)]; exact h
  cases h with
  | agg hr e => cases e; simpa [V.cells, Value.cells] using hr
  | u c _ => cases hs
  | tup _ _ => cases hs
  | imm _ c h1 e => cases h1 <;> exact hcase rfl rfl
  | _ => exact hcase rfl rfl

theorem thaw_one (hok : Ok w G own H) {sz : Nat} {xs : List (List V)} {c : Value} {bl : List Nat} (hr : RepL w G [.fr sz xs] [c] bl) (ha : ∀ b ∈ bl, own b = some .arg) :
    ∃ G' own', Ok w G' own' (H ++ [.cells 0 xs.flatten]) ∧ RepL w G' [.hsl H.length 0 0 xs.length sz] [c] [] ∧ Ext w G own w G' own' ∧ G'.imm = G.imm ∧ ∀ b, b ∉ bl → own' b = own b := by
  cases hr with
  | imm _ c h1 _ => cases h1
  | fr sz xs b cap c e hz hw hn hp hri hc hs _ =>
    have hown : own b = some .arg := ha b (by simp)
    obtain ⟨rest, hp⟩ := hp
    have hloc : (G.loc ++ [(b, 0, c.size)])[H.length]? = some (b, 0, c.size) := by rw [hok.len]; simp
    refine ⟨⟨G.imm, G.loc ++ [(b, 0, c.size)]⟩, setO own b (some (.obj H.length)), ⟨hok.imm, ?_, by simp [hok.len], ?_⟩, ?_, ?_, rfl, ?_⟩
    · intro x p hx
      by_cases hb : x = b
      · subst hb; exact hok.size _ _ hown
      · rw [setO_ne _ _ hb] at hx; exact hok.size _ _ hx
    · intro i ob hob
      rcases Nat.lt_or_ge i H.length with hlt | hge
      · rw [List.getElem?_append_left hlt] at hob
        refine ObjOk.mono (G := G) (G' := ⟨G.imm, G.loc ++ [(b, 0, c.size)]⟩) (hok.obj i ob hob) (fun _ _ _ h => h) (loc_append G _) ?_ ?_
        · exact List.getElem?_append_left (by rw [← hok.len]; exact hlt)
        · intro x hx
          refine ⟨rfl, fun _ => rfl, setO_ne _ _ ?_⟩
          intro e; rw [e, hown] at hx; rcases hx with hx | hx <;> cases hx
      · have : i = H.length := by
          rcases Nat.lt_or_ge H.length i with h' | h'
          · rw [List.getElem?_eq_none (by simp; omega)] at hob; cases hob
          · omega
        subst this
        simp at hob; subst hob
        have hl := hri.length
        have hcl : c.toList.length = c.size := Array.length_toList
        refine ⟨b, c, e, [], hloc, setO_same _ _ _, hw, hn, ?_, ?_, List.nodup_nil, fun _ h => by cases h⟩
        · rw [← hcl, hp, List.length_append, hl]; omega
        · rw [hp, hl, List.take_left]
          exact RepI.toL (G := ⟨G.imm, G.loc ++ [(b, 0, c.size)]⟩) hri
    · exact .hsl H.length 0 0 xs.length sz b 0 c.size b cap hloc (Nat.le_refl _) hc (fun _ => ⟨rfl, by omega⟩) .nil
    · refine ⟨Nat.le_refl _, fun _ _ _ h => h, loc_append G _, fun x hx => ⟨rfl, fun _ => rfl, ?_⟩, rfl, rfl, rfl⟩
      rw [setO_ne]; exact hx
      intro e; rw [e, hown] at hx; cases hx
    · intro x hx; exact setO_ne _ _ (fun e => hx (by rw [e]; exact List.mem_cons_self ..))

/-- A fresh list that is answered is laid down. -/
theorem Post.thaw {w' : World} {sz : Nat} {ys : List (List V)} {c : Value} (h : Post w G own (.fr sz ys) H c w') : Post w G own (.hsl H.length 0 0 ys.length sz) (H ++ [.cells 0 ys.flatten]) c w' := by
  obtain ⟨G', own', bl, k1, k2, _, k4, k5⟩ := h
  let ow : Nat → Option Place := fun b => if own' b = some .res then some .arg else own' b
  have hok : Ok w' G' ow H := by
    refine k1.relabel (fun b i hb => ?_) fun b p hp => ?_
    · simp only [ow]; rw [if_neg (by rcases hb with hb | hb <;> rw [hb] <;> simp)]
    · simp only [ow] at hp
      split at hp
      · rename_i hr; exact ⟨_, hr⟩
      · exact ⟨p, hp⟩
  obtain ⟨G2, own2, q1, q2, q3, _, _⟩ := thaw_one hok k2 fun b hb => by simp only [ow]; rw [if_pos (k4 b hb)]
  refine ⟨G2, own2, [], q1, q2, List.nodup_nil, (fun _ hb => by cases hb), k5.trans ⟨q3.size, q3.imm, q3.loc, fun b hb => q3.fixed b ?_, q3.tape, q3.os, q3.out⟩⟩
  simp only [ow]; rw [if_neg (by rw [hb]; simp)]; exact hb
theorem thawL_keeps : ∀ (vs : List V) (H : Heap) (i : Nat), i < H.length → (thawL vs H).2[i]? = H[i]? ∧ H.length ≤ (thawL vs H).2.length
  | [], H, i, h => ⟨rfl, Nat.le_refl _⟩
  | v :: vs, H, i, h => by
    have k := thawL_keeps vs H i h
    cases v
    case fr sz xs =>
      have k := thawL_keeps vs (H ++ [.cells 0 xs.flatten]) i (by simp; omega)
      refine ⟨?_, ?_⟩
      · show (thawL vs (H ++ [.cells 0 xs.flatten])).2[i]? = H[i]?
        rw [k.1, List.getElem?_append_left h]
      · have := k.2; simp at this
        show H.length ≤ (thawL vs (H ++ [.cells 0 xs.flatten])).2.length
        omega
    all_goals exact k

theorem thaw_list : ∀ {vs : List V} {G : Gh} {own : Nat → Option Place} {H : Heap} {cs : List Value} {bl : List Nat}, Ok w G own H → RepL w G vs cs bl → bl.Nodup → (∀ b ∈ bl, own b = some .arg) →
    ∃ G' own' bl', Ok w G' own' (thawL vs H).2 ∧ RepL w G' (thawL vs H).1 cs bl' ∧ bl'.Nodup ∧ (∀ b ∈ bl', own' b = some .arg) ∧ Ext w G own w G' own' ∧ G'.imm = G.imm ∧ (∀ b, b ∉ bl → own' b = own b) ∧ ∀ b ∈ bl', b ∈ bl
  | [], G, own, H, cs, bl, hok, hr, hn, ha => by
    obtain ⟨rfl, rfl⟩ := hr.nil_inv
    exact ⟨G, own, [], hok, .nil, hn, ha, Ext.refl .., rfl, fun _ _ => rfl, fun _ h => h⟩
  | v :: vs, G, own, H, cs, bl, hok, hr, hn, ha => by
    obtain ⟨c, cs, b1, b2, rfl, rfl, h1, h2⟩ := hr.cons_inv
    obtain ⟨n1, n2, n3⟩ := List.nodup_append.1 hn
    have plain : (thawL (v :: vs) H = (v :: (thawL vs H).1, (thawL vs H).2)) → ∃ G' own' bl', Ok w G' own' (thawL (v :: vs) H).2 ∧ RepL w G' (thawL (v :: vs) H).1 (c :: cs) bl' ∧ bl'.Nodup ∧ (∀ b ∈ bl', own' b = some .arg) ∧ Ext w G own w G' own' ∧ G'.imm = G.imm ∧ (∀ b, b ∉ b1 ++ b2 → own' b = own b) ∧ ∀ b ∈ bl', b ∈ b1 ++ b2 := by
      intro e
      obtain ⟨G', own', bl', k1, k2, k3, k4, k5, k6, k7, k8⟩ := thaw_list hok h2 n2 (fun b hb => ha b (List.mem_append_right _ hb))
      rw [e]
      have hd : ∀ b ∈ b1, b ∉ b2 := fun b hb hb' => n3 b hb b hb' rfl
      refine ⟨G', own', b1 ++ bl', k1, ?_, List.nodup_append.2 ⟨n1, k3, fun x hx y hy => n3 x hx y (k8 y hy)⟩, ?_, k5, k6, ?_, ?_⟩
      · refine RepL.cons (h1.mono k5.imm k5.loc fun b hb => ⟨rfl, fun o => by rw [k6]⟩) k2
      · intro b hb
        rcases List.mem_append.1 hb with hb | hb
        · rw [k7 b (hd b hb)]; exact ha b (List.mem_append_left _ hb)
        · exact k4 b hb
      · intro b hb; exact k7 b fun h => hb (List.mem_append_right _ h)
      · intro b hb
        rcases List.mem_append.1 hb with hb | hb
        · exact List.mem_append_left _ hb
        · exact List.mem_append_right _ (k8 b hb)
    cases v
    case fr sz xs =>
      obtain ⟨G1, own1, j1, j2, j3, j4, j5⟩ := thaw_one hok h1 (fun b hb => ha b (List.mem_append_left _ hb))
      have hd : ∀ b ∈ b2, b ∉ b1 := fun b hb hb' => n3 b hb' b hb rfl
      obtain ⟨G', own', bl', k1, k2, k3, k4, k5, k6, k7, k8⟩ := thaw_list j1 (h2.mono j3.imm j3.loc fun b hb => ⟨rfl, fun o => by rw [j4]⟩) n2
        (fun b hb => by rw [j5 b (hd b hb)]; exact ha b (List.mem_append_right _ hb))
      refine ⟨G', own', bl', k1, ?_, k3, k4, j3.trans k5, k6.trans j4, ?_, ?_⟩
      · have := RepL.cons (j2.mono k5.imm k5.loc fun b hb => by cases hb) k2
        exact this
      · intro b hb
        rw [k7 b fun h => hb (List.mem_append_right _ h)]
        exact j5 b fun h => hb (List.mem_append_left _ h)
      · intro b hb; exact List.mem_append_right _ (k8 b hb)
    all_goals exact plain rfl

theorem Post.pre {G1 : Gh} {own1 : Nat → Option Place} {v : V} {H' : Heap} {c : Value} {w' : World} (h : Ext w G own w G1 own1) (hp : Post w G1 own1 v H' c w') : Post w G own v H' c w' := by
  obtain ⟨G', own', bl, h1, h2, h3, h4, h5⟩ := hp
  exact ⟨G', own', bl, h1, h2, h3, h4, h.trans h5⟩

theorem thaw_post (hok : Ok w G own H) {sz : Nat} {xs : List (List V)} {c : Value} {bl : List Nat} (hr : RepL w G [.fr sz xs] [c] bl) (ha : ∀ b ∈ bl, own b = some .arg) :
    Post w G own (.hsl H.length 0 0 xs.length sz) (H ++ [.cells 0 xs.flatten]) c w := by
  obtain ⟨G', own', h1, h2, h3, _, _⟩ := thaw_one hok hr ha
  exact ⟨G', own', [], h1, h2, List.nodup_nil, (fun _ h => by cases h), h3⟩

theorem box_post (hok : Ok w G own H) {t : TypeId} {v : V} {c : Value} {bl : List Nat} (hr : RepL w G [v] [c] bl) (hn : bl.Nodup) (ha : ∀ b ∈ bl, own b = some .arg) (hs : solid v = true) :
    DoneV ((Instr.box t c).run P w) (Post w G own (.ptr (thawL v.cells H).2.length 0 0) ((thawL v.cells H).2 ++ [.cells 0 (thawL v.cells H).1])) := by
  obtain ⟨G', own', bl', k1, k2, k3, k4, k5, _, _, _⟩ := thaw_list hok (solid_cells hr hs) hn ha
  refine ⟨.pointer (some ⟨w.heap.size, 0, none⟩), { w with heap := w.heap.push (.cells c.cells t) }, ?_, Post.pre k5 (post_obj k1 (cs := c.cells.toList) (t := t) (by simp) rfl rfl rfl k2 k3 k4)⟩
  simp [Instr.box, newVar, newRow]

theorem boxB_post (hok : Ok w G own H) {t : TypeId} {e : Nat} {c : Value} {bl : List Nat} (hr : RepL w G [.agg [.nilp, .nilh 1]] [c] bl) (hn : bl.Nodup) (ha : ∀ b ∈ bl, own b = some .arg) :
    DoneV ((Instr.box t c).run P w) (Post w G own (.ptr H.length 0 0) (H ++ [.bld t e false []])) := by
  obtain ⟨cv, w', h1, G', own', bl', k1, k2, k3, k4, k5⟩ := box_post (P := P) hok (t := t) hr hn ha rfl
  have hc : c.cells = #[.pointer none, .slice none 0 0] := by
    cases hr with
    | imm _ _ hi h => cases hi
    | agg hr h =>
      rename_i acs b1 b2
      cases hr with
      | imm _ _ hi hr =>
        cases hi
        cases hr with
        | imm _ _ hi hr => cases hi
        | nilh _ hr =>
          cases hr
          rfl
  have hrun : (Instr.box t c).run P w = .ok (.pointer (some ⟨w.heap.size, 0, none⟩)) { w with heap := w.heap.push (.cells c.cells t) } := by simp [Instr.box, newVar, newRow]
  rw [hrun] at h1
  cases h1
  refine ⟨_, _, hrun, G', own', bl', ?_, k2, k3, k4, k5⟩
  have hth : (thawL (V.cells (.agg [.nilp, .nilh 1])) H).2 = H := rfl
  have hth1 : (thawL (V.cells (.agg [.nilp, .nilh 1])) H).1 = [.nilp, .nilh 1] := rfl
  rw [hth, hth1] at k1
  rw [hth] at k2
  refine ⟨k1.imm, k1.size, by have := k1.len; simpa using this, fun i ob hi => ?_⟩
  rcases Nat.lt_or_ge i H.length with hlt | hge
  · exact k1.obj i ob (by rw [List.getElem?_append_left hlt] at hi ⊢; exact hi)
  · have hie : i = H.length := by
      have := (List.getElem?_eq_some_iff.1 hi).1
      simp at this; omega
    subst hie
    rw [List.getElem?_append_right (Nat.le_refl _), Nat.sub_self] at hi
    cases hi
    obtain ⟨b, c2, e2, bl2, q1, q2, q3, q4, q5, q6, q7, q8⟩ := k1.obj H.length (.cells 0 [.nilp, .nilh 1]) (by rw [List.getElem?_append_right (Nat.le_refl _), Nat.sub_self]; rfl)
    have hb : w.heap.size = b := by
      cases k2 with
      | imm _ _ hi h => cases hi
      | ptr id ver off b' ver' n bb hl hv hb h =>
        rw [q1] at hl
        cases hl
        exact hb rfl
    subst hb
    have q3' : ({ w with heap := w.heap.push (.cells c.cells t) } : World).heap[w.heap.size]? = some (.cells c.cells t (0, 0)) := by simp
    rw [q3'] at q3
    cases q3
    rw [hc] at q1 ⊢
    rw [hc] at q3'
    exact ⟨w.heap.size, .pointer none, .slice none 0 0, q1, q2, q3', q4, .inl rfl, .inl ⟨rfl, rfl⟩⟩
theorem alloc_post (hok : Ok w G own H) {t : TypeId} {zs : List V} {z : Value} {i : TypeInfo} (hi : P.info? t = some i) (hz : i.zero = some z) (hr : RepI G.imm zs z.cells.toList) (o : Value) :
    DoneV ((Instr.alloc t true o).run P w) (Post w G own (.ptr H.length 0 0) (H ++ [.cells 0 zs])) := by
  refine ⟨.pointer (some ⟨w.heap.size, 0, none⟩), { w with heap := w.heap.push (.cells z.cells t) }, ?_, post_obj hok (cs := z.cells.toList) (t := t) (by simp) rfl rfl rfl (RepI.toL hr) List.nodup_nil (fun _ h => by cases h)⟩
  simp [Instr.alloc, zeroValue, typeInfo, hi, hz, newVar, newRow]

theorem getCells_of {id ver : Nat} {cs : List V} (h : H[id]? = some (.cells ver cs)) : getCells H id ver = some cs := by simp [getCells, h]

theorem store_post (hok : Ok w G own H) {t : TypeId} {n : Nat} (hs : (P.info? t).map (·.size) = some n) {id ver off : Nat} {v : V} {ca cv : Value} {bl : List Nat} (hr : RepL w G [.ptr id ver off, v] [ca, cv] bl)
    (hn : bl.Nodup) (ha : ∀ b ∈ bl, own b = some .arg) (hsol : solid v = true) (hsc : v.cells.all scal0 = true) {cs : List V} (hc : getCells H id ver = some cs) (hvl : v.cells.length = n) (hoff : off + n ≤ cs.length) :
    ∃ w', (Instr.storeAt t ca cv).run P w = .ok () w' ∧ Post w G own (.tup []) ((thawL v.cells H).2.set id (.cells ver (put cs off (thawL v.cells H).1))) undef w' := by
  obtain ⟨b, ver', n', bb, cs', hcs, hl, hv, hb, hr2⟩ := hr.ptr_inv
  cases hcs
  have hsc2 := solid_cells hr2 hsol
  have hones := hsc2.ones hsc
  have hclen := hsc2.length
  have hid : id < H.length := by
    have := getCells_some hc
    rcases Nat.lt_or_ge id H.length with h | h
    · exact h
    · rw [List.getElem?_eq_none h] at this; cases this
  obtain ⟨G1, own1, bl1, k1, k2, k3, k4, k5, k6, k7, k8⟩ := thaw_list hok hsc2 hn ha
  have hkeep := thawL_keeps v.cells H id hid
  have hc1 : getCells (thawL v.cells H).2 id ver = some cs := getCells_of (by rw [hkeep.1]; exact getCells_some hc)
  obtain ⟨b', v', n'', e', le', q⟩ := k5.loc _ _ _ _ hl
  obtain ⟨hve0, _⟩ := obj_live hok hc hl hv
  obtain ⟨hve, c, e, blo, hn', h2, h3, h4, h5, h6, h7, h8⟩ := obj_live k1 hc1 e' (by omega)
  have hq := q (by omega)
  obtain ⟨rfl, rfl⟩ := hq
  subst hn'
  have hvv : ver = ver' := hve0
  subst hvv
  subst hve
  rw [hb rfl]
  have hcut : cut cs off n = some ((cs.drop off).take n) := by unfold cut; rw [if_pos hoff]
  obtain ⟨b1, b2, b3, hbl, r1, r2, r3, hl2, hcell⟩ := obj_part h6 h5 hcut
  have hcl : c.toList.length = c.size := Array.length_toList
  have htl : (thawL v.cells H).1.length = n := by rw [k2.length, ← hclen, hvl]
  have hput : (put cs off (thawL v.cells H).1).length = cs.length := by unfold put; simp [htl]; omega
  let c' := (c.toList.take off ++ cv.cells.toList ++ c.toList.drop (off + cv.cells.toList.length)).toArray
  have hcvn : cv.cells.toList.length = n := by rw [← hclen, hvl]
  have hsz' : c'.size = c.size := by simp only [c', List.size_toArray, List.length_append, List.length_take, List.length_drop, hcl, hcvn]; omega
  have hrun := run_storeCells_at P b' off e cv.cells.toList 0 c w h3 (by rw [hcvn]; omega) hones
  simp only [Nat.add_zero] at hrun
  have hrep : RepL w G1 (put cs off (thawL v.cells H).1) (c'.toList.take (put cs off (thawL v.cells H).1).length) (b1 ++ (bl1 ++ b3)) := by
    have hct : c'.toList.take (put cs off (thawL v.cells H).1).length = c.toList.take off ++ (cv.cells.toList ++ (c.toList.take cs.length).drop (off + n)) := by
      rw [hput]
      simp only [c', hcvn]
      rw [List.append_assoc, List.take_append, List.take_take, List.take_append]
      have e1 : (c.toList.take off).length = off := by rw [List.length_take, hcl]; omega
      rw [e1, hcvn, Nat.min_eq_right (by omega), List.take_of_length_le (by rw [hcvn]; omega : cv.cells.toList.length ≤ cs.length - off), List.drop_take]
      congr 3; omega
    rw [hct]
    unfold put
    rw [List.append_assoc]
    refine RepL.append (RepL.append ?_ k2) r1
    rw [htl]; exact r3
  have hnd := h7
  rw [hbl] at hnd h8
  have hnd1 := List.nodup_append.1 hnd
  have hnd2 := List.nodup_append.1 hnd1.2.1
  have hdis : ∀ x ∈ bl1, own1 x ≠ some (.cell id) := fun x hx => by rw [k4 x hx]; simp
  obtain ⟨own', hok', hext, _⟩ := k1.put (vs := cs) (c' := c') (blr := []) e' h2 h3 h4 hsz' (by rw [hput, hsz']; exact h5) hrep
    (by
      refine List.nodup_append.2 ⟨hnd1.1, List.nodup_append.2 ⟨k3, hnd2.2.1, ?_⟩, ?_⟩
      · intro x hx y hy e; subst e
        exact hdis x hx (h8 x (List.mem_append_right _ (List.mem_append_right _ hy)))
      · intro x hx y hy e; subst e
        rcases List.mem_append.1 hy with hy | hy
        · exact hdis x hy (h8 x (List.mem_append_left _ hx))
        · exact hnd1.2.2 x hx x (List.mem_append_right _ hy) rfl)
    (fun x hx => by
      rcases List.mem_append.1 hx with hx | hx
      · exact .inr (h8 x (List.mem_append_left _ hx))
      · rcases List.mem_append.1 hx with hx | hx
        · exact .inl (k4 x hx)
        · exact .inr (h8 x (List.mem_append_right _ (List.mem_append_right _ hx))))
    (fun _ h => by cases h) (fun _ h => by cases h)
  refine ⟨w.setRow b' c', ?_, G1, own', [], hok', ?_, List.nodup_nil, (fun _ h => by cases h), k5.trans hext⟩
  · have hsize : cv.cells.size = n := by rw [← hcvn]; rfl
    simp only [Instr.storeAt, Instr.sureAddr, storeVar, Sem.run_bind, Sem.run_pure, Result.andThen_ok, run_sizeOf hs, hsize, ne_eq, not_true_eq_false, if_false]
    exact hrun
  · exact RepL.tup (.nil) .nil
end
end Go.Proofs.YtoaohapbbnpbeaaGreat.Vm
namespace Go.Proofs.YtoaohapbbnpbeaaGreat.Vm
open Go

theorem fold_put (off : Nat) : ∀ (l : List Value) (k : Nat) (cells : Array Value), off + k + l.length ≤ cells.size →
    ((l.zipIdx k).foldl (fun (cs : Array Value) (x : Value × Nat) => cs.setIfInBounds (off + x.2) x.1) cells).toList = cells.toList.take (off + k) ++ l ++ cells.toList.drop (off + k + l.length)
  | [], k, cells, h => by simp
  | v :: l, k, cells, h => by
    have hcl : cells.toList.length = cells.size := Array.length_toList
    simp only [List.length_cons] at h
    rw [List.zipIdx_cons, List.foldl_cons, fold_put off l (k + 1) _ (by simp; omega)]
    simp only [Array.toList_setIfInBounds, List.length_cons]
    have := list_seg_step cells.toList (off + k) v l (by rw [hcl]; omega)
    rw [show off + (k + 1) = off + k + 1 by omega]
    simpa using this

theorem fold_put' (off : Nat) (c : Value) (cells : Array Value) (h : off + c.cells.size ≤ cells.size) :
    (c.cells.zipIdx.foldl (fun cs (x : Value × Nat) => cs.setIfInBounds (off + x.2) x.1) cells).toList = cells.toList.take off ++ c.cells.toList ++ cells.toList.drop (off + c.cells.size) := by
  have := fold_put off c.cells.toList 0 cells (by simpa using h)
  rw [← Array.foldl_toList, Array.toList_zipIdx]
  simpa using this

section
variable {P : Program} {w : World} {G : Gh} {own : Nat → Option Place} {H : Heap}

theorem fill_rep (place : Nat → Option (Nat × Nat)) : ∀ (ps : List (Nat × Nat)) (is : List Nat) (vs zs zs' : List V) (cs : List Value) (cells : Array Value) (b0 bl : List Nat),
    is.map place = ps.map some → RepL w G zs cells.toList b0 → RepL w G vs cs bl → (b0 ++ bl).Nodup → fillV zs ps vs = some zs' →
    ∃ r bl', Instr.fill place cells (is.zip cs) = some r ∧ RepL w G zs' r.toList bl' ∧ bl'.Nodup ∧ ∀ b ∈ bl', b ∈ b0 ++ bl
  | [], is, vs, zs, zs', cs, cells, b0, bl, hi, hz, hv, hn, hf => by
    match vs with
    | [] =>
      cases hf
      obtain ⟨rfl, rfl⟩ := hv.nil_inv
      exact ⟨cells, b0, by simp [Instr.fill], hz, by simpa using hn, by simp⟩
    | v :: vs => cases hf
  | (off, n) :: ps, is, vs, zs, zs', cs, cells, b0, bl, hi, hz, hv, hn, hf => by
    match is, vs with
    | [], _ => cases hi
    | i :: is, [] => cases hf
    | i :: is, v :: vs =>
      obtain ⟨c, cs, b1, b2, rfl, rfl, h1, h2⟩ := hv.cons_inv
      simp only [List.map_cons, List.cons.injEq] at hi
      unfold fillV at hf
      split at hf
      · rename_i hc
        obtain ⟨hsol, hlen, hoff⟩ := hc
        have hsc := solid_cells h1 hsol
        have hcn : c.cells.size = n := by rw [← hlen, hsc.length]; rfl
        have hzl := hz.length
        have hcl : cells.toList.length = cells.size := Array.length_toList
        have hcut : cut zs off n = some ((zs.drop off).take n) := by unfold cut; rw [if_pos hoff]
        obtain ⟨a1, a2, a3, hbl, r1, r2, r3, hl2, _⟩ := obj_part (c := cells) (cs := zs) (by rw [hzl, List.take_length]; exact hz) (by rw [hzl, hcl]; exact Nat.le_refl _) hcut
        rw [hzl, List.take_length] at r3
        obtain ⟨m1, m2, m3⟩ := List.nodup_append.1 hn
        obtain ⟨n1, n2, n3⟩ := List.nodup_append.1 m2
        have hb0 := m1
        rw [hbl] at hb0
        have k1 := List.nodup_append.1 hb0
        have k2 := List.nodup_append.1 k1.2.1
        have hput : RepL w G (put zs off v.cells) (cells.toList.take off ++ (c.cells.toList ++ cells.toList.drop (off + n))) (a1 ++ (b1 ++ a3)) := by
          unfold put; rw [List.append_assoc, hlen]
          exact RepL.append (RepL.append r3 hsc) r1
        let cells' := c.cells.zipIdx.foldl (fun cs (x : Value × Nat) => cs.setIfInBounds (off + x.2) x.1) cells
        have hcells' : cells'.toList = cells.toList.take off ++ (c.cells.toList ++ cells.toList.drop (off + n)) := by
          have := fold_put' off c cells (by rw [hcn, ← hcl, ← hzl]; exact hoff)
          rw [hcn, List.append_assoc] at this; exact this
        obtain ⟨r, bl', e1, e2, e3, e4⟩ := fill_rep place ps is vs (put zs off v.cells) zs' cs cells' (a1 ++ (b1 ++ a3)) b2 hi.2 (by rw [hcells']; exact hput) h2 (by
          have hin : ∀ x, x ∈ a1 ∨ x ∈ a3 → x ∈ b0 := by
            intro x hx; rw [hbl]
            rcases hx with hx | hx
            · exact List.mem_append_left _ hx
            · exact List.mem_append_right _ (List.mem_append_right _ hx)
          refine List.nodup_append.2 ⟨List.nodup_append.2 ⟨k1.1, List.nodup_append.2 ⟨n1, k2.2.1, ?_⟩, ?_⟩, n2, ?_⟩
          · intro x hx y hy e; subst e
            exact m3 x (hin x (.inr hy)) x (List.mem_append_left _ hx) rfl
          · intro x hx y hy e; subst e
            rcases List.mem_append.1 hy with hy | hy
            · exact m3 x (hin x (.inl hx)) x (List.mem_append_left _ hy) rfl
            · exact k1.2.2 x hx x (List.mem_append_right _ hy) rfl
          · intro x hx y hy e; subst e
            rcases List.mem_append.1 hx with hx | hx
            · exact m3 x (hin x (.inl hx)) x (List.mem_append_right _ hy) rfl
            · rcases List.mem_append.1 hx with hx | hx
              · exact n3 x hx x hy rfl
              · exact m3 x (hin x (.inr hx)) x (List.mem_append_right _ hy) rfl) hf
        refine ⟨r, bl', ?_, e2, e3, ?_⟩
        · simp only [List.zip_cons_cons, Instr.fill, hi.1]
          rw [if_neg (by
            rw [hcn]; simp only [ne_eq, not_true_eq_false, decide_eq_true_eq, decide_false, Bool.false_or]
            omega)]
          exact e1
        · intro b hb
          have := e4 b hb
          rw [hbl]
          simp only [List.mem_append] at this ⊢
          rcases this with (h | h | h) | h
          · exact .inl (.inl h)
          · exact .inr (.inl h)
          · exact .inl (.inr (.inr h))
          · exact .inr (.inr h)
      · cases hf

theorem build_post (hok : Ok w G own H) {t : TypeId} {fields : Array Field} {it : TypeInfo} {z : Value} {places ps : List (Nat × Nat)} {is : List Nat} {vs zs zs' : List V} {cs : List Value} {bl : List Nat}
    (hu : P.underlying t = some (.struct fields)) (hi : P.info? t = some it) (hz : it.zero = some z) (hp : fields.toList.mapM (fun f => (P.info? f.type).map fun i => (f.offset, i.size)) = some places)
    (hps : is.map (places[·]?) = ps.map some) (hzr : RepI G.imm zs z.cells.toList) (hr : RepL w G vs cs bl) (hn : bl.Nodup) (ha : ∀ b ∈ bl, own b = some .arg) (hf : fillV zs ps vs = some zs') :
    DoneV ((Instr.build t (is.zip cs).toArray).run P w) (Post w G own (.agg zs') H) := by
  obtain ⟨r, bl', e1, e2, e3, e4⟩ := fill_rep (fun i => places.toArray[i]?) ps is vs zs zs' cs z.cells [] bl (by simpa using hps) (RepI.toL hzr) hr (by simpa using hn) hf
  refine ⟨.agg r, w, run_build w t _ r ?_, ?_⟩
  · simp only [Program.built, hi, hu, hz, hp]
    exact e1
  · refine post_arg hok (bl := bl') ?_ e3 (fun b hb => ha b (by simpa using e4 b hb))
    simpa using RepL.agg e2 (RepL.nil (w := w) (G := G))

theorem build_arr_post (hok : Ok w G own H) {t e : TypeId} {len : Nat} {ie it : TypeInfo} {z : Value} {ps : List (Nat × Nat)} {is : List Nat} {vs zs zs' : List V} {cs : List Value} {bl : List Nat}
    (hu : P.underlying t = some (.array len e)) (hi : P.info? t = some it) (hie : P.info? e = some ie) (hz : it.zero = some z)
    (hps : is.map (fun i => (i * ie.size, ie.size)) = ps) (hzr : RepI G.imm zs z.cells.toList) (hr : RepL w G vs cs bl) (hn : bl.Nodup) (ha : ∀ b ∈ bl, own b = some .arg) (hf : fillV zs ps vs = some zs') :
    DoneV ((Instr.build t (is.zip cs).toArray).run P w) (Post w G own (.agg zs') H) := by
  obtain ⟨r, bl', e1, e2, e3, e4⟩ := fill_rep (fun i => some (i * ie.size, ie.size)) ps is vs zs zs' cs z.cells [] bl (by rw [← hps]; simp) (RepI.toL hzr) hr (by simpa using hn) hf
  refine ⟨.agg r, w, run_build w t _ r ?_, ?_⟩
  · simp only [Program.built, hi, hu, hz, hie]
    exact e1
  · refine post_arg hok (bl := bl') ?_ e3 (fun b hb => ha b (by simpa using e4 b hb))
    simpa using RepL.agg e2 (RepL.nil (w := w) (G := G))

theorem elems_rep {sz : Nat} : ∀ {vs : List V} {xs : List (List V)} {cs : List Value} {bl : List Nat}, RepL w G vs cs bl → elems sz vs = some xs →
    RepI G.imm xs.flatten (cs.flatMap fun c => c.cells.toList) ∧ (∀ x ∈ xs, x.length = sz) ∧ (∀ c ∈ cs, c.cells.size = sz) ∧ xs.length = cs.length
  | [], xs, cs, bl, h, e => by
    obtain ⟨rfl, _⟩ := h.nil_inv
    cases e
    exact ⟨.nil, by simp, by simp, rfl⟩
  | v :: vs, xs, cs, bl, h, e => by
    obtain ⟨c, cs, b1, b2, rfl, rfl, h1, h2⟩ := h.cons_inv
    unfold elems at e
    split at e
    · rename_i hc
      cases hi : inl v.cells with
      | none => rw [hi] at e; cases e
      | some l =>
        rw [hi] at e
        cases he : elems sz vs with
        | none => rw [he] at e; cases e
        | some ys =>
          rw [he] at e
          cases e
          obtain ⟨a1, a2, a3, a4⟩ := elems_rep h2 he
          have hs := solid_cells h1 hc.1
          have hil := hs.inl hi
          refine ⟨?_, ?_, ?_, by simp [a4]⟩
          · simp only [List.flatten_cons, List.flatMap_cons]
            exact RepI.append a1 hil
          · intro x hx
            rcases List.mem_cons.1 hx with rfl | hx
            · rw [hil.length, ← hs.length]; exact hc.2
            · exact a2 x hx
          · intro x hx
            rcases List.mem_cons.1 hx with rfl | hx
            · rw [← hc.2, hs.length]; rfl
            · exact a3 x hx
    · cases e

theorem buildSl_post (hok : Ok w G own H) {t e : TypeId} {ie : TypeInfo} {z : Value} (hu : P.underlying t = some (.slice e)) (hi : P.info? e = some ie) (hz : ie.zero = some z) (hzs : 0 < ie.size)
    {vs : List V} {xs : List (List V)} {cs : List Value} {bl : List Nat} (hr : RepL w G vs cs bl) (he : elems ie.size vs = some xs) (hsm : cs.length * ie.size ≤ 2 ^ 24) :
    DoneV ((Instr.buildSlice t cs.length ((cs.zipIdx 0).map fun x => (x.2, x.1)).toArray).run P w) (Post w G own (.sl true ie.size xs) H) := by
  obtain ⟨h1, h2, h3, h4⟩ := elems_rep hr he
  by_cases hpos : cs.length = 0
  · have : cs = [] := List.eq_nil_of_length_eq_zero hpos
    subst this
    have hx : xs = [] := List.eq_nil_of_length_eq_zero (by simpa using h4)
    subst hx
    refine ⟨.slice (some ⟨w.heap.size, 0, none⟩) 0 0, { w with heap := w.heap.push (.cells #[] e) }, ?_, ?_⟩
    · simp [Instr.buildSlice, run_underlying hu, sizeOf, typeInfo, hi, Instr.fill, newRow]
      congr 2
      apply Array.eq_empty_of_size_eq_zero; simp
    · have := post_list (w := w) (w' := { w with heap := w.heap.push (.cells #[] e) }) hok (sz := ie.size) (xs := []) (acs := []) (rest := []) (t := e) (cap := 0) rfl rfl rfl rfl (by simp) .nil (Nat.le_refl _) (by simp)
      exact this
  · have hfill := Great.fill_whole hzs cs ((Array.range (cs.length * ie.size)).map (z.cells[· % z.cells.size]!)) h3 (by simp)
    have hrun := run_buildSlice (P := P) w t e cs.length ((cs.zipIdx 0).map fun x => (x.2, x.1)).toArray _ ie z hu hi hz (by omega) (by
      intro h0; rcases Nat.mul_eq_zero.1 h0 with h | h <;> omega) hfill
    refine ⟨_, _, hrun, ?_⟩
    have := post_list (w := w) (w' := w.alloc (.cells (cs.flatMap fun v => v.cells.toList).toArray e)) hok (sz := ie.size) (xs := xs) (acs := cs.flatMap fun v => v.cells.toList) (rest := []) (t := e) (cap := cs.length)
      (by rw [List.append_nil]; rfl) rfl rfl rfl h2 h1 (by omega) (by rw [List.append_nil, ← h1.length, flat_len h2, h4]; exact Nat.le_refl _)
    rwa [h4] at this
end
end Go.Proofs.YtoaohapbbnpbeaaGreat.Vm
namespace Go.Proofs.YtoaohapbbnpbeaaGreat.Vm
open Go

theorem flat_part {sz : Nat} : ∀ {xs : List (List V)} {i : Nat} {x : List V}, (∀ x ∈ xs, x.length = sz) → xs[i]? = some x → (xs.flatten.drop (i * sz)).take sz = x
  | [], i, x, _, e => by simp at e
  | y :: ys, 0, x, h, e => by
    simp at e; subst e
    have := h y (List.mem_cons_self ..)
    simp only [Nat.zero_mul, List.drop_zero, List.flatten_cons]
    rw [List.take_append_of_le_length (by omega), List.take_of_length_le (by omega)]
  | y :: ys, i + 1, x, h, e => by
    have := h y (List.mem_cons_self ..)
    have ih := flat_part (fun x hx => h x (List.mem_cons_of_mem _ hx)) (show ys[i]? = some x by simpa using e)
    simp only [List.flatten_cons]
    rw [show (i + 1) * sz = y.length + i * sz by rw [this, Nat.add_mul]; omega, ← List.drop_drop, List.drop_left]
    exact ih

theorem flat_cut {sz : Nat} : ∀ {xs : List (List V)} (l h : Nat), (∀ x ∈ xs, x.length = sz) → (((xs.take h).drop l).flatten) = (xs.flatten.take (h * sz)).drop (l * sz) := by
  have htake : ∀ (xs : List (List V)) (h : Nat), (∀ x ∈ xs, x.length = sz) → (xs.take h).flatten = xs.flatten.take (h * sz) := by
    intro xs
    induction xs with
    | nil => intro h _; simp
    | cons y ys ih =>
      intro h hz
      have hy := hz y (List.mem_cons_self ..)
      match h with
      | 0 => simp
      | h + 1 =>
        simp only [List.take_succ_cons, List.flatten_cons]
        rw [ih h (fun x hx => hz x (List.mem_cons_of_mem _ hx)), show (h + 1) * sz = y.length + h * sz by rw [hy, Nat.add_mul]; omega, List.take_length_add_append]
  have hdrop : ∀ (xs : List (List V)) (l : Nat), (∀ x ∈ xs, x.length = sz) → (xs.drop l).flatten = xs.flatten.drop (l * sz) := by
    intro xs
    induction xs with
    | nil => intro l _; simp
    | cons y ys ih =>
      intro l hz
      have hy := hz y (List.mem_cons_self ..)
      match l with
      | 0 => simp
      | l + 1 =>
        simp only [List.drop_succ_cons, List.flatten_cons]
        rw [ih l (fun x hx => hz x (List.mem_cons_of_mem _ hx)), show (l + 1) * sz = y.length + l * sz by rw [hy, Nat.add_mul]; omega, ← List.drop_drop, List.drop_left]
  intro xs l h hz
  rw [hdrop _ _ (fun x hx => hz x (List.mem_of_mem_take hx)), htake _ _ hz]

section
variable {P : Program} {w : World} {G : Gh} {own : Nat → Option Place} {H : Heap}

theorem indexAddr_sl_post (hok : Ok w G own H) {t e : TypeId} {sz : Nat} (hu : P.underlying t = some (.slice e)) (hs : (P.info? e).map (·.size) = some sz)
    {o : Bool} {xs : List (List V)} {k : IntKind} {i : Int} {c ci : Value} {bl : List Nat} (hr : RepL w G [.sl o sz xs, .int k i] [c, ci] bl) (h0 : 0 ≤ i) {x : List V} (hx : xs[i.toNat]? = some x) :
    DoneV ((Instr.indexAt t c ci).run P w) (Post w G own (.cptr x) H) := by
  obtain ⟨c', cs', b1, b2, hcs, _, hr2, _, hcase⟩ := hr.sl_inv
  cases hcs
  obtain ⟨cs', hcs, _⟩ := hr2.int_inv
  cases hcs
  have hlt : i.toNat < xs.length := by
    rcases Nat.lt_or_ge i.toNat xs.length with h | h
    · exact h
    · rw [List.getElem?_eq_none h] at hx; cases hx
  rcases hcase with ⟨_, rfl⟩ | ⟨a, cap, acs, rfl, hcap, hia, hri, hz⟩
  · simp at hlt
  · refine ⟨.pointer (some (a.add (i.toNat * sz))), w, ?_, post_plain hok (.cptr (acs := (acs.drop (i.toNat * sz)).take sz) _ ((hia.drop _).take _) ?_ .nil)⟩
    · simp only [Instr.indexAt, asIntOf, Sem.run_bind, Sem.run_pure, Result.andThen_ok, run_underlying hu, Sem.run_ite]
      rw [if_pos ⟨h0, by omega⟩]
      simp [run_sizeOf hs]
    · have := (hri.drop (i.toNat * sz)).take sz
      rwa [flat_part hz hx] at this

theorem indexAddr_hsl_post (hok : Ok w G own H) {t e : TypeId} {sz : Nat} (hu : P.underlying t = some (.slice e)) (hs : (P.info? e).map (·.size) = some sz)
    {id ver off len : Nat} {k : IntKind} {i : Int} {c ci : Value} {bl : List Nat} (hr : RepL w G [.hsl id ver off len sz, .int k i] [c, ci] bl) (h0 : 0 ≤ i) (hlt : i < len) :
    DoneV ((Instr.indexAt t c ci).run P w) (Post w G own (.ptr id ver (off + i.toNat * sz)) H) := by
  obtain ⟨b, ver', n, bb, cap, cs', hcs, hl, hv, hc, hb, hr2⟩ := hr.hsl_inv
  cases hcs
  obtain ⟨cs', hcs, _⟩ := hr2.int_inv
  cases hcs
  refine ⟨.pointer (some ⟨bb, off + i.toNat * sz, none⟩), w, ?_, post_same hok (.ptr id ver _ b ver' n bb hl hv (fun e => (hb e).1) .nil)⟩
  simp only [Instr.indexAt, asIntOf, Sem.run_bind, Sem.run_pure, Result.andThen_ok, run_underlying hu, Sem.run_ite]
  rw [if_pos ⟨h0, hlt⟩]
  simp [run_sizeOf hs, add_none]

theorem ba_getElem? (s : ByteArray) (i : Nat) : s[i]? = s.data.toList[i]? := by
  rw [Array.getElem?_toList]
  by_cases h : i < s.size
  · rw [getElem?_pos s i h, getElem?_pos s.data i h]; rfl
  · rw [getElem?_neg s i h, getElem?_neg s.data i h]

theorem indexStr_post (hok : Ok w G own H) {t : TypeId} (hu : P.underlying t = some .string) {s : List UInt8} {k : IntKind} {i : Int} {c ci : Value} {bl : List Nat} (hr : RepL w G [.str s, .int k i] [c, ci] bl) (h0 : 0 ≤ i) {x : UInt8} (hx : s[i.toNat]? = some x) :
    DoneV ((Instr.index t c ci).run P w) (Post w G own (.int .u8 x.toNat) H) := by
  obtain ⟨b, cs', rfl, hcs, hr2⟩ := hr.str_inv
  cases hcs
  obtain ⟨cs', hcs, _⟩ := hr2.int_inv
  cases hcs
  refine ⟨.int .u8 x.toNat, w, ?_, post_plain hok (.int _ _ .nil)⟩
  have : b[i.toNat]? = some x := by rw [ba_getElem?]; exact hx
  simp [Instr.index, asIntOf, run_underlying hu, h0, this]

theorem fieldAddr_run {t : TypeId} {fields : Array Field} {f : Field} {i n : Nat} (hu : P.underlying t = some (.struct fields)) (hf : fields[i]? = some f) (hs : (P.info? f.type).map (·.size) = some n) (hn : n ≠ 0) (a : Addr) :
    (Instr.fieldAt t (.pointer (some a)) i).run P w = .ok (.pointer (some (a.add f.offset))) w := by
  simp [Instr.fieldAt, run_underlying hu, hf, Instr.sureAddr, fieldPlace, run_sizeOf hs, hn]

theorem fieldAddr_ptr_post (hok : Ok w G own H) {t : TypeId} {fields : Array Field} {f : Field} {i n : Nat} (hu : P.underlying t = some (.struct fields)) (hf : fields[i]? = some f) (hs : (P.info? f.type).map (·.size) = some n) (hn : n ≠ 0)
    {id ver off : Nat} {c : Value} {bl : List Nat} (hr : RepL w G [.ptr id ver off] [c] bl) : DoneV ((Instr.fieldAt t c i).run P w) (Post w G own (.ptr id ver (off + f.offset)) H) := by
  obtain ⟨b, ver', n', bb, _, hcs, hl, hv, hb, _⟩ := hr.ptr_inv
  cases hcs
  refine ⟨_, w, fieldAddr_run hu hf hs hn _, ?_⟩
  rw [add_none]
  exact post_same hok (.ptr id ver _ b ver' n' bb hl hv hb .nil)

theorem fieldAddr_cptr_post (hok : Ok w G own H) {t : TypeId} {fields : Array Field} {f : Field} {i n : Nat} (hu : P.underlying t = some (.struct fields)) (hf : fields[i]? = some f) (hs : (P.info? f.type).map (·.size) = some n) (hn : n ≠ 0)
    {ws : List V} {c : Value} {bl : List Nat} (hr : RepL w G [.cptr ws] [c] bl) : DoneV ((Instr.fieldAt t c i).run P w) (Post w G own (.cptr (ws.drop f.offset)) H) := by
  obtain ⟨a, acs, _, hcs, ha, hri, _⟩ := hr.cptr_inv
  cases hcs
  exact ⟨_, w, fieldAddr_run hu hf hs hn _, post_plain hok (.cptr _ (ha.drop _) (hri.drop _) .nil)⟩

theorem nilCheck_post (hok : Ok w G own H) {v : V} {c : Value} {bl : List Nat} (hr : RepL w G [v] [c] bl) (hn : bl.Nodup) (ha : ∀ b ∈ bl, own b = some .arg)
    (hv : (match v with | .ptr .. | .cptr _ | .fn .. => true | _ => false) = true) (ρ : Operand → Value) (x : Operand) (hx : ρ x = c) (o : Oper) (ho : o.op = .nilCheck x) :
    Done ((execOp ρ o).run P w) (Post w G own v H) := by
  have hpost := post_arg hok hr hn ha
  refine .inl ⟨c, w, ?_, hpost⟩
  unfold execOp
  simp only [ho, hx]
  cases hr with
  | imm _ c h1 _ => cases h1 <;> first | rfl | cases hv
  | ptr => rfl
  | fn => rfl
  | _ => exact absurd hv (by simp)

theorem field_post (hok : Ok w G own H) {t : TypeId} {fields : Array Field} {f : Field} {i n : Nat} {d : TypeDesc} (hu : P.underlying t = some (.struct fields)) (hf : fields[i]? = some f)
    (hs : (P.info? f.type).map (·.size) = some n) (hd : P.underlying f.type = some d) (hg : aggOf P f.type = false → n = 1)
    {cs l : List V} {v : V} {c : Value} {bl : List Nat} (hr : RepL w G [.agg cs] [c] bl) (hn : bl.Nodup) (ha : ∀ b ∈ bl, own b = some .arg) (hcut : cut cs f.offset n = some l) (hm : mk (aggOf P f.type) l = some v) :
    DoneV ((Instr.field t c i).run P w) (Post w G own v H) := by
  cases hr with
  | imm _ c h1 _ => cases h1
  | agg hr h =>
    rename_i acs b1 bl'
    obtain ⟨_, rfl⟩ := h.nil_inv
    have hlen := hr.length
    have hcl : acs.toArray.toList = acs := rfl
    obtain ⟨b1, b2, b3, hbl, _, r2, _, hl2, hcell⟩ := obj_part (c := acs.toArray) (cs := cs) (by rw [hcl, hlen, List.take_length]; exact hr) (by rw [hlen]; exact Nat.le_refl _) hcut
    rw [hcl] at r2 hl2 hcell
    obtain ⟨k1, k2, k3, _⟩ := cut_some hcut
    refine ⟨mkC (aggOf P f.type) ((acs.drop f.offset).take n), w, ?_, post_arg hok (mk_rep r2 hm) ?_ ?_⟩
    · simp only [Instr.field, Sem.run_bind, run_underlying hu, Result.andThen_ok, hf, asAgg, Sem.run_pure, part, run_isAgg hd]
      cases hagg : aggOf P f.type with
      | true =>
        simp [run_sizeOf hs, mkC]
      | false =>
        have h1 := hg hagg
        subst h1
        match hq : (acs.drop f.offset).take 1, hl2 with
        | [x], _ =>
          have := hcell 0 x (by rw [hq]; rfl)
          simp at this
          simp [this, mkC]
    · rw [List.append_nil] at hn
      rw [hbl] at hn
      exact (List.nodup_append.1 (List.nodup_append.1 hn).2.1).1
    · intro b hb
      refine ha b ?_
      rw [hbl]
      exact List.mem_append_left _ (List.mem_append_right _ (List.mem_append_left _ hb))

theorem extract_post (hok : Ok w G own H) {vs : List V} {v : V} {i : Nat} {c : Value} {bl : List Nat} (hr : RepL w G [.tup vs] [c] bl) (hn : bl.Nodup) (ha : ∀ b ∈ bl, own b = some .arg) (hv : vs[i]? = some v) :
    DoneV ((Instr.extract c i).run P w) (Post w G own v H) := by
  cases hr with
  | imm _ c h1 _ => cases h1
  | tup hr h =>
    obtain ⟨_, rfl⟩ := h.nil_inv
    rw [List.append_nil] at hn ha
    obtain ⟨c, b, e1, e2, e3, e4⟩ := hr.at i v hv
    refine ⟨c, w, ?_, post_arg hok e2 (e4 hn) fun x hx => ha x (e3 x hx)⟩
    simp [Instr.extract, e1]

theorem mkfn_post (hok : Ok w G own H) {f : Nat} {vs : List V} {cs : List Value} (hr : RepL w G vs cs []) : DoneV ((Instr.makeFunc (.func f) #[] cs.toArray).run P w) (Post w G own (.fn f vs) H) :=
  ⟨.func (.func f) #[] cs.toArray, w, rfl, post_same hok (.fn f hr .nil)⟩

theorem len_post (hok : Ok w G own H) {t ty : TypeId} {d : TypeDesc} (hu : P.underlying t = some d) {v : V} {n : Nat} {c : Value} {bl : List Nat} (hr : RepL w G [v] [c] bl)
    (hv : (d = .string ∧ ∃ s, v = .str s ∧ n = s.length) ∨ ((∃ e, d = .slice e) ∧ ((∃ o z xs, v = .sl o z xs ∧ n = xs.length) ∨ (∃ id ver off z, v = .hsl id ver off n z) ∨ ∃ z, v = .nilh z ∧ n = 0))) :
    DoneV ((Builtin.len_ #[t] ty #[c]).run P w) (Post w G own (.int .i64 n) H) := by
  have fin : ∀ r, r = Result.ok (goInt n) w → DoneV r (Post w G own (.int .i64 n) H) := fun r h => by rw [h]; exact .ok (post_plain hok (.int _ _ .nil))
  apply fin
  rcases hv with ⟨rfl, s, rfl, rfl⟩ | ⟨⟨e, rfl⟩, ⟨o, z, xs, rfl, rfl⟩ | ⟨id, ver, off, z, rfl⟩ | ⟨z, rfl, rfl⟩⟩
  · obtain ⟨b, cs', rfl, hcs, _⟩ := hr.str_inv
    cases hcs
    have : b.data.toList.length = b.size := by rw [Array.length_toList]; rfl
    simp [Builtin.len_, run_underlying hu, goInt]
  · obtain ⟨c', cs', b1, b2, hcs, _, _, _, hcase⟩ := hr.sl_inv
    cases hcs
    rcases hcase with ⟨rfl, rfl⟩ | ⟨a, cap, acs, rfl, _⟩ <;> simp [Builtin.len_, run_underlying hu, goInt]
  · obtain ⟨b, ver', n', bb, cap, cs', hcs, _⟩ := hr.hsl_inv
    cases hcs
    simp [Builtin.len_, run_underlying hu, goInt]
  · cases hr with
    | imm _ c h1 _ => cases h1
    | nilh z _ => simp [Builtin.len_, run_underlying hu, goInt]

theorem min_post (hok : Ok w G own H) {ts : Array TypeId} {ty : TypeId} (k : IntKind) (a b : Int) : DoneV ((Builtin.min_ ts ty #[.int k a, .int k b]).run P w) (Post w G own (.int k (if b < a then b else a)) H) := by
  simp [Builtin.min_, Builtin.min2]; exact .ok (post_plain hok (.int _ _ .nil))
theorem max_post (hok : Ok w G own H) {ts : Array TypeId} {ty : TypeId} (k : IntKind) (a b : Int) : DoneV ((Builtin.max_ ts ty #[.int k a, .int k b]).run P w) (Post w G own (.int k (if b > a then b else a)) H) := by
  simp [Builtin.max_, Builtin.max2]; exact .ok (post_plain hok (.int _ _ .nil))

theorem nilOf_inv {b : Bool} {x y : V} {c n : Value} {bl b2 : List Nat} (hr : RepL w G [x] [c] bl) (hy : RepL w G [y] [n] b2) (hb : nilOf x y = some b) :
    (n = .pointer none ∧ (∃ a, c = .pointer a) ∧ isNilC c = b) ∨ (n = .map none ∧ (∃ a, c = .map a) ∧ isNilC c = b) ∨ (n = .slice none 0 0 ∧ (∃ a l k, c = .slice a l k) ∧ isNilC c = b) ∨
      (n = .nilFunc ∧ (c = .nilFunc ∨ ∃ f x y, c = .func f x y) ∧ isNilC c = b) := by
  have hp : y = .nilp → n = .pointer none := by
    rintro rfl; cases hy with
    | imm _ _ h _ => cases h; rfl
  have hm : y = .nilmap → n = .map none := by
    rintro rfl; cases hy with
    | imm _ _ h _ => cases h; rfl
  have hf : y = .nilfn → n = .nilFunc := by
    rintro rfl; cases hy with
    | imm _ _ h _ => cases h; rfl
  have hh : ∀ z, y = .nilh z → n = .slice none 0 0 := by
    rintro z rfl; cases hy with
    | imm _ _ h _ => cases h
    | nilh => rfl
  have c1 : x = .nilp → c = .pointer none := by
    rintro rfl; cases hr with
    | imm _ _ h _ => cases h; rfl
  have c2 : x = .nilmap → c = .map none := by
    rintro rfl; cases hr with
    | imm _ _ h _ => cases h; rfl
  have c3 : x = .nilfn → c = .nilFunc := by
    rintro rfl; cases hr with
    | imm _ _ h _ => cases h; rfl
  have c4 : ∀ z, x = .nilh z → c = .slice none 0 0 := by
    rintro z rfl; cases hr with
    | imm _ _ h _ => cases h
    | nilh => rfl
  have c5 : ∀ id ver off, x = .ptr id ver off → ∃ a, c = .pointer (some a) := by
    rintro id ver off rfl; cases hr with
    | imm _ _ h _ => cases h
    | ptr => exact ⟨_, rfl⟩
  have c6 : ∀ ws, x = .cptr ws → ∃ a, c = .pointer (some a) := by
    rintro ws rfl; cases hr with
    | imm _ _ h _ => cases h; exact ⟨_, rfl⟩
  have c7 : ∀ id, x = .map id → ∃ a, c = .map (some a) := by
    rintro id rfl; cases hr with
    | imm _ _ h _ => cases h
    | map => exact ⟨_, rfl⟩
  have c8 : ∀ f ws, x = .fn f ws → ∃ a b d, c = .func a b d := by
    rintro f ws rfl; cases hr with
    | imm _ _ h _ => cases h
    | fn => exact ⟨_, _, _, rfl⟩
  have c9 : ∀ id ver off len sz, x = .hsl id ver off len sz → ∃ a l k, c = .slice (some a) l k := by
    rintro id ver off len sz rfl; cases hr with
    | imm _ _ h _ => cases h
    | hsl => exact ⟨_, _, _, rfl⟩
  have c10 : ∀ o z h t, x = .sl o z (h :: t) → ∃ a l k, c = .slice (some a) l k := by
    rintro o z h t rfl; obtain ⟨c', cs', b1, b2, hcs, _, _, _, hcase⟩ := hr.sl_inv
    cases hcs
    rcases hcase with ⟨_, h⟩ | ⟨a, cap, acs, h, _⟩
    · cases h
    · exact ⟨_, _, _, h⟩
  clear hr hy
  unfold nilOf at hb
  split at hb
  · cases hb; obtain rfl := hp rfl; obtain rfl := c1 rfl; exact .inl ⟨rfl, ⟨_, rfl⟩, rfl⟩
  · cases hb; obtain rfl := hm rfl; obtain rfl := c2 rfl; exact .inr (.inl ⟨rfl, ⟨_, rfl⟩, rfl⟩)
  · cases hb; obtain rfl := hf rfl; obtain rfl := c3 rfl; exact .inr (.inr (.inr ⟨rfl, .inl rfl, rfl⟩))
  · cases hb; obtain rfl := hh _ rfl; obtain rfl := c4 _ rfl; exact .inr (.inr (.inl ⟨rfl, ⟨_, _, _, rfl⟩, rfl⟩))
  · cases hb; obtain rfl := hp rfl; obtain ⟨a, rfl⟩ := c5 _ _ _ rfl; exact .inl ⟨rfl, ⟨_, rfl⟩, rfl⟩
  · cases hb; obtain rfl := hp rfl; obtain ⟨a, rfl⟩ := c6 _ rfl; exact .inl ⟨rfl, ⟨_, rfl⟩, rfl⟩
  · cases hb; obtain rfl := hm rfl; obtain ⟨a, rfl⟩ := c7 _ rfl; exact .inr (.inl ⟨rfl, ⟨_, rfl⟩, rfl⟩)
  · cases hb; obtain rfl := hf rfl; obtain ⟨a, b, d, rfl⟩ := c8 _ _ rfl; exact .inr (.inr (.inr ⟨rfl, .inr ⟨_, _, _, rfl⟩, rfl⟩))
  · cases hb; obtain rfl := hh _ rfl; obtain ⟨a, b, d, rfl⟩ := c9 _ _ _ _ _ rfl; exact .inr (.inr (.inl ⟨rfl, ⟨_, _, _, rfl⟩, rfl⟩))
  · cases hb; obtain rfl := hh _ rfl; obtain ⟨a, b, d, rfl⟩ := c10 _ _ _ _ rfl; exact .inr (.inr (.inl ⟨rfl, ⟨_, _, _, rfl⟩, rfl⟩))
  · cases hb

theorem isNil_post (hok : Ok w G own H) {t : TypeId} {ne b : Bool} {x y : V} {c n : Value} {bl : List Nat} (hr : RepL w G [x] [c] bl) (hf : nilFits P t n = true) (hy : (∃ b2, RepL w G [y] [n] b2)) (hb : nilOf x y = some b) (ox oy : Operand) :
    DoneV ((do eqGuard (if ne then .neq else .eql) t ox oy c n; binOp (if ne then .neq else .eql) t c n : Sem Value).run P w) (Post w G own (.bool (b != ne)) H) := by
  have key : ∀ (hs : (∃ e, P.underlying t = some (.pointer e) ∧ n = .pointer none ∧ ∃ a, c = .pointer a) ∨ (∃ k e, P.underlying t = some (.map k e) ∧ n = .map none ∧ ∃ a, c = .map a) ∨
      (∃ e, P.underlying t = some (.slice e) ∧ n = .slice none 0 0 ∧ ∃ a l k, c = .slice a l k) ∨ (∃ a b v, P.underlying t = some (.func a b v) ∧ n = .nilFunc ∧ (c = .nilFunc ∨ ∃ f x y, c = .func f x y)))
      (hv : isNilC c = b),
      DoneV ((do eqGuard (if ne then .neq else .eql) t ox oy c n; binOp (if ne then .neq else .eql) t c n : Sem Value).run P w) (Post w G own (.bool (b != ne)) H) := by
    intro hs hv
    have he := nil_eq (P := P) (w := w) c n hs
    rw [hv] at he
    have hg : ∀ op, (eqGuard op t ox oy c n).run P w = .ok () w := by
      intro op
      unfold eqGuard
      rcases hs with ⟨e, _, rfl, a, rfl⟩ | ⟨k, e, _, rfl, a, rfl⟩ | ⟨e, _, rfl, a, l, k, rfl⟩ | ⟨a, b, v, _, rfl, rfl | ⟨f, x, y, rfl⟩⟩ <;> split <;> rfl
    rw [Sem.run_bind, hg, Result.andThen_ok]
    have hbin : ∀ op, op = .eql ∨ op = .neq → binOp op t c n = if op = .eql then (do pure (.bool (← Op.equal t c n))) else (do pure (.bool (!(← Op.equal t c n)))) := by
      intro op ho
      rcases hs with ⟨e, _, rfl, a, rfl⟩ | ⟨k, e, _, rfl, a, rfl⟩ | ⟨e, _, rfl, a, l, k, rfl⟩ | ⟨a, b, v, _, rfl, rfl | ⟨f, x, y, rfl⟩⟩ <;> rcases ho with rfl | rfl <;> rfl
    cases ne <;> rw [hbin _ (by simp)] <;> simp [he] <;> exact .ok (post_plain hok (.bool _ .nil))
  obtain ⟨b2, hy⟩ := hy
  rcases nilOf_inv hr hy hb with ⟨rfl, ⟨a, rfl⟩, hv⟩ | ⟨rfl, ⟨a, rfl⟩, hv⟩ | ⟨rfl, ⟨a, l, k, rfl⟩, hv⟩ | ⟨rfl, hc, hv⟩
  · unfold nilFits at hf
    cases hu : P.underlying t with
    | none => simp [hu] at hf
    | some d => cases d <;> simp [hu] at hf; exact key (.inl ⟨_, hu, rfl, a, rfl⟩) hv
  · unfold nilFits at hf
    cases hu : P.underlying t with
    | none => simp [hu] at hf
    | some d => cases d <;> simp [hu] at hf; exact key (.inr (.inl ⟨_, _, hu, rfl, a, rfl⟩)) hv
  · unfold nilFits at hf
    cases hu : P.underlying t with
    | none => simp [hu] at hf
    | some d => cases d <;> simp [hu] at hf; exact key (.inr (.inr (.inl ⟨_, hu, rfl, a, l, k, rfl⟩))) hv
  · unfold nilFits at hf
    cases hu : P.underlying t with
    | none => simp [hu] at hf
    | some d => cases d <;> simp [hu] at hf; exact key (.inr (.inr (.inr ⟨_, _, _, hu, rfl, hc⟩))) hv
end
end Go.Proofs.YtoaohapbbnpbeaaGreat.Vm
namespace Go.Proofs.YtoaohapbbnpbeaaGreat.Vm
open Go

section
variable {P : Program} {w : World} {G : Gh} {own : Nat → Option Place} {H : Heap}

theorem sliceBound_run {k : IntKind} {i : Int} {y : Nat} {code : BoundsCode} (h0 : 0 ≤ i) (h1 : i ≤ y) : (Instr.sliceBound (.int k i) y code).run P w = .ok i.toNat w := by
  simp [Instr.sliceBound, asIntOf, h0, h1]

/-- The bounds as they stand: l and h, where they are given. -/
def Bnd (v : Option Value) (n : Nat) (d : Nat) : Prop := (v = none ∧ n = d) ∨ ∃ k i, v = some (.int k i) ∧ 0 ≤ i ∧ i.toNat = n

theorem sliceBounds_run {isSlice : Bool} {len cap l h : Nat} {lo hi : Option Value} (hl : Bnd lo l 0) (hh : Bnd hi h len) (h1 : l ≤ h) (h2 : h ≤ cap) :
    (Instr.sliceBounds isSlice len cap lo hi none).run P w = .ok (l, h, cap) w := by
  rcases hl with ⟨rfl, rfl⟩ | ⟨k, i, rfl, hi0, hi1⟩ <;> rcases hh with ⟨rfl, rfl⟩ | ⟨k', i', rfl, hj0, hj1⟩
  · simp [Instr.sliceBounds]
  · have : i' ≤ (cap : Int) := by omega
    simp [Instr.sliceBounds, sliceBound_run hj0 this, hj1]
  · have : i ≤ (h : Int) := by omega
    simp [Instr.sliceBounds, sliceBound_run hi0 this, hi1]
  · have a1 : i' ≤ (cap : Int) := by omega
    have a2 : i ≤ (h : Int) := by omega
    simp [Instr.sliceBounds, sliceBound_run hj0 a1, hj1, sliceBound_run hi0 a2, hi1]

theorem slice_str_post (hok : Ok w G own H) {t : TypeId} (hu : P.underlying t = some .string) {s : List UInt8} {c : Value} {bl : List Nat} (hr : RepL w G [.str s] [c] bl) {lo hi : Option Value} {l h : Nat} (hl : Bnd lo l 0) (hh : Bnd hi h s.length) (h1 : l ≤ h) (h2 : h ≤ s.length) :
    DoneV ((Instr.sliceAt t c lo hi none).run P w) (Post w G own (.str ((s.take h).drop l)) H) := by
  obtain ⟨b, cs', rfl, hcs, _⟩ := hr.str_inv
  cases hcs
  have hs : b.data.toList.length = b.size := by rw [Array.length_toList]; rfl
  rw [hs] at hh h2
  refine ⟨.string (b.extract l h), w, ?_, post_plain hok (.mkStr _ ?_)⟩
  · simp only [Instr.sliceAt, Sem.run_bind, run_underlying hu, Result.andThen_ok, Instr.slice, Option.isSome_none, Bool.false_eq_true, if_false, sliceBounds_run hl hh h1 h2, Sem.run_pure]
  · rw [ByteArray.data_extract, Array.toList_extract]; simp [List.extract, List.drop_take]

theorem slice_sl_post (hok : Ok w G own H) {t e : TypeId} {sz : Nat} (hu : P.underlying t = some (.slice e)) (hsz : (P.info? e).map (·.size) = some sz)
    {o : Bool} {xs : List (List V)} {c : Value} {bl : List Nat} (hr : RepL w G [.sl o sz xs] [c] bl) {lo hi : Option Value} {l h : Nat} (hl : Bnd lo l 0) (hh : Bnd hi h xs.length) (h1 : l ≤ h) (h2 : h ≤ xs.length) :
    DoneV ((Instr.sliceAt t c lo hi none).run P w) (Post w G own (.sl false sz ((xs.take h).drop l)) H) := by
  obtain ⟨c', cs', b1, b2, hcs, _, _, _, hcase⟩ := hr.sl_inv
  cases hcs
  rcases hcase with ⟨rfl, rfl⟩ | ⟨a, cap, acs, rfl, hcap, hia, hri, hz⟩
  · have : h = 0 := by simpa using h2
    subst this
    have : l = 0 := by omega
    subst this
    refine ⟨.slice none 0 0, w, ?_, post_plain hok (by simpa using RepI.slnil sz .nil)⟩
    have hh' : Bnd hi 0 0 := hh
    simp only [Instr.sliceAt, Sem.run_bind, run_underlying hu, Result.andThen_ok, Instr.slice, sliceBounds_run hl hh' h1 (Nat.le_refl 0), Sem.run_pure, run_sizeOf hsz]
    simp
  · have hrun : ∀ r, r = (if cap = l then some a else some (a.add (l * sz))) → (Instr.sliceAt t (.slice (some a) xs.length cap) lo hi none).run P w = .ok (.slice r (h - l) (cap - l)) w := by
      intro r hrr
      simp only [Instr.sliceAt, Sem.run_bind, run_underlying hu, Result.andThen_ok, Instr.slice, sliceBounds_run hl hh h1 (Nat.le_trans h2 hcap), Sem.run_pure, run_sizeOf hsz]
      rw [hrr]; simp
    have hlen : ((xs.take h).drop l).length = h - l := by simp; omega
    by_cases hc : cap = l
    · refine ⟨_, w, hrun (some a) (by rw [if_pos hc]), post_plain hok ?_⟩
      have hnil : (xs.take h).drop l = [] := List.eq_nil_of_length_eq_zero (by rw [hlen]; omega)
      rw [← hlen, hnil]
      exact .sl (acs := []) sz [] a _ (by simp) ⟨fun h => absurd rfl h, fun i v hv => by simp at hv⟩ .nil (by simp) .nil
    · refine ⟨_, w, hrun (some (a.add (l * sz))) (by rw [if_neg hc]), post_plain hok ?_⟩
      rw [← hlen]
      refine .sl (acs := (acs.take (h * sz)).drop (l * sz)) sz _ _ _ (fun x hx => hz x (List.mem_of_mem_take (List.mem_of_mem_drop hx))) ((hia.take _).drop _) ?_ (by rw [hlen]; omega) .nil
      rw [flat_cut l h hz]
      exact (hri.take _).drop _

theorem slice_hsl_post (hok : Ok w G own H) {t e : TypeId} {sz : Nat} (hu : P.underlying t = some (.slice e)) (hsz : (P.info? e).map (·.size) = some sz)
    {id ver off len : Nat} {c : Value} {bl : List Nat} (hr : RepL w G [.hsl id ver off len sz] [c] bl) {lo hi : Option Value} {l h : Nat} (hl : Bnd lo l 0) (hh : Bnd hi h len) (h1 : l ≤ h) (h2 : h ≤ len) :
    DoneV ((Instr.sliceAt t c lo hi none).run P w) (Post w G own (if l = len ∧ 0 < len then .sl false sz [] else .hsl id ver (off + l * sz) (h - l) sz) H) := by
  obtain ⟨b, ver', n, bb, cap, cs', hcs, hloc, hv, hc, hb, _⟩ := hr.hsl_inv
  cases hcs
  have hrun : ∀ r, r = (if cap = l then (⟨bb, off, none⟩ : Addr) else ⟨bb, off + l * sz, none⟩) → (Instr.sliceAt t (.slice (some ⟨bb, off, none⟩) len cap) lo hi none).run P w = .ok (.slice (some r) (h - l) (cap - l)) w := by
    intro r hrr
    simp only [Instr.sliceAt, Sem.run_bind, run_underlying hu, Result.andThen_ok, Instr.slice, sliceBounds_run hl hh h1 (Nat.le_trans h2 hc), Sem.run_pure, run_sizeOf hsz, Option.map_some, add_none]
    rw [hrr]; split <;> rfl
  refine ⟨_, w, hrun _ rfl, ?_⟩
  split
  · rename_i hx
    obtain ⟨rfl, hpos⟩ := hx
    have : h - l = 0 := by omega
    rw [this]
    refine post_plain hok (.sl (acs := []) sz [] _ _ (by simp) ⟨fun h => absurd rfl h, fun i v hv => by simp at hv⟩ .nil (by simp) .nil)
  · rename_i hx
    have hcl : cap = l → l * sz = 0 := by
      intro hcl
      have : len = 0 := by
        rcases Nat.eq_zero_or_pos len with h0 | h0
        · exact h0
        · exact absurd ⟨by omega, h0⟩ hx
      have : l = 0 := by omega
      rw [this]; simp
    have haddr : (if cap = l then (⟨bb, off, none⟩ : Addr) else ⟨bb, off + l * sz, none⟩) = ⟨bb, off + l * sz, none⟩ := by
      split
      · rename_i h'; rw [hcl h']; rfl
      · rfl
    rw [haddr]
    refine post_same hok (.hsl id ver _ (h - l) sz b ver' n bb (cap - l) hloc hv (by omega) (fun e => ?_) .nil)
    obtain ⟨q1, q2⟩ := hb e
    refine ⟨q1, ?_⟩
    have : (cap - l) * sz + l * sz = cap * sz := by rw [← Nat.add_mul]; congr 1; omega
    omega

theorem slice_nilh_post (hok : Ok w G own H) {t e : TypeId} {sz : Nat} (hu : P.underlying t = some (.slice e)) (hsz : ∃ n, (P.info? e).map (·.size) = some n)
    {c : Value} {bl : List Nat} (hr : RepL w G [.nilh sz] [c] bl) {lo hi : Option Value} {l h : Nat} (hl : Bnd lo l 0) (hh : Bnd hi h 0) (h1 : l ≤ h) (h2 : h ≤ 0) :
    DoneV ((Instr.sliceAt t c lo hi none).run P w) (Post w G own (.nilh sz) H) := by
  obtain ⟨n, hsz⟩ := hsz
  cases hr with
  | imm _ _ h1 _ => cases h1
  | nilh _ _ =>
    have : h = 0 := by omega
    subst this
    have : l = 0 := by omega
    subst this
    refine ⟨.slice none 0 0, w, ?_, post_same hok (.nilh sz .nil)⟩
    simp only [Instr.sliceAt, Sem.run_bind, run_underlying hu, Result.andThen_ok, Instr.slice, sliceBounds_run hl hh h1 (Nat.le_refl 0), Sem.run_pure, run_sizeOf hsz]
    simp

theorem rep_flat {imm : Nat → Nat → Option Value} {zs : List V} {cz : List Value} (h : RepI imm zs cz) : ∀ n, RepI imm (List.replicate n zs).flatten (List.replicate n cz).flatten
  | 0 => .nil
  | n + 1 => by
    simp only [List.replicate_succ, List.flatten_cons]
    exact RepI.append (rep_flat h n) h

theorem zero_cells (z : Array Value) (n : Nat) : ((Array.range (n * z.size)).map (z[· % z.size]!)).toList = (List.replicate n z.toList).flatten := by
  apply List.ext_getElem?
  intro i
  have hfl : ((List.replicate n z.toList).flatten).length = n * z.size := by simp
  by_cases hi : i < n * z.size
  · have hz : 0 < z.size := by
      rcases Nat.eq_zero_or_pos z.size with h | h
      · rw [h] at hi; simp at hi
      · exact h
    have hm : i % z.size < z.size := Nat.mod_lt _ hz
    have e1 : ((Array.range (n * z.size)).map (z[· % z.size]!)).toList[i]? = some z[i % z.size] := by
      simp [hi]
      rw [getElem!_pos z _ hm]
    rw [e1]
    have : ∀ (n i : Nat), i < n * z.size → ((List.replicate n z.toList).flatten)[i]? = some (z[i % z.size]'(Nat.mod_lt _ hz)) := by
      intro n
      induction n with
      | zero => intro i hi; simp at hi
      | succ n ih =>
        intro i hi
        simp only [List.replicate_succ, List.flatten_cons]
        rcases Nat.lt_or_ge i z.size with h | h
        · rw [List.getElem?_append_left (by simpa using h)]
          simp [Nat.mod_eq_of_lt h, h]
        · rw [List.getElem?_append_right (by simpa using h)]
          simp only [Array.length_toList]
          rw [ih (i - z.size) (by rw [Nat.add_mul] at hi; omega)]
          congr 2
          rw [Nat.mod_eq_sub_mod h]
    rw [this n i hi]
  · rw [List.getElem?_eq_none (by simp; omega), List.getElem?_eq_none (by rw [hfl]; omega)]

theorem makeSl_post (hok : Ok w G own H) {t e : TypeId} {ie : TypeInfo} {z : Value} {zs : List V} (hu : P.underlying t = some (.slice e)) (hi : P.info? e = some ie) (hz : ie.zero = some z) (hzs : z.cells.size = ie.size) (hzp : 0 < ie.size)
    (hzr : RepI G.imm zs z.cells.toList) (k : IntKind) {n : Int} (h0 : 0 ≤ n) (hb : ie.bytes * n ≤ 281474976710656) (h63 : n ≤ 9223372036854775807) (k' : IntKind) :
    DoneV ((Instr.makeSlice t (.int k n) (.int k' n)).run P w) (Post w G own (.fr ie.size (List.replicate n.toNat zs)) H) := by
  have hwrap : IntKind.i64.wrap n = n := by
    simp [IntKind.wrap, IntKind.bits, IntKind.signed]
    omega
  have hzl : zs.length = ie.size := by rw [hzr.length, ← hzs]; rfl
  let cells := (Array.range (n.toNat * ie.size)).map (z.cells[· % z.cells.size]!)
  have hcells : cells.toList = (List.replicate n.toNat z.cells.toList).flatten := by
    have := zero_cells z.cells n.toNat
    rw [hzs] at this
    rw [← this]
    simp only [cells]; rw [hzs]
  have hrun : (Instr.makeSlice t (.int k n) (.int k' n)).run P w = .ok (.slice (some ⟨w.heap.size, 0, none⟩) n.toNat n.toNat) (w.alloc (.cells cells e)) := by
    have hnb : ¬ (281474976710656 < ie.bytes * n) := by omega
    have hng : ¬ n < 0 := by omega
    unfold Instr.makeSlice
    have hti : (typeInfo e).run P w = .ok ie w := by simp [typeInfo, hi]
    simp only [Sem.run_bind, run_underlying hu, Result.andThen_ok, asInt, asIntOf, Sem.run_pure, hti, hwrap, Sem.run_ite, run_askRoom, run_sizeOf (show (P.info? e).map (·.size) = some ie.size by rw [hi]; rfl)]
    rw [if_neg (by simp [hng]; omega)]
    by_cases hn0 : n.toNat * ie.size = 0
    · rw [if_pos hn0]
      have : cells = (Array.range (n.toNat * ie.size)).map (fun x => (#[] : Array Value)[x % (#[] : Array Value).size]!) := by
        simp only [cells]; rw [hn0]; apply Array.ext'; simp
      rw [this]
      simp [newRow, hn0]
    · rw [if_neg hn0]
      simp [zeroValue, typeInfo, hi, hz, newRow, cells]
  have hnew : (w.alloc (.cells cells e)).heap = w.heap.push (.cells cells e) := rfl
  refine ⟨_, _, hrun, ?_⟩
  have hflat := rep_flat hzr n.toNat
  refine ⟨_, _, [w.heap.size], hok.pushed (w' := w.alloc (.cells cells e)) hnew (fun _ => none) (fun _ _ h => by cases h) (some .res), ?_, by simp, fun b hb => ?_, ?_⟩
  · have himm : addImm G.imm w.heap.size (fun _ => none) = G.imm := by
      funext b o
      by_cases hb : b = w.heap.size
      · subst hb; rw [addImm_same, hok.fresh]
      · rw [addImm_ne _ _ _ hb]
    rw [himm]
    have hlen : (List.replicate n.toNat zs).length = n.toNat := List.length_replicate
    have := RepL.fr (w := w.alloc (.cells cells e)) (G := ⟨G.imm, G.loc⟩) (vs := []) (cs := []) (bl := []) ie.size (List.replicate n.toNat zs) w.heap.size n.toNat cells e
      (by intro x hx; rw [List.eq_of_mem_replicate hx]; exact hzl) (heap_new hnew) (fun o => hok.fresh o) ⟨[], by rw [hcells, List.append_nil]⟩ hflat (by rw [hlen]; exact Nat.le_refl _)
      (by simp [cells]) .nil
    rwa [hlen] at this
  · rw [List.mem_singleton.1 hb, setO_same]
  · have := Ext.pushed hok (w' := w.alloc (.cells cells e)) hnew rfl rfl rfl (fun _ => none) (some .res) []
    rwa [List.append_nil] at this

theorem Post.slice {v0 : Nat} {w' : World} {b : Nat} {vs : List V} {k sz : Nat} (h : Post w G own (.ptr v0 0 0) (H ++ [.cells 0 vs]) (.pointer (some ⟨b, 0, none⟩)) w') (hv : v0 = H.length) (hk : vs.length = k * sz) :
    Post w G own (.hsl v0 0 0 k sz) (H ++ [.cells 0 vs]) (.slice (some ⟨b, 0, none⟩) k k) w' := by
  subst hv
  obtain ⟨G', own', bl, h1, h2, h3, h4, h5⟩ := h
  obtain ⟨b', ver', n', bb, cs', hcs, hl, hv, hb, hr2⟩ := h2.ptr_inv
  have hbl := hr2
  obtain ⟨hc0, rfl⟩ := List.cons.inj hcs
  have hbb : bb = b := by
    have := congrArg (fun c : Value => match c with | .pointer (some a) => a.block | _ => 0) hc0
    exact this.symm
  subst hbb
  obtain ⟨b1, c, e, bl1, k1, k2, k3, k4, k5, k6⟩ := h1.obj H.length (.cells 0 vs) (by simp)
  rw [hl] at k1
  obtain ⟨rfl, rfl, rfl⟩ : b' = b1 ∧ ver' = 0 ∧ n' = c.size := by
    simp only [Option.some.injEq, Prod.mk.injEq] at k1; exact k1
  have := hb rfl
  subst this
  exact ⟨G', own', bl, h1, .hsl H.length 0 0 k sz bb 0 c.size bb k hl (Nat.le_refl _) (Nat.le_refl _) (fun _ => ⟨rfl, by omega⟩) hr2, h3, h4, h5⟩

theorem makeH_post (hok : Ok w G own H) {t e : TypeId} {ie : TypeInfo} {z : Value} {zs : List V} (hu : P.underlying t = some (.slice e)) (hi : P.info? e = some ie) (hz : ie.zero = some z) (hzs : z.cells.size = ie.size) (hzp : 0 < ie.size)
    (hzr : ∀ w G, RepL w G zs z.cells.toList []) (k : IntKind) {n : Int} (h0 : 0 ≤ n) (hb : ie.bytes * n ≤ 281474976710656) (h63 : n ≤ 9223372036854775807) (k' : IntKind) :
    DoneV ((Instr.makeSlice t (.int k n) (.int k' n)).run P w) (Post w G own (.hsl H.length 0 0 n.toNat ie.size) (H ++ [.cells 0 (List.replicate n.toNat zs).flatten])) := by
  have hwrap : IntKind.i64.wrap n = n := by
    simp [IntKind.wrap, IntKind.bits, IntKind.signed]
    omega
  have hzl : zs.length = ie.size := by rw [(hzr w G).length, ← hzs]; rfl
  let cells := (Array.range (n.toNat * ie.size)).map (z.cells[· % z.cells.size]!)
  have hcells : cells.toList = (List.replicate n.toNat z.cells.toList).flatten := by
    have := zero_cells z.cells n.toNat
    rw [hzs] at this
    rw [← this]
    simp only [cells]; rw [hzs]
  have hrun : (Instr.makeSlice t (.int k n) (.int k' n)).run P w = .ok (.slice (some ⟨w.heap.size, 0, none⟩) n.toNat n.toNat) (w.alloc (.cells cells e)) := by
    have hnb : ¬ (281474976710656 < ie.bytes * n) := by omega
    have hng : ¬ n < 0 := by omega
    unfold Instr.makeSlice
    have hti : (typeInfo e).run P w = .ok ie w := by simp [typeInfo, hi]
    simp only [Sem.run_bind, run_underlying hu, Result.andThen_ok, asInt, asIntOf, Sem.run_pure, hti, hwrap, Sem.run_ite, run_askRoom, run_sizeOf (show (P.info? e).map (·.size) = some ie.size by rw [hi]; rfl)]
    rw [if_neg (by simp [hng]; omega)]
    by_cases hn0 : n.toNat * ie.size = 0
    · rw [if_pos hn0]
      have : cells = (Array.range (n.toNat * ie.size)).map (fun x => (#[] : Array Value)[x % (#[] : Array Value).size]!) := by
        simp only [cells]; rw [hn0]; apply Array.ext'; simp
      rw [this]
      simp [newRow, hn0]
    · rw [if_neg hn0]
      simp [zeroValue, typeInfo, hi, hz, newRow, cells]
  refine ⟨_, _, hrun, ?_⟩
  have hrep : ∀ m : Nat, RepL w G (List.replicate m zs).flatten (List.replicate m z.cells.toList).flatten [] := by
    intro m
    induction m with
    | zero => exact .nil
    | succ m ih =>
      rw [List.replicate_succ, List.replicate_succ, List.flatten_cons, List.flatten_cons]
      have := RepL.append ih (hzr w G)
      simpa using this
  refine Post.slice (post_obj (w' := w.alloc (.cells cells e)) hok (cs := (List.replicate n.toNat z.cells.toList).flatten) (t := e) (by rw [← hcells]; rfl) rfl rfl rfl (hrep n.toNat) List.nodup_nil (fun _ h => by cases h)) rfl ?_
  rw [List.length_flatten, List.map_replicate, List.sum_replicate_nat, hzl]

theorem post_fr {w w' : World} {G : Gh} {own : Nat → Option Place} {H : Heap} (hok : Ok w G own H) {sz : Nat} {xs : List (List V)} {acs : List Value} {t : TypeId} {cap : Nat}
    (e : w'.heap = w.heap.push (.cells acs.toArray t)) (ht : w'.tape = w.tape) (hos : w'.os = w.os) (hout : w'.output = w.output)
    (hz : ∀ x ∈ xs, x.length = sz) (hr : RepI G.imm xs.flatten acs) (hc : xs.length ≤ cap) (hcap : cap * sz ≤ acs.length) :
    Post w G own (.fr sz xs) H (.slice (some ⟨w.heap.size, 0, none⟩) xs.length cap) w' := by
  refine ⟨_, _, [w.heap.size], hok.pushed (w' := w') e (fun _ => none) (fun _ _ h => by cases h) (some .res), ?_, by simp, fun b hb => ?_, ?_⟩
  · have himm : addImm G.imm w.heap.size (fun _ => none) = G.imm := by
      funext b o
      by_cases hb : b = w.heap.size
      · subst hb; rw [addImm_same, hok.fresh]
      · rw [addImm_ne _ _ _ hb]
    rw [himm]
    exact RepL.fr (w := w') (G := ⟨G.imm, G.loc⟩) (vs := []) (cs := []) (bl := []) sz xs w.heap.size cap acs.toArray t
      hz (heap_new e) (fun o => hok.fresh o) ⟨[], by simp⟩ hr hc (by simpa using hcap) .nil
  · rw [List.mem_singleton.1 hb, setO_same]
  · have := Ext.pushed hok (w' := w') e ht hos hout (fun _ => none) (some .res) []
    rwa [List.append_nil] at this

theorem buildFr_post (hok : Ok w G own H) {t e : TypeId} {ie : TypeInfo} {z : Value} (hu : P.underlying t = some (.slice e)) (hi : P.info? e = some ie) (hz : ie.zero = some z) (hzs : 0 < ie.size)
    {vs : List V} {xs : List (List V)} {cs : List Value} {bl : List Nat} (hr : RepL w G vs cs bl) (he : elems ie.size vs = some xs) (hsm : cs.length * ie.size ≤ 2 ^ 24) (hpos : 0 < xs.length) :
    DoneV ((Instr.buildSlice t cs.length ((cs.zipIdx 0).map fun x => (x.2, x.1)).toArray).run P w) (Post w G own (.fr ie.size xs) H) := by
  obtain ⟨h1, h2, h3, h4⟩ := elems_rep hr he
  have hpos : ¬ cs.length = 0 := by omega
  have hfill := Great.fill_whole hzs cs ((Array.range (cs.length * ie.size)).map (z.cells[· % z.cells.size]!)) h3 (by simp)
  have hrun := run_buildSlice (P := P) w t e cs.length ((cs.zipIdx 0).map fun x => (x.2, x.1)).toArray _ ie z hu hi hz (by omega) (by
    intro h0; rcases Nat.mul_eq_zero.1 h0 with h | h <;> omega) hfill
  refine ⟨_, _, hrun, ?_⟩
  have := post_fr (w := w) (w' := w.alloc (.cells (cs.flatMap fun v => v.cells.toList).toArray e)) hok (sz := ie.size) (xs := xs) (acs := cs.flatMap fun v => v.cells.toList) (t := e) (cap := cs.length)
    rfl rfl rfl rfl h2 h1 (by omega) (by rw [← h1.length, flat_len h2, h4]; exact Nat.le_refl _)
  rwa [h4] at this
end
end Go.Proofs.YtoaohapbbnpbeaaGreat.Vm
namespace Go.Proofs.YtoaohapbbnpbeaaGreat.Vm
open Go

section
variable {P : Program} {w : World} {G : Gh} {own : Nat → Option Place} {H : Heap}

/-- What a list yields to an append. -/
theorem sl_src (hok : Ok w G own H) {tx e' : TypeId} (hk : P.underlying tx = some (.slice e')) {o : Bool} {sz : Nat} {ys : List (List V)} {c : Value} {bl : List Nat} (hr : RepL w G [.sl o sz ys] [c] bl) :
    ∃ news, Src P sz tx c ys.length news w ∧ RepI G.imm ys.flatten news ∧ ∀ y ∈ ys, y.length = sz := by
  obtain ⟨c', cs', b1, b2, hcs, _, _, _, hcase⟩ := hr.sl_inv
  cases hcs
  rcases hcase with ⟨rfl, rfl⟩ | ⟨a, cap, acs, rfl, hcap, hia, hri, hz⟩
  · exact ⟨[], Src.ofNil w hk 0, .nil, by simp⟩
  · exact ⟨acs, Src.ofSlice w hk a _ cap acs (by rw [← hri.length, flat_len hz]) (hia.cells hok) hri.one, hri, hz⟩

theorem append_sl_post (hok : Ok w G own H) {t tx ty e e' : TypeId} {i : TypeInfo} {z : Value} (ht : P.underlying t = some (.slice e)) (hk : P.underlying tx = some (.slice e')) (hi : P.info? e = some i) (hz : i.zero = some z) (hzs : z.cells.size = i.size)
    {xs ys : List (List V)} {o : Bool} {cs cx : Value} {bl : List Nat} (hr : RepL w G [.sl true i.size xs, .sl o i.size ys] [cs, cx] bl) (hn : bl.Nodup) (ha : ∀ b ∈ bl, own b = some .arg)
    (hb : (xs.length + ys.length) * i.bytes ≤ 140737488355328) (h63 : xs.length + ys.length ≤ 9223372036854775807) :
    DoneV ((Builtin.append_ #[t, tx] ty #[cs, cx]).run P w) (Post w G own (.sl true i.size (xs ++ ys)) H) := by
  obtain ⟨c, cs', b1, b2, hcs, rfl, h1, h2⟩ := hr.cons_inv
  cases hcs
  obtain ⟨news, hs, hri, hyz⟩ := sl_src hok hk h2
  exact append_post hok ht hi hz hzs h1 (List.nodup_append.1 hn).1 (fun b hb => ha b (List.mem_append_left _ hb)) hs hri hyz hb h63

theorem bytes_rep {imm : Nat → Nat → Option Value} : ∀ (l : List UInt8), RepI imm (l.map fun b => [V.int .u8 b.toNat]).flatten (l.map fun b => Value.int .u8 b.toNat)
  | [] => .nil
  | b :: l => by simp only [List.map_cons, List.flatten_cons]; exact .int _ _ (bytes_rep l)

theorem append_str_post (hok : Ok w G own H) {t tx ty e : TypeId} {i : TypeInfo} {z : Value} (ht : P.underlying t = some (.slice e)) (hk : P.underlying tx = some .string) (hi : P.info? e = some i) (hz : i.zero = some z) (hzs : z.cells.size = i.size) (h1 : i.size = 1)
    {xs : List (List V)} {s : List UInt8} {cs cx : Value} {bl : List Nat} (hr : RepL w G [.sl true 1 xs, .str s] [cs, cx] bl) (hn : bl.Nodup) (ha : ∀ b ∈ bl, own b = some .arg)
    (hb : (xs.length + s.length) * i.bytes ≤ 140737488355328) (h63 : xs.length + s.length ≤ 9223372036854775807) :
    DoneV ((Builtin.append_ #[t, tx] ty #[cs, cx]).run P w) (Post w G own (.sl true 1 (xs ++ s.map fun b => [.int .u8 b.toNat])) H) := by
  obtain ⟨c, cs', b1, b2, hcs, rfl, hr1, h2⟩ := hr.cons_inv
  cases hcs
  obtain ⟨b, cs', rfl, hcs, _⟩ := h2.str_inv
  cases hcs
  have hs : Src P i.size tx (.string b) (b.data.toList.map fun b => [V.int .u8 b.toNat]).length (byteCells b) w := by
    have := Src.ofString (P := P) w hk b
    rw [h1, List.length_map]
    have hl : b.data.toList.length = b.size := by rw [Array.length_toList]; rfl
    rw [hl]; exact this
  have := append_post hok ht hi hz hzs (xs := xs) (ys := b.data.toList.map fun b => [V.int .u8 b.toNat]) (tx := tx) (ty := ty) (by rw [h1]; exact hr1) (List.nodup_append.1 hn).1 (fun b hb => ha b (List.mem_append_left _ hb)) hs (bytes_rep _)
    (by intro y hy; rw [h1]; obtain ⟨_, _, rfl⟩ := List.mem_map.1 hy; rfl) (by rw [List.length_map]; exact hb) (by rw [List.length_map]; exact h63)
  rw [h1] at this; exact this

theorem chunks_flat (sz : Nat) : ∀ (n : Nat) (cs : List V), cs.length = n * sz → (chunks sz n cs).flatten = cs ∧ (∀ x ∈ chunks sz n cs, x.length = sz) ∧ (chunks sz n cs).length = n
  | 0, cs, h => by
    have : cs = [] := List.eq_nil_of_length_eq_zero (by simpa using h)
    subst this; simp [chunks]
  | n + 1, cs, h => by
    rw [Nat.add_mul] at h
    obtain ⟨a, b, c⟩ := chunks_flat sz n (cs.drop sz) (by simp; omega)
    simp only [chunks, List.flatten_cons, a, List.take_append_drop, List.length_cons, c, true_and, and_true]
    intro x hx
    rcases List.mem_cons.1 hx with rfl | hx
    · simp; omega
    · exact b x hx

theorem append_hslsrc_post (hok : Ok w G own H) {t tx ty e e' : TypeId} {i : TypeInfo} {z : Value} (ht : P.underlying t = some (.slice e)) (hk : P.underlying tx = some (.slice e')) (hi : P.info? e = some i) (hz : i.zero = some z) (hzs : z.cells.size = i.size)
    {xs : List (List V)} {id ver off len : Nat} {cs cx : Value} {bl : List Nat} (hr : RepL w G [.sl true i.size xs, .hsl id ver off len i.size] [cs, cx] bl) (hn : bl.Nodup) (ha : ∀ b ∈ bl, own b = some .arg)
    (hb : (xs.length + len) * i.bytes ≤ 140737488355328) (h63 : xs.length + len ≤ 9223372036854775807) {obj l l' : List V} (hc : getCells H id ver = some obj) (hcut : cut obj off (len * i.size) = some l) (hl : inl l = some l') :
    DoneV ((Builtin.append_ #[t, tx] ty #[cs, cx]).run P w) (Post w G own (.sl true i.size (xs ++ chunks i.size len l')) H) := by
  obtain ⟨c, cs', b1, b2, hcs, rfl, h1, h2⟩ := hr.cons_inv
  cases hcs
  obtain ⟨b, ver', n, bb, cap, cs', hcs, hloc, hv, hcap, hbb, _⟩ := h2.hsl_inv
  cases hcs
  obtain ⟨hve, c, E, blo, hn', k2, k3, k4, k5, k6, k7, k8⟩ := obj_live hok hc hloc hv
  obtain ⟨q1, q2⟩ := hbb hve
  obtain ⟨a1, a2, a3, _, _, r2, _, hl2, hcell⟩ := obj_part k6 k5 hcut
  have hri := r2.inl hl
  have hlen : l'.length = len * i.size := by rw [hri.length, hl2]
  obtain ⟨f1, f2, f3⟩ := chunks_flat i.size len l' hlen
  subst q1
  have hs : Src P i.size tx (.slice (some ⟨bb, off, none⟩) len cap) (chunks i.size len l').length ((c.toList.drop off).take (len * i.size)) w := by
    rw [f3]
    exact Src.ofSlice w hk ⟨bb, off, none⟩ len cap _ hl2 (cell_of_heap k3 hcell) hri.one
  exact append_post hok ht hi hz hzs h1 (List.nodup_append.1 hn).1 (fun b hb => ha b (List.mem_append_left _ hb)) hs (by rw [f1]; exact hri) f2 (by rw [f3]; exact hb) (by rw [f3]; exact h63)

/-! ### Objects that grow -/

theorem Ok.grow {w' : World} (h : Ok w G own H) {id ver b n b' : Nat} {vs' : List V} {c' : Array Value} {e : TypeId} {bl' : List Nat} (hloc : G.loc[id]? = some (b, ver, n)) (hown : own b = some (.obj id))
    (hb' : b' = b ∨ own b' = none) (hheap : ∀ x, x ≠ b' → x < w.heap.size → w'.heap[x]? = w.heap[x]?) (hsize : w.heap.size ≤ w'.heap.size) (hw' : w'.heap[b']? = some (.cells c' e (0, 0)))
    (hn0 : ∀ o, G.imm b' o = none) (hle : vs'.length ≤ c'.size) (hr : RepL w G vs' (c'.toList.take vs'.length) bl') (hn : bl'.Nodup) (ho : ∀ x ∈ bl', own x = some (.cell id))
    (ht : w'.tape = w.tape) (hos : w'.os = w.os) (hout : w'.output = w.output) :
    ∃ own', Ok w' ⟨G.imm, G.loc.set id (b', ver + 1, c'.size)⟩ own' (H.set id (.cells (ver + 1) vs')) ∧ Ext w G own w' ⟨G.imm, G.loc.set id (b', ver + 1, c'.size)⟩ own' := by
  have hlt : id < G.loc.length := by
    rcases Nat.lt_or_ge id G.loc.length with h' | h'
    · exact h'
    · rw [List.getElem?_eq_none h'] at hloc; cases hloc
  have hL : ∀ (i b2 v n2 : Nat), G.loc[i]? = some (b2, v, n2) → ∃ b3 v' n' : Nat, (G.loc.set id (b', ver + 1, c'.size))[i]? = some (b3, v', n') ∧ v ≤ v' ∧ (v = v' → b3 = b2 ∧ n' = n2) := by
    intro i b2 v n2 e
    by_cases hi : i = id
    · subst hi
      rw [hloc] at e; cases e
      refine ⟨b', ver + 1, c'.size, ?_, by omega, by omega⟩
      rw [List.getElem?_set_self hlt]
    · exact ⟨b2, v, n2, by rw [List.getElem?_set_ne (by omega)]; exact e, Nat.le_refl _, fun _ => ⟨rfl, rfl⟩⟩
  let own' : Nat → Option Place := fun x => if x = b' then some (.obj id) else if x ∈ bl' then some (.cell id) else if own x = some (.cell id) ∨ own x = some (.obj id) then none else own x
  have hbl : ∀ x ∈ bl', x ≠ b' := by
    intro x hx e; subst e
    have := ho x hx
    rcases hb' with rfl | hb'
    · rw [hown] at this; cases this
    · rw [hb'] at this; cases this
  have hkeep : ∀ x p, own x = some p → p ≠ .cell id → p ≠ .obj id → own' x = own x ∧ x ≠ b' := by
    intro x p hx h1 h2
    have hne : x ≠ b' := by
      rintro rfl
      rcases hb' with rfl | hb'
      · rw [hown] at hx; cases hx; exact h2 rfl
      · rw [hb'] at hx; cases hx
    refine ⟨?_, hne⟩
    simp only [own']
    rw [if_neg hne, if_neg (fun hm => by rw [ho x hm] at hx; cases hx; exact h1 rfl), if_neg (fun hm => by rcases hm with hm | hm <;> rw [hm] at hx <;> cases hx <;> contradiction)]
  have himm : ∀ x o v, G.imm x o = some v → x ≠ b' := by intro x o v hv e; rw [e, hn0 o] at hv; cases hv
  refine ⟨own', ?_, ?_⟩
  · refine Ok.replace (G := G) (G' := ⟨G.imm, G.loc.set id (b', ver + 1, c'.size)⟩) h (fun _ _ _ h => h) ?_ ?_ hL (by simp) ?_ ?_ ?_
    · intro x o v hv
      obtain ⟨c2, e2, f2, h1, h2⟩ := h.imm x o v hv
      exact ⟨c2, e2, f2, by rw [hheap x (himm x o v hv) (World.heap_lt h1)]; exact h1, h2⟩
    · intro x p hp
      simp only [own'] at hp
      split at hp
      · rename_i hx; rw [hx]; exact World.heap_lt hw'
      · split at hp
        · rename_i hx; exact Nat.lt_of_lt_of_le (h.size _ _ (ho x hx)) hsize
        · split at hp
          · cases hp
          · exact Nat.lt_of_lt_of_le (h.size _ _ hp) hsize
    · intro j hj; exact List.getElem?_set_ne (by omega)
    · intro j x hj hx
      have hp : ∃ p, own x = some p ∧ p ≠ .cell id ∧ p ≠ .obj id := by
        rcases hx with hx | hx <;> exact ⟨_, hx, by simp; try omega, by simp; try omega⟩
      obtain ⟨p, hp, h1, h2⟩ := hp
      obtain ⟨k1, k2⟩ := hkeep x p hp h1 h2
      exact ⟨hheap x k2 (h.size _ _ hp), fun _ => rfl, k1⟩
    · refine ⟨b', c', e, bl', by simp [List.getElem?_set_self hlt], by simp [own'], hw', hn0, hle, ?_, hn, fun x hx => ?_⟩
      · exact RepL.mono (G := G) (G' := ⟨G.imm, G.loc.set id (b', ver + 1, c'.size)⟩) (fun _ _ _ h => h) hL hr fun x hx => ⟨hheap x (hbl x hx) (h.size _ _ (ho x hx)), fun _ => rfl⟩
      · simp only [own']; rw [if_neg (hbl x hx), if_pos hx]
  · refine ⟨hsize, fun _ _ _ h => h, hL, fun x hx => ?_, ht, hos, hout⟩
    obtain ⟨k1, k2⟩ := hkeep x .frame hx (by simp) (by simp)
    exact ⟨hheap x k2 (h.size _ _ hx), fun _ => rfl, by rw [k1]; exact hx⟩

theorem appendH_post (hok : Ok w G own H) {t tx ty e e' : TypeId} {i : TypeInfo} {z : Value} (ht : P.underlying t = some (.slice e)) (hk : P.underlying tx = some (.slice e')) (hi : P.info? e = some i) (hz : i.zero = some z) (hzs : z.cells.size = i.size)
    {id ver len : Nat} {o : Bool} {ys : List (List V)} {cs cx : Value} {bl : List Nat} (hr : RepL w G [.hsl id ver 0 len i.size, .sl o i.size ys] [cs, cx] bl)
    (hb : (len + ys.length) * i.bytes ≤ 140737488355328) (h63 : len + ys.length ≤ 9223372036854775807) {obj l : List V} (hc : getCells H id ver = some obj) (hcut : cut obj 0 (len * i.size) = some l) :
    DoneV ((Builtin.append_ #[t, tx] ty #[cs, cx]).run P w) (Post w G own (.hsl id (ver + 1) 0 (len + ys.length) i.size) (H.set id (.cells (ver + 1) (l ++ ys.flatten)))) := by
  obtain ⟨c0, cs', b1, b2, hcs, rfl, h1, h2⟩ := hr.cons_inv
  cases hcs
  obtain ⟨b, ver', n, bb, cap, cs', hcs, hloc, hv, hcap, hbb, _⟩ := h1.hsl_inv
  cases hcs
  obtain ⟨news, hs, hri, hyz⟩ := sl_src hok hk h2
  obtain ⟨hve, c, E, blo, hn', k2, k3, k4, k5, k6, k7, k8⟩ := obj_live hok hc hloc hv
  subst hve
  obtain ⟨q1, q2⟩ := hbb rfl
  subst q1
  subst hn'
  obtain ⟨a1, a2, a3, hbl, _, r2, _, hl2, hcell⟩ := obj_part k6 k5 hcut
  simp only [List.drop_zero] at r2 hl2 hcell
  have hnl := hs.newsLen
  have hcl : c.toList.length = c.size := Array.length_toList
  have hll : l.length = len * i.size := by rw [r2.length, hl2]
  have hyl : ys.flatten.length = news.length := hri.length
  have hnd : a2.Nodup := by
    rw [hbl] at k7
    exact (List.nodup_append.1 (List.nodup_append.1 k7).2.1).1
  have hoa : ∀ x ∈ a2, own x = some (.cell id) := fun x hx => k8 x (by rw [hbl]; exact List.mem_append_right _ (List.mem_append_left _ hx))
  have hrep : RepL w G (l ++ ys.flatten) (c.toList.take (len * i.size) ++ news) a2 := by
    have := RepL.append (RepI.toL (w := w) hri) r2
    rwa [List.append_nil] at this
  by_cases hroom : len + ys.length ≤ cap
  · have hfit : 0 + len * i.size + news.length ≤ c.size := by
      have : (len + ys.length) * i.size ≤ cap * i.size := Nat.mul_le_mul_right _ hroom
      rw [Nat.add_mul] at this; omega
    have hrun := run_append_room_at (P := P) w t tx ty e i ht hi bb 0 len cap c E k3 cx ys.length news hs hroom hfit
    simp only [Nat.zero_add] at hrun hfit
    let c' := (c.toList.take (len * i.size) ++ news ++ c.toList.drop (len * i.size + news.length)).toArray
    have hsz : c'.size = c.size := by simp only [c', List.size_toArray, List.length_append, List.length_take, List.length_drop, hcl]; omega
    have htk : c'.toList.take (l ++ ys.flatten).length = c.toList.take (len * i.size) ++ news := by
      have : (l ++ ys.flatten).length = (c.toList.take (len * i.size) ++ news).length := by simp only [List.length_append, hll, hyl, hl2]
      rw [this]
      simp only [c']
      rw [List.take_left]
    obtain ⟨own', g1, g2⟩ := hok.grow (w' := w.setRow bb c') (b' := bb) (c' := c') (vs' := l ++ ys.flatten) (e := E) hloc k2 (.inl rfl) (fun x hx _ => setRow_other w bb x c' hx) (by rw [setRow_size]; exact Nat.le_refl _)
      (setRow_heap w bb c c' E (0, 0) k3) k4 (by rw [hsz, List.length_append, hll, hyl]; omega) (by rw [htk]; exact hrep) hnd hoa rfl rfl rfl
    refine ⟨_, _, hrun, _, own', [], g1, ?_, List.nodup_nil, (fun _ h => by cases h), g2⟩
    have hlt : id < G.loc.length := by rw [← hok.len]; have := getCells_some hc; exact (List.getElem?_eq_some_iff.1 this).1
    exact .hsl id (ver + 1) 0 (len + ys.length) i.size bb (ver + 1) c'.size bb cap (by simp [List.getElem?_set_self hlt]) (Nat.le_refl _) hroom (fun _ => ⟨rfl, by rw [hsz]; omega⟩) .nil
  · have hold : (Builtin.firstCells i.size len (.slice (some ⟨bb, 0, none⟩) len cap)).run P w.drew = .ok (c.toList.take (len * i.size)).toArray w.drew :=
      run_firstCells_some w.drew i.size len ⟨bb, 0, none⟩ len cap _ hl2 (cell_of_heap (w := w.drew) (show w.heap[bb]? = _ from k3) hcell)
    have hrun := run_append_grow_src w t tx ty e i z ht hi hz (some ⟨bb, 0, none⟩) len cap _ hold cx ys.length news hs (by omega) (by omega) (growslice_fits (by omega) hb)
    have hge := grownCap_ge w (len + ys.length) cap e
    let c' := (c.toList.take (len * i.size) ++ news).toArray ++ Builtin.zeroCells z.cells (grownCap w (len + ys.length) cap e - (len + ys.length))
    have hc'l : c'.toList = (c.toList.take (len * i.size) ++ news) ++ (Builtin.zeroCells z.cells (grownCap w (len + ys.length) cap e - (len + ys.length))).toList := by simp [c']
    have hsz : c'.size = grownCap w (len + ys.length) cap e * i.size := by
      simp only [c', Array.size_append, List.size_toArray, List.length_append, hl2, hnl, size_zeroCells, hzs, ← Nat.add_mul]
      congr 1; omega
    have htk : c'.toList.take (l ++ ys.flatten).length = c.toList.take (len * i.size) ++ news := by
      have : (l ++ ys.flatten).length = (c.toList.take (len * i.size) ++ news).length := by simp only [List.length_append, hll, hyl, hl2]
      rw [this, hc'l, List.take_left]
    have hnew : (w.drew.alloc (.cells c' e)).heap = w.heap.push (.cells c' e) := rfl
    obtain ⟨own', g1, g2⟩ := hok.grow (w' := w.drew.alloc (.cells c' e)) (b' := w.heap.size) (c' := c') (vs' := l ++ ys.flatten) (e := e) hloc k2 (.inr hok.freshOwn) (fun x _ hx => heap_push hnew hx) (by rw [hnew, Array.size_push]; omega)
      (heap_new hnew) hok.fresh (by
        rw [hsz, List.length_append, hll, hyl, hnl, ← Nat.add_mul]
        exact Nat.mul_le_mul_right _ hge) (by rw [htk]; exact hrep) hnd hoa rfl rfl rfl
    refine ⟨_, _, hrun, _, own', [], g1, ?_, List.nodup_nil, (fun _ h => by cases h), g2⟩
    have hlt : id < G.loc.length := by rw [← hok.len]; have := getCells_some hc; exact (List.getElem?_eq_some_iff.1 this).1
    exact .hsl id (ver + 1) 0 (len + ys.length) i.size w.heap.size (ver + 1) c'.size w.heap.size _ (by simp [List.getElem?_set_self hlt]) (Nat.le_refl _) hge (fun _ => ⟨rfl, by rw [hsz]; omega⟩) .nil

/-- The first append to an object that is not there yet: a fresh list. -/
theorem appendN_post (hok : Ok w G own H) {t tx ty e e' : TypeId} {i : TypeInfo} {z : Value} (ht : P.underlying t = some (.slice e)) (hk : P.underlying tx = some (.slice e')) (hi : P.info? e = some i) (hz : i.zero = some z) (hzs : z.cells.size = i.size)
    {o : Bool} {ys : List (List V)} {cs cx : Value} {bl : List Nat} (hr : RepL w G [.nilh i.size, .sl o i.size ys] [cs, cx] bl) (hp : 0 < ys.length)
    (hb : ys.length * i.bytes ≤ 140737488355328) (h63 : ys.length ≤ 9223372036854775807) :
    DoneV ((Builtin.append_ #[t, tx] ty #[cs, cx]).run P w) (Post w G own (.fr i.size ys) H) := by
  obtain ⟨c0, cs', b1, b2, hcs, rfl, h1, h2⟩ := hr.cons_inv
  cases hcs
  obtain ⟨news, hs, hri, hyz⟩ := sl_src hok hk h2
  cases h1 with
  | imm _ _ h _ => cases h
  | nilh _ _ =>
  have hold : (Builtin.firstCells i.size 0 (.slice none 0 0)).run P w.drew = .ok ([] : List Value).toArray w.drew := by simpa using run_firstCells_none w.drew i.size 0 0 0
  have hrun := run_append_grow_src w t tx ty e i z ht hi hz none 0 0 [] hold cx ys.length news hs (by omega) (by omega) (growslice_fits (by omega) (by rw [Nat.zero_add]; exact hb))
  simp only [Nat.zero_add, List.nil_append] at hrun
  have hge := grownCap_ge w ys.length 0 e
  let c' := news.toArray ++ Builtin.zeroCells z.cells (grownCap w ys.length 0 e - ys.length)
  have hc'l : c'.toList = news ++ (Builtin.zeroCells z.cells (grownCap w ys.length 0 e - ys.length)).toList := by simp [c']
  have hsz : c'.size = grownCap w ys.length 0 e * i.size := by
    simp only [c', Array.size_append, List.size_toArray, hs.newsLen, size_zeroCells, hzs, ← Nat.add_mul]
    congr 1; omega
  have hnew : (w.drew.alloc (.cells c' e)).heap = w.heap.push (.cells c' e) := rfl
  refine ⟨_, _, hrun, _, _, [w.heap.size], hok.pushed (w' := w.drew.alloc (.cells c' e)) hnew (fun _ => none) (fun _ _ h => by cases h) (some .res), ?_, by simp, fun b hb => ?_, ?_⟩
  · have himm : addImm G.imm w.heap.size (fun _ => none) = G.imm := by
      funext b o
      by_cases hb : b = w.heap.size
      · subst hb; rw [addImm_same, hok.fresh]
      · rw [addImm_ne _ _ _ hb]
    rw [himm]
    exact RepL.fr (w := w.drew.alloc (.cells c' e)) (G := ⟨G.imm, G.loc⟩) (vs := []) (cs := []) (bl := []) i.size ys w.heap.size (grownCap w ys.length 0 e) c' e hyz (heap_new hnew) (fun o => hok.fresh o) ⟨_, hc'l⟩ hri hge (by rw [hsz]; exact Nat.le_refl _) .nil
  · rw [List.mem_singleton.1 hb, setO_same]
  · have := Ext.pushed hok (w' := w.drew.alloc (.cells c' e)) hnew rfl rfl rfl (fun _ => none) (some .res) []
    rwa [List.append_nil] at this
end
end Go.Proofs.YtoaohapbbnpbeaaGreat.Vm
namespace Go.Proofs.YtoaohapbbnpbeaaGreat.Vm
open Go

def sizeIs (P : Program) (t : TypeId) (n : Nat) : Bool := match P.info? t with
  | some i => i.size == n
  | none => false
theorem sizeIs_eq {P : Program} {t : TypeId} {n : Nat} (h : sizeIs P t n = true) : (P.info? t).map (·.size) = some n := by
  unfold sizeIs at h
  split at h
  · rename_i i e; rw [e]; simpa using h
  · cases h

mutual
/-- The kinds of a type's cells, where they are numbers, texts and bools alone. -/
def flatT (P : Program) : Nat → TypeId → Option (List K3)
  | 0, _ => none
  | d + 1, t => match P.underlying t with
    | some .bool => some [.b]
    | some (.int _) => some [.i]
    | some .string => some [.s]
    | some (.struct fs) => if P.stoodInHeld t then none else flatFs P d fs.toList 0
    | _ => none
def flatFs (P : Program) : Nat → List Field → Nat → Option (List K3)
  | 0, _, _ => none
  | _ + 1, [], _ => some []
  | d + 1, f :: fs, off => if f.name ≠ "_" ∧ f.offset = off then
      match flatT P d f.type with
      | some n => if sizeIs P f.type n.length then (flatFs P d fs (off + n.length)).map (n ++ ·) else none
      | none => none
    else none
end

section
variable {P : Program} {w : World} {G : Gh} {own : Nat → Option Place} {H : Heap}

theorem eqCells_length : ∀ {ks : List K3} {xs ys : List V} {b : Bool}, eqCells ks xs ys = some b → xs.length = ks.length ∧ ys.length = ks.length
  | [], [], [], _, _ => ⟨rfl, rfl⟩
  | k :: ks, x :: xs, y :: ys, b, h => by
    unfold eqCells at h
    cases h1 : eqScal k x y with
    | none => rw [h1] at h; cases h
    | some c =>
      rw [h1] at h
      cases h2 : eqCells ks xs ys with
      | none => rw [h2] at h; cases h
      | some c2 =>
        have := eqCells_length h2
        simp [this.1, this.2]
  | [], _ :: _, _, _, h => by simp [eqCells] at h
  | [], [], _ :: _, _, h => by simp [eqCells] at h
  | _ :: _, [], _, _, h => by simp [eqCells] at h
  | _ :: _, _ :: _, [], _, h => by simp [eqCells] at h

theorem eqCells_append : ∀ {k1 k2 : List K3} {xs ys : List V} {b : Bool}, eqCells (k1 ++ k2) xs ys = some b →
    ∃ b1 b2, eqCells k1 (xs.take k1.length) (ys.take k1.length) = some b1 ∧ eqCells k2 (xs.drop k1.length) (ys.drop k1.length) = some b2 ∧ b = (b1 && b2)
  | [], k2, xs, ys, b, h => ⟨true, b, by simp [eqCells], by simpa using h, by simp⟩
  | k :: k1, k2, [], ys, b, h => by simp [eqCells] at h
  | k :: k1, k2, _ :: _, [], b, h => by simp [eqCells] at h
  | k :: k1, k2, x :: xs, y :: ys, b, h => by
    simp only [List.cons_append, eqCells] at h
    cases h1 : eqScal k x y with
    | none => rw [h1] at h; cases h
    | some c =>
      rw [h1] at h
      simp only [Option.bind_some] at h
      cases h2 : eqCells (k1 ++ k2) xs ys with
      | none => rw [h2] at h; cases h
      | some c2 =>
        obtain ⟨b1, b2, e1, e2, e3⟩ := eqCells_append h2
        rw [h2] at h
        simp only [Option.map_some, Option.some.injEq] at h
        refine ⟨c && b1, b2, ?_, by simpa using e2, ?_⟩
        · simp [eqCells, h1, e1]
        · rw [← h, e3, Bool.and_assoc]

inductive F2 (R : Field → Bool → Prop) : List Field → List Bool → Prop
  | nil : F2 R [] []
  | cons {f b fs bs} (h : R f b) (t : F2 R fs bs) : F2 R (f :: fs) (b :: bs)
theorem F2.imp {R S : Field → Bool → Prop} (h : ∀ f b, R f b → S f b) {fs : List Field} {bs : List Bool} (k : F2 R fs bs) : F2 S fs bs := by
  induction k with
  | nil => exact .nil
  | cons a _ ih => exact .cons (h _ _ a) ih

theorem forIn_eq (body : Field → (Option Bool × Unit) → Sem (ForInStep (Option Bool × Unit))) {fs : List Field} {bs : List Bool}
    (h : F2 (fun f b => (body f (none, ())).run P w = .ok (if b then .yield (none, ()) else .done (some false, ())) w) fs bs) :
    (forIn fs ((none, ()) : Option Bool × Unit) body).run P w = .ok (if bs.all id then (none, ()) else (some false, ())) w := by
  induction h with
  | nil => rfl
  | @cons f b fs bs h1 _ ih =>
    rw [List.forIn_cons, Sem.run_bind, h1, Result.andThen_ok]
    cases b with
    | true => simp only [if_true, List.all_cons, id, Bool.true_and]; exact ih
    | false => simp

theorem run_part {t : TypeId} {d : TypeDesc} {n : Nat} (hu : P.underlying t = some d) (hs : (P.info? t).map (·.size) = some n) (hg : aggOf P t = false → n = 1) {cs : List Value} {off : Nat} (hl : off + n ≤ cs.length) :
    (part t cs.toArray off).run P w = .ok (mkC (aggOf P t) ((cs.drop off).take n)) w := by
  simp only [part, Sem.run_bind, run_isAgg hu, Result.andThen_ok]
  cases hagg : aggOf P t with
  | true => simp [run_sizeOf hs, mkC]
  | false =>
    have := hg hagg
    subst this
    have hlt : off < cs.length := by omega
    have : (cs.drop off).take 1 = [cs[off]] := by
      rw [List.drop_eq_getElem_cons hlt]; rfl
    simp [mkC, hlt, this]

theorem flat_agg {d : Nat} {t : TypeId} {ks : List K3} (h : flatT P d t = some ks) : (∃ de, P.underlying t = some de) ∧ (aggOf P t = false → ks.length = 1) := by
  match d with
  | 0 => cases h
  | d + 1 =>
    simp only [flatT] at h
    cases hu : P.underlying t with
    | none => rw [hu] at h; cases h
    | some de =>
      refine ⟨⟨de, rfl⟩, fun ha => ?_⟩
      rw [hu] at h
      unfold aggOf at ha
      rw [hu] at ha
      cases de <;> simp at h ha <;> subst h <;> rfl

theorem equal_scal {t : TypeId} {D : Nat} {k : K3} {x y : V} {b : Bool} {cx cy : Value} {bx bY : List Nat} (hx : RepL w G [x] [cx] bx) (hy : RepL w G [y] [cy] bY) (he : eqScal k x y = some b)
    (hu : (k = .b ∧ P.underlying t = some .bool) ∨ (k = .i ∧ ∃ j, P.underlying t = some (.int j)) ∨ (k = .s ∧ P.underlying t = some .string)) : (Op.equalIn (D + 1) t cx cy).run P w = .ok b w := by
  unfold eqScal at he
  split at he
  · rcases hu with ⟨h, _⟩ | ⟨_, j, hu⟩ | ⟨h, _⟩ <;> first | (cases h; done) | skip
    split at he
    · rename_i hjk
      cases he
      obtain ⟨_, hcs, _⟩ := hx.int_inv
      cases hcs
      obtain ⟨_, hcs, _⟩ := hy.int_inv
      cases hcs
      simp [Op.equalIn, run_underlying hu, hjk]
    · cases he
  · rcases hu with ⟨h, _⟩ | ⟨h, _⟩ | ⟨_, hu⟩ <;> first | (cases h; done) | skip
    cases he
    obtain ⟨b1, _, h1, hcs, _⟩ := hx.str_inv
    cases hcs
    obtain ⟨b2, _, h2, hcs, _⟩ := hy.str_inv
    cases hcs
    subst h1 h2
    have : (b1 == b2) = (b1.data.toList == b2.data.toList) := by
      have : (b1 == b2) = (b1.data == b2.data) := rfl
      rw [this, Bool.eq_iff_iff]
      simp
    simp only [Op.equalIn, Sem.run_bind, run_underlying hu, Result.andThen_ok, Sem.run_pure, this]
  · rcases hu with ⟨_, hu⟩ | ⟨h, _⟩ | ⟨h, _⟩ <;> first | (cases h; done) | skip
    cases he
    obtain ⟨_, hcs, _⟩ := hx.bool_inv
    cases hcs
    obtain ⟨_, hcs, _⟩ := hy.bool_inv
    cases hcs
    simp [Op.equalIn, run_underlying hu]
  · cases he

theorem RepL.takeDrop {vs : List V} {cs : List Value} {bl : List Nat} (h : RepL w G vs cs bl) (n : Nat) (hn : n ≤ vs.length) : (∃ b1, RepL w G (vs.take n) (cs.take n) b1) ∧ ∃ b2, RepL w G (vs.drop n) (cs.drop n) b2 := by
  have e := h
  rw [← List.take_append_drop n vs] at e
  obtain ⟨b1, b2, _, h1, h2⟩ := RepL.split _ e
  rw [List.length_take, Nat.min_eq_left hn] at h1 h2
  exact ⟨⟨b1, h1⟩, ⟨b2, h2⟩⟩

theorem equal_flat : ∀ (d : Nat),
    (∀ (t : TypeId) (ks : List K3) (D : Nat) (xs ys : List V) (cx cy : List Value) (b : Bool) (bx bY : List Nat), flatT P d t = some ks → d ≤ D → RepL w G xs cx bx → RepL w G ys cy bY → eqCells ks xs ys = some b →
      (Op.equalIn D t (mkC (aggOf P t) cx) (mkC (aggOf P t) cy)).run P w = .ok b w) ∧
    (∀ (fs : List Field) (off : Nat) (ks : List K3), flatFs P d fs off = some ks → ∀ (D : Nat) (xs ys : List V) (cx cy : List Value) (b : Bool) (bx bY : List Nat), d ≤ D + 1 → RepL w G xs cx bx → RepL w G ys cy bY →
      eqCells ks (xs.drop off) (ys.drop off) = some b → off ≤ xs.length → off ≤ ys.length →
      ∃ bs : List Bool, bs.all id = b ∧ F2 (fun f c => f.name ≠ "_" ∧ ∃ x, (part f.type cx.toArray f.offset).run P w = .ok x w ∧ ∃ y, (part f.type cy.toArray f.offset).run P w = .ok y w ∧ (Op.equalIn D f.type x y).run P w = .ok c w) fs bs) := by
  intro d
  induction d with
  | zero => exact ⟨(fun t ks D xs ys cx cy b bx bY h => by cases h), (fun fs off ks h => by cases h)⟩
  | succ d ih =>
    obtain ⟨ihA, ihB⟩ := ih
    constructor
    · intro t ks D xs ys cx cy b bx bY h hD hx hy he
      obtain ⟨hl1, hl2⟩ := eqCells_length he
      obtain ⟨D, rfl⟩ : ∃ m, D = m + 1 := ⟨D - 1, by omega⟩
      have one : ∀ k, ks = [k] → aggOf P t = false → ((k = .b ∧ P.underlying t = some .bool) ∨ (k = .i ∧ ∃ j, P.underlying t = some (.int j)) ∨ (k = .s ∧ P.underlying t = some .string)) →
          (Op.equalIn (D + 1) t (mkC (aggOf P t) cx) (mkC (aggOf P t) cy)).run P w = .ok b w := by
        intro k hk ha hu
        subst hk
        match xs, hl1 with
        | [x], _ =>
          match ys, hl2 with
          | [y], _ =>
            obtain ⟨c1, rfl⟩ := hx.single
            obtain ⟨c2, rfl⟩ := hy.single
            simp only [eqCells] at he
            cases h1 : eqScal k x y with
            | none => rw [h1] at he; cases he
            | some c =>
              rw [h1] at he
              simp at he
              subst he
              rw [ha]
              exact equal_scal hx hy h1 hu
      simp only [flatT] at h
      cases hu : P.underlying t with
      | none => rw [hu] at h; cases h
      | some de =>
        rw [hu] at h
        have hagg : aggOf P t = (match de with | .struct _ | .array _ _ => true | _ => false) := by unfold aggOf; simp only [hu]; cases de <;> rfl
        cases de <;> simp only [reduceCtorEq] at h
        case bool => cases h; exact one .b rfl hagg (.inl ⟨rfl, hu⟩)
        case int j => cases h; exact one .i rfl hagg (.inr (.inl ⟨rfl, j, hu⟩))
        case string => cases h; exact one .s rfl hagg (.inr (.inr ⟨rfl, hu⟩))
        case struct fs =>
          split at h
          · cases h
          · rename_i hst
            have hst : P.stoodInHeld t = false := by simpa using hst
            obtain ⟨bs, hall, hf⟩ := ihB fs.toList 0 ks h D xs ys cx cy b bx bY (by omega) hx hy (by simpa using he) (Nat.zero_le _) (Nat.zero_le _)
            rw [hagg]
            simp only [mkC]
            simp only [Op.equalIn, Sem.run_bind, run_underlying hu, Result.andThen_ok, run_program, hst, Bool.false_eq_true, if_false]
            rw [← Array.forIn_toList]
            rw [forIn_eq (bs := bs)]
            · simp only [Result.andThen_ok]
              rw [hall]
              cases b <;> rfl
            · refine hf.imp ?_
              rintro f c ⟨h1, x, h2, y, h3, h4⟩
              simp only [if_pos h1, Sem.run_bind, h2, h3, h4, Result.andThen_ok]
              cases c <;> rfl
    · intro fs off ks h D xs ys cx cy b bx bY hD hx hy he ho1 ho2
      match fs with
      | [] =>
        cases h
        have : b = true := by
          have := eqCells_length he
          match hxd : xs.drop off, hyd : ys.drop off, this with
          | [], [], _ => rw [hxd, hyd] at he; simp [eqCells] at he; exact he
        exact ⟨[], by simp [this], .nil⟩
      | f :: fs =>
        simp only [flatFs] at h
        split at h
        · rename_i hfn
          obtain ⟨hname, hoff⟩ := hfn
          cases hft : flatT P d f.type with
          | none => rw [hft] at h; cases h
          | some n =>
            rw [hft] at h
            simp only at h
            split at h
            · rename_i hsz
              have hsz := sizeIs_eq hsz
              cases hfs : flatFs P d fs (off + n.length) with
              | none => rw [hfs] at h; cases h
              | some ks2 =>
                rw [hfs] at h
                simp only [Option.map_some, Option.some.injEq] at h
                subst h
                obtain ⟨b1, b2, e1, e2, rfl⟩ := eqCells_append he
                obtain ⟨l1, l2⟩ := eqCells_length he
                simp only [List.length_append, List.length_drop] at l1 l2
                obtain ⟨⟨de, hu⟩, hg⟩ := flat_agg hft
                rw [List.drop_drop, List.drop_drop] at e2
                obtain ⟨bs, hall, hf⟩ := ihB fs (off + n.length) ks2 hfs D xs ys cx cy b2 bx bY (by omega) hx hy e2 (by omega) (by omega)
                obtain ⟨_, ⟨bx1, hx1⟩⟩ := hx.takeDrop off (by omega)
                obtain ⟨⟨bx2, hx2⟩, _⟩ := hx1.takeDrop n.length (by simp; omega)
                obtain ⟨_, ⟨by1, hy1⟩⟩ := hy.takeDrop off (by omega)
                obtain ⟨⟨by2, hy2⟩, _⟩ := hy1.takeDrop n.length (by simp; omega)
                have hA := ihA f.type n D _ _ _ _ b1 _ _ hft (by omega) hx2 hy2 e1
                refine ⟨b1 :: bs, by simp [hall], .cons ⟨hname, ?_⟩ hf⟩
                have hlx : cx.length = xs.length := hx.length.symm
                have hly : cy.length = ys.length := hy.length.symm
                exact ⟨_, run_part hu hsz hg (by omega), _, run_part hu hsz hg (by omega), by rw [hoff]; exact hA⟩
            · cases h
        · cases h

theorem RepL.agg_inv {ws : List V} {c : Value} {bl : List Nat} (h : RepL w G [.agg ws] [c] bl) : ∃ acs b, c = .agg acs.toArray ∧ RepL w G ws acs b := by
  cases h with
  | imm _ _ h _ => cases h
  | agg hx _ => exact ⟨_, _, rfl, hx⟩

theorem equal_maxDepth {t : TypeId} {x y : Value} {b : Bool} (h : ∀ D, 20 ≤ D → (Op.equalIn D t x y).run P w = .ok b w) : (Op.equal t x y).run P w = .ok b w := h 10000 (by omega)

theorem eqc_post (hok : Ok w G own H) {t : TypeId} {ne agg : Bool} {ks : List K3} {x y : V} {cx cy : Value} {b : Bool} {bl : List Nat} (hf : flatT P 20 t = some ks) (ha : aggOf P t = agg) (hg : P.eqGuardType P.depth t = false) (hnb : agg = false → ks = [.b])
    (hr : RepL w G [x, y] [cx, cy] bl) (he : eqV ks agg x y = some b) (ox oy : Operand) :
    DoneV ((do eqGuard (if ne then .neq else .eql) t ox oy cx cy; binOp (if ne then .neq else .eql) t cx cy : Sem Value).run P w) (Post w G own (.bool (b != ne)) H) := by
  obtain ⟨c1, cs', b1, b2, hcs, _, h1, h2⟩ := hr.cons_inv
  cases hcs
  cases agg with
  | false =>
    obtain rfl := hnb rfl
    simp only [eqV, eqCells] at he
    cases hs : eqScal .b x y with
    | none => rw [hs] at he; cases he
    | some c =>
      rw [hs] at he
      simp at he
      subst he
      have hu : P.underlying t = some .bool := by
        simp only [flatT] at hf
        cases hu : P.underlying t with
        | none => rw [hu] at hf; cases hf
        | some de =>
          rw [hu] at hf
          unfold aggOf at ha
          rw [hu] at ha
          cases de <;> simp at hf ha ⊢
      cases x <;> cases y <;> simp [eqScal] at hs
      rename_i p q
      obtain ⟨_, hcs, _⟩ := h1.bool_inv
      cases hcs
      obtain ⟨_, hcs, _⟩ := h2.bool_inv
      cases hcs
      subst hs
      exact eqBool_post hok hu p q ox oy
  | true =>
    cases x <;> simp only [eqV, reduceCtorEq] at he
    rename_i xs
    cases y <;> simp only [reduceCtorEq] at he
    rename_i ys
    obtain ⟨acs, _, rfl, hx⟩ := h1.agg_inv
    obtain ⟨acs', _, rfl, hy⟩ := h2.agg_inv
    have hE := equal_maxDepth (P := P) (w := w) (t := t) (x := .agg acs.toArray) (y := .agg acs'.toArray) (b := b) (by
      intro D hD
      have := (equal_flat (P := P) (w := w) (G := G) 20).1 t ks D xs ys acs acs' b _ _ hf hD hx hy he
      rw [ha] at this
      exact this)
    have hgr : (eqGuard (if ne then .neq else .eql) t ox oy (.agg acs.toArray) (.agg acs'.toArray)).run P w = .ok () w := by
      cases ne <;> simp [eqGuard, hg]
    rw [Sem.run_bind, hgr, Result.andThen_ok]
    cases ne <;> simp [binOp, hE] <;> exact .ok (post_plain hok (.bool _ .nil))
end
end Go.Proofs.YtoaohapbbnpbeaaGreat.Vm
namespace Go.Proofs.YtoaohapbbnpbeaaGreat.Vm
open Go

/-- The types that keys may have: numbers, texts, pairs of numbers. -/
inductive KeyK (P : Program) (kt : TypeId) : Bool → List K3 → Prop
  | int {k} (h : P.underlying kt = some (.int k)) : KeyK P kt false [.i]
  | str (h : P.underlying kt = some .string) : KeyK P kt false [.s]
  | two {e k} (h : P.underlying kt = some (.array 2 e)) (hs : (P.info? e).map (·.size) = some 1) (he : P.underlying e = some (.int k)) : KeyK P kt true [.i, .i]
def keyOk (P : Program) (kt : TypeId) (ka : Bool) (ks : List K3) : Bool := match P.underlying kt with
  | some (.int _) => !ka && ks == [.i]
  | some .string => !ka && ks == [.s]
  | some (.array n e) => ka && n == 2 && ks == [.i, .i] && sizeIs P e 1 && (match P.underlying e with | some (.int _) => true | _ => false)
  | _ => false
theorem keyOk_eq {P : Program} {kt : TypeId} {ka : Bool} {ks : List K3} (h : keyOk P kt ka ks = true) : KeyK P kt ka ks := by
  unfold keyOk at h
  split at h
  · rename_i k hu
    simp only [Bool.and_eq_true, Bool.not_eq_true', beq_iff_eq] at h
    obtain ⟨rfl, rfl⟩ := h
    exact .int hu
  · rename_i hu
    simp only [Bool.and_eq_true, Bool.not_eq_true', beq_iff_eq] at h
    obtain ⟨rfl, rfl⟩ := h
    exact .str hu
  · rename_i n e hu
    simp only [Bool.and_eq_true, beq_iff_eq] at h
    obtain ⟨⟨⟨⟨rfl, rfl⟩, rfl⟩, hs⟩, he⟩ := h
    split at he
    · rename_i k hk; exact .two hu (sizeIs_eq hs) hk
    · cases he
  · cases h

section
variable {P : Program} {w : World} {G : Gh} {own : Nat → Option Place} {H : Heap}
theorem ba_ext {a b : ByteArray} (h : a.data.toList = b.data.toList) : a = b := by
  cases a; cases b; congr; exact Array.toList_inj.1 h
/-- One cell held against another. -/
theorem scal_key {k : K3} {x y : V} {b : Bool} {cx cy : Value} {bx bY : List Nat} (hx : RepL w G [x] [cx] bx) (hy : RepL w G [y] [cy] bY) (he : eqScal k x y = some b) :
    (k = .i ∧ ∃ j n m, x = .int j n ∧ y = .int j m ∧ cx = .int j n ∧ cy = .int j m ∧ b = (n == m)) ∨ (k = .s ∧ ∃ s t : ByteArray, cx = .string s ∧ cy = .string t ∧ b = (s == t) ∧ x = .str s.data.toList) ∨ (k = .b ∧ ∃ p q, cx = .bool p ∧ cy = .bool q ∧ b = (p == q)) := by
  unfold eqScal at he
  split at he
  · split at he
    · rename_i hjk
      subst hjk
      cases he
      obtain ⟨_, hcs, _⟩ := hx.int_inv
      cases hcs
      obtain ⟨_, hcs, _⟩ := hy.int_inv
      cases hcs
      exact .inl ⟨rfl, _, _, _, rfl, rfl, rfl, rfl, rfl⟩
    · cases he
  · cases he
    obtain ⟨b1, _, h1, hcs, _⟩ := hx.str_inv
    cases hcs
    obtain ⟨b2, _, h2, hcs, _⟩ := hy.str_inv
    cases hcs
    subst h1 h2
    refine .inr (.inl ⟨rfl, b1, b2, rfl, rfl, ?_, rfl⟩)
    have : (b1 == b2) = (b1.data == b2.data) := rfl
    rw [this, Bool.eq_iff_iff]
    simp
  · cases he
    obtain ⟨_, hcs, _⟩ := hx.bool_inv
    cases hcs
    obtain ⟨_, hcs, _⟩ := hy.bool_inv
    cases hcs
    exact .inr (.inr ⟨rfl, _, _, rfl, rfl, rfl⟩)
  · cases he
theorem ba_beq {s t : ByteArray} : (s == t) = true ↔ s = t := by
  have : (s == t) = (s.data == t.data) := rfl
  rw [this, beq_iff_eq]
  exact ⟨fun h => by cases s; cases t; congr, fun h => by rw [h]⟩
theorem part_two {e : TypeId} {k : IntKind} (hs : (P.info? e).map (·.size) = some 1) (he : P.underlying e = some (.int k)) (a b : Value) :
    (part e #[a, b] 0).run P w = .ok a w ∧ (part e #[a, b] 1).run P w = .ok b w := by
  have hag : aggOf P e = false := by unfold aggOf; rw [he]
  constructor
  · have := run_part (P := P) (w := w) he hs (fun _ => rfl) (cs := [a, b]) (off := 0) (by simp)
    rw [hag] at this; exact this
  · have := run_part (P := P) (w := w) he hs (fun _ => rfl) (cs := [a, b]) (off := 1) (by simp)
    rw [hag] at this; exact this
theorem range_two : (List.range' 0 (Std.Legacy.Range.size [0:2]) 1) = [0, 1] := by decide

/-- KEYS held against each other, as a map does it. -/
theorem key_eql {kt : TypeId} {ka : Bool} {ks : List K3} (hk : KeyK P kt ka ks) {x y : V} {b : Bool} {cx cy : Value} {bx bY : List Nat} (hx : RepL w G [x] [cx] bx) (hy : RepL w G [y] [cy] bY) (he : eqV ks ka x y = some b) :
    (Op.equal kt cx cy).run P w = .ok b w ∧ (b = true → cx = cy) ∧ (∃ d, P.underlying kt = some d ∧ (Instr.sameNow d cx cy = some b ∨ Instr.sameNow d cx cy = none)) ∧ (∀ e, (Instr.checkKey e 10000 kt cx).run P w = .ok () w) ∧ Instr.sameBits 10000 cx cx = true := by
  cases hk with
  | @int k h =>
    simp only [eqV, eqCells] at he
    cases hs : eqScal .i x y with
    | none => rw [hs] at he; cases he
    | some c =>
      rw [hs] at he
      simp only [Option.bind_some, Option.map_some, Bool.and_true, Option.some.injEq] at he
      subst he
      rcases scal_key hx hy hs with ⟨_, j, n, m, rfl, rfl, rfl, rfl, rfl⟩ | ⟨h, _⟩ | ⟨h, _⟩
      · refine ⟨equal_scal (D := 9999) hx hy hs (.inr (.inl ⟨rfl, _, h⟩)), fun e => ?_, ⟨_, h, .inl ?_⟩, fun e => ?_, ?_⟩
        · have : n = m := by simpa using e
          rw [this]
        · simp [Instr.sameNow]
        · unfold Instr.checkKey
          simp [run_underlying h]
        · simp [Instr.sameBits]
      · cases h
      · cases h
  | str h =>
    simp only [eqV, eqCells] at he
    cases hs : eqScal .s x y with
    | none => rw [hs] at he; cases he
    | some c =>
      rw [hs] at he
      simp only [Option.bind_some, Option.map_some, Bool.and_true, Option.some.injEq] at he
      subst he
      rcases scal_key hx hy hs with ⟨h, _⟩ | ⟨_, s, t, rfl, rfl, rfl, _⟩ | ⟨h, _⟩
      · cases h
      · refine ⟨equal_scal (D := 9999) hx hy hs (.inr (.inr ⟨rfl, h⟩)), fun e => ?_, ⟨_, h, .inl ?_⟩, fun e => ?_, ?_⟩
        · rw [ba_beq.1 e]
        · simp [Instr.sameNow]
        · unfold Instr.checkKey
          simp [run_underlying h]
        · show (s == s) = true
          exact ba_beq.2 rfl
      · cases h
  | @two e k h hs he0 =>
    cases x <;> simp only [eqV, reduceCtorEq] at he
    rename_i xs
    cases y <;> simp only [reduceCtorEq] at he
    rename_i ys
    obtain ⟨acs, _, rfl, hxl⟩ := hx.agg_inv
    obtain ⟨acs', _, rfl, hyl⟩ := hy.agg_inv
    obtain ⟨l1, l2⟩ := eqCells_length he
    match xs, l1, ys, l2 with
    | [x1, x2], _, [y1, y2], _ =>
      obtain ⟨a1, r1, _, _, e1, _, p1, q1⟩ := hxl.cons_inv
      subst e1
      obtain ⟨a2, r2, _, _, e2, _, p2, q2⟩ := q1.cons_inv
      subst e2
      obtain ⟨rfl, _⟩ := q2.nil_inv
      obtain ⟨c1, s1, _, _, e1, _, p3, q3⟩ := hyl.cons_inv
      subst e1
      obtain ⟨c2, s2, _, _, e2, _, p4, q4⟩ := q3.cons_inv
      subst e2
      obtain ⟨rfl, _⟩ := q4.nil_inv
      simp only [eqCells] at he
      cases h1 : eqScal .i x1 y1 with
      | none => rw [h1] at he; cases he
      | some b1 =>
        cases h2 : eqScal .i x2 y2 with
        | none => rw [h1, h2] at he; cases he
        | some b2 =>
          rw [h1, h2] at he
          simp only [Option.bind_some, Option.map_some, Bool.and_true, Option.some.injEq] at he
          subst he
          have E1 := equal_scal (P := P) (D := 9998) (t := e) p1 p3 h1 (.inr (.inl ⟨rfl, _, he0⟩))
          have E2 := equal_scal (P := P) (D := 9998) (t := e) p2 p4 h2 (.inr (.inl ⟨rfl, _, he0⟩))
          rcases scal_key p1 p3 h1 with ⟨_, j, n, m, rfl, rfl, rfl, rfl, rfl⟩ | ⟨h, _⟩ | ⟨h, _⟩
          · rcases scal_key p2 p4 h2 with ⟨_, j', n', m', rfl, rfl, rfl, rfl, rfl⟩ | ⟨h, _⟩ | ⟨h, _⟩
            · obtain ⟨u1, u2⟩ := part_two (P := P) (w := w) hs he0 (.int j n) (.int j' n')
              obtain ⟨v1, v2⟩ := part_two (P := P) (w := w) hs he0 (.int j m) (.int j' m')
              refine ⟨?_, fun eb => ?_, ⟨_, h, .inr rfl⟩, fun em => ?_, ?_⟩
              · show (Op.equalIn 10000 kt _ _).run P w = _
                unfold Op.equalIn
                simp only [Sem.run_bind, run_underlying h, Result.andThen_ok, run_sizeOf hs, Std.Legacy.Range.forIn_eq_forIn_range', range_two]
                simp only [List.forIn_cons, List.forIn_nil, Nat.zero_mul, Nat.one_mul, Sem.run_bind, u1, u2, v1, v2, Result.andThen_ok, E1, E2]
                cases hb1 : n == m <;> cases hb2 : n' == m' <;> simp [hb1, hb2, u1, u2, v1, v2, E1, E2]
              · simp only [Bool.and_eq_true, beq_iff_eq] at eb
                rw [eb.1, eb.2]
              · unfold Instr.checkKey
                simp only [Sem.run_bind, run_underlying h, Result.andThen_ok, run_sizeOf hs, Std.Legacy.Range.forIn_eq_forIn_range', range_two, List.forIn_cons, List.forIn_nil, Nat.zero_mul, Nat.one_mul, u1, u2]
                unfold Instr.checkKey
                simp [run_underlying he0, u1, u2, run_sizeOf hs]
              · simp [Instr.sameBits]
            · cases h
            · cases h
          · cases h
          · cases h

/-- What a search answers. -/
def found (ents : List MapEntry) (n : Nat) : Option Nat → Option (Nat × Value)
  | none => none
  | some i => (ents[i - n]?).map fun e => (i, e.val)
theorem RepL.two {x y : V} {vs : List V} {cs : List Value} {bl : List Nat} (h : RepL w G (x :: y :: vs) cs bl) : ∃ a b cs', cs = a :: b :: cs' := by
  obtain ⟨a, c1, _, _, rfl, _, _, h2⟩ := h.cons_inv
  obtain ⟨b, c2, _, _, rfl, _, _, _⟩ := h2.cons_inv
  exact ⟨a, b, c2, rfl⟩
theorem find_scan {kt : TypeId} {ka : Bool} {ks : List K3} (hk : KeyK P kt ka ks) {k : V} {ck : Value} {bk : List Nat} (h1 : RepL w G [k] [ck] bk) :
    ∀ {es : List (V × V)} {ents : List MapEntry} {n : Nat} {r : Option Nat}, RepL w G (es.map (·.1)) (ents.map (·.key)) [] → findV ka ks k es n = some r →
      (Instr.findAsking kt ck ents n).run P w = .ok (found ents n r) w ∧ (∃ d, P.underlying kt = some d ∧ (Instr.findNow d ck ents n = some (found ents n r) ∨ Instr.findNow d ck ents n = none)) ∧
      (∀ i, r = some i → n ≤ i ∧ i - n < es.length ∧ ∃ e, ents[i - n]? = some e ∧ e.key = ck) ∧ (∀ e, (Instr.checkKey e 10000 kt ck).run P w = .ok () w) ∧ Instr.sameBits 10000 ck ck = true
  | [], ents, n, r, hr, hf => by
    obtain ⟨he, _⟩ := hr.nil_inv
    have he : ents = [] := by simpa using he
    subst he
    unfold findV at hf
    obtain ⟨b, h2, h3⟩ := Option.map_eq_some_iff.1 hf
    subst h3
    obtain ⟨_, _, ⟨d, hd, _⟩, k4, k5⟩ := key_eql hk h1 h1 h2
    exact ⟨rfl, ⟨d, hd, .inl rfl⟩, fun i hi => (by cases hi), k4, k5⟩
  | e :: es, ents, n, r, hr, hf => by
    obtain ⟨c, cs', b1, b2, hcs, hb, p1, p2⟩ := hr.cons_inv
    match ents, hcs with
    | t :: ents, hcs =>
      simp only [List.map_cons, List.cons.injEq] at hcs
      obtain ⟨hc1, rfl⟩ := hcs
      have hb0 : b1 = [] ∧ b2 = [] := by
        have := hb.symm
        exact List.append_eq_nil_iff.1 this
      obtain ⟨rfl, rfl⟩ := hb0
      subst hc1
      unfold findV at hf
      obtain ⟨b, h2, h3⟩ := Option.bind_eq_some_iff.1 hf
      obtain ⟨q1, q2, ⟨d, hd, q3⟩, q4, q5⟩ := key_eql hk h1 p1 h2
      cases b with
      | true =>
        simp only [if_true, Option.some.injEq] at h3
        subst h3
        refine ⟨?_, ⟨d, hd, ?_⟩, fun i hi => ?_, q4, q5⟩
        · unfold Instr.findAsking
          simp [q1, found]
        · unfold Instr.findNow
          rcases q3 with q3 | q3 <;> simp [q3, found]
        · cases hi
          exact ⟨Nat.le_refl _, by simp, t, by simp, (q2 rfl).symm⟩
      | false =>
        simp only [Bool.false_eq_true, if_false] at h3
        obtain ⟨i1, ⟨d', hd', i2⟩, i3, _, _⟩ := find_scan hk h1 p2 h3
        have hfd : ∀ r, (∀ i, r = some i → n + 1 ≤ i) → found ents (n + 1) r = found (t :: ents) n r := by
          intro r hr
          cases r with
          | none => rfl
          | some i =>
            have := hr i rfl
            show (ents[i - (n + 1)]?).map _ = ((t :: ents)[i - n]?).map _
            rw [show i - n = (i - (n + 1)) + 1 by omega, List.getElem?_cons_succ]
        have hfd := hfd r fun i hi => (i3 i hi).1
        rw [hfd] at i1 i2
        refine ⟨?_, ⟨d, hd, ?_⟩, fun i hi => ?_, q4, q5⟩
        · unfold Instr.findAsking
          simp [q1, i1]
        · unfold Instr.findNow
          rw [hd] at hd'
          cases hd'
          rcases q3 with q3 | q3
          · simp only [q3]; exact i2
          · simp [q3]
        · obtain ⟨j1, j2, e', j3, j4⟩ := i3 i hi
          exact ⟨by omega, by simp only [List.length_cons]; omega, e', by rw [show i - n = (i - (n + 1)) + 1 by omega, List.getElem?_cons_succ]; exact j3, j4⟩
theorem find_key {kt : TypeId} {ka : Bool} {ks : List K3} (hk : KeyK P kt ka ks) {k : V} {ck : Value} {bk : List Nat} (h1 : RepL w G [k] [ck] bk) {es : List (V × V)} {ents : List MapEntry} {r : Option Nat}
    (hr : RepL w G (es.map (·.1)) (ents.map (·.key)) []) (hf : findV ka ks k es 0 = some r) :
    (Instr.findKey kt ck ents).run P w = .ok (found ents 0 r) w ∧ (∀ i, r = some i → i < es.length ∧ ∃ e, ents[i]? = some e ∧ e.key = ck) ∧ (∀ e, (Instr.checkKey e 10000 kt ck).run P w = .ok () w) ∧ Instr.sameBits 10000 ck ck = true := by
  obtain ⟨h2, ⟨d, hd, h3⟩, h4, h5, h6⟩ := find_scan hk h1 hr hf
  refine ⟨?_, fun i hi => ⟨by simpa using (h4 i hi).2.1, by simpa using (h4 i hi).2.2⟩, h5, h6⟩
  unfold Instr.findKey
  simp only [Sem.run_bind, run_underlying hd, Result.andThen_ok]
  rcases h3 with h3 | h3
  · simp [h3]
  · simp [h3, h2]

/-- A map that is there. -/
theorem map_live (hok : Ok w G own H) {id : Nat} {es : List (V × V)} (h : H[id]? = some (.map es)) {c : Value} {bl : List Nat} (hr : RepL w G [.map id] [c] bl) :
    ∃ b ents clk, c = .map (some b) ∧ G.loc[id]? = some (b, 0, 0) ∧ own b = some (.obj id) ∧ w.heap[b]? = some (.map ents clk) ∧ RepL w G (es.map (·.1)) (ents.toList.map (·.key)) [] ∧ RepL w G (es.map (·.2)) (ents.toList.map (·.val)) [] := by
  obtain ⟨b, ents, clk, h1, h2, h3, h4, h5⟩ := hok.obj id _ h
  cases hr with
  | imm _ _ hi _ => cases hi
  | map _ b' ver' n bb hl hb _ =>
    rw [h1] at hl
    cases hl
    rw [hb rfl]
    exact ⟨b, ents, clk, rfl, h1, h2, h3, h4, h5⟩
theorem mapOf_eq {m : V} {es : List (V × V)} (h : mapOf H m = some es) : (m = .nilmap ∧ es = []) ∨ ∃ id, m = .map id ∧ H[id]? = some (.map es) := by
  unfold mapOf at h
  split at h
  · cases h; exact .inl ⟨rfl, rfl⟩
  · rename_i id
    split at h
    · rename_i es' he; cases h; exact .inr ⟨id, rfl, he⟩
    · cases h
  · cases h
/-- A map's entries, as the machine reads them. -/
theorem map_read (hok : Ok w G own H) {m : V} {es : List (V × V)} (h : mapOf H m = some es) {c : Value} {bl : List Nat} (hr : RepL w G [m] [c] bl) :
    (c = .map none ∧ es = []) ∨ ∃ b ents clk, c = .map (some b) ∧ w.heap[b]? = some (.map ents clk) ∧ RepL w G (es.map (·.1)) (ents.toList.map (·.key)) [] ∧ RepL w G (es.map (·.2)) (ents.toList.map (·.val)) [] := by
  rcases mapOf_eq h with ⟨rfl, rfl⟩ | ⟨id, rfl, hm⟩
  · left
    refine ⟨?_, rfl⟩
    cases hr with
    | imm _ _ hi _ => cases hi; rfl
  · obtain ⟨b, ents, clk, h1, _, _, h4, h5, h6⟩ := map_live hok hm hr
    exact .inr ⟨b, ents, clk, h1, h4, h5, h6⟩

theorem makeMap_post (hok : Ok w G own H) (t : TypeId) : DoneV ((Instr.makeMap t none).run P w) (Post w G own (.map H.length) (H ++ [.map []])) := by
  refine ⟨.map (some w.heap.size), { w with heap := w.heap.push (.map #[] 0) }, rfl, ?_⟩
  have e : ({ w with heap := w.heap.push (.map #[] 0) } : World).heap = w.heap.push (.map #[] 0) := rfl
  generalize hw' : ({ w with heap := w.heap.push (.map #[] 0) } : World) = w' at e
  have ht : w'.tape = w.tape := by rw [← hw']
  have hos : w'.os = w.os := by rw [← hw']
  have hout : w'.output = w.output := by rw [← hw']
  have hE := Ext.pushed hok e ht hos hout (fun _ => none) (some (.obj H.length)) [(w.heap.size, 0, 0)]
  have himm : addImm G.imm w.heap.size (fun _ => none) = G.imm := by
    funext b o
    by_cases hb : b = w.heap.size
    · subst hb; rw [addImm_same, hok.fresh]
    · rw [addImm_ne _ _ _ hb]
  rw [himm] at hE
  have hloc : (G.loc ++ [(w.heap.size, 0, 0)])[H.length]? = some (w.heap.size, 0, 0) := by rw [hok.len]; simp
  have hP := hok.pushed e (fun _ => none) (fun i v h => by cases h) (some (.obj H.length))
  rw [himm] at hP
  refine ⟨⟨G.imm, G.loc ++ [(w.heap.size, 0, 0)]⟩, setO own w.heap.size (some (.obj H.length)), [], ⟨hP.imm, hP.size, by simp [hok.len], ?_⟩, .map H.length w.heap.size 0 0 _ hloc (fun _ => rfl) .nil, List.nodup_nil, (fun _ h => by cases h), hE⟩
  intro i ob hob
  rcases Nat.lt_or_ge i H.length with hlt | hge
  · rw [List.getElem?_append_left hlt] at hob
    refine (hP.obj i ob hob).mono (G := ⟨G.imm, G.loc⟩) (G' := ⟨G.imm, G.loc ++ [(w.heap.size, 0, 0)]⟩) (fun _ _ _ h => h) (loc_append G _) ?_ fun b hb => ⟨rfl, fun _ => rfl, rfl⟩
    have : i < G.loc.length := by rw [← hok.len]; exact hlt
    exact List.getElem?_append_left this
  · have : i = H.length := by
      rcases Nat.lt_or_ge H.length i with h' | h'
      · rw [List.getElem?_eq_none (by simp; omega)] at hob; cases hob
      · omega
    subst this
    simp at hob; subst hob
    exact ⟨w.heap.size, #[], 0, hloc, setO_same _ _ _, heap_new e, .nil, .nil⟩

theorem lookup_post (hok : Ok w G own H) {t kt e : TypeId} (hu : P.underlying t = some (.map kt e)) {ka : Bool} {ks : List K3} (hk : KeyK P kt ka ks) {it : TypeInfo} {z : Value} (hi : P.info? e = some it) (hz : it.zero = some z)
    {zv : V} (hzr : RepL w G [zv] [z] []) {m k : V} {cm ck : Value} {bm bk : List Nat} (hm : RepL w G [m] [cm] bm) (hkr : RepL w G [k] [ck] bk) {es : List (V × V)} (hes : mapOf H m = some es) {r : Option Nat} (hf : findV ka ks k es 0 = some r) (ok : Bool)
    {v : V} (hv : (match r with | some i => (es[i]?).map fun e => if ok then V.tup [e.2, .bool true] else e.2 | none => some (if ok then V.tup [zv, .bool false] else zv)) = some v) :
    DoneV ((Instr.lookup t cm ck ok).run P w) (Post w G own v H) := by
  have fin : ∀ (x : V) (c : Value) (y : Bool), RepL w G [x] [c] [] → RepL w G [if ok then V.tup [x, .bool y] else x] [if ok then Value.tuple #[c, .bool y] else c] [] := by
    intro x c y hx
    cases ok with
    | false => exact hx
    | true => exact .tup (acs := [c, .bool y]) (b1 := []) (RepL.cons hx (.imm _ _ (.bool _ .nil) .nil)) .nil
  have hzero : (zeroValue e).run P w = .ok z w := by simp [zeroValue, typeInfo, hi, hz]
  have main : ∀ (ents : Array MapEntry), RepL w G (es.map (·.1)) (ents.toList.map (·.key)) [] → RepL w G (es.map (·.2)) (ents.toList.map (·.val)) [] →
      (∀ e, (Instr.checkKey e 10000 kt ck).run P w = .ok () w) ∧ ((∃ i x, (Instr.findKey kt ck ents.toList).run P w = .ok (some (i, x)) w ∧ RepL w G [v] [if ok then .tuple #[x, .bool true] else x] []) ∨
        ((Instr.findKey kt ck ents.toList).run P w = .ok none w ∧ RepL w G [v] [if ok then .tuple #[z, .bool false] else z] [])) := by
    intro ents h1 h2
    obtain ⟨f1, f2, f3, _⟩ := find_key hk hkr h1 hf
    refine ⟨f3, ?_⟩
    cases r with
    | none =>
      cases hv
      exact .inr ⟨f1, fin zv z false hzr⟩
    | some i =>
      obtain ⟨h3, h4⟩ := Option.map_eq_some_iff.1 hv
      obtain ⟨h5, h6⟩ := h4
      subst h6
      obtain ⟨j1, e', j2, j3⟩ := f2 i rfl
      obtain ⟨c, b, k1, k2, k3⟩ := RepL.at h2 i h3.2 (by rw [List.getElem?_map, h5]; rfl)
      have hb : b = [] := List.eq_nil_iff_forall_not_mem.2 fun x hx => by have := k3.1 x hx; cases this
      subst hb
      rw [List.getElem?_map, j2] at k1
      cases k1
      refine .inl ⟨i, e'.val, ?_, fin h3.2 e'.val true k2⟩
      rw [f1]
      show Result.ok ((ents.toList[i - 0]?).map _) w = _
      rw [Nat.sub_zero, j2]; rfl
  rcases map_read hok hes hm with ⟨rfl, rfl⟩ | ⟨b, ents, clk, rfl, h1, h2, h3⟩
  · obtain ⟨m1, ⟨i, x, m2, m3⟩ | ⟨m2, m3⟩⟩ := main #[] .nil .nil
    · refine ⟨_, w, ?_, post_same hok m3⟩
      simp only [Instr.lookup, Sem.run_bind, run_underlying hu, Result.andThen_ok, Sem.run_pure, m1, m2]
    · refine ⟨_, w, ?_, post_same hok m3⟩
      simp only [Instr.lookup, Sem.run_bind, run_underlying hu, Result.andThen_ok, Sem.run_pure, m1, m2, hzero]
  · have hg : (getObj b).run P w = .ok (.map ents clk) w := by simp [getObj, Sem.run, h1]
    obtain ⟨m1, ⟨i, x, m2, m3⟩ | ⟨m2, m3⟩⟩ := main ents h2 h3
    · refine ⟨_, w, ?_, post_same hok m3⟩
      simp only [Instr.lookup, Sem.run_bind, run_underlying hu, Result.andThen_ok, Sem.run_pure, m1, m2, hg]
    · refine ⟨_, w, ?_, post_same hok m3⟩
      simp only [Instr.lookup, Sem.run_bind, run_underlying hu, Result.andThen_ok, Sem.run_pure, m1, m2, hzero, hg]

/-- A map's entries are written. -/
theorem map_put (hok : Ok w G own H) {id b : Nat} {ents ents' : Array MapEntry} {clk clk' : Nat} {es' : List (V × V)} (hl : G.loc[id]? = some (b, 0, 0)) (ho : own b = some (.obj id)) (hw : w.heap[b]? = some (.map ents clk))
    (h1 : RepL w G (es'.map (·.1)) (ents'.toList.map (·.key)) []) (h2 : RepL w G (es'.map (·.2)) (ents'.toList.map (·.val)) []) {w' : World} (hw' : w' = { w with heap := w.heap.setIfInBounds b (.map ents' clk') }) :
    Post w G own (.tup []) (H.set id (.map es')) (.tuple #[]) w' := by
  subst hw'
  have hlt : b < w.heap.size := World.heap_lt hw
  have hne : ∀ x, x ≠ b → (w.heap.setIfInBounds b (.map ents' clk'))[x]? = w.heap[x]? := fun x hx => by simp [Array.getElem?_setIfInBounds, Ne.symm hx]
  have himm : ∀ x o v, G.imm x o = some v → x ≠ b := by
    rintro x o v hv rfl
    obtain ⟨c, e, f, h, _⟩ := hok.imm x o v hv
    rw [hw] at h; cases h
  have hmono : ∀ {vs : List V} {cs : List Value}, RepL w G vs cs [] → RepL { w with heap := w.heap.setIfInBounds b (.map ents' clk') } G vs cs [] := fun h => h.mono (fun _ _ _ h => h) (loc_refl G) fun _ h => by cases h
  refine ⟨G, own, [], ?_, .tup (acs := []) .nil .nil, List.nodup_nil, (fun _ h => by cases h), ⟨by simp, fun _ _ _ h => h, loc_refl G, fun x hx => ⟨hne x ?_, fun _ => rfl, hx⟩, rfl, rfl, rfl⟩⟩
  · refine hok.replace (fun _ _ _ h => h) (fun x o v hv => ?_) (fun x p hx => by simpa using hok.size x p hx) (loc_refl G) rfl (fun _ _ => rfl) (fun j x hj hx => ⟨hne x ?_, fun _ => rfl, rfl⟩) ?_
    · obtain ⟨c, e, f, h, h3⟩ := hok.imm x o v hv
      exact ⟨c, e, f, by rw [← h]; exact hne x (himm x o v hv), h3⟩
    · rintro rfl
      rcases hx with hx | hx
      · rw [ho] at hx; cases hx; exact hj rfl
      · rw [ho] at hx; cases hx
    · exact ⟨b, ents', clk', hl, ho, by simp [hlt], hmono h1, hmono h2⟩
  · rintro rfl
    rw [ho] at hx; cases hx
theorem zip_modify {α β : Type} (f : α → β) (a : α → α) (l : List α) (i : Nat) (b : β → β) (h : ∀ x, f (a x) = b (f x)) : (l.modify i a).map f = (l.map f).modify i b := by
  apply List.ext_getElem?
  intro j
  simp only [List.getElem?_map, List.getElem?_modify]
  cases l[j]? <;> simp
  split <;> simp [h]
theorem RepL.modify {vs : List V} {cs : List Value} {v : V} {c : Value} {i : Nat} (h : RepL w G vs cs []) (hv : RepL w G [v] [c] []) : RepL w G (vs.modify i fun _ => v) (cs.modify i fun _ => c) [] := by
  induction i generalizing vs cs with
  | zero =>
    cases vs with
    | nil => obtain ⟨rfl, _⟩ := h.nil_inv; exact .nil
    | cons x vs =>
      obtain ⟨a, cs', b1, b2, rfl, hb, _, h2⟩ := h.cons_inv
      have := List.append_eq_nil_iff.1 hb.symm
      obtain ⟨rfl, rfl⟩ := this
      exact RepL.cons hv h2
  | succ i ih =>
    cases vs with
    | nil => obtain ⟨rfl, _⟩ := h.nil_inv; exact .nil
    | cons x vs =>
      obtain ⟨a, cs', b1, b2, rfl, hb, h1, h2⟩ := h.cons_inv
      have := List.append_eq_nil_iff.1 hb.symm
      obtain ⟨rfl, rfl⟩ := this
      exact RepL.cons h1 (ih h2)
theorem RepL.erase {vs : List V} {cs : List Value} {i : Nat} (h : RepL w G vs cs []) : RepL w G (vs.eraseIdx i) (cs.eraseIdx i) [] := by
  induction i generalizing vs cs with
  | zero =>
    cases vs with
    | nil => obtain ⟨rfl, _⟩ := h.nil_inv; exact .nil
    | cons x vs =>
      obtain ⟨a, cs', b1, b2, rfl, hb, _, h2⟩ := h.cons_inv
      have := List.append_eq_nil_iff.1 hb.symm
      obtain ⟨rfl, rfl⟩ := this
      exact h2
  | succ i ih =>
    cases vs with
    | nil => obtain ⟨rfl, _⟩ := h.nil_inv; exact .nil
    | cons x vs =>
      obtain ⟨a, cs', b1, b2, rfl, hb, h1, h2⟩ := h.cons_inv
      have := List.append_eq_nil_iff.1 hb.symm
      obtain ⟨rfl, rfl⟩ := this
      exact RepL.cons h1 (ih h2)
theorem mapUpdate_post (hok : Ok w G own H) {t kt e : TypeId} (hu : P.underlying t = some (.map kt e)) {ka : Bool} {ks : List K3} (hk : KeyK P kt ka ks) {id : Nat} {k v : V} {cm ck cv : Value} {bm bk : List Nat} (hm : RepL w G [.map id] [cm] bm)
    (hkr : RepL w G [k] [ck] []) (hvr : RepL w G [v] [cv] []) {es : List (V × V)} (hes : H[id]? = some (.map es)) {r : Option Nat} (hf : findV ka ks k es 0 = some r) :
    ∃ w', (Instr.mapUpdate t cm ck cv).run P w = .ok () w' ∧ Post w G own (.tup []) (H.set id (.map (match r with | some i => es.modify i fun _ => (k, v) | none => es ++ [(k, v)]))) (.tuple #[]) w' := by
  obtain ⟨b, ents, clk, rfl, h1, h2, h3, h4, h5⟩ := map_live hok hes hm
  have hg : (getObj b).run P w = .ok (.map ents clk) w := by simp [getObj, Sem.run, h3]
  have hset : ∀ o, (setObj b o).run P w = .ok () { w with heap := w.heap.setIfInBounds b o } := fun o => by simp [setObj, Sem.run, h3]
  obtain ⟨f1, f2, f3, f4⟩ := find_key hk hkr h4 hf
  cases r with
  | none =>
    refine ⟨_, by simp only [Instr.mapUpdate, Sem.run_bind, run_underlying hu, Result.andThen_ok, hg, f3, f1, found, hset], map_put (ents' := ents.push { key := ck, val := cv, born := clk }) (clk' := clk + 1) hok h1 h2 h3 ?_ ?_ rfl⟩
    · simp only [List.map_append, List.map_cons, List.map_nil, Array.toList_push]
      exact RepL.append hkr h4
    · simp only [List.map_append, List.map_cons, List.map_nil, Array.toList_push]
      exact RepL.append hvr h5
  | some i =>
    obtain ⟨j1, e', j2, j3⟩ := f2 i rfl
    have j2' : ents[i]? = some e' := by rw [← Array.getElem?_toList]; exact j2
    have hst : (Instr.keyThatStays (((ents[i]?).map (·.key)).getD ck) ck).run P w = .ok ck w := by
      rw [j2']
      show (Instr.keyThatStays e'.key ck).run P w = _
      rw [j3]
      simp [Instr.keyThatStays, f4]
    have hfd : found ents.toList 0 (some i) = some (i, e'.val) := by
      show (ents.toList[i - 0]?).map _ = _
      rw [Nat.sub_zero, j2]; rfl
    rw [hfd] at f1
    refine ⟨_, by simp only [Instr.mapUpdate, Sem.run_bind, run_underlying hu, Result.andThen_ok, hg, f3, f1, hst, hset], map_put (ents' := ents.modify i fun e => { key := ck, val := cv, born := e.born }) (clk' := clk) hok h1 h2 h3 ?_ ?_ rfl⟩
    · simp only [Array.toList_modify]
      rw [zip_modify (·.1) _ es i (fun _ => k) (fun _ => rfl), zip_modify (·.key) _ ents.toList i (fun _ => ck) (fun _ => rfl)]
      exact RepL.modify h4 hkr
    · simp only [Array.toList_modify]
      rw [zip_modify (·.2) _ es i (fun _ => v) (fun _ => rfl), zip_modify (·.val) _ ents.toList i (fun _ => cv) (fun _ => rfl)]
      exact RepL.modify h5 hvr
theorem map_erase {α β : Type} (f : α → β) : ∀ (l : List α) (i : Nat), (l.eraseIdx i).map f = (l.map f).eraseIdx i
  | [], _ => rfl
  | _ :: _, 0 => rfl
  | a :: l, i + 1 => by simp only [List.eraseIdx_cons_succ, List.map_cons, map_erase f l i]
theorem delete_post (hok : Ok w G own H) {t kt e ty t2 : TypeId} (hu : P.underlying t = some (.map kt e)) {ka : Bool} {ks : List K3} (hk : KeyK P kt ka ks) {id : Nat} {k : V} {cm ck : Value} {bm bk : List Nat} (hm : RepL w G [.map id] [cm] bm)
    (hkr : RepL w G [k] [ck] bk) {es : List (V × V)} (hes : H[id]? = some (.map es)) {r : Option Nat} (hf : findV ka ks k es 0 = some r) :
    DoneV ((Builtin.delete_ #[t, t2] ty #[cm, ck]).run P w) (Post w G own (.tup []) (H.set id (.map (match r with | some i => es.eraseIdx i | none => es)))) := by
  obtain ⟨b, ents, clk, rfl, h1, h2, h3, h4, h5⟩ := map_live hok hes hm
  have hg : (getObj b).run P w = .ok (.map ents clk) w := by simp [getObj, Sem.run, h3]
  have hset : ∀ o, (setObj b o).run P w = .ok () { w with heap := w.heap.setIfInBounds b o } := fun o => by simp [setObj, Sem.run, h3]
  obtain ⟨f1, f2, f3, f4⟩ := find_key hk hkr h4 hf
  cases r with
  | none =>
    refine ⟨.tuple #[], _, by simp [Builtin.delete_, run_underlying hu, hg, f3, f1, found, hset], map_put (ents' := ents) (clk' := clk) hok h1 h2 h3 h4 h5 rfl⟩
  | some i =>
    obtain ⟨j1, e', j2, j3⟩ := f2 i rfl
    have hfd : found ents.toList 0 (some i) = some (i, e'.val) := by
      show (ents.toList[i - 0]?).map _ = _
      rw [Nat.sub_zero, j2]; rfl
    rw [hfd] at f1
    have hlt : i < ents.size := by
      have := (List.getElem?_eq_some_iff.1 j2).1
      simpa using this
    refine ⟨.tuple #[], _, by simp [Builtin.delete_, run_underlying hu, hg, f3, f1, hset], map_put (ents' := ents.eraseIdxIfInBounds i) (clk' := clk) hok h1 h2 h3 ?_ ?_ rfl⟩
    · rw [Array.eraseIdxIfInBounds, dif_pos hlt, Array.toList_eraseIdx, map_erase, map_erase]
      exact RepL.erase h4
    · rw [Array.eraseIdxIfInBounds, dif_pos hlt, Array.toList_eraseIdx, map_erase, map_erase]
      exact RepL.erase h5
theorem mapLen_post (hok : Ok w G own H) {t kt e ty : TypeId} (hu : P.underlying t = some (.map kt e)) {m : V} {c : Value} {bl : List Nat} (hm : RepL w G [m] [c] bl) {es : List (V × V)} (hes : mapOf H m = some es) :
    DoneV ((Builtin.len_ #[t] ty #[c]).run P w) (Post w G own (.int .i64 es.length) H) := by
  rcases map_read hok hes hm with ⟨rfl, rfl⟩ | ⟨b, ents, clk, rfl, h1, h2, h3⟩
  · exact ⟨.int .i64 0, w, by simp [Builtin.len_, run_underlying hu, goInt], post_plain hok (.int _ _ .nil)⟩
  · have hg : (getObj b).run P w = .ok (.map ents clk) w := by simp [getObj, Sem.run, h1]
    have hl : es.length = ents.size := by have := h2.length; simpa using this
    exact ⟨.int .i64 ents.size, w, by simp [Builtin.len_, run_underlying hu, hg, goInt], post_plain hok (by rw [hl]; exact .int _ _ .nil)⟩
end
end Go.Proofs.YtoaohapbbnpbeaaGreat.Vm
namespace Go.Proofs.YtoaohapbbnpbeaaGreat.Vm
open Go

/-- A constant. -/
def constOk : V → Value → Bool
  | .int k n, .int k' n' => k == k' && n == n'
  | .bool b, .bool b' => b == b'
  | .str s, .string b => s == b.data.toList
  | .nilp, .pointer none => true
  | .nilmap, .map none => true
  | .nilfn, .nilFunc => true
  | .sl _ _ [], .slice none 0 0 => true
  | .nilh _, .slice none 0 0 => true
  | _, _ => false
def constsOk : List V → List Value → Bool
  | [], [] => true
  | v :: vs, c :: cs => constOk v c && constsOk vs cs
  | _, _ => false
def valOk : V → Value → Bool
  | .u, _ => true
  | .agg vs, .agg cs => constsOk vs cs.toList
  | v, c => constOk v c

theorem constOk_rep {w : World} {G : Gh} {v : V} {c : Value} (h : constOk v c = true) : RepL w G [v] [c] [] := by
  unfold constOk at h
  split at h
  · simp only [Bool.and_eq_true, beq_iff_eq] at h
    obtain ⟨rfl, rfl⟩ := h
    exact .imm _ _ (.int _ _ .nil) .nil
  · simp only [beq_iff_eq] at h; subst h; exact .imm _ _ (.bool _ .nil) .nil
  · simp only [beq_iff_eq] at h; subst h; exact .imm _ _ (.str _ .nil) .nil
  · exact .imm _ _ (.nilp .nil) .nil
  · exact .imm _ _ (.nilmap .nil) .nil
  · exact .imm _ _ (.nilfn .nil) .nil
  · rename_i o sz
    cases o
    · exact .imm _ _ (.slnil sz .nil) .nil
    · exact .slnone sz .nil
  · exact .nilh _ .nil
  · cases h

theorem constsOk_rep {w : World} {G : Gh} : ∀ {vs : List V} {cs : List Value}, constsOk vs cs = true → RepL w G vs cs []
  | [], [], _ => .nil
  | v :: vs, c :: cs, h => by
    simp only [constsOk, Bool.and_eq_true] at h
    simpa using RepL.cons (constOk_rep h.1) (constsOk_rep h.2)
  | [], _ :: _, h => by cases h
  | _ :: _, [], h => by cases h

theorem valOk_rep {w : World} {G : Gh} {v : V} {c : Value} (h : valOk v c = true) : RepL w G [v] [c] [] := by
  unfold valOk at h
  split at h
  · exact .u _ .nil
  · rename_i vs cs
    have := RepL.agg (constsOk_rep (w := w) (G := G) h) (RepL.nil (w := w) (G := G))
    simpa using this
  · exact constOk_rep h

/-- What is plain among constants stands in memory that never changes. -/
def plainOk (vs : List V) (cs : List Value) : Bool := constsOk vs cs && vs.all plain0 && (vs.all fun v => match v with | .sl o _ _ => !o | _ => true)
theorem plain01 {v : V} (h : plain0 v = true) : plain1 v = true ∧ inl0 v = strip0 v := by cases v <;> first | exact ⟨rfl, rfl⟩ | cases h
theorem plainOk_rep {imm : Nat → Nat → Option Value} : ∀ {vs : List V} {cs : List Value}, plainOk vs cs = true → RepI imm vs cs
  | [], [], _ => .nil
  | v :: vs, c :: cs, h => by
    simp only [plainOk, constsOk, List.all_cons, Bool.and_eq_true] at h
    obtain ⟨⟨⟨h1, h2⟩, h3, h4⟩, h5, h6⟩ := h
    refine RepI.cons ?_ (plainOk_rep (by simp only [plainOk, Bool.and_eq_true]; exact ⟨⟨h2, h4⟩, h6⟩))
    have := (constOk_rep (w := default) (G := ⟨imm, []⟩) h1).inl1 (plain01 h3).1
    have hs : strip0 v = v := by
      cases v <;> first | rfl | (cases h3; done) | skip
      rename_i o _ _
      cases o
      · rfl
      · cases h5
    rwa [(plain01 h3).2, hs] at this
  | [], _ :: _, h => by simp [plainOk, constsOk] at h
  | _ :: _, [], h => by simp [plainOk, constsOk] at h

def isSlice (P : Program) (t : TypeId) : Option TypeId := match P.underlying t with
  | some (.slice e) => some e
  | _ => none
theorem isSlice_eq {P : Program} {t e : TypeId} (h : isSlice P t = some e) : P.underlying t = some (.slice e) := by
  unfold isSlice at h
  split at h
  · rename_i e' hu; cases h; exact hu
  · cases h

/-- A type of elements: its size, its bytes, the zero of it. -/
def elemOk (P : Program) (e : TypeId) (sz bytes : Nat) : Bool := match P.info? e with
  | some i => i.size == sz && i.bytes == bytes && (match i.zero with | some z => z.cells.size == sz | none => false)
  | none => false
theorem elemOk_eq {P : Program} {e : TypeId} {sz bytes : Nat} (h : elemOk P e sz bytes = true) : ∃ i z, P.info? e = some i ∧ i.zero = some z ∧ i.size = sz ∧ i.bytes = bytes ∧ z.cells.size = i.size := by
  unfold elemOk at h
  split at h
  · rename_i i hi
    simp only [Bool.and_eq_true, beq_iff_eq] at h
    obtain ⟨⟨h1, h2⟩, h3⟩ := h
    split at h3
    · rename_i z hz
      exact ⟨i, z, hi, hz, h1, h2, by simpa [h1] using h3⟩
    · cases h3
  · cases h

def zeroOk (P : Program) (t : TypeId) (zs : List V) : Bool := match P.info? t with
  | some i => (match i.zero with | some z => plainOk zs z.cells.toList | none => false)
  | none => false
theorem zeroOk_eq {P : Program} {t : TypeId} {zs : List V} (h : zeroOk P t zs = true) : ∃ i z, P.info? t = some i ∧ i.zero = some z ∧ ∀ imm, RepI imm zs z.cells.toList := by
  unfold zeroOk at h
  split at h
  · rename_i i hi
    split at h
    · rename_i z hz; exact ⟨i, z, hi, hz, fun imm => plainOk_rep h⟩
    · cases h
  · cases h
/-- Zeros that may bear lists which are objects. -/
def zeroOk' (P : Program) (t : TypeId) (zs : List V) : Bool := match P.info? t with
  | some i => (match i.zero with | some z => constsOk zs z.cells.toList | none => false)
  | none => false
theorem zeroOk'_eq {P : Program} {t : TypeId} {zs : List V} (h : zeroOk' P t zs = true) : ∃ i z, P.info? t = some i ∧ i.zero = some z ∧ ∀ w G, RepL w G zs z.cells.toList [] := by
  unfold zeroOk' at h
  split at h
  · rename_i i hi
    split at h
    · rename_i z hz; exact ⟨i, z, hi, hz, fun w G => constsOk_rep h⟩
    · cases h
  · cases h

def loadOk (P : Program) (t : TypeId) (n : Nat) (agg : Bool) : Bool := (P.underlying t).isSome && sizeIs P t n && (aggOf P t == agg) && (agg || n == 1)
theorem loadOk_eq {P : Program} {t : TypeId} {n : Nat} {agg : Bool} (h : loadOk P t n agg = true) : ∃ d, P.underlying t = some d ∧ (P.info? t).map (·.size) = some n ∧ aggOf P t = agg ∧ (aggOf P t = false → n = 1) := by
  simp only [loadOk, Bool.and_eq_true, beq_iff_eq, Bool.or_eq_true] at h
  obtain ⟨⟨⟨h1, h2⟩, h3⟩, h4⟩ := h
  obtain ⟨d, hd⟩ := Option.isSome_iff_exists.1 h1
  exact ⟨d, hd, sizeIs_eq h2, h3, fun e => by rw [h3] at e; rcases h4 with h4 | h4 <;> simp_all⟩

def fieldOk (P : Program) (t : TypeId) (f : Nat) : Option Field := match P.underlying t with
  | some (.struct fs) => fs[f]?
  | _ => none
theorem fieldOk_eq {P : Program} {t : TypeId} {f : Nat} {fd : Field} (h : fieldOk P t f = some fd) : ∃ fs, P.underlying t = some (.struct fs) ∧ fs[f]? = some fd := by
  unfold fieldOk at h
  split at h
  · rename_i fs hu; exact ⟨fs, hu, h⟩
  · cases h

def binOf (ne : Bool) : BinOp := if ne then .neq else .eql

def placesOk (P : Program) (t : TypeId) (zs : List V) (ps : List (Nat × Nat)) (is : List Nat) : Bool := match P.underlying t with
  | some (.struct fields) => zeroOk' P t zs && (match fields.toList.mapM (fun f => (P.info? f.type).map fun i => (f.offset, i.size)) with
    | some places => is.map (places[·]?) == ps.map some
    | none => false)
  | some (.array _ e) => zeroOk' P t zs && (match P.info? e with
    | some ie => is.map (fun i => (i * ie.size, ie.size)) == ps
    | none => false)
  | _ => false

def chkAppend (P : Program) (o : Oper) (sz bytes : Nat) (str : Bool) : Bool := match o.op with
  | .call c => (match c.callee, c.args.toList, c.argTypes.toList with
    | .builtin .append, [_, _], [t, tx] => (match isSlice P t with
      | some e => elemOk P e sz bytes && (match P.underlying tx with | some (.slice _) => !str | some .string => str | _ => false)
      | none => false)
    | _, _, _ => false)
  | _ => false
def chkLen (P : Program) (o : Oper) (str : Bool) : Bool := match o.op with
  | .call c => (match c.callee, c.args.toList, c.argTypes.toList with
    | .builtin .len, [_], [t] => (match P.underlying t with | some (.slice _) => !str | some .string => str | _ => false)
    | _, _, _ => false)
  | _ => false

def zeroAt (P : Program) (t : TypeId) (zs : List V) (agg : Bool) : Bool := zeroOk P t zs && (match P.info? t with
  | some i => (match i.zero with | some (.agg _) => agg | some (.tuple _) => false | some _ => !agg | none => false)
  | none => false)
theorem zeroAt_eq {P : Program} {t : TypeId} {zs : List V} {agg : Bool} (h : zeroAt P t zs agg = true) : ∃ i z, P.info? t = some i ∧ i.zero = some z ∧ (∀ imm, RepI imm zs z.cells.toList) ∧ z = mkC agg z.cells.toList := by
  unfold zeroAt at h
  rw [Bool.and_eq_true] at h
  obtain ⟨i, z, h1, h2, h3⟩ := zeroOk_eq h.1
  refine ⟨i, z, h1, h2, h3, ?_⟩
  have h4 := h.2
  rw [h1] at h4
  simp only [h2] at h4
  split at h4
  · rename_i he; cases he; subst h4; simp [mkC, Value.cells]
  · cases h4
  · rename_i z' n1 n2 he
    cases he
    have : agg = false := by simpa using h4
    subst this
    cases z <;> first | rfl | exact absurd rfl (n1 _) | exact absurd rfl (n2 _)
  · cases h4
def chkMap (P : Program) (t : TypeId) (ka : Bool) (ks : List K3) : Bool := match P.underlying t with
  | some (.map kt _) => keyOk P kt ka ks
  | _ => false
def chkAct (P : Program) (o : Oper) : Act → Bool
  | .mv => (match o.op with | .move _ => true | .assign _ => true | _ => false)
  | .thaw => (match o.op with | .move _ => true | .assign _ => true | _ => false)
  | .pick => (match o.op with | .pick .. => true | _ => false)
  | .bin op => (match o.op with | .binOp op' _ _ _ _ => op == op' | _ => false)
  | .eqc ne agg ks => (match o.op with | .binOp op t _ _ _ => op == binOf ne && flatT P 20 t == some ks && aggOf P t == agg && !P.eqGuardType P.depth t && (agg || ks == [.b]) | _ => false)
  | .isNil ne => (match o.op with | .binOp op t _ (.const c) _ => op == binOf ne && nilFits P t c | _ => false)
  | .not => (match o.op with | .unOp .not _ _ => true | _ => false)
  | .neg => (match o.op with | .unOp .neg _ _ => true | _ => false)
  | .conv k => (match o.op with | .convert s d _ => (P.underlying s).isSome && (match P.underlying d with | some (.int k') => k == k' | _ => false) | _ => false)
  | .same => (match o.op with | .convert s d _ => (P.underlying s).isSome && (match P.underlying d with | some .string => true | _ => false) | _ => false)
  | .toStr => (match o.op with
    | .convert s d _ => (match P.underlying s, P.underlying d with
      | some (.slice e), some .string => (match P.underlying e with | some (.int .u8) => true | _ => false)
      | _, _ => false)
    | _ => false)
  | .alloc zs => (match o.op with | .alloc t => zeroOk' P t zs | _ => false)
  | .box => (match o.op with | .box .. => true | _ => false)
  | .boxB t _ => (match o.op with | .box t' _ => t' == t | _ => false)
  | .build zs ps => (match o.op with | .build t parts => placesOk P t zs ps (parts.toList.map (·.1)) | _ => false)
  | .buildSl sz => (match o.op with
    | .buildSlice t n parts => (match isSlice P t with
      | some e => elemOk P e sz (P.bytesOf e) && decide (0 < sz) && n == parts.size && parts.toList.map (·.1) == List.range n && decide (n * sz ≤ 16777216)
      | none => false)
    | _ => false)
  | .buildFr sz => (match o.op with
    | .buildSlice t n parts => (match isSlice P t with
      | some e => elemOk P e sz (P.bytesOf e) && decide (0 < sz) && n == parts.size && parts.toList.map (·.1) == List.range n && decide (n * sz ≤ 16777216)
      | none => false)
    | _ => false)
  | .load n agg => (match o.op with | .load t _ => loadOk P t n agg | _ => false)
  | .loadT n agg => (match o.op with | .load t _ => loadOk P t n agg | _ => false)
  | .loadL _ n agg => (match o.op with | .load t _ => loadOk P t n agg | _ => false)
  | .loadTL _ n agg => (match o.op with | .load t _ => loadOk P t n agg | _ => false)
  | .allocL _ zs => (match o.op with | .alloc t => zeroOk' P t zs | _ => false)
  | .store n => (match o.op with | .store t _ _ => sizeIs P t n | _ => false)
  | .loadC n agg => (match o.op with | .load t _ => loadOk P t n agg | _ => false)
  | .storeP n => (match o.op with | .store t _ _ => sizeIs P t n | _ => false)
  | .allocR _ zs => (match o.op with | .alloc t => zeroOk' P t zs | _ => false)
  | .nilCheck => (match o.op with | .nilCheck _ => true | _ => false)
  | .fieldAddr off => (match o.op with
    | .fieldAddr t _ f => (match fieldOk P t f with
      | some fd => fd.offset == off && (match P.info? fd.type with | some i => i.size != 0 | none => false)
      | none => false)
    | _ => false)
  | .field off n agg => (match o.op with
    | .field t _ f => (match fieldOk P t f with
      | some fd => fd.offset == off && loadOk P fd.type n agg
      | none => false)
    | _ => false)
  | .indexAddr sz => (match o.op with | .indexAddr t _ _ => (match isSlice P t with | some e => sizeIs P e sz | none => false) | _ => false)
  | .indexStr => (match o.op with | .index t _ _ => (match P.underlying t with | some .string => true | _ => false) | _ => false)
  | .slice lo hi sz => (match o.op with
    | .slice t _ l h m => l.isSome == lo && h.isSome == hi && m.isNone && (match isSlice P t with | some e => sizeIs P e sz | none => false)
    | _ => false)
  | .sliceStr lo hi => (match o.op with
    | .slice t _ l h m => l.isSome == lo && h.isSome == hi && m.isNone && (match P.underlying t with | some .string => true | _ => false)
    | _ => false)
  | .makeSl sz bytes zs => (match o.op with | .makeSlice t _ _ => (match isSlice P t with | some e => elemOk P e sz bytes && zeroOk P e zs && decide (0 < sz) | none => false) | _ => false)
  | .makeH sz bytes zs => (match o.op with | .makeSlice t _ _ => (match isSlice P t with | some e => elemOk P e sz bytes && zeroOk' P e zs && decide (0 < sz) | none => false) | _ => false)
  | .append sz bytes => chkAppend P o sz bytes false
  | .appendS bytes => chkAppend P o 1 bytes true
  | .appendR sz bytes => chkAppend P o sz bytes false
  | .appendH sz bytes => chkAppend P o sz bytes false
  | .appendA sz bytes => chkAppend P o sz bytes false
  | .len => chkLen P o false
  | .lenStr => chkLen P o true
  | .min => (match o.op with
    | .call c => (match c.callee, c.args.toList with
      | .builtin .min, [_, _] => true
      | _, _ => false)
    | _ => false)
  | .max => (match o.op with
    | .call c => (match c.callee, c.args.toList with
      | .builtin .max, [_, _] => true
      | _, _ => false)
    | _ => false)
  | .extract i => (match o.op with | .extract _ i' => i == i' | _ => false)
  | .mkfn f => (match o.op with | .makeFunc (.func f') first _ => f == f' && first.isEmpty | _ => false)
  | .makeMap => (match o.op with | .makeMap _ none => true | _ => false)
  | .lookup ka ks ok zs agg => (match o.op with
    | .lookup t _ _ ok' => ok == ok' && (match P.underlying t with | some (.map kt e) => keyOk P kt ka ks && zeroAt P e zs agg | _ => false)
    | _ => false)
  | .mapUpdate ka ks => (match o.op with | .mapUpdate t _ _ _ => chkMap P t ka ks | .insert t _ _ _ => chkMap P t ka ks | _ => false)
  | .delete ka ks => (match o.op with
    | .call c => (match c.callee, c.args.toList, c.argTypes.toList with
      | .builtin .delete, [_, _], [t, _] => chkMap P t ka ks
      | _, _, _ => false)
    | _ => false)
  | .mapLen => (match o.op with
    | .call c => (match c.callee, c.args.toList, c.argTypes.toList with
      | .builtin .len, [_], [t] => (match P.underlying t with | some (.map _ _) => true | _ => false)
      | _, _, _ => false)
    | _ => false)
  | _ => false

section
variable {P : Program} {w : World} {G : Gh} {own : Nat → Option Place} {H : Heap}

theorem DoneV.done {x : Sem Value} {R : Value → World → Prop} (h : DoneV (x.run P w) R) : Done ((do pure (.value (← x)) : Sem Next).run P w) R := by
  obtain ⟨c, w', e, hr⟩ := h
  exact .inl ⟨c, w', by simp [e], hr⟩


theorem args1 {vs : List V} {c : Value} {bl : List Nat} (h : RepL w G vs [c] bl) : ∃ v, vs = [v] := by
  have := h.length
  match vs, this with
  | [v], _ => exact ⟨v, rfl⟩

theorem Done.pure {c : Value} {R : Value → World → Prop} (h : R c w) : Done ((Pure.pure (Next.value c) : Sem Next).run P w) R := .inl ⟨c, w, rfl, h⟩

variable {o : Oper} {ρ : Operand → Value} {vs : List V} {v : V} {H' : Heap} {bl : List Nat}

theorem snd_mv (hok : Ok w G own H) (hc : chkAct P o .mv = true) (hr : RepL w G vs (o.op.operands.toList.map ρ) bl) (hn : bl.Nodup) (ha : ∀ b ∈ bl, own b = some .arg) (hs : sMv vs H = some (v, H')) : Done ((execOp ρ o).run P w) (Post w G own v H') := by
  unfold sMv at hs; split at hs
  · cases hs
    simp only [chkAct] at hc; split at hc
    · rename_i x ho
      rw [ho] at hr
      unfold execOp; simp only [ho]
      exact .pure (post_arg hok hr hn ha)
    · rename_i x ho
      rw [ho] at hr
      unfold execOp; simp only [ho]
      exact .pure (post_arg hok hr hn ha)
    · cases hc
  · cases hs

theorem snd_thaw (hok : Ok w G own H) (hc : chkAct P o .thaw = true) (hr : RepL w G vs (o.op.operands.toList.map ρ) bl) (hn : bl.Nodup) (ha : ∀ b ∈ bl, own b = some .arg) (hs : sThaw vs H = some (v, H')) : Done ((execOp ρ o).run P w) (Post w G own v H') := by
  unfold sThaw at hs; split at hs
  · cases hs
    simp only [chkAct] at hc; split at hc
    · rename_i x ho
      rw [ho] at hr
      unfold execOp; simp only [ho]
      exact .pure (thaw_post hok hr ha)
    · rename_i x ho
      rw [ho] at hr
      unfold execOp; simp only [ho]
      exact .pure (thaw_post hok hr ha)
    · cases hc
  · cases hs
    simp only [chkAct] at hc; split at hc
    · rename_i x ho
      rw [ho] at hr
      unfold execOp; simp only [ho]
      exact .pure (post_arg hok hr hn ha)
    · rename_i x ho
      rw [ho] at hr
      unfold execOp; simp only [ho]
      exact .pure (post_arg hok hr hn ha)
    · cases hc
  · cases hs

theorem snd_pick (hok : Ok w G own H) (hc : chkAct P o .pick = true) (hr : RepL w G vs (o.op.operands.toList.map ρ) bl) (hn : bl.Nodup) (ha : ∀ b ∈ bl, own b = some .arg) (hs : sPick vs H = some (v, H')) : Done ((execOp ρ o).run P w) (Post w G own v H') := by
  unfold sPick at hs; split at hs
  · rename_i c x y
    cases hs
    simp only [chkAct] at hc; split at hc
    · rename_i xc xa xb ho
      rw [ho] at hr
      simp only [Op.operands, List.map_cons, List.map_nil] at hr
      obtain ⟨cs', hcs, hr⟩ := hr.bool_inv
      obtain ⟨hc0, rfl⟩ := List.cons.inj hcs
      obtain ⟨ca, cs2, b1, b2, hcs2, rfl, h1, h2⟩ := hr.cons_inv
      obtain ⟨rfl, rfl⟩ := List.cons.inj hcs2
      obtain ⟨n1, n2, _⟩ := List.nodup_append.1 hn
      unfold execOp; simp only [ho, hc0, asBool, Sem.run_bind, Sem.run_pure, Result.andThen_ok]
      refine .inl ⟨_, w, rfl, ?_⟩
      cases c with
      | true => exact post_arg hok h1 n1 fun b hb => ha b (List.mem_append_left _ hb)
      | false => exact post_arg hok h2 n2 fun b hb => ha b (List.mem_append_right _ hb)
    · cases hc
  · cases hs

theorem snd_bin (hok : Ok w G own H) {op : BinOp} (hc : chkAct P o (.bin op) = true) (hr : RepL w G vs (o.op.operands.toList.map ρ) bl) (hs : sBin op vs H = some (v, H')) : Done ((execOp ρ o).run P w) (Post w G own v H') := by
  simp only [chkAct] at hc; split at hc
  · rename_i op' t x y yt ho
    have : op = op' := by simpa using hc
    subst this
    rw [ho] at hr
    simp only [Op.operands, List.map_cons, List.map_nil] at hr
    unfold execOp; simp only [ho]
    unfold sBin at hs; split at hs
    · split at hs
      · rename_i hjk
        subst hjk
        obtain ⟨r, hb, he⟩ := Option.map_eq_some_iff.1 hs
        cases he
        obtain ⟨cs', hcs, hr⟩ := hr.int_inv
        obtain ⟨h1, rfl⟩ := List.cons.inj hcs
        obtain ⟨cs', hcs, hr⟩ := hr.int_inv
        obtain ⟨h2, rfl⟩ := List.cons.inj hcs
        simp only [h1, h2]
        exact DoneV.done (binInt_post hok hb t x y)
      · cases hs
    · obtain ⟨b1, cs', rfl, hcs, hr⟩ := hr.str_inv
      obtain ⟨h1, rfl⟩ := List.cons.inj hcs
      obtain ⟨b2, cs', rfl, hcs, hr⟩ := hr.str_inv
      obtain ⟨h2, rfl⟩ := List.cons.inj hcs
      cases hb : binStr op b1.data.toList b2.data.toList with
      | none => rw [hb] at hs; cases hs
      | some r =>
        rw [hb] at hs; cases hs
        simp only [h1, h2]
        exact DoneV.done (binStr_post hok hb t x y)
    · cases hs
  · cases hc

theorem binOf_eq {op : BinOp} {ne : Bool} (h : (op == binOf ne) = true) : op = if ne then .neq else .eql := by
  have : op = binOf ne := by simpa using h
  rw [this]; rfl

theorem snd_eqc (hok : Ok w G own H) {ne agg : Bool} {ks : List K3} (hc : chkAct P o (.eqc ne agg ks) = true) (hr : RepL w G vs (o.op.operands.toList.map ρ) bl) (hs : sEqc ne agg ks vs H = some (v, H')) : Done ((execOp ρ o).run P w) (Post w G own v H') := by
  simp only [chkAct] at hc; split at hc
  · rename_i op t x y yt ho
    simp only [Bool.and_eq_true, Bool.or_eq_true, Bool.not_eq_true', beq_iff_eq] at hc
    obtain ⟨⟨⟨⟨h1, h2⟩, h3⟩, h4⟩, h5⟩ := hc
    have h1 : op = if ne then .neq else .eql := h1
    rw [ho] at hr
    simp only [Op.operands, List.map_cons, List.map_nil] at hr
    unfold execOp; simp only [ho]
    unfold sEqc at hs; split at hs
    · obtain ⟨b, hb, he⟩ := Option.map_eq_some_iff.1 hs
      cases he
      rw [h1]
      refine DoneV.done (eqc_post hok h2 h3 h4 (fun h => ?_) hr hb x y)
      rcases h5 with h5 | h5
      · rw [h] at h5; cases h5
      · exact h5
    · cases hs
  · cases hc

theorem snd_isNil (hok : Ok w G own H) (hcn : ∀ c, ρ (.const c) = c) {ne : Bool} (hc : chkAct P o (.isNil ne) = true) (hr : RepL w G vs (o.op.operands.toList.map ρ) bl) (hs : sIsNil ne vs H = some (v, H')) : Done ((execOp ρ o).run P w) (Post w G own v H') := by
  simp only [chkAct] at hc; split at hc
  · rename_i op t x c yt ho
    simp only [Bool.and_eq_true, beq_iff_eq] at hc
    obtain ⟨h1, h2⟩ := hc
    have h1 : op = if ne then .neq else .eql := h1
    rw [ho] at hr
    simp only [Op.operands, List.map_cons, List.map_nil, hcn] at hr
    unfold execOp; simp only [ho, hcn]
    unfold sIsNil at hs; split at hs
    · obtain ⟨b, hb, he⟩ := Option.map_eq_some_iff.1 hs
      cases he
      rw [h1]
      obtain ⟨c1, cs', b1, b2, hcs, _, r1, r2⟩ := hr.cons_inv
      obtain ⟨hc1, rfl⟩ := List.cons.inj hcs
      rw [← hc1] at r1
      exact DoneV.done (isNil_post hok r1 h2 ⟨_, r2⟩ hb x _)
    · cases hs
  · cases hc

theorem snd_not (hok : Ok w G own H) (hc : chkAct P o .not = true) (hr : RepL w G vs (o.op.operands.toList.map ρ) bl) (hs : sNot vs H = some (v, H')) : Done ((execOp ρ o).run P w) (Post w G own v H') := by
  simp only [chkAct] at hc; split at hc
  · rename_i t x ho
    rw [ho] at hr
    simp only [Op.operands, List.map_cons, List.map_nil] at hr
    unfold execOp; simp only [ho]
    unfold sNot at hs; split at hs
    · cases hs
      obtain ⟨cs', hcs, hr⟩ := hr.bool_inv
      obtain ⟨h1, rfl⟩ := List.cons.inj hcs
      rw [h1]
      exact DoneV.done (not_post hok _)
    · cases hs
  · cases hc

theorem snd_neg (hok : Ok w G own H) (hc : chkAct P o .neg = true) (hr : RepL w G vs (o.op.operands.toList.map ρ) bl) (hs : sNeg vs H = some (v, H')) : Done ((execOp ρ o).run P w) (Post w G own v H') := by
  simp only [chkAct] at hc; split at hc
  · rename_i t x ho
    rw [ho] at hr
    simp only [Op.operands, List.map_cons, List.map_nil] at hr
    unfold execOp; simp only [ho]
    unfold sNeg at hs; split at hs
    · cases hs
      obtain ⟨cs', hcs, hr⟩ := hr.int_inv
      obtain ⟨h1, rfl⟩ := List.cons.inj hcs
      rw [h1]
      exact DoneV.done (neg_post hok _ _)
    · cases hs
  · cases hc

theorem snd_conv (hok : Ok w G own H) {k : IntKind} (hc : chkAct P o (.conv k) = true) (hr : RepL w G vs (o.op.operands.toList.map ρ) bl) (hs : sConv k vs H = some (v, H')) : Done ((execOp ρ o).run P w) (Post w G own v H') := by
  simp only [chkAct] at hc; split at hc
  · rename_i s d x ho
    simp only [Bool.and_eq_true] at hc
    obtain ⟨h1, h2⟩ := hc
    obtain ⟨ds, h1⟩ := Option.isSome_iff_exists.1 h1
    split at h2
    · rename_i k' hd
      have : k = k' := by simpa using h2
      subst this
      rw [ho] at hr
      simp only [Op.operands, List.map_cons, List.map_nil] at hr
      unfold execOp; simp only [ho]
      unfold sConv at hs; split at hs
      · cases hs
        obtain ⟨cs', hcs, hr⟩ := hr.int_inv
        obtain ⟨h3, rfl⟩ := List.cons.inj hcs
        rw [h3]
        exact DoneV.done (conv_post hok h1 hd _ _)
      · cases hs
    · cases h2
  · cases hc

theorem snd_same (hok : Ok w G own H) (hc : chkAct P o .same = true) (hr : RepL w G vs (o.op.operands.toList.map ρ) bl) (hs : sSame vs H = some (v, H')) : Done ((execOp ρ o).run P w) (Post w G own v H') := by
  simp only [chkAct] at hc; split at hc
  · rename_i s d x ho
    simp only [Bool.and_eq_true] at hc
    obtain ⟨h1, h2⟩ := hc
    obtain ⟨ds, h1⟩ := Option.isSome_iff_exists.1 h1
    split at h2
    · rename_i hd
      rw [ho] at hr
      simp only [Op.operands, List.map_cons, List.map_nil] at hr
      unfold execOp; simp only [ho]
      unfold sSame at hs; split at hs
      · cases hs
        obtain ⟨b, cs', rfl, hcs, hr⟩ := hr.str_inv
        obtain ⟨h3, rfl⟩ := List.cons.inj hcs
        rw [h3]
        exact DoneV.done (same_post hok h1 hd _)
      · cases hs
    · cases h2
  · cases hc

theorem alloc_post' (hok : Ok w G own H) {t : TypeId} {zs : List V} {z : Value} {i : TypeInfo} (hi : P.info? t = some i) (hz : i.zero = some z) (hr : RepL w G zs z.cells.toList []) (o : Value) :
    DoneV ((Instr.alloc t true o).run P w) (Post w G own (.ptr H.length 0 0) (H ++ [.cells 0 zs])) := by
  refine ⟨.pointer (some ⟨w.heap.size, 0, none⟩), { w with heap := w.heap.push (.cells z.cells t) }, ?_, post_obj hok (cs := z.cells.toList) (t := t) (by simp) rfl rfl rfl hr List.nodup_nil (fun _ h => by cases h)⟩
  simp [Instr.alloc, zeroValue, typeInfo, hi, hz, newVar, newRow]

theorem snd_alloc (hok : Ok w G own H) {zs : List V} (hc : chkAct P o (.alloc zs) = true) (hs : sAlloc zs vs H = some (v, H')) : Done ((execOp ρ o).run P w) (Post w G own v H') := by
  simp only [chkAct] at hc; split at hc
  · rename_i t ho
    obtain ⟨i, z, h1, h2, h3⟩ := zeroOk'_eq hc
    unfold execOp; simp only [ho]
    unfold sAlloc at hs; split at hs
    · cases hs
      exact DoneV.done (alloc_post' hok h1 h2 (h3 w G) _)
    · cases hs
  · cases hc

theorem snd_allocR (hok : Ok w G own H) {t : Nat} {zs : List V} (hc : chkAct P o (.allocR t zs) = true) (hs : sAllocR t zs vs H = some (v, H')) : Done ((execOp ρ o).run P w) (Post w G own v H') := by
  simp only [chkAct] at hc; split at hc
  · rename_i t ho
    obtain ⟨i, z, h1, h2, h3⟩ := zeroOk'_eq hc
    unfold execOp; simp only [ho]
    unfold sAllocR at hs; split at hs
    · obtain ⟨id, g1, g2⟩ := Option.map_eq_some_iff.1 hs
      cases g2
      refine DoneV.done ⟨.pointer (some ⟨w.heap.size, 0, none⟩), { w with heap := w.heap.push (.cells z.cells t) }, ?_, hole_post hok (holeAt_get g1) (cs := z.cells.toList) (ty := t) (by simp) rfl rfl rfl (h3 w G)⟩
      simp [Instr.alloc, zeroValue, typeInfo, h1, h2, newVar, newRow]
    · cases hs
  · cases hc

theorem snd_boxB (hok : Ok w G own H) {t e : Nat} (hc : chkAct P o (.boxB t e) = true) (hr : RepL w G vs (o.op.operands.toList.map ρ) bl) (hn : bl.Nodup) (ha : ∀ b ∈ bl, own b = some .arg) (hs : sBoxB t e vs H = some (v, H')) : Done ((execOp ρ o).run P w) (Post w G own v H') := by
  simp only [chkAct] at hc; split at hc
  · rename_i t' x ho
    have ht : t' = t := by simpa using hc
    subst ht
    rw [ho] at hr
    simp only [Op.operands, List.map_cons, List.map_nil] at hr
    unfold execOp; simp only [ho]
    unfold sBoxB at hs; split at hs
    · cases hs
      exact DoneV.done (boxB_post hok hr hn ha)
    · cases hs
  · cases hc
theorem snd_box (hok : Ok w G own H) (hc : chkAct P o .box = true) (hr : RepL w G vs (o.op.operands.toList.map ρ) bl) (hn : bl.Nodup) (ha : ∀ b ∈ bl, own b = some .arg) (hs : sBox vs H = some (v, H')) : Done ((execOp ρ o).run P w) (Post w G own v H') := by
  simp only [chkAct] at hc; split at hc
  · rename_i t x ho
    rw [ho] at hr
    simp only [Op.operands, List.map_cons, List.map_nil] at hr
    unfold execOp; simp only [ho]
    unfold sBox at hs; split at hs
    · split at hs
      · rename_i hsol
        cases hs
        exact DoneV.done (box_post hok hr hn ha hsol)
      · cases hs
    · cases hs
  · cases hc

theorem zip_parts {ρ : Operand → Value} (parts : Array (Nat × Operand)) : (parts.map fun (i, x) => (i, ρ x)) = ((parts.toList.map (·.1)).zip (parts.toList.map fun p => ρ p.2)).toArray := by
  apply Array.ext'
  simp only [Array.toList_map]
  induction parts.toList with
  | nil => rfl
  | cons p ps ih => simp only [List.map_cons, List.zip_cons_cons, ih]

theorem build_post' (hok : Ok w G own H) {t : TypeId} {fields : Array Field} {it : TypeInfo} {z : Value} {places ps : List (Nat × Nat)} {is : List Nat} {vs zs zs' : List V} {cs : List Value} {bl : List Nat}
    (hu : P.underlying t = some (.struct fields)) (hi : P.info? t = some it) (hz : it.zero = some z) (hp : fields.toList.mapM (fun f => (P.info? f.type).map fun i => (f.offset, i.size)) = some places)
    (hps : is.map (places[·]?) = ps.map some) (hzr : RepL w G zs z.cells.toList []) (hr : RepL w G vs cs bl) (hn : bl.Nodup) (ha : ∀ b ∈ bl, own b = some .arg) (hf : fillV zs ps vs = some zs') :
    DoneV ((Instr.build t (is.zip cs).toArray).run P w) (Post w G own (.agg zs') H) := by
  obtain ⟨r, bl', e1, e2, e3, e4⟩ := fill_rep (fun i => places.toArray[i]?) ps is vs zs zs' cs z.cells [] bl (by simpa using hps) hzr hr (by simpa using hn) hf
  refine ⟨.agg r, w, run_build w t _ r ?_, ?_⟩
  · simp only [Program.built, hi, hu, hz, hp]
    exact e1
  · refine post_arg hok (bl := bl') ?_ e3 (fun b hb => ha b (by simpa using e4 b hb))
    simpa using RepL.agg e2 (RepL.nil (w := w) (G := G))

theorem build_arr_post' (hok : Ok w G own H) {t e : TypeId} {len : Nat} {ie it : TypeInfo} {z : Value} {ps : List (Nat × Nat)} {is : List Nat} {vs zs zs' : List V} {cs : List Value} {bl : List Nat}
    (hu : P.underlying t = some (.array len e)) (hi : P.info? t = some it) (hie : P.info? e = some ie) (hz : it.zero = some z)
    (hps : is.map (fun i => (i * ie.size, ie.size)) = ps) (hzr : RepL w G zs z.cells.toList []) (hr : RepL w G vs cs bl) (hn : bl.Nodup) (ha : ∀ b ∈ bl, own b = some .arg) (hf : fillV zs ps vs = some zs') :
    DoneV ((Instr.build t (is.zip cs).toArray).run P w) (Post w G own (.agg zs') H) := by
  obtain ⟨r, bl', e1, e2, e3, e4⟩ := fill_rep (fun i => some (i * ie.size, ie.size)) ps is vs zs zs' cs z.cells [] bl (by rw [← hps]; simp) hzr hr (by simpa using hn) hf
  refine ⟨.agg r, w, run_build w t _ r ?_, ?_⟩
  · simp only [Program.built, hi, hu, hz, hie]
    exact e1
  · refine post_arg hok (bl := bl') ?_ e3 (fun b hb => ha b (by simpa using e4 b hb))
    simpa using RepL.agg e2 (RepL.nil (w := w) (G := G))

theorem snd_build (hok : Ok w G own H) {zs : List V} {ps : List (Nat × Nat)} (hc : chkAct P o (.build zs ps) = true) (hr : RepL w G vs (o.op.operands.toList.map ρ) bl) (hn : bl.Nodup) (ha : ∀ b ∈ bl, own b = some .arg) (hs : sBuild zs ps vs H = some (v, H')) : Done ((execOp ρ o).run P w) (Post w G own v H') := by
  simp only [chkAct] at hc; split at hc
  · rename_i t parts ho
    rw [ho] at hr
    simp only [Op.operands] at hr
    obtain ⟨zs', hf, he⟩ := Option.map_eq_some_iff.1 hs
    cases he
    unfold execOp; simp only [ho]
    rw [zip_parts]
    have hr : RepL w G vs (parts.toList.map fun p => ρ p.2) bl := by simpa [List.map_map, Function.comp_def] using hr
    unfold placesOk at hc; split at hc
    · rename_i fields hu
      simp only [Bool.and_eq_true] at hc
      obtain ⟨h1, h2⟩ := hc
      obtain ⟨i, z, k1, k2, k3⟩ := zeroOk'_eq h1
      split at h2
      · rename_i places hp
        have h2 := beq_iff_eq.1 h2
        exact DoneV.done (build_post' hok hu k1 k2 hp h2 (k3 w G) hr hn ha hf)
      · cases h2
    · rename_i len e hu
      simp only [Bool.and_eq_true] at hc
      obtain ⟨h1, h2⟩ := hc
      obtain ⟨i, z, k1, k2, k3⟩ := zeroOk'_eq h1
      split at h2
      · rename_i ie hp
        have h2 := beq_iff_eq.1 h2
        exact DoneV.done (build_arr_post' hok hu k1 hp k2 h2 (k3 w G) hr hn ha hf)
      · cases h2
    · cases hc
  · cases hc

theorem snd_buildSl (hok : Ok w G own H) {sz : Nat} (hc : chkAct P o (.buildSl sz) = true) (hr : RepL w G vs (o.op.operands.toList.map ρ) bl) (hs : sBuildSl sz vs H = some (v, H')) : Done ((execOp ρ o).run P w) (Post w G own v H') := by
  simp only [chkAct] at hc; split at hc
  · rename_i t n parts ho
    split at hc
    · rename_i e he
      have hu := isSlice_eq he
      simp only [Bool.and_eq_true, beq_iff_eq, decide_eq_true_eq] at hc
      obtain ⟨⟨⟨⟨h1, h2⟩, h3⟩, h4⟩, h5⟩ := hc
      obtain ⟨i, z, k1, k2, k3, _, _⟩ := elemOk_eq h1
      subst k3
      rw [ho] at hr
      simp only [Op.operands] at hr
      have hr : RepL w G vs (parts.toList.map fun p => ρ p.2) bl := by simpa [List.map_map, Function.comp_def] using hr
      obtain ⟨xs, hf, hx⟩ := Option.map_eq_some_iff.1 hs
      cases hx
      unfold execOp; simp only [ho]
      rw [zip_parts, h4]
      have hlen : (parts.toList.map fun p => ρ p.2).length = n := by rw [List.length_map, h3]; exact Array.length_toList
      have hzip : (List.range n).zip (parts.toList.map fun p => ρ p.2) = ((parts.toList.map fun p => ρ p.2).zipIdx 0).map fun x => (x.2, x.1) := by
        generalize parts.toList.map (fun p => ρ p.2) = l at hlen
        subst hlen
        apply List.ext_getElem?
        intro k
        by_cases hk : k < l.length
        · simp [hk]
        · rw [List.getElem?_eq_none (by simp; omega), List.getElem?_eq_none (by simp; omega)]
      rw [hzip]
      have := buildSl_post hok hu k1 k2 h2 hr hf (by rw [hlen]; exact h5)
      rw [hlen] at this
      exact DoneV.done this
    · cases hc
  · cases hc
theorem snd_buildFr (hok : Ok w G own H) {sz : Nat} (hc : chkAct P o (.buildFr sz) = true) (hr : RepL w G vs (o.op.operands.toList.map ρ) bl) (hs : sBuildFr sz vs H = some (v, H')) : Done ((execOp ρ o).run P w) (Post w G own v H') := by
  simp only [chkAct] at hc; split at hc
  · rename_i t n parts ho
    split at hc
    · rename_i e he
      have hu := isSlice_eq he
      simp only [Bool.and_eq_true, beq_iff_eq, decide_eq_true_eq] at hc
      obtain ⟨⟨⟨⟨h1, h2⟩, h3⟩, h4⟩, h5⟩ := hc
      obtain ⟨i, z, k1, k2, k3, _, _⟩ := elemOk_eq h1
      subst k3
      rw [ho] at hr
      simp only [Op.operands] at hr
      have hr : RepL w G vs (parts.toList.map fun p => ρ p.2) bl := by simpa [List.map_map, Function.comp_def] using hr
      obtain ⟨xs, hf, hx⟩ := Option.bind_eq_some_iff.1 hs
      split at hx
      case isFalse => cases hx
      rename_i hpos
      cases hx
      unfold execOp; simp only [ho]
      rw [zip_parts, h4]
      have hlen : (parts.toList.map fun p => ρ p.2).length = n := by rw [List.length_map, h3]; exact Array.length_toList
      have hzip : (List.range n).zip (parts.toList.map fun p => ρ p.2) = ((parts.toList.map fun p => ρ p.2).zipIdx 0).map fun x => (x.2, x.1) := by
        generalize parts.toList.map (fun p => ρ p.2) = l at hlen
        subst hlen
        apply List.ext_getElem?
        intro k
        by_cases hk : k < l.length
        · simp [hk]
        · rw [List.getElem?_eq_none (by simp; omega), List.getElem?_eq_none (by simp; omega)]
      rw [hzip]
      have := buildFr_post hok hu k1 k2 h2 hr hf (by rw [hlen]; exact h5) hpos
      rw [hlen] at this
      exact DoneV.done this
    · cases hc
  · cases hc
end
end Go.Proofs.YtoaohapbbnpbeaaGreat.Vm
