/-
The value machine, part 2: operations on values.
-/
import Derived.Test.YtglemgdlkddjhaaVm1
namespace Go.Proofs.Ytglemgdlkddjhaa.Vm
open Go

inductive K3 where
  | i | s | b
  deriving DecidableEq, Inhabited

inductive Act where
  | mv
  | pick
  | thaw
  | bin (op : BinOp)
  | eqc (ne agg : Bool) (ks : List K3)
  | isNil (ne : Bool)
  | not
  | neg
  | conv (k : IntKind)
  | toStr
  | same
  | alloc (zs : List V)
  | box
  | build (zs : List V) (places : List (Nat × Nat))
  | buildSl (sz : Nat)
  | buildFr (sz : Nat)
  | load (n : Nat) (agg : Bool)
  | loadT (n : Nat) (agg : Bool)
  | store (n : Nat)
  | nilCheck
  | fieldAddr (off : Nat)
  | field (off n : Nat) (agg : Bool)
  | indexAddr (sz : Nat)
  | indexStr
  | slice (lo hi : Bool) (sz : Nat)
  | sliceStr (lo hi : Bool)
  | makeSl (sz bytes : Nat) (zs : List V)
  | makeH (sz bytes : Nat) (zs : List V)
  | append (sz bytes : Nat)
  | appendS (bytes : Nat)
  | appendR (sz bytes : Nat)
  | appendH (sz bytes : Nat)
  | len
  | lenStr
  | mapLen
  | min
  | max
  | extract (i : Nat)
  | mkfn (f : Nat)
  | makeMap
  | lookup (ka : Bool) (ks : List K3) (ok : Bool) (zs : List V) (agg : Bool)
  | mapUpdate (ka : Bool) (ks : List K3)
  | delete (ka : Bool) (ks : List K3)
  | call (pure : Bool)
  deriving Inhabited

def scal0 : V → Bool
  | .u | .agg _ | .tup _ => false
  | _ => true
def solid : V → Bool
  | .agg _ => true
  | v => scal0 v

def thawL : List V → Heap → List V × Heap
  | [], H => ([], H)
  | .fr sz xs :: vs, H => (.hsl H.length 0 0 xs.length sz :: (thawL vs (H ++ [.cells 0 xs.flatten])).1, (thawL vs (H ++ [.cells 0 xs.flatten])).2)
  | v :: vs, H => (v :: (thawL vs H).1, (thawL vs H).2)

def getCells (H : Heap) (id ver : Nat) : Option (List V) :=
  match H[id]? with
  | some (.cells v cs) => if v = ver then some cs else none
  | _ => none

def mk : Bool → List V → Option V
  | true, l => some (.agg l)
  | false, [v] => some v
  | false, _ => none

def cut (cs : List V) (off n : Nat) : Option (List V) := if off + n ≤ cs.length then some ((cs.drop off).take n) else none
def put (cs : List V) (off : Nat) (vs : List V) : List V := cs.take off ++ vs ++ cs.drop (off + vs.length)

def chunks (sz : Nat) : Nat → List V → List (List V)
  | 0, _ => []
  | n + 1, cs => cs.take sz :: chunks sz n (cs.drop sz)

def binInt (op : BinOp) (k : IntKind) (a b : Int) : Option V :=
  match op with
  | .add => some (.int k (k.wrap (a + b)))
  | .sub => some (.int k (k.wrap (a - b)))
  | .mul => some (.int k (k.wrap (a * b)))
  | .quo => if b = 0 then none else some (.int k (k.wrap (a.tdiv b)))
  | .rem => if b = 0 then none else some (.int k (a.tmod b))
  | .eql => some (.bool (a == b))
  | .neq => some (.bool (a != b))
  | .lss => some (.bool (a < b))
  | .leq => some (.bool (a ≤ b))
  | .gtr => some (.bool (a > b))
  | .geq => some (.bool (a ≥ b))
  | _ => none

def binStr (op : BinOp) (a b : List UInt8) : Option V :=
  match op with
  | .add => if a.length + b.length ≤ 9223372036854775807 then some (.str (a ++ b)) else none
  | .eql => some (.bool (a == b))
  | .neq => some (.bool (!(a == b)))
  | .lss => some (.bool (Op.bytesLess a b))
  | .leq => some (.bool (Op.bytesLess a b || a == b))
  | .gtr => some (.bool !(Op.bytesLess a b || a == b))
  | .geq => some (.bool !(Op.bytesLess a b))
  | _ => none

def eqScal : K3 → V → V → Option Bool
  | .i, .int j a, .int k b => if j = k then some (a == b) else none
  | .s, .str a, .str b => some (a == b)
  | .b, .bool a, .bool b => some (a == b)
  | _, _, _ => none
def eqCells : List K3 → List V → List V → Option Bool
  | [], [], [] => some true
  | k :: ks, x :: xs, y :: ys => (eqScal k x y).bind fun b => (eqCells ks xs ys).map fun c => b && c
  | _, _, _ => none
def eqV (ks : List K3) : Bool → V → V → Option Bool
  | true, .agg xs, .agg ys => eqCells ks xs ys
  | false, x, y => eqCells ks [x] [y]
  | _, _, _ => none

def nilOf : V → V → Option Bool
  | .nilp, .nilp | .nilmap, .nilmap | .nilfn, .nilfn | .nilh _, .nilh _ => some true
  | .ptr .., .nilp | .cptr _, .nilp | .map _, .nilmap | .fn .., .nilfn | .hsl .., .nilh _ => some false
  | .sl _ _ (_ :: _), .nilh _ => some false
  | _, _ => none

def fillV (zs : List V) : List (Nat × Nat) → List V → Option (List V)
  | [], [] => some zs
  | (off, n) :: ps, v :: vs => if solid v ∧ v.cells.length = n ∧ off + n ≤ zs.length then fillV (put zs off v.cells) ps vs else none
  | _, _ => none

def elems (sz : Nat) : List V → Option (List (List V))
  | [] => some []
  | v :: vs => if solid v ∧ v.cells.length = sz then (inl v.cells).bind fun c => (elems sz vs).map (c :: ·) else none

def findV (ka : Bool) (ks : List K3) (k : V) : List (V × V) → Nat → Option (Option Nat)
  | [], _ => some none
  | e :: es, i => (eqV ks ka k e.1).bind fun b => if b then some (some i) else findV ka ks k es (i + 1)

def byteOf : V → Option UInt8
  | .int .u8 n => some (UInt8.ofNat n.toNat)
  | _ => none

abbrev R := Option (V × Heap)
def sMv : List V → Heap → R
  | [v], H => some (v, H)
  | _, _ => none
def sPick : List V → Heap → R
  | [.bool c, a, b], H => some (if c then a else b, H)
  | _, _ => none
def sThaw : List V → Heap → R
  | [.fr sz xs], H => some (.hsl H.length 0 0 xs.length sz, H ++ [.cells 0 xs.flatten])
  | [v], H => some (v, H)
  | _, _ => none
def sBin (op : BinOp) : List V → Heap → R
  | [.int j a, .int k b], H => if j = k then (binInt op j a b).map (·, H) else none
  | [.str a, .str b], H => (binStr op a b).map (·, H)
  | _, _ => none
def sEqc (ne agg : Bool) (ks : List K3) : List V → Heap → R
  | [x, y], H => (eqV ks agg x y).map fun b => (.bool (b != ne), H)
  | _, _ => none
def sIsNil (ne : Bool) : List V → Heap → R
  | [x, y], H => (nilOf x y).map fun b => (.bool (b != ne), H)
  | _, _ => none
def sNot : List V → Heap → R
  | [.bool b], H => some (.bool !b, H)
  | _, _ => none
def sNeg : List V → Heap → R
  | [.int k n], H => some (.int k (k.wrap (0 - n)), H)
  | _, _ => none
def sConv (k : IntKind) : List V → Heap → R
  | [.int _ n], H => some (.int k (k.wrap n), H)
  | _, _ => none
def sSame : List V → Heap → R
  | [.str s], H => some (.str s, H)
  | _, _ => none
def sToStr : List V → Heap → R
  | [.sl _ 1 xs], H => (xs.flatten.mapM byteOf).map fun s => (.str s, H)
  | _, _ => none
def sAlloc (zs : List V) : List V → Heap → R
  | [], H => some (.ptr H.length 0 0, H ++ [.cells 0 zs])
  | _, _ => none
def sBox : List V → Heap → R
  | [v], H => if solid v then some (.ptr (thawL v.cells H).2.length 0 0, (thawL v.cells H).2 ++ [.cells 0 (thawL v.cells H).1]) else none
  | _, _ => none
def sBuild (zs : List V) (ps : List (Nat × Nat)) (vs : List V) (H : Heap) : R := (fillV zs ps vs).map fun cs => (.agg cs, H)
def sBuildSl (sz : Nat) (vs : List V) (H : Heap) : R := (elems sz vs).map fun xs => (.sl true sz xs, H)
def sBuildFr (sz : Nat) (vs : List V) (H : Heap) : R := (elems sz vs).bind fun xs => if 0 < xs.length then some (.fr sz xs, H) else none
def sLoad (n : Nat) (agg : Bool) : List V → Heap → R
  | [.ptr id ver off], H => (getCells H id ver).bind fun cs => (cut cs off n).bind fun l => (mk agg (l.map strip0)).map (·, H)
  | [.cptr cs], H => (cut cs 0 n).bind fun l => (mk agg l).map (·, H)
  | _, _ => none
def sLoadT (n : Nat) (agg : Bool) : List V → Heap → R
  | [.ptr id ver off], H => (getCells H id ver).bind fun cs => (cut cs off n).bind fun l => (mk agg l).map fun v => (v, H.set id (.cells ver (put cs off (l.map strip0))))
  | _, _ => none
def sStore (n : Nat) : List V → Heap → R
  | [.ptr id ver off, v], H => (getCells H id ver).bind fun cs => if solid v ∧ v.cells.all scal0 ∧ v.cells.length = n ∧ off + n ≤ cs.length then
      some (.tup [], (thawL v.cells H).2.set id (.cells ver (put cs off (thawL v.cells H).1))) else none
  | _, _ => none
def sNilCheck : List V → Heap → R
  | [.ptr id ver off], H => some (.ptr id ver off, H)
  | [.cptr cs], H => some (.cptr cs, H)
  | [.fn f cs], H => some (.fn f cs, H)
  | _, _ => none
def sFieldAddr (off : Nat) : List V → Heap → R
  | [.ptr id ver o], H => some (.ptr id ver (o + off), H)
  | [.cptr cs], H => some (.cptr (cs.drop off), H)
  | _, _ => none
def sField (off n : Nat) (agg : Bool) : List V → Heap → R
  | [.agg cs], H => (cut cs off n).bind fun l => (mk agg l).map (·, H)
  | _, _ => none
def sIndexAddr (sz : Nat) : List V → Heap → R
  | [.sl _ z xs, .int _ i], H => if z = sz ∧ 0 ≤ i then (xs[i.toNat]?).map fun x => (.cptr x, H) else none
  | [.hsl id ver off ln z, .int _ i], H => if z = sz ∧ 0 ≤ i ∧ i < ln then some (.ptr id ver (off + i.toNat * sz), H) else none
  | _, _ => none
def sIndexStr : List V → Heap → R
  | [.str s, .int _ i], H => if 0 ≤ i then (s[i.toNat]?).map fun b => (.int .u8 b.toNat, H) else none
  | _, _ => none
def bounds (lo hi : Bool) (n : Nat) : List V → Option (Nat × Nat)
  | [] => if !lo && !hi then some (0, n) else none
  | [.int _ x] => if lo && !hi then (if 0 ≤ x ∧ x ≤ n then some (x.toNat, n) else none) else if !lo && hi then (if 0 ≤ x ∧ x ≤ n then some (0, x.toNat) else none) else none
  | [.int _ l, .int _ h] => if lo && hi && decide (0 ≤ l ∧ l ≤ h ∧ h ≤ n) then some (l.toNat, h.toNat) else none
  | _ => none
def sSlice (lo hi : Bool) (sz : Nat) : List V → Heap → R
  | .sl _ z xs :: bs, H => if z = sz then (bounds lo hi xs.length bs).map fun p => (.sl false z ((xs.take p.2).drop p.1), H) else none
  | .nilh z :: bs, H => (bounds lo hi 0 bs).map fun _ => (.nilh z, H)
  | .hsl id ver off ln z :: bs, H => if z = sz then (bounds lo hi ln bs).map fun p => (if p.1 = ln ∧ 0 < ln then .sl false z [] else .hsl id ver (off + p.1 * z) (p.2 - p.1) z, H) else none
  | _, _ => none
def sSliceStr (lo hi : Bool) : List V → Heap → R
  | .str s :: bs, H => (bounds lo hi s.length bs).map fun p => (.str ((s.take p.2).drop p.1), H)
  | _, _ => none
def sMakeSl (sz bytes : Nat) (zs : List V) : List V → Heap → R
  | [.int _ n, .int _ c], H => if n = c ∧ 0 ≤ n ∧ bytes * n ≤ 281474976710656 ∧ n ≤ 9223372036854775807 then some (.fr sz (List.replicate n.toNat zs), H) else none
  | _, _ => none
def sMakeH (sz bytes : Nat) (zs : List V) : List V → Heap → R
  | [.int _ n, .int _ c], H => if n = c ∧ 0 ≤ n ∧ bytes * n ≤ 281474976710656 ∧ n ≤ 9223372036854775807 then some (.hsl H.length 0 0 n.toNat sz, H ++ [.cells 0 (List.replicate n.toNat zs).flatten]) else none
  | _, _ => none
def fits (n bytes : Nat) : Prop := n * bytes ≤ 140737488355328 ∧ n ≤ 9223372036854775807
instance (n bytes : Nat) : Decidable (fits n bytes) := inferInstanceAs (Decidable (_ ∧ _))
def sAppend (sz bytes : Nat) : List V → Heap → R
  | [.sl true z xs, .sl _ z' ys], H => if z = sz ∧ z' = sz ∧ fits (xs.length + ys.length) bytes then some (.sl true z (xs ++ ys), H) else none
  | _, _ => none
def sAppendS (bytes : Nat) : List V → Heap → R
  | [.sl true z xs, .str s], H => if z = 1 ∧ fits (xs.length + s.length) bytes then some (.sl true 1 (xs ++ s.map fun b => [.int .u8 b.toNat]), H) else none
  | _, _ => none
def sAppendR (sz bytes : Nat) : List V → Heap → R
  | [.sl true z xs, .hsl id ver off ln z'], H => if z = sz ∧ z' = sz ∧ fits (xs.length + ln) bytes then
      (getCells H id ver).bind fun cs => (cut cs off (ln * sz)).bind fun l => (inl l).map fun l => (.sl true sz (xs ++ chunks sz ln l), H) else none
  | _, _ => none
def sAppendH (sz bytes : Nat) : List V → Heap → R
  | [.nilh z, .sl _ z' ys], H => if z = sz ∧ z' = sz ∧ 0 < ys.length ∧ fits ys.length bytes then some (.fr sz ys, H) else none
  | [.hsl id ver off ln z, .sl _ z' ys], H => if z = sz ∧ z' = sz ∧ off = 0 ∧ fits (ln + ys.length) bytes then
      (getCells H id ver).bind fun cs => (cut cs 0 (ln * sz)).bind fun l =>
        some (.hsl id (ver + 1) 0 (ln + ys.length) sz, H.set id (.cells (ver + 1) (l ++ ys.flatten))) else none
  | _, _ => none
def sLenStr : List V → Heap → R
  | [.str s], H => some (.int .i64 s.length, H)
  | _, _ => none
def sLen : List V → Heap → R
  | [.sl _ _ xs], H => some (.int .i64 xs.length, H)
  | [.nilh _], H => some (.int .i64 0, H)
  | [.hsl _ _ _ ln _], H => some (.int .i64 ln, H)
  | _, _ => none
def mapOf (H : Heap) : V → Option (List (V × V))
  | .nilmap => some []
  | .map id => match H[id]? with
    | some (.map es) => some es
    | _ => none
  | _ => none
def sMapLen : List V → Heap → R
  | [m], H => (mapOf H m).map fun es => (.int .i64 es.length, H)
  | _, _ => none
def sMin : List V → Heap → R
  | [.int j a, .int k b], H => if j = k then some (.int j (if b < a then b else a), H) else none
  | _, _ => none
def sMax : List V → Heap → R
  | [.int j a, .int k b], H => if j = k then some (.int j (if b > a then b else a), H) else none
  | _, _ => none
def sExtract (i : Nat) : List V → Heap → R
  | [.tup vs], H => (vs[i]?).map (·, H)
  | _, _ => none
def sMkfn (f : Nat) (vs : List V) (H : Heap) : R := some (.fn f vs, H)
def sMakeMap : List V → Heap → R
  | [], H => some (.map H.length, H ++ [.map []])
  | _, _ => none
def sLookup (ka : Bool) (ks : List K3) (ok : Bool) (zs : List V) (agg : Bool) : List V → Heap → R
  | [m, k], H => (mapOf H m).bind fun es => (findV ka ks k es 0).bind fun r => match r with
      | some i => (es[i]?).map fun e => (if ok then .tup [e.2, .bool true] else e.2, H)
      | none => (mk agg zs).map fun z => (if ok then .tup [z, .bool false] else z, H)
  | _, _ => none
def sMapUpdate (ka : Bool) (ks : List K3) : List V → Heap → R
  | [.map id, k, v], H => (mapOf H (.map id)).bind fun es => (findV ka ks k es 0).map fun r => match r with
      | some i => (.tup [], H.set id (.map (es.modify i fun _ => (k, v))))
      | none => (.tup [], H.set id (.map (es ++ [(k, v)])))
  | _, _ => none
def sDelete (ka : Bool) (ks : List K3) : List V → Heap → R
  | [.map id, k], H => (mapOf H (.map id)).bind fun es => (findV ka ks k es 0).map fun r => match r with
      | some i => (.tup [], H.set id (.map (es.eraseIdx i)))
      | none => (.tup [], H)
  | _, _ => none

def Act.sem : Act → List V → Heap → R
  | .mv => sMv
  | .pick => sPick
  | .thaw => sThaw
  | .bin op => sBin op
  | .eqc ne agg ks => sEqc ne agg ks
  | .isNil ne => sIsNil ne
  | .not => sNot
  | .neg => sNeg
  | .conv k => sConv k
  | .same => sSame
  | .toStr => sToStr
  | .alloc zs => sAlloc zs
  | .box => sBox
  | .build zs ps => sBuild zs ps
  | .buildSl sz => sBuildSl sz
  | .buildFr sz => sBuildFr sz
  | .load n agg => sLoad n agg
  | .loadT n agg => sLoadT n agg
  | .store n => sStore n
  | .nilCheck => sNilCheck
  | .fieldAddr off => sFieldAddr off
  | .field off n agg => sField off n agg
  | .indexAddr sz => sIndexAddr sz
  | .indexStr => sIndexStr
  | .slice lo hi sz => sSlice lo hi sz
  | .sliceStr lo hi => sSliceStr lo hi
  | .makeSl sz bytes zs => sMakeSl sz bytes zs
  | .makeH sz bytes zs => sMakeH sz bytes zs
  | .append sz bytes => sAppend sz bytes
  | .appendS bytes => sAppendS bytes
  | .appendR sz bytes => sAppendR sz bytes
  | .appendH sz bytes => sAppendH sz bytes
  | .len => sLen
  | .lenStr => sLenStr
  | .mapLen => sMapLen
  | .min => sMin
  | .max => sMax
  | .extract i => sExtract i
  | .mkfn f => sMkfn f
  | .makeMap => sMakeMap
  | .lookup ka ks ok zs agg => sLookup ka ks ok zs agg
  | .mapUpdate ka ks => sMapUpdate ka ks
  | .delete ka ks => sDelete ka ks
  | .call _ => fun _ _ => none

inductive Opnd where
  | t (i : Nat)
  | c (v : V)
  deriving Inhabited

structure VOp where
  dst : Option Nat
  act : Act
  args : List Opnd
  take : List Nat := []
  guard : Option (Nat × Bool) := none
  deriving Inhabited

abbrev Env := Nat → V
def upd (σ : Env) (i : Nat) (v : V) : Env := fun j => if j = i then v else σ j
def updO (σ : Env) : Option Nat → V → Env
  | some i, v => upd σ i v
  | none, _ => σ
def evalA (σ : Env) (take : List Nat) : Opnd → V
  | .t i => if i ∈ take then σ i else strip (σ i)
  | .c v => v
def stripE (take : List Nat) (σ : Env) : Env := fun j => if j ∈ take then strip (σ j) else σ j

def VOp.wanted (o : VOp) (σ : Env) : Option Bool :=
  match o.guard with
  | none => some true
  | some (g, b) => match σ g with
    | .bool c => some (c == b)
    | .tup _ => some false
    | _ => none

/-- An operation that calls nothing. -/
def VOp.step (o : VOp) (σ : Env) (H : Heap) : Option (Env × Heap) :=
  (o.wanted σ).bind fun y => if y then
    (o.act.sem (o.args.map (evalA σ o.take)) H).map fun r => (updO (stripE o.take σ) o.dst r.1, r.2)
  else some (updO σ o.dst (.tup []), H)

end Go.Proofs.Ytglemgdlkddjhaa.Vm
