/-
The value machine, part 1: values, heaps of objects, and how they stand for the model's values and memory.
-/
import Derived.Test.YtglemgdlkddjhaaProg
import Derived.Tactics
import Derived.Orders
import Derived.LoopN
import Derived.Scope
import Derived.KernelRfl
namespace Go.Proofs.Ytglemgdlkddjhaa.Vm
open Go

/-- A value: lists that never change stand as they are; what changes is an object. -/
inductive V where
  | u
  | int (k : IntKind) (n : Int)
  | bool (b : Bool)
  | str (s : List UInt8)
  | nilp
  | ptr (id ver off : Nat)
  | cptr (cs : List V)
  | sl (own : Bool) (sz : Nat) (xs : List (List V))
  | hsl (id ver off len sz : Nat)
  | fr (sz : Nat) (xs : List (List V))
  | nilh (sz : Nat)
  | map (id : Nat)
  | nilmap
  | fn (f : Nat) (caps : List V)
  | nilfn
  | agg (cs : List V)
  | tup (vs : List V)
  deriving Inhabited

def V.cells : V → List V
  | .agg cs => cs
  | v => [v]

/-- A copy that may not be appended to. -/
def strip0 : V → V
  | .sl _ sz xs => .sl false sz xs
  | .fr _ _ => .u
  | .agg _ => .u
  | .tup _ => .u
  | v => v
def stripA : V → V
  | .agg cs => .agg (cs.map strip0)
  | v => strip0 v
def strip : V → V
  | .agg cs => .agg (cs.map strip0)
  | .tup vs => .tup (vs.map stripA)
  | v => strip0 v

/-- What may stand in a list that never changes. -/
def plain0 : V → Bool
  | .int .. | .bool _ | .str _ | .nilp | .cptr _ | .sl .. | .nilmap | .nilfn => true
  | _ => false
def inl (cs : List V) : Option (List V) := if cs.all plain0 then some (cs.map strip0) else none

inductive Obj where
  | dead
  | cells (ver : Nat) (cs : List V)
  | map (es : List (V × V))
  deriving Inhabited
abbrev Heap := List Obj

structure Gh where
  imm : Nat → Nat → Option Value
  loc : List (Nat × Nat × Nat)

def ImmAt (imm : Nat → Nat → Option Value) (a : Addr) (cs : List Value) : Prop :=
  (cs ≠ [] → a.spot = none) ∧ ∀ i v, cs[i]? = some v → imm a.block (a.off + i) = some v

inductive RepI (imm : Nat → Nat → Option Value) : List V → List Value → Prop
  | nil : RepI imm [] []
  | int {vs cs} (k : IntKind) (n : Int) (h : RepI imm vs cs) : RepI imm (.int k n :: vs) (.int k n :: cs)
  | bool {vs cs} (b : Bool) (h : RepI imm vs cs) : RepI imm (.bool b :: vs) (.bool b :: cs)
  | str {vs cs} (b : ByteArray) (h : RepI imm vs cs) : RepI imm (.str b.data.toList :: vs) (.string b :: cs)
  | nilp {vs cs} (h : RepI imm vs cs) : RepI imm (.nilp :: vs) (.pointer none :: cs)
  | nilmap {vs cs} (h : RepI imm vs cs) : RepI imm (.nilmap :: vs) (.map none :: cs)
  | nilfn {vs cs} (h : RepI imm vs cs) : RepI imm (.nilfn :: vs) (.nilFunc :: cs)
  | cptr {vs cs ws acs} (a : Addr) (ha : ImmAt imm a acs) (hr : RepI imm ws acs) (h : RepI imm vs cs) : RepI imm (.cptr ws :: vs) (.pointer (some a) :: cs)
  | slnil {vs cs} (sz : Nat) (h : RepI imm vs cs) : RepI imm (.sl false sz [] :: vs) (.slice none 0 0 :: cs)
  | sl {vs cs acs} (sz : Nat) (xs : List (List V)) (a : Addr) (cap : Nat) (hz : ∀ x ∈ xs, x.length = sz) (ha : ImmAt imm a acs) (hr : RepI imm xs.flatten acs)
      (hc : xs.length ≤ cap) (h : RepI imm vs cs) : RepI imm (.sl false sz xs :: vs) (.slice (some a) xs.length cap :: cs)

/-- The cells behind a slice's end are there, and nobody's. -/
def Tail (w : World) (G : Gh) (a : Addr) (len cap sz : Nat) : Prop :=
  (a.spot = none ∧ ∃ c e, w.heap[a.block]? = some (.cells c e (0, 0)) ∧ a.off + cap * sz ≤ c.size) ∧ ∀ o, a.off + len * sz ≤ o → G.imm a.block o = none

inductive RepL (w : World) (G : Gh) : List V → List Value → List Nat → Prop
  | nil : RepL w G [] [] []
  | u {vs cs bl} (c : Value) (h : RepL w G vs cs bl) : RepL w G (.u :: vs) (c :: cs) bl
  | imm {vs cs bl} (v : V) (c : Value) (hi : RepI G.imm [v] [c]) (h : RepL w G vs cs bl) : RepL w G (v :: vs) (c :: cs) bl
  | ptr {vs cs bl} (id ver off b ver' n bb : Nat) (hl : G.loc[id]? = some (b, ver', n)) (hv : ver ≤ ver') (hb : ver = ver' → bb = b)
      (h : RepL w G vs cs bl) : RepL w G (.ptr id ver off :: vs) (.pointer (some ⟨bb, off, none⟩) :: cs) bl
  | hsl {vs cs bl} (id ver off len sz b ver' n bb cap : Nat) (hl : G.loc[id]? = some (b, ver', n)) (hv : ver ≤ ver') (hc : len ≤ cap)
      (hb : ver = ver' → bb = b ∧ off + cap * sz ≤ n)
      (h : RepL w G vs cs bl) : RepL w G (.hsl id ver off len sz :: vs) (.slice (some ⟨bb, off, none⟩) len cap :: cs) bl
  | map {vs cs bl} (id b ver' n bb : Nat) (hl : G.loc[id]? = some (b, ver', n)) (hb : ver' = 0 → bb = b) (h : RepL w G vs cs bl) : RepL w G (.map id :: vs) (.map (some bb) :: cs) bl
  | fn {vs cs bl ws acs} (f : Nat) (hr : RepL w G ws acs []) (h : RepL w G vs cs bl) : RepL w G (.fn f ws :: vs) (.func (.func f) #[] acs.toArray :: cs) bl
  | full {vs cs bl acs} (sz : Nat) (xs : List (List V)) (a : Addr) (hz : ∀ x ∈ xs, x.length = sz) (ha : ImmAt G.imm a acs) (hr : RepI G.imm xs.flatten acs)
      (h : RepL w G vs cs bl) : RepL w G (.sl true sz xs :: vs) (.slice (some a) xs.length xs.length :: cs) bl
  | nilh {vs cs bl} (sz : Nat) (h : RepL w G vs cs bl) : RepL w G (.nilh sz :: vs) (.slice none 0 0 :: cs) bl
  | slnone {vs cs bl} (sz : Nat) (h : RepL w G vs cs bl) : RepL w G (.sl true sz [] :: vs) (.slice none 0 0 :: cs) bl
  | tail {vs cs bl acs} (sz : Nat) (xs : List (List V)) (a : Addr) (cap : Nat) (hz : ∀ x ∈ xs, x.length = sz) (ha : ImmAt G.imm a acs) (hr : RepI G.imm xs.flatten acs)
      (hc : xs.length ≤ cap) (ht : Tail w G a xs.length cap sz) (h : RepL w G vs cs bl) : RepL w G (.sl true sz xs :: vs) (.slice (some a) xs.length cap :: cs) (a.block :: bl)
  | fr {vs cs bl acs} (sz : Nat) (xs : List (List V)) (b cap : Nat) (c : Array Value) (e : TypeId) (hz : ∀ x ∈ xs, x.length = sz) (hw : w.heap[b]? = some (.cells c e (0, 0)))
      (hn : ∀ o, G.imm b o = Option.none) (hp : ∃ rest, c.toList = acs ++ rest) (hr : RepI G.imm xs.flatten acs) (hc : xs.length ≤ cap) (hs : cap * sz ≤ c.size)
      (h : RepL w G vs cs bl) : RepL w G (.fr sz xs :: vs) (.slice (some ⟨b, 0, Option.none⟩) xs.length cap :: cs) (b :: bl)
  | agg {vs cs ws acs b1 bl} (hr : RepL w G ws acs b1) (h : RepL w G vs cs bl) : RepL w G (.agg ws :: vs) (.agg acs.toArray :: cs) (b1 ++ bl)
  | tup {vs cs ws acs b1 bl} (hr : RepL w G ws acs b1) (h : RepL w G vs cs bl) : RepL w G (.tup ws :: vs) (.tuple acs.toArray :: cs) (b1 ++ bl)

inductive Place where
  | slot (i : Nat)
  | obj (i : Nat)
  | cell (i : Nat)
  | arg
  | res
  | frame
  deriving DecidableEq

def ObjOk (w : World) (G : Gh) (own : Nat → Option Place) (i : Nat) : Obj → Prop
  | .dead => True
  | .cells ver vs => ∃ b c e bl, G.loc[i]? = some (b, ver, c.size) ∧ own b = some (.obj i) ∧ w.heap[b]? = some (.cells c e (0, 0)) ∧ (∀ o, G.imm b o = none) ∧
      vs.length ≤ c.size ∧ RepL w G vs (c.toList.take vs.length) bl ∧ bl.Nodup ∧ ∀ b' ∈ bl, own b' = some (.cell i)
  | .map es => ∃ b ents clk, G.loc[i]? = some (b, 0, 0) ∧ own b = some (.obj i) ∧ w.heap[b]? = some (.map ents clk) ∧
      RepI G.imm (es.map (·.1)) (ents.toList.map (·.key)) ∧ RepL w G (es.map (·.2)) (ents.toList.map (·.val)) []

structure Ok (w : World) (G : Gh) (own : Nat → Option Place) (H : Heap) : Prop where
  imm : ∀ b o v, G.imm b o = some v → ∃ c e f, w.heap[b]? = some (.cells c e f) ∧ c[o]? = some v
  size : ∀ b p, own b = some p → b < w.heap.size
  len : H.length = G.loc.length
  obj : ∀ i ob, H[i]? = some ob → ObjOk w G own i ob

structure Ext (w : World) (G : Gh) (own : Nat → Option Place) (w' : World) (G' : Gh) (own' : Nat → Option Place) : Prop where
  size : w.heap.size ≤ w'.heap.size
  imm : ∀ b o v, G.imm b o = some v → G'.imm b o = some v
  loc : ∀ (i b v n : Nat), G.loc[i]? = some (b, v, n) → ∃ b' v' n' : Nat, G'.loc[i]? = some (b', v', n') ∧ v ≤ v' ∧ (v = v' → b' = b ∧ n' = n)
  fixed : ∀ b, own b = some .frame → w'.heap[b]? = w.heap[b]? ∧ (∀ o, G'.imm b o = G.imm b o) ∧ own' b = some .frame
  tape : w'.tape = w.tape
  os : w'.os = w.os
  out : w'.output = w.output

theorem Ext.refl (w : World) (G : Gh) (own : Nat → Option Place) : Ext w G own w G own :=
  ⟨Nat.le_refl _, fun _ _ _ h => h, fun _ b v n h => ⟨b, v, n, h, Nat.le_refl _, fun _ => ⟨rfl, rfl⟩⟩, fun _ h => ⟨rfl, fun _ => rfl, h⟩, rfl, rfl, rfl⟩

theorem Ext.trans {w1 w2 w3 : World} {G1 G2 G3 : Gh} {o1 o2 o3 : Nat → Option Place} (h : Ext w1 G1 o1 w2 G2 o2) (k : Ext w2 G2 o2 w3 G3 o3) : Ext w1 G1 o1 w3 G3 o3 := by
  refine ⟨Nat.le_trans h.size k.size, fun b o v e => k.imm b o v (h.imm b o v e), ?_, ?_, k.tape.trans h.tape, k.os.trans h.os, k.out.trans h.out⟩
  · intro i b v n e
    obtain ⟨b', v', n', e', le, q⟩ := h.loc i b v n e
    obtain ⟨b'', v'', n'', e'', le', q'⟩ := k.loc i b' v' n' e'
    refine ⟨b'', v'', n'', e'', Nat.le_trans le le', fun x => ?_⟩
    have h1 : v = v' := by omega
    have h2 : v' = v'' := by omega
    exact ⟨((q' h2).1).trans (q h1).1, ((q' h2).2).trans (q h1).2⟩
  · intro b e
    obtain ⟨a1, a2, a3⟩ := h.fixed b e
    obtain ⟨b1, b2, b3⟩ := k.fixed b a3
    exact ⟨b1.trans a1, fun o => (b2 o).trans (a2 o), b3⟩

theorem ImmAt.mono {imm imm' : Nat → Nat → Option Value} {a : Addr} {cs : List Value} (h : ImmAt imm a cs) (hm : ∀ b o v, imm b o = some v → imm' b o = some v) : ImmAt imm' a cs :=
  ⟨h.1, fun i v e => hm _ _ _ (h.2 i v e)⟩

theorem RepI.mono {imm imm' : Nat → Nat → Option Value} (hm : ∀ b o v, imm b o = some v → imm' b o = some v) {vs : List V} {cs : List Value} (h : RepI imm vs cs) : RepI imm' vs cs := by
  induction h with
  | nil => exact .nil
  | int k n _ ih => exact .int k n ih
  | bool b _ ih => exact .bool b ih
  | str b _ ih => exact .str b ih
  | nilp _ ih => exact .nilp ih
  | nilmap _ ih => exact .nilmap ih
  | nilfn _ ih => exact .nilfn ih
  | cptr a ha _ _ ih1 ih2 => exact .cptr a (ha.mono hm) ih1 ih2
  | slnil sz _ ih => exact .slnil sz ih
  | sl sz xs a cap hz ha _ hc _ ih1 ih2 => exact .sl sz xs a cap hz (ha.mono hm) ih1 hc ih2

/-- What a list of values stands for stays so, if what it owns stays. -/
theorem RepL.mono {w w' : World} {G G' : Gh} (hi : ∀ b o v, G.imm b o = some v → G'.imm b o = some v)
    (hl : ∀ (i b v n : Nat), G.loc[i]? = some (b, v, n) → ∃ b' v' n' : Nat, G'.loc[i]? = some (b', v', n') ∧ v ≤ v' ∧ (v = v' → b' = b ∧ n' = n))
    {vs : List V} {cs : List Value} {bl : List Nat} (h : RepL w G vs cs bl)
    (hb : ∀ b ∈ bl, w'.heap[b]? = w.heap[b]? ∧ ∀ o, G'.imm b o = G.imm b o) : RepL w' G' vs cs bl := by
  induction h with
  | nil => exact .nil
  | u c _ ih => exact .u c (ih hb)
  | imm v c h1 _ ih => exact .imm v c (h1.mono hi) (ih hb)
  | ptr id ver off b ver' n bb h1 h2 h3 _ ih =>
    obtain ⟨b', v', n', e, le, q⟩ := hl _ _ _ _ h1
    refine .ptr id ver off b' v' n' bb e (Nat.le_trans h2 le) (fun x => ?_) (ih hb)
    have : ver' = v' := by omega
    rw [(q this).1]; exact h3 (by omega)
  | hsl id ver off len sz b ver' n bb cap h1 h2 h3 h4 _ ih =>
    obtain ⟨b', v', n', e, le, q⟩ := hl _ _ _ _ h1
    refine .hsl id ver off len sz b' v' n' bb cap e (Nat.le_trans h2 le) h3 (fun x => ?_) (ih hb)
    have : ver' = v' := by omega
    rw [(q this).1, (q this).2]; exact h4 (by omega)
  | map id b ver' n bb h1 h2 _ ih =>
    obtain ⟨b', v', n', e, le, q⟩ := hl _ _ _ _ h1
    refine .map id b' v' n' bb e (fun x => ?_) (ih hb)
    have : ver' = v' := by omega
    rw [(q this).1]; exact h2 (by omega)
  | fn f _ _ ih1 ih2 => exact .fn f (ih1 (fun _ h => by cases h)) (ih2 hb)
  | full sz xs a hz ha hr _ ih => exact .full sz xs a hz (ha.mono hi) (hr.mono hi) (ih hb)
  | slnone sz _ ih => exact .slnone sz (ih hb)
  | nilh sz _ ih => exact .nilh sz (ih hb)
  | tail sz xs a cap hz ha hr hc ht _ ih =>
    obtain ⟨e1, e2⟩ := hb a.block (List.mem_cons_self ..)
    refine .tail sz xs a cap hz (ha.mono hi) (hr.mono hi) hc ⟨?_, fun o ho => by rw [e2 o]; exact ht.2 o ho⟩ (ih fun b hb' => hb b (List.mem_cons_of_mem _ hb'))
    rw [e1]; exact ht.1
  | fr sz xs b cap c e hz hw hn hp hr hc hs _ ih =>
    obtain ⟨e1, e2⟩ := hb b (List.mem_cons_self ..)
    exact .fr sz xs b cap c e hz (e1.trans hw) (fun o => by rw [e2 o]; exact hn o) hp (hr.mono hi) hc hs (ih fun b hb' => hb b (List.mem_cons_of_mem _ hb'))
  | agg _ _ ih1 ih2 => exact .agg (ih1 fun b hb' => hb b (List.mem_append_left _ hb')) (ih2 fun b hb' => hb b (List.mem_append_right _ hb'))
  | tup _ _ ih1 ih2 => exact .tup (ih1 fun b hb' => hb b (List.mem_append_left _ hb')) (ih2 fun b hb' => hb b (List.mem_append_right _ hb'))

end Go.Proofs.Ytglemgdlkddjhaa.Vm
