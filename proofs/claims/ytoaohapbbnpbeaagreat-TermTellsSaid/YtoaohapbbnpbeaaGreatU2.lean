/-
The value machine, part 26: code without loops, at one go.
The value machine, part 27: equations for what is done in the heap.
The value machine, part 28: functions that begin in an empty heap.
The value machine, part 29: functions that leave another heap behind.
The value machine, part 30: what is done without a heap is done beside every heap.
The value machine, part 24: a law's arguments stand for values; what a law answers.
The value machine, part 31: numbers and rows of numbers as a law is handed them.
The value machine, part 32: heaps that are not written out.
The value machine, part 33: a function whose answer takes what its cell owns.
The value machine, part 34: structs as a law is handed them.
The value machine, part 35: places that are held, told apart; arguments as they stand in lists; loops over a range.
The value machine, part 36: functions at the empty heap that answer a struct of their own.
Programs as the language has them: types, patterns, expressions, and how they stand in memory.
-/
import Derived.Test.YtoaohapbbnpbeaaGreatU1
import Derived.ChangeOld
import Derived.Below
import Derived.RowKit
import Derived.ChangeBook
import Derived.ChangeStays
import Derived.ChangeShapes
import Derived.SizedLaws
import Derived.WideShapes
set_option linter.unusedVariables false
set_option linter.unusedSimpArgs false
set_option linter.constructorNameAsVariable false
namespace Go.Proofs.YtoaohapbbnpbeaaGreat.Vm
open Go

@[go_sem] theorem getE_cons (j : Nat) (v : V) (l : List (Nat × V)) (d : V) (i : Nat) : getE ((j, v) :: l) d i = if j = i then v else getE l d i := by
  simp only [getE]
  by_cases h : j = i
  · subst h; simp
  · have h1 : Nat.beq j i = false := by cases hb : Nat.beq j i with
      | false => rfl
      | true => exact absurd (Nat.eq_of_beq_eq_true hb) h
    simp [h1, h]
@[go_sem] theorem getE_nil (d : V) (i : Nat) : getE [] d i = d := rfl

def condW (v : V) (A B : Prop) : Prop := match v with
  | .bool y => (y = true → A) ∧ (y = false → B)
  | _ => False
def valA (E : En) : Opnd → V
  | .t i => getE E.l E.d i
  | .c v => v
def guardW (v : V) (b : Bool) (A B : Prop) : Prop := match v with
  | .bool c => (c = b → A) ∧ (c ≠ b → B)
  | .tup _ => B
  | _ => False

abbrev KK := X → En → Heap → Prop
def seqW (K : KK) (N : En → Heap → Prop) : KK
  | .normal, E, H => N E H
  | .exit id, E, H => K (.exit id) E H
  | .ret, E, H => K .ret E H

/-- What must hold ahead of code; a loop is left as it is. -/
def wp (P : Program) : VCode → En → Heap → KK → Prop
  | .skip, E, H, K => K .normal E H
  | .label, E, H, K => K .normal E H
  | .exit id, E, H, K => K (.exit id) E H
  | .ret, E, H, K => K .ret E H
  | .region ops keep, E, H, K => opsW P ops E H fun E' H' => K .normal (keepS E' keep) H'
  | .regionD ts ops prs keep, E, H, K => opsW P (resOp ts :: (ops ++ prs.map apOp)) E H fun E' H' => K .normal (keepS E' keep) H'
  | .seq a b, E, H, K => wp P a E H (seqW K fun E' H' => wp P b E' H' K)
  | .cond c a b, E, H, K => condW (valA E c) (wp P a E H K) (wp P b E H K)
  | .block id a, E, H, K => wp P a E H fun x E' H' => K (unblock id x) E' H'
  | .loop a, E, H, K => WP P (.loop a) E H K
  | .scope a, E, H, K => wp P a E H K

theorem condW_sound {P : Program} {a b : VCode} {E : En} {H : Heap} {K : KK} {c : Opnd} (h : condW (valA E c) (WP P a E H K) (WP P b E H K)) : WP P (.cond c a b) E H K := by
  unfold condW at h
  split at h
  · rename_i y hy
    refine .cond y ?_ h.1 h.2
    cases c with
    | c v => exact hy
    | t i => simp only [valA] at hy; simp [evalA, En.f, hy, strip, strip0]
  · exact h.elim
theorem condW_mono {v : V} {A B A' B' : Prop} (h : condW v A B) (ha : A → A') (hb : B → B') : condW v A' B' := by
  unfold condW at h ⊢
  split at h
  · exact ⟨fun e => ha (h.1 e), fun e => hb (h.2 e)⟩
  · exact h.elim

theorem wp_sound {P : Program} : ∀ {vc : VCode} {E : En} {H : Heap} {K : KK}, wp P vc E H K → WP P vc E H K
  | .skip, _, _, _, h => .skip h
  | .label, _, _, _, h => .label h
  | .exit _, _, _, _, h => .exit h
  | .ret, _, _, _, h => .ret h
  | .region _ _, _, _, _, h => .region h
  | .regionD _ _ _ _, _, _, _, h => .regionD h
  | .seq a b, E, H, K, h => by
    have h' : wp P a E H (seqW K fun E' H' => wp P b E' H' K) := h
    refine .seq ((wp_sound h').mono ?_)
    intro x E' H' k
    cases x with
    | normal => exact wp_sound k
    | exit id => exact k
    | ret => exact k
  | .cond c a b, E, H, K, h => condW_sound (condW_mono (show condW (valA E c) (wp P a E H K) (wp P b E H K) from h) (fun h => wp_sound h) (fun h => wp_sound h))
  | .block id a, E, H, K, h => by
    have h' : wp P a E H (fun x E' H' => K (unblock id x) E' H') := h
    exact .block (wp_sound h')
  | .loop a, _, _, _, h => h
  | .scope a, E, H, K, h => by
    have h' : wp P a E H K := h
    exact .scope (wp_sound h')

/-- What comes behind. -/
inductive Fr where
  | code (c : VCode)
  | blk (id : Nat)
def goes (P : Program) (K : KK) : List Fr → KK
  | [], x, E, H => K x E H
  | .code c :: s, .normal, E, H => wp P c E H (goes P K s)
  | .code _ :: s, .exit id, E, H => goes P K s (.exit id) E H
  | .code _ :: s, .ret, E, H => goes P K s .ret E H
  | .blk id :: s, x, E, H => goes P K s (unblock id x) E H
def run (P : Program) (c : VCode) (s : List Fr) (E : En) (H : Heap) (K : KK) : Prop := wp P c E H (goes P K s)
def runOps (P : Program) (os : List VOp) (keep : List Nat) (s : List Fr) (E : En) (H : Heap) (K : KK) : Prop := opsW P os E H fun E' H' => goes P K s .normal (keepS E' keep) H'
/-- One operation. -/
def runAct (P : Program) (a : Act) (vs : List V) (tk : List Nat) (dst : Option Nat) (os : List VOp) (keep : List Nat) (s : List Fr) (E : En) (H : Heap) (K : KK) : Prop := match a with
  | .call b => (match vs with
    | .fn f caps :: rest => callX P b E f (rest ++ caps) H fun r H' => runOps P os keep s ((stripEn tk E).setO dst r) H' K
    | _ => False)
  | a => baseW E a.base vs <| actW a vs H fun r H' => runOps P os keep s ((stripEn tk E).setO dst r) H' K
def runInt (P : Program) (op : BinOp) (k : IntKind) (a b : Int) (tk : List Nat) (dst : Option Nat) (os : List VOp) (keep : List Nat) (s : List Fr) (E : En) (H : Heap) (K : KK) : Prop :=
  intW op k a b fun v => runOps P os keep s ((stripEn tk E).setO dst v) H K

section
variable {P : Program} {K : KK} {s : List Fr} {E : En} {H : Heap} {tk : List Nat} {dst : Option Nat} {os : List VOp} {keep : List Nat}

theorem wp_run {c : VCode} : wp P c E H K = run P c [] E H K := rfl
@[go_sem] theorem goes_nil {x : X} : goes P K [] x E H = K x E H := (rfl)
@[go_sem] theorem goes_code {c : VCode} : goes P K (.code c :: s) .normal E H = run P c s E H K := (rfl)
@[go_sem] theorem goes_exit {c : VCode} {id : Nat} : goes P K (.code c :: s) (.exit id) E H = goes P K s (.exit id) E H := (rfl)
@[go_sem] theorem goes_ret {c : VCode} : goes P K (.code c :: s) .ret E H = goes P K s .ret E H := (rfl)
@[go_sem] theorem goes_blk {id : Nat} {x : X} : goes P K (.blk id :: s) x E H = goes P K s (unblock id x) E H := (rfl)
@[go_sem] theorem unblock_exit {id id' : Nat} : unblock id (.exit id') = if id' = id then .normal else .exit id' := rfl
@[go_sem] theorem unblock_ret {id : Nat} : unblock id .ret = .ret := rfl
@[go_sem] theorem unblock_normal {id : Nat} : unblock id .normal = .normal := rfl
@[go_sem] theorem run_skip : run P .skip s E H K = goes P K s .normal E H := (rfl)
@[go_sem] theorem run_label : run P .label s E H K = goes P K s .normal E H := (rfl)
@[go_sem] theorem run_exit {id : Nat} : run P (.exit id) s E H K = goes P K s (.exit id) E H := (rfl)
@[go_sem] theorem run_ret : run P .ret s E H K = goes P K s .ret E H := (rfl)
@[go_sem] theorem run_region {ops : List VOp} : run P (.region ops keep) s E H K = runOps P ops keep s E H K := (rfl)
@[go_sem] theorem run_regionD {ts : List Nat} {ops : List VOp} {prs : List (Nat × Nat)} : run P (.regionD ts ops prs keep) s E H K = runOps P (resOp ts :: (ops ++ prs.map apOp)) keep s E H K := (rfl)
@[go_sem] theorem run_seq {a b : VCode} : run P (.seq a b) s E H K = run P a (.code b :: s) E H K := by
  show wp P a E H _ = wp P a E H _
  congr 1
  funext x E H
  cases x <;> rfl
def condD (P : Program) (v : V) (a b : VCode) (s : List Fr) (E : En) (H : Heap) (K : KK) : Prop := condW v (run P a s E H K) (run P b s E H K)
@[go_sem] theorem run_cond {c : Opnd} {a b : VCode} : run P (.cond c a b) s E H K = condD P (valA E c) a b s E H K := (rfl)
@[go_sem] theorem run_block {id : Nat} {a : VCode} : run P (.block id a) s E H K = run P a (.blk id :: s) E H K := (rfl)
@[go_sem] theorem run_scope {a : VCode} : run P (.scope a) s E H K = run P a s E H K := (rfl)
@[go_sem] theorem run_loop {a : VCode} : run P (.loop a) s E H K = WP P (.loop a) E H (goes P K s) := (rfl)
@[go_sem] theorem valA_t {l : List (Nat × V)} {d : V} {i : Nat} : valA ⟨l, d⟩ (.t i) = getE l d i := rfl
@[go_sem] theorem valA_c {v : V} : valA E (.c v) = v := rfl
theorem iteP {c : Prop} [Decidable c] {A B : Prop} : (if c then A else B) = ((c → A) ∧ (¬c → B)) := by
  by_cases h : c <;> simp [h]
@[go_sem] theorem condD_bool {y : Bool} {a b : VCode} : condD P (.bool y) a b s E H K = if y = true then run P a s E H K else run P b s E H K := by
  unfold condD condW
  rw [iteP]
  cases y <;> simp

@[go_sem] theorem ops_nil {l : List (Nat × V)} {d : V} : runOps P [] keep s ⟨l, d⟩ H K = goes P K s .normal (keepS ⟨l, d⟩ keep) H := (rfl)
@[go_sem] theorem keepS_eq {l : List (Nat × V)} {d : V} {ks : List Nat} : keepS ⟨l, d⟩ ks = ⟨ks.map fun i => (i, getE l d i), .u⟩ := rfl
@[go_sem] theorem ops_cons {act : Act} {args : List Opnd} : runOps P (⟨dst, act, args, tk, none⟩ :: os) keep s E H K = runAct P act (argsW E tk args) tk dst os keep s E H K := by
  unfold runOps runAct; rw [opsW]; unfold stepW; simp only [wantedW]
  cases act <;> first | rfl | skip
theorem ops_guard0 {act : Act} {args : List Opnd} {g : Nat} {b : Bool} : runOps P (⟨dst, act, args, tk, some (g, b)⟩ :: os) keep s E H K =
    guardW (getE E.l E.d g) b (runAct P act (argsW E tk args) tk dst os keep s E H K) (runOps P os keep s (E.setO dst (.tup [])) H K) := by
  unfold runOps runAct; rw [opsW]; unfold stepW guardW; simp only [wantedW]
  cases getE E.l E.d g <;> cases act <;> first | rfl | skip
theorem args_congr {E2 : En} (h : E.f = E2.f) : ∀ l : List Opnd, argsW E tk l = argsW E2 tk l := by
  intro l; rw [argsW_eq, argsW_eq, h]
theorem set_congr {E2 : En} (h : E.f = E2.f) (o : Option Nat) (v : V) : (E.setO o v).f = (E2.setO o v).f := by rw [En.setO_f, En.setO_f, h]
theorem strip_congr {E2 : En} (h : E.f = E2.f) (tk : List Nat) : (stripEn tk E).f = (stripEn tk E2).f := by rw [stripEn_f, stripEn_f, h]
theorem callX_congr {E2 : En} (h : E.f = E2.f) (b : CM) (f : Nat) (args : List V) (H : Heap) (F : V → Heap → Prop) : callX P b E f args H F = callX P b E2 f args H F := by
  cases b <;> first | rfl | (unfold callX; simp only; rw [show getE E.l E.d _ = getE E2.l E2.d _ from congrFun h _])
theorem baseW_congr {E2 : En} (h : E.f = E2.f) (o : Option Nat) (vs : List V) (A : Prop) : baseW E o vs A = baseW E2 o vs A := by
  cases o with
  | none => rfl
  | some s => unfold baseW; simp only; rw [show getE E.l E.d s = getE E2.l E2.d s from congrFun h s]
theorem opsW_congr {K1 K2 : En → Heap → Prop} (hk : ∀ (E1 E2 : En) H, E1.f = E2.f → K1 E1 H = K2 E2 H) : ∀ (os : List VOp) (E1 E2 : En) (H : Heap), E1.f = E2.f → opsW P os E1 H K1 = opsW P os E2 H K2
  | [], E1, E2, H, h => hk E1 E2 H h
  | o :: os, E1, E2, H, h => by
    have ih := opsW_congr hk os
    have hg : ∀ i, getE E1.l E1.d i = getE E2.l E2.d i := fun i => congrFun h i
    show stepW P o E1 H _ = stepW P o E2 H _
    have hf : opsW P os (E1.setO o.dst (.tup [])) H K1 = opsW P os (E2.setO o.dst (.tup [])) H K2 := ih _ _ _ (set_congr h _ _)
    have hr : ∀ (r : V) (H' : Heap), opsW P os ((stripEn o.take E1).setO o.dst r) H' K1 = opsW P os ((stripEn o.take E2).setO o.dst r) H' K2 := fun r H' => ih _ _ _ (set_congr (strip_congr h _) _ _)
    unfold stepW wantedW
    simp only [hg, args_congr h, hf, hr, callX_congr h, baseW_congr h]
theorem runOps_congr {E2 : En} (h : E.f = E2.f) : runOps P os keep s E H K = runOps P os keep s E2 H K := by
  unfold runOps
  refine opsW_congr (fun E1 E2 H h => ?_) _ _ _ _ h
  have : keepS E1 keep = keepS E2 keep := by
    unfold keepS
    congr 1
    apply List.map_congr_left
    intro i _
    rw [show getE E1.l E1.d i = getE E2.l E2.d i from congrFun h i]
  rw [this]
theorem runAct_congr {a : Act} {vs : List V} {E2 : En} (h : E.f = E2.f) : runAct P a vs tk dst os keep s E H K = runAct P a vs tk dst os keep s E2 H K := by
  have hr : ∀ (r : V) (H' : Heap), runOps P os keep s ((stripEn tk E).setO dst r) H' K = runOps P os keep s ((stripEn tk E2).setO dst r) H' K := fun r H' => runOps_congr (set_congr (strip_congr h _) _ _)
  unfold runAct
  simp only [hr, callX_congr h, baseW_congr h]
def guardE (v : V) (b : Bool) (A B C : Prop) : Prop := match v with
  | .bool c => (c = b → A) ∧ (c = (!b) → B)
  | .tup _ => C
  | _ => False
theorem ops_guard1 {l : List (Nat × V)} {d : V} {act : Act} {args : List Opnd} {g : Nat} {b : Bool} : runOps P (⟨dst, act, args, tk, some (g, b)⟩ :: os) keep s ⟨l, d⟩ H K =
    guardE (getE l d g) b (runAct P act (argsW ⟨(g, .bool b) :: l, d⟩ tk args) tk dst os keep s ⟨(g, .bool b) :: l, d⟩ H K)
      (runOps P os keep s (En.setO ⟨(g, .bool !b) :: l, d⟩ dst (.tup [])) H K) (runOps P os keep s (En.setO ⟨l, d⟩ dst (.tup [])) H K) := by
  rw [ops_guard0]
  unfold guardW guardE
  cases hg : getE l d g with
  | bool c =>
    have hext : ∀ c', c = c' → (⟨(g, .bool c') :: l, d⟩ : En).f = (⟨l, d⟩ : En).f := by
      rintro c' rfl
      funext i
      show getE ((g, V.bool c) :: l) d i = getE l d i
      rw [getE_cons]
      split
      · rename_i h; subst h; exact hg.symm
      · rfl
    simp only [hg]
    have e1 : (c = b → runAct P act (argsW ⟨l, d⟩ tk args) tk dst os keep s ⟨l, d⟩ H K) = (c = b → runAct P act (argsW ⟨(g, .bool b) :: l, d⟩ tk args) tk dst os keep s ⟨(g, .bool b) :: l, d⟩ H K) := by
      apply propext
      refine forall_congr' fun h => ?_
      rw [args_congr (hext b h), runAct_congr (hext b h)]
    have e2 : (c ≠ b → runOps P os keep s (En.setO ⟨l, d⟩ dst (.tup [])) H K) = (c = (!b) → runOps P os keep s (En.setO ⟨(g, .bool !b) :: l, d⟩ dst (.tup [])) H K) := by
      have : (c ≠ b) = (c = (!b)) := by cases c <;> cases b <;> simp
      rw [this]
      apply propext
      refine forall_congr' fun h => ?_
      rw [runOps_congr (set_congr (hext _ h) _ _)]
    rw [e1, e2]
  | _ => simp only [hg]
def guardD (P : Program) (v : V) (g : Nat) (b : Bool) (act : Act) (args : List Opnd) (tk : List Nat) (dst : Option Nat) (os : List VOp) (keep : List Nat) (s : List Fr) (l : List (Nat × V)) (d : V) (H : Heap) (K : KK) : Prop :=
  guardE v b (runAct P act (argsW ⟨(g, .bool b) :: l, d⟩ tk args) tk dst os keep s ⟨(g, .bool b) :: l, d⟩ H K)
      (runOps P os keep s (En.setO ⟨(g, .bool !b) :: l, d⟩ dst (.tup [])) H K) (runOps P os keep s (En.setO ⟨l, d⟩ dst (.tup [])) H K)
@[go_sem] theorem ops_guard {l : List (Nat × V)} {d : V} {act : Act} {args : List Opnd} {g : Nat} {b : Bool} : runOps P (⟨dst, act, args, tk, some (g, b)⟩ :: os) keep s ⟨l, d⟩ H K =
    guardD P (getE l d g) g b act args tk dst os keep s l d H K := ops_guard1
@[go_sem] theorem guardD_bool {c : Bool} {l : List (Nat × V)} {d : V} {act : Act} {args : List Opnd} {g : Nat} {b : Bool} : guardD P (.bool c) g b act args tk dst os keep s l d H K =
    if c = b then runAct P act (argsW ⟨(g, .bool b) :: l, d⟩ tk args) tk dst os keep s ⟨(g, .bool b) :: l, d⟩ H K else runOps P os keep s (En.setO ⟨(g, .bool !b) :: l, d⟩ dst (.tup [])) H K := by
  rw [iteP]
  unfold guardD guardE
  cases c <;> cases b <;> simp
@[go_sem] theorem guardD_tup {w : List V} {l : List (Nat × V)} {d : V} {act : Act} {args : List Opnd} {g : Nat} {b : Bool} : guardD P (.tup w) g b act args tk dst os keep s l d H K =
    runOps P os keep s (En.setO ⟨l, d⟩ dst (.tup [])) H K := (rfl)
@[go_sem] theorem args_nil : argsW E tk [] = [] := rfl
@[go_sem] theorem args_c {v : V} {l : List Opnd} : argsW E tk (.c v :: l) = v :: argsW E tk l := rfl
@[go_sem] theorem args_t {l : List (Nat × V)} {d : V} {i : Nat} {av : List Opnd} : argsW ⟨l, d⟩ tk (.t i :: av) = (if tk.contains i then getE l d i else strip (getE l d i)) :: argsW ⟨l, d⟩ tk av := rfl
@[go_sem] theorem set_some {l : List (Nat × V)} {d : V} {i : Nat} {v : V} : En.setO ⟨l, d⟩ (some i) v = ⟨(i, v) :: l, d⟩ := rfl
@[go_sem] theorem set_none {v : V} : En.setO E none v = E := rfl
@[go_sem] theorem stripEn_nil : stripEn [] E = E := rfl
@[go_sem] theorem stripEn_cons {l : List (Nat × V)} {d : V} {i : Nat} {is : List Nat} : stripEn (i :: is) ⟨l, d⟩ = stripEn is ⟨(i, strip (getE l d i)) :: l, d⟩ := rfl
@[go_sem] theorem strip_int {k : IntKind} {n : Int} : strip (.int k n) = .int k n := rfl
@[go_sem] theorem strip_bool {b : Bool} : strip (.bool b) = .bool b := rfl
@[go_sem] theorem strip_str {b : List UInt8} : strip (.str b) = .str b := rfl
@[go_sem] theorem strip_sl {o : Bool} {z : Nat} {xs : List (List V)} : strip (.sl o z xs) = .sl false z xs := rfl
@[go_sem] theorem strip_ptr {a b c : Nat} : strip (.ptr a b c) = .ptr a b c := rfl
@[go_sem] theorem strip_cptr {cs : List V} : strip (.cptr cs) = .cptr cs := rfl
@[go_sem] theorem strip_hsl {a b c d e : Nat} : strip (.hsl a b c d e) = .hsl a b c d e := rfl
@[go_sem] theorem strip_nilh {z : Nat} : strip (.nilh z) = .nilh z := rfl
@[go_sem] theorem strip_nilp : strip .nilp = .nilp := rfl
@[go_sem] theorem strip_u : strip .u = .u := rfl
@[go_sem] theorem strip_fr {z : Nat} {xs : List (List V)} : strip (.fr z xs) = .u := rfl
@[go_sem] theorem strip_fn {f : Nat} {cs : List V} : strip (.fn f cs) = .fn f cs := rfl
@[go_sem] theorem strip_agg {cs : List V} : strip (.agg cs) = .agg (cs.map strip0) := rfl
@[go_sem] theorem strip_tup {cs : List V} : strip (.tup cs) = .tup (cs.map stripA) := rfl
@[go_sem] theorem stripA_agg {cs : List V} : stripA (.agg cs) = .agg (cs.map strip0) := rfl
@[go_sem] theorem stripA_int {k : IntKind} {n : Int} : stripA (.int k n) = .int k n := rfl
@[go_sem] theorem stripA_bool {b : Bool} : stripA (.bool b) = .bool b := rfl
@[go_sem] theorem stripA_str {b : List UInt8} : stripA (.str b) = .str b := rfl
@[go_sem] theorem stripA_sl {o : Bool} {z : Nat} {xs : List (List V)} : stripA (.sl o z xs) = .sl false z xs := rfl
@[go_sem] theorem strip0_int {k : IntKind} {n : Int} : strip0 (.int k n) = .int k n := rfl
@[go_sem] theorem strip0_bool {b : Bool} : strip0 (.bool b) = .bool b := rfl
@[go_sem] theorem strip0_str {b : List UInt8} : strip0 (.str b) = .str b := rfl
@[go_sem] theorem strip0_sl {o : Bool} {z : Nat} {xs : List (List V)} : strip0 (.sl o z xs) = .sl false z xs := rfl
@[go_sem] theorem strip0_hsl {a b c d e : Nat} : strip0 (.hsl a b c d e) = .hsl a b c d e := rfl
@[go_sem] theorem strip0_ptr {a b c : Nat} : strip0 (.ptr a b c) = .ptr a b c := rfl
@[go_sem] theorem strip0_nilh {z : Nat} : strip0 (.nilh z) = .nilh z := rfl
@[go_sem] theorem strip0_nilp : strip0 .nilp = .nilp := rfl

@[go_sem] theorem run_call {f : Nat} {caps rest : List V} : runAct P (.call .wr) (.fn f caps :: rest) tk dst os keep s E H K =
    ∃ r H', T P f (rest ++ caps) H r H' ∧ runOps P os keep s ((stripEn tk E).setO dst r) H' K := (rfl)
@[go_sem] theorem run_callR {f : Nat} {caps rest : List V} : runAct P (.call .rd) (.fn f caps :: rest) tk dst os keep s E H K =
    ∃ r, T P f (rest ++ caps) H r H ∧ runOps P os keep s ((stripEn tk E).setO dst r) H K := (rfl)
@[go_sem] theorem run_callP {f : Nat} {caps rest : List V} : runAct P (.call .al) (.fn f caps :: rest) tk dst os keep s E H K =
    ∃ r, T P f (rest ++ caps) [] r [] ∧ idsL 0 (rest ++ caps) = true ∧ runOps P os keep s ((stripEn tk E).setO dst r) H K := (rfl)
@[go_sem] theorem run_callG {f : Nat} {caps rest : List V} : runAct P (.call .gr) (.fn f caps :: rest) tk dst os keep s E H K =
    ∃ r L, T P f (rest ++ caps) H r (H ++ L) ∧ runOps P os keep s ((stripEn tk E).setO dst r) (H ++ L) K := (rfl)
/-- A call that stays below the object that a slot points to. -/
theorem run_callF {t f : Nat} {caps rest : List V} : runAct P (.call (.fr t)) (.fn f caps :: rest) tk dst os keep s E H K =
    callB P (getE E.l E.d t) f (rest ++ caps) H fun r H' => runOps P os keep s ((stripEn tk E).setO dst r) H' K := (rfl)
@[go_sem] theorem run_callF' {t f : Nat} {caps rest : List V} {l : List (Nat × V)} {d : V} : runAct P (.call (.fr t)) (.fn f caps :: rest) tk dst os keep s ⟨l, d⟩ H K =
    callB P (getE l d t) f (rest ++ caps) H fun r H' => runOps P os keep s ((stripEn tk ⟨l, d⟩).setO dst r) H' K := (rfl)
@[go_sem] theorem callB_ptr {k v o f : Nat} {args : List V} {F : V → Heap → Prop} : callB P (.ptr k v o) f args H F = ∃ r A A' L, H = A ++ L ∧ A.length = k ∧ A'.length = k ∧ T P f args A r A' ∧ idsL k args = true ∧ A.all (idsO k) = true ∧ F r (A' ++ L) := (rfl)
@[go_sem] theorem run_callK' {t f : Nat} {caps rest : List V} {l : List (Nat × V)} {d : V} : runAct P (.call (.kp t)) (.fn f caps :: rest) tk dst os keep s ⟨l, d⟩ H K =
    callK P (getE l d t) f (rest ++ caps) H fun r H' => runOps P os keep s ((stripEn tk ⟨l, d⟩).setO dst r) H' K := (rfl)
@[go_sem] theorem callK_ptr {k v o f : Nat} {args : List V} {F : V → Heap → Prop} : callK P (.ptr k v o) f args H F = ∃ r H', T P f args H r H' ∧ (H.length ≤ H'.length ∧ ∀ i, k ≤ i → i < H.length → H'[i]? = H[i]?) ∧ F r H' := (rfl)
def runLoc (P : Program) (v : V) (a : Act) (vs : List V) (tk : List Nat) (dst : Option Nat) (os : List VOp) (keep : List Nat) (s : List Fr) (E : En) (H : Heap) (K : KK) : Prop := farOk v vs = true ∧ runAct P a vs tk dst os keep s E H K
@[go_sem] theorem runLoc_eq {v : V} {a : Act} {vs : List V} : runLoc P v a vs tk dst os keep s E H K = (farOk v vs = true ∧ runAct P a vs tk dst os keep s E H K) := (rfl)
theorem mkW_of {b : Bool} {l : List V} {K : V → Prop} {v : V} (h : mk b l = some v) (k : K v) : mkW b l K := by
  unfold mk at h
  split at h
  · cases h; exact k
  · cases h; exact ⟨_, rfl, k⟩
  · cases h
theorem cut_of {cs l : List V} {off n : Nat} (h : cut cs off n = some l) : off + n ≤ cs.length ∧ (cs.drop off).take n = l := by
  unfold cut at h
  split at h
  · rename_i hl; cases h; exact ⟨hl, rfl⟩
  · cases h
@[go_sem] theorem run_loadL {t n : Nat} {agg : Bool} {id ver off : Nat} {l : List (Nat × V)} {d : V} : runAct P (.loadL t n agg) [.ptr id ver off] tk dst os keep s ⟨l, d⟩ H K = runLoc P (getE l d t) (.load n agg) [.ptr id ver off] tk dst os keep s ⟨l, d⟩ H K := by
  unfold runLoc runAct baseW
  simp only [Act.base]
  congr 1
  apply propext
  constructor
  · rintro ⟨r, H', h, k⟩
    obtain ⟨cs, h1, h⟩ := Option.bind_eq_some_iff.1 (show (getCells H id ver).bind _ = _ from h)
    obtain ⟨c, h2, h⟩ := Option.bind_eq_some_iff.1 h
    obtain ⟨v, h3, h⟩ := Option.map_eq_some_iff.1 h
    cases h
    obtain ⟨q1, q2⟩ := cut_of h2
    exact ⟨cs, h1, q1, by rw [q2]; exact mkW_of h3 k⟩
  · intro h
    exact actW_sound (a := .load n agg) h
@[go_sem] theorem run_loadTL {t n : Nat} {agg : Bool} {id ver off : Nat} {l : List (Nat × V)} {d : V} : runAct P (.loadTL t n agg) [.ptr id ver off] tk dst os keep s ⟨l, d⟩ H K = runLoc P (getE l d t) (.loadT n agg) [.ptr id ver off] tk dst os keep s ⟨l, d⟩ H K := by
  unfold runLoc runAct baseW
  simp only [Act.base]
  congr 1
  apply propext
  constructor
  · rintro ⟨r, H', h, k⟩
    obtain ⟨cs, h1, h⟩ := Option.bind_eq_some_iff.1 (show (getCells H id ver).bind _ = _ from h)
    obtain ⟨c, h2, h⟩ := Option.bind_eq_some_iff.1 h
    obtain ⟨v, h3, h⟩ := Option.map_eq_some_iff.1 h
    cases h
    obtain ⟨q1, q2⟩ := cut_of h2
    exact ⟨cs, h1, q1, by rw [q2]; exact mkW_of h3 k⟩
  · intro h
    exact actW_sound (a := .loadT n agg) h
@[go_sem] theorem run_allocL {t : Nat} {zs : List V} {l : List (Nat × V)} {d : V} : runAct P (.allocL t zs) [] tk dst os keep s ⟨l, d⟩ H K = (farOk (getE l d t) [] = true ∧ runAct P (.alloc zs) [] tk dst os keep s ⟨l, d⟩ H K) := by
  unfold runAct baseW
  simp only [Act.base]
  congr 1
  apply propext
  constructor
  · rintro ⟨r, H', h, k⟩; cases h; exact k
  · intro k; exact ⟨_, _, rfl, k⟩
@[go_sem] theorem far_ptr {k v o id v' o' : Nat} {vs : List V} : (farOk (.ptr k v o) (.ptr id v' o' :: vs) = true) = (k ≤ id) := by simp [farOk]
@[go_sem] theorem far_nil {k v o : Nat} : (farOk (.ptr k v o) [] = true) = True := by simp [farOk]
@[go_sem] theorem run_mv {v : V} : runAct P .mv [v] tk dst os keep s E H K = runOps P os keep s ((stripEn tk E).setO dst v) H K := (rfl)
@[go_sem] theorem run_pick {c : Bool} {x y : V} : runAct P .pick [.bool c, x, y] tk dst os keep s E H K = if c = true then runOps P os keep s ((stripEn tk E).setO dst x) H K else runOps P os keep s ((stripEn tk E).setO dst y) H K := by
  rw [iteP]
  show ((c = true → _) ∧ (c = false → _)) = _
  cases c <;> simp
@[go_sem] theorem run_bin {op : BinOp} {j k : IntKind} {a b : Int} : runAct P (.bin op) [.int j a, .int k b] tk dst os keep s E H K = (j = k ∧ runInt P op j a b tk dst os keep s E H K) := (rfl)
@[go_sem] theorem run_add {k : IntKind} {a b : Int} : runInt P .add k a b tk dst os keep s E H K = ∃ z, z = k.wrap (a + b) ∧ runOps P os keep s ((stripEn tk E).setO dst (.int k z)) H K := (rfl)
@[go_sem] theorem run_sub {k : IntKind} {a b : Int} : runInt P .sub k a b tk dst os keep s E H K = ∃ z, z = k.wrap (a - b) ∧ runOps P os keep s ((stripEn tk E).setO dst (.int k z)) H K := (rfl)
@[go_sem] theorem run_mul {k : IntKind} {a b : Int} : runInt P .mul k a b tk dst os keep s E H K = ∃ z, z = k.wrap (a * b) ∧ runOps P os keep s ((stripEn tk E).setO dst (.int k z)) H K := (rfl)
@[go_sem] theorem run_quo {k : IntKind} {a b : Int} : runInt P .quo k a b tk dst os keep s E H K = (b ≠ 0 ∧ ∃ z, z = k.wrap (a.tdiv b) ∧ runOps P os keep s ((stripEn tk E).setO dst (.int k z)) H K) := (rfl)
@[go_sem] theorem run_rem {k : IntKind} {a b : Int} : runInt P .rem k a b tk dst os keep s E H K = (b ≠ 0 ∧ ∃ z, z = k.wrap (a.tmod b) ∧ z = a.tmod b ∧ runOps P os keep s ((stripEn tk E).setO dst (.int k z)) H K) := (rfl)
@[go_sem] theorem run_eql {k : IntKind} {a b : Int} : runInt P .eql k a b tk dst os keep s E H K = runOps P os keep s ((stripEn tk E).setO dst (.bool (a == b))) H K := (rfl)
@[go_sem] theorem run_neq {k : IntKind} {a b : Int} : runInt P .neq k a b tk dst os keep s E H K = runOps P os keep s ((stripEn tk E).setO dst (.bool (a != b))) H K := (rfl)
@[go_sem] theorem run_lss {k : IntKind} {a b : Int} : runInt P .lss k a b tk dst os keep s E H K = runOps P os keep s ((stripEn tk E).setO dst (.bool (decide (a < b)))) H K := (rfl)
@[go_sem] theorem run_leq {k : IntKind} {a b : Int} : runInt P .leq k a b tk dst os keep s E H K = runOps P os keep s ((stripEn tk E).setO dst (.bool (decide (a ≤ b)))) H K := (rfl)
@[go_sem] theorem run_gtr {k : IntKind} {a b : Int} : runInt P .gtr k a b tk dst os keep s E H K = runOps P os keep s ((stripEn tk E).setO dst (.bool (decide (a > b)))) H K := (rfl)
@[go_sem] theorem run_geq {k : IntKind} {a b : Int} : runInt P .geq k a b tk dst os keep s E H K = runOps P os keep s ((stripEn tk E).setO dst (.bool (decide (a ≥ b)))) H K := (rfl)
@[go_sem] theorem run_not {b : Bool} : runAct P .not [.bool b] tk dst os keep s E H K = runOps P os keep s ((stripEn tk E).setO dst (.bool !b)) H K := (rfl)
@[go_sem] theorem run_eqb {ne agg : Bool} {ks : List K3} {x y : V} : runAct P (.eqc ne agg ks) [x, y] tk dst os keep s E H K = ∃ b, eqV ks agg x y = some b ∧ runOps P os keep s ((stripEn tk E).setO dst (.bool (b != ne))) H K := (rfl)
@[go_sem] theorem eqV_b {x y : Bool} : eqV [.b] false (.bool x) (.bool y) = some ((x == y) && true) := rfl
theorem run_alloc {zs : List V} : runAct P (.alloc zs) [] tk dst os keep s E H K = runOps P os keep s ((stripEn tk E).setO dst (.ptr H.length 0 0)) (H ++ [.cells 0 zs]) K := (rfl)
theorem run_load {id ver off n : Nat} {agg : Bool} : runAct P (.load n agg) [.ptr id ver off] tk dst os keep s E H K =
    cellsW H id ver off n fun _ l => mkW agg (l.map strip0) fun v => runOps P os keep s ((stripEn tk E).setO dst v) H K := (rfl)
@[go_sem] theorem run_loadc1 {v : V} : runAct P (.load 1 false) [.cptr [v]] tk dst os keep s E H K = runOps P os keep s ((stripEn tk E).setO dst v) H K := by
  show (1 ≤ [v].length ∧ _) = _
  simp [mkW]
@[go_sem] theorem run_loadc {n : Nat} {cs : List V} : runAct P (.load n true) [.cptr cs] tk dst os keep s E H K = (n ≤ cs.length ∧ runOps P os keep s ((stripEn tk E).setO dst (.agg (cs.take n))) H K) := (rfl)
@[go_sem] theorem run_nilCheck {a b c : Nat} : runAct P .nilCheck [.ptr a b c] tk dst os keep s E H K = runOps P os keep s ((stripEn tk E).setO dst (.ptr a b c)) H K := (rfl)
@[go_sem] theorem run_fieldAddr {off a b c : Nat} : runAct P (.fieldAddr off) [.ptr a b c] tk dst os keep s E H K = runOps P os keep s ((stripEn tk E).setO dst (.ptr a b (c + off))) H K := (rfl)
@[go_sem] theorem run_fieldAddrc {off : Nat} {cs : List V} : runAct P (.fieldAddr off) [.cptr cs] tk dst os keep s E H K = runOps P os keep s ((stripEn tk E).setO dst (.cptr (cs.drop off))) H K := (rfl)
@[go_sem] theorem run_index {o : Bool} {z sz : Nat} {xs : List (List V)} {k : IntKind} {i : Int} : runAct P (.indexAddr sz) [.sl o z xs, .int k i] tk dst os keep s E H K =
    (z = sz ∧ 0 ≤ i ∧ ∃ x, xs[i.toNat]? = some x ∧ runOps P os keep s ((stripEn tk E).setO dst (.cptr x)) H K) := (rfl)
@[go_sem] theorem run_indexh {a b c ln z sz : Nat} {k : IntKind} {i : Int} : runAct P (.indexAddr sz) [.hsl a b c ln z, .int k i] tk dst os keep s E H K =
    (z = sz ∧ 0 ≤ i ∧ i < ln ∧ runOps P os keep s ((stripEn tk E).setO dst (.ptr a b (c + i.toNat * sz))) H K) := (rfl)
@[go_sem] theorem run_len {o : Bool} {z : Nat} {xs : List (List V)} : runAct P .len [.sl o z xs] tk dst os keep s E H K = runOps P os keep s ((stripEn tk E).setO dst (.int .i64 xs.length)) H K := (rfl)
@[go_sem] theorem run_lenh {a b c ln z : Nat} : runAct P .len [.hsl a b c ln z] tk dst os keep s E H K = runOps P os keep s ((stripEn tk E).setO dst (.int .i64 ln)) H K := (rfl)
@[go_sem] theorem run_lenn {z : Nat} : runAct P .len [.nilh z] tk dst os keep s E H K = runOps P os keep s ((stripEn tk E).setO dst (.int .i64 0)) H K := (rfl)
@[go_sem] theorem run_append {z z' sz bytes : Nat} {o : Bool} {xs ys : List (List V)} : runAct P (.append sz bytes) [.sl true z xs, .sl o z' ys] tk dst os keep s E H K =
    (z = sz ∧ z' = sz ∧ fits (xs.length + ys.length) bytes ∧ runOps P os keep s ((stripEn tk E).setO dst (.sl true z (xs ++ ys))) H K) := (rfl)
@[go_sem] theorem run_extract {i : Nat} {vs : List V} : runAct P (.extract i) [.tup vs] tk dst os keep s E H K = ∃ v, vs[i]? = some v ∧ runOps P os keep s ((stripEn tk E).setO dst v) H K := (rfl)
@[go_sem] theorem run_build1 {k : IntKind} {n : Int} : runAct P (.buildSl 1) [.int k n] tk dst os keep s E H K = runOps P os keep s ((stripEn tk E).setO dst (.sl true 1 [[.int k n]])) H K := by
  show (∃ r H', sBuildSl 1 [.int k n] H = some (r, H') ∧ _) = _
  simp only [sBuildSl, elems, solid, scal0, V.cells, inl, plain1, plain0, inl0, strip0, List.length_cons, List.length_nil, List.all_cons, List.all_nil, List.map_cons, List.map_nil, and_self, Bool.and_self, if_true, Option.map_some, Option.bind_some, Nat.zero_add, Option.some.injEq, Prod.mk.injEq]
  apply propext
  constructor
  · rintro ⟨r, H', ⟨rfl, rfl⟩, h⟩; exact h
  · intro h; exact ⟨_, _, ⟨rfl, rfl⟩, h⟩
end

theorem ex_map {α β : Type} {l : List α} {f : α → β} {i : Nat} {K : β → Prop} : (∃ x, (l.map f)[i]? = some x ∧ K x) = ∃ a, l[i]? = some a ∧ K (f a) := by
  simp only [List.getElem?_map, Option.map_eq_some_iff]
  apply propext
  constructor
  · rintro ⟨x, ⟨a, h1, rfl⟩, h2⟩; exact ⟨a, h1, h2⟩
  · rintro ⟨a, h1, h2⟩; exact ⟨_, ⟨a, h1, rfl⟩, h2⟩

/-- A loop, from what holds at each round's start. -/
theorem WP.loop' {P : Program} {a : VCode} {E : En} {H : Heap} {K : KK} (I : Nat → En → Heap → Prop) {n : Nat} (h : I n E H) (step : ∀ n E H, I n E H → run P a [] E H (seqW K fun E' H' => ∃ m, m < n ∧ I m E' H')) : WP P (.loop a) E H K := by
  refine WP.loop I (fun n E H hI => (wp_sound (step n E H hI)).mono ?_) h
  intro x E' H' k
  cases x with
  | normal => exact k
  | exit id => exact k
  | ret => exact k
@[go_sem] theorem seqW_normal {K : KK} {N : En → Heap → Prop} {E : En} {H : Heap} : seqW K N .normal E H = N E H := (rfl)
@[go_sem] theorem seqW_exit {K : KK} {N : En → Heap → Prop} {E : En} {H : Heap} {id : Nat} : seqW K N (.exit id) E H = K (.exit id) E H := (rfl)
@[go_sem] theorem seqW_ret {K : KK} {N : En → Heap → Prop} {E : En} {H : Heap} : seqW K N .ret E H = K .ret E H := (rfl)

/-- How a function ends: what it answers. -/
def endW (H0 : Heap) (rs : List VRes) (R : V → Prop) : KK := fun x E H => (match x with | .exit _ => False | _ => True) ∧ H = H0 ∧ ∃ r0, resV H0.length H0 E.f rs = some r0 ∧ ∃ r, fixV H0.length H0 8 r0 = some r ∧ R r
def endV (H0 : Heap) (E : En) (rs : List VRes) (R : V → Prop) : Prop := ∃ r0, resV H0.length H0 E.f rs = some r0 ∧ ∃ r, fixV H0.length H0 8 r0 = some r ∧ R r
@[go_sem] theorem endW_normal (H0 : Heap) (rs : List VRes) (R : V → Prop) (E : En) (H : Heap) : endW H0 rs R .normal E H = (H = H0 ∧ endV H0 E rs R) := by simp [endW, endV]
@[go_sem] theorem endW_ret (H0 : Heap) (rs : List VRes) (R : V → Prop) (E : En) (H : Heap) : endW H0 rs R .ret E H = (H = H0 ∧ endV H0 E rs R) := by simp [endW, endV]

theorem T.of {P : Program} (hmix : P.follows .mixedOrders = true) {f : Nat} {vf : VFunc} (hc : chkFn P f vf = true) {args : List V} {H : Heap} {r : V} (hl : Nat.ble args.length vf.n = true)
    (h : run P vf.body [] ⟨args.zipIdx.map fun p => (p.2, p.1), .tup []⟩ H (endW H vf.results fun r' => r' = r)) : T P f args H r H := by
  refine T.of_pure hmix hc (Nat.le_of_ble_eq_true hl) ((wp_sound h).mono ?_)
  rintro x E' H' ⟨h1, rfl, r0, h2, r', h3, rfl⟩
  refine ⟨?_, rfl, r0, h2, h3⟩
  intro id e; subst e; exact h1

@[go_sem] theorem endV_tmp (H0 : Heap) (l : List (Nat × V)) (d : V) (t : Nat) (R : V → Prop) : endV H0 ⟨l, d⟩ [.tmp t] R = ∃ r, fixV H0.length H0 8 (getE l d t) = some r ∧ R r := by
  simp [endV, resV, resL, res1, pack, En.f]
@[go_sem] theorem endV_two (H0 : Heap) (l : List (Nat × V)) (d : V) (t u : Nat) (R : V → Prop) : endV H0 ⟨l, d⟩ [.tmp t, .tmp u] R = ∃ r, fixV H0.length H0 8 (.tup [getE l d t, getE l d u]) = some r ∧ R r := by
  simp [endV, resV, resL, res1, pack, En.f]
@[go_sem] theorem endV_nil (H0 : Heap) (l : List (Nat × V)) (d : V) (R : V → Prop) : endV H0 ⟨l, d⟩ [] R = R (.tup []) := by
  simp [endV, resV, resL, pack, fixV]
@[go_sem] theorem fix_int (m : Nat) (H : Heap) (k : IntKind) (n : Int) : fixV m H 8 (.int k n) = some (.int k n) := rfl
@[go_sem] theorem fix_bool (m : Nat) (H : Heap) (b : Bool) : fixV m H 8 (.bool b) = some (.bool b) := rfl
@[go_sem] theorem fix_str (m : Nat) (H : Heap) (s : List UInt8) : fixV m H 8 (.str s) = some (.str s) := rfl
@[go_sem] theorem fix_sl (m : Nat) (H : Heap) (o : Bool) (z : Nat) (xs : List (List V)) : fixV m H 8 (.sl o z xs) = some (.sl o z xs) := rfl

theorem wrap64 {n : Int} (h1 : -9223372036854775808 ≤ n) (h2 : n < 9223372036854775808) : IntKind.i64.wrap n = n := by
  simp [IntKind.wrap, IntKind.bits, IntKind.signed]
  omega

attribute [go_sem] List.map_cons List.map_nil List.zipIdx_cons List.zipIdx_nil Nat.reduceAdd Nat.reduceEqDiff ite_true ite_false if_true if_false
  reduceCtorEq List.contains_nil Bool.false_eq_true true_and and_true List.contains_cons forall_const false_implies Option.some.injEq exists_eq_left' eq_self Nat.reduceBEq Bool.or_false Bool.or_true Bool.true_or Bool.false_or
  iteP decide_eq_true_eq Bool.not_eq_true decide_eq_false_iff_not ne_eq not_true_eq_false not_false_eq_true Bool.not_true Bool.not_false and_false false_and
end Go.Proofs.YtoaohapbbnpbeaaGreat.Vm
namespace Go.Proofs.YtoaohapbbnpbeaaGreat.Vm
open Go

section
variable {P : Program} {K : KK} {s : List Fr} {E : En} {H : Heap} {tk : List Nat} {dst : Option Nat} {os : List VOp} {keep : List Nat}

/-- Goes on with an answer. -/
def nextV (P : Program) (v : V) (tk : List Nat) (dst : Option Nat) (os : List VOp) (keep : List Nat) (s : List Fr) (E : En) (H : Heap) (K : KK) : Prop := runOps P os keep s ((stripEn tk E).setO dst v) H K
@[go_sem] theorem nextV_eq {v : V} : nextV P v tk dst os keep s E H K = runOps P os keep s ((stripEn tk E).setO dst v) H K := (rfl)

def loadO (P : Program) (x : Option V) (tk : List Nat) (dst : Option Nat) (os : List VOp) (keep : List Nat) (s : List Fr) (E : En) (H : Heap) (K : KK) : Prop := ∃ v, x = some v ∧ nextV P (strip0 v) tk dst os keep s E H K
@[go_sem] theorem loadO_some {v : V} : loadO P (some v) tk dst os keep s E H K = nextV P (strip0 v) tk dst os keep s E H K := by
  apply propext
  constructor
  · rintro ⟨v, h, k⟩; cases h; exact k
  · intro k; exact ⟨v, rfl, k⟩
@[go_sem] theorem loadO_map {α : Type} {l : List α} {f : α → V} {i : Nat} : loadO P (l.map f)[i]? tk dst os keep s E H K = ∃ a, l[i]? = some a ∧ nextV P (strip0 (f a)) tk dst os keep s E H K := ex_map
def loadG (P : Program) (x : Option (List V)) (off : Nat) (tk : List Nat) (dst : Option Nat) (os : List VOp) (keep : List Nat) (s : List Fr) (E : En) (H : Heap) (K : KK) : Prop :=
  ∃ cs, x = some cs ∧ loadO P cs[off]? tk dst os keep s E H K
@[go_sem] theorem loadG_some {cs : List V} {off : Nat} : loadG P (some cs) off tk dst os keep s E H K = loadO P cs[off]? tk dst os keep s E H K := by
  apply propext
  constructor
  · rintro ⟨v, h, k⟩; cases h; exact k
  · intro k; exact ⟨cs, rfl, k⟩
theorem cut_one {cs : List V} {off : Nat} {v : V} (h : cs[off]? = some v) : cut cs off 1 = some [v] := by
  have hl := (List.getElem?_eq_some_iff.1 h).1
  unfold cut
  rw [if_pos (by omega)]
  congr 1
  apply List.ext_getElem?
  intro i
  rw [List.getElem?_take]
  match i with
  | 0 => rw [if_pos (by omega), List.getElem?_drop, Nat.add_zero, h]; rfl
  | i + 1 => rw [if_neg (by omega)]; simp
theorem one_cut {cs : List V} {off : Nat} {l : List V} (h : cut cs off 1 = some l) : ∃ v, cs[off]? = some v ∧ l = [v] := by
  have hl : off + 1 ≤ cs.length := by
    unfold cut at h; split at h
    · assumption
    · cases h
  have h1 : cs[off]? = some cs[off] := List.getElem?_eq_getElem (by omega)
  rw [cut_one h1] at h
  cases h
  exact ⟨_, h1, rfl⟩
@[go_sem] theorem run_load1 {id ver off : Nat} : runAct P (.load 1 false) [.ptr id ver off] tk dst os keep s E H K = loadG P (getCells H id ver) off tk dst os keep s E H K := by
  apply propext
  constructor
  · rintro ⟨cs, h1, h2, v, h3, h4⟩
    have hc : cut cs off 1 = some ((cs.drop off).take 1) := by simp [cut, h2]
    obtain ⟨y, hu, he⟩ := one_cut hc
    rw [he] at h3
    cases h3
    exact ⟨cs, h1, y, hu, h4⟩
  · rintro ⟨cs, h1, y, hu, h4⟩
    have hl := (List.getElem?_eq_some_iff.1 hu).1
    have hc := cut_one hu
    unfold cut at hc
    rw [if_pos (by omega)] at hc
    have hc := Option.some.inj hc
    exact ⟨cs, h1, by omega, strip0 y, by rw [hc]; rfl, h4⟩


def loadA (P : Program) (n : Nat) (x : Option (List V)) (off : Nat) (tk : List Nat) (dst : Option Nat) (os : List VOp) (keep : List Nat) (s : List Fr) (E : En) (H : Heap) (K : KK) : Prop :=
  ∃ cs, x = some cs ∧ off + n ≤ cs.length ∧ nextV P (.agg (((cs.drop off).take n).map strip0)) tk dst os keep s E H K
@[go_sem] theorem loadA_some {n : Nat} {cs : List V} {off : Nat} : loadA P n (some cs) off tk dst os keep s E H K = (off + n ≤ cs.length ∧ nextV P (.agg (((cs.drop off).take n).map strip0)) tk dst os keep s E H K) := by
  apply propext
  constructor
  · rintro ⟨v, h, k⟩; cases h; exact k
  · intro k; exact ⟨cs, rfl, k⟩
@[go_sem] theorem run_loadA {id ver off n : Nat} : runAct P (.load n true) [.ptr id ver off] tk dst os keep s E H K = loadA P n (getCells H id ver) off tk dst os keep s E H K := (rfl)
@[go_sem] theorem run_alloc' {zs : List V} : runAct P (.alloc zs) [] tk dst os keep s E H K = nextV P (.ptr H.length 0 0) tk dst os keep s E (H ++ [.cells 0 zs]) K := (rfl)

/-- A load that takes what it finds along. -/
def loadT1 (P : Program) (x : Option V) (cs : List V) (id ver off : Nat) (tk : List Nat) (dst : Option Nat) (os : List VOp) (keep : List Nat) (s : List Fr) (E : En) (H : Heap) (K : KK) : Prop :=
  ∃ v, x = some v ∧ nextV P v tk dst os keep s E (H.set id (.cells ver (cs.set off (strip0 v)))) K
@[go_sem] theorem loadT1_some {v : V} {cs : List V} {id ver off : Nat} : loadT1 P (some v) cs id ver off tk dst os keep s E H K = nextV P v tk dst os keep s E (H.set id (.cells ver (cs.set off (strip0 v)))) K := by
  apply propext
  constructor
  · rintro ⟨v, h, k⟩; cases h; exact k
  · intro k; exact ⟨v, rfl, k⟩
@[go_sem] theorem loadT1_map {α : Type} {l : List α} {f : α → V} {i : Nat} {cs : List V} {id ver off : Nat} : loadT1 P (l.map f)[i]? cs id ver off tk dst os keep s E H K = ∃ a, l[i]? = some a ∧ nextV P (f a) tk dst os keep s E (H.set id (.cells ver (cs.set off (strip0 (f a))))) K := ex_map
def loadTG (P : Program) (x : Option (List V)) (id ver off : Nat) (tk : List Nat) (dst : Option Nat) (os : List VOp) (keep : List Nat) (s : List Fr) (E : En) (H : Heap) (K : KK) : Prop :=
  ∃ cs, x = some cs ∧ loadT1 P cs[off]? cs id ver off tk dst os keep s E H K
@[go_sem] theorem loadTG_some {cs : List V} {id ver off : Nat} : loadTG P (some cs) id ver off tk dst os keep s E H K = loadT1 P cs[off]? cs id ver off tk dst os keep s E H K := by
  apply propext
  constructor
  · rintro ⟨v, h, k⟩; cases h; exact k
  · intro k; exact ⟨cs, rfl, k⟩
theorem put_one {cs : List V} {off : Nat} {v : V} (h : off < cs.length) : put cs off [v] = cs.set off v := by
  unfold put
  rw [List.set_eq_take_append_cons_drop, if_pos h]
  simp
@[go_sem] theorem run_loadT1 {id ver off : Nat} : runAct P (.loadT 1 false) [.ptr id ver off] tk dst os keep s E H K = loadTG P (getCells H id ver) id ver off tk dst os keep s E H K := by
  apply propext
  constructor
  · rintro ⟨cs, h1, h2, v, h3, h4⟩
    have hc : cut cs off 1 = some ((cs.drop off).take 1) := by simp [cut, h2]
    obtain ⟨x, hx, he⟩ := one_cut hc
    have hl := (List.getElem?_eq_some_iff.1 hx).1
    rw [he] at h3 h4
    cases h3
    simp only [List.map_cons, List.map_nil] at h4
    rw [put_one hl] at h4
    exact ⟨cs, h1, _, hx, h4⟩
  · rintro ⟨cs, h1, x, hx, h4⟩
    have hl := (List.getElem?_eq_some_iff.1 hx).1
    have hc := cut_one hx
    unfold cut at hc
    rw [if_pos (by omega)] at hc
    have hc := Option.some.inj hc
    refine ⟨cs, h1, by omega, x, hc, ?_⟩
    rw [hc]
    simp only [List.map_cons, List.map_nil]
    rw [put_one hl]
    exact h4

/-- A store. -/
def storeG (P : Program) (x : Option (List V)) (id ver off : Nat) (v : V) (tk : List Nat) (dst : Option Nat) (os : List VOp) (keep : List Nat) (s : List Fr) (E : En) (H : Heap) (K : KK) : Prop :=
  ∃ cs, x = some cs ∧ off < cs.length ∧ nextV P (.tup []) tk dst os keep s E (H.set id (.cells ver (cs.set off v))) K
@[go_sem] theorem storeG_some {cs : List V} {id ver off : Nat} {v : V} : storeG P (some cs) id ver off v tk dst os keep s E H K = (off < cs.length ∧ nextV P (.tup []) tk dst os keep s E (H.set id (.cells ver (cs.set off v))) K) := by
  apply propext
  constructor
  · rintro ⟨v, h, k⟩; cases h; exact k
  · intro k; exact ⟨cs, rfl, k⟩
theorem store_plain {id ver off : Nat} {v : V} (hs : scal0 v = true) (hf : ∀ z xs, v ≠ .fr z xs) : runAct P (.store 1) [.ptr id ver off, v] tk dst os keep s E H K = storeG P (getCells H id ver) id ver off v tk dst os keep s E H K := by
  have hcells : v.cells = [v] := by cases v <;> first | rfl | cases hs
  have hth : thawL [v] H = ([v], H) := by cases v <;> first | rfl | exact absurd rfl (hf _ _)
  have hsol : solid v = true := by cases v <;> first | rfl | cases hs
  have e : sStore 1 [.ptr id ver off, v] H = (getCells H id ver).bind fun cs => if off + 1 ≤ cs.length then some (.tup [], H.set id (.cells ver (put cs off [v]))) else none := by
    simp [sStore, hcells, hth, hsol, hs]
  show (∃ r H', sStore 1 [.ptr id ver off, v] H = some (r, H') ∧ _) = _
  rw [e]
  apply propext
  constructor
  · rintro ⟨r, H', h, k⟩
    obtain ⟨cs, h1, h⟩ := Option.bind_eq_some_iff.1 h
    split at h
    · rename_i hl
      cases h
      rw [put_one (by omega)] at k
      exact ⟨cs, h1, by omega, k⟩
    · cases h
  · rintro ⟨cs, h1, hl, k⟩
    refine ⟨.tup [], _, ?_, k⟩
    rw [h1, Option.bind_some, if_pos (by omega), put_one hl]
@[go_sem] theorem store_int {id ver off : Nat} {k : IntKind} {n : Int} : runAct P (.store 1) [.ptr id ver off, .int k n] tk dst os keep s E H K = storeG P (getCells H id ver) id ver off (.int k n) tk dst os keep s E H K := store_plain rfl (by simp)
@[go_sem] theorem store_bool {id ver off : Nat} {b : Bool} : runAct P (.store 1) [.ptr id ver off, .bool b] tk dst os keep s E H K = storeG P (getCells H id ver) id ver off (.bool b) tk dst os keep s E H K := store_plain rfl (by simp)
@[go_sem] theorem store_str {id ver off : Nat} {b : List UInt8} : runAct P (.store 1) [.ptr id ver off, .str b] tk dst os keep s E H K = storeG P (getCells H id ver) id ver off (.str b) tk dst os keep s E H K := store_plain rfl (by simp)
@[go_sem] theorem store_sl {id ver off : Nat} {o : Bool} {z : Nat} {xs : List (List V)} : runAct P (.store 1) [.ptr id ver off, .sl o z xs] tk dst os keep s E H K = storeG P (getCells H id ver) id ver off (.sl o z xs) tk dst os keep s E H K := store_plain rfl (by simp)
@[go_sem] theorem store_hsl {id ver off a b c d e : Nat} : runAct P (.store 1) [.ptr id ver off, .hsl a b c d e] tk dst os keep s E H K = storeG P (getCells H id ver) id ver off (.hsl a b c d e) tk dst os keep s E H K := store_plain rfl (by simp)
@[go_sem] theorem store_ptr {id ver off a b c : Nat} : runAct P (.store 1) [.ptr id ver off, .ptr a b c] tk dst os keep s E H K = storeG P (getCells H id ver) id ver off (.ptr a b c) tk dst os keep s E H K := store_plain rfl (by simp)
@[go_sem] theorem store_nilp {id ver off : Nat} : runAct P (.store 1) [.ptr id ver off, .nilp] tk dst os keep s E H K = storeG P (getCells H id ver) id ver off .nilp tk dst os keep s E H K := store_plain rfl (by simp)
@[go_sem] theorem store_nilh {id ver off z : Nat} : runAct P (.store 1) [.ptr id ver off, .nilh z] tk dst os keep s E H K = storeG P (getCells H id ver) id ver off (.nilh z) tk dst os keep s E H K := store_plain rfl (by simp)

@[go_sem] theorem thaw_fr {z : Nat} {xs : List (List V)} : runAct P .thaw [.fr z xs] tk dst os keep s E H K = nextV P (.hsl H.length 0 0 xs.length z) tk dst os keep s E (H ++ [.cells 0 xs.flatten]) K := by
  show (∃ r H', sThaw [.fr z xs] H = some (r, H') ∧ _) = _
  apply propext
  constructor
  · rintro ⟨r, H', h, k⟩; cases h; exact k
  · intro k; exact ⟨_, _, rfl, k⟩
@[go_sem] theorem thaw_hsl {a b c d e : Nat} : runAct P .thaw [.hsl a b c d e] tk dst os keep s E H K = nextV P (.hsl a b c d e) tk dst os keep s E H K := by
  show (∃ r H', sThaw [.hsl a b c d e] H = some (r, H') ∧ _) = _
  apply propext
  constructor
  · rintro ⟨r, H', h, k⟩; cases h; exact k
  · intro k; exact ⟨_, _, rfl, k⟩
@[go_sem] theorem thaw_sl {o : Bool} {z : Nat} {xs : List (List V)} : runAct P .thaw [.sl o z xs] tk dst os keep s E H K = nextV P (.sl o z xs) tk dst os keep s E H K := by
  show (∃ r H', sThaw [.sl o z xs] H = some (r, H') ∧ _) = _
  apply propext
  constructor
  · rintro ⟨r, H', h, k⟩; cases h; exact k
  · intro k; exact ⟨_, _, rfl, k⟩
theorem ite_next {c : Prop} [Decidable c] {v : V} {H1 : Heap} {F : V → Heap → Prop} : (∃ r H', (if c then some (v, H1) else none) = some (r, H') ∧ F r H') = (c ∧ F v H1) := by
  apply propext
  constructor
  · rintro ⟨r, H', h, k⟩
    split at h
    · rename_i hc; cases h; exact ⟨hc, k⟩
    · cases h
  · rintro ⟨hc, k⟩; exact ⟨_, _, by rw [if_pos hc], k⟩
@[go_sem] theorem run_makeH {sz bytes : Nat} {zs : List V} {j k : IntKind} {n c : Int} : runAct P (.makeH sz bytes zs) [.int j n, .int k c] tk dst os keep s E H K =
    ((n = c ∧ 0 ≤ n ∧ bytes * n ≤ 281474976710656 ∧ n ≤ 9223372036854775807) ∧ nextV P (.hsl H.length 0 0 n.toNat sz) tk dst os keep s E (H ++ [.cells 0 (List.replicate n.toNat zs).flatten]) K) := ite_next
@[go_sem] theorem run_makeSl {sz bytes : Nat} {zs : List V} {j k : IntKind} {n c : Int} : runAct P (.makeSl sz bytes zs) [.int j n, .int k c] tk dst os keep s E H K =
    ((n = c ∧ 0 ≤ n ∧ bytes * n ≤ 281474976710656 ∧ n ≤ 9223372036854775807) ∧ nextV P (.fr sz (List.replicate n.toNat zs)) tk dst os keep s E H K) := ite_next
@[go_sem] theorem run_buildFr1 {k : IntKind} {n : Int} : runAct P (.buildFr 1) [.int k n] tk dst os keep s E H K = nextV P (.fr 1 [[.int k n]]) tk dst os keep s E H K := by
  show (∃ r H', sBuildFr 1 [.int k n] H = some (r, H') ∧ _) = _
  have : sBuildFr 1 [.int k n] H = some (.fr 1 [[.int k n]], H) := by simp [sBuildFr, elems, solid, scal0, V.cells, inl, plain1, plain0, inl0, strip0]
  rw [this]
  apply propext
  constructor
  · rintro ⟨r, H', h, k⟩; cases h; exact k
  · intro k; exact ⟨_, _, rfl, k⟩

def appG (P : Program) (x : Option (List V)) (id ver ln sz : Nat) (ys : List (List V)) (tk : List Nat) (dst : Option Nat) (os : List VOp) (keep : List Nat) (s : List Fr) (E : En) (H : Heap) (K : KK) : Prop :=
  ∃ cs, x = some cs ∧ ln * sz ≤ cs.length ∧ nextV P (.hsl id (ver + 1) 0 (ln + ys.length) sz) tk dst os keep s E (H.set id (.cells (ver + 1) (cs.take (ln * sz) ++ ys.flatten))) K
@[go_sem] theorem appG_some {cs : List V} {id ver ln sz : Nat} {ys : List (List V)} : appG P (some cs) id ver ln sz ys tk dst os keep s E H K =
    (ln * sz ≤ cs.length ∧ nextV P (.hsl id (ver + 1) 0 (ln + ys.length) sz) tk dst os keep s E (H.set id (.cells (ver + 1) (cs.take (ln * sz) ++ ys.flatten))) K) := by
  apply propext
  constructor
  · rintro ⟨v, h, k⟩; cases h; exact k
  · intro k; exact ⟨cs, rfl, k⟩
@[go_sem] theorem run_appendH {id ver ln z z' sz bytes : Nat} {o : Bool} {ys : List (List V)} : runAct P (.appendH sz bytes) [.hsl id ver 0 ln z, .sl o z' ys] tk dst os keep s E H K =
    (z = sz ∧ z' = sz ∧ fits (ln + ys.length) bytes ∧ appG P (getCells H id ver) id ver ln sz ys tk dst os keep s E H K) := by
  have e : sAppendH sz bytes [.hsl id ver 0 ln z, .sl o z' ys] H = if z = sz ∧ z' = sz ∧ fits (ln + ys.length) bytes then (getCells H id ver).bind fun cs => if ln * sz ≤ cs.length then
      some (.hsl id (ver + 1) 0 (ln + ys.length) sz, H.set id (.cells (ver + 1) (cs.take (ln * sz) ++ ys.flatten))) else none else none := by
    simp only [sAppendH, true_and]
    split
    · congr 1
      funext cs
      simp only [cut, Nat.zero_add, List.drop_zero]
      split <;> rfl
    · rfl
  show (∃ r H', sAppendH sz bytes [.hsl id ver 0 ln z, .sl o z' ys] H = some (r, H') ∧ _) = _
  rw [e]
  apply propext
  constructor
  · rintro ⟨r, H', h, k⟩
    split at h
    · rename_i hc
      obtain ⟨cs, h1, h⟩ := Option.bind_eq_some_iff.1 h
      split at h
      · rename_i hl
        cases h
        exact ⟨hc.1, hc.2.1, hc.2.2, cs, h1, hl, k⟩
      · cases h
    · cases h
  · rintro ⟨h1, h2, h3, cs, h4, h5, k⟩
    refine ⟨_, _, ?_, k⟩
    rw [if_pos ⟨h1, h2, h3⟩, h4, Option.bind_some, if_pos h5]
@[go_sem] theorem run_appendN {z z' sz bytes : Nat} {o : Bool} {ys : List (List V)} : runAct P (.appendH sz bytes) [.nilh z, .sl o z' ys] tk dst os keep s E H K =
    ((z = sz ∧ z' = sz ∧ 0 < ys.length ∧ fits ys.length bytes) ∧ nextV P (.fr sz ys) tk dst os keep s E H K) := ite_next
@[go_sem] theorem slice_ft {o : Bool} {z sz : Nat} {xs : List (List V)} {k : IntKind} {x : Int} : runAct P (.slice false true sz) [.sl o z xs, .int k x] tk dst os keep s E H K =
    (z = sz ∧ 0 ≤ x ∧ x ≤ xs.length ∧ nextV P (.sl false z ((xs.take x.toNat).drop 0)) tk dst os keep s E H K) := (rfl)
@[go_sem] theorem slice_tf {o : Bool} {z sz : Nat} {xs : List (List V)} {k : IntKind} {x : Int} : runAct P (.slice true false sz) [.sl o z xs, .int k x] tk dst os keep s E H K =
    (z = sz ∧ 0 ≤ x ∧ x ≤ xs.length ∧ nextV P (.sl false z ((xs.take xs.length).drop x.toNat)) tk dst os keep s E H K) := (rfl)
@[go_sem] theorem slice_tt {o : Bool} {z sz : Nat} {xs : List (List V)} {j k : IntKind} {l h : Int} : runAct P (.slice true true sz) [.sl o z xs, .int j l, .int k h] tk dst os keep s E H K =
    (z = sz ∧ 0 ≤ l ∧ l ≤ h ∧ h ≤ xs.length ∧ nextV P (.sl false z ((xs.take h.toNat).drop l.toNat)) tk dst os keep s E H K) := (rfl)
@[go_sem] theorem sliceh_ft {id ver off ln z sz : Nat} {k : IntKind} {x : Int} : runAct P (.slice false true sz) [.hsl id ver off ln z, .int k x] tk dst os keep s E H K =
    ((z = sz ∧ 0 ≤ x ∧ x ≤ ln) ∧ nextV P (.hsl id ver off x.toNat z) tk dst os keep s E H K) := by
  have e : sSlice false true sz [.hsl id ver off ln z, .int k x] H = if z = sz ∧ 0 ≤ x ∧ x ≤ ln then some (.hsl id ver off x.toNat z, H) else none := by
    simp only [sSlice, bounds]
    by_cases h1 : z = sz
    · by_cases h2 : 0 ≤ x ∧ x ≤ ln
      · simp [h1, h2]
        omega
      · simp [h1, h2]
    · simp [h1]
  show (∃ r H', sSlice false true sz [.hsl id ver off ln z, .int k x] H = some (r, H') ∧ _) = _
  rw [e]
  exact ite_next
end
end Go.Proofs.YtoaohapbbnpbeaaGreat.Vm
namespace Go.Proofs.YtoaohapbbnpbeaaGreat.Vm
open Go

@[go_sem] theorem fixd_int (m : Nat) (H : Heap) (d : Nat) (k : IntKind) (n : Int) : fixV m H (d + 1) (.int k n) = some (.int k n) := rfl
@[go_sem] theorem fixd_bool (m : Nat) (H : Heap) (d : Nat) (b : Bool) : fixV m H (d + 1) (.bool b) = some (.bool b) := rfl
@[go_sem] theorem fixd_str (m : Nat) (H : Heap) (d : Nat) (s : List UInt8) : fixV m H (d + 1) (.str s) = some (.str s) := rfl
@[go_sem] theorem fixd_sl (m : Nat) (H : Heap) (d : Nat) (o : Bool) (z : Nat) (xs : List (List V)) : fixV m H (d + 1) (.sl o z xs) = some (.sl o z xs) := rfl
@[go_sem] theorem fixd_tup0 (m : Nat) (H : Heap) (d : Nat) : fixV m H (d + 1) (.tup []) = some (.tup []) := by simp [fixV]
theorem fixd_tup2 (m : Nat) (H : Heap) (d : Nat) (a b : V) : fixV m H (d + 1) (.tup [a, b]) = (fixV m H d a).bind fun a' => (fixV m H d b).map fun b' => .tup [a', b'] := by
  simp only [fixV, List.mapM_cons, List.mapM_nil]
  cases fixV m H d a <;> simp
  cases fixV m H d b <;> simp

/-- How a function that began in an empty heap ends. -/
def end0 (rs : List VRes) (R : V → Prop) : KK := fun x E H => (match x with | .exit _ => False | _ => True) ∧ ∃ r0, resV 0 H E.f rs = some r0 ∧ ∃ r, fixV 0 H 8 r0 = some r ∧ R r
def fin0 (H : Heap) (v : V) (R : V → Prop) : Prop := ∃ r, fixV 0 H 8 v = some r ∧ R r
section
variable {R : V → Prop} {l : List (Nat × V)} {d : V} {H : Heap} {t u : Nat}
@[go_sem] theorem end0_tmp : end0 [.tmp t] R .ret ⟨l, d⟩ H = fin0 H (getE l d t) R := by simp [end0, fin0, resV, resL, res1, pack, En.f]
@[go_sem] theorem end0_tmpN : end0 [.tmp t] R .normal ⟨l, d⟩ H = fin0 H (getE l d t) R := by simp [end0, fin0, resV, resL, res1, pack, En.f]
@[go_sem] theorem end0_two : end0 [.tmp t, .tmp u] R .ret ⟨l, d⟩ H = fin0 H (.tup [getE l d t, getE l d u]) R := by simp [end0, fin0, resV, resL, res1, pack, En.f]
@[go_sem] theorem end0_twoN : end0 [.tmp t, .tmp u] R .normal ⟨l, d⟩ H = fin0 H (.tup [getE l d t, getE l d u]) R := by simp [end0, fin0, resV, resL, res1, pack, En.f]
@[go_sem] theorem fin0_int {k : IntKind} {n : Int} : fin0 H (.int k n) R = R (.int k n) := by simp [fin0, fixV]
@[go_sem] theorem fin0_bool {b : Bool} : fin0 H (.bool b) R = R (.bool b) := by simp [fin0, fixV]
@[go_sem] theorem fin0_sl {o : Bool} {z : Nat} {xs : List (List V)} : fin0 H (.sl o z xs) R = R (.sl o z xs) := by simp [fin0, fixV]
@[go_sem] theorem fin0_slint {o : Bool} {z : Nat} {xs : List (List V)} {k : IntKind} {n : Int} : fin0 H (.tup [.sl o z xs, .int k n]) R = R (.tup [.sl o z xs, .int k n]) := by
  simp [fin0, fixd_tup2, fixd_sl, fixd_int]
end

theorem T.of0 {P : Program} (hmix : P.follows .mixedOrders = true) {f : Nat} {vf : VFunc} (hc : chkFn P f vf = true) {args : List V} {r : V} (hl : Nat.ble args.length vf.n = true)
    (h : run P vf.body [] ⟨args.zipIdx.map fun p => (p.2, p.1), .tup []⟩ [] (end0 vf.results fun r' => r' = r)) : T P f args [] r [] := by
  refine T.of_wp hmix hc (Nat.le_of_ble_eq_true hl) ((wp_sound h).mono ?_)
  rintro x E' H' ⟨h1, r0, h2, r', h3, rfl⟩
  refine ⟨?_, Nat.zero_le _, fun i ob hi _ => absurd hi (Nat.not_lt_zero i), r0, h2, h3⟩
  intro id e; subst e; exact h1

attribute [go_sem] List.nil_append List.cons_append List.length_cons List.length_nil List.length_append List.getElem?_cons_zero List.getElem?_cons_succ List.set_cons_zero List.set_cons_succ List.append_nil Nat.zero_add Nat.add_zero List.length_map List.length_replicate
end Go.Proofs.YtoaohapbbnpbeaaGreat.Vm
namespace Go.Proofs.YtoaohapbbnpbeaaGreat.Vm
open Go

/-- How a function ends that may change the heap: up to m all is kept. -/
def endX (m : Nat) (H0 : Heap) (rs : List VRes) (R : V → Heap → Prop) : KK := fun x E H => (match x with | .exit _ => False | _ => True) ∧
  H0.length ≤ m ∧ m ≤ H.length ∧ (∀ (i : Nat) (ob : Obj), i < m → H[i]? = some ob → H0[i]? = some ob ∨ idsO m ob = true) ∧ ∃ r0, resV m H E.f rs = some r0 ∧ ∃ r, fixV m H 8 r0 = some r ∧ R r (H.take m)
theorem T.of_ex {P : Program} (hmix : P.follows .mixedOrders = true) {f : Nat} {vf : VFunc} (hc : chkFn P f vf = true) {args : List V} {H : Heap} {R : V → Heap → Prop} (m : Nat) (hl : Nat.ble args.length vf.n = true)
    (h : run P vf.body [] ⟨args.zipIdx.map fun p => (p.2, p.1), .tup []⟩ H (endX m H vf.results R)) : ∃ r H', T P f args H r H' ∧ R r H' := by
  obtain ⟨x, E1, H1, h1, h2, h3, h4, h5, r0, h6, r, h7, h8⟩ := wp_sound h
  rw [env0_eq] at h1
  refine ⟨r, H1.take m, T_of hmix hc (Nat.le_of_ble_eq_true hl) h1 ?_ h3 h4 h6 h7 h5, h8⟩
  intro id e; subst e; exact h2
theorem T.of_h {P : Program} (hmix : P.follows .mixedOrders = true) {f : Nat} {vf : VFunc} (hc : chkFn P f vf = true) {args : List V} {H H' : Heap} {r : V} (m : Nat) (hl : Nat.ble args.length vf.n = true)
    (h : run P vf.body [] ⟨args.zipIdx.map fun p => (p.2, p.1), .tup []⟩ H (endX m H vf.results fun r1 H1 => r1 = r ∧ H1 = H')) : T P f args H r H' := by
  obtain ⟨r, H', h1, rfl, rfl⟩ := T.of_ex hmix hc m hl h
  exact h1
/-- At the end all objects that stay name only such. -/
def allIds (m : Nat) (H : Heap) : Bool := H.all (idsO m)
theorem endX_of {m : Nat} {H0 : Heap} {rs : List VRes} {R : V → Heap → Prop} {x : X} {E : En} {H : Heap} (hx : (match x with | .exit _ => False | _ => True)) (h1 : H0.length ≤ m) (h2 : m ≤ H.length) (h3 : allIds m (H.take m) = true)
    {r0 r : V} (h4 : resV m H E.f rs = some r0) (h5 : fixV m H 8 r0 = some r) (h6 : R r (H.take m)) : endX m H0 rs R x E H := by
  refine ⟨hx, h1, h2, fun i ob hi hob => .inr ?_, r0, h4, r, h5, h6⟩
  refine List.all_eq_true.1 h3 ob ?_
  exact List.mem_of_getElem? (by rw [List.getElem?_take, if_pos hi]; exact hob)
theorem idsL_all {m : Nat} : ∀ {l : List V}, idsL m l = l.all (idsV m)
  | [] => rfl
  | v :: l => by rw [idsL, List.all_cons, idsL_all]

def plainC : V → Bool
  | .fr _ _ => false
  | v => scal0 v
section
variable {P : Program} {K : KK} {s : List Fr} {E : En} {H : Heap} {tk : List Nat} {dst : Option Nat} {os : List VOp} {keep : List Nat}
@[go_sem] theorem plainC_int {k : IntKind} {n : Int} : plainC (.int k n) = true := (rfl)
@[go_sem] theorem plainC_bool {b : Bool} : plainC (.bool b) = true := (rfl)
@[go_sem] theorem plainC_str {b : List UInt8} : plainC (.str b) = true := (rfl)
@[go_sem] theorem plainC_sl {o : Bool} {z : Nat} {xs : List (List V)} : plainC (.sl o z xs) = true := (rfl)
@[go_sem] theorem plainC_hsl {a b c d e : Nat} : plainC (.hsl a b c d e) = true := (rfl)
@[go_sem] theorem plainC_ptr {a b c : Nat} : plainC (.ptr a b c) = true := (rfl)
@[go_sem] theorem plainC_nilh {a : Nat} : plainC (.nilh a) = true := (rfl)
@[go_sem] theorem plainC_nilp : plainC .nilp = true := (rfl)
@[go_sem] theorem scal0_int {k : IntKind} {n : Int} : scal0 (.int k n) = true := (rfl)
@[go_sem] theorem scal0_bool {b : Bool} : scal0 (.bool b) = true := (rfl)
@[go_sem] theorem scal0_str {b : List UInt8} : scal0 (.str b) = true := (rfl)
@[go_sem] theorem scal0_sl {o : Bool} {z : Nat} {xs : List (List V)} : scal0 (.sl o z xs) = true := (rfl)
@[go_sem] theorem scal0_hsl {a b c d e : Nat} : scal0 (.hsl a b c d e) = true := (rfl)
@[go_sem] theorem scal0_fr {z : Nat} {xs : List (List V)} : scal0 (.fr z xs) = true := (rfl)
@[go_sem] theorem scal0_ptr {a b c : Nat} : scal0 (.ptr a b c) = true := (rfl)
@[go_sem] theorem scal0_nilh {a : Nat} : scal0 (.nilh a) = true := (rfl)
@[go_sem] theorem scal0_nilp : scal0 .nilp = true := (rfl)

@[go_sem] theorem fillV_nil {zs : List V} : fillV zs [] [] = some zs := rfl
@[go_sem] theorem fillV_one {zs vs : List V} {off : Nat} {ps : List (Nat × Nat)} {v : V} (h : scal0 v = true) : fillV zs ((off, 1) :: ps) (v :: vs) = if off < zs.length then fillV (zs.set off v) ps vs else none := by
  have hcells : v.cells = [v] := by cases v <;> first | rfl | cases h
  have hsol : solid v = true := by cases v <;> first | rfl | cases h
  rw [fillV, hcells]
  by_cases hl : off < zs.length
  · rw [if_pos ⟨hsol, rfl, by omega⟩, if_pos hl, put_one hl]
  · rw [if_neg (fun hh => hl (by have := hh.2.2; omega)), if_neg hl]
def exO (x : Option (List V)) (F : List V → Prop) : Prop := ∃ cs, x = some cs ∧ F cs
@[go_sem] theorem exO_some {cs : List V} {F : List V → Prop} : exO (some cs) F = F cs := by
  apply propext
  constructor
  · rintro ⟨_, h, k⟩; cases h; exact k
  · intro k; exact ⟨_, rfl, k⟩
@[go_sem] theorem run_build {zs : List V} {ps : List (Nat × Nat)} {vs : List V} : runAct P (.build zs ps) vs tk dst os keep s E H K = exO (fillV zs ps vs) fun cs => nextV P (.agg cs) tk dst os keep s E H K := by
  show (∃ r H', sBuild zs ps vs H = some (r, H') ∧ _) = _
  apply propext
  constructor
  · rintro ⟨r, H', h, k⟩
    obtain ⟨cs, h1, h2⟩ := Option.map_eq_some_iff.1 h
    cases h2; exact ⟨cs, h1, k⟩
  · rintro ⟨cs, h1, k⟩
    exact ⟨_, _, by unfold sBuild; rw [h1]; rfl, k⟩

@[go_sem] theorem thawL_nil : thawL [] H = ([], H) := rfl
@[go_sem] theorem thawL_fr {z : Nat} {xs : List (List V)} {vs : List V} : thawL (.fr z xs :: vs) H = (.hsl H.length 0 0 xs.length z :: (thawL vs (H ++ [.cells 0 xs.flatten])).1, (thawL vs (H ++ [.cells 0 xs.flatten])).2) := rfl
@[go_sem] theorem thawL_plain {v : V} {vs : List V} (h : plainC v = true) : thawL (v :: vs) H = (v :: (thawL vs H).1, (thawL vs H).2) := by
  cases v <;> first | rfl | cases h
theorem thawL_all {vs : List V} : vs.all plainC = true → thawL vs H = (vs, H) := by
  induction vs with
  | nil => intro _; rfl
  | cons v vs ih =>
    intro h
    rw [List.all_cons, Bool.and_eq_true] at h
    rw [thawL_plain h.1, ih h.2]
@[go_sem] theorem run_box {cs : List V} : runAct P .box [.agg cs] tk dst os keep s E H K = nextV P (.ptr (thawL cs H).2.length 0 0) tk dst os keep s E ((thawL cs H).2 ++ [.cells 0 (thawL cs H).1]) K := by
  show (∃ r H', sBox [.agg cs] H = some (r, H') ∧ _) = _
  have e : sBox [.agg cs] H = some (.ptr (thawL cs H).2.length 0 0, (thawL cs H).2 ++ [.cells 0 (thawL cs H).1]) := by simp [sBox, solid, V.cells]
  rw [e]
  apply propext
  constructor
  · rintro ⟨r, H', h, k⟩; cases h; exact k
  · intro k; exact ⟨_, _, rfl, k⟩

/-- A struct is written. -/
def storeA (P : Program) (x : Option (List V)) (id ver off : Nat) (cs : List V) (tk : List Nat) (dst : Option Nat) (os : List VOp) (keep : List Nat) (s : List Fr) (E : En) (H : Heap) (K : KK) : Prop :=
  exO x fun c => off + cs.length ≤ c.length ∧ nextV P (.tup []) tk dst os keep s E (H.set id (.cells ver (put c off cs))) K
@[go_sem] theorem storeA_some {c cs : List V} {id ver off : Nat} : storeA P (some c) id ver off cs tk dst os keep s E H K = (off + cs.length ≤ c.length ∧ nextV P (.tup []) tk dst os keep s E (H.set id (.cells ver (put c off cs))) K) := exO_some
@[go_sem] theorem store_agg {id ver off n : Nat} {cs : List V} (h : cs.all plainC = true) (hn : n = cs.length) : runAct P (.store n) [.ptr id ver off, .agg cs] tk dst os keep s E H K = storeA P (getCells H id ver) id ver off cs tk dst os keep s E H K := by
  subst hn
  have hsc : cs.all scal0 = true := by
    rw [List.all_eq_true] at h ⊢
    intro v hv
    have := h v hv
    cases v <;> first | rfl | cases this
  have e : sStore cs.length [.ptr id ver off, .agg cs] H = (getCells H id ver).bind fun c => if off + cs.length ≤ c.length then some (.tup [], H.set id (.cells ver (put c off cs))) else none := by
    simp only [sStore, solid, V.cells, thawL_all h, hsc, true_and]
  show (∃ r H', sStore cs.length [.ptr id ver off, .agg cs] H = some (r, H') ∧ _) = _
  rw [e]
  apply propext
  constructor
  · rintro ⟨r, H', h, k⟩
    obtain ⟨c, h1, h⟩ := Option.bind_eq_some_iff.1 h
    split at h
    · rename_i hl
      cases h
      exact ⟨c, h1, hl, k⟩
    · cases h
  · rintro ⟨c, h1, hl, k⟩
    refine ⟨.tup [], _, ?_, k⟩
    rw [h1, Option.bind_some, if_pos hl]
theorem store_fr {id ver off z : Nat} {xs : List (List V)} : runAct P (.store 1) [.ptr id ver off, .fr z xs] tk dst os keep s E H K =
    exO (getCells H id ver) fun c => off < c.length ∧ nextV P (.tup []) tk dst os keep s E ((H ++ [Obj.cells 0 xs.flatten]).set id (.cells ver (c.set off (.hsl H.length 0 0 xs.length z)))) K := by
  have e : sStore 1 [.ptr id ver off, .fr z xs] H = (getCells H id ver).bind fun c => if off + 1 ≤ c.length then some (.tup [], (H ++ [Obj.cells 0 xs.flatten]).set id (.cells ver (put c off [.hsl H.length 0 0 xs.length z]))) else none := by
    simp [sStore, solid, scal0, V.cells, thawL]
  show (∃ r H', sStore 1 [.ptr id ver off, .fr z xs] H = some (r, H') ∧ _) = _
  rw [e]
  apply propext
  constructor
  · rintro ⟨r, H', h, k⟩
    obtain ⟨c, h1, h⟩ := Option.bind_eq_some_iff.1 h
    split at h
    · rename_i hl
      cases h
      rw [put_one (by omega)] at k
      exact ⟨c, h1, by omega, k⟩
    · cases h
  · rintro ⟨c, h1, hl, k⟩
    refine ⟨.tup [], _, ?_, k⟩
    rw [h1, Option.bind_some, if_pos (by omega), put_one hl]
attribute [go_sem] store_fr

theorem run_addW {k : IntKind} {a b : Int} : runInt P .add k a b tk dst os keep s E H K = runOps P os keep s ((stripEn tk E).setO dst (.int k (k.wrap (a + b)))) H K := by
  unfold runInt intW
  apply propext
  constructor
  · rintro ⟨z, rfl, h⟩; exact h
  · intro h; exact ⟨_, rfl, h⟩
theorem run_subW {k : IntKind} {a b : Int} : runInt P .sub k a b tk dst os keep s E H K = runOps P os keep s ((stripEn tk E).setO dst (.int k (k.wrap (a - b)))) H K := by
  unfold runInt intW
  apply propext
  constructor
  · rintro ⟨z, rfl, h⟩; exact h
  · intro h; exact ⟨_, rfl, h⟩
end
attribute [go_sem] List.all_cons List.all_nil Bool.and_self Nat.reduceLT Nat.reduceLeDiff List.set_cons_zero List.set_cons_succ

end Go.Proofs.YtoaohapbbnpbeaaGreat.Vm
namespace Go.Proofs.YtoaohapbbnpbeaaGreat.Vm
open Go

end Go.Proofs.YtoaohapbbnpbeaaGreat.Vm
namespace Go.Proofs.YtoaohapbbnpbeaaGreat.Vm
open Go Go.RowKit

def immW (w : World) (b o : Nat) : Option Value := match w.heap[b]? with
  | some (.cells c _ _) => c[o]?
  | _ => none
def gh0 (w : World) : Gh := ⟨immW w, []⟩
def own0 (w : World) (b : Nat) : Option Place := if b < w.heap.size then some .frame else none

theorem ok0 (w : World) : Ok w (gh0 w) (own0 w) [] := by
  refine ⟨fun b o v h => ?_, fun b p h => ?_, rfl, fun i ob h => by simp at h⟩
  · simp only [gh0, immW] at h
    split at h
    · rename_i c e f hc; exact ⟨c, e, f, hc, h⟩
    · cases h
  · unfold own0 at h; split at h
    · assumption
    · cases h

section
variable {P : Program} {w : World}

/-- WHAT A LAW ANSWERS. -/
theorem T.below {f : Nat} {vs : List V} (h : T P f vs [] (.bool true) []) {cs : Array Value} (hr : RepI (immW w) vs cs.toList) : Calls P f cs w fun e w' => e = .returned (.bool true) ∧ Below w.heap.size w w' := by
  refine (h.2 w (gh0 w) (own0 w) cs [] (ok0 w) (RepI.toL hr) List.nodup_nil (fun _ h => by cases h)).mono ?_
  rintro e w' ⟨c, rfl, G', own', bl, _, h2, _, _, h5⟩
  obtain ⟨cs', hcs, _⟩ := h2.bool_inv
  obtain ⟨rfl, _⟩ := List.cons.inj hcs
  refine ⟨rfl, h5.os, h5.tape, h5.out, h5.size, fun k hk => ?_⟩
  exact (h5.fixed k (by simp only [own0, if_pos hk])).1

theorem Addr.add_add (a : Addr) (x y : Nat) : (a.add x).add y = a.add (x + y) := by
  unfold Addr.add
  by_cases hx : x = 0
  · subst hx; simp
  · by_cases hy : y = 0
    · subst hy; simp [hx]
    · simp [hx, hy, Nat.add_assoc]

theorem cell_imm {a : Addr} {v : Value} (h : w.cell? a = some v) : a.spot = none ∧ immW w a.block a.off = some v := by
  unfold World.cell? at h
  unfold immW
  split at h
  · rename_i c e f hc
    split at h
    · cases h
    · rename_i hs
      rw [hc]
      exact ⟨by cases hh : a.spot with
        | none => rfl
        | some _ => rw [hh] at hs; simp at hs, h⟩
  · cases h

theorem mapM_some {α β : Type} {f : α → Option β} : ∀ {l : List α} {ys : List β}, l.mapM f = some ys → ys.length = l.length ∧ ∀ (i : Nat) (x : α), l[i]? = some x → ∃ y, ys[i]? = some y ∧ f x = some y
  | [], ys, h => by
    cases h
    exact ⟨rfl, fun i x h => by simp at h⟩
  | a :: l, ys, h => by
    rw [List.mapM_cons] at h
    obtain ⟨y, h1, h⟩ := Option.bind_eq_some_iff.1 h
    obtain ⟨zs, h2, h⟩ := Option.bind_eq_some_iff.1 h
    cases h
    obtain ⟨k1, k2⟩ := mapM_some h2
    refine ⟨by simp [k1], fun i x hx => ?_⟩
    match i with
    | 0 => simp at hx; subst hx; exact ⟨y, rfl, h1⟩
    | i + 1 => exact k2 i x (by simpa using hx)

theorem cells_imm {a : Addr} {n : Nat} {cs : List Value} (h : w.cells? 0 a n = some cs) : cs.length = n ∧ ∀ j v, cs[j]? = some v → w.cell? (a.add j) = some v := by
  unfold World.cells? at h
  rw [if_pos (Nat.zero_le _)] at h
  obtain ⟨h1, h2⟩ := mapM_some h
  rw [List.length_range] at h1
  refine ⟨h1, fun j v hv => ?_⟩
  have hj : j < n := by rw [← h1]; exact (List.getElem?_eq_some_iff.1 hv).1
  obtain ⟨y, k1, k2⟩ := h2 j j (by simp [hj])
  rw [hv] at k1; cases k1; exact k2

theorem flat_imm {a : Addr} {k : Nat} : ∀ (csl : List (List Value)) (s : Nat), (∀ i c, csl[i]? = some c → c.length = k ∧ ∀ j v, c[j]? = some v → w.cell? (a.add ((s + i) * k + j)) = some v) →
    ∀ o v, csl.flatten[o]? = some v → w.cell? (a.add (s * k + o)) = some v
  | [], s, _, o, v, h => by simp at h
  | c :: csl, s, hc, o, v, h => by
    obtain ⟨h1, h2⟩ := hc 0 c rfl
    rw [List.flatten_cons] at h
    rcases Nat.lt_or_ge o c.length with ho | ho
    · rw [List.getElem?_append_left ho] at h
      simpa using h2 o v h
    · rw [List.getElem?_append_right ho] at h
      have := flat_imm csl (s + 1) (fun i c' hc' => by
        have := hc (i + 1) c' (by simpa using hc')
        rw [show s + (i + 1) = s + 1 + i by omega] at this; exact this) (o - c.length) v h
      rw [show s * k + o = (s + 1) * k + (o - c.length) by rw [Nat.add_mul]; omega]
      exact this

theorem flat_at {a : Addr} {k : Nat} {csl : List (List Value)} (h : ∀ i c, csl[i]? = some c → c.length = k ∧ ∀ j v, c[j]? = some v → w.cell? (a.add (i * k + j)) = some v) : ImmAt (immW w) a csl.flatten := by
  have hall := flat_imm (w := w) (a := a) (k := k) csl 0 (fun i c hc => by simpa using h i c hc)
  refine ⟨fun hne => ?_, fun i v hv => ?_⟩
  · obtain ⟨v, hv⟩ : ∃ v, csl.flatten[0]? = some v := by
      cases hf : csl.flatten with
      | nil => exact absurd hf hne
      | cons v l => exact ⟨v, rfl⟩
    have := (cell_imm (hall 0 v hv)).1
    simpa [Addr.add] using this
  · have := (cell_imm (hall i v hv)).2
    rw [(add_off a _).1, (add_off a _).2] at this
    simpa using this

variable {H : Type} {enc : TypeId × Value → H} {sp : Nat → Bool} {held : Bool}

abbrev Reads (P : Program) (enc : TypeId × Value → H) (sp : Nat → Bool) (held : Bool) (w : World) (t : TypeId) (Q : DataW H → List V → Prop) : Prop :=
  ∀ fuel cs d ps, DataW.trod enc P w 0 sp held fuel t cs = some (d, ps) → ∃ vs, RepI (immW w) vs cs ∧ Q d vs

theorem reads_int {t : TypeId} {k : IntKind} (hu : P.underlying t = some (.int k)) : Reads P enc sp held w t fun d vs => ∃ n : Int, d = .lit (.int k n) ∧ (Lit.int k n).wf = true ∧ vs = [.int k n] := by
  intro fuel cs d ps h
  cases fuel with
  | zero => cases h
  | succ fuel =>
    unfold DataW.trod at h
    rw [hu] at h
    split at h <;> try (rename_i he; cases he; done)
    all_goals first | (cases h; done) | skip
    rename_i he
    cases he
    split at h
    · rename_i hk
      obtain ⟨rfl, hk⟩ := hk
      cases h
      exact ⟨_, .int _ _ .nil, _, rfl, hk, rfl⟩
    · cases h

theorem reads_bool {t : TypeId} (hu : P.underlying t = some .bool) : Reads P enc sp held w t fun d vs => ∃ b : Bool, d = .lit (.bool b) ∧ vs = [.bool b] := by
  intro fuel cs d ps h
  cases fuel with
  | zero => cases h
  | succ fuel =>
    unfold DataW.trod at h
    rw [hu] at h
    split at h <;> try (rename_i he; cases he; done)
    all_goals first | (cases h; done) | skip
    all_goals cases h; exact ⟨_, .bool _ .nil, _, rfl, rfl⟩

theorem reads_str {t : TypeId} (hu : P.underlying t = some .string) : Reads P enc sp held w t fun d vs => ∃ l : List UInt8, d = .lit (.string l) ∧ vs = [.str l] := by
  intro fuel cs d ps h
  cases fuel with
  | zero => cases h
  | succ fuel =>
    unfold DataW.trod at h
    rw [hu] at h
    split at h <;> try (rename_i he; cases he; done)
    all_goals first | (cases h; done) | skip
    split at h
    · cases h; exact ⟨_, .str _ .nil, _, rfl, rfl⟩
    · cases h

theorem flatten_rep {imm : Nat → Nat → Option Value} : ∀ (xs : List (List V)) (csl : List (List Value)), xs.length = csl.length → (∀ (i : Nat) (x : List V) (c : List Value), xs[i]? = some x → csl[i]? = some c → RepI imm x c) → RepI imm xs.flatten csl.flatten
  | [], [], _, _ => .nil
  | [], _ :: _, h, _ => by cases h
  | _ :: _, [], h, _ => by cases h
  | x :: xs, c :: csl, h, hr => by
    rw [List.flatten_cons, List.flatten_cons]
    exact RepI.append (flatten_rep xs csl (by simpa using h) fun i x c h1 h2 => hr (i + 1) x c (by simpa using h1) (by simpa using h2)) (hr 0 x c rfl rfl)

abbrev ReadsF (P : Program) (enc : TypeId × Value → H) (sp : Nat → Bool) (held : Bool) (w : World) (fuel : Nat) (t : TypeId) (Q : DataW H → List V → Prop) : Prop :=
  ∀ cs d ps, DataW.trod enc P w 0 sp held fuel t cs = some (d, ps) → ∃ vs, RepI (immW w) vs cs ∧ Q d vs
theorem readsF_slice {t e : TypeId} {fuel : Nat} (hu : P.underlying t = some (.slice e)) {Q : DataW H → List V → Prop} (he : ReadsF P enc sp held w fuel e Q) :
    ReadsF P enc sp held w (fuel + 1) t fun d vs => ∃ xs, vs = [.sl false (P.cellsOf e) xs] ∧ ((d = .nil ∧ xs = []) ∨ ∃ elems spare, d = .slice elems spare ∧ xs.length = elems.length ∧ ∀ (i : Nat) (d : DataW H) (x : List V), elems[i]? = some d → xs[i]? = some x → Q d x) := by
  intro cs d ps h
  unfold DataW.trod at h
  rw [hu] at h
  split at h <;> try (rename_i he; cases he; done)
  all_goals first | (cases h; exact ⟨_, .slnil _ .nil, _, rfl, .inl ⟨rfl, rfl⟩⟩) | (cases h; done) | skip
  rename_i e' a len cap hue
  cases hue
  split at h
  · rename_i hb
    obtain ⟨elems, h1, h⟩ := Option.bind_eq_some_iff.1 h
    obtain ⟨rest, h2, h⟩ := Option.map_eq_some_iff.1 h
    obtain ⟨rfl, rfl⟩ := Prod.mk.inj h
    obtain ⟨k1, k2⟩ := mapM_some h1
    rw [List.length_range] at k1
    -- the elements' cells
    have hex : ∀ n, n ≤ len → ∃ (csl : List (List Value)) (xs : List (List V)), csl.length = n ∧ xs.length = n ∧ (∀ (i : Nat) c, csl[i]? = some c → w.cells? 0 (a.add (i * P.cellsOf e)) (P.cellsOf e) = some c) ∧
        (∀ (i : Nat) (x : List V) (c : List Value), xs[i]? = some x → csl[i]? = some c → RepI (immW w) x c) ∧ ∀ (i : Nat) (d : DataW H × List MemPlace) (x : List V), elems[i]? = some d → xs[i]? = some x → Q d.1 x := by
      intro n
      induction n with
      | zero => intro _; exact ⟨[], [], rfl, rfl, fun i c h => by simp at h, fun i x c h => by simp at h, fun i d x _ h => by simp at h⟩
      | succ n ih =>
        intro hn
        obtain ⟨csl, xs, j1, j2, j3, j4, j5⟩ := ih (by omega)
        obtain ⟨y, g1, g2⟩ := k2 n n (by rw [List.getElem?_range (by omega)])
        obtain ⟨c, g3, g4⟩ := Option.bind_eq_some_iff.1 g2
        obtain ⟨x, g5, g6⟩ := he c y.1 y.2 (by rw [g4])
        refine ⟨csl ++ [c], xs ++ [x], by simp [j1], by simp [j2], ?_, ?_, ?_⟩
        · intro i c' hc'
          rcases Nat.lt_or_ge i n with hi | hi
          · rw [List.getElem?_append_left (by omega)] at hc'; exact j3 i c' hc'
          · rw [List.getElem?_append_right (by omega), j1] at hc'
            have : i = n := by
              rcases Nat.lt_or_ge n i with h' | h'
              · rw [List.getElem?_eq_none (by simp; omega)] at hc'; cases hc'
              · omega
            subst this; simp at hc'; subst hc'; exact g3
        · intro i x' c' hx' hc'
          rcases Nat.lt_or_ge i n with hi | hi
          · rw [List.getElem?_append_left (by omega)] at hc' hx'; exact j4 i x' c' hx' hc'
          · rw [List.getElem?_append_right (by omega), j1] at hc'
            rw [List.getElem?_append_right (by omega), j2] at hx'
            have : i = n := by
              rcases Nat.lt_or_ge n i with h' | h'
              · rw [List.getElem?_eq_none (by simp; omega)] at hc'; cases hc'
              · omega
            subst this; simp at hc' hx'; subst hc' hx'; exact g5
        · intro i d' x' hd' hx'
          rcases Nat.lt_or_ge i n with hi | hi
          · rw [List.getElem?_append_left (by omega)] at hx'; exact j5 i d' x' hd' hx'
          · rw [List.getElem?_append_right (by omega), j2] at hx'
            have : i = n := by
              rcases Nat.lt_or_ge n i with h' | h'
              · rw [List.getElem?_eq_none (by simp; omega)] at hx'; cases hx'
              · omega
            subst this; simp at hx'; subst hx'
            rw [g1] at hd'; cases hd'; exact g6
    obtain ⟨csl, xs, j1, j2, j3, j4, j5⟩ := hex len (Nat.le_refl _)
    have himm : ImmAt (immW w) a csl.flatten := flat_at (k := P.cellsOf e) fun i c hc => by
      obtain ⟨g1, g2⟩ := cells_imm (j3 i c hc)
      exact ⟨g1, fun j v hv => by rw [← Addr.add_add]; exact g2 j v hv⟩
    have hrep := flatten_rep xs csl (by rw [j1, j2]) j4
    have hxl : ∀ x ∈ xs, x.length = P.cellsOf e := by
      intro x hx
      obtain ⟨i, hi⟩ := List.mem_iff_getElem?.1 hx
      have hil : i < csl.length := by rw [j1, ← j2]; exact (List.getElem?_eq_some_iff.1 hi).1
      have hc := List.getElem?_eq_getElem hil
      rw [(j4 i x _ hi hc).length]
      exact (cells_imm (j3 i _ hc)).1
    have := RepI.sl (P.cellsOf e) xs a cap hxl himm hrep (by rw [j2]; exact hb.2.1) .nil
    rw [j2] at this
    refine ⟨_, this, xs, rfl, .inr ⟨_, _, rfl, by rw [List.length_map, k1, j2], fun i d x hd hx => ?_⟩⟩
    rw [List.getElem?_map] at hd
    obtain ⟨y, g1, rfl⟩ := Option.map_eq_some_iff.1 hd
    exact j5 i y x g1 hx
  · cases h

theorem reads_slice {t e : TypeId} (hu : P.underlying t = some (.slice e)) {Q : DataW H → List V → Prop} (he : Reads P enc sp held w e Q) :
    Reads P enc sp held w t fun d vs => ∃ xs, vs = [.sl false (P.cellsOf e) xs] ∧ ((d = .nil ∧ xs = []) ∨ ∃ elems spare, d = .slice elems spare ∧ xs.length = elems.length ∧ ∀ (i : Nat) (d : DataW H) (x : List V), elems[i]? = some d → xs[i]? = some x → Q d x) := by
  intro fuel
  cases fuel with
  | zero => intro cs d ps h; cases h
  | succ fuel => exact readsF_slice hu (he fuel)

/-- What an argument read, it reads behind the call. -/
theorem stays (hl : laidOutB P = true) {w' : World} (hb : Below w.heap.size w w') {ts : List TypeId} (ht : ts.all (fun t => P.readableRec t && decide (t < P.types.size)) = true) :
    ∀ {vs : List Value} {ds : List (DataW H)} {ps : List MemPlace}, DataW.TrodAll enc P w 0 (fun _ => true) true ts vs ds ps → DataW.TrodAll enc P w' 0 (fun b => decide (b < w.heap.size)) true ts vs ds ps := by
  induction ts with
  | nil =>
    intro vs ds ps h
    match vs, ds, h with
    | [], [], h => exact h
  | cons t ts ih =>
    intro vs ds ps h
    match vs, ds, h with
    | v :: vs, d :: ds, h =>
      obtain ⟨p, q, ⟨fuel, h1⟩, h2, rfl⟩ := h
      simp only [List.all_cons, Bool.and_eq_true, decide_eq_true_eq] at ht
      have hlt := DataW.trod_lt fuel t _ _ h1
      exact ⟨p, q, ⟨fuel, DataW.trod_stays (kids_book hl ht.1.1) (book_sized ht.1.1) (fun h => by cases h) ⟨ht.1.2, book_self t⟩ h1 (fun x hx => hb.same (hlt x hx)) (fun x hx => by simpa using hlt x hx)⟩, ih ht.2 h2, rfl⟩
end
end Go.Proofs.YtoaohapbbnpbeaaGreat.Vm
namespace Go.Proofs.YtoaohapbbnpbeaaGreat.Vm
open Go Go.RowKit Go.WideShapes

/-- What one value's reading weighs. -/
def Light {H : Type} (P : Program) (t : TypeId) (d : DataW H) : Prop := (d.weights P t).all (· ≤ reachBytes) = true
theorem light_each {H : Type} {P : Program} : ∀ {ts : List TypeId} {ds : List (DataW H)}, (DataW.weightsEach P ts ds).all (· ≤ reachBytes) = true → ∀ {j : Nat} {t : TypeId} {d : DataW H}, ts[j]? = some t → ds[j]? = some d → Light P t d
  | [], _, _, j, t, d, ht, _ => by simp at ht
  | _ :: _, [], _, j, t, d, _, hd => by simp at hd
  | t0 :: ts, d0 :: ds, h, j, t, d, ht, hd => by
    unfold DataW.weightsEach at h
    rw [List.all_append, Bool.and_eq_true] at h
    match j with
    | 0 => simp at ht hd; subst ht hd; exact h.1
    | j + 1 => exact light_each h.2 (j := j) (by simpa using ht) (by simpa using hd)
theorem light_all {H : Type} {P : Program} {e : TypeId} : ∀ {ds : List (DataW H)}, (DataW.weightsAll P e ds).all (· ≤ reachBytes) = true → ∀ d ∈ ds, Light P e d
  | [], _, d, hd => by cases hd
  | d0 :: ds, h, d, hd => by
    unfold DataW.weightsAll at h
    rw [List.all_append, Bool.and_eq_true] at h
    rcases List.mem_cons.1 hd with rfl | hd
    · exact h.1
    · exact light_all h.2 d hd
theorem light_slice {H : Type} {P : Program} {t e : TypeId} {elems spare : List (DataW H)} (hu : P.underlying t = some (.slice e)) (h : Light P t (.slice elems spare)) : elems.length * P.bytesOf e ≤ reachBytes ∧ ∀ d ∈ elems, Light P e d := by
  unfold Light at h
  simp only [DataW.weights, hu, List.all_cons, Bool.and_eq_true, decide_eq_true_eq, List.all_append] at h
  refine ⟨Nat.le_trans (Nat.mul_le_mul_right _ (Nat.le_add_right _ _)) h.1, light_all h.2.1⟩

theorem ex_list {α β : Type} {f : α → β} {p : α → Prop} : ∀ {xs : List β}, (∀ x ∈ xs, ∃ a, x = f a ∧ p a) → ∃ l : List α, xs = l.map f ∧ ∀ a ∈ l, p a
  | [], _ => ⟨[], rfl, fun _ h => by cases h⟩
  | x :: xs, h => by
    obtain ⟨a, rfl, ha⟩ := h x (List.mem_cons_self ..)
    obtain ⟨l, rfl, hl⟩ := ex_list fun y hy => h y (List.mem_cons_of_mem _ hy)
    exact ⟨a :: l, rfl, fun b hb => by
      rcases List.mem_cons.1 hb with rfl | hb
      · exact ha
      · exact hl b hb⟩

section
variable {P : Program} {w : World} {H : Type} {enc : TypeId × Value → H} {sp : Nat → Bool} {held : Bool}
theorem reads_sl {t e : TypeId} (hu : P.underlying t = some (.slice e)) {α : Type} {f : α → List V} {p : α → Prop} (hb : 1 ≤ P.bytesOf e) (he : Reads P enc sp held w e fun d vs => Light P e d → ∃ a, vs = f a ∧ p a) :
    Reads P enc sp held w t fun d vs => Light P t d → ∃ l : List α, vs = [.sl false (P.cellsOf e) (l.map f)] ∧ l.length ≤ reachBytes ∧ ∀ a ∈ l, p a := by
  intro fuel cs d ps h
  obtain ⟨vs, h1, xs, rfl, h2⟩ := reads_slice hu he fuel cs d ps h
  refine ⟨_, h1, fun hl => ?_⟩
  rcases h2 with ⟨rfl, rfl⟩ | ⟨elems, spare, rfl, h3, h4⟩
  · exact ⟨[], rfl, Nat.zero_le _, fun _ h => by cases h⟩
  · obtain ⟨k1, k2⟩ := light_slice hu hl
    obtain ⟨l, rfl, hp⟩ := ex_list (f := f) (p := p) (xs := xs) fun x hx => by
      obtain ⟨i, hi⟩ := List.mem_iff_getElem?.1 hx
      have hil : i < elems.length := by rw [← h3]; exact (List.getElem?_eq_some_iff.1 hi).1
      have hd := List.getElem?_eq_getElem hil
      exact h4 i _ x hd hi (k2 _ (List.getElem_mem hil))
    refine ⟨l, rfl, ?_, hp⟩
    rw [List.length_map] at h3
    rw [h3]
    exact Nat.le_trans (Nat.le_mul_of_pos_right _ hb) k1
theorem open_slice {t e : TypeId} {r : Reach} {b0 : Nat} {v : Value} {d : DataW H} {ps : List MemPlace} (hu : P.underlying t = some (.slice e)) (hval : Value.okWide P w r b0 t v) {Q : DataW H → List V → Prop} (hr : Reads P enc sp held w t Q)
    (hd : DataW.Trod enc P w 0 sp held t v d ps) : ∃ vs, RepI (immW w) vs [v] ∧ Q d vs := by
  obtain ⟨a, len, cap, rfl⟩ := okWide_slice hu hval
  obtain ⟨fuel, h⟩ := hd
  exact hr fuel _ d ps h
theorem open_intV {t : TypeId} {k : IntKind} {r : Reach} {b0 : Nat} {v : Value} {d : DataW H} {ps : List MemPlace} (hu : P.underlying t = some (.int k)) (hval : Value.okWide P w r b0 t v)
    (hd : DataW.Trod enc P w 0 sp held t v d ps) : ∃ n : Int, RepI (immW w) [.int k n] [v] ∧ d = .lit (.int k n) ∧ (Lit.int k n).wf = true := by
  obtain ⟨n, rfl⟩ := okWide_int hu hval
  obtain ⟨fuel, h⟩ := hd
  obtain ⟨vs, h1, n', h2, h3, h4⟩ := reads_int (w := w) (enc := enc) (sp := sp) (held := held) hu fuel _ d ps h
  subst h4
  have : n' = n := by
    cases h1; rfl
  subst this
  exact ⟨n', h1, h2, h3⟩
theorem open_strV {t : TypeId} {r : Reach} {b0 : Nat} {v : Value} {d : DataW H} {ps : List MemPlace} (hu : P.underlying t = some .string) (hval : Value.okWide P w r b0 t v)
    (hd : DataW.Trod enc P w 0 sp held t v d ps) : ∃ l : List UInt8, RepI (immW w) [.str l] [v] ∧ d = .lit (.string l) := by
  obtain ⟨n, rfl⟩ := okWide_string hu hval
  obtain ⟨fuel, h⟩ := hd
  obtain ⟨vs, h1, l, h2, h4⟩ := reads_str (w := w) (enc := enc) (sp := sp) (held := held) hu fuel _ d ps h
  subst h4
  exact ⟨l, h1, h2⟩
end
end Go.Proofs.YtoaohapbbnpbeaaGreat.Vm
namespace Go.Proofs.YtoaohapbbnpbeaaGreat.Vm
open Go

section
variable {H : Heap} {i j v : Nat} {cs : List V} {o : Obj}
theorem gc_some : getCells H i v = some cs ↔ H[i]? = some (.cells v cs) := by
  constructor
  · exact getCells_some
  · intro h; unfold getCells; rw [h]; simp
theorem gc_lt (h : getCells H i v = some cs) : i < H.length := (List.getElem?_eq_some_iff.1 (gc_some.1 h)).1
theorem gc_same (h : i < H.length) : getCells (H.set i (.cells v cs)) i v = some cs := by
  rw [gc_some, List.getElem?_set, if_pos rfl, if_pos h]
theorem gc_ne (h : i ≠ j) : getCells (H.set i o) j v = getCells H j v := by
  unfold getCells; rw [List.getElem?_set, if_neg h]
theorem gc_app {l : Heap} (h : j < H.length) : getCells (H ++ l) j v = getCells H j v := by
  unfold getCells; rw [List.getElem?_append_left h]
theorem gc_new : getCells (H ++ [.cells v cs]) H.length v = some cs := by
  rw [gc_some, List.getElem?_append_right (Nat.le_refl _), Nat.sub_self]; rfl
end
/-- All objects that were turned, or are new, name only such as stay. -/
theorem endX_all {H0 : Heap} {rs : List VRes} {R : V → Heap → Prop} {x : X} {E : En} {H : Heap} {m : Nat} (hm : m = H.length) (hx : (match x with | .exit _ => False | _ => True)) (h1 : H0.length ≤ H.length)
    (h3 : ∀ (i : Nat) (ob : Obj), H[i]? = some ob → H0[i]? = some ob ∨ idsO H.length ob = true) {r0 r : V} (h4 : resV H.length H E.f rs = some r0) (h5 : fixV H.length H 8 r0 = some r) (h6 : R r H) : endX m H0 rs R x E H := by
  subst hm
  refine ⟨hx, h1, Nat.le_refl _, fun i ob _ hob => h3 i ob hob, r0, h4, r, h5, ?_⟩
  rw [List.take_of_length_le (Nat.le_refl _)]
  exact h6
/-- A function whose last heap is known only behind it. -/
def endY (H0 : Heap) (rs : List VRes) (R : V → Heap → Prop) : KK := fun x E H => (match x with | .exit _ => False | _ => True) ∧ H0.length ≤ H.length ∧ (∀ (i : Nat) (ob : Obj), H[i]? = some ob → H0[i]? = some ob ∨ idsO H.length ob = true) ∧
  ∃ r0, resV H.length H E.f rs = some r0 ∧ ∃ r, fixV H.length H 8 r0 = some r ∧ R r H
theorem T.of_all {P : Program} (hmix : P.follows .mixedOrders = true) {f : Nat} {vf : VFunc} (hc : chkFn P f vf = true) {args : List V} {H : Heap} {R : V → Heap → Prop} (hl : Nat.ble args.length vf.n = true)
    (h : run P vf.body [] ⟨args.zipIdx.map fun p => (p.2, p.1), .tup []⟩ H (endY H vf.results R)) : ∃ r H', T P f args H r H' ∧ R r H' := by
  obtain ⟨x, E1, H1, h1, h2, h3, h4, r0, h6, r, h7, h8⟩ := wp_sound h
  rw [env0_eq] at h1
  refine ⟨r, H1, ?_, h8⟩
  have := T_of hmix hc (Nat.le_of_ble_eq_true hl) h1 (by intro id e; subst e; exact h2) (m := H1.length) h3 (Nat.le_refl _) h6 h7 (fun i ob _ hob => h4 i ob hob)
  rwa [List.take_of_length_le (Nat.le_refl _)] at this
/-- The objects that stay as they were; the others are new or turned. -/
def Same (H0 H : Heap) : Prop := ∀ (i : Nat) (ob : Obj), H[i]? = some ob → H0[i]? = some ob ∨ idsO H.length ob = true

@[go_sem] theorem fillV_agg {zs vs cs : List V} {off n : Nat} {ps : List (Nat × Nat)} (h : n = cs.length) : fillV zs ((off, n) :: ps) (.agg cs :: vs) = if off + cs.length ≤ zs.length then fillV (put zs off cs) ps vs else none := by
  subst h
  rw [fillV]
  by_cases hl : off + cs.length ≤ zs.length
  · rw [if_pos ⟨rfl, rfl, hl⟩, if_pos hl]; rfl
  · rw [if_neg (fun hh => hl hh.2.2), if_neg hl]
@[go_sem] theorem plain0_int {k : IntKind} {n : Int} : plain0 (.int k n) = true := (rfl)
@[go_sem] theorem plain0_bool {b : Bool} : plain0 (.bool b) = true := (rfl)
@[go_sem] theorem plain0_str {b : List UInt8} : plain0 (.str b) = true := (rfl)
@[go_sem] theorem plain0_sl {o : Bool} {z : Nat} {xs : List (List V)} : plain0 (.sl o z xs) = true := (rfl)
theorem elems_agg {sz : Nat} {cs : List V} (h : cs.all plain1 = true) (hn : sz = cs.length) : elems sz [.agg cs] = some [cs.map inl0] := by
  subst hn
  simp [elems, solid, V.cells, inl, h]
theorem elems_nil {sz : Nat} : elems sz [] = some [] := rfl
attribute [go_sem] List.drop_succ_cons List.drop_zero List.take_succ_cons List.take_zero put List.drop_nil List.take_nil
section
variable {P : Program} {K : KK} {s : List Fr} {E : En} {H : Heap} {tk : List Nat} {dst : Option Nat} {os : List VOp} {keep : List Nat}
theorem run_str {op : BinOp} {a b : List UInt8} : runAct P (.bin op) [.str a, .str b] tk dst os keep s E H K = ∃ v, binStr op a b = some v ∧ runOps P os keep s ((stripEn tk E).setO dst v) H K := rfl
@[go_sem] theorem run_eqlS {a b : List UInt8} : runAct P (.bin .eql) [.str a, .str b] tk dst os keep s E H K = runOps P os keep s ((stripEn tk E).setO dst (.bool (a == b))) H K := by
  rw [run_str]; simp [binStr]
@[go_sem] theorem run_neqS {a b : List UInt8} : runAct P (.bin .neq) [.str a, .str b] tk dst os keep s E H K = runOps P os keep s ((stripEn tk E).setO dst (.bool (!(a == b)))) H K := by
  rw [run_str]; simp [binStr]
@[go_sem] theorem run_addS {a b : List UInt8} : runAct P (.bin .add) [.str a, .str b] tk dst os keep s E H K = (a.length + b.length ≤ 9223372036854775807 ∧ runOps P os keep s ((stripEn tk E).setO dst (.str (a ++ b))) H K) := by
  rw [run_str]
  apply propext
  constructor
  · rintro ⟨v, h1, h2⟩
    unfold binStr at h1
    simp only at h1
    split at h1
    · rename_i hl; cases h1; exact ⟨hl, h2⟩
    · cases h1
  · rintro ⟨h1, h2⟩
    exact ⟨_, by unfold binStr; simp only; rw [if_pos h1], h2⟩
end
theorem elems_int {k : IntKind} {n : Int} {vs : List V} : elems 1 (.int k n :: vs) = (elems 1 vs).map ([.int k n] :: ·) := by
  simp [elems, solid, scal0, V.cells, inl, plain1, plain0, inl0, strip0]
end Go.Proofs.YtoaohapbbnpbeaaGreat.Vm
namespace Go.Proofs.YtoaohapbbnpbeaaGreat.Vm
open Go

/-- A FUNCTION that answers one cell's value: the cell keeps a copy that owns nothing; all objects stay. -/
theorem T_ofT {P : Program} (hmix : P.follows .mixedOrders = true) {f : Nat} {vf : VFunc} (hc : chkFn P f vf = true) {args : List V} {H : Heap} (hl : args.length ≤ vf.n) {x : X} {σ' : Env} {H1 : Heap} (hx : VExec P vf.body (env0 args) H x σ' H1) (hnx : ∀ id, x ≠ .exit id)
    {t n : Nat} {agg : Bool} (hrs : vf.results = [.cell t n agg]) {id ver off : Nat} (hσ : σ' t = .ptr id ver off) {cs0 l : List V} (hg : getCells H1 id ver = some cs0) (hcut : cut cs0 off n = some l) {r : V} (hm : mk agg l = some r) :
    T P f args H r (H1.set id (.cells ver (put cs0 off (l.map strip0)))) := by
  unfold chkFn at hc
  split at hc
  · rename_i fn hfn
    simp only [Bool.and_eq_true, beq_iff_eq, decide_eq_true_eq, bne_iff_ne] at hc
    obtain ⟨⟨⟨⟨hbody, hnt⟩, hres⟩, hnd⟩, hname⟩ := hc
    cases hb : fn.body with
    | none => rw [hb] at hbody; cases hbody
    | some c =>
      rw [hb] at hbody
      refine ⟨⟨fn, hfn, by rw [hb]; rfl, by simpa using hname⟩, ?_⟩
      intro w G own cs bl hok hrep hnod harg
      obtain ⟨fo, fo1, fo2⟩ := hrep.parts hnod
      let own1 : Nat → Option Place := fun b => match fo b with
        | some j => some (.slot j)
        | none => match own b with
          | some .frame => some .frame
          | some (.obj i) => some (.obj i)
          | some (.cell i) => some (.cell i)
          | _ => none
      have hnone : ∀ b, own b ≠ some .arg → fo b = none := by
        intro b hb
        cases h : fo b with
        | none => rfl
        | some j => exact absurd (harg b (fo1 b j h)) hb
      have hok1 : Ok w G own1 H := by
        refine hok.relabel (fun b i hb => ?_) fun b p hp => ?_
        · have : fo b = none := hnone b (by rcases hb with hb | hb <;> rw [hb] <;> simp)
          simp only [own1, this]; rcases hb with hb | hb <;> rw [hb]
        · simp only [own1] at hp
          split at hp
          · rename_i j hj; exact ⟨_, harg b (fo1 b j hj)⟩
          · split at hp
            · exact ⟨_, by assumption⟩
            · exact ⟨_, by assumption⟩
            · exact ⟨_, by assumption⟩
            · cases hp
      have hlen : cs.size = args.length := by have := hrep.length; rw [this]; exact Array.length_toList.symm
      have hat : At w G own1 (env0 args) H vf.n { tmps := cs ++ Array.replicate (fn.ntmps - cs.size) undef, defers := [] } := by
        refine ⟨hok1, fun i => ?_, ?_, rfl⟩
        · cases hi : args[i]? with
          | none =>
            have hge : args.length ≤ i := by
              rcases Nat.lt_or_ge i args.length with h | h
              · rw [List.getElem?_eq_getElem h] at hi; cases hi
              · exact h
            refine ⟨[], ?_, List.nodup_nil, fun _ h => by cases h⟩
            have : (cs ++ Array.replicate (fn.ntmps - cs.size) undef).getD i undef = undef := by
              rw [Array.getD_eq_getD_getElem?, Array.getElem?_append_right (by omega), Array.getElem?_replicate]
              split <;> rfl
            simp only [env0, hi, Option.getD_none]
            rw [this]
            exact .tup .nil .nil
          | some v =>
            obtain ⟨c', b1, e1, e2, e3, e4⟩ := fo2 i v hi
            refine ⟨b1, ?_, e3, fun b hb => by simp only [own1, e4 b hb]⟩
            have hlt : i < cs.size := by
              rw [hlen]; exact (List.getElem?_eq_some_iff.1 hi).1
            have : (cs ++ Array.replicate (fn.ntmps - cs.size) undef).getD i undef = c' := by
              rw [Array.getD_eq_getD_getElem?, Array.getElem?_append_left hlt, ← Array.getElem?_toList, e1]; rfl
            simp only [env0, hi, Option.getD_some]
            rw [this]; exact e2
        · simp only [Array.size_append, Array.size_replicate]; omega
      refine calls_of_wp hfn hb (Code.wp_mono ?_ ((exec_sound hmix hx c hbody).1 w G own1 _ hat))
      rintro e a1 w1 ⟨rfl, G1, own2, hat1, hext⟩
      rw [hrs] at hres
      obtain ⟨cr, w2, q1, q2, G3, own3, br, k1, k2, k3, k4, k5⟩ : ∃ cr w2, (results fn a1.tmps).run P w1 = .ok cr w1 ∧ w2 = w1 ∧ ∃ G3 own3 br, Ok w1 G3 own3 (H1.set id (.cells ver (put cs0 off (l.map strip0)))) ∧ RepL w1 G3 [r] [cr] br ∧ br.Nodup ∧ (∀ b ∈ br, own3 b = some .res) ∧ Ext w1 G1 own2 w1 G3 own3 := by
        match hfr : fn.results.toList, hres with
        | [.cell x t'], hres =>
          simp only [chkRess, chkRes, Bool.and_eq_true, beq_iff_eq, Bool.and_true] at hres
          obtain ⟨rfl, hlo⟩ := hres
          obtain ⟨c', e1, _, _⟩ := res_cell (P := P) hat1 hlo hσ hg hcut
          obtain ⟨d, h1, h2, h3, h4⟩ := loadOk_eq hlo
          obtain ⟨bs, rs, _, _⟩ := hat1.slots x
          rw [hσ] at rs
          obtain ⟨b, ver', n', bb, cs', hcs, _⟩ := rs.ptr_inv
          have hc0 := (List.cons.inj hcs).1
          subst h3
          obtain ⟨c2, w2, e3, G3, own3, br, k⟩ := loadT_post (P := P) hat1.ok h1 h2 h4 rs hg hcut hm
          rw [hc0] at e1 e3
          have e1' : (loadVar t' ⟨bb, off, none⟩).run P w1 = .ok c' w1 := by simpa [asAddr] using e1
          have e3' : (loadVar t' ⟨bb, off, none⟩).run P w1 = .ok c2 w2 := by simpa [Instr.loadAt, Instr.sureAddr] using e3
          rw [e1'] at e3'
          cases e3'
          have hrun : (fn.results.toList.mapM (run1 a1)).run P w1 = .ok [c'] w1 := by
            rw [hfr]
            have : (run1 a1 (.cell x t')).run P w1 = .ok c' w1 := by
              show (do loadVar t' (← asAddr (a1.tmps.getD x undef)) : Sem Value).run P w1 = _
              rw [hc0]; simpa [asAddr] using e1'
            simp [List.mapM_cons, this]
          exact ⟨c', w1, results_run hrun, rfl, G3, own3, br, k⟩
        | [.tmp _], hres => simp [chkRess, chkRes] at hres
        | [], hres => cases hres
        | _ :: _ :: _, hres => simp [chkRess] at hres
      let own4 : Nat → Option Place := fun b => if b ∈ br then some .res else match own3 b with
        | some .frame => some .frame
        | some (.obj i) => some (.obj i)
        | some (.cell i) => some (.cell i)
        | _ => none
      have hok4 : Ok w1 G3 own4 (H1.set id (.cells ver (put cs0 off (l.map strip0)))) := by
        refine k1.relabel (fun b i hb => ?_) fun b p hp => ?_
        · have hnb : b ∉ br := by
            intro hb'
            rw [k4 b hb'] at hb; rcases hb with hb | hb <;> cases hb
          simp only [own4, if_neg hnb]
          rcases hb with hb | hb <;> rw [hb]
        · simp only [own4] at hp
          split at hp
          · rename_i hb'; exact ⟨_, k4 b hb'⟩
          · cases ho : own3 b with
            | none => rw [ho] at hp; cases hp
            | some q => exact ⟨q, rfl⟩
      have hext2 := hext.trans k5
      have hpost : Post w G own r (H1.set id (.cells ver (put cs0 off (l.map strip0)))) cr w1 := by
        refine ⟨G3, own4, br, hok4, k2, k3, fun b hb => by simp only [own4, if_pos hb], ⟨hext2.size, hext2.imm, hext2.loc, ?_, hext2.tape, hext2.os, hext2.out⟩⟩
        intro b hb
        have h1 : own1 b = some .frame := by
          have : fo b = none := hnone b (by rw [hb]; simp)
          simp only [own1, this, hb]
        obtain ⟨j1, j2, j3⟩ := hext2.fixed b h1
        refine ⟨j1, j2, ?_⟩
        have hnb : b ∉ br := by
          intro hb'
          rw [k4 b hb'] at j3; cases j3
        simp only [own4, if_neg hnb, j3]
      cases x with
      | normal => exact ⟨hat1.defers, cr, q1, cr, rfl, hpost⟩
      | ret => exact ⟨hat1.defers, cr, q1, cr, rfl, hpost⟩
      | exit id => exact absurd rfl (hnx id)
  · cases hc
/-- How such a function ends. -/
def endT (t n : Nat) (agg : Bool) (R : V → Heap → Prop) : KK := fun x E H => (match x with | .exit _ => False | _ => True) ∧
  ∃ id ver off cs l r, E.f t = .ptr id ver off ∧ getCells H id ver = some cs ∧ cut cs off n = some l ∧ mk agg l = some r ∧ R r (H.set id (.cells ver (put cs off (l.map strip0))))
theorem T.of_take {P : Program} (hmix : P.follows .mixedOrders = true) {f : Nat} {vf : VFunc} (hc : chkFn P f vf = true) {args : List V} {H : Heap} {R : V → Heap → Prop} (hl : Nat.ble args.length vf.n = true) {t n : Nat} {agg : Bool} (hrs : vf.results = [.cell t n agg])
    (h : run P vf.body [] ⟨args.zipIdx.map fun p => (p.2, p.1), .tup []⟩ H (endT t n agg R)) : ∃ r H', T P f args H r H' ∧ R r H' := by
  obtain ⟨x, E1, H1, h1, h2, id, ver, off, cs, l, r, h3, h4, h5, h6, h7⟩ := wp_sound h
  rw [env0_eq] at h1
  exact ⟨r, _, T_ofT hmix hc (Nat.le_of_ble_eq_true hl) h1 (by intro id e; subst e; exact h2) hrs h3 h4 h5 h6, h7⟩

section
variable {P : Program} {K : KK} {s : List Fr} {E : En} {H : Heap} {tk : List Nat} {dst : Option Nat} {os : List VOp} {keep : List Nat}
def loadTA (P : Program) (n : Nat) (x : Option (List V)) (id ver off : Nat) (tk : List Nat) (dst : Option Nat) (os : List VOp) (keep : List Nat) (s : List Fr) (E : En) (H : Heap) (K : KK) : Prop :=
  ∃ cs, x = some cs ∧ off + n ≤ cs.length ∧ nextV P (.agg ((cs.drop off).take n)) tk dst os keep s E (H.set id (.cells ver (put cs off (((cs.drop off).take n).map strip0)))) K
@[go_sem] theorem loadTA_some {n : Nat} {cs : List V} {id ver off : Nat} : loadTA P n (some cs) id ver off tk dst os keep s E H K = (off + n ≤ cs.length ∧ nextV P (.agg ((cs.drop off).take n)) tk dst os keep s E (H.set id (.cells ver (put cs off (((cs.drop off).take n).map strip0)))) K) := by
  apply propext
  constructor
  · rintro ⟨v, h, k⟩; cases h; exact k
  · intro k; exact ⟨cs, rfl, k⟩
@[go_sem] theorem run_loadTA {id ver off n : Nat} : runAct P (.loadT n true) [.ptr id ver off] tk dst os keep s E H K = loadTA P n (getCells H id ver) id ver off tk dst os keep s E H K := (rfl)
end
end Go.Proofs.YtoaohapbbnpbeaaGreat.Vm
namespace Go.Proofs.YtoaohapbbnpbeaaGreat.Vm
open Go Go.RowKit Go.WideShapes

section
variable {P : Program} {w : World} {H : Type} {enc : TypeId × Value → H} {sp : Nat → Bool} {held : Bool}
theorem readsF_of {t : TypeId} {Q : DataW H → List V → Prop} (h : Reads P enc sp held w t Q) (fuel : Nat) : ReadsF P enc sp held w fuel t Q := h fuel
/-- Fields that lie one behind the other: where they end. -/
def contig (P : Program) : Nat → List Field → Option Nat
  | o, [] => some o
  | o, f :: fs => if f.offset = o then contig P (o + P.cellsOf f.type) fs else none
theorem contig_le {P : Program} : ∀ {fs : List Field} {o e : Nat}, contig P o fs = some e → o ≤ e
  | [], o, e, h => by cases h; exact Nat.le_refl _
  | f :: fs, o, e, h => by
    unfold contig at h
    split at h
    · have := contig_le h; omega
    · cases h
inductive Fits3 (Qs : List (DataW H → List V → Prop)) : List (DataW H) → List (List V) → Prop
  | mk {ds vss} (hl : ds.length = Qs.length) (hv : vss.length = Qs.length) (h : ∀ (i : Nat) Q d v, Qs[i]? = some Q → ds[i]? = some d → vss[i]? = some v → Q d v) : Fits3 Qs ds vss
theorem drop_split {α : Type} (l : List α) (a b c : Nat) (hab : a ≤ b) (hbc : b ≤ c) : (l.drop a).take (c - a) = (l.drop a).take (b - a) ++ (l.drop b).take (c - b) := by
  rw [show c - a = (b - a) + (c - b) by omega, List.take_add, List.drop_drop, show a + (b - a) = b by omega]
theorem fields_read {fuel : Nat} {cs : List Value} : ∀ {fs : List Field} {Qs : List (DataW H → List V → Prop)} {o e : Nat} {xs : List (DataW H × List MemPlace)}, contig P o fs = some e → fs.length = Qs.length →
    (∀ (i : Nat) (f : Field) Q, fs[i]? = some f → Qs[i]? = some Q → ReadsF P enc sp held w fuel f.type Q) →
    (fs.mapM fun f => DataW.trod enc P w 0 sp held fuel f.type ((cs.drop f.offset).take (P.cellsOf f.type))) = some xs →
    ∃ vss : List (List V), RepI (immW w) vss.flatten ((cs.drop o).take (e - o)) ∧ Fits3 Qs (xs.map (·.1)) vss
  | [], [], o, e, xs, hc, _, _, h => by
    cases hc; cases h
    exact ⟨[], by simp; exact .nil, .mk rfl rfl fun i Q d v hQ => by simp at hQ⟩
  | [], _ :: _, _, _, _, _, hl, _, _ => by cases hl
  | _ :: _, [], _, _, _, _, hl, _, _ => by cases hl
  | f :: fs, Q :: Qs, o, e, xs, hc, hl, hq, h => by
    unfold contig at hc
    split at hc
    · rename_i ho
      rw [List.mapM_cons] at h
      obtain ⟨y, h1, h⟩ := Option.bind_eq_some_iff.1 h
      obtain ⟨ys, h2, h⟩ := Option.bind_eq_some_iff.1 h
      cases h
      obtain ⟨vs, k1, k2⟩ := hq 0 f Q rfl rfl _ y.1 y.2 h1
      obtain ⟨vss, k3, k4, k5, k6⟩ := fields_read hc (by simpa using hl) (fun i f' Q' hf hQ => hq (i + 1) f' Q' (by simpa using hf) (by simpa using hQ)) h2
      refine ⟨vs :: vss, ?_, .mk (by simpa using k4) (by simpa using k5) fun i Q' d v hQ hd hv => ?_⟩
      · rw [List.flatten_cons, drop_split cs o (o + P.cellsOf f.type) e (by omega) (contig_le hc), Nat.add_sub_cancel_left, ← ho]
        exact RepI.append (by rw [ho]; exact k3) k1
      · match i with
        | 0 => simp at hQ hd hv; subst hQ hd hv; exact k2
        | i + 1 => exact k6 i Q' d v (by simpa using hQ) (by simpa using hd) (by simpa using hv)
    · cases hc
theorem readsF_struct {t : TypeId} {fs : Array Field} {fuel : Nat} (hu : P.underlying t = some (.struct fs)) (hc : contig P 0 fs.toList = some (P.cellsOf t)) {Qs : List (DataW H → List V → Prop)} (hl : fs.toList.length = Qs.length)
    (hq : ∀ (i : Nat) (f : Field) Q, fs.toList[i]? = some f → Qs[i]? = some Q → ReadsF P enc sp held w fuel f.type Q) :
    ReadsF P enc sp held w (fuel + 1) t fun d vs => ∃ ds vss, d = .agg ds ∧ vs = vss.flatten ∧ Fits3 Qs ds vss := by
  intro cs d ps h
  unfold DataW.trod at h
  rw [hu] at h
  split at h <;> try (rename_i he; cases he; done)
  all_goals first | (cases h; done) | skip
  all_goals first | (rename_i he; exact (he fs rfl).elim) | skip
  all_goals first | (exact (‹∀ (fs_1 : Array Field), some (TypeDesc.struct fs) = some (TypeDesc.struct fs_1) → False› fs rfl).elim) | skip
  all_goals
    rename_i he
    cases he
    split at h
    · rename_i hlen
      obtain ⟨xs, h1, h⟩ := Option.map_eq_some_iff.1 h
      cases h
      obtain ⟨vss, k1, k2⟩ := fields_read hc hl hq h1
      rw [Nat.sub_zero, List.drop_zero, ← hlen, List.take_of_length_le (Nat.le_refl _)] at k1
      exact ⟨_, k1, _, vss, rfl, rfl, k2⟩
    · cases h
theorem readsF_mono {t : TypeId} {fuel : Nat} {Q Q' : DataW H → List V → Prop} (h : ReadsF P enc sp held w fuel t Q) (hq : ∀ d vs, Q d vs → Q' d vs) : ReadsF P enc sp held w fuel t Q' := by
  intro cs d ps hd
  obtain ⟨vs, h1, h2⟩ := h cs d ps hd
  exact ⟨vs, h1, hq _ _ h2⟩
theorem reads_of {t : TypeId} {Q : DataW H → List V → Prop} (h : ∀ fuel, ReadsF P enc sp held w (fuel + 1) t Q) : Reads P enc sp held w t Q := by
  intro fuel
  cases fuel with
  | zero => intro cs d ps h; cases h
  | succ fuel => exact h fuel
theorem light_part {t : TypeId} {fs : Array Field} {ds : List (DataW H)} (hu : P.underlying t = some (.struct fs)) (h : Light P t (.agg ds)) {j : Nat} {f : Field} {d : DataW H} (hf : fs.toList[j]? = some f) (hd : ds[j]? = some d) : Light P f.type d := by
  unfold Light at h
  simp only [DataW.weights, hu] at h
  exact light_each h (j := j) (by rw [List.getElem?_map, hf]; rfl) hd
end
theorem list1 {α : Type} {l : List α} (h : l.length = 1) : ∃ a, l = [a] := by
  match l, h with
  | [a], _ => exact ⟨a, rfl⟩
theorem list2 {α : Type} {l : List α} (h : l.length = 2) : ∃ a b, l = [a, b] := by
  match l, h with
  | [a, b], _ => exact ⟨a, b, rfl⟩
theorem list5 {α : Type} {l : List α} (h : l.length = 5) : ∃ a b c d e, l = [a, b, c, d, e] := by
  match l, h with
  | [a, b, c, d, e], _ => exact ⟨a, b, c, d, e, rfl⟩
end Go.Proofs.YtoaohapbbnpbeaaGreat.Vm
namespace Go.Proofs.YtoaohapbbnpbeaaGreat.Vm
open Go

section
variable {P : Program} {K : KK} {s : List Fr} {E : En} {H : Heap} {tk : List Nat} {dst : Option Nat} {os : List VOp} {keep : List Nat}
theorem ex_next {v : V} {H1 : Heap} {F : V → Heap → Prop} {x : R} (h : x = some (v, H1)) : (∃ r H', x = some (r, H') ∧ F r H') = F v H1 := by
  subst h
  apply propext
  constructor
  · rintro ⟨r, H', h, k⟩; cases h; exact k
  · intro k; exact ⟨_, _, rfl, k⟩
@[go_sem] theorem ops_res {ts : List Nat} {l : List (Nat × V)} {d : V} : runOps P (resOp ts :: os) keep s ⟨l, d⟩ H K = runOps P os keep s ⟨l, d⟩ (H ++ ts.map .hole) K := by
  unfold resOp
  rw [ops_cons]
  exact ex_next (v := .tup []) (H1 := H ++ ts.map .hole) (F := fun r H' => runOps P os keep s ((stripEn [] ⟨l, d⟩).setO none r) H' K) rfl
def apartV (P : Program) (x y : V) (os : List VOp) (keep : List Nat) (s : List Fr) (E : En) (H : Heap) (K : KK) : Prop := farV x y = true ∧ runOps P os keep s E H K
@[go_sem] theorem ops_ap {p : Nat × Nat} {l : List (Nat × V)} {d : V} : runOps P (apOp p :: os) keep s ⟨l, d⟩ H K = apartV P (getE l d p.1) (getE l d p.2) os keep s ⟨l, d⟩ H K := by
  unfold apOp apartV
  rw [ops_cons]
  show (∃ r H', (if farV (strip (getE l d p.1)) (strip (getE l d p.2)) = true then some (V.tup [], H) else none) = some (r, H') ∧ _) = _
  have e : farV (strip (getE l d p.1)) (strip (getE l d p.2)) = farV (getE l d p.1) (getE l d p.2) := by unfold farV; rw [idOf_strip, idOf_strip]
  rw [e]
  apply propext
  constructor
  · rintro ⟨r, H', h, k⟩
    split at h
    · rename_i hf; cases h; exact ⟨hf, k⟩
    · cases h
  · rintro ⟨h, k⟩; exact ⟨_, _, by rw [if_pos h], k⟩
theorem far_iff {a x : Nat} : ((!(Nat.beq a x)) = true) = (a ≠ x) := by
  apply propext
  cases h : Nat.beq a x with
  | true => simp [Nat.eq_of_beq_eq_true h]
  | false => simp [Nat.ne_of_beq_eq_false h]
@[go_sem] theorem apart_pp {a b c x y z : Nat} : apartV P (.ptr a b c) (.ptr x y z) os keep s E H K = (a ≠ x ∧ runOps P os keep s E H K) := by
  unfold apartV farV
  simp only [idOf, far_iff]
@[go_sem] theorem apart_ph {a b c x y z u v : Nat} : apartV P (.ptr a b c) (.hsl x y z u v) os keep s E H K = (a ≠ x ∧ runOps P os keep s E H K) := by
  unfold apartV farV
  simp only [idOf, far_iff]
@[go_sem] theorem apart_hp {a b c x y z u v : Nat} : apartV P (.hsl x y z u v) (.ptr a b c) os keep s E H K = (x ≠ a ∧ runOps P os keep s E H K) := by
  unfold apartV farV
  simp only [idOf, far_iff]
@[go_sem] theorem apart_cl {cs : List V} {y : V} : apartV P (.cptr cs) y os keep s E H K = runOps P os keep s E H K := by
  simp [apartV, farV, idOf]
@[go_sem] theorem apart_cr {cs : List V} {a b c : Nat} : apartV P (.ptr a b c) (.cptr cs) os keep s E H K = runOps P os keep s E H K := by
  simp [apartV, farV, idOf]
@[go_sem] theorem apart_tl {vs : List V} {y : V} : apartV P (.tup vs) y os keep s E H K = runOps P os keep s E H K := by
  simp [apartV, farV, idOf]
@[go_sem] theorem apart_tr {vs : List V} {a b c : Nat} : apartV P (.ptr a b c) (.tup vs) os keep s E H K = runOps P os keep s E H K := by
  simp [apartV, farV, idOf]
@[go_sem] theorem apart_nl {z : Nat} {y : V} : apartV P (.nilh z) y os keep s E H K = runOps P os keep s E H K := by
  simp [apartV, farV, idOf]
@[go_sem] theorem apart_nr {z : Nat} {a b c : Nat} : apartV P (.ptr a b c) (.nilh z) os keep s E H K = runOps P os keep s E H K := by
  simp [apartV, farV, idOf]
@[go_sem] theorem run_loadC1 {v : V} : runAct P (.loadC 1 false) [.cptr [v]] tk dst os keep s E H K = runOps P os keep s ((stripEn tk E).setO dst v) H K := by
  show (∃ r H', sLoadC 1 false [.cptr [v]] H = some (r, H') ∧ _) = _
  exact ex_next rfl
@[go_sem] theorem run_loadC {n : Nat} {cs : List V} : runAct P (.loadC n true) [.cptr cs] tk dst os keep s E H K = (n ≤ cs.length ∧ runOps P os keep s ((stripEn tk E).setO dst (.agg (cs.take n))) H K) := by
  show (∃ r H', sLoadC n true [.cptr cs] H = some (r, H') ∧ _) = _
  apply propext
  constructor
  · rintro ⟨r, H', h, k⟩
    obtain ⟨l, h1, h⟩ := Option.bind_eq_some_iff.1 h
    obtain ⟨x, h2, h⟩ := Option.map_eq_some_iff.1 h
    cases h; cases h2
    obtain ⟨h3, rfl⟩ := cut_of h1
    exact ⟨by omega, by simpa using k⟩
  · rintro ⟨h, k⟩
    exact ⟨_, _, by simp [sLoadC, cut, h, mk], k⟩
@[go_sem] theorem run_loadcv {v : V} {cs : List V} : runAct P (.load 1 false) [.cptr (v :: cs)] tk dst os keep s E H K = runOps P os keep s ((stripEn tk E).setO dst v) H K := by
  show (1 ≤ (v :: cs).length ∧ _) = _
  simp [mkW]
@[go_sem] theorem run_loadCv {v : V} {cs : List V} : runAct P (.loadC 1 false) [.cptr (v :: cs)] tk dst os keep s E H K = runOps P os keep s ((stripEn tk E).setO dst v) H K := by
  show (∃ r H', sLoadC 1 false [.cptr (v :: cs)] H = some (r, H') ∧ _) = _
  exact ex_next (by simp [sLoadC, cut, mk])
def buildG (P : Program) (sz : Nat) (x : Option (List (List V))) (tk : List Nat) (dst : Option Nat) (os : List VOp) (keep : List Nat) (s : List Fr) (E : En) (H : Heap) (K : KK) : Prop := ∃ xs, x = some xs ∧ nextV P (.sl true sz xs) tk dst os keep s E H K
@[go_sem] theorem buildG_some {sz : Nat} {xs : List (List V)} : buildG P sz (some xs) tk dst os keep s E H K = nextV P (.sl true sz xs) tk dst os keep s E H K := by
  unfold buildG
  apply propext
  constructor
  · rintro ⟨y, h, k⟩; cases h; exact k
  · intro k; exact ⟨_, rfl, k⟩
@[go_sem] theorem run_buildSl {sz : Nat} {v : V} {vs : List V} : runAct P (.buildSl sz) (v :: vs) tk dst os keep s E H K = buildG P sz (elems sz (v :: vs)) tk dst os keep s E H K := by
  show (∃ r H', sBuildSl sz (v :: vs) H = some (r, H') ∧ _) = _
  unfold buildG sBuildSl
  apply propext
  constructor
  · rintro ⟨r, H', h, k⟩
    obtain ⟨xs, h1, h2⟩ := Option.map_eq_some_iff.1 h
    cases h2
    exact ⟨xs, h1, k⟩
  · rintro ⟨xs, h, k⟩; exact ⟨_, _, by rw [h]; rfl, k⟩
theorem storeP_eq {n id ver off : Nat} {v : V} (hv : v.cells.all notFr = true) : runAct P (.storeP n) [.ptr id ver off, v] tk dst os keep s E H K = runAct P (.store n) [.ptr id ver off, v] tk dst os keep s E H K := by
  have e : sStoreP n [.ptr id ver off, v] H = sStore n [.ptr id ver off, v] H := by
    simp only [sStoreP, sStore, thawL_id hv, hv, true_and]
  show (∃ r H', sStoreP n [.ptr id ver off, v] H = some (r, H') ∧ _) = (∃ r H', sStore n [.ptr id ver off, v] H = some (r, H') ∧ _)
  rw [e]
@[go_sem] theorem storeP_int {id ver off : Nat} {k : IntKind} {n : Int} : runAct P (.storeP 1) [.ptr id ver off, .int k n] tk dst os keep s E H K = storeG P (getCells H id ver) id ver off (.int k n) tk dst os keep s E H K := by rw [storeP_eq rfl, store_int]
@[go_sem] theorem storeP_bool {id ver off : Nat} {b : Bool} : runAct P (.storeP 1) [.ptr id ver off, .bool b] tk dst os keep s E H K = storeG P (getCells H id ver) id ver off (.bool b) tk dst os keep s E H K := by rw [storeP_eq rfl, store_bool]
@[go_sem] theorem storeP_str {id ver off : Nat} {b : List UInt8} : runAct P (.storeP 1) [.ptr id ver off, .str b] tk dst os keep s E H K = storeG P (getCells H id ver) id ver off (.str b) tk dst os keep s E H K := by rw [storeP_eq rfl, store_str]
@[go_sem] theorem storeP_sl {id ver off : Nat} {o : Bool} {z : Nat} {xs : List (List V)} : runAct P (.storeP 1) [.ptr id ver off, .sl o z xs] tk dst os keep s E H K = storeG P (getCells H id ver) id ver off (.sl o z xs) tk dst os keep s E H K := by rw [storeP_eq rfl, store_sl]
@[go_sem] theorem storeP_hsl {id ver off a b c d e : Nat} : runAct P (.storeP 1) [.ptr id ver off, .hsl a b c d e] tk dst os keep s E H K = storeG P (getCells H id ver) id ver off (.hsl a b c d e) tk dst os keep s E H K := by rw [storeP_eq rfl, store_hsl]
@[go_sem] theorem storeP_ptr {id ver off a b c : Nat} : runAct P (.storeP 1) [.ptr id ver off, .ptr a b c] tk dst os keep s E H K = storeG P (getCells H id ver) id ver off (.ptr a b c) tk dst os keep s E H K := by rw [storeP_eq rfl, store_ptr]
@[go_sem] theorem storeP_agg {id ver off n : Nat} {cs : List V} (h : cs.all plainC = true) (hn : n = cs.length) : runAct P (.storeP n) [.ptr id ver off, .agg cs] tk dst os keep s E H K = storeA P (getCells H id ver) id ver off cs tk dst os keep s E H K := by
  rw [storeP_eq, store_agg h hn]
  show cs.all notFr = true
  rw [List.all_eq_true] at h ⊢
  intro v hv
  have := h v hv
  cases v <;> first | rfl | cases this
def allocG (P : Program) (x : Option Nat) (zs : List V) (tk : List Nat) (dst : Option Nat) (os : List VOp) (keep : List Nat) (s : List Fr) (E : En) (H : Heap) (K : KK) : Prop := ∃ i, x = some i ∧ nextV P (.ptr i 1 0) tk dst os keep s E (H.set i (.cells 1 zs)) K
@[go_sem] theorem run_allocR {t : Nat} {zs : List V} : runAct P (.allocR t zs) [] tk dst os keep s E H K = allocG P (holeAt t H 0) zs tk dst os keep s E H K := by
  show (∃ r H', sAllocR t zs [] H = some (r, H') ∧ _) = _
  unfold sAllocR allocG
  simp only []
  apply propext
  constructor
  · rintro ⟨r, H', h, k⟩
    obtain ⟨i, h1, h2⟩ := Option.map_eq_some_iff.1 h
    cases h2
    exact ⟨i, h1, k⟩
  · rintro ⟨i, h, k⟩; exact ⟨_, _, by rw [h]; rfl, k⟩
@[go_sem] theorem allocG_some {i : Nat} {zs : List V} : allocG P (some i) zs tk dst os keep s E H K = nextV P (.ptr i 1 0) tk dst os keep s E (H.set i (.cells 1 zs)) K := by
  unfold allocG
  apply propext
  constructor
  · rintro ⟨j, h, k⟩; cases h; exact k
  · intro k; exact ⟨_, rfl, k⟩
@[go_sem] theorem run_appendAh {id ver off ln z sz bytes : Nat} {y : V} : runAct P (.appendA sz bytes) [.hsl id ver off ln z, y] tk dst os keep s E H K = runAct P (.appendH sz bytes) [.hsl id ver off ln z, y] tk dst os keep s E H K := (rfl)
@[go_sem] theorem run_appendAn {z z' sz bytes : Nat} {o : Bool} {ys : List (List V)} : runAct P (.appendA sz bytes) [.nilh z, .sl o z' ys] tk dst os keep s E H K =
    ((z = sz ∧ z' = sz ∧ 0 < ys.length ∧ fits ys.length bytes) ∧ nextV P (.hsl H.length 0 0 ys.length sz) tk dst os keep s E (H ++ [.cells 0 ys.flatten]) K) := by
  show (∃ r H', sAppendA sz bytes [.nilh z, .sl o z' ys] H = some (r, H') ∧ _) = _
  unfold sAppendA
  simp only [sAppendH]
  apply propext
  constructor
  · rintro ⟨r, H', h, k⟩
    split at h
    · rename_i hq; cases h; exact ⟨hq, k⟩
    · cases h
  · rintro ⟨h, k⟩; exact ⟨_, _, by rw [if_pos h]; rfl, k⟩
end
@[go_sem] theorem plain1_int {k : IntKind} {n : Int} : plain1 (.int k n) = true := (rfl)
@[go_sem] theorem plain1_bool {b : Bool} : plain1 (.bool b) = true := (rfl)
@[go_sem] theorem plain1_str {b : List UInt8} : plain1 (.str b) = true := (rfl)
@[go_sem] theorem plain1_sl {o : Bool} {z : Nat} {xs : List (List V)} : plain1 (.sl o z xs) = true := (rfl)
@[go_sem] theorem plain1_nilh {z : Nat} : plain1 (.nilh z) = true := (rfl)
@[go_sem] theorem elems_cons {sz : Nat} {cs : List V} {vs : List V} (h : cs.all plain1 = true) (hn : cs.length = sz) : elems sz (.agg cs :: vs) = (elems sz vs).map (cs.map inl0 :: ·) := by
  simp only [elems, solid, V.cells, hn, and_self, if_true, inl, h, Option.bind_some]
@[go_sem] theorem elems_str {b : List UInt8} {vs : List V} : elems 1 (.str b :: vs) = (elems 1 vs).map ([.str b] :: ·) := by
  simp [elems, solid, scal0, V.cells, inl, plain1, plain0, inl0, strip0]
attribute [go_sem] elems_int elems_nil Option.map_some Int.toNat_natCast Nat.le_refl Nat.reduceLeDiff
@[go_sem] theorem holeAt_nil {t i : Nat} : holeAt t [] i = none := rfl
@[go_sem] theorem holeAt_cons {t i : Nat} {o : Obj} {l : Heap} : holeAt t (o :: l) i = (holeAt t l (i + 1)).or (cond (isHole t o) (some i) none) := by
  simp only [holeAt]
  cases holeAt t l (i + 1) <;> rfl
@[go_sem] theorem isHole_hole {s t : Nat} : isHole t (.hole s) = (s == t) := by
  show Nat.beq s t = (s == t)
  cases h : Nat.beq s t with
  | true => rw [Nat.eq_of_beq_eq_true h]; simp
  | false => have := Nat.ne_of_beq_eq_false h; simp [this]
@[go_sem] theorem isHole_cell {t v : Nat} {cs : List V} : isHole t (.cells v cs) = false := rfl
@[go_sem] theorem isHole_map {t : Nat} {es : List (V × V)} : isHole t (.map es) = false := rfl
theorem holeAt_app {t : Nat} : ∀ {H L : Heap} {i : Nat}, holeAt t (H ++ L) i = (holeAt t L (i + H.length)).or (holeAt t H i)
  | [], L, i => by simp [holeAt]
  | o :: H, L, i => by
    rw [List.cons_append, holeAt_cons, holeAt_cons, holeAt_app (H := H), Option.or_assoc, List.length_cons]
    congr 2
    omega
attribute [go_sem] Option.some_or Option.none_or Nat.reduceBEq cond_true cond_false List.map_cons List.map_nil
@[go_sem] theorem far_ne {a b : Nat} : (a + 1 ≠ b + 1) = (a ≠ b) := by simp

/-! Arguments: as they stand in lists. -/
def norm0 : V → V
  | .agg cs => .agg (cs.map inl0)
  | v => inl0 v
theorem RepL.inl0 {w : World} {G : Gh} {v : V} {c : Value} {bl : List Nat} (h : RepL w G [v] [c] bl) : RepL w G [Vm.inl0 v] [c] [] := by
  cases v <;> first | exact h.strip0 | skip
  cases h with
  | imm _ _ h _ => cases h
  | nilh _ _ => exact RepL.imm _ _ (.slnil _ .nil) .nil
theorem RepL.inls0 {w : World} {G : Gh} : ∀ {vs : List V} {cs : List Value} {bl : List Nat}, RepL w G vs cs bl → RepL w G (vs.map Vm.inl0) cs []
  | [], cs, bl, h => by obtain ⟨rfl, rfl⟩ := h.nil_inv; exact .nil
  | v :: vs, cs, bl, h => by
    obtain ⟨c, cs, b1, b2, rfl, rfl, h1, h2⟩ := h.cons_inv
    exact RepL.cons h1.inl0 h2.inls0
theorem RepL.norm0 {w : World} {G : Gh} {v : V} {c : Value} {bl : List Nat} (h : RepL w G [v] [c] bl) : RepL w G [Vm.norm0 v] [c] [] := by
  cases v <;> first | exact h.inl0 | skip
  obtain ⟨acs, b, rfl, h1⟩ := h.agg_inv
  exact .agg (b1 := []) (bl := []) h1.inls0 .nil
theorem RepL.norms {w : World} {G : Gh} : ∀ {vs : List V} {cs : List Value} {bl : List Nat}, RepL w G vs cs bl → RepL w G (vs.map Vm.norm0) cs []
  | [], cs, bl, h => by obtain ⟨rfl, rfl⟩ := h.nil_inv; exact .nil
  | v :: vs, cs, bl, h => by
    obtain ⟨c, cs, b1, b2, rfl, rfl, h1, h2⟩ := h.cons_inv
    exact RepL.cons h1.norm0 h2.norms
/-- What is shown of arguments as they stand in lists, holds of them as they are. -/
theorem T.weak {P : Program} {f : Nat} {args : List V} {H : Heap} {r : V} {H' : Heap} (h : T P f (args.map norm0) H r H') : T P f args H r H' :=
  ⟨h.1, fun w G own cs _ hok hr _ _ => h.2 w G own cs [] hok hr.norms List.nodup_nil fun _ hb => by cases hb⟩
theorem T.weak' {P : Program} {f : Nat} {a' args : List V} {H : Heap} {r : V} {H' : Heap} (h : T P f a' H r H') (e : args.map norm0 = a') : T P f args H r H' := T.weak (by rw [e]; exact h)

/-- A loop over a range. -/
theorem WP.range {P : Program} {a : VCode} {E : En} {H : Heap} {K : KK} {n : Nat} (I : Nat → En → Heap → Prop) (h : I 0 E H) (step : ∀ i E H, i ≤ n → I i E H → run P a [] E H (seqW K fun E' H' => i < n ∧ I (i + 1) E' H')) : WP P (.loop a) E H K := by
  refine WP.loop (fun m E H => ∃ i, i + m = n ∧ I i E H) ?_ (n := n) ⟨0, by omega, h⟩
  rintro m E H ⟨i, hi, hI⟩
  refine (wp_sound (step i E H (by omega) hI)).mono ?_
  intro x E' H' k
  cases x with
  | normal =>
    obtain ⟨h1, h2⟩ : i < n ∧ I (i + 1) E' H' := k
    exact ⟨m - 1, by omega, i + 1, by omega, h2⟩
  | exit id => exact k
  | ret => exact k
@[go_sem] theorem nonneg_cast {i : Nat} : (0 ≤ (i : Int)) = True := by simp
end Go.Proofs.YtoaohapbbnpbeaaGreat.Vm
namespace Go.Proofs.YtoaohapbbnpbeaaGreat.Vm
open Go

/-- A cell of the function's own is what it answers. -/
def cellG (x : Option (List V)) (off n : Nat) (R : V → Prop) (H : Heap) : Prop := ∃ cs, x = some cs ∧ off + n ≤ cs.length ∧ fin0 H (.agg ((cs.drop off).take n)) R
def cellE (v : V) (n : Nat) (R : V → Prop) (H : Heap) : Prop := match v with
  | .ptr id ver off => cellG (getCells H id ver) off n R H
  | _ => False
section
variable {R : V → Prop} {l : List (Nat × V)} {d : V} {H : Heap} {t u n : Nat}
@[go_sem] theorem cellG_some {cs : List V} {off : Nat} : cellG (some cs) off n R H = (off + n ≤ cs.length ∧ fin0 H (.agg ((cs.drop off).take n)) R) := by
  apply propext
  constructor
  · rintro ⟨v, h, k⟩; cases h; exact k
  · intro k; exact ⟨cs, rfl, k⟩
@[go_sem] theorem cellE_ptr {id ver off : Nat} : cellE (.ptr id ver off) n R H = cellG (getCells H id ver) off n R H := (rfl)
theorem cellG_iff {id ver off : Nat} : (∃ r0, ((getCells H id ver).bind fun cs => (cut cs off n).bind fun l => mk true (if 0 ≤ id then l else l.map strip0)) = some r0 ∧ ∃ r, fixV 0 H 8 r0 = some r ∧ R r) ↔ cellG (getCells H id ver) off n R H := by
  unfold cellG fin0
  constructor
  · rintro ⟨r0, h, r, h1, h2⟩
    obtain ⟨cs, h3, h⟩ := Option.bind_eq_some_iff.1 h
    obtain ⟨l, h4, h⟩ := Option.bind_eq_some_iff.1 h
    rw [if_pos (Nat.zero_le _)] at h
    cases h
    unfold cut at h4
    split at h4
    · cases h4
      exact ⟨cs, h3, by assumption, r, h1, h2⟩
    · cases h4
  · rintro ⟨cs, h3, hl, r, h1, h2⟩
    refine ⟨.agg ((cs.drop off).take n), ?_, r, h1, h2⟩
    rw [h3]
    simp [cut, hl, mk]
@[go_sem] theorem end0_cell : end0 [.cell t n true] R .ret ⟨l, d⟩ H = cellE (getE l d t) n R H := by
  have e : (En.f ⟨l, d⟩) t = getE l d t := rfl
  unfold end0 cellE resV
  simp only [e]
  generalize getE l d t = v
  cases v <;> first | (rename_i id ver off; simp only [true_and, cellG_iff]; done) | simp
@[go_sem] theorem end0_cellN : end0 [.cell t n true] R .normal ⟨l, d⟩ H = cellE (getE l d t) n R H := by
  have e : (En.f ⟨l, d⟩) t = getE l d t := rfl
  unfold end0 cellE resV
  simp only [e]
  generalize getE l d t = v
  cases v <;> first | (rename_i id ver off; simp only [true_and, cellG_iff]; done) | simp
/-- What stays as it is when it is answered. -/
def fixP : V → Bool
  | .int .. | .bool _ | .str _ | .nilp | .cptr _ | .sl .. | .nilh _ | .nilmap | .nilfn => true
  | _ => false
theorem fixP_eq {v : V} (h : fixP v = true) (m : Nat) (H : Heap) (d : Nat) : fixV m H (d + 1) v = some v := by
  cases v <;> first | rfl | cases h
theorem fixP_list {m : Nat} {H : Heap} {d : Nat} : ∀ {cs : List V}, cs.all fixP = true → cs.mapM (fixV m H (d + 1)) = some cs
  | [], _ => rfl
  | c :: cs, h => by
    simp only [List.all_cons, Bool.and_eq_true] at h
    rw [List.mapM_cons, fixP_eq h.1, fixP_list h.2]; rfl
@[go_sem] theorem fixP_int {k : IntKind} {n : Int} : fixP (.int k n) = true := (rfl)
@[go_sem] theorem fixP_bool {b : Bool} : fixP (.bool b) = true := (rfl)
@[go_sem] theorem fixP_str {b : List UInt8} : fixP (.str b) = true := (rfl)
@[go_sem] theorem fixP_sl {o : Bool} {z : Nat} {xs : List (List V)} : fixP (.sl o z xs) = true := (rfl)
@[go_sem] theorem fixP_nilh {z : Nat} : fixP (.nilh z) = true := (rfl)
@[go_sem] theorem fin0_agg {cs : List V} (h : cs.all fixP = true) : fin0 H (.agg cs) R = R (.agg cs) := by
  unfold fin0
  have : fixV 0 H 8 (.agg cs) = some (.agg cs) := by simp only [fixV, fixP_list h]; rfl
  rw [this]; simp
theorem plainC_fix {cs : List V} (h : cs.all plain1 = true) : cs.all fixP = true := by
  rw [List.all_eq_true] at h ⊢
  intro v hv
  have := h v hv
  cases v <;> first | rfl | cases this
theorem inl_id {cs : List V} (h : cs.all plain1 = true) (h2 : cs.map inl0 = cs) : inl cs = some cs := by unfold inl; rw [if_pos h, h2]
theorem chunks_of {sz : Nat} : ∀ {xs : List (List V)}, (∀ x ∈ xs, x.length = sz) → chunks sz xs.length xs.flatten = xs
  | [], _ => rfl
  | x :: xs, h => by
    have hx := h x (List.mem_cons_self ..)
    rw [List.length_cons, List.flatten_cons, chunks, ← hx, List.take_left, List.drop_left, hx, chunks_of fun y hy => h y (List.mem_cons_of_mem _ hy)]
/-- An object's list that is answered. -/
theorem fix_rows {m : Nat} {H : Heap} {d id ver sz : Nat} {xs : List (List V)} (hid : m ≤ id) (hg : getCells H id ver = some xs.flatten) (hz : ∀ x ∈ xs, x.length = sz) (hp : xs.flatten.all plain1 = true) (hi : xs.flatten.map inl0 = xs.flatten) :
    fixV m H (d + 2) (.hsl id ver 0 xs.length sz) = some (.sl false sz xs) := by
  have hl : xs.flatten.length = xs.length * sz := flat_len hz
  simp only [fixV]
  rw [if_neg (by omega), hg, Option.bind_some]
  have hc : cut xs.flatten 0 (xs.length * sz) = some xs.flatten := by
    unfold cut
    rw [if_pos (by omega), List.drop_zero, List.take_of_length_le (by omega)]
  rw [hc, Option.bind_some, fixP_list (plainC_fix hp), Option.bind_some, inl_id hp hi, Option.map_some, chunks_of hz]
end
end Go.Proofs.YtoaohapbbnpbeaaGreat.Vm
namespace Go.Proofs.YtoaohapbbnpbeaaGreat.Vm
open Go

abbrev Str := List UInt8
inductive Ty where
  | mk (k n : Int) (s : Str) (xs : List Ty)
inductive Pa where
  | mk (k : Int) (s : Str) (n : Int) (xs : List Pa) (l c : Int)
mutual
inductive Ex where
  | mk (k : Int) (s : Str) (n : Int) (ps : List Str) (xs : List Ex) (al : List Al) (bs : List Bi) (l c : Int)
inductive Al where
  | mk (p : Pa) (rs : List Rh)
inductive Rh where
  | mk (g : List Ex) (b : Ex)
inductive Cl where
  | mk (ps : List Pa) (rs : List Rh)
inductive Bi where
  | mk (s : Str) (cs : List Cl) (l c : Int)
end

def tyC : Ty → List V
  | .mk k n s xs => [.int .i64 k, .int .i64 n, .str s, .sl false 4 (xs.map tyC)]
def paC : Pa → List V
  | .mk k s n xs l c => [.int .i64 k, .str s, .int .i64 n, .sl false 6 (xs.map paC), .int .i64 l, .int .i64 c]
def stC (s : Str) : List V := [.str s]
mutual
def exC : Ex → List V
  | .mk k s n ps xs al bs l c => [.int .i64 k, .str s, .int .i64 n, .sl false 1 (ps.map stC), .sl false 9 (xs.map exC), .sl false 7 (al.map alC), .sl false 4 (bs.map biC), .int .i64 l, .int .i64 c]
def alC : Al → List V
  | .mk p rs => paC p ++ [.sl false 10 (rs.map rhC)]
def rhC : Rh → List V
  | .mk g b => .sl false 9 (g.map exC) :: exC b
def clC : Cl → List V
  | .mk ps rs => [.sl false 6 (ps.map paC), .sl false 10 (rs.map rhC)]
def biC : Bi → List V
  | .mk s cs l c => [.str s, .sl false 2 (cs.map clC), .int .i64 l, .int .i64 c]
end
theorem exC_eq (k : Int) (s : Str) (n : Int) (ps : List Str) (xs : List Ex) (al : List Al) (bs : List Bi) (l c : Int) : exC (.mk k s n ps xs al bs l c) =
  [.int .i64 k, .str s, .int .i64 n, .sl false 1 (ps.map stC), .sl false 9 (xs.map exC), .sl false 7 (al.map alC), .sl false 4 (bs.map biC), .int .i64 l, .int .i64 c] := by rw [exC]
end Go.Proofs.YtoaohapbbnpbeaaGreat.Vm
