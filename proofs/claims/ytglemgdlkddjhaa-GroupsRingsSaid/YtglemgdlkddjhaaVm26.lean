/-
The value machine, part 26: code without loops, at one go.
-/
import Derived.Test.YtglemgdlkddjhaaVm25
namespace Go.Proofs.Ytglemgdlkddjhaa.Vm
open Go

@[go_sem] theorem getE_cons (j : Nat) (v : V) (l : List (Nat × V)) (d : V) (i : Nat) : getE ((j, v) :: l) d i = if j = i then v else getE l d i := by
  simp only [getE]
  by_cases h : j = i
  · subst h; simp
  · have h1 : Nat.beq j i = false := by cases hb : Nat.beq j i with
      | false => rfl
      | true => exact absurd (Nat.eq_of_beq_eq_true hb) h
    simp [h1, h]
@[go_sem] theorem getE_nil (d : V) (i : Nat) : getE [] d i = d := rfl

def condW (v : V) (A B : Prop) : Prop := match v with
  | .bool y => (y = true → A) ∧ (y = false → B)
  | _ => False
def valA (E : En) : Opnd → V
  | .t i => getE E.l E.d i
  | .c v => v
def guardW (v : V) (b : Bool) (A B : Prop) : Prop := match v with
  | .bool c => (c = b → A) ∧ (c ≠ b → B)
  | .tup _ => B
  | _ => False

abbrev KK := X → En → Heap → Prop
def seqW (K : KK) (N : En → Heap → Prop) : KK
  | .normal, E, H => N E H
  | .exit id, E, H => K (.exit id) E H
  | .ret, E, H => K .ret E H

/-- What must hold ahead of code; a loop is left as it is. -/
def wp (P : Program) : VCode → En → Heap → KK → Prop
  | .skip, E, H, K => K .normal E H
  | .label, E, H, K => K .normal E H
  | .exit id, E, H, K => K (.exit id) E H
  | .ret, E, H, K => K .ret E H
  | .region ops keep, E, H, K => opsW P ops E H fun E' H' => K .normal (keepS E' keep) H'
  | .seq a b, E, H, K => wp P a E H (seqW K fun E' H' => wp P b E' H' K)
  | .cond c a b, E, H, K => condW (valA E c) (wp P a E H K) (wp P b E H K)
  | .block id a, E, H, K => wp P a E H fun x E' H' => K (unblock id x) E' H'
  | .loop a, E, H, K => WP P (.loop a) E H K
  | .scope a, E, H, K => wp P a E H K

theorem condW_sound {P : Program} {a b : VCode} {E : En} {H : Heap} {K : KK} {c : Opnd} (h : condW (valA E c) (WP P a E H K) (WP P b E H K)) : WP P (.cond c a b) E H K := by
  unfold condW at h
  split at h
  · rename_i y hy
    refine .cond y ?_ h.1 h.2
    cases c with
    | c v => exact hy
    | t i => simp only [valA] at hy; simp [evalA, En.f, hy, strip, strip0]
  · exact h.elim
theorem condW_mono {v : V} {A B A' B' : Prop} (h : condW v A B) (ha : A → A') (hb : B → B') : condW v A' B' := by
  unfold condW at h ⊢
  split at h
  · exact ⟨fun e => ha (h.1 e), fun e => hb (h.2 e)⟩
  · exact h.elim

theorem wp_sound {P : Program} : ∀ {vc : VCode} {E : En} {H : Heap} {K : KK}, wp P vc E H K → WP P vc E H K
  | .skip, _, _, _, h => .skip h
  | .label, _, _, _, h => .label h
  | .exit _, _, _, _, h => .exit h
  | .ret, _, _, _, h => .ret h
  | .region _ _, _, _, _, h => .region h
  | .seq a b, E, H, K, h => by
    have h' : wp P a E H (seqW K fun E' H' => wp P b E' H' K) := h
    refine .seq ((wp_sound h').mono ?_)
    intro x E' H' k
    cases x with
    | normal => exact wp_sound k
    | exit id => exact k
    | ret => exact k
  | .cond c a b, E, H, K, h => condW_sound (condW_mono (show condW (valA E c) (wp P a E H K) (wp P b E H K) from h) (fun h => wp_sound h) (fun h => wp_sound h))
  | .block id a, E, H, K, h => by
    have h' : wp P a E H (fun x E' H' => K (unblock id x) E' H') := h
    exact .block (wp_sound h')
  | .loop a, _, _, _, h => h
  | .scope a, E, H, K, h => by
    have h' : wp P a E H K := h
    exact .scope (wp_sound h')

/-- What comes behind. -/
inductive Fr where
  | code (c : VCode)
  | blk (id : Nat)
def goes (P : Program) (K : KK) : List Fr → KK
  | [], x, E, H => K x E H
  | .code c :: s, .normal, E, H => wp P c E H (goes P K s)
  | .code _ :: s, .exit id, E, H => goes P K s (.exit id) E H
  | .code _ :: s, .ret, E, H => goes P K s .ret E H
  | .blk id :: s, x, E, H => goes P K s (unblock id x) E H
def run (P : Program) (c : VCode) (s : List Fr) (E : En) (H : Heap) (K : KK) : Prop := wp P c E H (goes P K s)
def runOps (P : Program) (os : List VOp) (keep : List Nat) (s : List Fr) (E : En) (H : Heap) (K : KK) : Prop := opsW P os E H fun E' H' => goes P K s .normal (keepS E' keep) H'
/-- One operation. -/
def runAct (P : Program) (a : Act) (vs : List V) (tk : List Nat) (dst : Option Nat) (os : List VOp) (keep : List Nat) (s : List Fr) (E : En) (H : Heap) (K : KK) : Prop := match a with
  | .call b => (match vs with
    | .fn f caps :: rest => ∃ r H', T P f (rest ++ caps) H r H' ∧ (b = true → H' = H) ∧ runOps P os keep s ((stripEn tk E).setO dst r) H' K
    | _ => False)
  | a => actW a vs H fun r H' => runOps P os keep s ((stripEn tk E).setO dst r) H' K
def runInt (P : Program) (op : BinOp) (k : IntKind) (a b : Int) (tk : List Nat) (dst : Option Nat) (os : List VOp) (keep : List Nat) (s : List Fr) (E : En) (H : Heap) (K : KK) : Prop :=
  intW op k a b fun v => runOps P os keep s ((stripEn tk E).setO dst v) H K

section
variable {P : Program} {K : KK} {s : List Fr} {E : En} {H : Heap} {tk : List Nat} {dst : Option Nat} {os : List VOp} {keep : List Nat}

theorem wp_run {c : VCode} : wp P c E H K = run P c [] E H K := rfl
@[go_sem] theorem goes_nil {x : X} : goes P K [] x E H = K x E H := (rfl)
@[go_sem] theorem goes_code {c : VCode} : goes P K (.code c :: s) .normal E H = run P c s E H K := (rfl)
@[go_sem] theorem goes_exit {c : VCode} {id : Nat} : goes P K (.code c :: s) (.exit id) E H = goes P K s (.exit id) E H := (rfl)
@[go_sem] theorem goes_ret {c : VCode} : goes P K (.code c :: s) .ret E H = goes P K s .ret E H := (rfl)
@[go_sem] theorem goes_blk {id : Nat} {x : X} : goes P K (.blk id :: s) x E H = goes P K s (unblock id x) E H := (rfl)
@[go_sem] theorem unblock_exit {id id' : Nat} : unblock id (.exit id') = if id' = id then .normal else .exit id' := rfl
@[go_sem] theorem unblock_ret {id : Nat} : unblock id .ret = .ret := rfl
@[go_sem] theorem unblock_normal {id : Nat} : unblock id .normal = .normal := rfl
@[go_sem] theorem run_skip : run P .skip s E H K = goes P K s .normal E H := (rfl)
@[go_sem] theorem run_label : run P .label s E H K = goes P K s .normal E H := (rfl)
@[go_sem] theorem run_exit {id : Nat} : run P (.exit id) s E H K = goes P K s (.exit id) E H := (rfl)
@[go_sem] theorem run_ret : run P .ret s E H K = goes P K s .ret E H := (rfl)
@[go_sem] theorem run_region {ops : List VOp} : run P (.region ops keep) s E H K = runOps P ops keep s E H K := (rfl)
@[go_sem] theorem run_seq {a b : VCode} : run P (.seq a b) s E H K = run P a (.code b :: s) E H K := by
  show wp P a E H _ = wp P a E H _
  congr 1
  funext x E H
  cases x <;> rfl
def condD (P : Program) (v : V) (a b : VCode) (s : List Fr) (E : En) (H : Heap) (K : KK) : Prop := condW v (run P a s E H K) (run P b s E H K)
@[go_sem] theorem run_cond {c : Opnd} {a b : VCode} : run P (.cond c a b) s E H K = condD P (valA E c) a b s E H K := (rfl)
@[go_sem] theorem run_block {id : Nat} {a : VCode} : run P (.block id a) s E H K = run P a (.blk id :: s) E H K := (rfl)
@[go_sem] theorem run_scope {a : VCode} : run P (.scope a) s E H K = run P a s E H K := (rfl)
@[go_sem] theorem run_loop {a : VCode} : run P (.loop a) s E H K = WP P (.loop a) E H (goes P K s) := (rfl)
@[go_sem] theorem valA_t {l : List (Nat × V)} {d : V} {i : Nat} : valA ⟨l, d⟩ (.t i) = getE l d i := rfl
@[go_sem] theorem valA_c {v : V} : valA E (.c v) = v := rfl
theorem iteP {c : Prop} [Decidable c] {A B : Prop} : (if c then A else B) = ((c → A) ∧ (¬c → B)) := by
  by_cases h : c <;> simp [h]
@[go_sem] theorem condD_bool {y : Bool} {a b : VCode} : condD P (.bool y) a b s E H K = if y = true then run P a s E H K else run P b s E H K := by
  unfold condD condW
  rw [iteP]
  cases y <;> simp

@[go_sem] theorem ops_nil {l : List (Nat × V)} {d : V} : runOps P [] keep s ⟨l, d⟩ H K = goes P K s .normal (keepS ⟨l, d⟩ keep) H := (rfl)
@[go_sem] theorem keepS_eq {l : List (Nat × V)} {d : V} {ks : List Nat} : keepS ⟨l, d⟩ ks = ⟨ks.map fun i => (i, getE l d i), .u⟩ := rfl
@[go_sem] theorem ops_cons {act : Act} {args : List Opnd} : runOps P (⟨dst, act, args, tk, none⟩ :: os) keep s E H K = runAct P act (argsW E tk args) tk dst os keep s E H K := by
  unfold runOps runAct; rw [opsW]; unfold stepW; simp only [wantedW]
  cases act <;> first | rfl | skip
theorem ops_guard0 {act : Act} {args : List Opnd} {g : Nat} {b : Bool} : runOps P (⟨dst, act, args, tk, some (g, b)⟩ :: os) keep s E H K =
    guardW (getE E.l E.d g) b (runAct P act (argsW E tk args) tk dst os keep s E H K) (runOps P os keep s (E.setO dst (.tup [])) H K) := by
  unfold runOps runAct; rw [opsW]; unfold stepW guardW; simp only [wantedW]
  cases getE E.l E.d g <;> cases act <;> first | rfl | skip
theorem args_congr {E2 : En} (h : E.f = E2.f) : ∀ l : List Opnd, argsW E tk l = argsW E2 tk l := by
  intro l; rw [argsW_eq, argsW_eq, h]
theorem set_congr {E2 : En} (h : E.f = E2.f) (o : Option Nat) (v : V) : (E.setO o v).f = (E2.setO o v).f := by rw [En.setO_f, En.setO_f, h]
theorem strip_congr {E2 : En} (h : E.f = E2.f) (tk : List Nat) : (stripEn tk E).f = (stripEn tk E2).f := by rw [stripEn_f, stripEn_f, h]
theorem opsW_congr {K1 K2 : En → Heap → Prop} (hk : ∀ (E1 E2 : En) H, E1.f = E2.f → K1 E1 H = K2 E2 H) : ∀ (os : List VOp) (E1 E2 : En) (H : Heap), E1.f = E2.f → opsW P os E1 H K1 = opsW P os E2 H K2
  | [], E1, E2, H, h => hk E1 E2 H h
  | o :: os, E1, E2, H, h => by
    have ih := opsW_congr hk os
    have hg : ∀ i, getE E1.l E1.d i = getE E2.l E2.d i := fun i => congrFun h i
    show stepW P o E1 H _ = stepW P o E2 H _
    have hf : opsW P os (E1.setO o.dst (.tup [])) H K1 = opsW P os (E2.setO o.dst (.tup [])) H K2 := ih _ _ _ (set_congr h _ _)
    have hr : ∀ (r : V) (H' : Heap), opsW P os ((stripEn o.take E1).setO o.dst r) H' K1 = opsW P os ((stripEn o.take E2).setO o.dst r) H' K2 := fun r H' => ih _ _ _ (set_congr (strip_congr h _) _ _)
    unfold stepW wantedW
    simp only [hg, args_congr h, hf, hr]
theorem runOps_congr {E2 : En} (h : E.f = E2.f) : runOps P os keep s E H K = runOps P os keep s E2 H K := by
  unfold runOps
  refine opsW_congr (fun E1 E2 H h => ?_) _ _ _ _ h
  have : keepS E1 keep = keepS E2 keep := by
    unfold keepS
    congr 1
    apply List.map_congr_left
    intro i _
    rw [show getE E1.l E1.d i = getE E2.l E2.d i from congrFun h i]
  rw [this]
theorem runAct_congr {a : Act} {vs : List V} {E2 : En} (h : E.f = E2.f) : runAct P a vs tk dst os keep s E H K = runAct P a vs tk dst os keep s E2 H K := by
  have hr : ∀ (r : V) (H' : Heap), runOps P os keep s ((stripEn tk E).setO dst r) H' K = runOps P os keep s ((stripEn tk E2).setO dst r) H' K := fun r H' => runOps_congr (set_congr (strip_congr h _) _ _)
  unfold runAct
  simp only [hr]
def guardE (v : V) (b : Bool) (A B C : Prop) : Prop := match v with
  | .bool c => (c = b → A) ∧ (c = (!b) → B)
  | .tup _ => C
  | _ => False
theorem ops_guard1 {l : List (Nat × V)} {d : V} {act : Act} {args : List Opnd} {g : Nat} {b : Bool} : runOps P (⟨dst, act, args, tk, some (g, b)⟩ :: os) keep s ⟨l, d⟩ H K =
    guardE (getE l d g) b (runAct P act (argsW ⟨(g, .bool b) :: l, d⟩ tk args) tk dst os keep s ⟨(g, .bool b) :: l, d⟩ H K)
      (runOps P os keep s (En.setO ⟨(g, .bool !b) :: l, d⟩ dst (.tup [])) H K) (runOps P os keep s (En.setO ⟨l, d⟩ dst (.tup [])) H K) := by
  rw [ops_guard0]
  unfold guardW guardE
  cases hg : getE l d g with
  | bool c =>
    have hext : ∀ c', c = c' → (⟨(g, .bool c') :: l, d⟩ : En).f = (⟨l, d⟩ : En).f := by
      rintro c' rfl
      funext i
      show getE ((g, V.bool c) :: l) d i = getE l d i
      rw [getE_cons]
      split
      · rename_i h; subst h; exact hg.symm
      · rfl
    simp only [hg]
    have e1 : (c = b → runAct P act (argsW ⟨l, d⟩ tk args) tk dst os keep s ⟨l, d⟩ H K) = (c = b → runAct P act (argsW ⟨(g, .bool b) :: l, d⟩ tk args) tk dst os keep s ⟨(g, .bool b) :: l, d⟩ H K) := by
      apply propext
      refine forall_congr' fun h => ?_
      rw [args_congr (hext b h), runAct_congr (hext b h)]
    have e2 : (c ≠ b → runOps P os keep s (En.setO ⟨l, d⟩ dst (.tup [])) H K) = (c = (!b) → runOps P os keep s (En.setO ⟨(g, .bool !b) :: l, d⟩ dst (.tup [])) H K) := by
      have : (c ≠ b) = (c = (!b)) := by cases c <;> cases b <;> simp
      rw [this]
      apply propext
      refine forall_congr' fun h => ?_
      rw [runOps_congr (set_congr (hext _ h) _ _)]
    rw [e1, e2]
  | _ => simp only [hg]
def guardD (P : Program) (v : V) (g : Nat) (b : Bool) (act : Act) (args : List Opnd) (tk : List Nat) (dst : Option Nat) (os : List VOp) (keep : List Nat) (s : List Fr) (l : List (Nat × V)) (d : V) (H : Heap) (K : KK) : Prop :=
  guardE v b (runAct P act (argsW ⟨(g, .bool b) :: l, d⟩ tk args) tk dst os keep s ⟨(g, .bool b) :: l, d⟩ H K)
      (runOps P os keep s (En.setO ⟨(g, .bool !b) :: l, d⟩ dst (.tup [])) H K) (runOps P os keep s (En.setO ⟨l, d⟩ dst (.tup [])) H K)
@[go_sem] theorem ops_guard {l : List (Nat × V)} {d : V} {act : Act} {args : List Opnd} {g : Nat} {b : Bool} : runOps P (⟨dst, act, args, tk, some (g, b)⟩ :: os) keep s ⟨l, d⟩ H K =
    guardD P (getE l d g) g b act args tk dst os keep s l d H K := ops_guard1
@[go_sem] theorem guardD_bool {c : Bool} {l : List (Nat × V)} {d : V} {act : Act} {args : List Opnd} {g : Nat} {b : Bool} : guardD P (.bool c) g b act args tk dst os keep s l d H K =
    if c = b then runAct P act (argsW ⟨(g, .bool b) :: l, d⟩ tk args) tk dst os keep s ⟨(g, .bool b) :: l, d⟩ H K else runOps P os keep s (En.setO ⟨(g, .bool !b) :: l, d⟩ dst (.tup [])) H K := by
  rw [iteP]
  unfold guardD guardE
  cases c <;> cases b <;> simp
@[go_sem] theorem guardD_tup {w : List V} {l : List (Nat × V)} {d : V} {act : Act} {args : List Opnd} {g : Nat} {b : Bool} : guardD P (.tup w) g b act args tk dst os keep s l d H K =
    runOps P os keep s (En.setO ⟨l, d⟩ dst (.tup [])) H K := (rfl)
@[go_sem] theorem args_nil : argsW E tk [] = [] := rfl
@[go_sem] theorem args_c {v : V} {l : List Opnd} : argsW E tk (.c v :: l) = v :: argsW E tk l := rfl
@[go_sem] theorem args_t {l : List (Nat × V)} {d : V} {i : Nat} {av : List Opnd} : argsW ⟨l, d⟩ tk (.t i :: av) = (if tk.contains i then getE l d i else strip (getE l d i)) :: argsW ⟨l, d⟩ tk av := rfl
@[go_sem] theorem set_some {l : List (Nat × V)} {d : V} {i : Nat} {v : V} : En.setO ⟨l, d⟩ (some i) v = ⟨(i, v) :: l, d⟩ := rfl
@[go_sem] theorem set_none {v : V} : En.setO E none v = E := rfl
@[go_sem] theorem stripEn_nil : stripEn [] E = E := rfl
@[go_sem] theorem stripEn_cons {l : List (Nat × V)} {d : V} {i : Nat} {is : List Nat} : stripEn (i :: is) ⟨l, d⟩ = stripEn is ⟨(i, strip (getE l d i)) :: l, d⟩ := rfl
@[go_sem] theorem strip_int {k : IntKind} {n : Int} : strip (.int k n) = .int k n := rfl
@[go_sem] theorem strip_bool {b : Bool} : strip (.bool b) = .bool b := rfl
@[go_sem] theorem strip_str {b : List UInt8} : strip (.str b) = .str b := rfl
@[go_sem] theorem strip_sl {o : Bool} {z : Nat} {xs : List (List V)} : strip (.sl o z xs) = .sl false z xs := rfl
@[go_sem] theorem strip_ptr {a b c : Nat} : strip (.ptr a b c) = .ptr a b c := rfl
@[go_sem] theorem strip_cptr {cs : List V} : strip (.cptr cs) = .cptr cs := rfl
@[go_sem] theorem strip_hsl {a b c d e : Nat} : strip (.hsl a b c d e) = .hsl a b c d e := rfl
@[go_sem] theorem strip_nilh {z : Nat} : strip (.nilh z) = .nilh z := rfl
@[go_sem] theorem strip_nilp : strip .nilp = .nilp := rfl
@[go_sem] theorem strip_u : strip .u = .u := rfl
@[go_sem] theorem strip_fr {z : Nat} {xs : List (List V)} : strip (.fr z xs) = .u := rfl
@[go_sem] theorem strip_fn {f : Nat} {cs : List V} : strip (.fn f cs) = .fn f cs := rfl
@[go_sem] theorem strip_agg {cs : List V} : strip (.agg cs) = .agg (cs.map strip0) := rfl
@[go_sem] theorem strip_tup {cs : List V} : strip (.tup cs) = .tup (cs.map stripA) := rfl
@[go_sem] theorem stripA_agg {cs : List V} : stripA (.agg cs) = .agg (cs.map strip0) := rfl
@[go_sem] theorem stripA_int {k : IntKind} {n : Int} : stripA (.int k n) = .int k n := rfl
@[go_sem] theorem stripA_bool {b : Bool} : stripA (.bool b) = .bool b := rfl
@[go_sem] theorem stripA_str {b : List UInt8} : stripA (.str b) = .str b := rfl
@[go_sem] theorem stripA_sl {o : Bool} {z : Nat} {xs : List (List V)} : stripA (.sl o z xs) = .sl false z xs := rfl
@[go_sem] theorem strip0_int {k : IntKind} {n : Int} : strip0 (.int k n) = .int k n := rfl
@[go_sem] theorem strip0_bool {b : Bool} : strip0 (.bool b) = .bool b := rfl
@[go_sem] theorem strip0_str {b : List UInt8} : strip0 (.str b) = .str b := rfl
@[go_sem] theorem strip0_sl {o : Bool} {z : Nat} {xs : List (List V)} : strip0 (.sl o z xs) = .sl false z xs := rfl
@[go_sem] theorem strip0_hsl {a b c d e : Nat} : strip0 (.hsl a b c d e) = .hsl a b c d e := rfl
@[go_sem] theorem strip0_ptr {a b c : Nat} : strip0 (.ptr a b c) = .ptr a b c := rfl
@[go_sem] theorem strip0_nilh {z : Nat} : strip0 (.nilh z) = .nilh z := rfl
@[go_sem] theorem strip0_nilp : strip0 .nilp = .nilp := rfl

@[go_sem] theorem run_call {b : Bool} {f : Nat} {caps rest : List V} : runAct P (.call b) (.fn f caps :: rest) tk dst os keep s E H K =
    ∃ r H', T P f (rest ++ caps) H r H' ∧ (b = true → H' = H) ∧ runOps P os keep s ((stripEn tk E).setO dst r) H' K := (rfl)
@[go_sem] theorem run_mv {v : V} : runAct P .mv [v] tk dst os keep s E H K = runOps P os keep s ((stripEn tk E).setO dst v) H K := (rfl)
@[go_sem] theorem run_pick {c : Bool} {x y : V} : runAct P .pick [.bool c, x, y] tk dst os keep s E H K = if c = true then runOps P os keep s ((stripEn tk E).setO dst x) H K else runOps P os keep s ((stripEn tk E).setO dst y) H K := by
  rw [iteP]
  show ((c = true → _) ∧ (c = false → _)) = _
  cases c <;> simp
@[go_sem] theorem run_bin {op : BinOp} {j k : IntKind} {a b : Int} : runAct P (.bin op) [.int j a, .int k b] tk dst os keep s E H K = (j = k ∧ runInt P op j a b tk dst os keep s E H K) := (rfl)
@[go_sem] theorem run_add {k : IntKind} {a b : Int} : runInt P .add k a b tk dst os keep s E H K = ∃ z, z = k.wrap (a + b) ∧ runOps P os keep s ((stripEn tk E).setO dst (.int k z)) H K := (rfl)
@[go_sem] theorem run_sub {k : IntKind} {a b : Int} : runInt P .sub k a b tk dst os keep s E H K = ∃ z, z = k.wrap (a - b) ∧ runOps P os keep s ((stripEn tk E).setO dst (.int k z)) H K := (rfl)
@[go_sem] theorem run_mul {k : IntKind} {a b : Int} : runInt P .mul k a b tk dst os keep s E H K = ∃ z, z = k.wrap (a * b) ∧ runOps P os keep s ((stripEn tk E).setO dst (.int k z)) H K := (rfl)
@[go_sem] theorem run_quo {k : IntKind} {a b : Int} : runInt P .quo k a b tk dst os keep s E H K = (b ≠ 0 ∧ ∃ z, z = k.wrap (a.tdiv b) ∧ runOps P os keep s ((stripEn tk E).setO dst (.int k z)) H K) := (rfl)
@[go_sem] theorem run_rem {k : IntKind} {a b : Int} : runInt P .rem k a b tk dst os keep s E H K = (b ≠ 0 ∧ ∃ z, z = k.wrap (a.tmod b) ∧ z = a.tmod b ∧ runOps P os keep s ((stripEn tk E).setO dst (.int k z)) H K) := (rfl)
@[go_sem] theorem run_eql {k : IntKind} {a b : Int} : runInt P .eql k a b tk dst os keep s E H K = runOps P os keep s ((stripEn tk E).setO dst (.bool (a == b))) H K := (rfl)
@[go_sem] theorem run_neq {k : IntKind} {a b : Int} : runInt P .neq k a b tk dst os keep s E H K = runOps P os keep s ((stripEn tk E).setO dst (.bool (a != b))) H K := (rfl)
@[go_sem] theorem run_lss {k : IntKind} {a b : Int} : runInt P .lss k a b tk dst os keep s E H K = runOps P os keep s ((stripEn tk E).setO dst (.bool (decide (a < b)))) H K := (rfl)
@[go_sem] theorem run_leq {k : IntKind} {a b : Int} : runInt P .leq k a b tk dst os keep s E H K = runOps P os keep s ((stripEn tk E).setO dst (.bool (decide (a ≤ b)))) H K := (rfl)
@[go_sem] theorem run_gtr {k : IntKind} {a b : Int} : runInt P .gtr k a b tk dst os keep s E H K = runOps P os keep s ((stripEn tk E).setO dst (.bool (decide (a > b)))) H K := (rfl)
@[go_sem] theorem run_geq {k : IntKind} {a b : Int} : runInt P .geq k a b tk dst os keep s E H K = runOps P os keep s ((stripEn tk E).setO dst (.bool (decide (a ≥ b)))) H K := (rfl)
@[go_sem] theorem run_not {b : Bool} : runAct P .not [.bool b] tk dst os keep s E H K = runOps P os keep s ((stripEn tk E).setO dst (.bool !b)) H K := (rfl)
@[go_sem] theorem run_eqb {ne agg : Bool} {ks : List K3} {x y : V} : runAct P (.eqc ne agg ks) [x, y] tk dst os keep s E H K = ∃ b, eqV ks agg x y = some b ∧ runOps P os keep s ((stripEn tk E).setO dst (.bool (b != ne))) H K := (rfl)
@[go_sem] theorem eqV_b {x y : Bool} : eqV [.b] false (.bool x) (.bool y) = some ((x == y) && true) := rfl
theorem run_alloc {zs : List V} : runAct P (.alloc zs) [] tk dst os keep s E H K = runOps P os keep s ((stripEn tk E).setO dst (.ptr H.length 0 0)) (H ++ [.cells 0 zs]) K := (rfl)
theorem run_load {id ver off n : Nat} {agg : Bool} : runAct P (.load n agg) [.ptr id ver off] tk dst os keep s E H K =
    cellsW H id ver off n fun _ l => mkW agg (l.map strip0) fun v => runOps P os keep s ((stripEn tk E).setO dst v) H K := (rfl)
@[go_sem] theorem run_loadc1 {v : V} : runAct P (.load 1 false) [.cptr [v]] tk dst os keep s E H K = runOps P os keep s ((stripEn tk E).setO dst v) H K := by
  show (1 ≤ [v].length ∧ _) = _
  simp [mkW]
@[go_sem] theorem run_loadc {n : Nat} {cs : List V} : runAct P (.load n true) [.cptr cs] tk dst os keep s E H K = (n ≤ cs.length ∧ runOps P os keep s ((stripEn tk E).setO dst (.agg (cs.take n))) H K) := (rfl)
@[go_sem] theorem run_nilCheck {a b c : Nat} : runAct P .nilCheck [.ptr a b c] tk dst os keep s E H K = runOps P os keep s ((stripEn tk E).setO dst (.ptr a b c)) H K := (rfl)
@[go_sem] theorem run_fieldAddr {off a b c : Nat} : runAct P (.fieldAddr off) [.ptr a b c] tk dst os keep s E H K = runOps P os keep s ((stripEn tk E).setO dst (.ptr a b (c + off))) H K := (rfl)
@[go_sem] theorem run_fieldAddrc {off : Nat} {cs : List V} : runAct P (.fieldAddr off) [.cptr cs] tk dst os keep s E H K = runOps P os keep s ((stripEn tk E).setO dst (.cptr (cs.drop off))) H K := (rfl)
@[go_sem] theorem run_index {o : Bool} {z sz : Nat} {xs : List (List V)} {k : IntKind} {i : Int} : runAct P (.indexAddr sz) [.sl o z xs, .int k i] tk dst os keep s E H K =
    (z = sz ∧ 0 ≤ i ∧ ∃ x, xs[i.toNat]? = some x ∧ runOps P os keep s ((stripEn tk E).setO dst (.cptr x)) H K) := (rfl)
@[go_sem] theorem run_indexh {a b c ln z sz : Nat} {k : IntKind} {i : Int} : runAct P (.indexAddr sz) [.hsl a b c ln z, .int k i] tk dst os keep s E H K =
    (z = sz ∧ 0 ≤ i ∧ i < ln ∧ runOps P os keep s ((stripEn tk E).setO dst (.ptr a b (c + i.toNat * sz))) H K) := (rfl)
@[go_sem] theorem run_len {o : Bool} {z : Nat} {xs : List (List V)} : runAct P .len [.sl o z xs] tk dst os keep s E H K = runOps P os keep s ((stripEn tk E).setO dst (.int .i64 xs.length)) H K := (rfl)
@[go_sem] theorem run_lenh {a b c ln z : Nat} : runAct P .len [.hsl a b c ln z] tk dst os keep s E H K = runOps P os keep s ((stripEn tk E).setO dst (.int .i64 ln)) H K := (rfl)
@[go_sem] theorem run_lenn {z : Nat} : runAct P .len [.nilh z] tk dst os keep s E H K = runOps P os keep s ((stripEn tk E).setO dst (.int .i64 0)) H K := (rfl)
@[go_sem] theorem run_append {z z' sz bytes : Nat} {o : Bool} {xs ys : List (List V)} : runAct P (.append sz bytes) [.sl true z xs, .sl o z' ys] tk dst os keep s E H K =
    (z = sz ∧ z' = sz ∧ fits (xs.length + ys.length) bytes ∧ runOps P os keep s ((stripEn tk E).setO dst (.sl true z (xs ++ ys))) H K) := (rfl)
@[go_sem] theorem run_extract {i : Nat} {vs : List V} : runAct P (.extract i) [.tup vs] tk dst os keep s E H K = ∃ v, vs[i]? = some v ∧ runOps P os keep s ((stripEn tk E).setO dst v) H K := (rfl)
@[go_sem] theorem run_build1 {k : IntKind} {n : Int} : runAct P (.buildSl 1) [.int k n] tk dst os keep s E H K = runOps P os keep s ((stripEn tk E).setO dst (.sl true 1 [[.int k n]])) H K := by
  show (∃ r H', sBuildSl 1 [.int k n] H = some (r, H') ∧ _) = _
  simp only [sBuildSl, elems, solid, scal0, V.cells, inl, plain0, strip0, List.length_cons, List.length_nil, List.all_cons, List.all_nil, List.map_cons, List.map_nil, and_self, Bool.and_self, if_true, Option.map_some, Option.bind_some, Nat.zero_add, Option.some.injEq, Prod.mk.injEq]
  apply propext
  constructor
  · rintro ⟨r, H', ⟨rfl, rfl⟩, h⟩; exact h
  · intro h; exact ⟨_, _, ⟨rfl, rfl⟩, h⟩
end

theorem ex_map {α β : Type} {l : List α} {f : α → β} {i : Nat} {K : β → Prop} : (∃ x, (l.map f)[i]? = some x ∧ K x) = ∃ a, l[i]? = some a ∧ K (f a) := by
  simp only [List.getElem?_map, Option.map_eq_some_iff]
  apply propext
  constructor
  · rintro ⟨x, ⟨a, h1, rfl⟩, h2⟩; exact ⟨a, h1, h2⟩
  · rintro ⟨a, h1, h2⟩; exact ⟨_, ⟨a, h1, rfl⟩, h2⟩

/-- A loop, from what holds at each round's start. -/
theorem WP.loop' {P : Program} {a : VCode} {E : En} {H : Heap} {K : KK} (I : Nat → En → Heap → Prop) {n : Nat} (h : I n E H) (step : ∀ n E H, I n E H → run P a [] E H (seqW K fun E' H' => ∃ m, m < n ∧ I m E' H')) : WP P (.loop a) E H K := by
  refine WP.loop I (fun n E H hI => (wp_sound (step n E H hI)).mono ?_) h
  intro x E' H' k
  cases x with
  | normal => exact k
  | exit id => exact k
  | ret => exact k
@[go_sem] theorem seqW_normal {K : KK} {N : En → Heap → Prop} {E : En} {H : Heap} : seqW K N .normal E H = N E H := (rfl)
@[go_sem] theorem seqW_exit {K : KK} {N : En → Heap → Prop} {E : En} {H : Heap} {id : Nat} : seqW K N (.exit id) E H = K (.exit id) E H := (rfl)
@[go_sem] theorem seqW_ret {K : KK} {N : En → Heap → Prop} {E : En} {H : Heap} : seqW K N .ret E H = K .ret E H := (rfl)

/-- How a function ends: what it answers. -/
def endW (H0 : Heap) (rs : List VRes) (R : V → Prop) : KK := fun x E H => (match x with | .exit _ => False | _ => True) ∧ H = H0 ∧ ∃ r0, resV H0.length H0 E.f rs = some r0 ∧ ∃ r, fixV H0.length H0 8 r0 = some r ∧ R r
def endV (H0 : Heap) (E : En) (rs : List VRes) (R : V → Prop) : Prop := ∃ r0, resV H0.length H0 E.f rs = some r0 ∧ ∃ r, fixV H0.length H0 8 r0 = some r ∧ R r
@[go_sem] theorem endW_normal (H0 : Heap) (rs : List VRes) (R : V → Prop) (E : En) (H : Heap) : endW H0 rs R .normal E H = (H = H0 ∧ endV H0 E rs R) := by simp [endW, endV]
@[go_sem] theorem endW_ret (H0 : Heap) (rs : List VRes) (R : V → Prop) (E : En) (H : Heap) : endW H0 rs R .ret E H = (H = H0 ∧ endV H0 E rs R) := by simp [endW, endV]

theorem T.of {P : Program} (hmix : P.follows .mixedOrders = true) {f : Nat} {vf : VFunc} (hc : chkFn P f vf = true) {args : List V} {H : Heap} {r : V} (hl : Nat.ble args.length vf.n = true)
    (h : run P vf.body [] ⟨args.zipIdx.map fun p => (p.2, p.1), .tup []⟩ H (endW H vf.results fun r' => r' = r)) : T P f args H r H := by
  refine T.of_pure hmix hc (Nat.le_of_ble_eq_true hl) ((wp_sound h).mono ?_)
  rintro x E' H' ⟨h1, rfl, r0, h2, r', h3, rfl⟩
  refine ⟨?_, rfl, r0, h2, h3⟩
  intro id e; subst e; exact h1

@[go_sem] theorem endV_tmp (H0 : Heap) (l : List (Nat × V)) (d : V) (t : Nat) (R : V → Prop) : endV H0 ⟨l, d⟩ [.tmp t] R = ∃ r, fixV H0.length H0 8 (getE l d t) = some r ∧ R r := by
  simp [endV, resV, resL, res1, pack, En.f]
@[go_sem] theorem endV_two (H0 : Heap) (l : List (Nat × V)) (d : V) (t u : Nat) (R : V → Prop) : endV H0 ⟨l, d⟩ [.tmp t, .tmp u] R = ∃ r, fixV H0.length H0 8 (.tup [getE l d t, getE l d u]) = some r ∧ R r := by
  simp [endV, resV, resL, res1, pack, En.f]
@[go_sem] theorem endV_nil (H0 : Heap) (l : List (Nat × V)) (d : V) (R : V → Prop) : endV H0 ⟨l, d⟩ [] R = R (.tup []) := by
  simp [endV, resV, resL, pack, fixV]
@[go_sem] theorem fix_int (m : Nat) (H : Heap) (k : IntKind) (n : Int) : fixV m H 8 (.int k n) = some (.int k n) := rfl
@[go_sem] theorem fix_bool (m : Nat) (H : Heap) (b : Bool) : fixV m H 8 (.bool b) = some (.bool b) := rfl
@[go_sem] theorem fix_str (m : Nat) (H : Heap) (s : List UInt8) : fixV m H 8 (.str s) = some (.str s) := rfl
@[go_sem] theorem fix_sl (m : Nat) (H : Heap) (o : Bool) (z : Nat) (xs : List (List V)) : fixV m H 8 (.sl o z xs) = some (.sl o z xs) := rfl

theorem wrap64 {n : Int} (h1 : -9223372036854775808 ≤ n) (h2 : n < 9223372036854775808) : IntKind.i64.wrap n = n := by
  simp [IntKind.wrap, IntKind.bits, IntKind.signed]
  omega

attribute [go_sem] List.map_cons List.map_nil List.zipIdx_cons List.zipIdx_nil Nat.reduceAdd Nat.reduceEqDiff ite_true ite_false if_true if_false
  reduceCtorEq List.contains_nil Bool.false_eq_true true_and and_true List.contains_cons forall_const false_implies Option.some.injEq exists_eq_left' eq_self Nat.reduceBEq Bool.or_false Bool.or_true Bool.true_or Bool.false_or
  iteP decide_eq_true_eq Bool.not_eq_true decide_eq_false_iff_not ne_eq not_true_eq_false not_false_eq_true Bool.not_true Bool.not_false and_false false_and
end Go.Proofs.Ytglemgdlkddjhaa.Vm
