/-
The value machine, part 20: code.
-/
import Derived.Test.YtglemgdlkddjhaaVm19
namespace Go.Proofs.Ytglemgdlkddjhaa.Vm
open Go

inductive VCode where
  | skip
  | region (ops : List VOp) (keep : List Nat)
  | seq (a b : VCode)
  | cond (c : Opnd) (a b : VCode)
  | block (id : Nat) (a : VCode)
  | loop (a : VCode)
  | exit (id : Nat)
  | scope (a : VCode)
  | label
  | ret
  deriving Inhabited

inductive X where
  | normal
  | exit (id : Nat)
  | ret
  deriving DecidableEq
def X.to : X → Exit
  | .normal => .normal
  | .exit id => .exit id
  | .ret => .ret
def unblock (id : Nat) : X → X
  | .exit id' => if id' = id then .normal else .exit id'
  | x => x

def chkCode (P : Program) (n : Nat) : Code → VCode → Bool
  | .skip, .skip => true
  | .region _ ops draw, .region vs _ => chkOps P ops n ops.toList vs && (!draw || (drawOk ops.toList vs && forwardOk ops.toList 0))
  | .seq a b, .seq x y => chkCode P n a x && chkCode P n b y
  | .cond c a b, .cond d x y => opndOk d c && chkCode P n a x && chkCode P n b y
  | .block id a, .block id' x => id == id' && chkCode P n a x
  | .loop a, .loop x => chkCode P n a x
  | .exit id, .exit id' => id == id'
  | .scope a, .scope x => chkCode P n a x
  | .label _, .label => true
  | .ret, .ret => true
  | _, _ => false

inductive VExec (P : Program) : VCode → Env → Heap → X → Env → Heap → Prop
  | skip {σ H} : VExec P .skip σ H .normal σ H
  | label {σ H} : VExec P .label σ H .normal σ H
  | exit {σ H} (id : Nat) : VExec P (.exit id) σ H (.exit id) σ H
  | ret {σ H} : VExec P .ret σ H .ret σ H
  | region {ops keep σ H σ1 H1} (h : VRun P ops σ H σ1 H1) : VExec P (.region ops keep) σ H .normal (keepE keep σ1) H1
  | seq {a b σ H σ1 H1 x σ2 H2} (h1 : VExec P a σ H .normal σ1 H1) (h2 : VExec P b σ1 H1 x σ2 H2) : VExec P (.seq a b) σ H x σ2 H2
  | seqX {a b σ H x σ1 H1} (h1 : VExec P a σ H x σ1 H1) (hx : x ≠ .normal) : VExec P (.seq a b) σ H x σ1 H1
  | cond {c a b σ H y x σ1 H1} (hc : evalA σ [] c = .bool y) (h : VExec P (if y then a else b) σ H x σ1 H1) : VExec P (.cond c a b) σ H x σ1 H1
  | block {id a σ H x σ1 H1} (h : VExec P a σ H x σ1 H1) : VExec P (.block id a) σ H (unblock id x) σ1 H1
  | loop {a σ H σ1 H1 x σ2 H2} (h1 : VExec P a σ H .normal σ1 H1) (h2 : VExec P (.loop a) σ1 H1 x σ2 H2) : VExec P (.loop a) σ H x σ2 H2
  | loopX {a σ H x σ1 H1} (h1 : VExec P a σ H x σ1 H1) (hx : x ≠ .normal) : VExec P (.loop a) σ H x σ1 H1
  | scope {a σ H x σ1 H1} (h : VExec P a σ H x σ1 H1) : VExec P (.scope a) σ H x σ1 H1

section
variable {P : Program} {n : Nat}

/-- The code does what the machine's code does. -/
def TC (P : Program) (n : Nat) (c : Code) (σ : Env) (H : Heap) (x : X) (σ' : Env) (H' : Heap) : Prop :=
  ∀ (w : World) (G : Gh) (own : Nat → Option Place) (a : Go.Act), At w G own σ H n a → c.wp P (Ends P n w G own x.to σ' H') a w

theorem Ends.pre {w w1 : World} {G G1 : Gh} {own own1 : Nat → Option Place} {ex : Exit} {σ' : Env} {H' : Heap} {e : Exit} {a' : Go.Act} {w' : World} (h : Ext w G own w1 G1 own1) (k : Ends P n w1 G1 own1 ex σ' H' e a' w') : Ends P n w G own ex σ' H' e a' w' := by
  obtain ⟨rfl, G', own', h1, h2⟩ := k
  exact ⟨rfl, G', own', h1, h.trans h2⟩

theorem region_sound {id : Nat} {ops : Array Oper} {draw : Bool} {vs : List VOp} {keep : List Nat} (hm : P.follows .mixedOrders = true) (hc : chkCode P n (.region id ops draw) (.region vs keep) = true) {σ : Env} {H : Heap} {σ1 : Env} {H1 : Heap} (hr : VRun P vs σ H σ1 H1) :
    TC P n (.region id ops draw) σ H .normal (keepE keep σ1) H1 := by
  intro w G own a hat
  simp only [chkCode, Bool.and_eq_true, Bool.or_eq_true, Bool.not_eq_true'] at hc
  obtain ⟨hc, hd⟩ := hc
  cases draw with
  | false =>
    refine wp_region ?_
    have := run_list (Q := Ends P n w G own X.normal.to (keepE keep σ1) H1) (l := ops.toList) (k := 0) (by intro j; simp) hc hr hat (fun a' w' G' own' h1 h2 => ⟨rfl, G', own', h1.keep keep, h2⟩)
    rw [Array.length_toList] at this
    rw [List.range_eq_range']; exact this
  | true =>
    obtain ⟨hd1, hd2⟩ := hd.resolve_left (by simp)
    refine wp_region_any hm ?_
    have hlen : ops.size = vs.length := by rw [← (chkOps_get hc).1]; exact Array.length_toList.symm
    have hf : (fun k => (Array.replicate ops.size false).getD k false) = fun _ => false := by
      funext k
      simp only [Array.getD_eq_getD_getElem?]
      by_cases hk : k < ops.size
      · simp [hk]
      · rw [Array.getElem?_eq_none (by simp; omega)]; rfl
    have hall : left (fun k => (Array.replicate ops.size false).getD k false) vs ops.size = vs := by
      rw [hf, left_all _ (by omega), List.take_of_length_le (by omega)]
    refine any_sound hc hd1 hd2 ops.size (Array.replicate ops.size false) (w := { w with drawn := w.drawn + 1 }) (G := G) (own := own) (σ := σ) (H := H) (σ' := σ1) (H' := H1) (by simp) ?_ (by rw [hall, hlen]) (by rw [hall]; exact hr) (hat.heap rfl) ?_
    · intro k o _ hk
      have := congrFun hf k
      rw [this] at hk; cases hk
    · intro a' w' G' own' h1 h2
      refine ⟨rfl, G', own', h1.keep keep, ?_⟩
      exact ⟨h2.size, h2.imm, h2.loc, h2.fixed, h2.tape, h2.os, h2.out⟩

theorem cond_eval {w : World} {G : Gh} {own : Nat → Option Place} {σ : Env} {H : Heap} {a : Go.Act} (hat : At w G own σ H n a) {d : Opnd} {c : Operand} (hc : opndOk d c = true) {y : Bool} (h : evalA σ [] d = .bool y) : a.eval c = .bool y := by
  obtain ⟨bl, r, _, _⟩ := opnd_rep hat [] hc
  rw [h] at r
  obtain ⟨cs', hcs, _⟩ := r.bool_inv
  exact (List.cons.inj hcs).1

theorem rounds_mono {c : Code} {Q Q' : Exit → Go.Act → World → Prop} (h : ∀ e a w, Q e a w → Q' e a w) : ∀ (m : Nat) (a : Go.Act) (w : World), Code.rounds P c Q m a w → Code.rounds P c Q' m a w
  | 0, a, w, k => k.elim
  | m + 1, a, w, k => by
    rw [rounds_succ] at k ⊢
    refine Code.wp_mono ?_ k
    intro e a w k
    cases e <;> first | exact rounds_mono h m _ _ k | exact h _ _ _ k

theorem exec_sound (hm : P.follows .mixedOrders = true) {vc : VCode} {σ : Env} {H : Heap} {x : X} {σ' : Env} {H' : Heap} (h : VExec P vc σ H x σ' H') : ∀ (c : Code), chkCode P n c vc = true →
    TC P n c σ H x σ' H' ∧ ∀ c0, c = .loop c0 → ∃ m, ∀ (w : World) (G : Gh) (own : Nat → Option Place) (a : Go.Act), At w G own σ H n a → Code.rounds P c0 (Ends P n w G own x.to σ' H') m a w := by
  induction h with
  | skip =>
    intro c hc
    cases c <;> simp only [chkCode, Bool.false_eq_true] at hc
    exact ⟨fun w G own a hat => wp_skip ⟨rfl, G, own, hat, Ext.refl ..⟩, fun c0 h => by cases h⟩
  | label =>
    intro c hc
    cases c <;> simp only [chkCode, Bool.false_eq_true] at hc
    exact ⟨fun w G own a hat => wp_label ⟨rfl, G, own, hat, Ext.refl ..⟩, fun c0 h => by cases h⟩
  | exit id =>
    intro c hc
    cases c <;> simp only [chkCode, Bool.false_eq_true, beq_iff_eq] at hc
    subst hc
    exact ⟨fun w G own a hat => wp_exit ⟨rfl, G, own, hat, Ext.refl ..⟩, fun c0 h => by cases h⟩
  | ret =>
    intro c hc
    cases c <;> simp only [chkCode, Bool.false_eq_true] at hc
    exact ⟨fun w G own a hat => wp_ret ⟨rfl, G, own, hat, Ext.refl ..⟩, fun c0 h => by cases h⟩
  | region hr =>
    intro c hc
    cases c <;> try (simp only [chkCode, Bool.false_eq_true] at hc; done)
    exact ⟨region_sound hm hc hr, fun c0 h => by cases h⟩
  | seq _ _ ih1 ih2 =>
    intro c hc
    cases c <;> simp only [chkCode, Bool.false_eq_true, Bool.and_eq_true] at hc
    refine ⟨fun w G own a hat => wp_seq (Code.wp_mono ?_ ((ih1 _ hc.1).1 w G own a hat)), fun c0 h => by cases h⟩
    rintro e a1 w1 ⟨rfl, G1, own1, h1, h2⟩
    exact Code.wp_mono (fun e a w k => Ends.pre h2 k) ((ih2 _ hc.2).1 w1 G1 own1 a1 h1)
  | @seqX _ _ _ _ x _ _ _ hx ih1 =>
    intro c hc
    cases c <;> simp only [chkCode, Bool.false_eq_true, Bool.and_eq_true] at hc
    refine ⟨fun w G own a hat => wp_seq (Code.wp_mono ?_ ((ih1 _ hc.1).1 w G own a hat)), fun c0 h => by cases h⟩
    rintro e a1 w1 ⟨rfl, h⟩
    cases x with
    | normal => exact absurd rfl hx
    | exit id => exact ⟨rfl, h⟩
    | ret => exact ⟨rfl, h⟩
  | @cond _ _ _ _ _ y _ _ _ hc' _ ih =>
    intro c hc
    cases c <;> simp only [chkCode, Bool.false_eq_true, Bool.and_eq_true] at hc
    refine ⟨fun w G own a hat => ?_, fun c0 h => by cases h⟩
    have he := cond_eval hat hc.1.1 hc'
    cases y with
    | true => exact wp_cond_true he ((ih _ hc.1.2).1 w G own a hat)
    | false => exact wp_cond_false he ((ih _ hc.2).1 w G own a hat)
  | @block id _ _ _ x _ _ _ ih =>
    intro c hc
    cases c <;> simp only [chkCode, Bool.false_eq_true, Bool.and_eq_true, beq_iff_eq] at hc
    obtain ⟨rfl, hc⟩ := hc
    refine ⟨fun w G own a hat => wp_block (Code.wp_mono ?_ ((ih _ hc).1 w G own a hat)), fun c0 h => by cases h⟩
    rintro e a1 w1 ⟨rfl, h⟩
    cases x with
    | normal => exact ⟨rfl, h⟩
    | ret => exact ⟨rfl, h⟩
    | exit id' =>
      simp only [X.to, Exit.inBlock, unblock]
      split
      · exact ⟨rfl, h⟩
      · exact ⟨rfl, h⟩
  | @loop va σ0 H0 σ1 H1 xx σ2 H2 _ _ ih1 ih2 =>
    intro c hc
    cases c <;> try (simp only [chkCode, Bool.false_eq_true] at hc; done)
    rename_i c0
    have hc0 : chkCode P n c0 va = true := hc
    have key : ∃ m, ∀ (w : World) (G : Gh) (own : Nat → Option Place) (a : Go.Act), At w G own σ0 H0 n a → Code.rounds P c0 (Ends P n w G own xx.to σ2 H2) m a w := by
      obtain ⟨m, hm2⟩ := (ih2 (.loop c0) hc).2 c0 rfl
      refine ⟨m + 1, fun w G own a hat => ?_⟩
      rw [rounds_succ]
      refine Code.wp_mono ?_ ((ih1 c0 hc0).1 w G own a hat)
      rintro e a1 w1 ⟨rfl, G1, own1, h1, h2⟩
      exact rounds_mono (fun e a w k => Ends.pre h2 k) m a1 w1 (hm2 w1 G1 own1 a1 h1)
    refine ⟨fun w G own a hat => ?_, fun c1 h => by cases h; exact key⟩
    obtain ⟨m, hm2⟩ := key
    exact wp_loop_rounds m (hm2 w G own a hat)
  | @loopX va σ0 H0 x σ1 H1 _ hx ih1 =>
    intro c hc
    cases c <;> try (simp only [chkCode, Bool.false_eq_true] at hc; done)
    rename_i c0
    have hc0 : chkCode P n c0 va = true := hc
    have key : ∃ m, ∀ (w : World) (G : Gh) (own : Nat → Option Place) (a : Go.Act), At w G own σ0 H0 n a → Code.rounds P c0 (Ends P n w G own x.to σ1 H1) m a w := by
      refine ⟨1, fun w G own a hat => ?_⟩
      rw [rounds_succ]
      refine Code.wp_mono ?_ ((ih1 c0 hc0).1 w G own a hat)
      rintro e a1 w1 ⟨rfl, h⟩
      cases x with
      | normal => exact absurd rfl hx
      | exit id => exact ⟨rfl, h⟩
      | ret => exact ⟨rfl, h⟩
    refine ⟨fun w G own a hat => ?_, fun c1 h => by cases h; exact key⟩
    obtain ⟨m, hm2⟩ := key
    exact wp_loop_rounds m (hm2 w G own a hat)
  | @scope _ _ _ x _ _ _ ih =>
    intro c hc
    cases c <;> simp only [chkCode, Bool.false_eq_true] at hc
    refine ⟨fun w G own a hat => wp_scope_straight (Code.wp_mono ?_ ((ih _ hc).1 w G own a hat)), fun c0 h => by cases h⟩
    rintro e a1 w1 ⟨rfl, h⟩
    cases x <;> exact ⟨rfl, h⟩
end
end Go.Proofs.Ytglemgdlkddjhaa.Vm
