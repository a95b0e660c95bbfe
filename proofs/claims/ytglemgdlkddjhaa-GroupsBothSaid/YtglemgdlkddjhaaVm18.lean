/-
The value machine, part 18: a step of the machine is a step of the model.
-/
import Derived.Test.YtglemgdlkddjhaaVm17
namespace Go.Proofs.Ytglemgdlkddjhaa.Vm
open Go

def opndOk : Opnd → Operand → Bool
  | .t i, .tmp j => i == j
  | .c (.fn f []), .func g => f == g
  | .c v, .const c => valOk v c
  | _, _ => false
def opndsOk : List Opnd → List Operand → Bool
  | [], [] => true
  | x :: xs, y :: ys => opndOk x y && opndsOk xs ys
  | _, _ => false

def tkOf (tk : List Nat) : Opnd → Option Nat
  | .t i => if i ∈ tk then some i else none
  | .c _ => none
def takesOk (v : VOp) : Bool := (v.args.filterMap (tkOf v.take)).Nodup && (match v.act with | .mkfn _ => v.take.isEmpty | _ => true)

def chkCall (o : Oper) : Bool := match o.op with
  | .call c => (match c.callee with | .value _ => true | _ => false)
  | _ => false

def chkOp (P : Program) (ops : Array Oper) (n : Nat) (o : Oper) (v : VOp) : Bool :=
  (match v.act with | .call _ => chkCall o | a => chkAct P o a) && opndsOk v.args o.op.operands.toList && takesOk v && (v.dst == o.dst) && (match v.dst with | some d => decide (d < n) | none => true) &&
  (match v.guard, o.guard with
    | none, none => true
    | some (g, b), some (j, b') => b == b' && ((ops[j]?).bind (·.dst)) == some g
    | _, _ => false)

/-- The slots stand for these values. -/
def Slots (w : World) (G : Gh) (own : Nat → Option Place) (σ : Env) (tm : Array Value) : Prop :=
  ∀ i, ∃ bl, RepL w G [σ i] [tm.getD i undef] bl ∧ bl.Nodup ∧ ∀ b ∈ bl, own b = some (.slot i)

structure At (w : World) (G : Gh) (own : Nat → Option Place) (σ : Env) (H : Heap) (n : Nat) (a : Go.Act) : Prop where
  ok : Ok w G own H
  slots : Slots w G own σ a.tmps
  size : a.tmps.size = n
  defers : a.defers = []

theorem At.heap {w w' : World} {G : Gh} {own : Nat → Option Place} {σ : Env} {H : Heap} {n : Nat} {a : Go.Act} (h : At w G own σ H n a) (e : w'.heap = w.heap) : At w' G own σ H n a :=
  ⟨h.ok.heap e, fun i => by obtain ⟨bl, h1, h2, h3⟩ := h.slots i; exact ⟨bl, h1.heap e, h2, h3⟩, h.size, h.defers⟩

section
variable {P : Program} {w : World} {G : Gh} {own : Nat → Option Place} {H : Heap} {σ : Env} {n : Nat} {a : Go.Act}

/-- What an operation sees: what is handed over is its own, all else is not to be touched. -/
def emb (tk : List Nat) (own : Nat → Option Place) : Nat → Option Place := fun b => match own b with
  | some (.slot i) => if i ∈ tk then some .arg else some .frame
  | some (.obj i) => some (.obj i)
  | some (.cell i) => some (.cell i)
  | some .frame => some .frame
  | _ => none
theorem Ok.emb (h : Ok w G own H) (tk : List Nat) : Ok w G (Vm.emb tk own) H := by
  refine h.relabel (fun b i hb => ?_) fun b p hp => ?_
  · unfold Vm.emb; rcases hb with hb | hb <;> rw [hb]
  · unfold Vm.emb at hp; split at hp
    · exact ⟨_, by assumption⟩
    · exact ⟨_, by assumption⟩
    · exact ⟨_, by assumption⟩
    · exact ⟨_, by assumption⟩
    · cases hp

theorem opnd_rep (hat : At w G own σ H n a) (tk : List Nat) {x : Opnd} {y : Operand} (hx : opndOk x y = true) :
    ∃ bl, RepL w G [evalA σ tk x] [a.eval y] bl ∧ bl.Nodup ∧ ((tkOf tk x = none ∧ bl = []) ∨ ∃ i, tkOf tk x = some i ∧ ∀ b ∈ bl, own b = some (.slot i)) := by
  cases x with
  | t i =>
    cases y with
    | tmp j =>
      have : i = j := by simpa [opndOk] using hx
      subst this
      obtain ⟨b1, r1, r2, r3⟩ := hat.slots i
      by_cases hi : i ∈ tk
      · exact ⟨b1, by simp only [evalA, if_pos hi]; exact r1, r2, .inr ⟨i, by simp [tkOf, hi], r3⟩⟩
      · exact ⟨[], by simp only [evalA, if_neg hi]; exact r1.strip, List.nodup_nil, .inl ⟨by simp [tkOf, hi], rfl⟩⟩
    | _ => cases hx
  | c v =>
    cases y with
    | const c =>
      have hx : valOk v c = true := by
        cases v <;> first | exact hx | (rename_i f ws; cases ws <;> exact hx)
      exact ⟨[], valOk_rep hx, List.nodup_nil, .inl ⟨rfl, rfl⟩⟩
    | func g =>
      cases v <;> first | (cases hx; done) | skip
      rename_i f ws
      cases ws with
      | nil =>
        have : f = g := by simpa [opndOk] using hx
        subst this
        exact ⟨[], .fn f .nil .nil, List.nodup_nil, .inl ⟨rfl, rfl⟩⟩
      | cons _ _ => cases hx
    | tmp _ =>
      cases v <;> first | (cases hx; done) | (rename_i f ws; cases ws <;> cases hx)
    | global _ =>
      cases v <;> first | (cases hx; done) | (rename_i f ws; cases ws <;> cases hx)

theorem opndsOk_rep (hat : At w G own σ H n a) (tk : List Nat) : ∀ {xs : List Opnd} {ys : List Operand}, opndsOk xs ys = true → (xs.filterMap (tkOf tk)).Nodup →
    ∃ bl, RepL w G (xs.map (evalA σ tk)) (ys.map a.eval) bl ∧ bl.Nodup ∧ (∀ b ∈ bl, ∃ i, own b = some (.slot i) ∧ i ∈ xs.filterMap (tkOf tk))
  | [], [], _, _ => ⟨[], .nil, List.nodup_nil, (fun _ h => by cases h)⟩
  | [], _ :: _, h, _ => by cases h
  | _ :: _, [], h, _ => by cases h
  | x :: xs, y :: ys, h, hn => by
    simp only [opndsOk, Bool.and_eq_true] at h
    obtain ⟨hx, hxs⟩ := h
    obtain ⟨b1, r1, r2, r3⟩ := opnd_rep hat tk hx
    rcases r3 with ⟨e, rfl⟩ | ⟨i, e, r3⟩
    · rw [List.filterMap_cons_none e] at hn ⊢
      obtain ⟨bl, h1, h2, h3⟩ := opndsOk_rep hat tk hxs hn
      exact ⟨[] ++ bl, RepL.cons r1 h1, by simpa using h2, fun b hb => h3 b (by simpa using hb)⟩
    · rw [List.filterMap_cons_some e] at hn ⊢
      obtain ⟨hn1, hn2⟩ := List.nodup_cons.1 hn
      obtain ⟨bl, h1, h2, h3⟩ := opndsOk_rep hat tk hxs hn2
      refine ⟨b1 ++ bl, RepL.cons r1 h1, List.nodup_append.2 ⟨r2, h2, ?_⟩, ?_⟩
      · intro x hx y hy e; subst e
        obtain ⟨k, k1, k2⟩ := h3 x hy
        rw [r3 x hx] at k1
        cases k1
        exact hn1 k2
      · intro b hb
        rcases List.mem_append.1 hb with hb | hb
        · exact ⟨i, r3 b hb, List.mem_cons_self ..⟩
        · obtain ⟨k, k1, k2⟩ := h3 b hb
          exact ⟨k, k1, List.mem_cons_of_mem _ k2⟩

theorem tkOf_mem {tk : List Nat} {xs : List Opnd} {i : Nat} (h : i ∈ xs.filterMap (tkOf tk)) : i ∈ tk := by
  obtain ⟨x, _, hx⟩ := List.mem_filterMap.1 h
  cases x with
  | t j =>
    simp only [tkOf] at hx
    split at hx
    · cases hx; assumption
    · cases hx
  | c _ => cases hx

theorem put_getD (a : Go.Act) (d : Nat) (c : Value) (i : Nat) (hd : d < a.tmps.size) : (a.put (some d) c).tmps.getD i undef = if i = d then c else a.tmps.getD i undef := by
  simp only [Act.put, Array.getD_eq_getD_getElem?]
  by_cases h : i = d
  · subst h; rw [if_pos rfl]; simp [hd]
  · rw [if_neg h]; simp [Ne.symm h]

/-- What is left behind an operation or a call. -/
theorem At.after {w' : World} {v : VOp} {r : V} {H' : Heap} {c : Value} (hat : At w G own σ H n a) (hd : ∀ d, v.dst = some d → d < n) (hpost : Post w G (emb v.take own) r H' c w') :
    ∃ G' own', At w' G' own' (updO (stripE v.take σ) v.dst r) H' n (a.put v.dst c) ∧ Ext w G own w' G' own' := by
  obtain ⟨G', o', bl, k1, k2, k3, k4, k5⟩ := hpost
  have hfr : ∀ b i, own b = some (.slot i) → i ∉ v.take → w'.heap[b]? = w.heap[b]? ∧ (∀ o, G'.imm b o = G.imm b o) ∧ o' b = some .frame := by
    intro b i hb hi
    refine k5.fixed b ?_
    unfold emb; rw [hb]; simp [hi]
  have hfr' : ∀ b, own b = some .frame → w'.heap[b]? = w.heap[b]? ∧ (∀ o, G'.imm b o = G.imm b o) ∧ o' b = some .frame := by
    intro b hb
    refine k5.fixed b ?_
    unfold emb; rw [hb]
  -- what o' calls the frame, and was an object's: nobody's any more
  let own2 : Nat → Option Place := fun b => match o' b with
    | some .frame => (match own b with | some (.slot i) => some (.slot i) | some .frame => some .frame | _ => none)
    | some .res => v.dst.map .slot
    | some (.obj i) => some (.obj i)
    | some (.cell i) => some (.cell i)
    | _ => none
  have hok2 : Ok w' G' own2 H' := by
    refine k1.relabel (fun b i hb => ?_) fun b p hp => ?_
    · simp only [own2]; rcases hb with hb | hb <;> rw [hb]
    · simp only [own2] at hp
      cases ho : o' b with
      | none => rw [ho] at hp; cases hp
      | some q => exact ⟨q, rfl⟩
  refine ⟨G', own2, ⟨hok2, ?_, ?_, ?_⟩, ⟨k5.size, k5.imm, k5.loc, ?_, k5.tape, k5.os, k5.out⟩⟩
  · have old : ∀ i, (∃ bl, RepL w' G' [stripE v.take σ i] [a.tmps.getD i undef] bl ∧ bl.Nodup ∧ ∀ b ∈ bl, own2 b = some (.slot i)) := by
      intro i
      obtain ⟨b1, r1, r2, r3⟩ := hat.slots i
      by_cases hi : i ∈ v.take
      · refine ⟨[], ?_, List.nodup_nil, fun _ h => by cases h⟩
        simp only [stripE, hi, if_true]
        exact r1.strip.mono k5.imm k5.loc fun b hb => by cases hb
      · refine ⟨b1, ?_, r2, fun b hb => ?_⟩
        · simp only [stripE, hi, if_false]
          exact r1.mono k5.imm k5.loc fun b hb => ⟨(hfr b i (r3 b hb) hi).1, (hfr b i (r3 b hb) hi).2.1⟩
        · simp only [own2, (hfr b i (r3 b hb) hi).2.2, r3 b hb]
    intro i
    cases hdst : v.dst with
    | none => exact old i
    | some d =>
      have hlt : d < a.tmps.size := by rw [hat.size]; exact hd d hdst
      rw [put_getD a d c i hlt]
      by_cases hid : i = d
      · subst hid
        simp only [if_true, updO, upd]
        refine ⟨bl, k2, k3, fun b hb => ?_⟩
        simp only [own2, k4 b hb, hdst, Option.map_some]
      · simp only [if_neg hid, updO, upd]
        exact old i
  · cases v.dst with
    | none => exact hat.size
    | some d => simp [Act.put, hat.size]
  · cases v.dst with
    | none => exact hat.defers
    | some d => exact hat.defers
  · intro b hb
    obtain ⟨h1, h2, h3⟩ := hfr' b hb
    exact ⟨h1, h2, by simp only [own2, h3, hb]⟩

theorem At.skipped {v : VOp} (hat : At w G own σ H n a) (hd : ∀ d, v.dst = some d → d < n) : At w G own (updO σ v.dst (.tup [])) H n (a.put v.dst undef) := by
  refine ⟨hat.ok, fun i => ?_, ?_, ?_⟩
  · cases hdst : v.dst with
    | none => exact hat.slots i
    | some d =>
      have hlt : d < a.tmps.size := by rw [hat.size]; exact hd d hdst
      rw [put_getD a d undef i hlt]
      by_cases hid : i = d
      · subst hid
        simp only [if_true, updO, upd]
        exact ⟨[], RepL.tup .nil .nil, List.nodup_nil, fun _ h => by cases h⟩
      · simp only [if_neg hid, updO, upd]
        exact hat.slots i
  · cases v.dst with
    | none => exact hat.size
    | some d => simp [Act.put, hat.size]
  · cases v.dst with
    | none => exact hat.defers
    | some d => exact hat.defers

theorem wanted_iff {ops : Array Oper} {o : Oper} {v : VOp} {y : Bool} (hat : At w G own σ H n a)
    (hg : (match v.guard, o.guard with
      | none, none => true
      | some (g, b), some (j, b') => b == b' && ((ops[j]?).bind (·.dst)) == some g
      | _, _ => false) = true) (hw : v.wanted σ = some y) : Region.wanted o (yielded ops a.tmps) = y := by
  unfold VOp.wanted at hw
  unfold Region.wanted
  split at hg
  · rename_i h1 h2
    rw [h1] at hw; rw [h2]
    simpa using hw
  · rename_i g b j b' h1 h2
    simp only [Bool.and_eq_true, beq_iff_eq] at hg
    obtain ⟨rfl, hg⟩ := hg
    rw [h1] at hw; rw [h2]
    simp only at hw ⊢
    unfold yielded
    rw [hg]
    simp only [Option.bind_some]
    obtain ⟨bl, r, _, _⟩ := hat.slots g
    split at hw
    · rename_i c hs
      rw [hs] at r
      obtain ⟨cs', hcs, _⟩ := r.bool_inv
      have hx := (List.cons.inj hcs).1
      have hb : a.tmps[g]? = some (.bool c) := by
        rw [Array.getD_eq_getD_getElem?] at hx
        cases hq : a.tmps[g]? with
        | none => rw [hq] at hx; cases hx
        | some q => rw [hq] at hx; simp at hx; rw [hx]
      rw [hb]
      cases hw
      cases c <;> cases b <;> rfl
    · rename_i vs hs
      rw [hs] at r
      have hne : ∀ c, a.tmps[g]? ≠ some (.bool c) := by
        intro c hq
        rw [Array.getD_eq_getD_getElem?, hq] at r
        cases r with
        | imm _ _ h _ => cases h
      cases hw
      cases hq : a.tmps[g]? with
      | none => rfl
      | some q => cases q <;> first | rfl | exact absurd hq (hne _)
    · cases hw
  · cases hg

theorem call_run {o : Oper} {c : Call} {fo : Operand} (ho : o.op = .call c) (hf : c.callee = .value fo) {ρ : Operand → Value} {f : Nat} {caps : Array Value} (h : ρ fo = .func (.func f) #[] caps) {fn : Func} (h1 : P.funcs[f]? = some fn) (h2 : fn.body.isNone = false)
    (h3 : (fn.name == "runtime.NumGoroutine") = false) : (execOp ρ o).run P w = .ok (.enter f (c.args.map ρ ++ caps)) w := by
  have h2' : fn.body ≠ none := by intro e; rw [e] at h2; cases h2
  have h3' : fn.name ≠ "runtime.NumGoroutine" := by simpa using h3
  unfold execOp
  simp [ho, resolve, hf, h, Deferred.ofValue, invoke, callFunc, h1, h2', h3']

theorem chkCall_eq {o : Oper} (h : chkCall o = true) : ∃ c fo, o.op = .call c ∧ c.callee = .value fo := by
  unfold chkCall at h
  cases ho : o.op <;> rw [ho] at h <;> first | (cases h; done) | skip
  rename_i c
  cases hc : c.callee <;> simp only [hc] at h <;> first | (cases h; done) | skip
  exact ⟨c, _, rfl, hc⟩

/-- AN OPERATION OF THE MODEL DOES WHAT THE MACHINE'S STEP SAYS. -/
theorem step_sound {ops : Array Oper} {o : Oper} {v : VOp} (hc : chkOp P ops n o v = true) (hat : At w G own σ H n a) {σ' : Env} {H' : Heap} (hs : VStep P v σ H σ' H') {K : Go.Act → World → Prop} {Q : Exit → Go.Act → World → Prop}
    (hK : ∀ a' w' G' own', At w' G' own' σ' H' n a' → Ext w G own w' G' own' → K a' w') :
    if Region.wanted o (yielded ops a.tmps) then o.wp P a w K Q else K (a.put o.dst undef) w := by
  simp only [chkOp, Bool.and_eq_true] at hc
  obtain ⟨⟨⟨⟨⟨hact, hops⟩, htk⟩, hdst⟩, hlt⟩, hg⟩ := hc
  have hdst : v.dst = o.dst := by simpa using hdst
  have hd : ∀ d, v.dst = some d → d < n := by
    intro d hd; rw [hd] at hlt; simpa using hlt
  simp only [takesOk, Bool.and_eq_true, decide_eq_true_eq] at htk
  obtain ⟨htk1, htk2⟩ := htk
  obtain ⟨bl, r1, r2, r3⟩ := opndsOk_rep hat v.take hops htk1
  have hown : ∀ b ∈ bl, emb v.take own b = some .arg := by
    intro b hb
    obtain ⟨i, k1, k2⟩ := r3 b hb
    unfold emb; rw [k1]; simp [tkOf_mem k2]
  obtain ⟨e, he, rfl⟩ := hs
  cases he with
  | skip hw =>
    rw [wanted_iff hat hg hw]
    simp only [Bool.false_eq_true, if_false]
    rw [← hdst]
    exact hK _ _ G own (hat.skipped hd) (Ext.refl ..)
  | act hw hs =>
    rename_i r
    rw [wanted_iff hat hg hw]
    simp only [if_true]
    have hk : (∃ f, v.act = .mkfn f) → bl = [] := by
      rintro ⟨f, hf⟩
      rw [hf] at htk2
      have : v.take = [] := by simpa using htk2
      match bl, r3 with
      | [], _ => rfl
      | b :: _, r3 =>
        obtain ⟨i, _, k2⟩ := r3 b (List.mem_cons_self ..)
        have := tkOf_mem k2
        simp_all
    have hca : chkAct P o v.act = true := by
      cases hv : v.act <;> rw [hv] at hact <;> first | exact hact | (rw [hv] at hs; cases hs)
    have hdone := act_sound (hat.ok.emb v.take) (ρ := a.eval) (fun c => rfl) hca (by simpa using r1) r2 hown hk hs
    unfold Oper.wp
    rcases hdone with ⟨c, w', e, hp⟩ | ⟨w', e, hp⟩
    · rw [e, Oper.upon_value, ← hdst]
      obtain ⟨G', own', q1, q2⟩ := hat.after hd hp
      exact hK _ _ G' own' q1 q2
    · rw [e, Oper.upon_skip, ← hdst]
      obtain ⟨G', own', q1, q2⟩ := hat.after hd hp
      exact hK _ _ G' own' q1 q2
  | call b f caps rst hw ha hv ht hp =>
    rename_i r
    rw [wanted_iff hat hg hw]
    simp only [if_true]
    rw [ha] at hact
    obtain ⟨c, fo, ho, hfo⟩ := chkCall_eq hact
    obtain ⟨⟨fn, f1, f2, f3⟩, ht⟩ := ht
    rw [hv] at r1
    have hcs : o.op.operands.toList.map a.eval = a.eval fo :: c.args.toList.map a.eval := by
      rw [ho]; simp [Op.operands, Call.operands, hfo]
    rw [hcs] at r1
    obtain ⟨cf, cs', b1, b2, hcs2, hbl, rf, ra⟩ := r1.cons_inv
    obtain ⟨e1, e2⟩ := List.cons.inj hcs2
    subst e2
    rw [← e1] at rf
    have hfn : ∃ acs, a.eval fo = .func (.func f) #[] acs.toArray ∧ RepL w G caps acs [] ∧ b1 = [] := by
      cases hq : a.eval fo with
      | func _ _ _ => 
        rw [hq] at rf
        cases rf with
        | imm _ _ h _ => cases h
        | fn f hr he => cases he; exact ⟨_, rfl, hr, rfl⟩
      | _ =>
        rw [hq] at rf
        cases rf with
        | imm _ _ h _ => cases h
    obtain ⟨acs, hfv, hcap, rfl⟩ := hfn
    have hrep : RepL w G (rst ++ caps) (c.args.map a.eval ++ acs.toArray).toList (b2 ++ []) := by
      rw [Array.toList_append, Array.toList_map]
      exact RepL.append hcap ra
    unfold Oper.wp
    rw [call_run ho hfo hfv f1 f2 f3, Oper.upon_enter]
    have hbl2 : bl = b2 := by rw [hbl]; rfl
    refine Calls.mono (ht w G (emb v.take own) _ _ (hat.ok.emb v.take) hrep (by simpa [← hbl2] using r2) (fun b hb => hown b (by simpa [hbl2] using hb))) ?_
    rintro e w' ⟨c', rfl, hpost⟩
    show K (a.put o.dst c') w'
    rw [← hdst]
    obtain ⟨G', own', q1, q2⟩ := hat.after hd hpost
    exact hK _ _ G' own' q1 q2

theorem wpOp_sound {ops : Array Oper} {o : Oper} {v : VOp} {i : Nat} (hi : ops[i]? = some o) (hc : chkOp P ops n o v = true) (hat : At w G own σ H n a) {σ' : Env} {H' : Heap} (hs : VStep P v σ H σ' H') {K : Go.Act → World → Prop} {Q : Exit → Go.Act → World → Prop}
    (hK : ∀ a' w' G' own', At w' G' own' σ' H' n a' → Ext w G own w' G' own' → K a' w') : wpOp P ops Q i K a w := by
  unfold wpOp
  rw [hi]
  have := step_sound hc hat hs (K := K) (Q := Q) hK
  simp only
  split
  · rename_i h; rw [if_pos h] at this; exact .inl this
  · rename_i h; rw [if_neg h] at this; exact this
end
end Go.Proofs.Ytglemgdlkddjhaa.Vm
