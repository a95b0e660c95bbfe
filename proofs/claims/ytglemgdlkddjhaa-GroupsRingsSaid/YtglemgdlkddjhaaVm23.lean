/-
The value machine, part 23: the machine as a program that can be run.
-/
import Derived.Test.YtglemgdlkddjhaaVm22
namespace Go.Proofs.Ytglemgdlkddjhaa.Vm
open Go

def getE : List (Nat × V) → V → Nat → V
  | [], d, _ => d
  | (j, v) :: l, d, i => cond (Nat.beq j i) v (getE l d i)
structure En where
  l : List (Nat × V)
  d : V
def En.f (E : En) : Env := fun i => getE E.l E.d i
def En.setO (E : En) : Option Nat → V → En
  | some i, v => ⟨(i, v) :: E.l, E.d⟩
  | none, _ => E
def stripEn : List Nat → En → En
  | [], E => E
  | i :: is, E => stripEn is ⟨(i, strip (getE E.l E.d i)) :: E.l, E.d⟩

theorem En.setO_f (E : En) (o : Option Nat) (v : V) : (E.setO o v).f = updO E.f o v := by
  cases o with
  | none => rfl
  | some i =>
    funext j
    simp only [En.setO, En.f, getE, updO, upd]
    by_cases h : i = j
    · subst h; simp
    · have h1 : Nat.beq i j = false := by cases hb : Nat.beq i j with
        | false => rfl
        | true => exact absurd (Nat.eq_of_beq_eq_true hb) h
      have h2 : ¬ j = i := fun e => h e.symm
      simp [h1, h2]

theorem strip0_idem (v : V) : strip0 (strip0 v) = strip0 v := by cases v <;> rfl
theorem strip0s_idem (cs : List V) : (cs.map strip0).map strip0 = cs.map strip0 := by rw [List.map_map]; exact List.map_congr_left fun v _ => strip0_idem v
theorem stripA_idem (v : V) : stripA (stripA v) = stripA v := by
  cases v <;> first | rfl | exact congrArg V.agg (strip0s_idem _)
theorem strip_idem (v : V) : strip (strip v) = strip v := by
  cases v <;> first | rfl | exact congrArg V.agg (strip0s_idem _) | skip
  rename_i vs
  show V.tup ((vs.map stripA).map stripA) = V.tup (vs.map stripA)
  rw [List.map_map]
  exact congrArg V.tup (List.map_congr_left fun v _ => stripA_idem v)

theorem stripE_cons (i : Nat) (is : List Nat) (σ : Env) : stripE is (upd σ i (strip (σ i))) = stripE (i :: is) σ := by
  funext j
  simp only [stripE, upd, List.mem_cons]
  by_cases h : j = i
  · subst h
    simp only [if_pos, true_or]
    split
    · exact strip_idem _
    · rfl
  · simp [h]
theorem stripE_nil (σ : Env) : stripE [] σ = σ := by funext j; simp [stripE]
theorem stripEn_f : ∀ (l : List Nat) (E : En), (stripEn l E).f = stripE l E.f
  | [], E => (stripE_nil _).symm
  | i :: is, E => by
    rw [stripEn, stripEn_f is, ← stripE_cons]
    congr 1
    have := En.setO_f E (some i) (strip (getE E.l E.d i))
    exact this

/-- Forces what is small. -/
def forceNat {α : Type} (n : Nat) (k : Nat → α) : α := match n with
  | 0 => k 0
  | m + 1 => k (Nat.succ m)
theorem forceNat_eq {α : Type} (n : Nat) (k : Nat → α) : forceNat n k = k n := by cases n <;> rfl
def forceInt {α : Type} (n : Int) (k : Int → α) : α := match n with
  | .ofNat m => forceNat m fun m => k (.ofNat m)
  | .negSucc m => forceNat m fun m => k (.negSucc m)
theorem forceInt_eq {α : Type} (n : Int) (k : Int → α) : forceInt n k = k n := by cases n <;> simp [forceInt, forceNat_eq]
def forceV {α : Type} (v : V) (k : V → α) : α := match v with
  | .int j n => forceInt n fun n => k (.int j n)
  | .bool b => (match b with | true => k (.bool true) | false => k (.bool false))
  | .ptr id ver off => forceNat id fun id => forceNat ver fun ver => forceNat off fun off => k (.ptr id ver off)
  | .hsl id ver off len sz => forceNat id fun id => forceNat ver fun ver => forceNat off fun off => forceNat len fun len => k (.hsl id ver off len sz)
  | .map id => forceNat id fun id => k (.map id)
  | .u => k .u
  | .str s => k (.str s)
  | .nilp => k .nilp
  | .cptr cs => k (.cptr cs)
  | .sl o sz xs => k (.sl o sz xs)
  | .fr sz xs => k (.fr sz xs)
  | .nilh sz => k (.nilh sz)
  | .nilmap => k .nilmap
  | .fn f cs => k (.fn f cs)
  | .nilfn => k .nilfn
  | .agg cs => k (.agg cs)
  | .tup vs => k (.tup vs)
theorem forceV_eq {α : Type} (v : V) (k : V → α) : forceV v k = k v := by
  cases v <;> simp only [forceV, forceInt_eq, forceNat_eq]
  split <;> rfl
def forceL {α β : Type} (l : List β) (k : List β → α) : α := match l with
  | [] => k []
  | x :: l => forceL l fun l => k (x :: l)
theorem forceL_eq {α β : Type} : ∀ (l : List β) (k : List β → α), forceL l k = k l
  | [], _ => rfl
  | _ :: l, k => by rw [forceL, forceL_eq l]
def forceVs {α : Type} (l : List V) (k : List V → α) : α := match l with
  | [] => k []
  | x :: l => forceV x fun x => forceVs l fun l => k (x :: l)
theorem forceVs_eq {α : Type} : ∀ (l : List V) (k : List V → α), forceVs l k = k l
  | [], _ => rfl
  | _ :: l, k => by rw [forceVs, forceV_eq, forceVs_eq l]

def keepL (l : List (Nat × V)) (d : V) : List Nat → List (Nat × V)
  | [] => []
  | i :: is => forceV (getE l d i) fun v => (i, v) :: keepL l d is
def En.keep (E : En) (ks : List Nat) : En := ⟨keepL E.l E.d ks, .u⟩
theorem keepL_get (l : List (Nat × V)) (d : V) (j : Nat) : ∀ ks : List Nat, getE (keepL l d ks) .u j = if j ∈ ks then getE l d j else .u
  | [] => rfl
  | i :: is => by
    rw [keepL, forceV_eq]
    simp only [getE]
    by_cases h : i = j
    · subst h; simp
    · have h1 : Nat.beq i j = false := by cases hb : Nat.beq i j with
        | false => rfl
        | true => exact absurd (Nat.eq_of_beq_eq_true hb) h
      have h2 : ¬ j = i := fun e => h e.symm
      rw [h1, cond_false, keepL_get l d j is]
      simp [h2]
theorem En.keep_f (E : En) (ks : List Nat) : (E.keep ks).f = keepE ks E.f := by
  funext j; exact keepL_get _ _ _ _

/-- A function, and whether what it makes stays. -/
structure Entry where
  f : Nat
  vf : VFunc
  stays : Bool
def find : List Entry → Nat → Option Entry
  | [], _ => none
  | e :: l, f => cond (Nat.beq e.f f) (some e) (find l f)
theorem find_mem {f : Nat} {e : Entry} : ∀ {l : List Entry}, find l f = some e → e ∈ l ∧ e.f = f
  | [], h => by cases h
  | x :: l, h => by
    simp only [find] at h
    cases hb : Nat.beq x.f f with
    | true => rw [hb, cond_true] at h; cases h; exact ⟨List.mem_cons_self .., Nat.eq_of_beq_eq_true hb⟩
    | false => rw [hb, cond_false] at h; exact ⟨List.mem_cons_of_mem _ (find_mem h).1, (find_mem h).2⟩

abbrev CallF := Nat → List V → Heap → Option (V × Heap)

def stepN (cf : CallF) (o : VOp) (E : En) (H : Heap) : Option (En × Heap) :=
  match o.wanted E.f with
  | none => none
  | some false => some (E.setO o.dst (.tup []), H)
  | some true => match o.act with
    | .call b => (match o.args.map (evalA E.f o.take) with
      | .fn f caps :: rest => forceVs (rest ++ caps) fun av => (match cf f av H with
        | some (r, H') => if b then (if H'.length = 0 ∧ H.length = 0 then forceV r fun r => some ((stripEn o.take E).setO o.dst r, H) else none) else
          forceV r fun r => some ((stripEn o.take E).setO o.dst r, H')
        | none => none)
      | _ => none)
    | a => match a.sem (o.args.map (evalA E.f o.take)) H with
      | some (r, H') => forceV r fun r => forceL H' fun H' => some ((stripEn o.take E).setO o.dst r, H')
      | none => none
def opsN (cf : CallF) : List VOp → En → Heap → Option (En × Heap)
  | [], E, H => some (E, H)
  | o :: os, E, H => match stepN cf o E H with
    | some (E1, H1) => opsN cf os E1 H1
    | none => none

def finishM (m : Nat) (e : Entry) (E : En) (H H1 : Heap) : Option (V × Heap) :=
  if H.length ≤ H1.length ∧ (H1.take m).all (idsO m) = true then
    match resV m H1 E.f e.vf.results with
    | some r => (match fixV m H1 8 r with
      | some r' => some (r', H1.take m)
      | none => none)
    | none => none
  else none

def finishN (e : Entry) (E : En) (H H1 : Heap) : Option (V × Heap) := if e.stays then forceNat H1.length fun m => finishM m e E H H1 else forceNat H.length fun m => finishM m e E H H1

def execN (tab : List Entry) : Nat → VCode → En → Heap → Option (X × En × Heap)
  | 0, _, _, _ => none
  | n + 1, vc, E, H => match vc with
    | .skip => some (.normal, E, H)
    | .label => some (.normal, E, H)
    | .exit id => some (.exit id, E, H)
    | .ret => some (.ret, E, H)
    | .region ops keep => (match opsN (fun f av H => match find tab f with
        | some e => if av.length ≤ e.vf.n then (match execN tab n e.vf.body ⟨av.zipIdx.map fun p => (p.2, p.1), .tup []⟩ H with
          | some (.exit _, _, _) => none
          | some (_, E1, H1) => finishN e E1 H H1
          | none => none) else none
        | none => none) ops E H with
      | some (E1, H1) => some (.normal, E1.keep keep, H1)
      | none => none)
    | .seq a b => (match execN tab n a E H with
      | some (.normal, E1, H1) => execN tab n b E1 H1
      | r => r)
    | .cond c a b => (match evalA E.f [] c with
      | .bool true => execN tab n a E H
      | .bool false => execN tab n b E H
      | _ => none)
    | .block id a => (match execN tab n a E H with
      | some (x, E1, H1) => some (unblock id x, E1, H1)
      | none => none)
    | .loop a => (match execN tab n a E H with
      | some (.normal, E1, H1) => execN tab n (.loop a) E1 H1
      | r => r)
    | .scope a => execN tab n a E H

def callN (tab : List Entry) (n : Nat) : CallF := fun f av H => match find tab f with
  | some e => if av.length ≤ e.vf.n then (match execN tab n e.vf.body ⟨av.zipIdx.map fun p => (p.2, p.1), .tup []⟩ H with
    | some (.exit _, _, _) => none
    | some (_, E1, H1) => finishN e E1 H H1
    | none => none) else none
  | none => none

def tabOk (P : Program) (tab : List Entry) : Prop := ∀ e ∈ tab, chkFn P e.f e.vf = true

theorem env0_eq (av : List V) : (⟨av.zipIdx.map fun p => (p.2, p.1), .tup []⟩ : En).f = env0 av := by
  funext i
  simp only [En.f, env0]
  have : ∀ (av : List V) (k : Nat), getE ((av.zipIdx k).map fun p => (p.2, p.1)) (.tup []) i = if k ≤ i then (av[i - k]?).getD (.tup []) else .tup [] := by
    intro av
    induction av with
    | nil => intro k; simp [getE]
    | cons a av ih =>
      intro k
      simp only [List.zipIdx_cons, List.map_cons, getE]
      by_cases h : k = i
      · subst h; simp
      · have h1 : Nat.beq k i = false := by cases hb : Nat.beq k i with
          | false => rfl
          | true => exact absurd (Nat.eq_of_beq_eq_true hb) h
        rw [h1, cond_false, ih]
        by_cases h2 : k ≤ i
        · rw [if_pos h2, if_pos (by omega), show i - k = (i - (k + 1)) + 1 by omega]; simp
        · rw [if_neg h2, if_neg (by omega)]
  have h := this av 0
  simpa using h

section
variable {P : Program} {tab : List Entry}

theorem stepN_sound {cf : CallF} (hcf : ∀ f av H r H', cf f av H = some (r, H') → T P f av H r H') {o : VOp} {E : En} {H : Heap} {E1 : En} {H1 : Heap} (h : stepN cf o E H = some (E1, H1)) : VStep P o E.f H E1.f H1 := by
  unfold stepN at h
  split at h
  · cases h
  · rename_i hw
    cases h
    exact ⟨none, .skip hw, by rw [En.setO_f]; rfl⟩
  · rename_i hw
    split at h
    · rename_i b ha
      split at h
      · rename_i f caps rest hv
        rw [forceVs_eq] at h
        split at h
        · rename_i r H' hc
          have ht := hcf _ _ _ _ _ hc
          split at h
          · split at h
            · rename_i hl
              rw [forceV_eq] at h
              cases h
              have e1 : H' = [] := List.eq_nil_of_length_eq_zero hl.1
              have e2 : H = [] := List.eq_nil_of_length_eq_zero hl.2
              subst e1 e2
              exact ⟨some r, .call b f caps rest hw ha hv ht (fun _ => rfl), by rw [En.setO_f, stripEn_f]; rfl⟩
            · cases h
          · rename_i hb
            rw [forceV_eq] at h
            cases h
            exact ⟨some r, .call b f caps rest hw ha hv ht (fun e => absurd e hb), by rw [En.setO_f, stripEn_f]; rfl⟩
        · cases h
      · cases h
    · split at h
      · rename_i r H' hs
        rw [forceV_eq, forceL_eq] at h
        cases h
        exact ⟨some r, .act hw hs, by rw [En.setO_f, stripEn_f]; rfl⟩
      · cases h

theorem opsN_sound {cf : CallF} (hcf : ∀ f av H r H', cf f av H = some (r, H') → T P f av H r H') : ∀ {os : List VOp} {E : En} {H : Heap} {E1 : En} {H1 : Heap}, opsN cf os E H = some (E1, H1) → VRun P os E.f H E1.f H1
  | [], _, _, _, _, h => by cases h; exact .nil
  | o :: os, E, H, E1, H1, h => by
    simp only [opsN] at h
    split at h
    · rename_i E2 H2 hs
      exact .cons (stepN_sound hcf hs) (opsN_sound hcf h)
    · cases h

theorem finishN_sound (hmix : P.follows .mixedOrders = true) {e : Entry} (hc : chkFn P e.f e.vf = true) {av : List V} (hl : av.length ≤ e.vf.n) {H : Heap} {x : X} {E1 : En} {H1 : Heap} (hx : VExec P e.vf.body (env0 av) H x E1.f H1) (hnx : ∀ id, x ≠ .exit id)
    {r : V} {H' : Heap} (h : finishN e E1 H H1 = some (r, H')) : T P e.f av H r H' := by
  have hh : ∃ m, (m = H1.length ∨ m = H.length) ∧ finishM m e E1 H H1 = some (r, H') := by
    unfold finishN at h
    split at h
    · rw [forceNat_eq] at h; exact ⟨_, .inl rfl, h⟩
    · rw [forceNat_eq] at h; exact ⟨_, .inr rfl, h⟩
  clear h
  obtain ⟨m, hm, h⟩ := hh
  unfold finishM at h
  split at h
  · rename_i hle
    split at h
    · rename_i r0 hr
      split at h
      · rename_i r' hf
        cases h
        refine T_of hmix hc hl hx hnx ?_ ?_ hr hf ?_
        · rcases hm with rfl | rfl
          · exact hle.1
          · exact Nat.le_refl _
        · rcases hm with rfl | rfl
          · exact Nat.le_refl _
          · exact hle.1
        · intro i ob hi hob
          refine .inr (List.all_eq_true.1 hle.2 ob ?_)
          exact List.mem_iff_getElem?.2 ⟨i, by rw [take_get hi]; exact hob⟩
      · cases h
    · cases h
  · cases h

theorem execN_sound (hmix : P.follows .mixedOrders = true) (htab : tabOk P tab) : ∀ (n : Nat) {vc : VCode} {E : En} {H : Heap} {x : X} {E1 : En} {H1 : Heap}, execN tab n vc E H = some (x, E1, H1) → VExec P vc E.f H x E1.f H1
  | 0, _, _, _, _, _, _, h => by cases h
  | n + 1, vc, E, H, x, E1, H1, h => by
    have ih := @execN_sound hmix htab n
    cases vc with
    | skip => simp only [execN, Option.some.injEq, Prod.mk.injEq] at h; obtain ⟨rfl, rfl, rfl⟩ := h; exact .skip
    | label => simp only [execN, Option.some.injEq, Prod.mk.injEq] at h; obtain ⟨rfl, rfl, rfl⟩ := h; exact .label
    | exit id => simp only [execN, Option.some.injEq, Prod.mk.injEq] at h; obtain ⟨rfl, rfl, rfl⟩ := h; exact .exit id
    | ret => simp only [execN, Option.some.injEq, Prod.mk.injEq] at h; obtain ⟨rfl, rfl, rfl⟩ := h; exact .ret
    | scope a => simp only [execN] at h; exact .scope (ih h)
    | region ops keep =>
      simp only [execN] at h
      split at h
      · rename_i E2 H2 ho
        simp only [Option.some.injEq, Prod.mk.injEq] at h; obtain ⟨rfl, rfl, rfl⟩ := h
        rw [En.keep_f]
        refine .region (opsN_sound ?_ ho)
        intro f av H r H' hc
        split at hc
        · rename_i e he
          obtain ⟨he1, rfl⟩ := find_mem he
          split at hc
          · rename_i hl
            split at hc
            · cases hc
            · rename_i x E1 H1 hnx hx
              have := ih hx
              rw [env0_eq] at this
              exact finishN_sound hmix (htab e he1) hl this (fun id e => hnx id e) hc
            · cases hc
          · cases hc
        · cases hc
      · cases h
    | seq a b =>
      simp only [execN] at h
      split at h
      · rename_i E2 H2 h2
        exact .seq (ih h2) (ih h)
      · rename_i hn
        refine .seqX (ih h) ?_
        intro e; subst e; exact hn _ _ h
    | cond c a b =>
      simp only [execN] at h
      split at h
      · rename_i hc; exact .cond (y := true) hc (ih h)
      · rename_i hc; exact .cond (y := false) hc (ih h)
      · cases h
    | block id a =>
      simp only [execN] at h
      split at h
      · rename_i h2
        simp only [Option.some.injEq, Prod.mk.injEq] at h; obtain ⟨rfl, rfl, rfl⟩ := h
        exact .block (ih h2)
      · cases h
    | loop a =>
      simp only [execN] at h
      split at h
      · rename_i E2 H2 h2
        exact .loop (ih h2) (ih h)
      · rename_i hn
        refine .loopX (ih h) ?_
        intro e; subst e; exact hn _ _ h

/-- What the machine answers when it is run, the function answers. -/
theorem callN_sound (hmix : P.follows .mixedOrders = true) (htab : tabOk P tab) (n : Nat) {f : Nat} {av : List V} {H : Heap} {r : V} {H' : Heap} (h : callN tab n f av H = some (r, H')) : T P f av H r H' := by
  unfold callN at h
  split at h
  · rename_i e he
    obtain ⟨he1, rfl⟩ := find_mem he
    split at h
    · rename_i hl
      split at h
      · cases h
      · rename_i x E1 H1 hnx hx
        have := execN_sound hmix htab n hx
        rw [env0_eq] at this
        exact finishN_sound hmix (htab e he1) hl this (fun id e => hnx id e) h
      · cases h
    · cases h
  · cases h
end
end Go.Proofs.Ytglemgdlkddjhaa.Vm
