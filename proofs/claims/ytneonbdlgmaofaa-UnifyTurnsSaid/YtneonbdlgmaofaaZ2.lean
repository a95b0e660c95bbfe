/-
The value machine, part 23: the machine as a program that can be run.
The value machine, part 25: what must hold ahead, so that this holds behind.
The value machine, part 26: code without loops, at one go.
The value machine, part 27: equations for what is done in the heap.
The value machine, part 28: functions that begin in an empty heap.
The value machine, part 29: functions that leave another heap behind.
The value machine, part 30: what is done without a heap is done beside every heap.
The value machine, part 24: a law's arguments stand for values; what a law answers.
The value machine, part 31: numbers and rows of numbers as a law is handed them.
The value machine, part 32: heaps that are not written out.
The value machine, part 33: a function whose answer takes what its cell owns.
The value machine, part 34: structs as a law is handed them.
The program's functions, as the value machine has them.
Unify: what must come of fixed calls.
Types that are made the same, part 4: types in memory; which may be, which are the same, their sizes.
Types that are made the same, part 5: which are the same, their sizes, what stands in their places (pure functions).
Types that are made the same, part 6: types in the place of variables.
Types that are made the same, part 7: the program's own copies and places.
Types that are made the same, part 8: sizes and variables.
-/
import Derived.Test.YtneonbdlgmaofaaZ1
import Derived.ChangeOld
import Derived.Below
import Derived.RowKit
import Derived.ChangeBook
import Derived.ChangeStays
import Derived.ChangeShapes
import Derived.SizedLaws
import Derived.WideShapes
import Derived.Test.YtneonbdlgmaofaaZ0
set_option linter.unusedVariables false
set_option linter.unusedSimpArgs false
set_option linter.constructorNameAsVariable false
namespace Go.Proofs.Ytneonbdlgmaofaa.Vm
open Go

def getE : List (Nat × V) → V → Nat → V
  | [], d, _ => d
  | (j, v) :: l, d, i => cond (Nat.beq j i) v (getE l d i)
structure En where
  l : List (Nat × V)
  d : V
def En.f (E : En) : Env := fun i => getE E.l E.d i
def En.setO (E : En) : Option Nat → V → En
  | some i, v => ⟨(i, v) :: E.l, E.d⟩
  | none, _ => E
def stripEn : List Nat → En → En
  | [], E => E
  | i :: is, E => stripEn is ⟨(i, strip (getE E.l E.d i)) :: E.l, E.d⟩

theorem En.setO_f (E : En) (o : Option Nat) (v : V) : (E.setO o v).f = updO E.f o v := by
  cases o with
  | none => rfl
  | some i =>
    funext j
    simp only [En.setO, En.f, getE, updO, upd]
    by_cases h : i = j
    · subst h; simp
    · have h1 : Nat.beq i j = false := by cases hb : Nat.beq i j with
        | false => rfl
        | true => exact absurd (Nat.eq_of_beq_eq_true hb) h
      have h2 : ¬ j = i := fun e => h e.symm
      simp [h1, h2]

theorem strip0_idem (v : V) : strip0 (strip0 v) = strip0 v := by cases v <;> rfl
theorem strip0s_idem (cs : List V) : (cs.map strip0).map strip0 = cs.map strip0 := by rw [List.map_map]; exact List.map_congr_left fun v _ => strip0_idem v
theorem stripA_idem (v : V) : stripA (stripA v) = stripA v := by
  cases v <;> first | rfl | exact congrArg V.agg (strip0s_idem _)
theorem strip_idem (v : V) : strip (strip v) = strip v := by
  cases v <;> first | rfl | exact congrArg V.agg (strip0s_idem _) | skip
  rename_i vs
  show V.tup ((vs.map stripA).map stripA) = V.tup (vs.map stripA)
  rw [List.map_map]
  exact congrArg V.tup (List.map_congr_left fun v _ => stripA_idem v)

theorem stripE_cons (i : Nat) (is : List Nat) (σ : Env) : stripE is (upd σ i (strip (σ i))) = stripE (i :: is) σ := by
  funext j
  simp only [stripE, upd, List.mem_cons]
  by_cases h : j = i
  · subst h
    simp only [if_pos, true_or]
    split
    · exact strip_idem _
    · rfl
  · simp [h]
theorem stripE_nil (σ : Env) : stripE [] σ = σ := by funext j; simp [stripE]
theorem stripEn_f : ∀ (l : List Nat) (E : En), (stripEn l E).f = stripE l E.f
  | [], E => (stripE_nil _).symm
  | i :: is, E => by
    rw [stripEn, stripEn_f is, ← stripE_cons]
    congr 1
    have := En.setO_f E (some i) (strip (getE E.l E.d i))
    exact this

/-- Forces what is small. -/
def forceNat {α : Type} (n : Nat) (k : Nat → α) : α := match n with
  | 0 => k 0
  | m + 1 => k (Nat.succ m)
theorem forceNat_eq {α : Type} (n : Nat) (k : Nat → α) : forceNat n k = k n := by cases n <;> rfl
def forceInt {α : Type} (n : Int) (k : Int → α) : α := match n with
  | .ofNat m => forceNat m fun m => k (.ofNat m)
  | .negSucc m => forceNat m fun m => k (.negSucc m)
theorem forceInt_eq {α : Type} (n : Int) (k : Int → α) : forceInt n k = k n := by cases n <;> simp [forceInt, forceNat_eq]
def forceV {α : Type} (v : V) (k : V → α) : α := match v with
  | .int j n => forceInt n fun n => k (.int j n)
  | .bool b => (match b with | true => k (.bool true) | false => k (.bool false))
  | .ptr id ver off => forceNat id fun id => forceNat ver fun ver => forceNat off fun off => k (.ptr id ver off)
  | .hsl id ver off len sz => forceNat id fun id => forceNat ver fun ver => forceNat off fun off => forceNat len fun len => k (.hsl id ver off len sz)
  | .map id => forceNat id fun id => k (.map id)
  | .u => k .u
  | .str s => k (.str s)
  | .nilp => k .nilp
  | .cptr cs => k (.cptr cs)
  | .sl o sz xs => k (.sl o sz xs)
  | .fr sz xs => k (.fr sz xs)
  | .nilh sz => k (.nilh sz)
  | .nilmap => k .nilmap
  | .fn f cs => k (.fn f cs)
  | .nilfn => k .nilfn
  | .agg cs => k (.agg cs)
  | .tup vs => k (.tup vs)
theorem forceV_eq {α : Type} (v : V) (k : V → α) : forceV v k = k v := by
  cases v <;> simp only [forceV, forceInt_eq, forceNat_eq]
  split <;> rfl
def forceL {α β : Type} (l : List β) (k : List β → α) : α := match l with
  | [] => k []
  | x :: l => forceL l fun l => k (x :: l)
theorem forceL_eq {α β : Type} : ∀ (l : List β) (k : List β → α), forceL l k = k l
  | [], _ => rfl
  | _ :: l, k => by rw [forceL, forceL_eq l]
def forceVs {α : Type} (l : List V) (k : List V → α) : α := match l with
  | [] => k []
  | x :: l => forceV x fun x => forceVs l fun l => k (x :: l)
theorem forceVs_eq {α : Type} : ∀ (l : List V) (k : List V → α), forceVs l k = k l
  | [], _ => rfl
  | _ :: l, k => by rw [forceVs, forceV_eq, forceVs_eq l]

def keepL (l : List (Nat × V)) (d : V) : List Nat → List (Nat × V)
  | [] => []
  | i :: is => forceV (getE l d i) fun v => (i, v) :: keepL l d is
def En.keep (E : En) (ks : List Nat) : En := ⟨keepL E.l E.d ks, .u⟩
theorem keepL_get (l : List (Nat × V)) (d : V) (j : Nat) : ∀ ks : List Nat, getE (keepL l d ks) .u j = if j ∈ ks then getE l d j else .u
  | [] => rfl
  | i :: is => by
    rw [keepL, forceV_eq]
    simp only [getE]
    by_cases h : i = j
    · subst h; simp
    · have h1 : Nat.beq i j = false := by cases hb : Nat.beq i j with
        | false => rfl
        | true => exact absurd (Nat.eq_of_beq_eq_true hb) h
      have h2 : ¬ j = i := fun e => h e.symm
      rw [h1, cond_false, keepL_get l d j is]
      simp [h2]
theorem En.keep_f (E : En) (ks : List Nat) : (E.keep ks).f = keepE ks E.f := by
  funext j; exact keepL_get _ _ _ _

/-- A function, and whether what it makes stays. -/
structure Entry where
  f : Nat
  vf : VFunc
  stays : Bool
def find : List Entry → Nat → Option Entry
  | [], _ => none
  | e :: l, f => cond (Nat.beq e.f f) (some e) (find l f)
theorem find_mem {f : Nat} {e : Entry} : ∀ {l : List Entry}, find l f = some e → e ∈ l ∧ e.f = f
  | [], h => by cases h
  | x :: l, h => by
    simp only [find] at h
    cases hb : Nat.beq x.f f with
    | true => rw [hb, cond_true] at h; cases h; exact ⟨List.mem_cons_self .., Nat.eq_of_beq_eq_true hb⟩
    | false => rw [hb, cond_false] at h; exact ⟨List.mem_cons_of_mem _ (find_mem h).1, (find_mem h).2⟩

mutual
def sameV : V → V → Bool
  | .u, .u => true
  | .int j a, .int k b => decide (j = k) && decide (a = b)
  | .bool a, .bool b => a == b
  | .str a, .str b => a == b
  | .nilp, .nilp => true
  | .ptr a b c, .ptr x y z => a == x && b == y && c == z
  | .cptr a, .cptr b => sameL a b
  | .sl o z a, .sl p y b => o == p && z == y && sameLL a b
  | .hsl a b c d e, .hsl x y z u v => a == x && b == y && c == z && d == u && e == v
  | .fr z a, .fr y b => z == y && sameLL a b
  | .nilh a, .nilh b => a == b
  | .map a, .map b => a == b
  | .nilmap, .nilmap => true
  | .fn f a, .fn g b => f == g && sameL a b
  | .nilfn, .nilfn => true
  | .agg a, .agg b => sameL a b
  | .tup a, .tup b => sameL a b
  | _, _ => false
def sameL : List V → List V → Bool
  | [], [] => true
  | a :: l, b :: m => sameV a b && sameL l m
  | _, _ => false
def sameLL : List (List V) → List (List V) → Bool
  | [], [] => true
  | a :: l, b :: m => sameL a b && sameLL l m
  | _, _ => false
end
mutual
theorem sameV_eq : ∀ {a b : V}, sameV a b = true → a = b
  | .u, b, h => by cases b <;> first | rfl | (simp [sameV] at h)
  | .int .., b, h => by cases b <;> simp [sameV] at h; rw [h.1, h.2]
  | .bool _, b, h => by cases b <;> simp [sameV] at h; rw [h]
  | .str _, b, h => by cases b <;> simp [sameV] at h; rw [h]
  | .nilp, b, h => by cases b <;> first | rfl | (simp [sameV] at h)
  | .ptr .., b, h => by cases b <;> simp [sameV] at h; rw [h.1.1, h.1.2, h.2]
  | .cptr _, b, h => by cases b <;> simp [sameV] at h; rw [sameL_eq h]
  | .sl .., b, h => by cases b <;> simp [sameV] at h; rw [h.1.1, h.1.2, sameLL_eq h.2]
  | .hsl .., b, h => by cases b <;> simp [sameV] at h; rw [h.1.1.1.1, h.1.1.1.2, h.1.1.2, h.1.2, h.2]
  | .fr .., b, h => by cases b <;> simp [sameV] at h; rw [h.1, sameLL_eq h.2]
  | .nilh _, b, h => by cases b <;> simp [sameV] at h; rw [h]
  | .map _, b, h => by cases b <;> simp [sameV] at h; rw [h]
  | .nilmap, b, h => by cases b <;> first | rfl | (simp [sameV] at h)
  | .fn .., b, h => by cases b <;> simp [sameV] at h; rw [h.1, sameL_eq h.2]
  | .nilfn, b, h => by cases b <;> first | rfl | (simp [sameV] at h)
  | .agg _, b, h => by cases b <;> simp [sameV] at h; rw [sameL_eq h]
  | .tup _, b, h => by cases b <;> simp [sameV] at h; rw [sameL_eq h]
theorem sameL_eq : ∀ {a b : List V}, sameL a b = true → a = b
  | [], [], _ => rfl
  | [], _ :: _, h => by simp [sameL] at h
  | _ :: _, [], h => by simp [sameL] at h
  | a :: l, b :: m, h => by
    simp only [sameL, Bool.and_eq_true] at h
    rw [sameV_eq h.1, sameL_eq h.2]
theorem sameLL_eq : ∀ {a b : List (List V)}, sameLL a b = true → a = b
  | [], [], _ => rfl
  | [], _ :: _, h => by simp [sameLL] at h
  | _ :: _, [], h => by simp [sameLL] at h
  | a :: l, b :: m, h => by
    simp only [sameLL, Bool.and_eq_true] at h
    rw [sameL_eq h.1, sameLL_eq h.2]
end
def sameO : Obj → Obj → Bool
  | .dead, .dead => true
  | .hole s, .hole t => s == t
  | .cells a l, .cells b m => a == b && sameL l m
  | .map l, .map m => sameL (l.map (·.1)) (m.map (·.1)) && sameL (l.map (·.2)) (m.map (·.2))
  | _, _ => false
theorem sameO_eq {a b : Obj} (h : sameO a b = true) : a = b := by
  cases a <;> cases b <;> simp [sameO] at h
  · rfl
  · rw [h]
  · rw [h.1, sameL_eq h.2]
  · congr 1
    rename_i l m
    have h1 := sameL_eq h.1
    have h2 := sameL_eq h.2
    apply List.ext_getElem?
    intro i
    have e1 := congrArg (fun x : List V => x[i]?) h1
    have e2 := congrArg (fun x : List V => x[i]?) h2
    simp only [List.getElem?_map] at e1 e2
    cases hl : l[i]? <;> cases hm : m[i]? <;> simp [hl, hm] at e1 e2 ⊢
    exact Prod.ext e1 e2
def sameH : Heap → Heap → Bool
  | [], [] => true
  | a :: l, b :: m => sameO a b && sameH l m
  | _, _ => false
theorem sameH_eq : ∀ {a b : Heap}, sameH a b = true → a = b
  | [], [], _ => rfl
  | [], _ :: _, h => by simp [sameH] at h
  | _ :: _, [], h => by simp [sameH] at h
  | a :: l, b :: m, h => by
    simp only [sameH, Bool.and_eq_true] at h
    rw [sameO_eq h.1, sameH_eq h.2]

abbrev CallF := Nat → List V → Heap → Option (V × Heap)

def baseN (E : En) (o : Option Nat) (vs : List V) : Bool := match o with
  | none => true
  | some s => farOk (E.f s) vs
def stepN (cf : CallF) (o : VOp) (E : En) (H : Heap) : Option (En × Heap) :=
  match o.wanted E.f with
  | none => none
  | some false => some (E.setO o.dst (.tup []), H)
  | some true => match o.act with
    | .call b => (match o.args.map (evalA E.f o.take) with
      | .fn f caps :: rest => forceVs (rest ++ caps) fun av => (match b with
          | .al => if idsL 0 av then (match cf f av [] with
            | some (r, H') => if H'.length = 0 then forceV r fun r => some ((stripEn o.take E).setO o.dst r, H) else none
            | none => none) else none
          | .rd => (match cf f av H with
            | some (r, H') => if sameH H' H then forceV r fun r => some ((stripEn o.take E).setO o.dst r, H) else none
            | none => none)
          | .gr => (match cf f av H with
            | some (r, H') => if sameH (H'.take H.length) H then forceV r fun r => some ((stripEn o.take E).setO o.dst r, H') else none
            | none => none)
          | .wr => (match cf f av H with
            | some (r, H') => forceV r fun r => some ((stripEn o.take E).setO o.dst r, H')
            | none => none)
          | .kp _ => none
          | .fr s => (match E.f s with
            | .ptr k _ _ => if (H.take k).length = k ∧ idsL k av = true ∧ (H.take k).all (idsO k) = true then (match cf f av (H.take k) with
              | some (r, A') => if A'.length = k then forceV r fun r => forceL (A' ++ H.drop k) fun H' => some ((stripEn o.take E).setO o.dst r, H') else none
              | none => none) else none
            | _ => none))
      | _ => none)
    | a => if baseN E a.base (o.args.map (evalA E.f o.take)) then match a.sem (o.args.map (evalA E.f o.take)) H with
      | some (r, H') => forceV r fun r => forceL H' fun H' => some ((stripEn o.take E).setO o.dst r, H')
      | none => none
      else none
def opsN (cf : CallF) : List VOp → En → Heap → Option (En × Heap)
  | [], E, H => some (E, H)
  | o :: os, E, H => match stepN cf o E H with
    | some (E1, H1) => opsN cf os E1 H1
    | none => none

def finishM (m : Nat) (e : Entry) (E : En) (H H1 : Heap) : Option (V × Heap) :=
  if H.length ≤ H1.length ∧ (H1.take m).all (idsO m) = true then
    match resV m H1 E.f e.vf.results with
    | some r => (match fixV m H1 8 r with
      | some r' => some (r', H1.take m)
      | none => none)
    | none => none
  else none

def finishN (e : Entry) (E : En) (H H1 : Heap) : Option (V × Heap) := if e.stays then forceNat H1.length fun m => finishM m e E H H1 else match forceNat H.length fun m => finishM m e E H H1 with
  | some x => some x
  | none => forceNat H1.length fun m => finishM m e E H H1

def execN (tab : List Entry) : Nat → VCode → En → Heap → Option (X × En × Heap)
  | 0, _, _, _ => none
  | n + 1, vc, E, H => match vc with
    | .skip => some (.normal, E, H)
    | .label => some (.normal, E, H)
    | .exit id => some (.exit id, E, H)
    | .ret => some (.ret, E, H)
    | .region ops keep => (match opsN (fun f av H => match find tab f with
        | some e => if av.length ≤ e.vf.n then (match execN tab n e.vf.body ⟨av.zipIdx.map fun p => (p.2, p.1), .tup []⟩ H with
          | some (.exit _, _, _) => none
          | some (_, E1, H1) => finishN e E1 H H1
          | none => none) else none
        | none => none) ops E H with
      | some (E1, H1) => some (.normal, E1.keep keep, H1)
      | none => none)
    | .regionD ts ops prs keep => (match opsN (fun f av H => match find tab f with
        | some e => if av.length ≤ e.vf.n then (match execN tab n e.vf.body ⟨av.zipIdx.map fun p => (p.2, p.1), .tup []⟩ H with
          | some (.exit _, _, _) => none
          | some (_, E1, H1) => finishN e E1 H H1
          | none => none) else none
        | none => none) (resOp ts :: (ops ++ prs.map apOp)) E H with
      | some (E1, H1) => some (.normal, E1.keep keep, H1)
      | none => none)
    | .seq a b => (match execN tab n a E H with
      | some (.normal, E1, H1) => execN tab n b E1 H1
      | r => r)
    | .cond c a b => (match evalA E.f [] c with
      | .bool true => execN tab n a E H
      | .bool false => execN tab n b E H
      | _ => none)
    | .block id a => (match execN tab n a E H with
      | some (x, E1, H1) => some (unblock id x, E1, H1)
      | none => none)
    | .loop a => (match execN tab n a E H with
      | some (.normal, E1, H1) => execN tab n (.loop a) E1 H1
      | r => r)
    | .scope a => execN tab n a E H

def callN (tab : List Entry) (n : Nat) : CallF := fun f av H => match find tab f with
  | some e => if av.length ≤ e.vf.n then (match execN tab n e.vf.body ⟨av.zipIdx.map fun p => (p.2, p.1), .tup []⟩ H with
    | some (.exit _, _, _) => none
    | some (_, E1, H1) => finishN e E1 H H1
    | none => none) else none
  | none => none

def tabOk (P : Program) (tab : List Entry) : Prop := ∀ e ∈ tab, chkFn P e.f e.vf = true

theorem env0_eq (av : List V) : (⟨av.zipIdx.map fun p => (p.2, p.1), .tup []⟩ : En).f = env0 av := by
  funext i
  simp only [En.f, env0]
  have : ∀ (av : List V) (k : Nat), getE ((av.zipIdx k).map fun p => (p.2, p.1)) (.tup []) i = if k ≤ i then (av[i - k]?).getD (.tup []) else .tup [] := by
    intro av
    induction av with
    | nil => intro k; simp [getE]
    | cons a av ih =>
      intro k
      simp only [List.zipIdx_cons, List.map_cons, getE]
      by_cases h : k = i
      · subst h; simp
      · have h1 : Nat.beq k i = false := by cases hb : Nat.beq k i with
          | false => rfl
          | true => exact absurd (Nat.eq_of_beq_eq_true hb) h
        rw [h1, cond_false, ih]
        by_cases h2 : k ≤ i
        · rw [if_pos h2, if_pos (by omega), show i - k = (i - (k + 1)) + 1 by omega]; simp
        · rw [if_neg h2, if_neg (by omega)]
  have h := this av 0
  simpa using h

section
variable {P : Program} {tab : List Entry}

theorem stepN_sound {cf : CallF} (hcf : ∀ f av H r H', cf f av H = some (r, H') → T P f av H r H') {o : VOp} {E : En} {H : Heap} {E1 : En} {H1 : Heap} (h : stepN cf o E H = some (E1, H1)) : VStep P o E.f H E1.f H1 := by
  unfold stepN at h
  split at h
  · cases h
  · rename_i hw
    cases h
    exact ⟨none, .skip hw, by rw [En.setO_f]; rfl⟩
  · rename_i hw
    split at h
    · rename_i b ha
      split at h
      · rename_i f caps rest hv
        rw [forceVs_eq] at h
        cases b with
        | kp s => cases h
        | al =>
          simp only at h
          split at h
          · rename_i hi
            split at h
            · rename_i r H' hc
              split at h
              · rename_i hl
                rw [forceV_eq] at h
                cases h
                have e1 : H' = [] := List.eq_nil_of_length_eq_zero hl
                subst e1
                have ht := hcf _ _ _ _ _ hc
                exact ⟨some r, .call .al f caps rest hw ha hv (ht.frame hi H) (fun _ => rfl) (fun _ => ⟨ht, hi⟩) (fun e => nomatch e) (fun s e => nomatch e), by rw [En.setO_f, stripEn_f]; rfl⟩
              · cases h
            · cases h
          · cases h
        | rd =>
          simp only at h
          split at h
          · rename_i r H' hc
            have ht := hcf _ _ _ _ _ hc
            split at h
            · rename_i hs
              have hs := sameH_eq hs
              subst hs
              rw [forceV_eq] at h
              cases h
              exact ⟨some r, .call .rd f caps rest hw ha hv ht (fun _ => rfl) (fun e => by cases e) (fun e => nomatch e) (fun s e => nomatch e), by rw [En.setO_f, stripEn_f]; rfl⟩
            · cases h
          · cases h
        | gr =>
          simp only at h
          split at h
          · rename_i r H' hc
            have ht := hcf _ _ _ _ _ hc
            split at h
            · rename_i hs
              have hs := sameH_eq hs
              have e : H' = H ++ H'.drop H.length := by
                conv => lhs; rw [← List.take_append_drop H.length H']
                rw [hs]
              rw [forceV_eq] at h
              cases h
              exact ⟨some r, .call .gr f caps rest hw ha hv ht (fun e => by rcases e with e | e <;> cases e) (fun e => by cases e) (fun _ => ⟨_, e⟩) (fun s e => nomatch e), by rw [En.setO_f, stripEn_f]; rfl⟩
            · cases h
          · cases h
        | wr =>
          simp only at h
          split at h
          · rename_i r H' hc
            have ht := hcf _ _ _ _ _ hc
            rw [forceV_eq] at h
            cases h
            exact ⟨some r, .call .wr f caps rest hw ha hv ht (fun e => by rcases e with e | e <;> cases e) (fun e => by cases e) (fun e => nomatch e) (fun s e => nomatch e), by rw [En.setO_f, stripEn_f]; rfl⟩
          · cases h
        | fr s =>
          simp only at h
          split at h
          · rename_i k ver off hs
            split at h
            · rename_i hq
              obtain ⟨q1, q2, q3⟩ := hq
              split at h
              · rename_i r A' hc
                split at h
                · rename_i hl
                  rw [forceV_eq, forceL_eq] at h
                  cases h
                  have ht := hcf _ _ _ _ _ hc
                  have e : H = H.take k ++ H.drop k := (List.take_append_drop ..).symm
                  have ht2 := ht.frameR (by rw [hl, q1]) (by rw [q1]; exact q2) (by rw [q1]; exact q3) (H.drop k)
                  rw [← e] at ht2
                  refine ⟨some r, .call (.fr s) f caps rest hw ha hv ht2 (fun e => by rcases e with e | e <;> cases e) (fun e => nomatch e) (fun e => nomatch e) (fun t e => ?_), by rw [En.setO_f, stripEn_f]; rfl⟩
                  cases e
                  exact ⟨k, ver, off, H.take k, A', H.drop k, hs, q1, hl, e, rfl, ht, q2, q3⟩
                · cases h
              · cases h
            · cases h
          · cases h
      · cases h
    · split at h
      · rename_i hb
        split at h
        · rename_i r H' hs
          rw [forceV_eq, forceL_eq] at h
          cases h
          exact ⟨some r, .act hw hs (fun s e => by rw [e] at hb; exact hb), by rw [En.setO_f, stripEn_f]; rfl⟩
        · cases h
      · cases h

theorem opsN_sound {cf : CallF} (hcf : ∀ f av H r H', cf f av H = some (r, H') → T P f av H r H') : ∀ {os : List VOp} {E : En} {H : Heap} {E1 : En} {H1 : Heap}, opsN cf os E H = some (E1, H1) → VRun P os E.f H E1.f H1
  | [], _, _, _, _, h => by cases h; exact .nil
  | o :: os, E, H, E1, H1, h => by
    simp only [opsN] at h
    split at h
    · rename_i E2 H2 hs
      exact .cons (stepN_sound hcf hs) (opsN_sound hcf h)
    · cases h

theorem finishN_sound (hmix : P.follows .mixedOrders = true) {e : Entry} (hc : chkFn P e.f e.vf = true) {av : List V} (hl : av.length ≤ e.vf.n) {H : Heap} {x : X} {E1 : En} {H1 : Heap} (hx : VExec P e.vf.body (env0 av) H x E1.f H1) (hnx : ∀ id, x ≠ .exit id)
    {r : V} {H' : Heap} (h : finishN e E1 H H1 = some (r, H')) : T P e.f av H r H' := by
  have hh : ∃ m, (m = H1.length ∨ m = H.length) ∧ finishM m e E1 H H1 = some (r, H') := by
    unfold finishN at h
    split at h
    · rw [forceNat_eq] at h; exact ⟨_, .inl rfl, h⟩
    · rw [forceNat_eq, forceNat_eq] at h
      split at h
      · rename_i hx; cases h; exact ⟨_, .inr rfl, hx⟩
      · exact ⟨_, .inl rfl, h⟩
  clear h
  obtain ⟨m, hm, h⟩ := hh
  unfold finishM at h
  split at h
  · rename_i hle
    split at h
    · rename_i r0 hr
      split at h
      · rename_i r' hf
        cases h
        refine T_of hmix hc hl hx hnx ?_ ?_ hr hf ?_
        · rcases hm with rfl | rfl
          · exact hle.1
          · exact Nat.le_refl _
        · rcases hm with rfl | rfl
          · exact Nat.le_refl _
          · exact hle.1
        · intro i ob hi hob
          refine .inr (List.all_eq_true.1 hle.2 ob ?_)
          exact List.mem_iff_getElem?.2 ⟨i, by rw [take_get hi]; exact hob⟩
      · cases h
    · cases h
  · cases h

theorem execN_sound (hmix : P.follows .mixedOrders = true) (htab : tabOk P tab) : ∀ (n : Nat) {vc : VCode} {E : En} {H : Heap} {x : X} {E1 : En} {H1 : Heap}, execN tab n vc E H = some (x, E1, H1) → VExec P vc E.f H x E1.f H1
  | 0, _, _, _, _, _, _, h => by cases h
  | n + 1, vc, E, H, x, E1, H1, h => by
    have ih := @execN_sound hmix htab n
    cases vc with
    | skip => simp only [execN, Option.some.injEq, Prod.mk.injEq] at h; obtain ⟨rfl, rfl, rfl⟩ := h; exact .skip
    | label => simp only [execN, Option.some.injEq, Prod.mk.injEq] at h; obtain ⟨rfl, rfl, rfl⟩ := h; exact .label
    | exit id => simp only [execN, Option.some.injEq, Prod.mk.injEq] at h; obtain ⟨rfl, rfl, rfl⟩ := h; exact .exit id
    | ret => simp only [execN, Option.some.injEq, Prod.mk.injEq] at h; obtain ⟨rfl, rfl, rfl⟩ := h; exact .ret
    | scope a => simp only [execN] at h; exact .scope (ih h)
    | region ops keep =>
      simp only [execN] at h
      split at h
      · rename_i E2 H2 ho
        simp only [Option.some.injEq, Prod.mk.injEq] at h; obtain ⟨rfl, rfl, rfl⟩ := h
        rw [En.keep_f]
        refine .region (opsN_sound ?_ ho)
        intro f av H r H' hc
        split at hc
        · rename_i e he
          obtain ⟨he1, rfl⟩ := find_mem he
          split at hc
          · rename_i hl
            split at hc
            · cases hc
            · rename_i x E1 H1 hnx hx
              have := ih hx
              rw [env0_eq] at this
              exact finishN_sound hmix (htab e he1) hl this (fun id e => hnx id e) hc
            · cases hc
          · cases hc
        · cases hc
      · cases h
    | regionD ts ops prs keep =>
      simp only [execN] at h
      split at h
      · rename_i E2 H2 ho
        simp only [Option.some.injEq, Prod.mk.injEq] at h; obtain ⟨rfl, rfl, rfl⟩ := h
        rw [En.keep_f]
        refine .regionD (opsN_sound ?_ ho)
        intro f av H r H' hc
        split at hc
        · rename_i e he
          obtain ⟨he1, rfl⟩ := find_mem he
          split at hc
          · rename_i hl
            split at hc
            · cases hc
            · rename_i x E1 H1 hnx hx
              have := ih hx
              rw [env0_eq] at this
              exact finishN_sound hmix (htab e he1) hl this (fun id e => hnx id e) hc
            · cases hc
          · cases hc
        · cases hc
      · cases h
    | seq a b =>
      simp only [execN] at h
      split at h
      · rename_i E2 H2 h2
        exact .seq (ih h2) (ih h)
      · rename_i hn
        refine .seqX (ih h) ?_
        intro e; subst e; exact hn _ _ h
    | cond c a b =>
      simp only [execN] at h
      split at h
      · rename_i hc; exact .cond (y := true) hc (ih h)
      · rename_i hc; exact .cond (y := false) hc (ih h)
      · cases h
    | block id a =>
      simp only [execN] at h
      split at h
      · rename_i h2
        simp only [Option.some.injEq, Prod.mk.injEq] at h; obtain ⟨rfl, rfl, rfl⟩ := h
        exact .block (ih h2)
      · cases h
    | loop a =>
      simp only [execN] at h
      split at h
      · rename_i E2 H2 h2
        exact .loop (ih h2) (ih h)
      · rename_i hn
        refine .loopX (ih h) ?_
        intro e; subst e; exact hn _ _ h

/-- What the machine answers when it is run, the function answers. -/
theorem callN_sound (hmix : P.follows .mixedOrders = true) (htab : tabOk P tab) (n : Nat) {f : Nat} {av : List V} {H : Heap} {r : V} {H' : Heap} (h : callN tab n f av H = some (r, H')) : T P f av H r H' := by
  unfold callN at h
  split at h
  · rename_i e he
    obtain ⟨he1, rfl⟩ := find_mem he
    split at h
    · rename_i hl
      split at h
      · cases h
      · rename_i x E1 H1 hnx hx
        have := execN_sound hmix htab n hx
        rw [env0_eq] at this
        exact finishN_sound hmix (htab e he1) hl this (fun id e => hnx id e) h
      · cases h
    · cases h
  · cases h
end
/-! Short names, for the table of a program's functions. -/
abbrev qm (d s : Nat) : VOp := ⟨some d, .mv, [.t s], [], none⟩
abbrev qv (d s g : Nat) (b : Bool) : VOp := ⟨some d, .mv, [.t s], [], some (g, b)⟩
abbrev qo (d : Nat) (a : Act) (l : List Opnd) : VOp := ⟨some d, a, l, [], none⟩
abbrev qt (d : Nat) (a : Act) (l : List Opnd) (tk : List Nat) : VOp := ⟨some d, a, l, tk, none⟩
abbrev qg (d : Nat) (a : Act) (l : List Opnd) (tk : List Nat) (g : Nat) (b : Bool) : VOp := ⟨some d, a, l, tk, some (g, b)⟩
abbrev qn (a : Act) (l : List Opnd) (tk : List Nat) : VOp := ⟨none, a, l, tk, none⟩
abbrev qi (n : Int) : Opnd := .c (.int .i64 n)
abbrev qb (b : Bool) : Opnd := .c (.bool b)
abbrev qf (f : Nat) : Opnd := .c (.fn f [])
end Go.Proofs.Ytneonbdlgmaofaa.Vm
namespace Go.Proofs.Ytneonbdlgmaofaa.Vm
open Go

/-- What an operation on numbers answers. -/
def intW (op : BinOp) (k : IntKind) (a b : Int) (K : V → Prop) : Prop := match op with
  | .add => ∃ z, z = k.wrap (a + b) ∧ K (.int k z)
  | .sub => ∃ z, z = k.wrap (a - b) ∧ K (.int k z)
  | .mul => ∃ z, z = k.wrap (a * b) ∧ K (.int k z)
  | .quo => b ≠ 0 ∧ ∃ z, z = k.wrap (a.tdiv b) ∧ K (.int k z)
  | .rem => b ≠ 0 ∧ ∃ z, z = k.wrap (a.tmod b) ∧ z = a.tmod b ∧ K (.int k z)
  | .eql => K (.bool (a == b))
  | .neq => K (.bool (a != b))
  | .lss => K (.bool (a < b))
  | .leq => K (.bool (a ≤ b))
  | .gtr => K (.bool (a > b))
  | .geq => K (.bool (a ≥ b))
  | _ => False
theorem intW_sound {op : BinOp} {k : IntKind} {a b : Int} {K : V → Prop} (h : intW op k a b K) : ∃ v, binInt op k a b = some v ∧ K v := by
  unfold intW at h
  split at h
  · obtain ⟨z, rfl, h⟩ := h; exact ⟨_, rfl, h⟩
  · obtain ⟨z, rfl, h⟩ := h; exact ⟨_, rfl, h⟩
  · obtain ⟨z, rfl, h⟩ := h; exact ⟨_, rfl, h⟩
  · obtain ⟨h0, z, rfl, h⟩ := h; exact ⟨_, by unfold binInt; simp [h0], h⟩
  · obtain ⟨h0, z, _, rfl, h⟩ := h; exact ⟨_, by unfold binInt; simp [h0], h⟩
  · exact ⟨_, rfl, h⟩
  · exact ⟨_, rfl, h⟩
  · exact ⟨_, rfl, h⟩
  · exact ⟨_, rfl, h⟩
  · exact ⟨_, rfl, h⟩
  · exact ⟨_, rfl, h⟩
  · exact h.elim

def cellsW (H : Heap) (id ver off n : Nat) (K : List V → List V → Prop) : Prop := ∃ cs, getCells H id ver = some cs ∧ off + n ≤ cs.length ∧ K cs ((cs.drop off).take n)
theorem cellsW_sound {H : Heap} {id ver off n : Nat} {K : List V → List V → Prop} (h : cellsW H id ver off n K) : ∃ cs l, getCells H id ver = some cs ∧ cut cs off n = some l ∧ off + n ≤ cs.length ∧ K cs l := by
  obtain ⟨cs, h1, h2, h3⟩ := h
  exact ⟨cs, _, h1, by simp [cut, h2], h2, h3⟩

def mkW : Bool → List V → (V → Prop) → Prop
  | true, l, K => K (.agg l)
  | false, l, K => ∃ v, l = [v] ∧ K v
theorem mkW_sound {b : Bool} {l : List V} {K : V → Prop} (h : mkW b l K) : ∃ v, mk b l = some v ∧ K v := by
  cases b with
  | true => exact ⟨_, rfl, h⟩
  | false => obtain ⟨v, rfl, h⟩ := h; exact ⟨v, rfl, h⟩

def boundsW (lo hi : Bool) (n : Nat) (bs : List V) (K : Nat → Nat → Prop) : Prop := match lo, hi, bs with
  | false, false, [] => K 0 n
  | true, false, [.int _ x] => 0 ≤ x ∧ x ≤ n ∧ K x.toNat n
  | false, true, [.int _ x] => 0 ≤ x ∧ x ≤ n ∧ K 0 x.toNat
  | true, true, [.int _ l, .int _ h] => 0 ≤ l ∧ l ≤ h ∧ h ≤ n ∧ K l.toNat h.toNat
  | _, _, _ => False
theorem boundsW_sound {lo hi : Bool} {n : Nat} {bs : List V} {K : Nat → Nat → Prop} (h : boundsW lo hi n bs K) : ∃ p, bounds lo hi n bs = some p ∧ K p.1 p.2 := by
  unfold boundsW at h
  split at h
  · exact ⟨(0, n), rfl, h⟩
  · obtain ⟨h1, h2, h⟩ := h; exact ⟨_, by simp [bounds, h1, h2]; rfl, h⟩
  · obtain ⟨h1, h2, h⟩ := h; exact ⟨_, by simp [bounds, h1, h2]; rfl, h⟩
  · obtain ⟨h1, h2, h3, h⟩ := h; exact ⟨_, by simp [bounds, h1, h2, h3]; rfl, h⟩
  · exact h.elim

/-- Each act: what must hold, so that K holds of its answer. -/
def actW (a : Act) (vs : List V) (H : Heap) (K : V → Heap → Prop) : Prop := match a, vs with
  | .mv, [v] => K v H
  | .pick, [.bool c, x, y] => (c = true → K x H) ∧ (c = false → K y H)
  | .bin op, [.int j a, .int k b] => j = k ∧ intW op j a b fun v => K v H
  | .bin op, [.str a, .str b] => ∃ v, binStr op a b = some v ∧ K v H
  | .eqc ne agg ks, [x, y] => ∃ b, eqV ks agg x y = some b ∧ K (.bool (b != ne)) H
  | .isNil ne, [x, y] => ∃ b, nilOf x y = some b ∧ K (.bool (b != ne)) H
  | .not, [.bool b] => K (.bool !b) H
  | .neg, [.int k n] => ∃ z, z = k.wrap (0 - n) ∧ K (.int k z) H
  | .conv k, [.int _ n] => ∃ z, z = k.wrap n ∧ K (.int k z) H
  | .same, [.str s] => K (.str s) H
  | .alloc zs, [] => K (.ptr H.length 0 0) (H ++ [.cells 0 zs])
  | .load n agg, [.ptr id ver off] => cellsW H id ver off n fun _ l => mkW agg (l.map strip0) fun v => K v H
  | .load n agg, [.cptr cs] => n ≤ cs.length ∧ mkW agg (cs.take n) fun v => K v H
  | .loadT n agg, [.ptr id ver off] => cellsW H id ver off n fun cs l => mkW agg l fun v => K v (H.set id (.cells ver (put cs off (l.map strip0))))
  | .nilCheck, [.ptr id ver off] => K (.ptr id ver off) H
  | .nilCheck, [.cptr cs] => K (.cptr cs) H
  | .nilCheck, [.fn f cs] => K (.fn f cs) H
  | .fieldAddr off, [.ptr id ver o] => K (.ptr id ver (o + off)) H
  | .fieldAddr off, [.cptr cs] => K (.cptr (cs.drop off)) H
  | .field off n agg, [.agg cs] => off + n ≤ cs.length ∧ mkW agg ((cs.drop off).take n) fun v => K v H
  | .indexAddr sz, [.sl _ z xs, .int _ i] => z = sz ∧ 0 ≤ i ∧ ∃ x, xs[i.toNat]? = some x ∧ K (.cptr x) H
  | .indexAddr sz, [.hsl id ver off ln z, .int _ i] => z = sz ∧ 0 ≤ i ∧ i < ln ∧ K (.ptr id ver (off + i.toNat * sz)) H
  | .indexStr, [.str s, .int _ i] => 0 ≤ i ∧ ∃ b, s[i.toNat]? = some b ∧ K (.int .u8 b.toNat) H
  | .slice lo hi sz, .sl _ z xs :: bs => z = sz ∧ boundsW lo hi xs.length bs fun l h => K (.sl false z ((xs.take h).drop l)) H
  | .append sz bytes, [.sl true z xs, .sl _ z' ys] => z = sz ∧ z' = sz ∧ fits (xs.length + ys.length) bytes ∧ K (.sl true z (xs ++ ys)) H
  | .len, [.sl _ _ xs] => K (.int .i64 xs.length) H
  | .len, [.nilh _] => K (.int .i64 0) H
  | .len, [.hsl _ _ _ ln _] => K (.int .i64 ln) H
  | .lenStr, [.str s] => K (.int .i64 s.length) H
  | .extract i, [.tup vs] => ∃ v, vs[i]? = some v ∧ K v H
  | .min, [.int j a, .int k b] => j = k ∧ K (.int j (if b < a then b else a)) H
  | .max, [.int j a, .int k b] => j = k ∧ K (.int j (if b > a then b else a)) H
  | .mkfn f, vs => K (.fn f vs) H
  | a, vs => ∃ r H', a.sem vs H = some (r, H') ∧ K r H'

theorem actW_sound {a : Act} {vs : List V} {H : Heap} {K : V → Heap → Prop} (h : actW a vs H K) : ∃ r H', a.sem vs H = some (r, H') ∧ K r H' := by
  unfold actW at h
  split at h
  · exact ⟨_, _, rfl, h⟩
  · rename_i c x y
    cases c with
    | true => exact ⟨_, _, rfl, h.1 rfl⟩
    | false => exact ⟨_, _, rfl, h.2 rfl⟩
  · obtain ⟨rfl, h⟩ := h; obtain ⟨v, h1, h2⟩ := intW_sound h; exact ⟨v, H, by simp [Act.sem, sBin, h1], h2⟩
  · obtain ⟨v, h1, h2⟩ := h; exact ⟨v, H, by simp [Act.sem, sBin, h1], h2⟩
  · obtain ⟨v, h1, h2⟩ := h; exact ⟨_, H, by simp [Act.sem, sEqc, h1], h2⟩
  · obtain ⟨v, h1, h2⟩ := h; exact ⟨_, H, by simp [Act.sem, sIsNil, h1], h2⟩
  · exact ⟨_, _, rfl, h⟩
  · obtain ⟨z, rfl, h⟩ := h; exact ⟨_, _, rfl, h⟩
  · obtain ⟨z, rfl, h⟩ := h; exact ⟨_, _, rfl, h⟩
  · exact ⟨_, _, rfl, h⟩
  · exact ⟨_, _, rfl, h⟩
  · obtain ⟨cs, l, h1, h2, _, h⟩ := cellsW_sound h
    obtain ⟨v, h3, h⟩ := mkW_sound h
    exact ⟨v, H, by simp [Act.sem, sLoad, h1, h2, h3], h⟩
  · obtain ⟨h1, h⟩ := h
    obtain ⟨v, h3, h⟩ := mkW_sound h
    exact ⟨v, H, by simp [Act.sem, sLoad, cut, h1, h3], h⟩
  · obtain ⟨cs, l, h1, h2, _, h⟩ := cellsW_sound h
    obtain ⟨v, h3, h⟩ := mkW_sound h
    exact ⟨v, _, by simp [Act.sem, sLoadT, h1, h2, h3], h⟩
  · exact ⟨_, _, rfl, h⟩
  · exact ⟨_, _, rfl, h⟩
  · exact ⟨_, _, rfl, h⟩
  · exact ⟨_, _, rfl, h⟩
  · exact ⟨_, _, rfl, h⟩
  · obtain ⟨h1, h⟩ := h
    obtain ⟨v, h3, h⟩ := mkW_sound h
    exact ⟨v, H, by simp [Act.sem, sField, cut, h1, h3], h⟩
  · obtain ⟨rfl, h1, x, h2, h⟩ := h; exact ⟨_, H, by simp [Act.sem, sIndexAddr, h1, h2], h⟩
  · obtain ⟨rfl, h1, h2, h⟩ := h; exact ⟨_, H, by simp [Act.sem, sIndexAddr, h1, h2], h⟩
  · obtain ⟨h1, b, h2, h⟩ := h; exact ⟨_, H, by simp [Act.sem, sIndexStr, h1, h2], h⟩
  · obtain ⟨rfl, h⟩ := h
    obtain ⟨p, h1, h⟩ := boundsW_sound h
    exact ⟨_, H, by simp [Act.sem, sSlice, h1], h⟩
  · obtain ⟨rfl, rfl, h1, h⟩ := h; exact ⟨_, H, by simp [Act.sem, sAppend, h1], h⟩
  · exact ⟨_, _, rfl, h⟩
  · exact ⟨_, _, rfl, h⟩
  · exact ⟨_, _, rfl, h⟩
  · exact ⟨_, _, rfl, h⟩
  · obtain ⟨v, h1, h⟩ := h; exact ⟨v, H, by simp [Act.sem, sExtract, h1], h⟩
  · obtain ⟨rfl, h⟩ := h; exact ⟨_, H, by simp [Act.sem, sMin], h⟩
  · obtain ⟨rfl, h⟩ := h; exact ⟨_, H, by simp [Act.sem, sMax], h⟩
  · exact ⟨_, _, rfl, h⟩
  · exact h

/-- An environment that is a list. -/
def LE (l : List (Nat × V)) : En := ⟨l, .u⟩
def wantedW (g : Option (Nat × Bool)) (E : En) (K : Bool → Prop) : Prop := match g with
  | none => K true
  | some (g, b) => match getE E.l E.d g with
    | .bool c => (c = b → K true) ∧ (c ≠ b → K false)
    | .tup _ => K false
    | _ => False

def argsW (E : En) (tk : List Nat) : List Opnd → List V
  | [] => []
  | .c v :: l => v :: argsW E tk l
  | .t i :: l => (if tk.contains i then getE E.l E.d i else strip (getE E.l E.d i)) :: argsW E tk l
theorem argsW_eq (E : En) (tk : List Nat) : ∀ l, argsW E tk l = l.map (evalA E.f tk)
  | [] => rfl
  | .c v :: l => by rw [argsW, argsW_eq E tk l]; rfl
  | .t i :: l => by rw [argsW, argsW_eq E tk l]; simp [evalA, En.f]

def callW (P : Program) (m : CM) (f : Nat) (args : List V) (H : Heap) (K : V → Heap → Prop) : Prop := match m with
  | .wr => ∃ r H', T P f args H r H' ∧ K r H'
  | .rd => ∃ r, T P f args H r H ∧ K r H
  | .al => ∃ r, T P f args [] r [] ∧ idsL 0 args = true ∧ K r H
  | .gr => ∃ r L, T P f args H r (H ++ L) ∧ K r (H ++ L)
  | .fr _ => False
  | .kp _ => False
/-- A call that keeps what stands from an own object on. -/
def callK (P : Program) (b : V) (f : Nat) (args : List V) (H : Heap) (K : V → Heap → Prop) : Prop := match b with
  | .ptr k _ _ => ∃ r H', T P f args H r H' ∧ (H.length ≤ H'.length ∧ ∀ i, k ≤ i → i < H.length → H'[i]? = H[i]?) ∧ K r H'
  | _ => False
/-- A call that stays below an own object. -/
def callB (P : Program) (b : V) (f : Nat) (args : List V) (H : Heap) (K : V → Heap → Prop) : Prop := match b with
  | .ptr k _ _ => ∃ r A A' L, H = A ++ L ∧ A.length = k ∧ A'.length = k ∧ T P f args A r A' ∧ idsL k args = true ∧ A.all (idsO k) = true ∧ K r (A' ++ L)
  | _ => False
def callX (P : Program) (m : CM) (E : En) (f : Nat) (args : List V) (H : Heap) (K : V → Heap → Prop) : Prop := match m with
  | .fr s => callB P (getE E.l E.d s) f args H K
  | .kp s => callK P (getE E.l E.d s) f args H K
  | m => callW P m f args H K
def baseW (E : En) (o : Option Nat) (vs : List V) (K : Prop) : Prop := match o with
  | none => K
  | some s => farOk (getE E.l E.d s) vs = true ∧ K
def stepW (P : Program) (o : VOp) (E : En) (H : Heap) (K : En → Heap → Prop) : Prop :=
  wantedW o.guard E fun y => match y with
    | false => K (E.setO o.dst (.tup [])) H
    | true => match o.act with
      | .call b => (match argsW E o.take o.args with
        | .fn f caps :: rest => callX P b E f (rest ++ caps) H fun r H' => K ((stripEn o.take E).setO o.dst r) H'
        | _ => False)
      | a => baseW E a.base (argsW E o.take o.args) <| actW a (argsW E o.take o.args) H fun r H' => K ((stripEn o.take E).setO o.dst r) H'
def opsW (P : Program) : List VOp → En → Heap → (En → Heap → Prop) → Prop
  | [], E, H, K => K E H
  | o :: os, E, H, K => stepW P o E H fun E' H' => opsW P os E' H' K

theorem wantedW_sound {o : VOp} {E : En} {K : Bool → Prop} (h : wantedW o.guard E K) : ∃ y, o.wanted E.f = some y ∧ K y := by
  unfold wantedW at h
  unfold VOp.wanted
  split at h
  · rename_i hg; rw [hg]; exact ⟨_, rfl, h⟩
  · rename_i g b hg
    rw [hg]
    simp only [En.f]
    split at h
    · rename_i c hc
      rw [hc]
      simp only
      by_cases hcb : c = b
      · exact ⟨true, by simp [hcb], h.1 hcb⟩
      · exact ⟨false, by simp [hcb], h.2 hcb⟩
    · rename_i hc; rw [hc]; exact ⟨_, rfl, h⟩
    · exact h.elim

theorem stepW_sound {P : Program} {o : VOp} {E : En} {H : Heap} {K : En → Heap → Prop} (h : stepW P o E H K) : ∃ E' H', VStep P o E.f H E'.f H' ∧ K E' H' := by
  obtain ⟨y, hw, h⟩ := wantedW_sound h
  cases y with
  | false => exact ⟨_, _, ⟨none, .skip hw, by rw [En.setO_f]; rfl⟩, h⟩
  | true =>
    simp only at h
    split at h
    · rename_i b ha
      split at h
      · rename_i f caps rest hv
        rw [argsW_eq] at hv
        cases b with
        | wr =>
          obtain ⟨r, H', ht, hk⟩ := h
          exact ⟨_, _, ⟨some r, .call .wr f caps rest hw ha hv ht (fun e => by rcases e with e | e <;> cases e) (fun e => by cases e) (fun e => nomatch e) (fun s e => nomatch e), by rw [En.setO_f, stripEn_f]; rfl⟩, hk⟩
        | rd =>
          obtain ⟨r, ht, hk⟩ := h
          exact ⟨_, _, ⟨some r, .call .rd f caps rest hw ha hv ht (fun _ => rfl) (fun e => by cases e) (fun e => nomatch e) (fun s e => nomatch e), by rw [En.setO_f, stripEn_f]; rfl⟩, hk⟩
        | al =>
          obtain ⟨r, ht, hi, hk⟩ := h
          exact ⟨_, _, ⟨some r, .call .al f caps rest hw ha hv (ht.frame hi _) (fun _ => rfl) (fun _ => ⟨ht, hi⟩) (fun e => nomatch e) (fun s e => nomatch e), by rw [En.setO_f, stripEn_f]; rfl⟩, hk⟩
        | gr =>
          obtain ⟨r, L, ht, hk⟩ := h
          exact ⟨_, _, ⟨some r, .call .gr f caps rest hw ha hv ht (fun e => by rcases e with e | e <;> cases e) (fun e => by cases e) (fun _ => ⟨L, rfl⟩) (fun s e => nomatch e), by rw [En.setO_f, stripEn_f]; rfl⟩, hk⟩
        | kp s =>
          simp only [callX] at h
          unfold callK at h
          split at h
          · rename_i k ver off hs
            obtain ⟨r, H', ht, hkeep, hk⟩ := h
            refine ⟨_, _, ⟨some r, .call (.kp s) f caps rest hw ha hv ht (fun e => by rcases e with e | e <;> cases e) (fun e => nomatch e) (fun e => nomatch e) (fun t e => nomatch e) (fun t e => ?_), by rw [En.setO_f, stripEn_f]; rfl⟩, hk⟩
            cases e
            exact ⟨k, ver, off, hs, hkeep⟩
          · exact h.elim
        | fr s =>
          simp only [callX] at h
          unfold callB at h
          split at h
          · rename_i k ver off hs
            obtain ⟨r, A, A', L, rfl, e2, e3, ht, q2, q3, hk⟩ := h
            refine ⟨_, _, ⟨some r, .call (.fr s) f caps rest hw ha hv (ht.frameR (by omega) (by rw [e2]; exact q2) (by rw [e2]; exact q3) L) (fun e => by rcases e with e | e <;> cases e) (fun e => nomatch e) (fun e => nomatch e) (fun t e => ?_), by rw [En.setO_f, stripEn_f]; rfl⟩, hk⟩
            cases e
            exact ⟨k, ver, off, A, A', L, hs, e2, e3, rfl, rfl, ht, q2, q3⟩
          · exact h.elim
      · exact h.elim
    · have hb : ∀ s, o.act.base = some s → farOk (E.f s) (o.args.map (evalA E.f o.take)) = true := by
        intro s e
        unfold baseW at h
        rw [e] at h
        rw [← argsW_eq]; exact h.1
      have h : actW o.act (argsW E o.take o.args) H fun r H' => K ((stripEn o.take E).setO o.dst r) H' := by
        unfold baseW at h
        split at h
        · exact h
        · exact h.2
      obtain ⟨r, H', hs, h⟩ := actW_sound h
      rw [argsW_eq] at hs
      exact ⟨_, _, ⟨some r, .act hw hs hb, by rw [En.setO_f, stripEn_f]; rfl⟩, h⟩

theorem opsW_sound {P : Program} : ∀ {os : List VOp} {E : En} {H : Heap} {K : En → Heap → Prop}, opsW P os E H K → ∃ E' H', VRun P os E.f H E'.f H' ∧ K E' H'
  | [], E, H, _, h => ⟨E, H, .nil, h⟩
  | o :: os, E, H, K, h => by
    obtain ⟨E1, H1, h1, h2⟩ := stepW_sound h
    obtain ⟨E2, H2, h3, h4⟩ := opsW_sound h2
    exact ⟨E2, H2, .cons h1 h3, h4⟩

/-- The code runs, and K holds of where it ends. -/
def WP (P : Program) (vc : VCode) (E : En) (H : Heap) (K : X → En → Heap → Prop) : Prop := ∃ x E' H', VExec P vc E.f H x E'.f H' ∧ K x E' H'

def keepS (E : En) (ks : List Nat) : En := LE (ks.map fun i => (i, getE E.l E.d i))
theorem keepS_f (E : En) (ks : List Nat) : (keepS E ks).f = keepE ks E.f := by
  rw [← En.keep_f]
  funext j
  show getE _ _ j = getE _ _ j
  congr 1
  show ks.map _ = keepL E.l E.d ks
  induction ks with
  | nil => rfl
  | cons k ks ih => rw [List.map_cons, ih, keepL, forceV_eq]

section
variable {P : Program} {E : En} {H : Heap} {K : X → En → Heap → Prop}

theorem WP.region {ops : List VOp} {keep : List Nat} (h : opsW P ops E H fun E' H' => K .normal (keepS E' keep) H') : WP P (.region ops keep) E H K := by
  obtain ⟨E1, H1, h1, h2⟩ := opsW_sound h
  exact ⟨_, _, _, by rw [keepS_f]; exact .region h1, h2⟩
theorem WP.regionD {ts : List Nat} {ops : List VOp} {prs : List (Nat × Nat)} {keep : List Nat} (h : opsW P (resOp ts :: (ops ++ prs.map apOp)) E H fun E' H' => K .normal (keepS E' keep) H') : WP P (.regionD ts ops prs keep) E H K := by
  obtain ⟨E1, H1, h1, h2⟩ := opsW_sound h
  exact ⟨_, _, _, by rw [keepS_f]; exact .regionD h1, h2⟩
theorem WP.seq {a b : VCode} (h : WP P a E H fun x E' H' => match x with | .normal => WP P b E' H' K | x => K x E' H') : WP P (.seq a b) E H K := by
  obtain ⟨x, E1, H1, h1, h2⟩ := h
  cases x with
  | normal => obtain ⟨x, E2, H2, h3, h4⟩ := h2; exact ⟨x, E2, H2, .seq h1 h3, h4⟩
  | exit id => exact ⟨_, _, _, .seqX h1 (by simp), h2⟩
  | ret => exact ⟨_, _, _, .seqX h1 (by simp), h2⟩
theorem WP.cond {c : Opnd} {a b : VCode} (y : Bool) (hc : evalA E.f [] c = .bool y) (h1 : y = true → WP P a E H K) (h2 : y = false → WP P b E H K) : WP P (.cond c a b) E H K := by
  cases y with
  | true => obtain ⟨x, E1, H1, k1, k2⟩ := h1 rfl; exact ⟨x, E1, H1, .cond (y := true) hc k1, k2⟩
  | false => obtain ⟨x, E1, H1, k1, k2⟩ := h2 rfl; exact ⟨x, E1, H1, .cond (y := false) hc k1, k2⟩
theorem WP.skip (h : K .normal E H) : WP P .skip E H K := ⟨_, _, _, .skip, h⟩
theorem WP.label (h : K .normal E H) : WP P .label E H K := ⟨_, _, _, .label, h⟩
theorem WP.exit {id : Nat} (h : K (.exit id) E H) : WP P (.exit id) E H K := ⟨_, _, _, .exit id, h⟩
theorem WP.ret (h : K .ret E H) : WP P .ret E H K := ⟨_, _, _, .ret, h⟩
theorem WP.scope {a : VCode} (h : WP P a E H K) : WP P (.scope a) E H K := by
  obtain ⟨x, E1, H1, h1, h2⟩ := h; exact ⟨_, _, _, .scope h1, h2⟩
theorem WP.block {id : Nat} {a : VCode} (h : WP P a E H fun x E' H' => K (unblock id x) E' H') : WP P (.block id a) E H K := by
  obtain ⟨x, E1, H1, h1, h2⟩ := h; exact ⟨_, _, _, .block h1, h2⟩
/-- A loop: what holds at each round's start, and a number that falls. -/
theorem WP.loop {a : VCode} (I : Nat → En → Heap → Prop) (step : ∀ n E H, I n E H → WP P a E H fun x E' H' => match x with | .normal => ∃ m, m < n ∧ I m E' H' | x => K x E' H') {n : Nat} (h : I n E H) : WP P (.loop a) E H K := by
  induction n using Nat.strongRecOn generalizing E H with
  | ind n ih =>
    obtain ⟨x, E1, H1, h1, h2⟩ := step n E H h
    cases x with
    | normal =>
      obtain ⟨m, hm, hI⟩ := h2
      obtain ⟨x, E2, H2, h3, h4⟩ := ih m hm hI
      exact ⟨x, E2, H2, .loop h1 h3, h4⟩
    | exit id => exact ⟨_, _, _, .loopX h1 (by simp), h2⟩
    | ret => exact ⟨_, _, _, .loopX h1 (by simp), h2⟩
theorem WP.mono {vc : VCode} {K' : X → En → Heap → Prop} (h : WP P vc E H K) (hk : ∀ x E' H', K x E' H' → K' x E' H') : WP P vc E H K' := by
  obtain ⟨x, E1, H1, h1, h2⟩ := h; exact ⟨x, E1, H1, h1, hk _ _ _ h2⟩

/-- A function that leaves the heap as it was, and all that it made behind. -/
theorem T.of_wp (hmix : P.follows .mixedOrders = true) {f : Nat} {vf : VFunc} (hc : chkFn P f vf = true) {args : List V} (hl : args.length ≤ vf.n) {r : V}
    (h : WP P vf.body ⟨args.zipIdx.map fun p => (p.2, p.1), .tup []⟩ H fun x E' H' => (∀ id, x ≠ .exit id) ∧ H.length ≤ H'.length ∧ (∀ (i : Nat) (ob : Obj), i < H.length → H'[i]? = some ob → H[i]? = some ob) ∧ ∃ r0, resV H.length H' E'.f vf.results = some r0 ∧ fixV H.length H' 8 r0 = some r) : T P f args H r H := by
  obtain ⟨x, E1, H1, h1, h2, h3, h4, r0, h5, h6⟩ := h
  rw [env0_eq] at h1
  have := T_of hmix hc hl h1 h2 (m := H.length) (Nat.le_refl _) h3 h5 h6 (fun i ob hi hob => .inl (h4 i ob hi hob))
  have htake : H1.take H.length = H := by
    apply List.ext_getElem?
    intro i
    by_cases hi : i < H.length
    · rw [take_get hi]
      have hlt : i < H1.length := by omega
      rw [List.getElem?_eq_getElem hlt]
      exact (h4 i _ hi (List.getElem?_eq_getElem hlt)).symm
    · rw [List.getElem?_eq_none (by simp; omega), List.getElem?_eq_none (by omega)]
  rwa [htake] at this
/-- The same where nothing is made. -/
theorem T.of_pure (hmix : P.follows .mixedOrders = true) {f : Nat} {vf : VFunc} (hc : chkFn P f vf = true) {args : List V} (hl : args.length ≤ vf.n) {r : V}
    (h : WP P vf.body ⟨args.zipIdx.map fun p => (p.2, p.1), .tup []⟩ H fun x E' H' => (∀ id, x ≠ .exit id) ∧ H' = H ∧ ∃ r0, resV H.length H E'.f vf.results = some r0 ∧ fixV H.length H 8 r0 = some r) : T P f args H r H := by
  refine T.of_wp hmix hc hl (h.mono ?_)
  rintro x E' H' ⟨h1, rfl, r0, h2, h3⟩
  exact ⟨h1, Nat.le_refl _, fun _ _ _ h => h, r0, h2, h3⟩
end
end Go.Proofs.Ytneonbdlgmaofaa.Vm
namespace Go.Proofs.Ytneonbdlgmaofaa.Vm
open Go

@[go_sem] theorem getE_cons (j : Nat) (v : V) (l : List (Nat × V)) (d : V) (i : Nat) : getE ((j, v) :: l) d i = if j = i then v else getE l d i := by
  simp only [getE]
  by_cases h : j = i
  · subst h; simp
  · have h1 : Nat.beq j i = false := by cases hb : Nat.beq j i with
      | false => rfl
      | true => exact absurd (Nat.eq_of_beq_eq_true hb) h
    simp [h1, h]
@[go_sem] theorem getE_nil (d : V) (i : Nat) : getE [] d i = d := rfl

def condW (v : V) (A B : Prop) : Prop := match v with
  | .bool y => (y = true → A) ∧ (y = false → B)
  | _ => False
def valA (E : En) : Opnd → V
  | .t i => getE E.l E.d i
  | .c v => v
def guardW (v : V) (b : Bool) (A B : Prop) : Prop := match v with
  | .bool c => (c = b → A) ∧ (c ≠ b → B)
  | .tup _ => B
  | _ => False

abbrev KK := X → En → Heap → Prop
def seqW (K : KK) (N : En → Heap → Prop) : KK
  | .normal, E, H => N E H
  | .exit id, E, H => K (.exit id) E H
  | .ret, E, H => K .ret E H

/-- What must hold ahead of code; a loop is left as it is. -/
def wp (P : Program) : VCode → En → Heap → KK → Prop
  | .skip, E, H, K => K .normal E H
  | .label, E, H, K => K .normal E H
  | .exit id, E, H, K => K (.exit id) E H
  | .ret, E, H, K => K .ret E H
  | .region ops keep, E, H, K => opsW P ops E H fun E' H' => K .normal (keepS E' keep) H'
  | .regionD ts ops prs keep, E, H, K => opsW P (resOp ts :: (ops ++ prs.map apOp)) E H fun E' H' => K .normal (keepS E' keep) H'
  | .seq a b, E, H, K => wp P a E H (seqW K fun E' H' => wp P b E' H' K)
  | .cond c a b, E, H, K => condW (valA E c) (wp P a E H K) (wp P b E H K)
  | .block id a, E, H, K => wp P a E H fun x E' H' => K (unblock id x) E' H'
  | .loop a, E, H, K => WP P (.loop a) E H K
  | .scope a, E, H, K => wp P a E H K

theorem condW_sound {P : Program} {a b : VCode} {E : En} {H : Heap} {K : KK} {c : Opnd} (h : condW (valA E c) (WP P a E H K) (WP P b E H K)) : WP P (.cond c a b) E H K := by
  unfold condW at h
  split at h
  · rename_i y hy
    refine .cond y ?_ h.1 h.2
    cases c with
    | c v => exact hy
    | t i => simp only [valA] at hy; simp [evalA, En.f, hy, strip, strip0]
  · exact h.elim
theorem condW_mono {v : V} {A B A' B' : Prop} (h : condW v A B) (ha : A → A') (hb : B → B') : condW v A' B' := by
  unfold condW at h ⊢
  split at h
  · exact ⟨fun e => ha (h.1 e), fun e => hb (h.2 e)⟩
  · exact h.elim

theorem wp_sound {P : Program} : ∀ {vc : VCode} {E : En} {H : Heap} {K : KK}, wp P vc E H K → WP P vc E H K
  | .skip, _, _, _, h => .skip h
  | .label, _, _, _, h => .label h
  | .exit _, _, _, _, h => .exit h
  | .ret, _, _, _, h => .ret h
  | .region _ _, _, _, _, h => .region h
  | .regionD _ _ _ _, _, _, _, h => .regionD h
  | .seq a b, E, H, K, h => by
    have h' : wp P a E H (seqW K fun E' H' => wp P b E' H' K) := h
    refine .seq ((wp_sound h').mono ?_)
    intro x E' H' k
    cases x with
    | normal => exact wp_sound k
    | exit id => exact k
    | ret => exact k
  | .cond c a b, E, H, K, h => condW_sound (condW_mono (show condW (valA E c) (wp P a E H K) (wp P b E H K) from h) (fun h => wp_sound h) (fun h => wp_sound h))
  | .block id a, E, H, K, h => by
    have h' : wp P a E H (fun x E' H' => K (unblock id x) E' H') := h
    exact .block (wp_sound h')
  | .loop a, _, _, _, h => h
  | .scope a, E, H, K, h => by
    have h' : wp P a E H K := h
    exact .scope (wp_sound h')

/-- What comes behind. -/
inductive Fr where
  | code (c : VCode)
  | blk (id : Nat)
def goes (P : Program) (K : KK) : List Fr → KK
  | [], x, E, H => K x E H
  | .code c :: s, .normal, E, H => wp P c E H (goes P K s)
  | .code _ :: s, .exit id, E, H => goes P K s (.exit id) E H
  | .code _ :: s, .ret, E, H => goes P K s .ret E H
  | .blk id :: s, x, E, H => goes P K s (unblock id x) E H
def run (P : Program) (c : VCode) (s : List Fr) (E : En) (H : Heap) (K : KK) : Prop := wp P c E H (goes P K s)
def runOps (P : Program) (os : List VOp) (keep : List Nat) (s : List Fr) (E : En) (H : Heap) (K : KK) : Prop := opsW P os E H fun E' H' => goes P K s .normal (keepS E' keep) H'
/-- One operation. -/
def runAct (P : Program) (a : Act) (vs : List V) (tk : List Nat) (dst : Option Nat) (os : List VOp) (keep : List Nat) (s : List Fr) (E : En) (H : Heap) (K : KK) : Prop := match a with
  | .call b => (match vs with
    | .fn f caps :: rest => callX P b E f (rest ++ caps) H fun r H' => runOps P os keep s ((stripEn tk E).setO dst r) H' K
    | _ => False)
  | a => baseW E a.base vs <| actW a vs H fun r H' => runOps P os keep s ((stripEn tk E).setO dst r) H' K
def runInt (P : Program) (op : BinOp) (k : IntKind) (a b : Int) (tk : List Nat) (dst : Option Nat) (os : List VOp) (keep : List Nat) (s : List Fr) (E : En) (H : Heap) (K : KK) : Prop :=
  intW op k a b fun v => runOps P os keep s ((stripEn tk E).setO dst v) H K

section
variable {P : Program} {K : KK} {s : List Fr} {E : En} {H : Heap} {tk : List Nat} {dst : Option Nat} {os : List VOp} {keep : List Nat}

theorem wp_run {c : VCode} : wp P c E H K = run P c [] E H K := rfl
@[go_sem] theorem goes_nil {x : X} : goes P K [] x E H = K x E H := (rfl)
@[go_sem] theorem goes_code {c : VCode} : goes P K (.code c :: s) .normal E H = run P c s E H K := (rfl)
@[go_sem] theorem goes_exit {c : VCode} {id : Nat} : goes P K (.code c :: s) (.exit id) E H = goes P K s (.exit id) E H := (rfl)
@[go_sem] theorem goes_ret {c : VCode} : goes P K (.code c :: s) .ret E H = goes P K s .ret E H := (rfl)
@[go_sem] theorem goes_blk {id : Nat} {x : X} : goes P K (.blk id :: s) x E H = goes P K s (unblock id x) E H := (rfl)
@[go_sem] theorem unblock_exit {id id' : Nat} : unblock id (.exit id') = if id' = id then .normal else .exit id' := rfl
@[go_sem] theorem unblock_ret {id : Nat} : unblock id .ret = .ret := rfl
@[go_sem] theorem unblock_normal {id : Nat} : unblock id .normal = .normal := rfl
@[go_sem] theorem run_skip : run P .skip s E H K = goes P K s .normal E H := (rfl)
@[go_sem] theorem run_label : run P .label s E H K = goes P K s .normal E H := (rfl)
@[go_sem] theorem run_exit {id : Nat} : run P (.exit id) s E H K = goes P K s (.exit id) E H := (rfl)
@[go_sem] theorem run_ret : run P .ret s E H K = goes P K s .ret E H := (rfl)
@[go_sem] theorem run_region {ops : List VOp} : run P (.region ops keep) s E H K = runOps P ops keep s E H K := (rfl)
@[go_sem] theorem run_regionD {ts : List Nat} {ops : List VOp} {prs : List (Nat × Nat)} : run P (.regionD ts ops prs keep) s E H K = runOps P (resOp ts :: (ops ++ prs.map apOp)) keep s E H K := (rfl)
@[go_sem] theorem run_seq {a b : VCode} : run P (.seq a b) s E H K = run P a (.code b :: s) E H K := by
  show wp P a E H _ = wp P a E H _
  congr 1
  funext x E H
  cases x <;> rfl
def condD (P : Program) (v : V) (a b : VCode) (s : List Fr) (E : En) (H : Heap) (K : KK) : Prop := condW v (run P a s E H K) (run P b s E H K)
@[go_sem] theorem run_cond {c : Opnd} {a b : VCode} : run P (.cond c a b) s E H K = condD P (valA E c) a b s E H K := (rfl)
@[go_sem] theorem run_block {id : Nat} {a : VCode} : run P (.block id a) s E H K = run P a (.blk id :: s) E H K := (rfl)
@[go_sem] theorem run_scope {a : VCode} : run P (.scope a) s E H K = run P a s E H K := (rfl)
@[go_sem] theorem run_loop {a : VCode} : run P (.loop a) s E H K = WP P (.loop a) E H (goes P K s) := (rfl)
@[go_sem] theorem valA_t {l : List (Nat × V)} {d : V} {i : Nat} : valA ⟨l, d⟩ (.t i) = getE l d i := rfl
@[go_sem] theorem valA_c {v : V} : valA E (.c v) = v := rfl
theorem iteP {c : Prop} [Decidable c] {A B : Prop} : (if c then A else B) = ((c → A) ∧ (¬c → B)) := by
  by_cases h : c <;> simp [h]
@[go_sem] theorem condD_bool {y : Bool} {a b : VCode} : condD P (.bool y) a b s E H K = if y = true then run P a s E H K else run P b s E H K := by
  unfold condD condW
  rw [iteP]
  cases y <;> simp

@[go_sem] theorem ops_nil {l : List (Nat × V)} {d : V} : runOps P [] keep s ⟨l, d⟩ H K = goes P K s .normal (keepS ⟨l, d⟩ keep) H := (rfl)
@[go_sem] theorem keepS_eq {l : List (Nat × V)} {d : V} {ks : List Nat} : keepS ⟨l, d⟩ ks = ⟨ks.map fun i => (i, getE l d i), .u⟩ := rfl
@[go_sem] theorem ops_cons {act : Act} {args : List Opnd} : runOps P (⟨dst, act, args, tk, none⟩ :: os) keep s E H K = runAct P act (argsW E tk args) tk dst os keep s E H K := by
  unfold runOps runAct; rw [opsW]; unfold stepW; simp only [wantedW]
  cases act <;> first | rfl | skip
theorem ops_guard0 {act : Act} {args : List Opnd} {g : Nat} {b : Bool} : runOps P (⟨dst, act, args, tk, some (g, b)⟩ :: os) keep s E H K =
    guardW (getE E.l E.d g) b (runAct P act (argsW E tk args) tk dst os keep s E H K) (runOps P os keep s (E.setO dst (.tup [])) H K) := by
  unfold runOps runAct; rw [opsW]; unfold stepW guardW; simp only [wantedW]
  cases getE E.l E.d g <;> cases act <;> first | rfl | skip
theorem args_congr {E2 : En} (h : E.f = E2.f) : ∀ l : List Opnd, argsW E tk l = argsW E2 tk l := by
  intro l; rw [argsW_eq, argsW_eq, h]
theorem set_congr {E2 : En} (h : E.f = E2.f) (o : Option Nat) (v : V) : (E.setO o v).f = (E2.setO o v).f := by rw [En.setO_f, En.setO_f, h]
theorem strip_congr {E2 : En} (h : E.f = E2.f) (tk : List Nat) : (stripEn tk E).f = (stripEn tk E2).f := by rw [stripEn_f, stripEn_f, h]
theorem callX_congr {E2 : En} (h : E.f = E2.f) (b : CM) (f : Nat) (args : List V) (H : Heap) (F : V → Heap → Prop) : callX P b E f args H F = callX P b E2 f args H F := by
  cases b <;> first | rfl | (unfold callX; simp only; rw [show getE E.l E.d _ = getE E2.l E2.d _ from congrFun h _])
theorem baseW_congr {E2 : En} (h : E.f = E2.f) (o : Option Nat) (vs : List V) (A : Prop) : baseW E o vs A = baseW E2 o vs A := by
  cases o with
  | none => rfl
  | some s => unfold baseW; simp only; rw [show getE E.l E.d s = getE E2.l E2.d s from congrFun h s]
theorem opsW_congr {K1 K2 : En → Heap → Prop} (hk : ∀ (E1 E2 : En) H, E1.f = E2.f → K1 E1 H = K2 E2 H) : ∀ (os : List VOp) (E1 E2 : En) (H : Heap), E1.f = E2.f → opsW P os E1 H K1 = opsW P os E2 H K2
  | [], E1, E2, H, h => hk E1 E2 H h
  | o :: os, E1, E2, H, h => by
    have ih := opsW_congr hk os
    have hg : ∀ i, getE E1.l E1.d i = getE E2.l E2.d i := fun i => congrFun h i
    show stepW P o E1 H _ = stepW P o E2 H _
    have hf : opsW P os (E1.setO o.dst (.tup [])) H K1 = opsW P os (E2.setO o.dst (.tup [])) H K2 := ih _ _ _ (set_congr h _ _)
    have hr : ∀ (r : V) (H' : Heap), opsW P os ((stripEn o.take E1).setO o.dst r) H' K1 = opsW P os ((stripEn o.take E2).setO o.dst r) H' K2 := fun r H' => ih _ _ _ (set_congr (strip_congr h _) _ _)
    unfold stepW wantedW
    simp only [hg, args_congr h, hf, hr, callX_congr h, baseW_congr h]
theorem runOps_congr {E2 : En} (h : E.f = E2.f) : runOps P os keep s E H K = runOps P os keep s E2 H K := by
  unfold runOps
  refine opsW_congr (fun E1 E2 H h => ?_) _ _ _ _ h
  have : keepS E1 keep = keepS E2 keep := by
    unfold keepS
    congr 1
    apply List.map_congr_left
    intro i _
    rw [show getE E1.l E1.d i = getE E2.l E2.d i from congrFun h i]
  rw [this]
theorem runAct_congr {a : Act} {vs : List V} {E2 : En} (h : E.f = E2.f) : runAct P a vs tk dst os keep s E H K = runAct P a vs tk dst os keep s E2 H K := by
  have hr : ∀ (r : V) (H' : Heap), runOps P os keep s ((stripEn tk E).setO dst r) H' K = runOps P os keep s ((stripEn tk E2).setO dst r) H' K := fun r H' => runOps_congr (set_congr (strip_congr h _) _ _)
  unfold runAct
  simp only [hr, callX_congr h, baseW_congr h]
def guardE (v : V) (b : Bool) (A B C : Prop) : Prop := match v with
  | .bool c => (c = b → A) ∧ (c = (!b) → B)
  | .tup _ => C
  | _ => False
theorem ops_guard1 {l : List (Nat × V)} {d : V} {act : Act} {args : List Opnd} {g : Nat} {b : Bool} : runOps P (⟨dst, act, args, tk, some (g, b)⟩ :: os) keep s ⟨l, d⟩ H K =
    guardE (getE l d g) b (runAct P act (argsW ⟨(g, .bool b) :: l, d⟩ tk args) tk dst os keep s ⟨(g, .bool b) :: l, d⟩ H K)
      (runOps P os keep s (En.setO ⟨(g, .bool !b) :: l, d⟩ dst (.tup [])) H K) (runOps P os keep s (En.setO ⟨l, d⟩ dst (.tup [])) H K) := by
  rw [ops_guard0]
  unfold guardW guardE
  cases hg : getE l d g with
  | bool c =>
    have hext : ∀ c', c = c' → (⟨(g, .bool c') :: l, d⟩ : En).f = (⟨l, d⟩ : En).f := by
      rintro c' rfl
      funext i
      show getE ((g, V.bool c) :: l) d i = getE l d i
      rw [getE_cons]
      split
      · rename_i h; subst h; exact hg.symm
      · rfl
    simp only [hg]
    have e1 : (c = b → runAct P act (argsW ⟨l, d⟩ tk args) tk dst os keep s ⟨l, d⟩ H K) = (c = b → runAct P act (argsW ⟨(g, .bool b) :: l, d⟩ tk args) tk dst os keep s ⟨(g, .bool b) :: l, d⟩ H K) := by
      apply propext
      refine forall_congr' fun h => ?_
      rw [args_congr (hext b h), runAct_congr (hext b h)]
    have e2 : (c ≠ b → runOps P os keep s (En.setO ⟨l, d⟩ dst (.tup [])) H K) = (c = (!b) → runOps P os keep s (En.setO ⟨(g, .bool !b) :: l, d⟩ dst (.tup [])) H K) := by
      have : (c ≠ b) = (c = (!b)) := by cases c <;> cases b <;> simp
      rw [this]
      apply propext
      refine forall_congr' fun h => ?_
      rw [runOps_congr (set_congr (hext _ h) _ _)]
    rw [e1, e2]
  | _ => simp only [hg]
def guardD (P : Program) (v : V) (g : Nat) (b : Bool) (act : Act) (args : List Opnd) (tk : List Nat) (dst : Option Nat) (os : List VOp) (keep : List Nat) (s : List Fr) (l : List (Nat × V)) (d : V) (H : Heap) (K : KK) : Prop :=
  guardE v b (runAct P act (argsW ⟨(g, .bool b) :: l, d⟩ tk args) tk dst os keep s ⟨(g, .bool b) :: l, d⟩ H K)
      (runOps P os keep s (En.setO ⟨(g, .bool !b) :: l, d⟩ dst (.tup [])) H K) (runOps P os keep s (En.setO ⟨l, d⟩ dst (.tup [])) H K)
@[go_sem] theorem ops_guard {l : List (Nat × V)} {d : V} {act : Act} {args : List Opnd} {g : Nat} {b : Bool} : runOps P (⟨dst, act, args, tk, some (g, b)⟩ :: os) keep s ⟨l, d⟩ H K =
    guardD P (getE l d g) g b act args tk dst os keep s l d H K := ops_guard1
@[go_sem] theorem guardD_bool {c : Bool} {l : List (Nat × V)} {d : V} {act : Act} {args : List Opnd} {g : Nat} {b : Bool} : guardD P (.bool c) g b act args tk dst os keep s l d H K =
    if c = b then runAct P act (argsW ⟨(g, .bool b) :: l, d⟩ tk args) tk dst os keep s ⟨(g, .bool b) :: l, d⟩ H K else runOps P os keep s (En.setO ⟨(g, .bool !b) :: l, d⟩ dst (.tup [])) H K := by
  rw [iteP]
  unfold guardD guardE
  cases c <;> cases b <;> simp
@[go_sem] theorem guardD_tup {w : List V} {l : List (Nat × V)} {d : V} {act : Act} {args : List Opnd} {g : Nat} {b : Bool} : guardD P (.tup w) g b act args tk dst os keep s l d H K =
    runOps P os keep s (En.setO ⟨l, d⟩ dst (.tup [])) H K := (rfl)
@[go_sem] theorem args_nil : argsW E tk [] = [] := rfl
@[go_sem] theorem args_c {v : V} {l : List Opnd} : argsW E tk (.c v :: l) = v :: argsW E tk l := rfl
@[go_sem] theorem args_t {l : List (Nat × V)} {d : V} {i : Nat} {av : List Opnd} : argsW ⟨l, d⟩ tk (.t i :: av) = (if tk.contains i then getE l d i else strip (getE l d i)) :: argsW ⟨l, d⟩ tk av := rfl
@[go_sem] theorem set_some {l : List (Nat × V)} {d : V} {i : Nat} {v : V} : En.setO ⟨l, d⟩ (some i) v = ⟨(i, v) :: l, d⟩ := rfl
@[go_sem] theorem set_none {v : V} : En.setO E none v = E := rfl
@[go_sem] theorem stripEn_nil : stripEn [] E = E := rfl
@[go_sem] theorem stripEn_cons {l : List (Nat × V)} {d : V} {i : Nat} {is : List Nat} : stripEn (i :: is) ⟨l, d⟩ = stripEn is ⟨(i, strip (getE l d i)) :: l, d⟩ := rfl
@[go_sem] theorem strip_int {k : IntKind} {n : Int} : strip (.int k n) = .int k n := rfl
@[go_sem] theorem strip_bool {b : Bool} : strip (.bool b) = .bool b := rfl
@[go_sem] theorem strip_str {b : List UInt8} : strip (.str b) = .str b := rfl
@[go_sem] theorem strip_sl {o : Bool} {z : Nat} {xs : List (List V)} : strip (.sl o z xs) = .sl false z xs := rfl
@[go_sem] theorem strip_ptr {a b c : Nat} : strip (.ptr a b c) = .ptr a b c := rfl
@[go_sem] theorem strip_cptr {cs : List V} : strip (.cptr cs) = .cptr cs := rfl
@[go_sem] theorem strip_hsl {a b c d e : Nat} : strip (.hsl a b c d e) = .hsl a b c d e := rfl
@[go_sem] theorem strip_nilh {z : Nat} : strip (.nilh z) = .nilh z := rfl
@[go_sem] theorem strip_nilp : strip .nilp = .nilp := rfl
@[go_sem] theorem strip_u : strip .u = .u := rfl
@[go_sem] theorem strip_fr {z : Nat} {xs : List (List V)} : strip (.fr z xs) = .u := rfl
@[go_sem] theorem strip_fn {f : Nat} {cs : List V} : strip (.fn f cs) = .fn f cs := rfl
@[go_sem] theorem strip_agg {cs : List V} : strip (.agg cs) = .agg (cs.map strip0) := rfl
@[go_sem] theorem strip_tup {cs : List V} : strip (.tup cs) = .tup (cs.map stripA) := rfl
@[go_sem] theorem stripA_agg {cs : List V} : stripA (.agg cs) = .agg (cs.map strip0) := rfl
@[go_sem] theorem stripA_int {k : IntKind} {n : Int} : stripA (.int k n) = .int k n := rfl
@[go_sem] theorem stripA_bool {b : Bool} : stripA (.bool b) = .bool b := rfl
@[go_sem] theorem stripA_str {b : List UInt8} : stripA (.str b) = .str b := rfl
@[go_sem] theorem stripA_sl {o : Bool} {z : Nat} {xs : List (List V)} : stripA (.sl o z xs) = .sl false z xs := rfl
@[go_sem] theorem strip0_int {k : IntKind} {n : Int} : strip0 (.int k n) = .int k n := rfl
@[go_sem] theorem strip0_bool {b : Bool} : strip0 (.bool b) = .bool b := rfl
@[go_sem] theorem strip0_str {b : List UInt8} : strip0 (.str b) = .str b := rfl
@[go_sem] theorem strip0_sl {o : Bool} {z : Nat} {xs : List (List V)} : strip0 (.sl o z xs) = .sl false z xs := rfl
@[go_sem] theorem strip0_hsl {a b c d e : Nat} : strip0 (.hsl a b c d e) = .hsl a b c d e := rfl
@[go_sem] theorem strip0_ptr {a b c : Nat} : strip0 (.ptr a b c) = .ptr a b c := rfl
@[go_sem] theorem strip0_nilh {z : Nat} : strip0 (.nilh z) = .nilh z := rfl
@[go_sem] theorem strip0_nilp : strip0 .nilp = .nilp := rfl

@[go_sem] theorem run_call {f : Nat} {caps rest : List V} : runAct P (.call .wr) (.fn f caps :: rest) tk dst os keep s E H K =
    ∃ r H', T P f (rest ++ caps) H r H' ∧ runOps P os keep s ((stripEn tk E).setO dst r) H' K := (rfl)
@[go_sem] theorem run_callR {f : Nat} {caps rest : List V} : runAct P (.call .rd) (.fn f caps :: rest) tk dst os keep s E H K =
    ∃ r, T P f (rest ++ caps) H r H ∧ runOps P os keep s ((stripEn tk E).setO dst r) H K := (rfl)
@[go_sem] theorem run_callP {f : Nat} {caps rest : List V} : runAct P (.call .al) (.fn f caps :: rest) tk dst os keep s E H K =
    ∃ r, T P f (rest ++ caps) [] r [] ∧ idsL 0 (rest ++ caps) = true ∧ runOps P os keep s ((stripEn tk E).setO dst r) H K := (rfl)
@[go_sem] theorem run_callG {f : Nat} {caps rest : List V} : runAct P (.call .gr) (.fn f caps :: rest) tk dst os keep s E H K =
    ∃ r L, T P f (rest ++ caps) H r (H ++ L) ∧ runOps P os keep s ((stripEn tk E).setO dst r) (H ++ L) K := (rfl)
/-- A call that stays below the object that a slot points to. -/
theorem run_callF {t f : Nat} {caps rest : List V} : runAct P (.call (.fr t)) (.fn f caps :: rest) tk dst os keep s E H K =
    callB P (getE E.l E.d t) f (rest ++ caps) H fun r H' => runOps P os keep s ((stripEn tk E).setO dst r) H' K := (rfl)
@[go_sem] theorem run_callF' {t f : Nat} {caps rest : List V} {l : List (Nat × V)} {d : V} : runAct P (.call (.fr t)) (.fn f caps :: rest) tk dst os keep s ⟨l, d⟩ H K =
    callB P (getE l d t) f (rest ++ caps) H fun r H' => runOps P os keep s ((stripEn tk ⟨l, d⟩).setO dst r) H' K := (rfl)
@[go_sem] theorem callB_ptr {k v o f : Nat} {args : List V} {F : V → Heap → Prop} : callB P (.ptr k v o) f args H F = ∃ r A A' L, H = A ++ L ∧ A.length = k ∧ A'.length = k ∧ T P f args A r A' ∧ idsL k args = true ∧ A.all (idsO k) = true ∧ F r (A' ++ L) := (rfl)
@[go_sem] theorem run_callK' {t f : Nat} {caps rest : List V} {l : List (Nat × V)} {d : V} : runAct P (.call (.kp t)) (.fn f caps :: rest) tk dst os keep s ⟨l, d⟩ H K =
    callK P (getE l d t) f (rest ++ caps) H fun r H' => runOps P os keep s ((stripEn tk ⟨l, d⟩).setO dst r) H' K := (rfl)
@[go_sem] theorem callK_ptr {k v o f : Nat} {args : List V} {F : V → Heap → Prop} : callK P (.ptr k v o) f args H F = ∃ r H', T P f args H r H' ∧ (H.length ≤ H'.length ∧ ∀ i, k ≤ i → i < H.length → H'[i]? = H[i]?) ∧ F r H' := (rfl)
def runLoc (P : Program) (v : V) (a : Act) (vs : List V) (tk : List Nat) (dst : Option Nat) (os : List VOp) (keep : List Nat) (s : List Fr) (E : En) (H : Heap) (K : KK) : Prop := farOk v vs = true ∧ runAct P a vs tk dst os keep s E H K
@[go_sem] theorem runLoc_eq {v : V} {a : Act} {vs : List V} : runLoc P v a vs tk dst os keep s E H K = (farOk v vs = true ∧ runAct P a vs tk dst os keep s E H K) := (rfl)
theorem mkW_of {b : Bool} {l : List V} {K : V → Prop} {v : V} (h : mk b l = some v) (k : K v) : mkW b l K := by
  unfold mk at h
  split at h
  · cases h; exact k
  · cases h; exact ⟨_, rfl, k⟩
  · cases h
theorem cut_of {cs l : List V} {off n : Nat} (h : cut cs off n = some l) : off + n ≤ cs.length ∧ (cs.drop off).take n = l := by
  unfold cut at h
  split at h
  · rename_i hl; cases h; exact ⟨hl, rfl⟩
  · cases h
@[go_sem] theorem run_loadL {t n : Nat} {agg : Bool} {id ver off : Nat} {l : List (Nat × V)} {d : V} : runAct P (.loadL t n agg) [.ptr id ver off] tk dst os keep s ⟨l, d⟩ H K = runLoc P (getE l d t) (.load n agg) [.ptr id ver off] tk dst os keep s ⟨l, d⟩ H K := by
  unfold runLoc runAct baseW
  simp only [Act.base]
  congr 1
  apply propext
  constructor
  · rintro ⟨r, H', h, k⟩
    obtain ⟨cs, h1, h⟩ := Option.bind_eq_some_iff.1 (show (getCells H id ver).bind _ = _ from h)
    obtain ⟨c, h2, h⟩ := Option.bind_eq_some_iff.1 h
    obtain ⟨v, h3, h⟩ := Option.map_eq_some_iff.1 h
    cases h
    obtain ⟨q1, q2⟩ := cut_of h2
    exact ⟨cs, h1, q1, by rw [q2]; exact mkW_of h3 k⟩
  · intro h
    exact actW_sound (a := .load n agg) h
@[go_sem] theorem run_loadTL {t n : Nat} {agg : Bool} {id ver off : Nat} {l : List (Nat × V)} {d : V} : runAct P (.loadTL t n agg) [.ptr id ver off] tk dst os keep s ⟨l, d⟩ H K = runLoc P (getE l d t) (.loadT n agg) [.ptr id ver off] tk dst os keep s ⟨l, d⟩ H K := by
  unfold runLoc runAct baseW
  simp only [Act.base]
  congr 1
  apply propext
  constructor
  · rintro ⟨r, H', h, k⟩
    obtain ⟨cs, h1, h⟩ := Option.bind_eq_some_iff.1 (show (getCells H id ver).bind _ = _ from h)
    obtain ⟨c, h2, h⟩ := Option.bind_eq_some_iff.1 h
    obtain ⟨v, h3, h⟩ := Option.map_eq_some_iff.1 h
    cases h
    obtain ⟨q1, q2⟩ := cut_of h2
    exact ⟨cs, h1, q1, by rw [q2]; exact mkW_of h3 k⟩
  · intro h
    exact actW_sound (a := .loadT n agg) h
@[go_sem] theorem run_allocL {t : Nat} {zs : List V} {l : List (Nat × V)} {d : V} : runAct P (.allocL t zs) [] tk dst os keep s ⟨l, d⟩ H K = (farOk (getE l d t) [] = true ∧ runAct P (.alloc zs) [] tk dst os keep s ⟨l, d⟩ H K) := by
  unfold runAct baseW
  simp only [Act.base]
  congr 1
  apply propext
  constructor
  · rintro ⟨r, H', h, k⟩; cases h; exact k
  · intro k; exact ⟨_, _, rfl, k⟩
@[go_sem] theorem far_ptr {k v o id v' o' : Nat} {vs : List V} : (farOk (.ptr k v o) (.ptr id v' o' :: vs) = true) = (k ≤ id) := by simp [farOk]
@[go_sem] theorem far_nil {k v o : Nat} : (farOk (.ptr k v o) [] = true) = True := by simp [farOk]
@[go_sem] theorem run_mv {v : V} : runAct P .mv [v] tk dst os keep s E H K = runOps P os keep s ((stripEn tk E).setO dst v) H K := (rfl)
@[go_sem] theorem run_pick {c : Bool} {x y : V} : runAct P .pick [.bool c, x, y] tk dst os keep s E H K = if c = true then runOps P os keep s ((stripEn tk E).setO dst x) H K else runOps P os keep s ((stripEn tk E).setO dst y) H K := by
  rw [iteP]
  show ((c = true → _) ∧ (c = false → _)) = _
  cases c <;> simp
@[go_sem] theorem run_bin {op : BinOp} {j k : IntKind} {a b : Int} : runAct P (.bin op) [.int j a, .int k b] tk dst os keep s E H K = (j = k ∧ runInt P op j a b tk dst os keep s E H K) := (rfl)
@[go_sem] theorem run_add {k : IntKind} {a b : Int} : runInt P .add k a b tk dst os keep s E H K = ∃ z, z = k.wrap (a + b) ∧ runOps P os keep s ((stripEn tk E).setO dst (.int k z)) H K := (rfl)
@[go_sem] theorem run_sub {k : IntKind} {a b : Int} : runInt P .sub k a b tk dst os keep s E H K = ∃ z, z = k.wrap (a - b) ∧ runOps P os keep s ((stripEn tk E).setO dst (.int k z)) H K := (rfl)
@[go_sem] theorem run_mul {k : IntKind} {a b : Int} : runInt P .mul k a b tk dst os keep s E H K = ∃ z, z = k.wrap (a * b) ∧ runOps P os keep s ((stripEn tk E).setO dst (.int k z)) H K := (rfl)
@[go_sem] theorem run_quo {k : IntKind} {a b : Int} : runInt P .quo k a b tk dst os keep s E H K = (b ≠ 0 ∧ ∃ z, z = k.wrap (a.tdiv b) ∧ runOps P os keep s ((stripEn tk E).setO dst (.int k z)) H K) := (rfl)
@[go_sem] theorem run_rem {k : IntKind} {a b : Int} : runInt P .rem k a b tk dst os keep s E H K = (b ≠ 0 ∧ ∃ z, z = k.wrap (a.tmod b) ∧ z = a.tmod b ∧ runOps P os keep s ((stripEn tk E).setO dst (.int k z)) H K) := (rfl)
@[go_sem] theorem run_eql {k : IntKind} {a b : Int} : runInt P .eql k a b tk dst os keep s E H K = runOps P os keep s ((stripEn tk E).setO dst (.bool (a == b))) H K := (rfl)
@[go_sem] theorem run_neq {k : IntKind} {a b : Int} : runInt P .neq k a b tk dst os keep s E H K = runOps P os keep s ((stripEn tk E).setO dst (.bool (a != b))) H K := (rfl)
@[go_sem] theorem run_lss {k : IntKind} {a b : Int} : runInt P .lss k a b tk dst os keep s E H K = runOps P os keep s ((stripEn tk E).setO dst (.bool (decide (a < b)))) H K := (rfl)
@[go_sem] theorem run_leq {k : IntKind} {a b : Int} : runInt P .leq k a b tk dst os keep s E H K = runOps P os keep s ((stripEn tk E).setO dst (.bool (decide (a ≤ b)))) H K := (rfl)
@[go_sem] theorem run_gtr {k : IntKind} {a b : Int} : runInt P .gtr k a b tk dst os keep s E H K = runOps P os keep s ((stripEn tk E).setO dst (.bool (decide (a > b)))) H K := (rfl)
@[go_sem] theorem run_geq {k : IntKind} {a b : Int} : runInt P .geq k a b tk dst os keep s E H K = runOps P os keep s ((stripEn tk E).setO dst (.bool (decide (a ≥ b)))) H K := (rfl)
@[go_sem] theorem run_not {b : Bool} : runAct P .not [.bool b] tk dst os keep s E H K = runOps P os keep s ((stripEn tk E).setO dst (.bool !b)) H K := (rfl)
@[go_sem] theorem run_eqb {ne agg : Bool} {ks : List K3} {x y : V} : runAct P (.eqc ne agg ks) [x, y] tk dst os keep s E H K = ∃ b, eqV ks agg x y = some b ∧ runOps P os keep s ((stripEn tk E).setO dst (.bool (b != ne))) H K := (rfl)
@[go_sem] theorem eqV_b {x y : Bool} : eqV [.b] false (.bool x) (.bool y) = some ((x == y) && true) := rfl
theorem run_alloc {zs : List V} : runAct P (.alloc zs) [] tk dst os keep s E H K = runOps P os keep s ((stripEn tk E).setO dst (.ptr H.length 0 0)) (H ++ [.cells 0 zs]) K := (rfl)
theorem run_load {id ver off n : Nat} {agg : Bool} : runAct P (.load n agg) [.ptr id ver off] tk dst os keep s E H K =
    cellsW H id ver off n fun _ l => mkW agg (l.map strip0) fun v => runOps P os keep s ((stripEn tk E).setO dst v) H K := (rfl)
@[go_sem] theorem run_loadc1 {v : V} : runAct P (.load 1 false) [.cptr [v]] tk dst os keep s E H K = runOps P os keep s ((stripEn tk E).setO dst v) H K := by
  show (1 ≤ [v].length ∧ _) = _
  simp [mkW]
@[go_sem] theorem run_loadc {n : Nat} {cs : List V} : runAct P (.load n true) [.cptr cs] tk dst os keep s E H K = (n ≤ cs.length ∧ runOps P os keep s ((stripEn tk E).setO dst (.agg (cs.take n))) H K) := (rfl)
@[go_sem] theorem run_nilCheck {a b c : Nat} : runAct P .nilCheck [.ptr a b c] tk dst os keep s E H K = runOps P os keep s ((stripEn tk E).setO dst (.ptr a b c)) H K := (rfl)
@[go_sem] theorem run_fieldAddr {off a b c : Nat} : runAct P (.fieldAddr off) [.ptr a b c] tk dst os keep s E H K = runOps P os keep s ((stripEn tk E).setO dst (.ptr a b (c + off))) H K := (rfl)
@[go_sem] theorem run_fieldAddrc {off : Nat} {cs : List V} : runAct P (.fieldAddr off) [.cptr cs] tk dst os keep s E H K = runOps P os keep s ((stripEn tk E).setO dst (.cptr (cs.drop off))) H K := (rfl)
@[go_sem] theorem run_index {o : Bool} {z sz : Nat} {xs : List (List V)} {k : IntKind} {i : Int} : runAct P (.indexAddr sz) [.sl o z xs, .int k i] tk dst os keep s E H K =
    (z = sz ∧ 0 ≤ i ∧ ∃ x, xs[i.toNat]? = some x ∧ runOps P os keep s ((stripEn tk E).setO dst (.cptr x)) H K) := (rfl)
@[go_sem] theorem run_indexh {a b c ln z sz : Nat} {k : IntKind} {i : Int} : runAct P (.indexAddr sz) [.hsl a b c ln z, .int k i] tk dst os keep s E H K =
    (z = sz ∧ 0 ≤ i ∧ i < ln ∧ runOps P os keep s ((stripEn tk E).setO dst (.ptr a b (c + i.toNat * sz))) H K) := (rfl)
@[go_sem] theorem run_len {o : Bool} {z : Nat} {xs : List (List V)} : runAct P .len [.sl o z xs] tk dst os keep s E H K = runOps P os keep s ((stripEn tk E).setO dst (.int .i64 xs.length)) H K := (rfl)
@[go_sem] theorem run_lenh {a b c ln z : Nat} : runAct P .len [.hsl a b c ln z] tk dst os keep s E H K = runOps P os keep s ((stripEn tk E).setO dst (.int .i64 ln)) H K := (rfl)
@[go_sem] theorem run_lenn {z : Nat} : runAct P .len [.nilh z] tk dst os keep s E H K = runOps P os keep s ((stripEn tk E).setO dst (.int .i64 0)) H K := (rfl)
@[go_sem] theorem run_append {z z' sz bytes : Nat} {o : Bool} {xs ys : List (List V)} : runAct P (.append sz bytes) [.sl true z xs, .sl o z' ys] tk dst os keep s E H K =
    (z = sz ∧ z' = sz ∧ fits (xs.length + ys.length) bytes ∧ runOps P os keep s ((stripEn tk E).setO dst (.sl true z (xs ++ ys))) H K) := (rfl)
@[go_sem] theorem run_extract {i : Nat} {vs : List V} : runAct P (.extract i) [.tup vs] tk dst os keep s E H K = ∃ v, vs[i]? = some v ∧ runOps P os keep s ((stripEn tk E).setO dst v) H K := (rfl)
@[go_sem] theorem run_build1 {k : IntKind} {n : Int} : runAct P (.buildSl 1) [.int k n] tk dst os keep s E H K = runOps P os keep s ((stripEn tk E).setO dst (.sl true 1 [[.int k n]])) H K := by
  show (∃ r H', sBuildSl 1 [.int k n] H = some (r, H') ∧ _) = _
  simp only [sBuildSl, elems, solid, scal0, V.cells, inl, plain1, plain0, inl0, strip0, List.length_cons, List.length_nil, List.all_cons, List.all_nil, List.map_cons, List.map_nil, and_self, Bool.and_self, if_true, Option.map_some, Option.bind_some, Nat.zero_add, Option.some.injEq, Prod.mk.injEq]
  apply propext
  constructor
  · rintro ⟨r, H', ⟨rfl, rfl⟩, h⟩; exact h
  · intro h; exact ⟨_, _, ⟨rfl, rfl⟩, h⟩
end

theorem ex_map {α β : Type} {l : List α} {f : α → β} {i : Nat} {K : β → Prop} : (∃ x, (l.map f)[i]? = some x ∧ K x) = ∃ a, l[i]? = some a ∧ K (f a) := by
  simp only [List.getElem?_map, Option.map_eq_some_iff]
  apply propext
  constructor
  · rintro ⟨x, ⟨a, h1, rfl⟩, h2⟩; exact ⟨a, h1, h2⟩
  · rintro ⟨a, h1, h2⟩; exact ⟨_, ⟨a, h1, rfl⟩, h2⟩

/-- A loop, from what holds at each round's start. -/
theorem WP.loop' {P : Program} {a : VCode} {E : En} {H : Heap} {K : KK} (I : Nat → En → Heap → Prop) {n : Nat} (h : I n E H) (step : ∀ n E H, I n E H → run P a [] E H (seqW K fun E' H' => ∃ m, m < n ∧ I m E' H')) : WP P (.loop a) E H K := by
  refine WP.loop I (fun n E H hI => (wp_sound (step n E H hI)).mono ?_) h
  intro x E' H' k
  cases x with
  | normal => exact k
  | exit id => exact k
  | ret => exact k
@[go_sem] theorem seqW_normal {K : KK} {N : En → Heap → Prop} {E : En} {H : Heap} : seqW K N .normal E H = N E H := (rfl)
@[go_sem] theorem seqW_exit {K : KK} {N : En → Heap → Prop} {E : En} {H : Heap} {id : Nat} : seqW K N (.exit id) E H = K (.exit id) E H := (rfl)
@[go_sem] theorem seqW_ret {K : KK} {N : En → Heap → Prop} {E : En} {H : Heap} : seqW K N .ret E H = K .ret E H := (rfl)

/-- How a function ends: what it answers. -/
def endW (H0 : Heap) (rs : List VRes) (R : V → Prop) : KK := fun x E H => (match x with | .exit _ => False | _ => True) ∧ H = H0 ∧ ∃ r0, resV H0.length H0 E.f rs = some r0 ∧ ∃ r, fixV H0.length H0 8 r0 = some r ∧ R r
def endV (H0 : Heap) (E : En) (rs : List VRes) (R : V → Prop) : Prop := ∃ r0, resV H0.length H0 E.f rs = some r0 ∧ ∃ r, fixV H0.length H0 8 r0 = some r ∧ R r
@[go_sem] theorem endW_normal (H0 : Heap) (rs : List VRes) (R : V → Prop) (E : En) (H : Heap) : endW H0 rs R .normal E H = (H = H0 ∧ endV H0 E rs R) := by simp [endW, endV]
@[go_sem] theorem endW_ret (H0 : Heap) (rs : List VRes) (R : V → Prop) (E : En) (H : Heap) : endW H0 rs R .ret E H = (H = H0 ∧ endV H0 E rs R) := by simp [endW, endV]

theorem T.of {P : Program} (hmix : P.follows .mixedOrders = true) {f : Nat} {vf : VFunc} (hc : chkFn P f vf = true) {args : List V} {H : Heap} {r : V} (hl : Nat.ble args.length vf.n = true)
    (h : run P vf.body [] ⟨args.zipIdx.map fun p => (p.2, p.1), .tup []⟩ H (endW H vf.results fun r' => r' = r)) : T P f args H r H := by
  refine T.of_pure hmix hc (Nat.le_of_ble_eq_true hl) ((wp_sound h).mono ?_)
  rintro x E' H' ⟨h1, rfl, r0, h2, r', h3, rfl⟩
  refine ⟨?_, rfl, r0, h2, h3⟩
  intro id e; subst e; exact h1

@[go_sem] theorem endV_tmp (H0 : Heap) (l : List (Nat × V)) (d : V) (t : Nat) (R : V → Prop) : endV H0 ⟨l, d⟩ [.tmp t] R = ∃ r, fixV H0.length H0 8 (getE l d t) = some r ∧ R r := by
  simp [endV, resV, resL, res1, pack, En.f]
@[go_sem] theorem endV_two (H0 : Heap) (l : List (Nat × V)) (d : V) (t u : Nat) (R : V → Prop) : endV H0 ⟨l, d⟩ [.tmp t, .tmp u] R = ∃ r, fixV H0.length H0 8 (.tup [getE l d t, getE l d u]) = some r ∧ R r := by
  simp [endV, resV, resL, res1, pack, En.f]
@[go_sem] theorem endV_nil (H0 : Heap) (l : List (Nat × V)) (d : V) (R : V → Prop) : endV H0 ⟨l, d⟩ [] R = R (.tup []) := by
  simp [endV, resV, resL, pack, fixV]
@[go_sem] theorem fix_int (m : Nat) (H : Heap) (k : IntKind) (n : Int) : fixV m H 8 (.int k n) = some (.int k n) := rfl
@[go_sem] theorem fix_bool (m : Nat) (H : Heap) (b : Bool) : fixV m H 8 (.bool b) = some (.bool b) := rfl
@[go_sem] theorem fix_str (m : Nat) (H : Heap) (s : List UInt8) : fixV m H 8 (.str s) = some (.str s) := rfl
@[go_sem] theorem fix_sl (m : Nat) (H : Heap) (o : Bool) (z : Nat) (xs : List (List V)) : fixV m H 8 (.sl o z xs) = some (.sl o z xs) := rfl

theorem wrap64 {n : Int} (h1 : -9223372036854775808 ≤ n) (h2 : n < 9223372036854775808) : IntKind.i64.wrap n = n := by
  simp [IntKind.wrap, IntKind.bits, IntKind.signed]
  omega

attribute [go_sem] List.map_cons List.map_nil List.zipIdx_cons List.zipIdx_nil Nat.reduceAdd Nat.reduceEqDiff ite_true ite_false if_true if_false
  reduceCtorEq List.contains_nil Bool.false_eq_true true_and and_true List.contains_cons forall_const false_implies Option.some.injEq exists_eq_left' eq_self Nat.reduceBEq Bool.or_false Bool.or_true Bool.true_or Bool.false_or
  iteP decide_eq_true_eq Bool.not_eq_true decide_eq_false_iff_not ne_eq not_true_eq_false not_false_eq_true Bool.not_true Bool.not_false and_false false_and
end Go.Proofs.Ytneonbdlgmaofaa.Vm
namespace Go.Proofs.Ytneonbdlgmaofaa.Vm
open Go

section
variable {P : Program} {K : KK} {s : List Fr} {E : En} {H : Heap} {tk : List Nat} {dst : Option Nat} {os : List VOp} {keep : List Nat}

/-- Goes on with an answer. -/
def nextV (P : Program) (v : V) (tk : List Nat) (dst : Option Nat) (os : List VOp) (keep : List Nat) (s : List Fr) (E : En) (H : Heap) (K : KK) : Prop := runOps P os keep s ((stripEn tk E).setO dst v) H K
@[go_sem] theorem nextV_eq {v : V} : nextV P v tk dst os keep s E H K = runOps P os keep s ((stripEn tk E).setO dst v) H K := (rfl)

def loadO (P : Program) (x : Option V) (tk : List Nat) (dst : Option Nat) (os : List VOp) (keep : List Nat) (s : List Fr) (E : En) (H : Heap) (K : KK) : Prop := ∃ v, x = some v ∧ nextV P (strip0 v) tk dst os keep s E H K
@[go_sem] theorem loadO_some {v : V} : loadO P (some v) tk dst os keep s E H K = nextV P (strip0 v) tk dst os keep s E H K := by
  apply propext
  constructor
  · rintro ⟨v, h, k⟩; cases h; exact k
  · intro k; exact ⟨v, rfl, k⟩
@[go_sem] theorem loadO_map {α : Type} {l : List α} {f : α → V} {i : Nat} : loadO P (l.map f)[i]? tk dst os keep s E H K = ∃ a, l[i]? = some a ∧ nextV P (strip0 (f a)) tk dst os keep s E H K := ex_map
def loadG (P : Program) (x : Option (List V)) (off : Nat) (tk : List Nat) (dst : Option Nat) (os : List VOp) (keep : List Nat) (s : List Fr) (E : En) (H : Heap) (K : KK) : Prop :=
  ∃ cs, x = some cs ∧ loadO P cs[off]? tk dst os keep s E H K
@[go_sem] theorem loadG_some {cs : List V} {off : Nat} : loadG P (some cs) off tk dst os keep s E H K = loadO P cs[off]? tk dst os keep s E H K := by
  apply propext
  constructor
  · rintro ⟨v, h, k⟩; cases h; exact k
  · intro k; exact ⟨cs, rfl, k⟩
theorem cut_one {cs : List V} {off : Nat} {v : V} (h : cs[off]? = some v) : cut cs off 1 = some [v] := by
  have hl := (List.getElem?_eq_some_iff.1 h).1
  unfold cut
  rw [if_pos (by omega)]
  congr 1
  apply List.ext_getElem?
  intro i
  rw [List.getElem?_take]
  match i with
  | 0 => rw [if_pos (by omega), List.getElem?_drop, Nat.add_zero, h]; rfl
  | i + 1 => rw [if_neg (by omega)]; simp
theorem one_cut {cs : List V} {off : Nat} {l : List V} (h : cut cs off 1 = some l) : ∃ v, cs[off]? = some v ∧ l = [v] := by
  have hl : off + 1 ≤ cs.length := by
    unfold cut at h; split at h
    · assumption
    · cases h
  have h1 : cs[off]? = some cs[off] := List.getElem?_eq_getElem (by omega)
  rw [cut_one h1] at h
  cases h
  exact ⟨_, h1, rfl⟩
@[go_sem] theorem run_load1 {id ver off : Nat} : runAct P (.load 1 false) [.ptr id ver off] tk dst os keep s E H K = loadG P (getCells H id ver) off tk dst os keep s E H K := by
  apply propext
  constructor
  · rintro ⟨cs, h1, h2, v, h3, h4⟩
    have hc : cut cs off 1 = some ((cs.drop off).take 1) := by simp [cut, h2]
    obtain ⟨y, hu, he⟩ := one_cut hc
    rw [he] at h3
    cases h3
    exact ⟨cs, h1, y, hu, h4⟩
  · rintro ⟨cs, h1, y, hu, h4⟩
    have hl := (List.getElem?_eq_some_iff.1 hu).1
    have hc := cut_one hu
    unfold cut at hc
    rw [if_pos (by omega)] at hc
    have hc := Option.some.inj hc
    exact ⟨cs, h1, by omega, strip0 y, by rw [hc]; rfl, h4⟩


def loadA (P : Program) (n : Nat) (x : Option (List V)) (off : Nat) (tk : List Nat) (dst : Option Nat) (os : List VOp) (keep : List Nat) (s : List Fr) (E : En) (H : Heap) (K : KK) : Prop :=
  ∃ cs, x = some cs ∧ off + n ≤ cs.length ∧ nextV P (.agg (((cs.drop off).take n).map strip0)) tk dst os keep s E H K
@[go_sem] theorem loadA_some {n : Nat} {cs : List V} {off : Nat} : loadA P n (some cs) off tk dst os keep s E H K = (off + n ≤ cs.length ∧ nextV P (.agg (((cs.drop off).take n).map strip0)) tk dst os keep s E H K) := by
  apply propext
  constructor
  · rintro ⟨v, h, k⟩; cases h; exact k
  · intro k; exact ⟨cs, rfl, k⟩
@[go_sem] theorem run_loadA {id ver off n : Nat} : runAct P (.load n true) [.ptr id ver off] tk dst os keep s E H K = loadA P n (getCells H id ver) off tk dst os keep s E H K := (rfl)
@[go_sem] theorem run_alloc' {zs : List V} : runAct P (.alloc zs) [] tk dst os keep s E H K = nextV P (.ptr H.length 0 0) tk dst os keep s E (H ++ [.cells 0 zs]) K := (rfl)

/-- A load that takes what it finds along. -/
def loadT1 (P : Program) (x : Option V) (cs : List V) (id ver off : Nat) (tk : List Nat) (dst : Option Nat) (os : List VOp) (keep : List Nat) (s : List Fr) (E : En) (H : Heap) (K : KK) : Prop :=
  ∃ v, x = some v ∧ nextV P v tk dst os keep s E (H.set id (.cells ver (cs.set off (strip0 v)))) K
@[go_sem] theorem loadT1_some {v : V} {cs : List V} {id ver off : Nat} : loadT1 P (some v) cs id ver off tk dst os keep s E H K = nextV P v tk dst os keep s E (H.set id (.cells ver (cs.set off (strip0 v)))) K := by
  apply propext
  constructor
  · rintro ⟨v, h, k⟩; cases h; exact k
  · intro k; exact ⟨v, rfl, k⟩
@[go_sem] theorem loadT1_map {α : Type} {l : List α} {f : α → V} {i : Nat} {cs : List V} {id ver off : Nat} : loadT1 P (l.map f)[i]? cs id ver off tk dst os keep s E H K = ∃ a, l[i]? = some a ∧ nextV P (f a) tk dst os keep s E (H.set id (.cells ver (cs.set off (strip0 (f a))))) K := ex_map
def loadTG (P : Program) (x : Option (List V)) (id ver off : Nat) (tk : List Nat) (dst : Option Nat) (os : List VOp) (keep : List Nat) (s : List Fr) (E : En) (H : Heap) (K : KK) : Prop :=
  ∃ cs, x = some cs ∧ loadT1 P cs[off]? cs id ver off tk dst os keep s E H K
@[go_sem] theorem loadTG_some {cs : List V} {id ver off : Nat} : loadTG P (some cs) id ver off tk dst os keep s E H K = loadT1 P cs[off]? cs id ver off tk dst os keep s E H K := by
  apply propext
  constructor
  · rintro ⟨v, h, k⟩; cases h; exact k
  · intro k; exact ⟨cs, rfl, k⟩
theorem put_one {cs : List V} {off : Nat} {v : V} (h : off < cs.length) : put cs off [v] = cs.set off v := by
  unfold put
  rw [List.set_eq_take_append_cons_drop, if_pos h]
  simp
@[go_sem] theorem run_loadT1 {id ver off : Nat} : runAct P (.loadT 1 false) [.ptr id ver off] tk dst os keep s E H K = loadTG P (getCells H id ver) id ver off tk dst os keep s E H K := by
  apply propext
  constructor
  · rintro ⟨cs, h1, h2, v, h3, h4⟩
    have hc : cut cs off 1 = some ((cs.drop off).take 1) := by simp [cut, h2]
    obtain ⟨x, hx, he⟩ := one_cut hc
    have hl := (List.getElem?_eq_some_iff.1 hx).1
    rw [he] at h3 h4
    cases h3
    simp only [List.map_cons, List.map_nil] at h4
    rw [put_one hl] at h4
    exact ⟨cs, h1, _, hx, h4⟩
  · rintro ⟨cs, h1, x, hx, h4⟩
    have hl := (List.getElem?_eq_some_iff.1 hx).1
    have hc := cut_one hx
    unfold cut at hc
    rw [if_pos (by omega)] at hc
    have hc := Option.some.inj hc
    refine ⟨cs, h1, by omega, x, hc, ?_⟩
    rw [hc]
    simp only [List.map_cons, List.map_nil]
    rw [put_one hl]
    exact h4

/-- A store. -/
def storeG (P : Program) (x : Option (List V)) (id ver off : Nat) (v : V) (tk : List Nat) (dst : Option Nat) (os : List VOp) (keep : List Nat) (s : List Fr) (E : En) (H : Heap) (K : KK) : Prop :=
  ∃ cs, x = some cs ∧ off < cs.length ∧ nextV P (.tup []) tk dst os keep s E (H.set id (.cells ver (cs.set off v))) K
@[go_sem] theorem storeG_some {cs : List V} {id ver off : Nat} {v : V} : storeG P (some cs) id ver off v tk dst os keep s E H K = (off < cs.length ∧ nextV P (.tup []) tk dst os keep s E (H.set id (.cells ver (cs.set off v))) K) := by
  apply propext
  constructor
  · rintro ⟨v, h, k⟩; cases h; exact k
  · intro k; exact ⟨cs, rfl, k⟩
theorem store_plain {id ver off : Nat} {v : V} (hs : scal0 v = true) (hf : ∀ z xs, v ≠ .fr z xs) : runAct P (.store 1) [.ptr id ver off, v] tk dst os keep s E H K = storeG P (getCells H id ver) id ver off v tk dst os keep s E H K := by
  have hcells : v.cells = [v] := by cases v <;> first | rfl | cases hs
  have hth : thawL [v] H = ([v], H) := by cases v <;> first | rfl | exact absurd rfl (hf _ _)
  have hsol : solid v = true := by cases v <;> first | rfl | cases hs
  have e : sStore 1 [.ptr id ver off, v] H = (getCells H id ver).bind fun cs => if off + 1 ≤ cs.length then some (.tup [], H.set id (.cells ver (put cs off [v]))) else none := by
    simp [sStore, hcells, hth, hsol, hs]
  show (∃ r H', sStore 1 [.ptr id ver off, v] H = some (r, H') ∧ _) = _
  rw [e]
  apply propext
  constructor
  · rintro ⟨r, H', h, k⟩
    obtain ⟨cs, h1, h⟩ := Option.bind_eq_some_iff.1 h
    split at h
    · rename_i hl
      cases h
      rw [put_one (by omega)] at k
      exact ⟨cs, h1, by omega, k⟩
    · cases h
  · rintro ⟨cs, h1, hl, k⟩
    refine ⟨.tup [], _, ?_, k⟩
    rw [h1, Option.bind_some, if_pos (by omega), put_one hl]
@[go_sem] theorem store_int {id ver off : Nat} {k : IntKind} {n : Int} : runAct P (.store 1) [.ptr id ver off, .int k n] tk dst os keep s E H K = storeG P (getCells H id ver) id ver off (.int k n) tk dst os keep s E H K := store_plain rfl (by simp)
@[go_sem] theorem store_bool {id ver off : Nat} {b : Bool} : runAct P (.store 1) [.ptr id ver off, .bool b] tk dst os keep s E H K = storeG P (getCells H id ver) id ver off (.bool b) tk dst os keep s E H K := store_plain rfl (by simp)
@[go_sem] theorem store_str {id ver off : Nat} {b : List UInt8} : runAct P (.store 1) [.ptr id ver off, .str b] tk dst os keep s E H K = storeG P (getCells H id ver) id ver off (.str b) tk dst os keep s E H K := store_plain rfl (by simp)
@[go_sem] theorem store_sl {id ver off : Nat} {o : Bool} {z : Nat} {xs : List (List V)} : runAct P (.store 1) [.ptr id ver off, .sl o z xs] tk dst os keep s E H K = storeG P (getCells H id ver) id ver off (.sl o z xs) tk dst os keep s E H K := store_plain rfl (by simp)
@[go_sem] theorem store_hsl {id ver off a b c d e : Nat} : runAct P (.store 1) [.ptr id ver off, .hsl a b c d e] tk dst os keep s E H K = storeG P (getCells H id ver) id ver off (.hsl a b c d e) tk dst os keep s E H K := store_plain rfl (by simp)
@[go_sem] theorem store_ptr {id ver off a b c : Nat} : runAct P (.store 1) [.ptr id ver off, .ptr a b c] tk dst os keep s E H K = storeG P (getCells H id ver) id ver off (.ptr a b c) tk dst os keep s E H K := store_plain rfl (by simp)
@[go_sem] theorem store_nilp {id ver off : Nat} : runAct P (.store 1) [.ptr id ver off, .nilp] tk dst os keep s E H K = storeG P (getCells H id ver) id ver off .nilp tk dst os keep s E H K := store_plain rfl (by simp)
@[go_sem] theorem store_nilh {id ver off z : Nat} : runAct P (.store 1) [.ptr id ver off, .nilh z] tk dst os keep s E H K = storeG P (getCells H id ver) id ver off (.nilh z) tk dst os keep s E H K := store_plain rfl (by simp)

@[go_sem] theorem thaw_fr {z : Nat} {xs : List (List V)} : runAct P .thaw [.fr z xs] tk dst os keep s E H K = nextV P (.hsl H.length 0 0 xs.length z) tk dst os keep s E (H ++ [.cells 0 xs.flatten]) K := by
  show (∃ r H', sThaw [.fr z xs] H = some (r, H') ∧ _) = _
  apply propext
  constructor
  · rintro ⟨r, H', h, k⟩; cases h; exact k
  · intro k; exact ⟨_, _, rfl, k⟩
@[go_sem] theorem thaw_hsl {a b c d e : Nat} : runAct P .thaw [.hsl a b c d e] tk dst os keep s E H K = nextV P (.hsl a b c d e) tk dst os keep s E H K := by
  show (∃ r H', sThaw [.hsl a b c d e] H = some (r, H') ∧ _) = _
  apply propext
  constructor
  · rintro ⟨r, H', h, k⟩; cases h; exact k
  · intro k; exact ⟨_, _, rfl, k⟩
@[go_sem] theorem thaw_sl {o : Bool} {z : Nat} {xs : List (List V)} : runAct P .thaw [.sl o z xs] tk dst os keep s E H K = nextV P (.sl o z xs) tk dst os keep s E H K := by
  show (∃ r H', sThaw [.sl o z xs] H = some (r, H') ∧ _) = _
  apply propext
  constructor
  · rintro ⟨r, H', h, k⟩; cases h; exact k
  · intro k; exact ⟨_, _, rfl, k⟩
theorem ite_next {c : Prop} [Decidable c] {v : V} {H1 : Heap} {F : V → Heap → Prop} : (∃ r H', (if c then some (v, H1) else none) = some (r, H') ∧ F r H') = (c ∧ F v H1) := by
  apply propext
  constructor
  · rintro ⟨r, H', h, k⟩
    split at h
    · rename_i hc; cases h; exact ⟨hc, k⟩
    · cases h
  · rintro ⟨hc, k⟩; exact ⟨_, _, by rw [if_pos hc], k⟩
@[go_sem] theorem run_makeH {sz bytes : Nat} {zs : List V} {j k : IntKind} {n c : Int} : runAct P (.makeH sz bytes zs) [.int j n, .int k c] tk dst os keep s E H K =
    ((n = c ∧ 0 ≤ n ∧ bytes * n ≤ 281474976710656 ∧ n ≤ 9223372036854775807) ∧ nextV P (.hsl H.length 0 0 n.toNat sz) tk dst os keep s E (H ++ [.cells 0 (List.replicate n.toNat zs).flatten]) K) := ite_next
@[go_sem] theorem run_makeSl {sz bytes : Nat} {zs : List V} {j k : IntKind} {n c : Int} : runAct P (.makeSl sz bytes zs) [.int j n, .int k c] tk dst os keep s E H K =
    ((n = c ∧ 0 ≤ n ∧ bytes * n ≤ 281474976710656 ∧ n ≤ 9223372036854775807) ∧ nextV P (.fr sz (List.replicate n.toNat zs)) tk dst os keep s E H K) := ite_next
@[go_sem] theorem run_buildFr1 {k : IntKind} {n : Int} : runAct P (.buildFr 1) [.int k n] tk dst os keep s E H K = nextV P (.fr 1 [[.int k n]]) tk dst os keep s E H K := by
  show (∃ r H', sBuildFr 1 [.int k n] H = some (r, H') ∧ _) = _
  have : sBuildFr 1 [.int k n] H = some (.fr 1 [[.int k n]], H) := by simp [sBuildFr, elems, solid, scal0, V.cells, inl, plain1, plain0, inl0, strip0]
  rw [this]
  apply propext
  constructor
  · rintro ⟨r, H', h, k⟩; cases h; exact k
  · intro k; exact ⟨_, _, rfl, k⟩

def appG (P : Program) (x : Option (List V)) (id ver ln sz : Nat) (ys : List (List V)) (tk : List Nat) (dst : Option Nat) (os : List VOp) (keep : List Nat) (s : List Fr) (E : En) (H : Heap) (K : KK) : Prop :=
  ∃ cs, x = some cs ∧ ln * sz ≤ cs.length ∧ nextV P (.hsl id (ver + 1) 0 (ln + ys.length) sz) tk dst os keep s E (H.set id (.cells (ver + 1) (cs.take (ln * sz) ++ ys.flatten))) K
@[go_sem] theorem appG_some {cs : List V} {id ver ln sz : Nat} {ys : List (List V)} : appG P (some cs) id ver ln sz ys tk dst os keep s E H K =
    (ln * sz ≤ cs.length ∧ nextV P (.hsl id (ver + 1) 0 (ln + ys.length) sz) tk dst os keep s E (H.set id (.cells (ver + 1) (cs.take (ln * sz) ++ ys.flatten))) K) := by
  apply propext
  constructor
  · rintro ⟨v, h, k⟩; cases h; exact k
  · intro k; exact ⟨cs, rfl, k⟩
@[go_sem] theorem run_appendH {id ver ln z z' sz bytes : Nat} {o : Bool} {ys : List (List V)} : runAct P (.appendH sz bytes) [.hsl id ver 0 ln z, .sl o z' ys] tk dst os keep s E H K =
    (z = sz ∧ z' = sz ∧ fits (ln + ys.length) bytes ∧ appG P (getCells H id ver) id ver ln sz ys tk dst os keep s E H K) := by
  have e : sAppendH sz bytes [.hsl id ver 0 ln z, .sl o z' ys] H = if z = sz ∧ z' = sz ∧ fits (ln + ys.length) bytes then (getCells H id ver).bind fun cs => if ln * sz ≤ cs.length then
      some (.hsl id (ver + 1) 0 (ln + ys.length) sz, H.set id (.cells (ver + 1) (cs.take (ln * sz) ++ ys.flatten))) else none else none := by
    simp only [sAppendH, true_and]
    split
    · congr 1
      funext cs
      simp only [cut, Nat.zero_add, List.drop_zero]
      split <;> rfl
    · rfl
  show (∃ r H', sAppendH sz bytes [.hsl id ver 0 ln z, .sl o z' ys] H = some (r, H') ∧ _) = _
  rw [e]
  apply propext
  constructor
  · rintro ⟨r, H', h, k⟩
    split at h
    · rename_i hc
      obtain ⟨cs, h1, h⟩ := Option.bind_eq_some_iff.1 h
      split at h
      · rename_i hl
        cases h
        exact ⟨hc.1, hc.2.1, hc.2.2, cs, h1, hl, k⟩
      · cases h
    · cases h
  · rintro ⟨h1, h2, h3, cs, h4, h5, k⟩
    refine ⟨_, _, ?_, k⟩
    rw [if_pos ⟨h1, h2, h3⟩, h4, Option.bind_some, if_pos h5]
@[go_sem] theorem run_appendN {z z' sz bytes : Nat} {o : Bool} {ys : List (List V)} : runAct P (.appendH sz bytes) [.nilh z, .sl o z' ys] tk dst os keep s E H K =
    ((z = sz ∧ z' = sz ∧ 0 < ys.length ∧ fits ys.length bytes) ∧ nextV P (.fr sz ys) tk dst os keep s E H K) := ite_next
@[go_sem] theorem slice_ft {o : Bool} {z sz : Nat} {xs : List (List V)} {k : IntKind} {x : Int} : runAct P (.slice false true sz) [.sl o z xs, .int k x] tk dst os keep s E H K =
    (z = sz ∧ 0 ≤ x ∧ x ≤ xs.length ∧ nextV P (.sl false z ((xs.take x.toNat).drop 0)) tk dst os keep s E H K) := (rfl)
@[go_sem] theorem slice_tf {o : Bool} {z sz : Nat} {xs : List (List V)} {k : IntKind} {x : Int} : runAct P (.slice true false sz) [.sl o z xs, .int k x] tk dst os keep s E H K =
    (z = sz ∧ 0 ≤ x ∧ x ≤ xs.length ∧ nextV P (.sl false z ((xs.take xs.length).drop x.toNat)) tk dst os keep s E H K) := (rfl)
@[go_sem] theorem slice_tt {o : Bool} {z sz : Nat} {xs : List (List V)} {j k : IntKind} {l h : Int} : runAct P (.slice true true sz) [.sl o z xs, .int j l, .int k h] tk dst os keep s E H K =
    (z = sz ∧ 0 ≤ l ∧ l ≤ h ∧ h ≤ xs.length ∧ nextV P (.sl false z ((xs.take h.toNat).drop l.toNat)) tk dst os keep s E H K) := (rfl)
@[go_sem] theorem sliceh_ft {id ver off ln z sz : Nat} {k : IntKind} {x : Int} : runAct P (.slice false true sz) [.hsl id ver off ln z, .int k x] tk dst os keep s E H K =
    ((z = sz ∧ 0 ≤ x ∧ x ≤ ln) ∧ nextV P (.hsl id ver off x.toNat z) tk dst os keep s E H K) := by
  have e : sSlice false true sz [.hsl id ver off ln z, .int k x] H = if z = sz ∧ 0 ≤ x ∧ x ≤ ln then some (.hsl id ver off x.toNat z, H) else none := by
    simp only [sSlice, bounds]
    by_cases h1 : z = sz
    · by_cases h2 : 0 ≤ x ∧ x ≤ ln
      · simp [h1, h2]
        omega
      · simp [h1, h2]
    · simp [h1]
  show (∃ r H', sSlice false true sz [.hsl id ver off ln z, .int k x] H = some (r, H') ∧ _) = _
  rw [e]
  exact ite_next
end
end Go.Proofs.Ytneonbdlgmaofaa.Vm
namespace Go.Proofs.Ytneonbdlgmaofaa.Vm
open Go

@[go_sem] theorem fixd_int (m : Nat) (H : Heap) (d : Nat) (k : IntKind) (n : Int) : fixV m H (d + 1) (.int k n) = some (.int k n) := rfl
@[go_sem] theorem fixd_bool (m : Nat) (H : Heap) (d : Nat) (b : Bool) : fixV m H (d + 1) (.bool b) = some (.bool b) := rfl
@[go_sem] theorem fixd_str (m : Nat) (H : Heap) (d : Nat) (s : List UInt8) : fixV m H (d + 1) (.str s) = some (.str s) := rfl
@[go_sem] theorem fixd_sl (m : Nat) (H : Heap) (d : Nat) (o : Bool) (z : Nat) (xs : List (List V)) : fixV m H (d + 1) (.sl o z xs) = some (.sl o z xs) := rfl
@[go_sem] theorem fixd_tup0 (m : Nat) (H : Heap) (d : Nat) : fixV m H (d + 1) (.tup []) = some (.tup []) := by simp [fixV]
theorem fixd_tup2 (m : Nat) (H : Heap) (d : Nat) (a b : V) : fixV m H (d + 1) (.tup [a, b]) = (fixV m H d a).bind fun a' => (fixV m H d b).map fun b' => .tup [a', b'] := by
  simp only [fixV, List.mapM_cons, List.mapM_nil]
  cases fixV m H d a <;> simp
  cases fixV m H d b <;> simp

/-- How a function that began in an empty heap ends. -/
def end0 (rs : List VRes) (R : V → Prop) : KK := fun x E H => (match x with | .exit _ => False | _ => True) ∧ ∃ r0, resV 0 H E.f rs = some r0 ∧ ∃ r, fixV 0 H 8 r0 = some r ∧ R r
def fin0 (H : Heap) (v : V) (R : V → Prop) : Prop := ∃ r, fixV 0 H 8 v = some r ∧ R r
section
variable {R : V → Prop} {l : List (Nat × V)} {d : V} {H : Heap} {t u : Nat}
@[go_sem] theorem end0_tmp : end0 [.tmp t] R .ret ⟨l, d⟩ H = fin0 H (getE l d t) R := by simp [end0, fin0, resV, resL, res1, pack, En.f]
@[go_sem] theorem end0_tmpN : end0 [.tmp t] R .normal ⟨l, d⟩ H = fin0 H (getE l d t) R := by simp [end0, fin0, resV, resL, res1, pack, En.f]
@[go_sem] theorem end0_two : end0 [.tmp t, .tmp u] R .ret ⟨l, d⟩ H = fin0 H (.tup [getE l d t, getE l d u]) R := by simp [end0, fin0, resV, resL, res1, pack, En.f]
@[go_sem] theorem end0_twoN : end0 [.tmp t, .tmp u] R .normal ⟨l, d⟩ H = fin0 H (.tup [getE l d t, getE l d u]) R := by simp [end0, fin0, resV, resL, res1, pack, En.f]
@[go_sem] theorem fin0_int {k : IntKind} {n : Int} : fin0 H (.int k n) R = R (.int k n) := by simp [fin0, fixV]
@[go_sem] theorem fin0_bool {b : Bool} : fin0 H (.bool b) R = R (.bool b) := by simp [fin0, fixV]
@[go_sem] theorem fin0_sl {o : Bool} {z : Nat} {xs : List (List V)} : fin0 H (.sl o z xs) R = R (.sl o z xs) := by simp [fin0, fixV]
@[go_sem] theorem fin0_slint {o : Bool} {z : Nat} {xs : List (List V)} {k : IntKind} {n : Int} : fin0 H (.tup [.sl o z xs, .int k n]) R = R (.tup [.sl o z xs, .int k n]) := by
  simp [fin0, fixd_tup2, fixd_sl, fixd_int]
end

theorem T.of0 {P : Program} (hmix : P.follows .mixedOrders = true) {f : Nat} {vf : VFunc} (hc : chkFn P f vf = true) {args : List V} {r : V} (hl : Nat.ble args.length vf.n = true)
    (h : run P vf.body [] ⟨args.zipIdx.map fun p => (p.2, p.1), .tup []⟩ [] (end0 vf.results fun r' => r' = r)) : T P f args [] r [] := by
  refine T.of_wp hmix hc (Nat.le_of_ble_eq_true hl) ((wp_sound h).mono ?_)
  rintro x E' H' ⟨h1, r0, h2, r', h3, rfl⟩
  refine ⟨?_, Nat.zero_le _, fun i ob hi _ => absurd hi (Nat.not_lt_zero i), r0, h2, h3⟩
  intro id e; subst e; exact h1

attribute [go_sem] List.nil_append List.cons_append List.length_cons List.length_nil List.length_append List.getElem?_cons_zero List.getElem?_cons_succ List.set_cons_zero List.set_cons_succ List.append_nil Nat.zero_add Nat.add_zero List.length_map List.length_replicate
end Go.Proofs.Ytneonbdlgmaofaa.Vm
namespace Go.Proofs.Ytneonbdlgmaofaa.Vm
open Go

/-- How a function ends that may change the heap: up to m all is kept. -/
def endX (m : Nat) (H0 : Heap) (rs : List VRes) (R : V → Heap → Prop) : KK := fun x E H => (match x with | .exit _ => False | _ => True) ∧
  H0.length ≤ m ∧ m ≤ H.length ∧ (∀ (i : Nat) (ob : Obj), i < m → H[i]? = some ob → H0[i]? = some ob ∨ idsO m ob = true) ∧ ∃ r0, resV m H E.f rs = some r0 ∧ ∃ r, fixV m H 8 r0 = some r ∧ R r (H.take m)
theorem T.of_ex {P : Program} (hmix : P.follows .mixedOrders = true) {f : Nat} {vf : VFunc} (hc : chkFn P f vf = true) {args : List V} {H : Heap} {R : V → Heap → Prop} (m : Nat) (hl : Nat.ble args.length vf.n = true)
    (h : run P vf.body [] ⟨args.zipIdx.map fun p => (p.2, p.1), .tup []⟩ H (endX m H vf.results R)) : ∃ r H', T P f args H r H' ∧ R r H' := by
  obtain ⟨x, E1, H1, h1, h2, h3, h4, h5, r0, h6, r, h7, h8⟩ := wp_sound h
  rw [env0_eq] at h1
  refine ⟨r, H1.take m, T_of hmix hc (Nat.le_of_ble_eq_true hl) h1 ?_ h3 h4 h6 h7 h5, h8⟩
  intro id e; subst e; exact h2
theorem T.of_h {P : Program} (hmix : P.follows .mixedOrders = true) {f : Nat} {vf : VFunc} (hc : chkFn P f vf = true) {args : List V} {H H' : Heap} {r : V} (m : Nat) (hl : Nat.ble args.length vf.n = true)
    (h : run P vf.body [] ⟨args.zipIdx.map fun p => (p.2, p.1), .tup []⟩ H (endX m H vf.results fun r1 H1 => r1 = r ∧ H1 = H')) : T P f args H r H' := by
  obtain ⟨r, H', h1, rfl, rfl⟩ := T.of_ex hmix hc m hl h
  exact h1
/-- At the end all objects that stay name only such. -/
def allIds (m : Nat) (H : Heap) : Bool := H.all (idsO m)
theorem endX_of {m : Nat} {H0 : Heap} {rs : List VRes} {R : V → Heap → Prop} {x : X} {E : En} {H : Heap} (hx : (match x with | .exit _ => False | _ => True)) (h1 : H0.length ≤ m) (h2 : m ≤ H.length) (h3 : allIds m (H.take m) = true)
    {r0 r : V} (h4 : resV m H E.f rs = some r0) (h5 : fixV m H 8 r0 = some r) (h6 : R r (H.take m)) : endX m H0 rs R x E H := by
  refine ⟨hx, h1, h2, fun i ob hi hob => .inr ?_, r0, h4, r, h5, h6⟩
  refine List.all_eq_true.1 h3 ob ?_
  exact List.mem_of_getElem? (by rw [List.getElem?_take, if_pos hi]; exact hob)
theorem idsL_all {m : Nat} : ∀ {l : List V}, idsL m l = l.all (idsV m)
  | [] => rfl
  | v :: l => by rw [idsL, List.all_cons, idsL_all]

def plainC : V → Bool
  | .fr _ _ => false
  | v => scal0 v
section
variable {P : Program} {K : KK} {s : List Fr} {E : En} {H : Heap} {tk : List Nat} {dst : Option Nat} {os : List VOp} {keep : List Nat}
@[go_sem] theorem plainC_int {k : IntKind} {n : Int} : plainC (.int k n) = true := (rfl)
@[go_sem] theorem plainC_bool {b : Bool} : plainC (.bool b) = true := (rfl)
@[go_sem] theorem plainC_str {b : List UInt8} : plainC (.str b) = true := (rfl)
@[go_sem] theorem plainC_sl {o : Bool} {z : Nat} {xs : List (List V)} : plainC (.sl o z xs) = true := (rfl)
@[go_sem] theorem plainC_hsl {a b c d e : Nat} : plainC (.hsl a b c d e) = true := (rfl)
@[go_sem] theorem plainC_ptr {a b c : Nat} : plainC (.ptr a b c) = true := (rfl)
@[go_sem] theorem plainC_nilh {a : Nat} : plainC (.nilh a) = true := (rfl)
@[go_sem] theorem plainC_nilp : plainC .nilp = true := (rfl)
@[go_sem] theorem scal0_int {k : IntKind} {n : Int} : scal0 (.int k n) = true := (rfl)
@[go_sem] theorem scal0_bool {b : Bool} : scal0 (.bool b) = true := (rfl)
@[go_sem] theorem scal0_str {b : List UInt8} : scal0 (.str b) = true := (rfl)
@[go_sem] theorem scal0_sl {o : Bool} {z : Nat} {xs : List (List V)} : scal0 (.sl o z xs) = true := (rfl)
@[go_sem] theorem scal0_hsl {a b c d e : Nat} : scal0 (.hsl a b c d e) = true := (rfl)
@[go_sem] theorem scal0_fr {z : Nat} {xs : List (List V)} : scal0 (.fr z xs) = true := (rfl)
@[go_sem] theorem scal0_ptr {a b c : Nat} : scal0 (.ptr a b c) = true := (rfl)
@[go_sem] theorem scal0_nilh {a : Nat} : scal0 (.nilh a) = true := (rfl)
@[go_sem] theorem scal0_nilp : scal0 .nilp = true := (rfl)

@[go_sem] theorem fillV_nil {zs : List V} : fillV zs [] [] = some zs := rfl
@[go_sem] theorem fillV_one {zs vs : List V} {off : Nat} {ps : List (Nat × Nat)} {v : V} (h : scal0 v = true) : fillV zs ((off, 1) :: ps) (v :: vs) = if off < zs.length then fillV (zs.set off v) ps vs else none := by
  have hcells : v.cells = [v] := by cases v <;> first | rfl | cases h
  have hsol : solid v = true := by cases v <;> first | rfl | cases h
  rw [fillV, hcells]
  by_cases hl : off < zs.length
  · rw [if_pos ⟨hsol, rfl, by omega⟩, if_pos hl, put_one hl]
  · rw [if_neg (fun hh => hl (by have := hh.2.2; omega)), if_neg hl]
def exO (x : Option (List V)) (F : List V → Prop) : Prop := ∃ cs, x = some cs ∧ F cs
@[go_sem] theorem exO_some {cs : List V} {F : List V → Prop} : exO (some cs) F = F cs := by
  apply propext
  constructor
  · rintro ⟨_, h, k⟩; cases h; exact k
  · intro k; exact ⟨_, rfl, k⟩
@[go_sem] theorem run_build {zs : List V} {ps : List (Nat × Nat)} {vs : List V} : runAct P (.build zs ps) vs tk dst os keep s E H K = exO (fillV zs ps vs) fun cs => nextV P (.agg cs) tk dst os keep s E H K := by
  show (∃ r H', sBuild zs ps vs H = some (r, H') ∧ _) = _
  apply propext
  constructor
  · rintro ⟨r, H', h, k⟩
    obtain ⟨cs, h1, h2⟩ := Option.map_eq_some_iff.1 h
    cases h2; exact ⟨cs, h1, k⟩
  · rintro ⟨cs, h1, k⟩
    exact ⟨_, _, by unfold sBuild; rw [h1]; rfl, k⟩

@[go_sem] theorem thawL_nil : thawL [] H = ([], H) := rfl
@[go_sem] theorem thawL_fr {z : Nat} {xs : List (List V)} {vs : List V} : thawL (.fr z xs :: vs) H = (.hsl H.length 0 0 xs.length z :: (thawL vs (H ++ [.cells 0 xs.flatten])).1, (thawL vs (H ++ [.cells 0 xs.flatten])).2) := rfl
@[go_sem] theorem thawL_plain {v : V} {vs : List V} (h : plainC v = true) : thawL (v :: vs) H = (v :: (thawL vs H).1, (thawL vs H).2) := by
  cases v <;> first | rfl | cases h
theorem thawL_all {vs : List V} : vs.all plainC = true → thawL vs H = (vs, H) := by
  induction vs with
  | nil => intro _; rfl
  | cons v vs ih =>
    intro h
    rw [List.all_cons, Bool.and_eq_true] at h
    rw [thawL_plain h.1, ih h.2]
@[go_sem] theorem run_box {cs : List V} : runAct P .box [.agg cs] tk dst os keep s E H K = nextV P (.ptr (thawL cs H).2.length 0 0) tk dst os keep s E ((thawL cs H).2 ++ [.cells 0 (thawL cs H).1]) K := by
  show (∃ r H', sBox [.agg cs] H = some (r, H') ∧ _) = _
  have e : sBox [.agg cs] H = some (.ptr (thawL cs H).2.length 0 0, (thawL cs H).2 ++ [.cells 0 (thawL cs H).1]) := by simp [sBox, solid, V.cells]
  rw [e]
  apply propext
  constructor
  · rintro ⟨r, H', h, k⟩; cases h; exact k
  · intro k; exact ⟨_, _, rfl, k⟩

/-- A struct is written. -/
def storeA (P : Program) (x : Option (List V)) (id ver off : Nat) (cs : List V) (tk : List Nat) (dst : Option Nat) (os : List VOp) (keep : List Nat) (s : List Fr) (E : En) (H : Heap) (K : KK) : Prop :=
  exO x fun c => off + cs.length ≤ c.length ∧ nextV P (.tup []) tk dst os keep s E (H.set id (.cells ver (put c off cs))) K
@[go_sem] theorem storeA_some {c cs : List V} {id ver off : Nat} : storeA P (some c) id ver off cs tk dst os keep s E H K = (off + cs.length ≤ c.length ∧ nextV P (.tup []) tk dst os keep s E (H.set id (.cells ver (put c off cs))) K) := exO_some
@[go_sem] theorem store_agg {id ver off n : Nat} {cs : List V} (h : cs.all plainC = true) (hn : n = cs.length) : runAct P (.store n) [.ptr id ver off, .agg cs] tk dst os keep s E H K = storeA P (getCells H id ver) id ver off cs tk dst os keep s E H K := by
  subst hn
  have hsc : cs.all scal0 = true := by
    rw [List.all_eq_true] at h ⊢
    intro v hv
    have := h v hv
    cases v <;> first | rfl | cases this
  have e : sStore cs.length [.ptr id ver off, .agg cs] H = (getCells H id ver).bind fun c => if off + cs.length ≤ c.length then some (.tup [], H.set id (.cells ver (put c off cs))) else none := by
    simp only [sStore, solid, V.cells, thawL_all h, hsc, true_and]
  show (∃ r H', sStore cs.length [.ptr id ver off, .agg cs] H = some (r, H') ∧ _) = _
  rw [e]
  apply propext
  constructor
  · rintro ⟨r, H', h, k⟩
    obtain ⟨c, h1, h⟩ := Option.bind_eq_some_iff.1 h
    split at h
    · rename_i hl
      cases h
      exact ⟨c, h1, hl, k⟩
    · cases h
  · rintro ⟨c, h1, hl, k⟩
    refine ⟨.tup [], _, ?_, k⟩
    rw [h1, Option.bind_some, if_pos hl]
theorem store_fr {id ver off z : Nat} {xs : List (List V)} : runAct P (.store 1) [.ptr id ver off, .fr z xs] tk dst os keep s E H K =
    exO (getCells H id ver) fun c => off < c.length ∧ nextV P (.tup []) tk dst os keep s E ((H ++ [Obj.cells 0 xs.flatten]).set id (.cells ver (c.set off (.hsl H.length 0 0 xs.length z)))) K := by
  have e : sStore 1 [.ptr id ver off, .fr z xs] H = (getCells H id ver).bind fun c => if off + 1 ≤ c.length then some (.tup [], (H ++ [Obj.cells 0 xs.flatten]).set id (.cells ver (put c off [.hsl H.length 0 0 xs.length z]))) else none := by
    simp [sStore, solid, scal0, V.cells, thawL]
  show (∃ r H', sStore 1 [.ptr id ver off, .fr z xs] H = some (r, H') ∧ _) = _
  rw [e]
  apply propext
  constructor
  · rintro ⟨r, H', h, k⟩
    obtain ⟨c, h1, h⟩ := Option.bind_eq_some_iff.1 h
    split at h
    · rename_i hl
      cases h
      rw [put_one (by omega)] at k
      exact ⟨c, h1, by omega, k⟩
    · cases h
  · rintro ⟨c, h1, hl, k⟩
    refine ⟨.tup [], _, ?_, k⟩
    rw [h1, Option.bind_some, if_pos (by omega), put_one hl]
attribute [go_sem] store_fr

theorem run_addW {k : IntKind} {a b : Int} : runInt P .add k a b tk dst os keep s E H K = runOps P os keep s ((stripEn tk E).setO dst (.int k (k.wrap (a + b)))) H K := by
  unfold runInt intW
  apply propext
  constructor
  · rintro ⟨z, rfl, h⟩; exact h
  · intro h; exact ⟨_, rfl, h⟩
theorem run_subW {k : IntKind} {a b : Int} : runInt P .sub k a b tk dst os keep s E H K = runOps P os keep s ((stripEn tk E).setO dst (.int k (k.wrap (a - b)))) H K := by
  unfold runInt intW
  apply propext
  constructor
  · rintro ⟨z, rfl, h⟩; exact h
  · intro h; exact ⟨_, rfl, h⟩
end
attribute [go_sem] List.all_cons List.all_nil Bool.and_self Nat.reduceLT Nat.reduceLeDiff List.set_cons_zero List.set_cons_succ

end Go.Proofs.Ytneonbdlgmaofaa.Vm
namespace Go.Proofs.Ytneonbdlgmaofaa.Vm
open Go

end Go.Proofs.Ytneonbdlgmaofaa.Vm
namespace Go.Proofs.Ytneonbdlgmaofaa.Vm
open Go Go.RowKit

def immW (w : World) (b o : Nat) : Option Value := match w.heap[b]? with
  | some (.cells c _ _) => c[o]?
  | _ => none
def gh0 (w : World) : Gh := ⟨immW w, []⟩
def own0 (w : World) (b : Nat) : Option Place := if b < w.heap.size then some .frame else none

theorem ok0 (w : World) : Ok w (gh0 w) (own0 w) [] := by
  refine ⟨fun b o v h => ?_, fun b p h => ?_, rfl, fun i ob h => by simp at h⟩
  · simp only [gh0, immW] at h
    split at h
    · rename_i c e f hc; exact ⟨c, e, f, hc, h⟩
    · cases h
  · unfold own0 at h; split at h
    · assumption
    · cases h

section
variable {P : Program} {w : World}

/-- WHAT A LAW ANSWERS. -/
theorem T.below {f : Nat} {vs : List V} (h : T P f vs [] (.bool true) []) {cs : Array Value} (hr : RepI (immW w) vs cs.toList) : Calls P f cs w fun e w' => e = .returned (.bool true) ∧ Below w.heap.size w w' := by
  refine (h.2 w (gh0 w) (own0 w) cs [] (ok0 w) (RepI.toL hr) List.nodup_nil (fun _ h => by cases h)).mono ?_
  rintro e w' ⟨c, rfl, G', own', bl, _, h2, _, _, h5⟩
  obtain ⟨cs', hcs, _⟩ := h2.bool_inv
  obtain ⟨rfl, _⟩ := List.cons.inj hcs
  refine ⟨rfl, h5.os, h5.tape, h5.out, h5.size, fun k hk => ?_⟩
  exact (h5.fixed k (by simp only [own0, if_pos hk])).1

theorem Addr.add_add (a : Addr) (x y : Nat) : (a.add x).add y = a.add (x + y) := by
  unfold Addr.add
  by_cases hx : x = 0
  · subst hx; simp
  · by_cases hy : y = 0
    · subst hy; simp [hx]
    · simp [hx, hy, Nat.add_assoc]

theorem cell_imm {a : Addr} {v : Value} (h : w.cell? a = some v) : a.spot = none ∧ immW w a.block a.off = some v := by
  unfold World.cell? at h
  unfold immW
  split at h
  · rename_i c e f hc
    split at h
    · cases h
    · rename_i hs
      rw [hc]
      exact ⟨by cases hh : a.spot with
        | none => rfl
        | some _ => rw [hh] at hs; simp at hs, h⟩
  · cases h

theorem mapM_some {α β : Type} {f : α → Option β} : ∀ {l : List α} {ys : List β}, l.mapM f = some ys → ys.length = l.length ∧ ∀ (i : Nat) (x : α), l[i]? = some x → ∃ y, ys[i]? = some y ∧ f x = some y
  | [], ys, h => by
    cases h
    exact ⟨rfl, fun i x h => by simp at h⟩
  | a :: l, ys, h => by
    rw [List.mapM_cons] at h
    obtain ⟨y, h1, h⟩ := Option.bind_eq_some_iff.1 h
    obtain ⟨zs, h2, h⟩ := Option.bind_eq_some_iff.1 h
    cases h
    obtain ⟨k1, k2⟩ := mapM_some h2
    refine ⟨by simp [k1], fun i x hx => ?_⟩
    match i with
    | 0 => simp at hx; subst hx; exact ⟨y, rfl, h1⟩
    | i + 1 => exact k2 i x (by simpa using hx)

theorem cells_imm {a : Addr} {n : Nat} {cs : List Value} (h : w.cells? 0 a n = some cs) : cs.length = n ∧ ∀ j v, cs[j]? = some v → w.cell? (a.add j) = some v := by
  unfold World.cells? at h
  rw [if_pos (Nat.zero_le _)] at h
  obtain ⟨h1, h2⟩ := mapM_some h
  rw [List.length_range] at h1
  refine ⟨h1, fun j v hv => ?_⟩
  have hj : j < n := by rw [← h1]; exact (List.getElem?_eq_some_iff.1 hv).1
  obtain ⟨y, k1, k2⟩ := h2 j j (by simp [hj])
  rw [hv] at k1; cases k1; exact k2

theorem flat_imm {a : Addr} {k : Nat} : ∀ (csl : List (List Value)) (s : Nat), (∀ i c, csl[i]? = some c → c.length = k ∧ ∀ j v, c[j]? = some v → w.cell? (a.add ((s + i) * k + j)) = some v) →
    ∀ o v, csl.flatten[o]? = some v → w.cell? (a.add (s * k + o)) = some v
  | [], s, _, o, v, h => by simp at h
  | c :: csl, s, hc, o, v, h => by
    obtain ⟨h1, h2⟩ := hc 0 c rfl
    rw [List.flatten_cons] at h
    rcases Nat.lt_or_ge o c.length with ho | ho
    · rw [List.getElem?_append_left ho] at h
      simpa using h2 o v h
    · rw [List.getElem?_append_right ho] at h
      have := flat_imm csl (s + 1) (fun i c' hc' => by
        have := hc (i + 1) c' (by simpa using hc')
        rw [show s + (i + 1) = s + 1 + i by omega] at this; exact this) (o - c.length) v h
      rw [show s * k + o = (s + 1) * k + (o - c.length) by rw [Nat.add_mul]; omega]
      exact this

theorem flat_at {a : Addr} {k : Nat} {csl : List (List Value)} (h : ∀ i c, csl[i]? = some c → c.length = k ∧ ∀ j v, c[j]? = some v → w.cell? (a.add (i * k + j)) = some v) : ImmAt (immW w) a csl.flatten := by
  have hall := flat_imm (w := w) (a := a) (k := k) csl 0 (fun i c hc => by simpa using h i c hc)
  refine ⟨fun hne => ?_, fun i v hv => ?_⟩
  · obtain ⟨v, hv⟩ : ∃ v, csl.flatten[0]? = some v := by
      cases hf : csl.flatten with
      | nil => exact absurd hf hne
      | cons v l => exact ⟨v, rfl⟩
    have := (cell_imm (hall 0 v hv)).1
    simpa [Addr.add] using this
  · have := (cell_imm (hall i v hv)).2
    rw [(add_off a _).1, (add_off a _).2] at this
    simpa using this

variable {H : Type} {enc : TypeId × Value → H} {sp : Nat → Bool} {held : Bool}

abbrev Reads (P : Program) (enc : TypeId × Value → H) (sp : Nat → Bool) (held : Bool) (w : World) (t : TypeId) (Q : DataW H → List V → Prop) : Prop :=
  ∀ fuel cs d ps, DataW.trod enc P w 0 sp held fuel t cs = some (d, ps) → ∃ vs, RepI (immW w) vs cs ∧ Q d vs

theorem reads_int {t : TypeId} {k : IntKind} (hu : P.underlying t = some (.int k)) : Reads P enc sp held w t fun d vs => ∃ n : Int, d = .lit (.int k n) ∧ (Lit.int k n).wf = true ∧ vs = [.int k n] := by
  intro fuel cs d ps h
  cases fuel with
  | zero => cases h
  | succ fuel =>
    unfold DataW.trod at h
    rw [hu] at h
    split at h <;> try (rename_i he; cases he; done)
    all_goals first | (cases h; done) | skip
    rename_i he
    cases he
    split at h
    · rename_i hk
      obtain ⟨rfl, hk⟩ := hk
      cases h
      exact ⟨_, .int _ _ .nil, _, rfl, hk, rfl⟩
    · cases h

theorem reads_bool {t : TypeId} (hu : P.underlying t = some .bool) : Reads P enc sp held w t fun d vs => ∃ b : Bool, d = .lit (.bool b) ∧ vs = [.bool b] := by
  intro fuel cs d ps h
  cases fuel with
  | zero => cases h
  | succ fuel =>
    unfold DataW.trod at h
    rw [hu] at h
    split at h <;> try (rename_i he; cases he; done)
    all_goals first | (cases h; done) | skip
    all_goals cases h; exact ⟨_, .bool _ .nil, _, rfl, rfl⟩

theorem reads_str {t : TypeId} (hu : P.underlying t = some .string) : Reads P enc sp held w t fun d vs => ∃ l : List UInt8, d = .lit (.string l) ∧ vs = [.str l] := by
  intro fuel cs d ps h
  cases fuel with
  | zero => cases h
  | succ fuel =>
    unfold DataW.trod at h
    rw [hu] at h
    split at h <;> try (rename_i he; cases he; done)
    all_goals first | (cases h; done) | skip
    split at h
    · cases h; exact ⟨_, .str _ .nil, _, rfl, rfl⟩
    · cases h

theorem flatten_rep {imm : Nat → Nat → Option Value} : ∀ (xs : List (List V)) (csl : List (List Value)), xs.length = csl.length → (∀ (i : Nat) (x : List V) (c : List Value), xs[i]? = some x → csl[i]? = some c → RepI imm x c) → RepI imm xs.flatten csl.flatten
  | [], [], _, _ => .nil
  | [], _ :: _, h, _ => by cases h
  | _ :: _, [], h, _ => by cases h
  | x :: xs, c :: csl, h, hr => by
    rw [List.flatten_cons, List.flatten_cons]
    exact RepI.append (flatten_rep xs csl (by simpa using h) fun i x c h1 h2 => hr (i + 1) x c (by simpa using h1) (by simpa using h2)) (hr 0 x c rfl rfl)

abbrev ReadsF (P : Program) (enc : TypeId × Value → H) (sp : Nat → Bool) (held : Bool) (w : World) (fuel : Nat) (t : TypeId) (Q : DataW H → List V → Prop) : Prop :=
  ∀ cs d ps, DataW.trod enc P w 0 sp held fuel t cs = some (d, ps) → ∃ vs, RepI (immW w) vs cs ∧ Q d vs
theorem readsF_slice {t e : TypeId} {fuel : Nat} (hu : P.underlying t = some (.slice e)) {Q : DataW H → List V → Prop} (he : ReadsF P enc sp held w fuel e Q) :
    ReadsF P enc sp held w (fuel + 1) t fun d vs => ∃ xs, vs = [.sl false (P.cellsOf e) xs] ∧ ((d = .nil ∧ xs = []) ∨ ∃ elems spare, d = .slice elems spare ∧ xs.length = elems.length ∧ ∀ (i : Nat) (d : DataW H) (x : List V), elems[i]? = some d → xs[i]? = some x → Q d x) := by
  intro cs d ps h
  unfold DataW.trod at h
  rw [hu] at h
  split at h <;> try (rename_i he; cases he; done)
  all_goals first | (cases h; exact ⟨_, .slnil _ .nil, _, rfl, .inl ⟨rfl, rfl⟩⟩) | (cases h; done) | skip
  rename_i e' a len cap hue
  cases hue
  split at h
  · rename_i hb
    obtain ⟨elems, h1, h⟩ := Option.bind_eq_some_iff.1 h
    obtain ⟨rest, h2, h⟩ := Option.map_eq_some_iff.1 h
    obtain ⟨rfl, rfl⟩ := Prod.mk.inj h
    obtain ⟨k1, k2⟩ := mapM_some h1
    rw [List.length_range] at k1
    -- the elements' cells
    have hex : ∀ n, n ≤ len → ∃ (csl : List (List Value)) (xs : List (List V)), csl.length = n ∧ xs.length = n ∧ (∀ (i : Nat) c, csl[i]? = some c → w.cells? 0 (a.add (i * P.cellsOf e)) (P.cellsOf e) = some c) ∧
        (∀ (i : Nat) (x : List V) (c : List Value), xs[i]? = some x → csl[i]? = some c → RepI (immW w) x c) ∧ ∀ (i : Nat) (d : DataW H × List MemPlace) (x : List V), elems[i]? = some d → xs[i]? = some x → Q d.1 x := by
      intro n
      induction n with
      | zero => intro _; exact ⟨[], [], rfl, rfl, fun i c h => by simp at h, fun i x c h => by simp at h, fun i d x _ h => by simp at h⟩
      | succ n ih =>
        intro hn
        obtain ⟨csl, xs, j1, j2, j3, j4, j5⟩ := ih (by omega)
        obtain ⟨y, g1, g2⟩ := k2 n n (by rw [List.getElem?_range (by omega)])
        obtain ⟨c, g3, g4⟩ := Option.bind_eq_some_iff.1 g2
        obtain ⟨x, g5, g6⟩ := he c y.1 y.2 (by rw [g4])
        refine ⟨csl ++ [c], xs ++ [x], by simp [j1], by simp [j2], ?_, ?_, ?_⟩
        · intro i c' hc'
          rcases Nat.lt_or_ge i n with hi | hi
          · rw [List.getElem?_append_left (by omega)] at hc'; exact j3 i c' hc'
          · rw [List.getElem?_append_right (by omega), j1] at hc'
            have : i = n := by
              rcases Nat.lt_or_ge n i with h' | h'
              · rw [List.getElem?_eq_none (by simp; omega)] at hc'; cases hc'
              · omega
            subst this; simp at hc'; subst hc'; exact g3
        · intro i x' c' hx' hc'
          rcases Nat.lt_or_ge i n with hi | hi
          · rw [List.getElem?_append_left (by omega)] at hc' hx'; exact j4 i x' c' hx' hc'
          · rw [List.getElem?_append_right (by omega), j1] at hc'
            rw [List.getElem?_append_right (by omega), j2] at hx'
            have : i = n := by
              rcases Nat.lt_or_ge n i with h' | h'
              · rw [List.getElem?_eq_none (by simp; omega)] at hc'; cases hc'
              · omega
            subst this; simp at hc' hx'; subst hc' hx'; exact g5
        · intro i d' x' hd' hx'
          rcases Nat.lt_or_ge i n with hi | hi
          · rw [List.getElem?_append_left (by omega)] at hx'; exact j5 i d' x' hd' hx'
          · rw [List.getElem?_append_right (by omega), j2] at hx'
            have : i = n := by
              rcases Nat.lt_or_ge n i with h' | h'
              · rw [List.getElem?_eq_none (by simp; omega)] at hx'; cases hx'
              · omega
            subst this; simp at hx'; subst hx'
            rw [g1] at hd'; cases hd'; exact g6
    obtain ⟨csl, xs, j1, j2, j3, j4, j5⟩ := hex len (Nat.le_refl _)
    have himm : ImmAt (immW w) a csl.flatten := flat_at (k := P.cellsOf e) fun i c hc => by
      obtain ⟨g1, g2⟩ := cells_imm (j3 i c hc)
      exact ⟨g1, fun j v hv => by rw [← Addr.add_add]; exact g2 j v hv⟩
    have hrep := flatten_rep xs csl (by rw [j1, j2]) j4
    have hxl : ∀ x ∈ xs, x.length = P.cellsOf e := by
      intro x hx
      obtain ⟨i, hi⟩ := List.mem_iff_getElem?.1 hx
      have hil : i < csl.length := by rw [j1, ← j2]; exact (List.getElem?_eq_some_iff.1 hi).1
      have hc := List.getElem?_eq_getElem hil
      rw [(j4 i x _ hi hc).length]
      exact (cells_imm (j3 i _ hc)).1
    have := RepI.sl (P.cellsOf e) xs a cap hxl himm hrep (by rw [j2]; exact hb.2.1) .nil
    rw [j2] at this
    refine ⟨_, this, xs, rfl, .inr ⟨_, _, rfl, by rw [List.length_map, k1, j2], fun i d x hd hx => ?_⟩⟩
    rw [List.getElem?_map] at hd
    obtain ⟨y, g1, rfl⟩ := Option.map_eq_some_iff.1 hd
    exact j5 i y x g1 hx
  · cases h

theorem reads_slice {t e : TypeId} (hu : P.underlying t = some (.slice e)) {Q : DataW H → List V → Prop} (he : Reads P enc sp held w e Q) :
    Reads P enc sp held w t fun d vs => ∃ xs, vs = [.sl false (P.cellsOf e) xs] ∧ ((d = .nil ∧ xs = []) ∨ ∃ elems spare, d = .slice elems spare ∧ xs.length = elems.length ∧ ∀ (i : Nat) (d : DataW H) (x : List V), elems[i]? = some d → xs[i]? = some x → Q d x) := by
  intro fuel
  cases fuel with
  | zero => intro cs d ps h; cases h
  | succ fuel => exact readsF_slice hu (he fuel)

/-- What an argument read, it reads behind the call. -/
theorem stays (hl : laidOutB P = true) {w' : World} (hb : Below w.heap.size w w') {ts : List TypeId} (ht : ts.all (fun t => P.readableRec t && decide (t < P.types.size)) = true) :
    ∀ {vs : List Value} {ds : List (DataW H)} {ps : List MemPlace}, DataW.TrodAll enc P w 0 (fun _ => true) true ts vs ds ps → DataW.TrodAll enc P w' 0 (fun b => decide (b < w.heap.size)) true ts vs ds ps := by
  induction ts with
  | nil =>
    intro vs ds ps h
    match vs, ds, h with
    | [], [], h => exact h
  | cons t ts ih =>
    intro vs ds ps h
    match vs, ds, h with
    | v :: vs, d :: ds, h =>
      obtain ⟨p, q, ⟨fuel, h1⟩, h2, rfl⟩ := h
      simp only [List.all_cons, Bool.and_eq_true, decide_eq_true_eq] at ht
      have hlt := DataW.trod_lt fuel t _ _ h1
      exact ⟨p, q, ⟨fuel, DataW.trod_stays (kids_book hl ht.1.1) (book_sized ht.1.1) (fun h => by cases h) ⟨ht.1.2, book_self t⟩ h1 (fun x hx => hb.same (hlt x hx)) (fun x hx => by simpa using hlt x hx)⟩, ih ht.2 h2, rfl⟩
end
end Go.Proofs.Ytneonbdlgmaofaa.Vm
namespace Go.Proofs.Ytneonbdlgmaofaa.Vm
open Go Go.RowKit Go.WideShapes

/-- What one value's reading weighs. -/
def Light {H : Type} (P : Program) (t : TypeId) (d : DataW H) : Prop := (d.weights P t).all (· ≤ reachBytes) = true
theorem light_each {H : Type} {P : Program} : ∀ {ts : List TypeId} {ds : List (DataW H)}, (DataW.weightsEach P ts ds).all (· ≤ reachBytes) = true → ∀ {j : Nat} {t : TypeId} {d : DataW H}, ts[j]? = some t → ds[j]? = some d → Light P t d
  | [], _, _, j, t, d, ht, _ => by simp at ht
  | _ :: _, [], _, j, t, d, _, hd => by simp at hd
  | t0 :: ts, d0 :: ds, h, j, t, d, ht, hd => by
    unfold DataW.weightsEach at h
    rw [List.all_append, Bool.and_eq_true] at h
    match j with
    | 0 => simp at ht hd; subst ht hd; exact h.1
    | j + 1 => exact light_each h.2 (j := j) (by simpa using ht) (by simpa using hd)
theorem light_all {H : Type} {P : Program} {e : TypeId} : ∀ {ds : List (DataW H)}, (DataW.weightsAll P e ds).all (· ≤ reachBytes) = true → ∀ d ∈ ds, Light P e d
  | [], _, d, hd => by cases hd
  | d0 :: ds, h, d, hd => by
    unfold DataW.weightsAll at h
    rw [List.all_append, Bool.and_eq_true] at h
    rcases List.mem_cons.1 hd with rfl | hd
    · exact h.1
    · exact light_all h.2 d hd
theorem light_slice {H : Type} {P : Program} {t e : TypeId} {elems spare : List (DataW H)} (hu : P.underlying t = some (.slice e)) (h : Light P t (.slice elems spare)) : elems.length * P.bytesOf e ≤ reachBytes ∧ ∀ d ∈ elems, Light P e d := by
  unfold Light at h
  simp only [DataW.weights, hu, List.all_cons, Bool.and_eq_true, decide_eq_true_eq, List.all_append] at h
  refine ⟨Nat.le_trans (Nat.mul_le_mul_right _ (Nat.le_add_right _ _)) h.1, light_all h.2.1⟩

theorem ex_list {α β : Type} {f : α → β} {p : α → Prop} : ∀ {xs : List β}, (∀ x ∈ xs, ∃ a, x = f a ∧ p a) → ∃ l : List α, xs = l.map f ∧ ∀ a ∈ l, p a
  | [], _ => ⟨[], rfl, fun _ h => by cases h⟩
  | x :: xs, h => by
    obtain ⟨a, rfl, ha⟩ := h x (List.mem_cons_self ..)
    obtain ⟨l, rfl, hl⟩ := ex_list fun y hy => h y (List.mem_cons_of_mem _ hy)
    exact ⟨a :: l, rfl, fun b hb => by
      rcases List.mem_cons.1 hb with rfl | hb
      · exact ha
      · exact hl b hb⟩

section
variable {P : Program} {w : World} {H : Type} {enc : TypeId × Value → H} {sp : Nat → Bool} {held : Bool}
theorem reads_sl {t e : TypeId} (hu : P.underlying t = some (.slice e)) {α : Type} {f : α → List V} {p : α → Prop} (hb : 1 ≤ P.bytesOf e) (he : Reads P enc sp held w e fun d vs => Light P e d → ∃ a, vs = f a ∧ p a) :
    Reads P enc sp held w t fun d vs => Light P t d → ∃ l : List α, vs = [.sl false (P.cellsOf e) (l.map f)] ∧ l.length ≤ reachBytes ∧ ∀ a ∈ l, p a := by
  intro fuel cs d ps h
  obtain ⟨vs, h1, xs, rfl, h2⟩ := reads_slice hu he fuel cs d ps h
  refine ⟨_, h1, fun hl => ?_⟩
  rcases h2 with ⟨rfl, rfl⟩ | ⟨elems, spare, rfl, h3, h4⟩
  · exact ⟨[], rfl, Nat.zero_le _, fun _ h => by cases h⟩
  · obtain ⟨k1, k2⟩ := light_slice hu hl
    obtain ⟨l, rfl, hp⟩ := ex_list (f := f) (p := p) (xs := xs) fun x hx => by
      obtain ⟨i, hi⟩ := List.mem_iff_getElem?.1 hx
      have hil : i < elems.length := by rw [← h3]; exact (List.getElem?_eq_some_iff.1 hi).1
      have hd := List.getElem?_eq_getElem hil
      exact h4 i _ x hd hi (k2 _ (List.getElem_mem hil))
    refine ⟨l, rfl, ?_, hp⟩
    rw [List.length_map] at h3
    rw [h3]
    exact Nat.le_trans (Nat.le_mul_of_pos_right _ hb) k1
theorem open_slice {t e : TypeId} {r : Reach} {b0 : Nat} {v : Value} {d : DataW H} {ps : List MemPlace} (hu : P.underlying t = some (.slice e)) (hval : Value.okWide P w r b0 t v) {Q : DataW H → List V → Prop} (hr : Reads P enc sp held w t Q)
    (hd : DataW.Trod enc P w 0 sp held t v d ps) : ∃ vs, RepI (immW w) vs [v] ∧ Q d vs := by
  obtain ⟨a, len, cap, rfl⟩ := okWide_slice hu hval
  obtain ⟨fuel, h⟩ := hd
  exact hr fuel _ d ps h
theorem open_intV {t : TypeId} {k : IntKind} {r : Reach} {b0 : Nat} {v : Value} {d : DataW H} {ps : List MemPlace} (hu : P.underlying t = some (.int k)) (hval : Value.okWide P w r b0 t v)
    (hd : DataW.Trod enc P w 0 sp held t v d ps) : ∃ n : Int, RepI (immW w) [.int k n] [v] ∧ d = .lit (.int k n) ∧ (Lit.int k n).wf = true := by
  obtain ⟨n, rfl⟩ := okWide_int hu hval
  obtain ⟨fuel, h⟩ := hd
  obtain ⟨vs, h1, n', h2, h3, h4⟩ := reads_int (w := w) (enc := enc) (sp := sp) (held := held) hu fuel _ d ps h
  subst h4
  have : n' = n := by
    cases h1; rfl
  subst this
  exact ⟨n', h1, h2, h3⟩
theorem open_strV {t : TypeId} {r : Reach} {b0 : Nat} {v : Value} {d : DataW H} {ps : List MemPlace} (hu : P.underlying t = some .string) (hval : Value.okWide P w r b0 t v)
    (hd : DataW.Trod enc P w 0 sp held t v d ps) : ∃ l : List UInt8, RepI (immW w) [.str l] [v] ∧ d = .lit (.string l) := by
  obtain ⟨n, rfl⟩ := okWide_string hu hval
  obtain ⟨fuel, h⟩ := hd
  obtain ⟨vs, h1, l, h2, h4⟩ := reads_str (w := w) (enc := enc) (sp := sp) (held := held) hu fuel _ d ps h
  subst h4
  exact ⟨l, h1, h2⟩
end
end Go.Proofs.Ytneonbdlgmaofaa.Vm
namespace Go.Proofs.Ytneonbdlgmaofaa.Vm
open Go

section
variable {H : Heap} {i j v : Nat} {cs : List V} {o : Obj}
theorem gc_some : getCells H i v = some cs ↔ H[i]? = some (.cells v cs) := by
  constructor
  · exact getCells_some
  · intro h; unfold getCells; rw [h]; simp
theorem gc_lt (h : getCells H i v = some cs) : i < H.length := (List.getElem?_eq_some_iff.1 (gc_some.1 h)).1
theorem gc_same (h : i < H.length) : getCells (H.set i (.cells v cs)) i v = some cs := by
  rw [gc_some, List.getElem?_set, if_pos rfl, if_pos h]
theorem gc_ne (h : i ≠ j) : getCells (H.set i o) j v = getCells H j v := by
  unfold getCells; rw [List.getElem?_set, if_neg h]
theorem gc_app {l : Heap} (h : j < H.length) : getCells (H ++ l) j v = getCells H j v := by
  unfold getCells; rw [List.getElem?_append_left h]
theorem gc_new : getCells (H ++ [.cells v cs]) H.length v = some cs := by
  rw [gc_some, List.getElem?_append_right (Nat.le_refl _), Nat.sub_self]; rfl
end
/-- All objects that were turned, or are new, name only such as stay. -/
theorem endX_all {H0 : Heap} {rs : List VRes} {R : V → Heap → Prop} {x : X} {E : En} {H : Heap} {m : Nat} (hm : m = H.length) (hx : (match x with | .exit _ => False | _ => True)) (h1 : H0.length ≤ H.length)
    (h3 : ∀ (i : Nat) (ob : Obj), H[i]? = some ob → H0[i]? = some ob ∨ idsO H.length ob = true) {r0 r : V} (h4 : resV H.length H E.f rs = some r0) (h5 : fixV H.length H 8 r0 = some r) (h6 : R r H) : endX m H0 rs R x E H := by
  subst hm
  refine ⟨hx, h1, Nat.le_refl _, fun i ob _ hob => h3 i ob hob, r0, h4, r, h5, ?_⟩
  rw [List.take_of_length_le (Nat.le_refl _)]
  exact h6
/-- A function whose last heap is known only behind it. -/
def endY (H0 : Heap) (rs : List VRes) (R : V → Heap → Prop) : KK := fun x E H => (match x with | .exit _ => False | _ => True) ∧ H0.length ≤ H.length ∧ (∀ (i : Nat) (ob : Obj), H[i]? = some ob → H0[i]? = some ob ∨ idsO H.length ob = true) ∧
  ∃ r0, resV H.length H E.f rs = some r0 ∧ ∃ r, fixV H.length H 8 r0 = some r ∧ R r H
theorem T.of_all {P : Program} (hmix : P.follows .mixedOrders = true) {f : Nat} {vf : VFunc} (hc : chkFn P f vf = true) {args : List V} {H : Heap} {R : V → Heap → Prop} (hl : Nat.ble args.length vf.n = true)
    (h : run P vf.body [] ⟨args.zipIdx.map fun p => (p.2, p.1), .tup []⟩ H (endY H vf.results R)) : ∃ r H', T P f args H r H' ∧ R r H' := by
  obtain ⟨x, E1, H1, h1, h2, h3, h4, r0, h6, r, h7, h8⟩ := wp_sound h
  rw [env0_eq] at h1
  refine ⟨r, H1, ?_, h8⟩
  have := T_of hmix hc (Nat.le_of_ble_eq_true hl) h1 (by intro id e; subst e; exact h2) (m := H1.length) h3 (Nat.le_refl _) h6 h7 (fun i ob _ hob => h4 i ob hob)
  rwa [List.take_of_length_le (Nat.le_refl _)] at this
/-- The objects that stay as they were; the others are new or turned. -/
def Same (H0 H : Heap) : Prop := ∀ (i : Nat) (ob : Obj), H[i]? = some ob → H0[i]? = some ob ∨ idsO H.length ob = true

@[go_sem] theorem fillV_agg {zs vs cs : List V} {off n : Nat} {ps : List (Nat × Nat)} (h : n = cs.length) : fillV zs ((off, n) :: ps) (.agg cs :: vs) = if off + cs.length ≤ zs.length then fillV (put zs off cs) ps vs else none := by
  subst h
  rw [fillV]
  by_cases hl : off + cs.length ≤ zs.length
  · rw [if_pos ⟨rfl, rfl, hl⟩, if_pos hl]; rfl
  · rw [if_neg (fun hh => hl hh.2.2), if_neg hl]
@[go_sem] theorem plain0_int {k : IntKind} {n : Int} : plain0 (.int k n) = true := (rfl)
@[go_sem] theorem plain0_bool {b : Bool} : plain0 (.bool b) = true := (rfl)
@[go_sem] theorem plain0_str {b : List UInt8} : plain0 (.str b) = true := (rfl)
@[go_sem] theorem plain0_sl {o : Bool} {z : Nat} {xs : List (List V)} : plain0 (.sl o z xs) = true := (rfl)
theorem elems_agg {sz : Nat} {cs : List V} (h : cs.all plain1 = true) (hn : sz = cs.length) : elems sz [.agg cs] = some [cs.map inl0] := by
  subst hn
  simp [elems, solid, V.cells, inl, h]
theorem elems_nil {sz : Nat} : elems sz [] = some [] := rfl
attribute [go_sem] List.drop_succ_cons List.drop_zero List.take_succ_cons List.take_zero put List.drop_nil List.take_nil
section
variable {P : Program} {K : KK} {s : List Fr} {E : En} {H : Heap} {tk : List Nat} {dst : Option Nat} {os : List VOp} {keep : List Nat}
theorem run_str {op : BinOp} {a b : List UInt8} : runAct P (.bin op) [.str a, .str b] tk dst os keep s E H K = ∃ v, binStr op a b = some v ∧ runOps P os keep s ((stripEn tk E).setO dst v) H K := rfl
@[go_sem] theorem run_eqlS {a b : List UInt8} : runAct P (.bin .eql) [.str a, .str b] tk dst os keep s E H K = runOps P os keep s ((stripEn tk E).setO dst (.bool (a == b))) H K := by
  rw [run_str]; simp [binStr]
@[go_sem] theorem run_neqS {a b : List UInt8} : runAct P (.bin .neq) [.str a, .str b] tk dst os keep s E H K = runOps P os keep s ((stripEn tk E).setO dst (.bool (!(a == b)))) H K := by
  rw [run_str]; simp [binStr]
@[go_sem] theorem run_addS {a b : List UInt8} : runAct P (.bin .add) [.str a, .str b] tk dst os keep s E H K = (a.length + b.length ≤ 9223372036854775807 ∧ runOps P os keep s ((stripEn tk E).setO dst (.str (a ++ b))) H K) := by
  rw [run_str]
  apply propext
  constructor
  · rintro ⟨v, h1, h2⟩
    unfold binStr at h1
    simp only at h1
    split at h1
    · rename_i hl; cases h1; exact ⟨hl, h2⟩
    · cases h1
  · rintro ⟨h1, h2⟩
    exact ⟨_, by unfold binStr; simp only; rw [if_pos h1], h2⟩
end
theorem elems_int {k : IntKind} {n : Int} {vs : List V} : elems 1 (.int k n :: vs) = (elems 1 vs).map ([.int k n] :: ·) := by
  simp [elems, solid, scal0, V.cells, inl, plain1, plain0, inl0, strip0]
end Go.Proofs.Ytneonbdlgmaofaa.Vm
namespace Go.Proofs.Ytneonbdlgmaofaa.Vm
open Go

/-- A FUNCTION that answers one cell's value: the cell keeps a copy that owns nothing; all objects stay. -/
theorem T_ofT {P : Program} (hmix : P.follows .mixedOrders = true) {f : Nat} {vf : VFunc} (hc : chkFn P f vf = true) {args : List V} {H : Heap} (hl : args.length ≤ vf.n) {x : X} {σ' : Env} {H1 : Heap} (hx : VExec P vf.body (env0 args) H x σ' H1) (hnx : ∀ id, x ≠ .exit id)
    {t n : Nat} {agg : Bool} (hrs : vf.results = [.cell t n agg]) {id ver off : Nat} (hσ : σ' t = .ptr id ver off) {cs0 l : List V} (hg : getCells H1 id ver = some cs0) (hcut : cut cs0 off n = some l) {r : V} (hm : mk agg l = some r) :
    T P f args H r (H1.set id (.cells ver (put cs0 off (l.map strip0)))) := by
  unfold chkFn at hc
  split at hc
  · rename_i fn hfn
    simp only [Bool.and_eq_true, beq_iff_eq, decide_eq_true_eq, bne_iff_ne] at hc
    obtain ⟨⟨⟨⟨hbody, hnt⟩, hres⟩, hnd⟩, hname⟩ := hc
    cases hb : fn.body with
    | none => rw [hb] at hbody; cases hbody
    | some c =>
      rw [hb] at hbody
      refine ⟨⟨fn, hfn, by rw [hb]; rfl, by simpa using hname⟩, ?_⟩
      intro w G own cs bl hok hrep hnod harg
      obtain ⟨fo, fo1, fo2⟩ := hrep.parts hnod
      let own1 : Nat → Option Place := fun b => match fo b with
        | some j => some (.slot j)
        | none => match own b with
          | some .frame => some .frame
          | some (.obj i) => some (.obj i)
          | some (.cell i) => some (.cell i)
          | _ => none
      have hnone : ∀ b, own b ≠ some .arg → fo b = none := by
        intro b hb
        cases h : fo b with
        | none => rfl
        | some j => exact absurd (harg b (fo1 b j h)) hb
      have hok1 : Ok w G own1 H := by
        refine hok.relabel (fun b i hb => ?_) fun b p hp => ?_
        · have : fo b = none := hnone b (by rcases hb with hb | hb <;> rw [hb] <;> simp)
          simp only [own1, this]; rcases hb with hb | hb <;> rw [hb]
        · simp only [own1] at hp
          split at hp
          · rename_i j hj; exact ⟨_, harg b (fo1 b j hj)⟩
          · split at hp
            · exact ⟨_, by assumption⟩
            · exact ⟨_, by assumption⟩
            · exact ⟨_, by assumption⟩
            · cases hp
      have hlen : cs.size = args.length := by have := hrep.length; rw [this]; exact Array.length_toList.symm
      have hat : At w G own1 (env0 args) H vf.n { tmps := cs ++ Array.replicate (fn.ntmps - cs.size) undef, defers := [] } := by
        refine ⟨hok1, fun i => ?_, ?_, rfl⟩
        · cases hi : args[i]? with
          | none =>
            have hge : args.length ≤ i := by
              rcases Nat.lt_or_ge i args.length with h | h
              · rw [List.getElem?_eq_getElem h] at hi; cases hi
              · exact h
            refine ⟨[], ?_, List.nodup_nil, fun _ h => by cases h⟩
            have : (cs ++ Array.replicate (fn.ntmps - cs.size) undef).getD i undef = undef := by
              rw [Array.getD_eq_getD_getElem?, Array.getElem?_append_right (by omega), Array.getElem?_replicate]
              split <;> rfl
            simp only [env0, hi, Option.getD_none]
            rw [this]
            exact .tup .nil .nil
          | some v =>
            obtain ⟨c', b1, e1, e2, e3, e4⟩ := fo2 i v hi
            refine ⟨b1, ?_, e3, fun b hb => by simp only [own1, e4 b hb]⟩
            have hlt : i < cs.size := by
              rw [hlen]; exact (List.getElem?_eq_some_iff.1 hi).1
            have : (cs ++ Array.replicate (fn.ntmps - cs.size) undef).getD i undef = c' := by
              rw [Array.getD_eq_getD_getElem?, Array.getElem?_append_left hlt, ← Array.getElem?_toList, e1]; rfl
            simp only [env0, hi, Option.getD_some]
            rw [this]; exact e2
        · simp only [Array.size_append, Array.size_replicate]; omega
      refine calls_of_wp hfn hb (Code.wp_mono ?_ ((exec_sound hmix hx c hbody).1 w G own1 _ hat))
      rintro e a1 w1 ⟨rfl, G1, own2, hat1, hext⟩
      rw [hrs] at hres
      obtain ⟨cr, w2, q1, q2, G3, own3, br, k1, k2, k3, k4, k5⟩ : ∃ cr w2, (results fn a1.tmps).run P w1 = .ok cr w1 ∧ w2 = w1 ∧ ∃ G3 own3 br, Ok w1 G3 own3 (H1.set id (.cells ver (put cs0 off (l.map strip0)))) ∧ RepL w1 G3 [r] [cr] br ∧ br.Nodup ∧ (∀ b ∈ br, own3 b = some .res) ∧ Ext w1 G1 own2 w1 G3 own3 := by
        match hfr : fn.results.toList, hres with
        | [.cell x t'], hres =>
          simp only [chkRess, chkRes, Bool.and_eq_true, beq_iff_eq, Bool.and_true] at hres
          obtain ⟨rfl, hlo⟩ := hres
          obtain ⟨c', e1, _, _⟩ := res_cell (P := P) hat1 hlo hσ hg hcut
          obtain ⟨d, h1, h2, h3, h4⟩ := loadOk_eq hlo
          obtain ⟨bs, rs, _, _⟩ := hat1.slots x
          rw [hσ] at rs
          obtain ⟨b, ver', n', bb, cs', hcs, _⟩ := rs.ptr_inv
          have hc0 := (List.cons.inj hcs).1
          subst h3
          obtain ⟨c2, w2, e3, G3, own3, br, k⟩ := loadT_post (P := P) hat1.ok h1 h2 h4 rs hg hcut hm
          rw [hc0] at e1 e3
          have e1' : (loadVar t' ⟨bb, off, none⟩).run P w1 = .ok c' w1 := by simpa [asAddr] using e1
          have e3' : (loadVar t' ⟨bb, off, none⟩).run P w1 = .ok c2 w2 := by simpa [Instr.loadAt, Instr.sureAddr] using e3
          rw [e1'] at e3'
          cases e3'
          have hrun : (fn.results.toList.mapM (run1 a1)).run P w1 = .ok [c'] w1 := by
            rw [hfr]
            have : (run1 a1 (.cell x t')).run P w1 = .ok c' w1 := by
              show (do loadVar t' (← asAddr (a1.tmps.getD x undef)) : Sem Value).run P w1 = _
              rw [hc0]; simpa [asAddr] using e1'
            simp [List.mapM_cons, this]
          exact ⟨c', w1, results_run hrun, rfl, G3, own3, br, k⟩
        | [.tmp _], hres => simp [chkRess, chkRes] at hres
        | [], hres => cases hres
        | _ :: _ :: _, hres => simp [chkRess] at hres
      let own4 : Nat → Option Place := fun b => if b ∈ br then some .res else match own3 b with
        | some .frame => some .frame
        | some (.obj i) => some (.obj i)
        | some (.cell i) => some (.cell i)
        | _ => none
      have hok4 : Ok w1 G3 own4 (H1.set id (.cells ver (put cs0 off (l.map strip0)))) := by
        refine k1.relabel (fun b i hb => ?_) fun b p hp => ?_
        · have hnb : b ∉ br := by
            intro hb'
            rw [k4 b hb'] at hb; rcases hb with hb | hb <;> cases hb
          simp only [own4, if_neg hnb]
          rcases hb with hb | hb <;> rw [hb]
        · simp only [own4] at hp
          split at hp
          · rename_i hb'; exact ⟨_, k4 b hb'⟩
          · cases ho : own3 b with
            | none => rw [ho] at hp; cases hp
            | some q => exact ⟨q, rfl⟩
      have hext2 := hext.trans k5
      have hpost : Post w G own r (H1.set id (.cells ver (put cs0 off (l.map strip0)))) cr w1 := by
        refine ⟨G3, own4, br, hok4, k2, k3, fun b hb => by simp only [own4, if_pos hb], ⟨hext2.size, hext2.imm, hext2.loc, ?_, hext2.tape, hext2.os, hext2.out⟩⟩
        intro b hb
        have h1 : own1 b = some .frame := by
          have : fo b = none := hnone b (by rw [hb]; simp)
          simp only [own1, this, hb]
        obtain ⟨j1, j2, j3⟩ := hext2.fixed b h1
        refine ⟨j1, j2, ?_⟩
        have hnb : b ∉ br := by
          intro hb'
          rw [k4 b hb'] at j3; cases j3
        simp only [own4, if_neg hnb, j3]
      cases x with
      | normal => exact ⟨hat1.defers, cr, q1, cr, rfl, hpost⟩
      | ret => exact ⟨hat1.defers, cr, q1, cr, rfl, hpost⟩
      | exit id => exact absurd rfl (hnx id)
  · cases hc
/-- How such a function ends. -/
def endT (t n : Nat) (agg : Bool) (R : V → Heap → Prop) : KK := fun x E H => (match x with | .exit _ => False | _ => True) ∧
  ∃ id ver off cs l r, E.f t = .ptr id ver off ∧ getCells H id ver = some cs ∧ cut cs off n = some l ∧ mk agg l = some r ∧ R r (H.set id (.cells ver (put cs off (l.map strip0))))
theorem T.of_take {P : Program} (hmix : P.follows .mixedOrders = true) {f : Nat} {vf : VFunc} (hc : chkFn P f vf = true) {args : List V} {H : Heap} {R : V → Heap → Prop} (hl : Nat.ble args.length vf.n = true) {t n : Nat} {agg : Bool} (hrs : vf.results = [.cell t n agg])
    (h : run P vf.body [] ⟨args.zipIdx.map fun p => (p.2, p.1), .tup []⟩ H (endT t n agg R)) : ∃ r H', T P f args H r H' ∧ R r H' := by
  obtain ⟨x, E1, H1, h1, h2, id, ver, off, cs, l, r, h3, h4, h5, h6, h7⟩ := wp_sound h
  rw [env0_eq] at h1
  exact ⟨r, _, T_ofT hmix hc (Nat.le_of_ble_eq_true hl) h1 (by intro id e; subst e; exact h2) hrs h3 h4 h5 h6, h7⟩

section
variable {P : Program} {K : KK} {s : List Fr} {E : En} {H : Heap} {tk : List Nat} {dst : Option Nat} {os : List VOp} {keep : List Nat}
def loadTA (P : Program) (n : Nat) (x : Option (List V)) (id ver off : Nat) (tk : List Nat) (dst : Option Nat) (os : List VOp) (keep : List Nat) (s : List Fr) (E : En) (H : Heap) (K : KK) : Prop :=
  ∃ cs, x = some cs ∧ off + n ≤ cs.length ∧ nextV P (.agg ((cs.drop off).take n)) tk dst os keep s E (H.set id (.cells ver (put cs off (((cs.drop off).take n).map strip0)))) K
@[go_sem] theorem loadTA_some {n : Nat} {cs : List V} {id ver off : Nat} : loadTA P n (some cs) id ver off tk dst os keep s E H K = (off + n ≤ cs.length ∧ nextV P (.agg ((cs.drop off).take n)) tk dst os keep s E (H.set id (.cells ver (put cs off (((cs.drop off).take n).map strip0)))) K) := by
  apply propext
  constructor
  · rintro ⟨v, h, k⟩; cases h; exact k
  · intro k; exact ⟨cs, rfl, k⟩
@[go_sem] theorem run_loadTA {id ver off n : Nat} : runAct P (.loadT n true) [.ptr id ver off] tk dst os keep s E H K = loadTA P n (getCells H id ver) id ver off tk dst os keep s E H K := (rfl)
end
end Go.Proofs.Ytneonbdlgmaofaa.Vm
namespace Go.Proofs.Ytneonbdlgmaofaa.Vm
open Go Go.RowKit Go.WideShapes

section
variable {P : Program} {w : World} {H : Type} {enc : TypeId × Value → H} {sp : Nat → Bool} {held : Bool}
theorem readsF_of {t : TypeId} {Q : DataW H → List V → Prop} (h : Reads P enc sp held w t Q) (fuel : Nat) : ReadsF P enc sp held w fuel t Q := h fuel
/-- Fields that lie one behind the other: where they end. -/
def contig (P : Program) : Nat → List Field → Option Nat
  | o, [] => some o
  | o, f :: fs => if f.offset = o then contig P (o + P.cellsOf f.type) fs else none
theorem contig_le {P : Program} : ∀ {fs : List Field} {o e : Nat}, contig P o fs = some e → o ≤ e
  | [], o, e, h => by cases h; exact Nat.le_refl _
  | f :: fs, o, e, h => by
    unfold contig at h
    split at h
    · have := contig_le h; omega
    · cases h
inductive Fits3 (Qs : List (DataW H → List V → Prop)) : List (DataW H) → List (List V) → Prop
  | mk {ds vss} (hl : ds.length = Qs.length) (hv : vss.length = Qs.length) (h : ∀ (i : Nat) Q d v, Qs[i]? = some Q → ds[i]? = some d → vss[i]? = some v → Q d v) : Fits3 Qs ds vss
theorem drop_split {α : Type} (l : List α) (a b c : Nat) (hab : a ≤ b) (hbc : b ≤ c) : (l.drop a).take (c - a) = (l.drop a).take (b - a) ++ (l.drop b).take (c - b) := by
  rw [show c - a = (b - a) + (c - b) by omega, List.take_add, List.drop_drop, show a + (b - a) = b by omega]
theorem fields_read {fuel : Nat} {cs : List Value} : ∀ {fs : List Field} {Qs : List (DataW H → List V → Prop)} {o e : Nat} {xs : List (DataW H × List MemPlace)}, contig P o fs = some e → fs.length = Qs.length →
    (∀ (i : Nat) (f : Field) Q, fs[i]? = some f → Qs[i]? = some Q → ReadsF P enc sp held w fuel f.type Q) →
    (fs.mapM fun f => DataW.trod enc P w 0 sp held fuel f.type ((cs.drop f.offset).take (P.cellsOf f.type))) = some xs →
    ∃ vss : List (List V), RepI (immW w) vss.flatten ((cs.drop o).take (e - o)) ∧ Fits3 Qs (xs.map (·.1)) vss
  | [], [], o, e, xs, hc, _, _, h => by
    cases hc; cases h
    exact ⟨[], by simp; exact .nil, .mk rfl rfl fun i Q d v hQ => by simp at hQ⟩
  | [], _ :: _, _, _, _, _, hl, _, _ => by cases hl
  | _ :: _, [], _, _, _, _, hl, _, _ => by cases hl
  | f :: fs, Q :: Qs, o, e, xs, hc, hl, hq, h => by
    unfold contig at hc
    split at hc
    · rename_i ho
      rw [List.mapM_cons] at h
      obtain ⟨y, h1, h⟩ := Option.bind_eq_some_iff.1 h
      obtain ⟨ys, h2, h⟩ := Option.bind_eq_some_iff.1 h
      cases h
      obtain ⟨vs, k1, k2⟩ := hq 0 f Q rfl rfl _ y.1 y.2 h1
      obtain ⟨vss, k3, k4, k5, k6⟩ := fields_read hc (by simpa using hl) (fun i f' Q' hf hQ => hq (i + 1) f' Q' (by simpa using hf) (by simpa using hQ)) h2
      refine ⟨vs :: vss, ?_, .mk (by simpa using k4) (by simpa using k5) fun i Q' d v hQ hd hv => ?_⟩
      · rw [List.flatten_cons, drop_split cs o (o + P.cellsOf f.type) e (by omega) (contig_le hc), Nat.add_sub_cancel_left, ← ho]
        exact RepI.append (by rw [ho]; exact k3) k1
      · match i with
        | 0 => simp at hQ hd hv; subst hQ hd hv; exact k2
        | i + 1 => exact k6 i Q' d v (by simpa using hQ) (by simpa using hd) (by simpa using hv)
    · cases hc
theorem readsF_struct {t : TypeId} {fs : Array Field} {fuel : Nat} (hu : P.underlying t = some (.struct fs)) (hc : contig P 0 fs.toList = some (P.cellsOf t)) {Qs : List (DataW H → List V → Prop)} (hl : fs.toList.length = Qs.length)
    (hq : ∀ (i : Nat) (f : Field) Q, fs.toList[i]? = some f → Qs[i]? = some Q → ReadsF P enc sp held w fuel f.type Q) :
    ReadsF P enc sp held w (fuel + 1) t fun d vs => ∃ ds vss, d = .agg ds ∧ vs = vss.flatten ∧ Fits3 Qs ds vss := by
  intro cs d ps h
  unfold DataW.trod at h
  rw [hu] at h
  split at h <;> try (rename_i he; cases he; done)
  all_goals first | (cases h; done) | skip
  all_goals first | (rename_i he; exact (he fs rfl).elim) | skip
  all_goals first | (exact (‹∀ (fs_1 : Array Field), some (TypeDesc.struct fs) = some (TypeDesc.struct fs_1) → False› fs rfl).elim) | skip
  all_goals
    rename_i he
    cases he
    split at h
    · rename_i hlen
      obtain ⟨xs, h1, h⟩ := Option.map_eq_some_iff.1 h
      cases h
      obtain ⟨vss, k1, k2⟩ := fields_read hc hl hq h1
      rw [Nat.sub_zero, List.drop_zero, ← hlen, List.take_of_length_le (Nat.le_refl _)] at k1
      exact ⟨_, k1, _, vss, rfl, rfl, k2⟩
    · cases h
theorem readsF_mono {t : TypeId} {fuel : Nat} {Q Q' : DataW H → List V → Prop} (h : ReadsF P enc sp held w fuel t Q) (hq : ∀ d vs, Q d vs → Q' d vs) : ReadsF P enc sp held w fuel t Q' := by
  intro cs d ps hd
  obtain ⟨vs, h1, h2⟩ := h cs d ps hd
  exact ⟨vs, h1, hq _ _ h2⟩
theorem reads_of {t : TypeId} {Q : DataW H → List V → Prop} (h : ∀ fuel, ReadsF P enc sp held w (fuel + 1) t Q) : Reads P enc sp held w t Q := by
  intro fuel
  cases fuel with
  | zero => intro cs d ps h; cases h
  | succ fuel => exact h fuel
theorem light_part {t : TypeId} {fs : Array Field} {ds : List (DataW H)} (hu : P.underlying t = some (.struct fs)) (h : Light P t (.agg ds)) {j : Nat} {f : Field} {d : DataW H} (hf : fs.toList[j]? = some f) (hd : ds[j]? = some d) : Light P f.type d := by
  unfold Light at h
  simp only [DataW.weights, hu] at h
  exact light_each h (j := j) (by rw [List.getElem?_map, hf]; rfl) hd
end
theorem list1 {α : Type} {l : List α} (h : l.length = 1) : ∃ a, l = [a] := by
  match l, h with
  | [a], _ => exact ⟨a, rfl⟩
theorem list2 {α : Type} {l : List α} (h : l.length = 2) : ∃ a b, l = [a, b] := by
  match l, h with
  | [a, b], _ => exact ⟨a, b, rfl⟩
theorem list5 {α : Type} {l : List α} (h : l.length = 5) : ∃ a b c d e, l = [a, b, c, d, e] := by
  match l, h with
  | [a, b, c, d, e], _ => exact ⟨a, b, c, d, e, rfl⟩
end Go.Proofs.Ytneonbdlgmaofaa.Vm
namespace Go.Proofs.Ytneonbdlgmaofaa.Vm
open Go

def v_l10_UnifySame : VFunc := ⟨70, .seq (.region [qo 2 .mv [qb false]] [0])
 (.seq (.region [qm 11 0, qt 12 (.call .wr) [qf 9, .t 11] [11], qm 10 12, qo 13 (.extract 0) [.t 10], qo 14 (.extract 1) [.t 10], qm 3 13, qm 4 14] [0, 3, 4])
 (.seq (.seq (.region [qm 15 3, qo 16 (.isNil false) [.t 15, .c (.nilp)], qm 17 16, qv 18 4 17 false, qg 19 .not [.t 18] [] 17 false, qo 20 .pick [.t 17, qb true, .t 19]] [0, 3, 20])
 (.cond (.t 20)
 (.seq (.region [qm 21 3, qo 22 (.isNil true) [.t 21, .c (.nilp)], qm 23 22, qg 24 (.call .wr) [qf 10] [] 23 true, qo 25 .pick [.t 23, .t 24, qb false], qm 2 25] [2])
 (.ret))
 (.skip)))
 (.seq (.seq (.region [qo 5 .mv [qi 0]] [0, 3, 5])
 (.block 0 (.loop (.seq (.seq (.region [qm 26 5, qm 27 0, qo 28 .len [.t 27], qo 29 (.bin .lss) [.t 26, .t 28]] [0, 3, 5, 29])
 (.cond (.t 29)
 (.skip)
 (.exit 0)))
 (.seq (.block 1 (.seq (.region [qm 33 3, qm 34 0, qm 35 5, qo 36 (.indexAddr 8) [.t 34, .t 35], qo 37 (.fieldAddr 0) [.t 36], qo 38 (.load 4 true) [.t 37], qt 39 (.call .wr) [qf 11, .t 33, .t 38] [38],
qt 32 .mv [.t 39] [39], qo 40 (.extract 0) [.t 32], qt 41 (.extract 1) [.t 32] [32], qo 6 (.alloc [.int .i64 0, .int .i64 0, .str [], .sl true 4 []]) [], qn (.store 4) [.t 6, .t 40] [40],
qm 7 41] [0, 3, 5, 6, 7])
 (.seq (.region [qm 43 3, qm 44 0, qm 45 5, qo 46 (.indexAddr 8) [.t 44, .t 45], qo 47 (.fieldAddr 4) [.t 46], qo 48 (.load 4 true) [.t 47], qt 49 (.call .wr) [qf 11, .t 43, .t 48] [48],
qt 42 .mv [.t 49] [49], qo 50 (.extract 0) [.t 42], qt 51 (.extract 1) [.t 42] [42], qo 8 (.alloc [.int .i64 0, .int .i64 0, .str [], .sl true 4 []]) [], qn (.store 4) [.t 8, .t 50] [50],
qm 9 51] [0, 3, 5, 6, 7, 8, 9])
 (.seq (.region [qm 52 7, qm 53 9, qo 54 (.bin .neq) [.t 52, .t 53], qm 55 54, qg 56 (.loadT 4 true) [.t 6] [] 55 false, qg 57 (.loadT 4 true) [.t 8] [] 55 false,
qg 58 (.call .wr) [qf 12, .t 56, .t 57] [56, 57] 55 false, qg 59 .not [.t 58] [] 55 false, qo 60 .pick [.t 55, qb true, .t 59], qm 61 60, qv 62 7 61 false,
qg 63 (.bin .neq) [.t 62, qi 0] [] 61 false, qv 64 63 61 false, qv 65 7 64 true, qg 66 (.bin .neq) [.t 65, qi 102] [] 64 true, qg 67 .pick [.t 64, .t 66, qb false] [] 61 false,
qo 68 .pick [.t 61, qb true, .t 67]] [0, 3, 5, 68])
 (.cond (.t 68)
 (.seq (.region [qo 2 .mv [qb false]] [2])
 (.ret))
 (.skip))))))
 (.region [qm 30 5, qo 31 (.bin .add) [.t 30, qi 1], qm 5 31] [0, 3, 5]))))))
 (.seq (.region [qo 69 (.call .wr) [qf 10], qm 2 69] [2])
 (.ret))))), [.tmp 2]⟩
def v_l10_UnifyGeneral : VFunc := ⟨126, .seq (.region [qo 4 .mv [qb false]] [0, 1])
 (.seq (.seq (.region [qm 13 0, qt 14 (.call .wr) [qf 13, .t 13] [13], qo 15 .not [.t 14], qm 16 15, qv 17 1 16 false, qg 18 .len [.t 17] [] 16 false, qg 19 (.bin .gtr) [.t 18, qi 12] [] 16 false,
qo 20 .pick [.t 16, qb true, .t 19]] [0, 1, 20])
 (.cond (.t 20)
 (.seq (.region [qo 21 (.call .wr) [qf 10], qm 4 21] [4])
 (.ret))
 (.skip)))
 (.seq (.region [qo 5 .mv [.c (.sl true 1 [])]] [0, 1, 5])
 (.seq (.seq (.region [qo 6 .mv [qi 0]] [0, 1, 5, 6])
 (.block 0 (.loop (.seq (.seq (.region [qm 22 6, qm 23 1, qo 24 .len [.t 23], qo 25 (.bin .lss) [.t 22, .t 24]] [0, 1, 5, 6, 25])
 (.cond (.t 25)
 (.skip)
 (.exit 0)))
 (.seq (.block 1 (.seq (.region [qt 28 .mv [.t 5] [5], qm 29 6, qo 30 (.buildSl 1) [.t 29], qt 31 (.append 1 8) [.t 28, .t 30] [28], qt 5 .mv [.t 31] [31]] [0, 1, 5, 6])
 (.seq (.region [qm 32 1, qm 33 6, qo 34 (.indexAddr 4) [.t 32, .t 33], qo 35 (.load 4 true) [.t 34], qt 36 (.call .wr) [qf 14, .t 35] [35], qo 37 .not [.t 36], qm 38 37, qv 39 1 38 false, qv 40 6 38 false,
qg 41 (.indexAddr 4) [.t 39, .t 40] [] 38 false, qg 42 (.load 4 true) [.t 41] [] 38 false, qg 43 (.call .wr) [qf 15, .t 42, qi 10] [42] 38 false, qg 44 (.bin .gtr) [.t 43, qi 10] [] 38 false,
qo 45 .pick [.t 38, qb true, .t 44]] [0, 1, 5, 6, 45])
 (.cond (.t 45)
 (.seq (.region [qo 46 (.call .wr) [qf 10], qm 4 46] [4])
 (.ret))
 (.skip)))))
 (.region [qm 26 6, qo 27 (.bin .add) [.t 26, qi 1], qm 6 27] [0, 1, 5, 6]))))))
 (.seq (.seq (.region [qo 7 .mv [qi 0]] [0, 1, 5, 7])
 (.block 2 (.loop (.seq (.seq (.region [qm 47 7, qm 48 0, qo 49 .len [.t 48], qo 50 (.bin .lss) [.t 47, .t 49]] [0, 1, 5, 7, 50])
 (.cond (.t 50)
 (.skip)
 (.exit 2)))
 (.seq (.block 3 (.seq (.region [qm 53 0, qm 54 7, qo 55 (.indexAddr 8) [.t 53, .t 54], qo 56 (.load 8 true) [.t 55], qt 57 (.call .al) [qf 16, .t 56] [56], qo 58 .not [.t 57], qm 59 58, qv 60 0 59 false, qv 61 7 59 false,
qg 62 (.indexAddr 8) [.t 60, .t 61] [] 59 false, qg 63 (.fieldAddr 0) [.t 62] [] 59 false, qg 64 (.load 4 true) [.t 63] [] 59 false, qv 65 5 59 false, qv 66 1 59 false,
qg 67 (.call .al) [qf 17, .t 64, .t 65, .t 66] [64, 65, 66] 59 false, qv 68 0 59 false, qv 69 7 59 false, qg 70 (.indexAddr 8) [.t 68, .t 69] [] 59 false,
qg 71 (.fieldAddr 4) [.t 70] [] 59 false, qg 72 (.load 4 true) [.t 71] [] 59 false, qv 73 5 59 false, qv 74 1 59 false, qg 75 (.call .al) [qf 17, .t 72, .t 73, .t 74] [72, 73, 74] 59 false,
qg 76 (.call .al) [qf 12, .t 67, .t 75] [67, 75] 59 false, qg 77 .not [.t 76] [] 59 false, qo 78 .pick [.t 59, qb true, .t 77]] [0, 1, 5, 7, 78])
 (.cond (.t 78)
 (.seq (.region [qo 79 (.call .wr) [qf 10], qm 4 79] [4])
 (.ret))
 (.skip))))
 (.region [qm 51 7, qo 52 (.bin .add) [.t 51, qi 1], qm 7 52] [0, 1, 5, 7]))))))
 (.seq (.region [qm 81 0, qt 82 (.call .wr) [qf 9, .t 81] [81], qm 80 82, qo 83 (.extract 0) [.t 80], qo 84 (.extract 1) [.t 80], qm 8 83, qm 9 84] [0, 1, 5, 8, 9])
 (.seq (.seq (.region [qm 85 8, qo 86 (.isNil false) [.t 85, .c (.nilp)], qm 87 86, qv 88 9 87 false, qg 89 .not [.t 88] [] 87 false, qo 90 .pick [.t 87, qb true, .t 89]] [0, 1, 5, 8, 90])
 (.cond (.t 90)
 (.seq (.region [qo 4 .mv [qb false]] [4])
 (.ret))
 (.skip)))
 (.seq (.seq (.region [qo 10 .mv [qi 0]] [0, 1, 5, 8, 10])
 (.block 4 (.loop (.seq (.seq (.region [qm 91 10, qm 92 0, qo 93 .len [.t 92], qo 94 (.bin .lss) [.t 91, .t 93]] [0, 1, 5, 8, 10, 94])
 (.cond (.t 94)
 (.skip)
 (.exit 4)))
 (.seq (.block 5 (.seq (.region [qm 98 8, qm 99 0, qm 100 10, qo 101 (.indexAddr 8) [.t 99, .t 100], qo 102 (.fieldAddr 0) [.t 101], qo 103 (.load 4 true) [.t 102], qt 104 (.call .wr) [qf 11, .t 98, .t 103] [103],
qt 97 .mv [.t 104] [104], qo 105 (.extract 0) [.t 97], qt 106 (.extract 1) [.t 97] [97], qo 11 (.alloc [.int .i64 0, .int .i64 0, .str [], .sl true 4 []]) [],
qn (.store 4) [.t 11, .t 105] [105], qm 12 106] [0, 1, 5, 8, 10, 11, 12])
 (.seq (.region [qm 107 12, qo 108 (.bin .eql) [.t 107, qi 0], qm 109 108, qg 110 (.loadT 4 true) [.t 11] [] 109 true, qv 111 5 109 true, qv 112 1 109 true,
qg 113 (.call .al) [qf 17, .t 110, .t 111, .t 112] [110, 111, 112] 109 true, qv 114 0 109 true, qv 115 10 109 true, qg 116 (.indexAddr 8) [.t 114, .t 115] [] 109 true,
qg 117 (.fieldAddr 0) [.t 116] [] 109 true, qg 118 (.load 4 true) [.t 117] [] 109 true, qv 119 5 109 true, qv 120 1 109 true,
qg 121 (.call .al) [qf 17, .t 118, .t 119, .t 120] [118, 119, 120] 109 true, qg 122 (.call .al) [qf 12, .t 113, .t 121] [113, 121] 109 true, qg 123 .not [.t 122] [] 109 true,
qo 124 .pick [.t 109, .t 123, qb false]] [0, 1, 5, 8, 10, 124])
 (.cond (.t 124)
 (.seq (.region [qo 4 .mv [qb false]] [4])
 (.ret))
 (.skip)))))
 (.region [qm 95 10, qo 96 (.bin .add) [.t 95, qi 1], qm 10 96] [0, 1, 5, 8, 10]))))))
 (.seq (.region [qo 125 (.call .wr) [qf 10], qm 4 125] [4])
 (.ret))))))))), [.tmp 4]⟩
def v_l10_UnifyBack : VFunc := ⟨139, .seq (.region [qt 3 .box [.t 1] [1], qo 4 .mv [qb false]] [0, 3])
 (.seq (.region [qm 23 0, qt 24 (.call .wr) [qf 9, .t 23] [23], qm 22 24, qo 25 (.extract 0) [.t 22], qo 26 (.extract 1) [.t 22], qm 5 25, qm 6 26] [0, 3, 5, 6])
 (.seq (.seq (.region [qm 27 5, qo 28 (.isNil false) [.t 27, .c (.nilp)], qm 29 28, qv 30 6 29 false, qg 31 .not [.t 30] [] 29 false, qo 32 .pick [.t 29, qb true, .t 31], qm 33 32,
qg 34 (.load 8 true) [.t 3] [] 33 false, qg 35 (.buildSl 8) [.t 34] [34] 33 false, qg 36 (.call .wr) [qf 13, .t 35] [35] 33 false, qg 37 .not [.t 36] [] 33 false,
qo 38 .pick [.t 33, qb true, .t 37], qm 39 38, qg 40 (.load 8 true) [.t 3] [] 39 false, qg 41 (.call .wr) [qf 16, .t 40] [40] 39 false, qg 42 .not [.t 41] [] 39 false,
qo 43 .pick [.t 39, qb true, .t 42]] [0, 3, 5, 43])
 (.cond (.t 43)
 (.seq (.region [qm 44 5, qo 45 (.isNil true) [.t 44, .c (.nilp)], qm 46 45, qg 47 (.call .wr) [qf 10] [] 46 true, qo 48 .pick [.t 46, .t 47, qb false], qm 4 48] [4])
 (.ret))
 (.skip)))
 (.seq (.region [qo 7 .mv [.c (.sl true 4 [])]] [0, 3, 5, 7])
 (.seq (.seq (.region [qo 8 .mv [qi 0]] [0, 3, 5, 7, 8])
 (.block 0 (.loop (.seq (.seq (.region [qm 49 8, qm 50 0, qo 51 .len [.t 50], qo 52 (.bin .lss) [.t 49, .t 51]] [0, 3, 5, 7, 8, 52])
 (.cond (.t 52)
 (.skip)
 (.exit 0)))
 (.seq (.block 1 (.seq (.region [qm 56 5, qm 57 0, qm 58 8, qo 59 (.indexAddr 8) [.t 57, .t 58], qo 60 (.fieldAddr 0) [.t 59], qo 61 (.load 4 true) [.t 60], qt 62 (.call .wr) [qf 11, .t 56, .t 61] [61],
qt 55 .mv [.t 62] [62], qo 63 (.extract 0) [.t 55], qt 64 (.extract 1) [.t 55] [55], qo 9 (.alloc [.int .i64 0, .int .i64 0, .str [], .sl true 4 []]) [], qn (.store 4) [.t 9, .t 63] [63],
qm 10 64] [0, 3, 5, 7, 8, 9])
 (.region [qt 65 .mv [.t 7] [7], qo 66 (.loadT 4 true) [.t 9], qt 67 (.buildSl 4) [.t 66] [66], qt 68 (.append 4 56) [.t 65, .t 67] [65], qt 7 .mv [.t 68] [68]] [0, 3, 5, 7, 8])))
 (.region [qm 53 8, qo 54 (.bin .add) [.t 53, qi 1], qm 8 54] [0, 3, 5, 7, 8]))))))
 (.seq (.region [qm 70 5, qo 71 (.fieldAddr 0) [.t 3], qo 72 (.load 4 true) [.t 71], qt 73 (.call .wr) [qf 11, .t 70, .t 72] [72], qt 69 .mv [.t 73] [73], qo 74 (.extract 0) [.t 69],
qt 75 (.extract 1) [.t 69] [69], qo 11 (.alloc [.int .i64 0, .int .i64 0, .str [], .sl true 4 []]) [], qn (.store 4) [.t 11, .t 74] [74], qm 12 75] [0, 3, 5, 7, 11])
 (.seq (.region [qm 77 5, qo 78 (.fieldAddr 4) [.t 3], qo 79 (.load 4 true) [.t 78], qt 80 (.call .wr) [qf 11, .t 77, .t 79] [79], qt 76 .mv [.t 80] [80], qo 81 (.extract 0) [.t 76],
qt 82 (.extract 1) [.t 76] [76], qo 13 (.alloc [.int .i64 0, .int .i64 0, .str [], .sl true 4 []]) [], qn (.store 4) [.t 13, .t 81] [81], qm 14 82] [0, 3, 5, 7, 11, 13])
 (.seq (.seq (.region [qm 83 5, qo 84 (.fieldAddr 0) [.t 3], qo 85 (.load 4 true) [.t 84], qo 86 (.fieldAddr 4) [.t 3], qo 87 (.load 4 true) [.t 86], qt 88 (.call .wr) [qf 18, .t 83, .t 85, .t 87] [85, 87],
qo 89 (.bin .eql) [.t 88, qi 0]] [0, 3, 5, 7, 11, 13, 89])
 (.cond (.t 89)
 (.seq (.region [qo 90 (.call .wr) [qf 10], qm 4 90] [4])
 (.ret))
 (.skip)))
 (.seq (.seq (.region [qo 15 .mv [qi 0]] [0, 3, 5, 7, 11, 13, 15])
 (.block 2 (.loop (.seq (.seq (.region [qm 91 15, qm 92 0, qo 93 .len [.t 92], qo 94 (.bin .lss) [.t 91, .t 93]] [0, 3, 5, 7, 11, 13, 15, 94])
 (.cond (.t 94)
 (.skip)
 (.exit 2)))
 (.seq (.block 3 (.seq (.region [qm 98 5, qm 99 0, qm 100 15, qo 101 (.indexAddr 8) [.t 99, .t 100], qo 102 (.fieldAddr 0) [.t 101], qo 103 (.load 4 true) [.t 102], qt 104 (.call .wr) [qf 11, .t 98, .t 103] [103],
qt 97 .mv [.t 104] [104], qo 105 (.extract 0) [.t 97], qt 106 (.extract 1) [.t 97] [97], qo 16 (.alloc [.int .i64 0, .int .i64 0, .str [], .sl true 4 []]) [],
qn (.store 4) [.t 16, .t 105] [105], qm 17 106] [0, 3, 5, 7, 11, 13, 15, 16])
 (.seq (.region [qo 107 (.loadT 4 true) [.t 16], qm 108 7, qm 109 15, qo 110 (.indexAddr 4) [.t 108, .t 109], qo 111 (.load 4 true) [.t 110], qt 112 (.call .wr) [qf 12, .t 107, .t 111] [107, 111],
qo 113 .not [.t 112]] [0, 3, 5, 7, 11, 13, 15, 113])
 (.cond (.t 113)
 (.seq (.region [qo 4 .mv [qb false]] [4])
 (.ret))
 (.skip)))))
 (.region [qm 95 15, qo 96 (.bin .add) [.t 95, qi 1], qm 15 96] [0, 3, 5, 7, 11, 13, 15]))))))
 (.seq (.region [qm 115 5, qo 116 (.fieldAddr 0) [.t 3], qo 117 (.load 4 true) [.t 116], qt 118 (.call .wr) [qf 11, .t 115, .t 117] [117], qt 114 .mv [.t 118] [118], qo 119 (.extract 0) [.t 114],
qt 120 (.extract 1) [.t 114] [114], qo 18 (.alloc [.int .i64 0, .int .i64 0, .str [], .sl true 4 []]) [], qn (.store 4) [.t 18, .t 119] [119], qm 19 120] [3, 5, 11, 13, 18])
 (.seq (.region [qm 122 5, qo 123 (.fieldAddr 4) [.t 3], qo 124 (.load 4 true) [.t 123], qt 125 (.call .wr) [qf 11, .t 122, .t 124] [124], qt 121 .mv [.t 125] [125], qo 126 (.extract 0) [.t 121],
qt 127 (.extract 1) [.t 121] [121], qo 20 (.alloc [.int .i64 0, .int .i64 0, .str [], .sl true 4 []]) [], qn (.store 4) [.t 20, .t 126] [126], qm 21 127] [11, 13, 18, 20])
 (.seq (.region [qo 128 (.loadT 4 true) [.t 11], qo 129 (.loadT 4 true) [.t 18], qt 130 (.call .wr) [qf 12, .t 128, .t 129] [128, 129], qm 131 130, qg 132 (.loadT 4 true) [.t 13] [] 131 true,
qg 133 (.loadT 4 true) [.t 20] [] 131 true, qg 134 (.call .wr) [qf 12, .t 132, .t 133] [132, 133] 131 true, qo 135 .pick [.t 131, .t 134, qb false], qm 136 135,
qg 137 (.call .wr) [qf 10] [] 136 true, qo 138 .pick [.t 136, .t 137, qb false], qm 4 138] [4])
 (.ret)))))))))))), [.tmp 4]⟩
def v_l10_UnifyTurns : VFunc := ⟨86, .seq (.region [qo 2 .mv [qb false]] [0])
 (.seq (.seq (.region [qm 13 0, qt 14 (.call .wr) [qf 13, .t 13] [13], qo 15 .not [.t 14]] [0, 15])
 (.cond (.t 15)
 (.seq (.region [qo 16 (.call .wr) [qf 10], qm 2 16] [2])
 (.ret))
 (.skip)))
 (.seq (.region [qo 17 (.call .wr) [qf 19], qo 18 (.call .wr) [qf 19], qm 3 17, qm 4 18] [0, 3, 4])
 (.seq (.seq (.region [qm 19 3, qo 20 (.isNil false) [.t 19, .c (.nilp)], qm 21 20, qv 22 4 21 false, qg 23 (.isNil false) [.t 22, .c (.nilp)] [] 21 false, qo 24 .pick [.t 21, qb true, .t 23]] [0, 3, 4, 24])
 (.cond (.t 24)
 (.seq (.region [qo 2 .mv [qb false]] [2])
 (.ret))
 (.skip)))
 (.seq (.seq (.region [qo 5 .mv [qi 0]] [0, 3, 4, 5])
 (.block 0 (.loop (.seq (.seq (.region [qm 25 5, qm 26 0, qo 27 .len [.t 26], qo 28 (.bin .lss) [.t 25, .t 27]] [0, 3, 4, 5, 28])
 (.cond (.t 28)
 (.skip)
 (.exit 0)))
 (.seq (.block 1 (.seq (.regionD [6, 7] [qm 31 0, qm 32 5, qo 33 (.indexAddr 8) [.t 31, .t 32], qo 34 (.fieldAddr 0) [.t 33], qo 35 (.load 4 true) [.t 34], qm 36 0, qm 37 5, qo 38 (.indexAddr 8) [.t 36, .t 37],
qo 39 (.fieldAddr 4) [.t 38], qo 40 (.loadC 4 true) [.t 39], qo 6 (.allocR 6 [.int .i64 0, .int .i64 0, .str [], .sl true 4 []]) [],
qo 7 (.allocR 7 [.int .i64 0, .int .i64 0, .str [], .sl true 4 []]) [], qn (.storeP 4) [.t 6, .t 35] [35], qn (.storeP 4) [.t 7, .t 40] [40]] [(34, 6), (34, 7), (6, 7)] [0, 3, 4, 5, 6, 7])
 (.seq (.region [qm 41 3, qo 42 (.loadL 6 4 true) [.t 6], qo 43 (.loadL 6 4 true) [.t 7], qt 44 (.call (.kp 6)) [qf 18, .t 41, .t 42, .t 43] [42, 43], qm 45 4, qo 46 (.loadL 6 4 true) [.t 7],
qo 47 (.loadL 6 4 true) [.t 6], qt 48 (.call .wr) [qf 18, .t 45, .t 46, .t 47] [46, 47], qo 49 (.bin .neq) [.t 44, .t 48]] [0, 3, 4, 5, 49])
 (.cond (.t 49)
 (.seq (.region [qo 2 .mv [qb false]] [2])
 (.ret))
 (.skip)))))
 (.region [qm 29 5, qo 30 (.bin .add) [.t 29, qi 1], qm 5 30] [0, 3, 4, 5]))))))
 (.seq (.seq (.region [qo 8 .mv [qi 0]] [0, 3, 4, 8])
 (.block 2 (.loop (.seq (.seq (.region [qm 50 8, qm 51 0, qo 52 .len [.t 51], qo 53 (.bin .lss) [.t 50, .t 52]] [0, 3, 4, 8, 53])
 (.cond (.t 53)
 (.skip)
 (.exit 2)))
 (.seq (.block 3 (.seq (.region [qm 57 3, qm 58 0, qm 59 8, qo 60 (.indexAddr 8) [.t 58, .t 59], qo 61 (.fieldAddr 0) [.t 60], qo 62 (.load 4 true) [.t 61], qt 63 (.call .wr) [qf 11, .t 57, .t 62] [62],
qt 56 .mv [.t 63] [63], qo 64 (.extract 0) [.t 56], qt 65 (.extract 1) [.t 56] [56], qo 9 (.alloc [.int .i64 0, .int .i64 0, .str [], .sl true 4 []]) [], qn (.store 4) [.t 9, .t 64] [64],
qm 10 65] [0, 3, 4, 8, 9, 10])
 (.seq (.region [qm 67 4, qm 68 0, qm 69 8, qo 70 (.indexAddr 8) [.t 68, .t 69], qo 71 (.fieldAddr 0) [.t 70], qo 72 (.load 4 true) [.t 71], qt 73 (.call .wr) [qf 11, .t 67, .t 72] [72],
qt 66 .mv [.t 73] [73], qo 74 (.extract 0) [.t 66], qt 75 (.extract 1) [.t 66] [66], qo 11 (.alloc [.int .i64 0, .int .i64 0, .str [], .sl true 4 []]) [], qn (.store 4) [.t 11, .t 74] [74],
qm 12 75] [0, 3, 4, 8, 9, 10, 11, 12])
 (.seq (.region [qm 76 10, qm 77 12, qo 78 (.bin .neq) [.t 76, .t 77], qm 79 78, qg 80 (.loadT 4 true) [.t 9] [] 79 false, qg 81 (.loadT 4 true) [.t 11] [] 79 false,
qg 82 (.call .wr) [qf 12, .t 80, .t 81] [80, 81] 79 false, qg 83 .not [.t 82] [] 79 false, qo 84 .pick [.t 79, qb true, .t 83]] [0, 3, 4, 8, 84])
 (.cond (.t 84)
 (.seq (.region [qo 2 .mv [qb false]] [2])
 (.ret))
 (.skip))))))
 (.region [qm 54 8, qo 55 (.bin .add) [.t 54, qi 1], qm 8 55] [0, 3, 4, 8]))))))
 (.seq (.region [qo 85 (.call .wr) [qf 10], qm 2 85] [2])
 (.ret))))))), [.tmp 2]⟩
def v_l10_UnifyNil : VFunc := ⟨101, .seq (.region [qt 2 .box [.t 0] [0], qt 3 .box [.t 1] [1], qo 4 .mv [qb false]] [2, 3])
 (.seq (.region [qo 5 .mv [.c (.nilp)]] [2, 3, 5])
 (.seq (.region [qm 17 5, qo 18 (.load 4 true) [.t 2], qt 19 (.call .wr) [qf 11, .t 17, .t 18] [18], qt 16 .mv [.t 19] [19], qo 20 (.extract 0) [.t 16], qt 21 (.extract 1) [.t 16] [16],
qo 6 (.alloc [.int .i64 0, .int .i64 0, .str [], .sl true 4 []]) [], qn (.store 4) [.t 6, .t 20] [20], qm 7 21] [2, 3, 5, 6, 7])
 (.seq (.region [qm 23 5, qo 24 (.load 4 true) [.t 2], qt 25 (.call .wr) [qf 20, .t 23, .t 24] [24], qt 22 .mv [.t 25] [25], qo 26 (.extract 0) [.t 22], qt 27 (.extract 1) [.t 22] [22], qt 8 .mv [.t 26] [26],
qm 9 27] [2, 3, 5, 6, 7, 9])
 (.seq (.region [qo 28 (.call .wr) [qf 19], qm 10 28] [2, 3, 5, 6, 7, 9, 10])
 (.seq (.seq (.region [qm 29 10, qo 30 (.isNil false) [.t 29, .c (.nilp)]] [2, 3, 5, 6, 7, 9, 10, 30])
 (.cond (.t 30)
 (.seq (.region [qo 4 .mv [qb false]] [4])
 (.ret))
 (.skip)))
 (.seq (.region [qm 32 10, qo 33 (.load 4 true) [.t 2], qt 34 (.call .wr) [qf 11, .t 32, .t 33] [33], qt 31 .mv [.t 34] [34], qo 35 (.extract 0) [.t 31], qt 36 (.extract 1) [.t 31] [31],
qo 11 (.alloc [.int .i64 0, .int .i64 0, .str [], .sl true 4 []]) [], qn (.store 4) [.t 11, .t 35] [35], qm 12 36] [2, 3, 5, 6, 7, 9, 10, 11, 12])
 (.seq (.region [qo 37 (.load 4 true) [.t 2], qt 38 (.call .wr) [qf 14, .t 37] [37], qm 13 38] [2, 3, 5, 6, 7, 9, 10, 11, 12, 13])
 (.seq (.region [qm 40 10, qo 41 (.load 4 true) [.t 2], qt 42 (.call .wr) [qf 20, .t 40, .t 41] [41], qt 39 .mv [.t 42] [42], qo 43 (.extract 0) [.t 39], qt 44 (.extract 1) [.t 39] [39],
qt 14 .mv [.t 43] [43], qm 15 44] [2, 3, 5, 6, 7, 9, 11, 12, 13, 14, 15])
 (.seq (.seq (.region [qm 45 9, qo 46 (.bin .neq) [.t 45, qi 3], qm 47 46, qv 48 15 47 false, qg 49 (.bin .eql) [.t 48, qi 1] [] 47 false, qv 50 13 47 false,
qg 51 (.eqc false false [.b]) [.t 49, .t 50] [] 47 false, qo 52 .pick [.t 47, qb true, .t 51], qm 53 52, qv 54 15 53 false, qg 55 (.bin .neq) [.t 54, qi 0] [] 53 false, qv 56 55 53 false,
qg 57 .mv [.t 14] [14] 56 true, qg 58 .len [.t 57] [] 56 true, qg 59 (.bin .neq) [.t 58, qi 0] [] 56 true, qg 60 .pick [.t 56, .t 59, qb false] [] 53 false,
qo 61 .pick [.t 53, qb true, .t 60]] [2, 3, 5, 6, 7, 11, 12, 13, 61])
 (.cond (.t 61)
 (.seq (.region [qo 4 .mv [qb false]] [4])
 (.ret))
 (.skip)))
 (.seq (.region [qm 62 5, qo 63 (.loadT 4 true) [.t 2], qo 64 (.loadT 4 true) [.t 3], qt 65 (.call .wr) [qf 18, .t 62, .t 63, .t 64] [63, 64], qo 66 (.bin .eql) [.t 65, qi 3], qm 67 66, qv 68 7 67 true,
qg 69 (.bin .eql) [.t 68, qi 3] [] 67 true, qo 70 .pick [.t 67, .t 69, qb false], qm 71 70, qg 72 (.loadT 4 true) [.t 6] [] 71 true,
qg 73 (.build [.int .i64 0, .int .i64 0, .str [], .sl true 4 []] []) [] [] 71 true, qg 74 (.call .wr) [qf 12, .t 72, .t 73] [72, 73] 71 true, qo 75 .pick [.t 71, .t 74, qb false], qm 76 75,
qv 77 5 76 true, qg 78 (.call .wr) [qf 21, .t 77] [] 76 true, qg 79 (.call .wr) [qf 22, qi 0] [] 76 true, qg 80 (.call .wr) [qf 12, .t 78, .t 79] [78, 79] 76 true,
qo 81 .pick [.t 76, .t 80, qb false], qm 82 81, qv 83 12 82 true, qg 84 (.bin .eql) [.t 83, qi 1] [] 82 true, qv 85 13 82 true, qg 86 .not [.t 85] [] 82 true,
qg 87 (.eqc false false [.b]) [.t 84, .t 86] [] 82 true, qo 88 .pick [.t 82, .t 87, qb false], qm 89 88, qv 90 12 89 true, qg 91 (.bin .eql) [.t 90, qi 0] [] 89 true, qv 92 91 89 true,
qg 93 (.loadT 4 true) [.t 11] [] 92 false, qg 94 (.build [.int .i64 0, .int .i64 0, .str [], .sl true 4 []] []) [] [] 92 false, qg 95 (.call .wr) [qf 12, .t 93, .t 94] [93, 94] 92 false,
qg 96 .pick [.t 92, qb true, .t 95] [] 89 true, qo 97 .pick [.t 89, .t 96, qb false], qm 98 97, qg 99 (.call .wr) [qf 10] [] 98 true, qo 100 .pick [.t 98, .t 99, qb false], qm 4 100] [4])
 (.ret))))))))))), [.tmp 4]⟩
def v_l10_UnifyRenames : VFunc := ⟨63, .seq (.region [qt 2 .box [.t 0] [0], qo 4 .mv [qb false]] [1, 2])
 (.seq (.seq (.region [qo 9 (.load 4 true) [.t 2], qt 10 (.call .wr) [qf 14, .t 9] [9], qo 11 .not [.t 10], qm 12 11, qg 13 (.load 4 true) [.t 2] [] 12 false, qg 14 (.call .wr) [qf 15, .t 13, qi 300] [13] 12 false,
qg 15 (.bin .gtr) [.t 14, qi 300] [] 12 false, qo 16 .pick [.t 12, qb true, .t 15], qm 17 16, qv 18 1 17 false, qg 19 (.bin .lss) [.t 18, qi 0] [] 17 false,
qo 20 .pick [.t 17, qb true, .t 19], qm 21 20, qv 22 1 21 false, qg 23 (.bin .gtr) [.t 22, qi 1000] [] 21 false, qo 24 .pick [.t 21, qb true, .t 23]] [1, 2, 24])
 (.cond (.t 24)
 (.seq (.region [qo 25 (.call .wr) [qf 10], qm 4 25] [4])
 (.ret))
 (.skip)))
 (.seq (.region [qo 26 (.load 4 true) [.t 2], qo 27 (.buildSl 1) [], qt 28 (.call .wr) [qf 23, .t 26, .t 27] [26, 27], qt 5 .mv [.t 28] [28]] [1, 2, 5])
 (.seq (.region [qo 6 .mv [.c (.sl true 4 [])]] [1, 2, 5, 6])
 (.seq (.seq (.region [qo 7 .mv [qi 0]] [1, 2, 5, 6, 7])
 (.block 0 (.loop (.seq (.seq (.region [qm 29 7, qm 30 5, qo 31 .len [.t 30], qo 32 (.bin .lss) [.t 29, .t 31]] [1, 2, 5, 6, 7, 32])
 (.cond (.t 32)
 (.skip)
 (.exit 0)))
 (.seq (.block 1 (.region [qt 35 .mv [.t 6] [6], qm 36 1, qm 37 5, qo 38 .len [.t 37], qo 39 (.bin .add) [.t 36, .t 38], qm 40 7, qo 41 (.bin .sub) [.t 39, .t 40], qo 42 (.call .wr) [qf 22, .t 41],
qt 43 (.buildSl 4) [.t 42] [42], qt 44 (.append 4 56) [.t 35, .t 43] [35], qt 6 .mv [.t 44] [44]] [1, 2, 5, 6, 7]))
 (.region [qm 33 7, qo 34 (.bin .add) [.t 33, qi 1], qm 7 34] [1, 2, 5, 6, 7]))))))
 (.seq (.region [qo 45 (.load 4 true) [.t 2], qt 46 (.call .wr) [qf 24, .t 45] [45], qo 8 (.alloc [.int .i64 0, .int .i64 0, .str [], .sl true 4 []]) [], qn (.store 4) [.t 8, .t 46] [46]] [2, 5, 6, 8])
 (.seq (.region [qo 47 (.load 4 true) [.t 8], qo 48 (.loadT 4 true) [.t 2], qt 49 .mv [.t 5] [5], qt 50 .mv [.t 6] [6], qt 51 (.call .al) [qf 17, .t 48, .t 49, .t 50] [48, 49, 50],
qt 52 (.call .al) [qf 24, .t 51] [51], qt 53 (.call .al) [qf 12, .t 47, .t 52] [47, 52], qm 54 53, qg 55 (.load 4 true) [.t 8] [] 54 true, qg 56 (.loadT 4 true) [.t 8] [] 54 true,
qg 57 (.call .al) [qf 24, .t 56] [56] 54 true, qg 58 (.call .al) [qf 12, .t 55, .t 57] [55, 57] 54 true, qo 59 .pick [.t 54, .t 58, qb false], qm 60 59, qg 61 (.call .al) [qf 10] [] 60 true,
qo 62 .pick [.t 60, .t 61, qb false], qm 4 62] [4])
 (.ret))))))), [.tmp 4]⟩
def v_l10_joined : VFunc := ⟨36, .seq (.region [qo 2 .mv [.c (.nilp)], qo 3 .mv [qb false]] [0])
 (.seq (.region [qo 6 (.call .wr) [qf 19], qm 4 6] [0, 4])
 (.seq (.seq (.region [qm 7 4, qo 8 (.isNil false) [.t 7, .c (.nilp)], qm 9 8, qv 10 0 9 false, qg 11 (.call .wr) [qf 13, .t 10] [10] 9 false, qg 12 .not [.t 11] [] 9 false, qo 13 .pick [.t 9, qb true, .t 12]] [0, 4, 13])
 (.cond (.t 13)
 (.seq (.region [qm 14 4, qm 2 14, qo 3 .mv [qb false]] [2, 3])
 (.ret))
 (.skip)))
 (.seq (.seq (.region [qo 5 .mv [qi 0]] [0, 4, 5])
 (.block 0 (.loop (.seq (.seq (.region [qm 15 5, qm 16 0, qo 17 .len [.t 16], qo 18 (.bin .lss) [.t 15, .t 17]] [0, 4, 5, 18])
 (.cond (.t 18)
 (.skip)
 (.exit 0)))
 (.seq (.block 1 (.seq (.region [qm 21 4, qm 22 0, qm 23 5, qo 24 (.indexAddr 8) [.t 22, .t 23], qo 25 (.fieldAddr 0) [.t 24], qo 26 (.load 4 true) [.t 25], qm 27 0, qm 28 5, qo 29 (.indexAddr 8) [.t 27, .t 28],
qo 30 (.fieldAddr 4) [.t 29], qo 31 (.load 4 true) [.t 30], qt 32 (.call .wr) [qf 18, .t 21, .t 26, .t 31] [26, 31], qo 33 (.bin .neq) [.t 32, qi 0]] [0, 4, 5, 33])
 (.cond (.t 33)
 (.seq (.region [qm 34 4, qm 2 34, qo 3 .mv [qb false]] [2, 3])
 (.ret))
 (.skip))))
 (.region [qm 19 5, qo 20 (.bin .add) [.t 19, qi 1], qm 5 20] [0, 4, 5]))))))
 (.seq (.region [qm 35 4, qm 2 35, qo 3 .mv [qb true]] [2, 3])
 (.ret))))), [.tmp 2, .tmp 3]⟩
def v_l10_known : VFunc := ⟨61, .seq (.region [qo 0 .mv [qb false]] [])
 (.seq (.region [qo 7 (.call .wr) [qf 19], qm 1 7] [1])
 (.seq (.seq (.region [qm 8 1, qo 9 (.isNil false) [.t 8, .c (.nilp)]] [1, 9])
 (.cond (.t 9)
 (.seq (.region [qo 0 .mv [qb false]] [0])
 (.ret))
 (.skip)))
 (.seq (.region [qm 10 1, qo 11 (.call .wr) [qf 22, qi 0], qo 12 (.call .wr) [qf 26, .c (.str [73, 110, 116])], qo 13 (.call .wr) [qf 22, qi 1], qt 14 (.call .wr) [qf 25, .t 12, .t 13] [12, 13],
qt 15 (.call .wr) [qf 18, .t 10, .t 11, .t 14] [11, 14], qm 2 15] [1, 2])
 (.seq (.region [qm 16 1, qo 17 (.call .wr) [qf 22, qi 0], qo 18 (.call .wr) [qf 22, qi 2], qo 19 (.call .wr) [qf 26, .c (.str [66, 111, 111, 108])], qt 20 (.call .wr) [qf 25, .t 18, .t 19] [18, 19],
qt 21 (.call .wr) [qf 18, .t 16, .t 17, .t 20] [17, 20], qm 3 21] [1, 2, 3])
 (.seq (.region [qm 23 1, qo 24 (.call .wr) [qf 22, qi 0], qt 25 (.call .wr) [qf 11, .t 23, .t 24] [24], qt 22 .mv [.t 25] [25], qo 26 (.extract 0) [.t 22], qt 27 (.extract 1) [.t 22] [22],
qo 4 (.alloc [.int .i64 0, .int .i64 0, .str [], .sl true 4 []]) [], qn (.store 4) [.t 4, .t 26] [26], qm 5 27] [1, 2, 3, 4, 5])
 (.seq (.region [qo 28 (.call .wr) [qf 19], qo 29 (.call .wr) [qf 22, qi 0], qo 30 (.call .wr) [qf 22, qi 0], qo 31 (.call .wr) [qf 26, .c (.str [73, 110, 116])],
qt 32 (.call .wr) [qf 25, .t 30, .t 31] [30, 31], qt 33 (.call .wr) [qf 18, .t 28, .t 29, .t 32] [29, 32], qm 6 33] [1, 2, 3, 4, 5, 6])
 (.seq (.region [qm 34 2, qo 35 (.bin .eql) [.t 34, qi 0], qm 36 35, qv 37 3 36 true, qg 38 (.bin .eql) [.t 37, qi 0] [] 36 true, qo 39 .pick [.t 36, .t 38, qb false], qm 40 39, qv 41 5 40 true,
qg 42 (.bin .eql) [.t 41, qi 0] [] 40 true, qo 43 .pick [.t 40, .t 42, qb false], qm 44 43, qg 45 (.loadT 4 true) [.t 4] [] 44 true,
qg 46 (.call .al) [qf 26, .c (.str [73, 110, 116])] [] 44 true, qg 47 (.call .al) [qf 26, .c (.str [66, 111, 111, 108])] [] 44 true, qg 48 (.call .al) [qf 25, .t 46, .t 47] [46, 47] 44 true,
qg 49 (.call .al) [qf 12, .t 45, .t 48] [45, 48] 44 true, qo 50 .pick [.t 44, .t 49, qb false], qm 51 50, qv 52 6 51 true, qg 53 (.bin .eql) [.t 52, qi 101] [] 51 true,
qo 54 .pick [.t 51, .t 53, qb false], qm 55 54, qv 56 1 55 true, qg 57 (.call .wr) [qf 21, .t 56] [] 55 true, qg 58 (.call .al) [qf 22, qi 3] [] 55 true,
qg 59 (.call .al) [qf 12, .t 57, .t 58] [57, 58] 55 true, qo 60 .pick [.t 55, .t 59, qb false], qm 0 60] [0])
 (.ret)))))))), [.tmp 0]⟩
def v_unify_Store_Resolve : VFunc := ⟨40, .seq (.region [qt 3 .box [.t 1] [1], qo 4 (.alloc [.int .i64 0, .int .i64 0, .str [], .sl true 4 []]) [], qo 5 .mv [qi 0]] [0, 3, 4])
 (.seq (.block 0 (.seq (.region [qm 9 0, qo 10 (.isNil false) [.t 9, .c (.nilp)], qm 11 10, qv 12 0 11 false, qg 13 .nilCheck [.t 12] [] 11 false, qg 14 (.fieldAddr 0) [.t 13] [] 11 false,
qg 15 (.load 1 false) [.t 14] [] 11 false, qg 16 (.isNil false) [.t 15, .c (.nilmap)] [] 11 false, qo 17 .pick [.t 11, qb true, .t 16], qm 8 17] [0, 3, 4, 8])
 (.cond (.t 8)
 (.seq (.region [qo 18 (.build [.int .i64 0, .int .i64 0, .str [], .sl true 4 []] []) [], qn (.store 4) [.t 4, .t 18] [18], qo 5 .mv [qi 3]] [4, 5])
 (.ret))
 (.seq (.region [qo 20 (.load 4 true) [.t 3], qt 21 (.call .wr) [qf 27, .t 20] [20], qo 22 .not [.t 21], qm 19 22] [0, 3, 4, 19])
 (.cond (.t 19)
 (.seq (.region [qo 23 (.build [.int .i64 0, .int .i64 0, .str [], .sl true 4 []] []) [], qn (.store 4) [.t 4, .t 23] [23], qo 5 .mv [qi 1]] [4, 5])
 (.ret))
 (.skip))))))
 (.seq (.region [qm 24 0, qo 25 (.load 4 true) [.t 3], qt 26 (.call .wr) [qf 28, .t 24, .t 25] [25]] [0, 3, 4])
 (.seq (.region [qm 27 0, qo 28 (.build [.nilp, .int .i64 0] [(0, 1)]) [.t 27], qo 29 .box [.t 28], qm 6 29] [3, 4, 6])
 (.seq (.region [qm 30 6, qo 31 (.loadT 4 true) [.t 3], qt 32 (.call .wr) [qf 29, .t 30, .t 31] [31], qo 7 (.alloc [.int .i64 0, .int .i64 0, .str [], .sl true 4 []]) [], qn (.store 4) [.t 7, .t 32] [32]] [4, 6, 7])
 (.seq (.seq (.region [qm 33 6, qo 34 .nilCheck [.t 33], qo 35 (.fieldAddr 1) [.t 34], qo 36 (.load 1 false) [.t 35], qo 37 (.bin .gtr) [.t 36, qi 256]] [4, 7, 37])
 (.cond (.t 37)
 (.seq (.region [qo 38 (.build [.int .i64 0, .int .i64 0, .str [], .sl true 4 []] []) [], qn (.store 4) [.t 4, .t 38] [38], qo 5 .mv [qi 102]] [4, 5])
 (.ret))
 (.skip)))
 (.seq (.region [qo 39 (.loadT 4 true) [.t 7], qn (.store 4) [.t 4, .t 39] [39], qo 5 .mv [qi 0]] [4, 5])
 (.ret))))))), [.cell 4 4 true, .tmp 5]⟩
def v_r10_Same : VFunc := ⟨53, .seq (.region [qt 2 .box [.t 0] [0], qt 3 .box [.t 1] [1], qo 4 .mv [qb false]] [2, 3])
 (.seq (.seq (.region [qo 6 (.fieldAddr 0) [.t 2], qo 7 (.load 1 false) [.t 6], qo 8 (.fieldAddr 0) [.t 3], qo 9 (.load 1 false) [.t 8], qo 10 (.bin .neq) [.t 7, .t 9], qm 11 10,
qg 12 (.fieldAddr 1) [.t 2] [] 11 false, qg 13 (.load 1 false) [.t 12] [] 11 false, qg 14 (.fieldAddr 1) [.t 3] [] 11 false, qg 15 (.load 1 false) [.t 14] [] 11 false,
qg 16 (.bin .neq) [.t 13, .t 15] [] 11 false, qo 17 .pick [.t 11, qb true, .t 16], qm 18 17, qg 19 (.fieldAddr 2) [.t 2] [] 18 false, qg 20 (.load 1 false) [.t 19] [] 18 false,
qg 21 (.fieldAddr 2) [.t 3] [] 18 false, qg 22 (.load 1 false) [.t 21] [] 18 false, qg 23 (.bin .neq) [.t 20, .t 22] [] 18 false, qo 24 .pick [.t 18, qb true, .t 23], qm 25 24,
qg 26 (.fieldAddr 3) [.t 2] [] 25 false, qg 27 (.load 1 false) [.t 26] [] 25 false, qg 28 .len [.t 27] [] 25 false, qg 29 (.fieldAddr 3) [.t 3] [] 25 false,
qg 30 (.load 1 false) [.t 29] [] 25 false, qg 31 .len [.t 30] [] 25 false, qg 32 (.bin .neq) [.t 28, .t 31] [] 25 false, qo 33 .pick [.t 25, qb true, .t 32]] [2, 3, 33])
 (.cond (.t 33)
 (.seq (.region [qo 4 .mv [qb false]] [4])
 (.ret))
 (.skip)))
 (.seq (.seq (.region [qo 5 .mv [qi 0]] [2, 3, 5])
 (.block 0 (.loop (.seq (.seq (.region [qm 34 5, qo 35 (.fieldAddr 3) [.t 2], qo 36 (.load 1 false) [.t 35], qo 37 .len [.t 36], qo 38 (.bin .lss) [.t 34, .t 37]] [2, 3, 5, 38])
 (.cond (.t 38)
 (.skip)
 (.exit 0)))
 (.seq (.block 1 (.seq (.region [qo 41 (.fieldAddr 3) [.t 2], qo 42 (.load 1 false) [.t 41], qm 43 5, qo 44 (.indexAddr 4) [.t 42, .t 43], qo 45 (.load 4 true) [.t 44], qo 46 (.fieldAddr 3) [.t 3],
qo 47 (.load 1 false) [.t 46], qm 48 5, qo 49 (.indexAddr 4) [.t 47, .t 48], qo 50 (.load 4 true) [.t 49], qt 51 (.call .wr) [qf 12, .t 45, .t 50] [45, 50], qo 52 .not [.t 51]] [2, 3, 5, 52])
 (.cond (.t 52)
 (.seq (.region [qo 4 .mv [qb false]] [4])
 (.ret))
 (.skip))))
 (.region [qm 39 5, qo 40 (.bin .add) [.t 39, qi 1], qm 5 40] [2, 3, 5]))))))
 (.seq (.region [qo 4 .mv [qb true]] [4])
 (.ret)))), [.tmp 4]⟩
def v_l10_few : VFunc := ⟨29, .seq (.region [qo 2 .mv [qb false]] [0])
 (.seq (.seq (.region [qm 4 0, qo 5 .len [.t 4], qo 6 (.bin .gtr) [.t 5, qi 40]] [0, 6])
 (.cond (.t 6)
 (.seq (.region [qo 2 .mv [qb false]] [2])
 (.ret))
 (.skip)))
 (.seq (.seq (.region [qo 3 .mv [qi 0]] [0, 3])
 (.block 0 (.loop (.seq (.seq (.region [qm 7 3, qm 8 0, qo 9 .len [.t 8], qo 10 (.bin .lss) [.t 7, .t 9]] [0, 3, 10])
 (.cond (.t 10)
 (.skip)
 (.exit 0)))
 (.seq (.block 1 (.seq (.region [qm 13 0, qm 14 3, qo 15 (.indexAddr 8) [.t 13, .t 14], qo 16 (.fieldAddr 0) [.t 15], qo 17 (.load 4 true) [.t 16], qt 18 (.call .wr) [qf 15, .t 17, qi 60] [17],
qo 19 (.bin .gtr) [.t 18, qi 60], qm 20 19, qv 21 0 20 false, qv 22 3 20 false, qg 23 (.indexAddr 8) [.t 21, .t 22] [] 20 false, qg 24 (.fieldAddr 4) [.t 23] [] 20 false,
qg 25 (.load 4 true) [.t 24] [] 20 false, qg 26 (.call .wr) [qf 15, .t 25, qi 60] [25] 20 false, qg 27 (.bin .gtr) [.t 26, qi 60] [] 20 false, qo 28 .pick [.t 20, qb true, .t 27]] [0, 3, 28])
 (.cond (.t 28)
 (.seq (.region [qo 2 .mv [qb false]] [2])
 (.ret))
 (.skip))))
 (.region [qm 11 3, qo 12 (.bin .add) [.t 11, qi 1], qm 3 12] [0, 3]))))))
 (.seq (.region [qo 2 .mv [qb true]] [2])
 (.ret)))), [.tmp 2]⟩
def v_r10_Right : VFunc := ⟨73, .seq (.region [qt 1 .box [.t 0] [0], qo 2 .mv [qb false]] [1])
 (.seq (.seq (.region [qo 4 (.fieldAddr 0) [.t 1], qo 5 (.load 1 false) [.t 4], qo 6 (.bin .eql) [.t 5, qi 1]] [1, 6])
 (.cond (.t 6)
 (.seq (.region [qo 7 (.fieldAddr 1) [.t 1], qo 8 (.load 1 false) [.t 7], qo 9 (.bin .geq) [.t 8, qi 0], qm 10 9, qg 11 (.fieldAddr 1) [.t 1] [] 10 true, qg 12 (.load 1 false) [.t 11] [] 10 true,
qg 13 (.bin .leq) [.t 12, qi 1073741824] [] 10 true, qo 14 .pick [.t 10, .t 13, qb false], qm 15 14, qg 16 (.fieldAddr 2) [.t 1] [] 15 true, qg 17 (.load 1 false) [.t 16] [] 15 true,
qg 18 (.bin .eql) [.t 17, .c (.str [])] [] 15 true, qo 19 .pick [.t 15, .t 18, qb false], qm 20 19, qg 21 (.fieldAddr 3) [.t 1] [] 20 true, qg 22 (.load 1 false) [.t 21] [] 20 true,
qg 23 .len [.t 22] [] 20 true, qg 24 (.bin .eql) [.t 23, qi 0] [] 20 true, qo 25 .pick [.t 20, .t 24, qb false], qm 2 25] [2])
 (.ret))
 (.skip)))
 (.seq (.seq (.region [qo 26 (.fieldAddr 1) [.t 1], qo 27 (.load 1 false) [.t 26], qo 28 (.bin .neq) [.t 27, qi 0], qm 29 28, qg 30 (.fieldAddr 0) [.t 1] [] 29 false, qg 31 (.load 1 false) [.t 30] [] 29 false,
qg 32 (.bin .neq) [.t 31, qi 2] [] 29 false, qv 33 32 29 false, qg 34 (.fieldAddr 0) [.t 1] [] 33 true, qg 35 (.load 1 false) [.t 34] [] 33 true, qg 36 (.bin .neq) [.t 35, qi 3] [] 33 true,
qg 37 .pick [.t 33, .t 36, qb false] [] 29 false, qo 38 .pick [.t 29, qb true, .t 37], qm 39 38, qg 40 (.fieldAddr 0) [.t 1] [] 39 false, qg 41 (.load 1 false) [.t 40] [] 39 false,
qg 42 (.bin .eql) [.t 41, qi 2] [] 39 false, qg 43 (.fieldAddr 2) [.t 1] [] 39 false, qg 44 (.load 1 false) [.t 43] [] 39 false, qg 45 (.bin .neq) [.t 44, .c (.str [])] [] 39 false,
qg 46 (.eqc true false [.b]) [.t 42, .t 45] [] 39 false, qo 47 .pick [.t 39, qb true, .t 46], qm 48 47, qg 49 (.fieldAddr 0) [.t 1] [] 48 false, qg 50 (.load 1 false) [.t 49] [] 48 false,
qg 51 (.bin .eql) [.t 50, qi 3] [] 48 false, qv 52 51 48 false, qg 53 (.fieldAddr 3) [.t 1] [] 52 true, qg 54 (.load 1 false) [.t 53] [] 52 true, qg 55 .len [.t 54] [] 52 true,
qg 56 (.bin .neq) [.t 55, qi 2] [] 52 true, qg 57 .pick [.t 52, .t 56, qb false] [] 48 false, qo 58 .pick [.t 48, qb true, .t 57]] [1, 58])
 (.cond (.t 58)
 (.seq (.region [qo 2 .mv [qb false]] [2])
 (.ret))
 (.skip)))
 (.seq (.seq (.region [qo 3 .mv [qi 0]] [1, 3])
 (.block 0 (.loop (.seq (.seq (.region [qm 59 3, qo 60 (.fieldAddr 3) [.t 1], qo 61 (.load 1 false) [.t 60], qo 62 .len [.t 61], qo 63 (.bin .lss) [.t 59, .t 62]] [1, 3, 63])
 (.cond (.t 63)
 (.skip)
 (.exit 0)))
 (.seq (.block 1 (.seq (.region [qo 66 (.fieldAddr 3) [.t 1], qo 67 (.load 1 false) [.t 66], qm 68 3, qo 69 (.indexAddr 4) [.t 67, .t 68], qo 70 (.load 4 true) [.t 69], qt 71 (.call .wr) [qf 14, .t 70] [70],
qo 72 .not [.t 71]] [1, 3, 72])
 (.cond (.t 72)
 (.seq (.region [qo 2 .mv [qb false]] [2])
 (.ret))
 (.skip))))
 (.region [qm 64 3, qo 65 (.bin .add) [.t 64, qi 1], qm 3 65] [1, 3]))))))
 (.seq (.region [qo 2 .mv [qb true]] [2])
 (.ret))))), [.tmp 2]⟩
def v_r10_Size : VFunc := ⟨36, .seq (.region [qt 2 .box [.t 0] [0], qo 4 .mv [qi 0]] [1, 2])
 (.seq (.region [qo 5 .mv [qi 1]] [1, 2, 5])
 (.seq (.seq (.region [qo 6 .mv [qi 0]] [1, 2, 5, 6])
 (.block 0 (.loop (.seq (.seq (.region [qm 7 6, qo 8 (.fieldAddr 3) [.t 2], qo 9 (.load 1 false) [.t 8], qo 10 .len [.t 9], qo 11 (.bin .lss) [.t 7, .t 10], qm 12 11, qv 13 5 12 true, qv 14 1 12 true,
qg 15 (.bin .leq) [.t 13, .t 14] [] 12 true, qo 16 .pick [.t 12, .t 15, qb false]] [1, 2, 5, 6, 16])
 (.cond (.t 16)
 (.skip)
 (.exit 0)))
 (.seq (.block 1 (.region [qm 19 5, qo 20 (.fieldAddr 3) [.t 2], qo 21 (.load 1 false) [.t 20], qm 22 6, qo 23 (.indexAddr 4) [.t 21, .t 22], qo 24 (.load 4 true) [.t 23], qm 25 1, qm 26 5,
qo 27 (.bin .sub) [.t 25, .t 26], qt 28 (.call .wr) [qf 15, .t 24, .t 27] [24], qo 29 (.bin .add) [.t 19, .t 28], qm 5 29] [1, 2, 5, 6]))
 (.region [qm 17 6, qo 18 (.bin .add) [.t 17, qi 1], qm 6 18] [1, 2, 5, 6]))))))
 (.seq (.seq (.region [qm 30 5, qm 31 1, qo 32 (.bin .gtr) [.t 30, .t 31]] [1, 5, 32])
 (.cond (.t 32)
 (.seq (.region [qm 33 1, qo 34 (.bin .add) [.t 33, qi 1], qm 4 34] [4])
 (.ret))
 (.skip)))
 (.seq (.region [qm 35 5, qm 4 35] [4])
 (.ret))))), [.tmp 4]⟩
def v_l10_right : VFunc := ⟨11, .seq (.region [qt 1 .box [.t 0] [0], qo 2 .mv [qb false]] [1])
 (.seq (.region [qo 3 (.fieldAddr 0) [.t 1], qo 4 (.load 4 true) [.t 3], qt 5 (.call .wr) [qf 14, .t 4] [4], qm 6 5, qg 7 (.fieldAddr 4) [.t 1] [] 6 true, qg 8 (.load 4 true) [.t 7] [] 6 true,
qg 9 (.call .wr) [qf 14, .t 8] [8] 6 true, qo 10 .pick [.t 6, .t 9, qb false], qm 2 10] [2])
 (.ret)), [.tmp 2]⟩
def v_r10_Subst : VFunc := ⟨62, .seq (.region [qt 3 .box [.t 0] [0], qo 6 (.alloc [.int .i64 0, .int .i64 0, .str [], .sl true 4 []]) []] [1, 2, 3, 6])
 (.seq (.seq (.region [qo 10 (.fieldAddr 0) [.t 3], qo 11 (.load 1 false) [.t 10], qo 12 (.bin .eql) [.t 11, qi 1]] [1, 2, 3, 6, 12])
 (.cond (.t 12)
 (.seq (.seq (.region [qo 7 .mv [qi 0]] [1, 2, 3, 6, 7])
 (.block 0 (.loop (.seq (.seq (.region [qm 13 7, qm 14 1, qo 15 .len [.t 14], qo 16 (.bin .lss) [.t 13, .t 15]] [1, 2, 3, 6, 7, 16])
 (.cond (.t 16)
 (.skip)
 (.exit 0)))
 (.seq (.block 1 (.seq (.region [qm 19 1, qm 20 7, qo 21 (.indexAddr 1) [.t 19, .t 20], qo 22 (.load 1 false) [.t 21], qo 23 (.fieldAddr 1) [.t 3], qo 24 (.load 1 false) [.t 23], qo 25 (.bin .eql) [.t 22, .t 24]] [1, 2, 3, 6, 7, 25])
 (.cond (.t 25)
 (.seq (.seq (.region [qm 26 7, qm 27 2, qo 28 .len [.t 27], qo 29 (.bin .lss) [.t 26, .t 28]] [2, 3, 6, 7, 29])
 (.cond (.t 29)
 (.seq (.region [qt 30 .mv [.t 2] [2], qm 31 7, qo 32 (.indexAddr 4) [.t 30, .t 31], qo 33 (.load 4 true) [.t 32], qn (.store 4) [.t 6, .t 33] [33]] [6])
 (.ret))
 (.skip)))
 (.seq (.region [qo 34 (.loadT 4 true) [.t 3], qn (.store 4) [.t 6, .t 34] [34]] [6])
 (.ret)))
 (.skip))))
 (.region [qm 17 7, qo 18 (.bin .add) [.t 17, qi 1], qm 7 18] [1, 2, 3, 6, 7]))))))
 (.seq (.region [qo 35 (.loadT 4 true) [.t 3], qn (.store 4) [.t 6, .t 35] [35]] [6])
 (.ret)))
 (.skip)))
 (.seq (.region [qo 36 (.fieldAddr 0) [.t 3], qo 37 (.load 1 false) [.t 36], qo 38 (.fieldAddr 2) [.t 3], qo 39 (.load 1 false) [.t 38],
qo 40 (.build [.int .i64 0, .int .i64 0, .str [], .sl true 4 []] [(0, 1), (2, 1)]) [.t 37, .t 39], qo 8 (.alloc [.int .i64 0, .int .i64 0, .str [], .sl true 4 []]) [],
qn (.store 4) [.t 8, .t 40] [40]] [1, 2, 3, 6, 8])
 (.seq (.seq (.region [qo 9 .mv [qi 0]] [1, 2, 3, 6, 8, 9])
 (.block 2 (.loop (.seq (.seq (.region [qm 41 9, qo 42 (.fieldAddr 3) [.t 3], qo 43 (.load 1 false) [.t 42], qo 44 .len [.t 43], qo 45 (.bin .lss) [.t 41, .t 44]] [1, 2, 3, 6, 8, 9, 45])
 (.cond (.t 45)
 (.skip)
 (.exit 2)))
 (.seq (.block 3 (.region [qo 48 (.fieldAddr 3) [.t 8], qo 49 (.loadT 1 false) [.t 48], qo 50 (.fieldAddr 3) [.t 3], qo 51 (.load 1 false) [.t 50], qm 52 9, qo 53 (.indexAddr 4) [.t 51, .t 52],
qo 54 (.load 4 true) [.t 53], qm 55 1, qm 56 2, qt 57 (.call .al) [qf 17, .t 54, .t 55, .t 56] [54, 55, 56], qt 58 (.buildSl 4) [.t 57] [57], qt 59 (.append 4 56) [.t 49, .t 58] [49],
qo 60 (.fieldAddr 3) [.t 8], qn (.store 1) [.t 60, .t 59] [59]] [1, 2, 3, 6, 8, 9]))
 (.region [qm 46 9, qo 47 (.bin .add) [.t 46, qi 1], qm 9 47] [1, 2, 3, 6, 8, 9]))))))
 (.seq (.region [qo 61 (.loadT 4 true) [.t 8], qn (.store 4) [.t 6, .t 61] [61]] [6])
 (.ret))))), [.cell 6 4 true]⟩
def v_unify_Store_Unify : VFunc := ⟨66, .seq (.region [qt 4 .box [.t 1] [1], qt 5 .box [.t 2] [2], qo 6 .mv [qi 0]] [0, 4, 5])
 (.seq (.block 0 (.seq (.region [qm 11 0, qo 12 (.isNil false) [.t 11, .c (.nilp)], qm 13 12, qv 14 0 13 false, qg 15 .nilCheck [.t 14] [] 13 false, qg 16 (.fieldAddr 0) [.t 15] [] 13 false,
qg 17 (.load 1 false) [.t 16] [] 13 false, qg 18 (.isNil false) [.t 17, .c (.nilmap)] [] 13 false, qo 19 .pick [.t 13, qb true, .t 18], qm 10 19] [0, 4, 5, 10])
 (.cond (.t 10)
 (.seq (.region [qo 6 .mv [qi 3]] [6])
 (.ret))
 (.seq (.region [qo 21 (.load 4 true) [.t 4], qt 22 (.call .wr) [qf 27, .t 21] [21], qo 23 .not [.t 22], qm 24 23, qg 25 (.load 4 true) [.t 5] [] 24 false, qg 26 (.call .wr) [qf 27, .t 25] [25] 24 false,
qg 27 .not [.t 26] [] 24 false, qo 28 .pick [.t 24, qb true, .t 27], qm 20 28] [0, 4, 5, 20])
 (.cond (.t 20)
 (.seq (.region [qo 6 .mv [qi 1]] [6])
 (.ret))
 (.skip))))))
 (.seq (.region [qm 29 0, qo 30 (.load 4 true) [.t 4], qt 31 (.call .wr) [qf 28, .t 29, .t 30] [30]] [0, 4, 5])
 (.seq (.region [qm 32 0, qo 33 (.load 4 true) [.t 5], qt 34 (.call .wr) [qf 28, .t 32, .t 33] [33]] [0, 4, 5])
 (.seq (.region [qm 35 0, qo 36 .nilCheck [.t 35], qo 37 (.fieldAddr 2) [.t 36], qn (.store 1) [.t 37, .c (.sl true 1 [])] []] [0, 4, 5])
 (.seq (.region [qm 38 0, qo 39 .makeMap [], qo 40 .nilCheck [.t 38], qo 41 (.fieldAddr 3) [.t 40], qn (.store 1) [.t 41, .t 39] []] [0, 4, 5])
 (.seq (.region [qm 42 0, qo 43 (.load 4 true) [.t 4], qt 44 (.call .al) [qf 31, .t 43] [43], qo 45 (.load 4 true) [.t 5], qt 46 (.call .al) [qf 31, .t 45] [45],
qt 47 (.call .wr) [qf 30, .t 42, .t 44, .t 46] [44, 46], qm 7 47] [0, 7])
 (.seq (.seq (.region [qm 48 7, qo 49 (.bin .neq) [.t 48, qi 0]] [0, 7, 49])
 (.cond (.t 49)
 (.seq (.region [qm 50 0, qo 51 .nilCheck [.t 50], qo 52 (.fieldAddr 2) [.t 51], qo 53 (.load 1 false) [.t 52], qo 54 .len [.t 53], qo 55 .mv [qi 0]] [0, 7, 53, 54, 55])
 (.block 1 (.loop (.seq (.region [qo 56 (.bin .lss) [.t 55, .t 54]] [0, 7, 53, 54, 55, 56])
 (.seq (.cond (.t 56)
 (.skip)
 (.exit 1))
 (.seq (.block 2 (.seq (.region [qo 57 (.indexAddr 1) [.t 53, .t 55], qo 58 (.load 1 false) [.t 57], qm 9 58] [0, 7, 9, 53, 54, 55])
 (.region [qm 59 0, qo 60 .nilCheck [.t 59], qo 61 (.fieldAddr 0) [.t 60], qo 62 (.load 1 false) [.t 61], qm 63 9, qn (.delete false [.i]) [.t 62, .t 63] []] [0, 7, 53, 54, 55])))
 (.region [qo 64 (.bin .add) [.t 55, qi 1], qm 55 64] [0, 7, 53, 54, 55])))))))
 (.skip)))
 (.seq (.region [qm 65 7, qm 6 65] [6])
 (.ret))))))))), [.tmp 6]⟩
def v_unify_New : VFunc := ⟨4, .seq (.region [qo 0 .mv [.c (.nilp)]] [])
 (.seq (.region [qo 1 .makeMap [], qo 2 (.build [.nilmap, .int .i64 0, .sl true 1 [], .nilmap] [(0, 1)]) [.t 1], qt 3 .box [.t 2] [2], qm 0 3] [0])
 (.ret)), [.tmp 0]⟩
def v_unify_Store_Leaves : VFunc := ⟨27, .seq (.region [qt 3 .box [.t 1] [1], qo 4 .mv [.c (.sl true 1 [])], qo 5 .mv [qi 0]] [0, 3])
 (.seq (.block 0 (.seq (.region [qm 7 0, qo 8 (.isNil false) [.t 7, .c (.nilp)], qm 9 8, qv 10 0 9 false, qg 11 .nilCheck [.t 10] [] 9 false, qg 12 (.fieldAddr 0) [.t 11] [] 9 false, qg 13 (.load 1 false) [.t 12] [] 9 false,
qg 14 (.isNil false) [.t 13, .c (.nilmap)] [] 9 false, qo 15 .pick [.t 9, qb true, .t 14], qm 6 15] [0, 3, 6])
 (.cond (.t 6)
 (.seq (.region [qo 4 .mv [.c (.sl true 1 [])], qo 5 .mv [qi 3]] [4, 5])
 (.ret))
 (.seq (.region [qo 17 (.load 4 true) [.t 3], qt 18 (.call .wr) [qf 27, .t 17] [17], qo 19 .not [.t 18], qm 16 19] [0, 3, 16])
 (.cond (.t 16)
 (.seq (.region [qo 4 .mv [.c (.sl true 1 [])], qo 5 .mv [qi 1]] [4, 5])
 (.ret))
 (.skip))))))
 (.seq (.region [qm 20 0, qo 21 (.load 4 true) [.t 3], qt 22 (.call .wr) [qf 28, .t 20, .t 21] [21]] [0, 3])
 (.seq (.region [qm 23 0, qo 24 (.loadT 4 true) [.t 3], qo 25 .makeMap [], qt 26 (.call .wr) [qf 32, .t 23, .t 24, .c (.sl true 1 []), .t 25] [24], qt 4 .mv [.t 26] [26], qo 5 .mv [qi 0]] [4, 5])
 (.ret)))), [.tmp 4, .tmp 5]⟩
def v_unify_Store_Fresh : VFunc := ⟨20, .seq (.region [qo 2 (.alloc [.int .i64 0, .int .i64 0, .str [], .sl true 4 []]) []] [0, 2])
 (.seq (.seq (.region [qm 4 0, qo 5 (.isNil false) [.t 4, .c (.nilp)]] [0, 2, 5])
 (.cond (.t 5)
 (.seq (.region [qo 6 (.call .wr) [qf 33, qi 0], qn (.store 4) [.t 2, .t 6] [6]] [2])
 (.ret))
 (.skip)))
 (.seq (.region [qm 7 0, qo 8 .nilCheck [.t 7], qo 9 (.fieldAddr 1) [.t 8], qo 10 (.load 1 false) [.t 9], qm 3 10] [0, 2, 3])
 (.seq (.region [qm 11 0, qo 12 .nilCheck [.t 11], qo 13 (.fieldAddr 1) [.t 12], qo 14 (.load 1 false) [.t 13], qo 15 (.bin .add) [.t 14, qi 1], qo 16 .nilCheck [.t 11], qo 17 (.fieldAddr 1) [.t 16],
qn (.store 1) [.t 17, .t 15] []] [2, 3])
 (.seq (.region [qm 18 3, qo 19 (.call .wr) [qf 33, .t 18], qn (.store 4) [.t 2, .t 19] [19]] [2])
 (.ret))))), [.cell 2 4 true]⟩
def v_r10_Var : VFunc := ⟨5, .seq (.region [qo 2 (.alloc [.int .i64 0, .int .i64 0, .str [], .sl true 4 []]) []] [0, 2])
 (.seq (.region [qm 3 0, qo 4 (.build [.int .i64 0, .int .i64 0, .str [], .sl true 4 []] [(0, 1), (1, 1)]) [qi 1, .t 3], qn (.store 4) [.t 2, .t 4] [4]] [2])
 (.ret)), [.cell 2 4 true]⟩
def v_r10_Vars : VFunc := ⟨59, .seq (.region [qt 2 .box [.t 0] [0], qo 4 .mv [.c (.sl true 1 [])]] [1, 2])
 (.seq (.seq (.region [qo 9 (.fieldAddr 0) [.t 2], qo 10 (.load 1 false) [.t 9], qo 11 (.bin .eql) [.t 10, qi 1]] [1, 2, 11])
 (.cond (.t 11)
 (.seq (.seq (.region [qo 5 .mv [qi 0]] [1, 2, 5])
 (.block 0 (.loop (.seq (.seq (.region [qm 12 5, qm 13 1, qo 14 .len [.t 13], qo 15 (.bin .lss) [.t 12, .t 14]] [1, 2, 5, 15])
 (.cond (.t 15)
 (.skip)
 (.exit 0)))
 (.seq (.block 1 (.seq (.region [qm 18 1, qm 19 5, qo 20 (.indexAddr 1) [.t 18, .t 19], qo 21 (.load 1 false) [.t 20], qo 22 (.fieldAddr 1) [.t 2], qo 23 (.load 1 false) [.t 22], qo 24 (.bin .eql) [.t 21, .t 23]] [1, 2, 5, 24])
 (.cond (.t 24)
 (.seq (.region [qt 25 .mv [.t 1] [1], qt 4 .mv [.t 25] [25]] [4])
 (.ret))
 (.skip))))
 (.region [qm 16 5, qo 17 (.bin .add) [.t 16, qi 1], qm 5 17] [1, 2, 5]))))))
 (.seq (.region [qo 6 .mv [.c (.sl true 1 [])]] [1, 2, 6])
 (.seq (.seq (.region [qo 7 .mv [qi 0]] [1, 2, 6, 7])
 (.block 2 (.loop (.seq (.seq (.region [qm 26 7, qm 27 1, qo 28 .len [.t 27], qo 29 (.bin .lss) [.t 26, .t 28]] [1, 2, 6, 7, 29])
 (.cond (.t 29)
 (.skip)
 (.exit 2)))
 (.seq (.block 3 (.region [qt 32 .mv [.t 6] [6], qm 33 1, qm 34 7, qo 35 (.indexAddr 1) [.t 33, .t 34], qo 36 (.load 1 false) [.t 35], qo 37 (.buildSl 1) [.t 36], qt 38 (.append 1 8) [.t 32, .t 37] [32],
qt 6 .mv [.t 38] [38]] [1, 2, 6, 7]))
 (.region [qm 30 7, qo 31 (.bin .add) [.t 30, qi 1], qm 7 31] [1, 2, 6, 7]))))))
 (.seq (.region [qt 39 .mv [.t 6] [6], qo 40 (.fieldAddr 1) [.t 2], qo 41 (.load 1 false) [.t 40], qo 42 (.buildSl 1) [.t 41], qt 43 (.append 1 8) [.t 39, .t 42] [39], qt 4 .mv [.t 43] [43]] [4])
 (.ret)))))
 (.skip)))
 (.seq (.seq (.region [qo 8 .mv [qi 0]] [1, 2, 8])
 (.block 4 (.loop (.seq (.seq (.region [qm 44 8, qo 45 (.fieldAddr 3) [.t 2], qo 46 (.load 1 false) [.t 45], qo 47 .len [.t 46], qo 48 (.bin .lss) [.t 44, .t 47]] [1, 2, 8, 48])
 (.cond (.t 48)
 (.skip)
 (.exit 4)))
 (.seq (.block 5 (.region [qo 51 (.fieldAddr 3) [.t 2], qo 52 (.load 1 false) [.t 51], qm 53 8, qo 54 (.indexAddr 4) [.t 52, .t 53], qo 55 (.load 4 true) [.t 54], qt 56 .mv [.t 1] [1],
qt 57 (.call .wr) [qf 23, .t 55, .t 56] [55, 56], qt 1 .mv [.t 57] [57]] [1, 2, 8]))
 (.region [qm 49 8, qo 50 (.bin .add) [.t 49, qi 1], qm 8 50] [1, 2, 8]))))))
 (.seq (.region [qt 58 .mv [.t 1] [1], qt 4 .mv [.t 58] [58]] [4])
 (.ret)))), [.tmp 4]⟩
def v_unify_Rename : VFunc := ⟨23, .seq (.region [qt 1 .box [.t 0] [0], qo 2 (.alloc [.int .i64 0, .int .i64 0, .str [], .sl true 4 []]) []] [1, 2])
 (.seq (.region [qo 6 (.load 4 true) [.t 1], qt 7 (.call .wr) [qf 34, .t 6] [6], qt 3 .mv [.t 7] [7]] [1, 2, 3])
 (.seq (.region [qo 4 .mv [.c (.sl true 4 [])]] [1, 2, 3, 4])
 (.seq (.seq (.region [qm 8 3, qo 9 .len [.t 8], qo 10 .mv [qi 0]] [1, 2, 3, 4, 9, 10])
 (.block 0 (.loop (.seq (.region [qo 11 (.bin .lss) [.t 10, .t 9]] [1, 2, 3, 4, 9, 10, 11])
 (.seq (.cond (.t 11)
 (.skip)
 (.exit 0))
 (.seq (.block 1 (.seq (.region [qm 12 10, qm 5 12] [1, 2, 3, 4, 5, 9, 10])
 (.region [qt 13 .mv [.t 4] [4], qm 14 5, qo 15 (.call .wr) [qf 33, .t 14], qt 16 (.buildSl 4) [.t 15] [15], qt 17 (.append 4 56) [.t 13, .t 16] [13], qt 4 .mv [.t 17] [17]] [1, 2, 3, 4, 9, 10])))
 (.region [qo 18 (.bin .add) [.t 10, qi 1], qm 10 18] [1, 2, 3, 4, 9, 10])))))))
 (.seq (.region [qo 19 (.loadT 4 true) [.t 1], qt 20 .mv [.t 3] [3], qt 21 .mv [.t 4] [4], qt 22 (.call .wr) [qf 35, .t 19, .t 20, .t 21] [19, 20, 21], qn (.store 4) [.t 2, .t 22] [22]] [2])
 (.ret))))), [.cell 2 4 true]⟩
def v_l10_to : VFunc := ⟨9, .seq (.region [qt 2 .box [.t 0] [0], qt 3 .box [.t 1] [1], qo 4 (.alloc [.int .i64 0, .int .i64 0, .str [], .sl true 4 []]) []] [2, 3, 4])
 (.seq (.region [qo 5 (.loadT 4 true) [.t 2], qo 6 (.loadT 4 true) [.t 3], qt 7 (.buildSl 4) [.t 5, .t 6] [5, 6],
qt 8 (.build [.int .i64 0, .int .i64 0, .str [], .sl true 4 []] [(0, 1), (3, 1)]) [qi 3, .t 7] [7], qn (.store 4) [.t 4, .t 8] [8]] [4])
 (.ret)), [.cell 4 4 true]⟩
def v_l10_named : VFunc := ⟨5, .seq (.region [qo 2 (.alloc [.int .i64 0, .int .i64 0, .str [], .sl true 4 []]) []] [0, 2])
 (.seq (.region [qm 3 0, qo 4 (.build [.int .i64 0, .int .i64 0, .str [], .sl true 4 []] [(0, 1), (2, 1)]) [qi 2, .t 3], qn (.store 4) [.t 2, .t 4] [4]] [2])
 (.ret)), [.cell 2 4 true]⟩
def v_unify_Right : VFunc := ⟨65, .seq (.region [qt 1 .box [.t 0] [0], qo 2 .mv [qb false]] [1])
 (.seq (.seq (.region [qo 5 (.fieldAddr 0) [.t 1], qo 6 (.load 1 false) [.t 5]] [1, 6])
 (.block 0 (.seq (.region [qo 8 (.bin .eql) [.t 6, qi 1], qm 7 8] [1, 6, 7])
 (.cond (.t 7)
 (.seq (.region [qo 9 (.fieldAddr 1) [.t 1], qo 10 (.load 1 false) [.t 9], qo 11 (.bin .geq) [.t 10, qi 0], qm 12 11, qg 13 (.fieldAddr 1) [.t 1] [] 12 true, qg 14 (.load 1 false) [.t 13] [] 12 true,
qg 15 (.bin .leq) [.t 14, qi 1073741824] [] 12 true, qo 16 .pick [.t 12, .t 15, qb false], qm 17 16, qg 18 (.fieldAddr 2) [.t 1] [] 17 true, qg 19 (.load 1 false) [.t 18] [] 17 true,
qg 20 (.bin .eql) [.t 19, .c (.str [])] [] 17 true, qo 21 .pick [.t 17, .t 20, qb false], qm 22 21, qg 23 (.fieldAddr 3) [.t 1] [] 22 true, qg 24 (.load 1 false) [.t 23] [] 22 true,
qg 25 .len [.t 24] [] 22 true, qg 26 (.bin .eql) [.t 25, qi 0] [] 22 true, qo 27 .pick [.t 22, .t 26, qb false], qm 2 27] [2])
 (.ret))
 (.seq (.region [qo 29 (.bin .eql) [.t 6, qi 2], qm 28 29] [1, 6, 28])
 (.cond (.t 28)
 (.seq (.region [qo 30 (.fieldAddr 2) [.t 1], qo 31 (.load 1 false) [.t 30], qo 32 (.bin .eql) [.t 31, .c (.str [])], qm 33 32, qg 34 (.fieldAddr 1) [.t 1] [] 33 false,
qg 35 (.load 1 false) [.t 34] [] 33 false, qg 36 (.bin .neq) [.t 35, qi 0] [] 33 false, qo 37 .pick [.t 33, qb true, .t 36]] [1, 37])
 (.cond (.t 37)
 (.seq (.region [qo 2 .mv [qb false]] [2])
 (.ret))
 (.skip)))
 (.seq (.region [qo 39 (.bin .eql) [.t 6, qi 3], qm 38 39] [1, 38])
 (.cond (.t 38)
 (.seq (.region [qo 40 (.fieldAddr 2) [.t 1], qo 41 (.load 1 false) [.t 40], qo 42 (.bin .neq) [.t 41, .c (.str [])], qm 43 42, qg 44 (.fieldAddr 1) [.t 1] [] 43 false,
qg 45 (.load 1 false) [.t 44] [] 43 false, qg 46 (.bin .neq) [.t 45, qi 0] [] 43 false, qo 47 .pick [.t 43, qb true, .t 46], qm 48 47, qg 49 (.fieldAddr 3) [.t 1] [] 48 false,
qg 50 (.load 1 false) [.t 49] [] 48 false, qg 51 .len [.t 50] [] 48 false, qg 52 (.bin .neq) [.t 51, qi 2] [] 48 false, qo 53 .pick [.t 48, qb true, .t 52]] [1, 53])
 (.cond (.t 53)
 (.seq (.region [qo 2 .mv [qb false]] [2])
 (.ret))
 (.skip)))
 (.seq (.region [qo 2 .mv [qb false]] [2])
 (.ret))))))))))
 (.seq (.seq (.region [qo 54 (.fieldAddr 3) [.t 1], qo 55 (.load 1 false) [.t 54], qo 56 .len [.t 55], qo 57 .mv [qi 0]] [55, 56, 57])
 (.block 1 (.loop (.seq (.region [qo 58 (.bin .lss) [.t 57, .t 56]] [55, 56, 57, 58])
 (.seq (.cond (.t 58)
 (.skip)
 (.exit 1))
 (.seq (.block 2 (.seq (.region [qo 59 (.indexAddr 4) [.t 55, .t 57], qo 60 (.load 4 true) [.t 59], qo 4 (.alloc [.int .i64 0, .int .i64 0, .str [], .sl true 4 []]) [], qn (.store 4) [.t 4, .t 60] [60]] [4, 55, 56, 57])
 (.seq (.region [qo 61 (.loadT 4 true) [.t 4], qt 62 (.call .wr) [qf 27, .t 61] [61], qo 63 .not [.t 62]] [55, 56, 57, 63])
 (.cond (.t 63)
 (.seq (.region [qo 2 .mv [qb false]] [2])
 (.ret))
 (.skip)))))
 (.region [qo 64 (.bin .add) [.t 57, qi 1], qm 57 64] [55, 56, 57])))))))
 (.seq (.region [qo 2 .mv [qb true]] [2])
 (.ret)))), [.tmp 2]⟩
def v_unify_Store_sees : VFunc := ⟨31, .seq (.region [qt 3 .box [.t 1] [1]] [0, 3])
 (.seq (.seq (.region [qo 6 (.fieldAddr 0) [.t 3], qo 7 (.load 1 false) [.t 6], qo 8 (.bin .eql) [.t 7, qi 1]] [0, 3, 8])
 (.cond (.t 8)
 (.region [qm 9 0, qm 10 0, qo 11 .nilCheck [.t 10], qo 12 (.fieldAddr 1) [.t 11], qo 13 (.load 1 false) [.t 12], qo 14 (.fieldAddr 1) [.t 3], qo 15 (.load 1 false) [.t 14],
qo 16 (.bin .add) [.t 15, qi 1], qo 17 .max [.t 13, .t 16], qo 18 .nilCheck [.t 9], qo 19 (.fieldAddr 1) [.t 18], qn (.store 1) [.t 19, .t 17] []] [0, 3])
 (.skip)))
 (.seq (.region [qo 20 (.fieldAddr 3) [.t 3], qo 21 (.load 1 false) [.t 20], qo 22 .len [.t 21], qo 23 .mv [qi 0]] [0, 21, 22, 23])
 (.block 0 (.loop (.seq (.region [qo 24 (.bin .lss) [.t 23, .t 22]] [0, 21, 22, 23, 24])
 (.seq (.cond (.t 24)
 (.skip)
 (.exit 0))
 (.seq (.block 1 (.seq (.region [qo 25 (.indexAddr 4) [.t 21, .t 23], qo 26 (.load 4 true) [.t 25], qo 5 (.alloc [.int .i64 0, .int .i64 0, .str [], .sl true 4 []]) [], qn (.store 4) [.t 5, .t 26] [26]] [0, 5, 21, 22, 23])
 (.region [qm 27 0, qo 28 (.loadT 4 true) [.t 5], qt 29 (.call .wr) [qf 28, .t 27, .t 28] [28]] [0, 21, 22, 23])))
 (.region [qo 30 (.bin .add) [.t 23, qi 1], qm 23 30] [0, 21, 22, 23])))))))), []⟩
def v_unify_resolver_resolve : VFunc := ⟨51, .seq (.region [qt 3 .box [.t 1] [1], qo 4 (.alloc [.int .i64 0, .int .i64 0, .str [], .sl true 4 []]) []] [0, 3, 4])
 (.seq (.region [qm 8 0, qo 9 .nilCheck [.t 8], qo 10 (.fieldAddr 0) [.t 9], qo 11 (.load 1 false) [.t 10], qo 12 (.loadT 4 true) [.t 3], qt 13 (.call .wr) [qf 36, .t 11, .t 12] [12],
qn (.store 4) [.t 3, .t 13] [13]] [0, 3, 4])
 (.seq (.region [qm 14 0, qo 15 .nilCheck [.t 14], qo 16 (.fieldAddr 1) [.t 15], qo 17 (.load 1 false) [.t 16], qo 18 (.bin .add) [.t 17, qi 1], qo 19 .nilCheck [.t 14], qo 20 (.fieldAddr 1) [.t 19],
qn (.store 1) [.t 20, .t 18] []] [0, 3, 4])
 (.seq (.region [qo 21 (.fieldAddr 0) [.t 3], qo 22 (.load 1 false) [.t 21], qo 23 (.fieldAddr 1) [.t 3], qo 24 (.load 1 false) [.t 23], qo 25 (.fieldAddr 2) [.t 3], qo 26 (.load 1 false) [.t 25],
qo 27 (.build [.int .i64 0, .int .i64 0, .str [], .sl true 4 []] [(0, 1), (1, 1), (2, 1)]) [.t 22, .t 24, .t 26], qo 5 (.alloc [.int .i64 0, .int .i64 0, .str [], .sl true 4 []]) [],
qn (.store 4) [.t 5, .t 27] [27]] [0, 3, 4, 5])
 (.seq (.seq (.region [qo 28 (.fieldAddr 3) [.t 3], qo 29 (.load 1 false) [.t 28], qo 30 .len [.t 29], qo 31 .mv [qi 0]] [0, 3, 4, 5, 29, 30, 31])
 (.block 0 (.loop (.seq (.region [qo 32 (.bin .lss) [.t 31, .t 30]] [0, 3, 4, 5, 29, 30, 31, 32])
 (.seq (.cond (.t 32)
 (.skip)
 (.exit 0))
 (.seq (.block 1 (.seq (.region [qo 33 (.indexAddr 4) [.t 29, .t 31], qo 34 (.load 4 true) [.t 33], qo 7 (.alloc [.int .i64 0, .int .i64 0, .str [], .sl true 4 []]) [], qn (.store 4) [.t 7, .t 34] [34]] [0, 3, 4, 5, 7, 29, 30, 31])
 (.seq (.seq (.region [qm 35 0, qo 36 .nilCheck [.t 35], qo 37 (.fieldAddr 1) [.t 36], qo 38 (.load 1 false) [.t 37], qo 39 (.bin .gtr) [.t 38, qi 256]] [0, 3, 4, 5, 7, 29, 30, 31, 39])
 (.cond (.t 39)
 (.seq (.region [qo 40 (.build [.int .i64 0, .int .i64 0, .str [], .sl true 4 []] []) [], qn (.store 4) [.t 4, .t 40] [40]] [3, 4])
 (.ret))
 (.skip)))
 (.region [qo 41 (.fieldAddr 3) [.t 5], qo 42 (.loadTL 3 1 false) [.t 41], qm 43 0, qo 44 (.loadL 3 4 true) [.t 7], qt 45 (.call (.fr 3)) [qf 29, .t 43, .t 44] [44], qt 46 (.buildSl 4) [.t 45] [45],
qt 47 (.append 4 56) [.t 42, .t 46] [42], qo 48 (.fieldAddr 3) [.t 5], qn (.store 1) [.t 48, .t 47] [47]] [0, 3, 4, 5, 29, 30, 31]))))
 (.region [qo 49 (.bin .add) [.t 31, qi 1], qm 31 49] [0, 3, 4, 5, 29, 30, 31])))))))
 (.seq (.region [qo 50 (.loadT 4 true) [.t 5], qn (.store 4) [.t 4, .t 50] [50]] [3, 4])
 (.ret)))))), [.cell 4 4 true]⟩
def v_unify_Store_same : VFunc := ⟨59, .seq (.region [qt 4 .box [.t 1] [1], qt 5 .box [.t 2] [2], qo 6 .mv [qi 0]] [0, 4, 5])
 (.seq (.seq (.region [qo 9 (.fieldAddr 0) [.t 4], qo 10 (.load 1 false) [.t 9], qo 11 (.bin .neq) [.t 10, qi 1], qm 12 11, qg 13 (.fieldAddr 0) [.t 5] [] 12 false, qg 14 (.load 1 false) [.t 13] [] 12 false,
qg 15 (.bin .neq) [.t 14, qi 1] [] 12 false, qo 16 .pick [.t 12, qb true, .t 15]] [0, 4, 5, 16])
 (.cond (.t 16)
 (.seq (.region [qm 17 0, qm 18 0, qo 19 (.load 4 true) [.t 4], qt 20 (.call .rd) [qf 36, .t 18, .t 19] [19], qm 21 0, qo 22 (.load 4 true) [.t 5], qt 23 (.call .rd) [qf 36, .t 21, .t 22] [22],
qt 24 (.call .wr) [qf 37, .t 17, .t 20, .t 23] [20, 23], qm 6 24] [6])
 (.ret))
 (.skip)))
 (.seq (.region [qo 25 (.fieldAddr 1) [.t 4], qo 26 (.load 1 false) [.t 25], qo 27 (.fieldAddr 1) [.t 5], qo 28 (.load 1 false) [.t 27],
qo 29 (.build [.int .i64 0, .int .i64 0] [(0, 1), (1, 1)]) [.t 26, .t 28], qo 7 (.alloc [.int .i64 0, .int .i64 0]) [], qn (.store 2) [.t 7, .t 29] []] [0, 4, 5, 7])
 (.seq (.seq (.region [qo 30 (.fieldAddr 1) [.t 4], qo 31 (.load 1 false) [.t 30], qo 32 (.fieldAddr 1) [.t 5], qo 33 (.load 1 false) [.t 32], qo 34 (.bin .eql) [.t 31, .t 33], qm 35 34, qv 36 0 35 false,
qg 37 .nilCheck [.t 36] [] 35 false, qg 38 (.fieldAddr 3) [.t 37] [] 35 false, qg 39 (.load 1 false) [.t 38] [] 35 false, qg 40 (.load 2 true) [.t 7] [] 35 false,
qg 41 (.lookup true [.i, .i] false [.bool false] false) [.t 39, .t 40] [] 35 false, qo 42 .pick [.t 35, qb true, .t 41]] [0, 4, 5, 7, 42])
 (.cond (.t 42)
 (.seq (.region [qo 6 .mv [qi 0]] [6])
 (.ret))
 (.skip)))
 (.seq (.region [qm 43 0, qm 44 0, qo 45 (.load 4 true) [.t 4], qt 46 (.call .rd) [qf 36, .t 44, .t 45] [45], qm 47 0, qo 48 (.load 4 true) [.t 5], qt 49 (.call .rd) [qf 36, .t 47, .t 48] [48],
qt 50 (.call .wr) [qf 37, .t 43, .t 46, .t 49] [46, 49], qm 8 50] [0, 7, 8])
 (.seq (.seq (.region [qm 51 8, qo 52 (.bin .eql) [.t 51, qi 0]] [0, 7, 8, 52])
 (.cond (.t 52)
 (.region [qm 53 0, qo 54 .nilCheck [.t 53], qo 55 (.fieldAddr 3) [.t 54], qo 56 (.load 1 false) [.t 55], qo 57 (.load 2 true) [.t 7], qn (.mapUpdate true [.i, .i]) [.t 56, .t 57, qb true] []] [8])
 (.skip)))
 (.seq (.region [qm 58 8, qm 6 58] [6])
 (.ret))))))), [.tmp 6]⟩
def v_unify_copied : VFunc := ⟨22, .seq (.region [qt 1 .box [.t 0] [0], qo 2 (.alloc [.int .i64 0, .int .i64 0, .str [], .sl true 4 []]) []] [1, 2])
 (.seq (.region [qo 3 .mv [.c (.sl true 4 [])]] [1, 2, 3])
 (.seq (.seq (.region [qo 6 (.fieldAddr 3) [.t 1], qo 7 (.load 1 false) [.t 6], qo 8 .len [.t 7], qo 9 .mv [qi 0]] [1, 2, 3, 7, 8, 9])
 (.block 0 (.loop (.seq (.region [qo 10 (.bin .lss) [.t 9, .t 8]] [1, 2, 3, 7, 8, 9, 10])
 (.seq (.cond (.t 10)
 (.skip)
 (.exit 0))
 (.seq (.block 1 (.seq (.region [qo 11 (.indexAddr 4) [.t 7, .t 9], qo 12 (.load 4 true) [.t 11], qo 5 (.alloc [.int .i64 0, .int .i64 0, .str [], .sl true 4 []]) [], qn (.store 4) [.t 5, .t 12] [12]] [1, 2, 3, 5, 7, 8, 9])
 (.region [qt 13 .mv [.t 3] [3], qo 14 (.loadT 4 true) [.t 5], qt 15 (.call .wr) [qf 31, .t 14] [14], qt 16 (.buildSl 4) [.t 15] [15], qt 17 (.append 4 56) [.t 13, .t 16] [13], qt 3 .mv [.t 17] [17]] [1, 2, 3, 7, 8, 9])))
 (.region [qo 18 (.bin .add) [.t 9, qi 1], qm 9 18] [1, 2, 3, 7, 8, 9])))))))
 (.seq (.region [qt 19 .mv [.t 3] [3], qo 20 (.fieldAddr 3) [.t 1], qn (.store 1) [.t 20, .t 19] [19]] [1, 2])
 (.seq (.region [qo 21 (.loadT 4 true) [.t 1], qn (.store 4) [.t 2, .t 21] [21]] [2])
 (.ret))))), [.cell 2 4 true]⟩
def v_unify_Store_leaves : VFunc := ⟨60, .seq (.region [qt 5 .box [.t 1] [1], qo 8 .mv [.c (.sl true 1 [])]] [0, 2, 3, 5])
 (.seq (.seq (.region [qo 13 (.fieldAddr 0) [.t 5], qo 14 (.load 1 false) [.t 13], qo 15 (.bin .eql) [.t 14, qi 1]] [0, 2, 3, 5, 15])
 (.cond (.t 15)
 (.seq (.seq (.region [qm 16 3, qo 17 (.fieldAddr 1) [.t 5], qo 18 (.load 1 false) [.t 17], qo 19 (.lookup false [.i] false [.bool false] false) [.t 16, .t 18]] [0, 2, 3, 5, 19])
 (.cond (.t 19)
 (.seq (.region [qt 20 .mv [.t 2] [2], qt 8 .mv [.t 20] [20]] [8])
 (.ret))
 (.skip)))
 (.seq (.region [qm 21 3, qo 22 (.fieldAddr 1) [.t 5], qo 23 (.load 1 false) [.t 22], qn (.mapUpdate false [.i]) [.t 21, .t 23, qb true] []] [0, 2, 3, 5])
 (.seq (.region [qm 25 0, qo 26 .nilCheck [.t 25], qo 27 (.fieldAddr 0) [.t 26], qo 28 (.load 1 false) [.t 27], qo 29 (.fieldAddr 1) [.t 5], qo 30 (.load 1 false) [.t 29],
qo 31 (.lookup false [.i] true [.int .i64 0, .int .i64 0, .str [], .sl false 4 []] true) [.t 28, .t 30], qm 24 31, qo 32 (.extract 0) [.t 24], qo 33 (.extract 1) [.t 24],
qo 9 (.alloc [.int .i64 0, .int .i64 0, .str [], .sl true 4 []]) [], qn (.store 4) [.t 9, .t 32] [], qm 10 33] [0, 2, 3, 5, 9, 10])
 (.seq (.seq (.region [qm 34 10, qo 35 .not [.t 34]] [0, 2, 3, 5, 9, 35])
 (.cond (.t 35)
 (.seq (.region [qt 36 .mv [.t 2] [2], qo 37 (.fieldAddr 1) [.t 5], qo 38 (.load 1 false) [.t 37], qo 39 (.buildSl 1) [.t 38], qt 40 (.append 1 8) [.t 36, .t 39] [36], qt 8 .mv [.t 40] [40]] [8])
 (.ret))
 (.skip)))
 (.seq (.region [qm 41 0, qo 42 (.loadT 4 true) [.t 9], qt 43 .mv [.t 2] [2], qm 44 3, qt 45 (.call .wr) [qf 32, .t 41, .t 42, .t 43, .t 44] [42, 43], qt 8 .mv [.t 45] [45]] [8])
 (.ret))))))
 (.skip)))
 (.seq (.seq (.region [qo 46 (.fieldAddr 3) [.t 5], qo 47 (.load 1 false) [.t 46], qo 48 .len [.t 47], qo 49 .mv [qi 0]] [0, 2, 3, 47, 48, 49])
 (.block 0 (.loop (.seq (.region [qo 50 (.bin .lss) [.t 49, .t 48]] [0, 2, 3, 47, 48, 49, 50])
 (.seq (.cond (.t 50)
 (.skip)
 (.exit 0))
 (.seq (.block 1 (.seq (.region [qo 51 (.indexAddr 4) [.t 47, .t 49], qo 52 (.load 4 true) [.t 51], qo 12 (.alloc [.int .i64 0, .int .i64 0, .str [], .sl true 4 []]) [], qn (.store 4) [.t 12, .t 52] [52]] [0, 2, 3, 12, 47, 48, 49])
 (.region [qm 53 0, qo 54 (.loadT 4 true) [.t 12], qt 55 .mv [.t 2] [2], qm 56 3, qt 57 (.call .wr) [qf 32, .t 53, .t 54, .t 55, .t 56] [54, 55], qt 2 .mv [.t 57] [57]] [0, 2, 3, 47, 48, 49])))
 (.region [qo 58 (.bin .add) [.t 49, qi 1], qm 49 58] [0, 2, 3, 47, 48, 49])))))))
 (.seq (.region [qt 59 .mv [.t 2] [2], qt 8 .mv [.t 59] [59]] [8])
 (.ret)))), [.tmp 8]⟩
def v_unify_variable : VFunc := ⟨5, .seq (.region [qo 2 (.alloc [.int .i64 0, .int .i64 0, .str [], .sl true 4 []]) []] [0, 2])
 (.seq (.region [qm 3 0, qo 4 (.build [.int .i64 0, .int .i64 0, .str [], .sl true 4 []] [(0, 1), (1, 1)]) [qi 1, .t 3], qn (.store 4) [.t 2, .t 4] [4]] [2])
 (.ret)), [.cell 2 4 true]⟩
def v_unify_Vars : VFunc := ⟨8, .seq (.region [qt 1 .box [.t 0] [0], qo 2 .mv [.c (.sl true 1 [])]] [1])
 (.seq (.seq (.region [qo 3 (.load 4 true) [.t 1], qt 4 (.call .wr) [qf 27, .t 3] [3], qo 5 .not [.t 4]] [1, 5])
 (.cond (.t 5)
 (.seq (.region [qo 2 .mv [.c (.sl true 1 [])]] [2])
 (.ret))
 (.skip)))
 (.seq (.region [qo 6 (.loadT 4 true) [.t 1], qt 7 (.call .wr) [qf 38, .t 6, .c (.sl true 1 [])] [6], qt 2 .mv [.t 7] [7]] [2])
 (.ret))), [.tmp 2]⟩
def v_unify_Subst : VFunc := ⟨15, .seq (.region [qt 3 .box [.t 0] [0], qo 6 (.alloc [.int .i64 0, .int .i64 0, .str [], .sl true 4 []]) []] [1, 2, 3, 6])
 (.seq (.seq (.region [qo 7 (.load 4 true) [.t 3], qt 8 (.call .wr) [qf 27, .t 7] [7], qo 9 .not [.t 8]] [1, 2, 3, 6, 9])
 (.cond (.t 9)
 (.seq (.region [qo 10 (.build [.int .i64 0, .int .i64 0, .str [], .sl true 4 []] []) [], qn (.store 4) [.t 6, .t 10] [10]] [6])
 (.ret))
 (.skip)))
 (.seq (.region [qo 11 (.loadT 4 true) [.t 3], qt 12 .mv [.t 1] [1], qt 13 .mv [.t 2] [2], qt 14 (.call .wr) [qf 39, .t 11, .t 12, .t 13] [11, 12, 13], qn (.store 4) [.t 6, .t 14] [14]] [6])
 (.ret))), [.cell 6 4 true]⟩
def v_unify_Store_head : VFunc := ⟨25, .seq (.region [qt 3 .box [.t 1] [1], qo 4 (.alloc [.int .i64 0, .int .i64 0, .str [], .sl true 4 []]) []] [0, 3, 4])
 (.seq (.block 0 (.loop (.seq (.seq (.region [qo 7 (.fieldAddr 0) [.t 3], qo 8 (.load 1 false) [.t 7], qo 9 (.bin .eql) [.t 8, qi 1]] [0, 3, 4, 9])
 (.cond (.t 9)
 (.skip)
 (.exit 0)))
 (.block 1 (.seq (.region [qm 11 0, qo 12 .nilCheck [.t 11], qo 13 (.fieldAddr 0) [.t 12], qo 14 (.load 1 false) [.t 13], qo 15 (.fieldAddr 1) [.t 3], qo 16 (.load 1 false) [.t 15],
qo 17 (.lookup false [.i] true [.int .i64 0, .int .i64 0, .str [], .sl false 4 []] true) [.t 14, .t 16], qm 10 17, qo 18 (.extract 0) [.t 10], qo 19 (.extract 1) [.t 10],
qo 5 (.alloc [.int .i64 0, .int .i64 0, .str [], .sl true 4 []]) [], qn (.store 4) [.t 5, .t 18] [], qm 6 19] [0, 3, 4, 5, 6])
 (.seq (.seq (.region [qm 20 6, qo 21 .not [.t 20]] [0, 3, 4, 5, 21])
 (.cond (.t 21)
 (.seq (.region [qo 22 (.loadT 4 true) [.t 3], qn (.store 4) [.t 4, .t 22] [22]] [4])
 (.ret))
 (.skip)))
 (.region [qo 23 (.loadT 4 true) [.t 5], qn (.store 4) [.t 3, .t 23] [23]] [0, 3, 4])))))))
 (.seq (.region [qo 24 (.loadT 4 true) [.t 3], qn (.store 4) [.t 4, .t 24] [24]] [4])
 (.ret))), [.cell 4 4 true]⟩
def v_unify_Store_alike : VFunc := ⟨97, .seq (.region [qt 4 .box [.t 1] [1], qt 5 .box [.t 2] [2], qo 6 .mv [qi 0]] [0, 4, 5])
 (.seq (.block 0 (.seq (.region [qo 10 (.fieldAddr 0) [.t 4], qo 11 (.load 1 false) [.t 10], qo 12 (.bin .eql) [.t 11, qi 1], qm 13 12, qg 14 (.fieldAddr 0) [.t 5] [] 13 true, qg 15 (.load 1 false) [.t 14] [] 13 true,
qg 16 (.bin .eql) [.t 15, qi 1] [] 13 true, qo 17 .pick [.t 13, .t 16, qb false], qm 9 17] [0, 4, 5, 9])
 (.cond (.t 9)
 (.seq (.seq (.region [qo 18 (.fieldAddr 1) [.t 4], qo 19 (.load 1 false) [.t 18], qo 20 (.fieldAddr 1) [.t 5], qo 21 (.load 1 false) [.t 20], qo 22 (.bin .neq) [.t 19, .t 21]] [0, 4, 5, 22])
 (.cond (.t 22)
 (.region [qm 23 0, qo 24 (.fieldAddr 1) [.t 4], qo 25 (.load 1 false) [.t 24], qo 26 (.fieldAddr 1) [.t 5], qo 27 (.load 1 false) [.t 26], qo 28 .max [.t 25, .t 27], qo 29 (.fieldAddr 1) [.t 4],
qo 30 (.load 1 false) [.t 29], qo 31 (.fieldAddr 1) [.t 5], qo 32 (.load 1 false) [.t 31], qo 33 .min [.t 30, .t 32], qo 34 (.call .al) [qf 33, .t 33],
qt 35 (.call .wr) [qf 40, .t 23, .t 28, .t 34] [34]] [])
 (.skip)))
 (.seq (.region [qo 6 .mv [qi 0]] [6])
 (.ret)))
 (.seq (.region [qo 37 (.fieldAddr 0) [.t 4], qo 38 (.load 1 false) [.t 37], qo 39 (.bin .eql) [.t 38, qi 1], qm 36 39] [0, 4, 5, 36])
 (.cond (.t 36)
 (.seq (.region [qm 40 0, qo 41 (.fieldAddr 1) [.t 4], qo 42 (.load 1 false) [.t 41], qo 43 (.loadT 4 true) [.t 5], qt 44 (.call .wr) [qf 41, .t 40, .t 42, .t 43] [43], qm 6 44] [6])
 (.ret))
 (.seq (.region [qo 46 (.fieldAddr 0) [.t 5], qo 47 (.load 1 false) [.t 46], qo 48 (.bin .eql) [.t 47, qi 1], qm 45 48] [0, 4, 5, 45])
 (.cond (.t 45)
 (.seq (.region [qm 49 0, qo 50 (.fieldAddr 1) [.t 5], qo 51 (.load 1 false) [.t 50], qo 52 (.loadT 4 true) [.t 4], qt 53 (.call .wr) [qf 41, .t 49, .t 51, .t 52] [52], qm 6 53] [6])
 (.ret))
 (.skip))))))))
 (.seq (.seq (.region [qo 54 (.fieldAddr 0) [.t 4], qo 55 (.load 1 false) [.t 54], qo 56 (.fieldAddr 0) [.t 5], qo 57 (.load 1 false) [.t 56], qo 58 (.bin .neq) [.t 55, .t 57], qm 59 58,
qg 60 (.fieldAddr 2) [.t 4] [] 59 false, qg 61 (.load 1 false) [.t 60] [] 59 false, qg 62 (.fieldAddr 2) [.t 5] [] 59 false, qg 63 (.load 1 false) [.t 62] [] 59 false,
qg 64 (.bin .neq) [.t 61, .t 63] [] 59 false, qo 65 .pick [.t 59, qb true, .t 64], qm 66 65, qg 67 (.fieldAddr 3) [.t 4] [] 66 false, qg 68 (.load 1 false) [.t 67] [] 66 false,
qg 69 .len [.t 68] [] 66 false, qg 70 (.fieldAddr 3) [.t 5] [] 66 false, qg 71 (.load 1 false) [.t 70] [] 66 false, qg 72 .len [.t 71] [] 66 false,
qg 73 (.bin .neq) [.t 69, .t 72] [] 66 false, qo 74 .pick [.t 66, qb true, .t 73]] [0, 4, 5, 74])
 (.cond (.t 74)
 (.seq (.region [qo 6 .mv [qi 100]] [6])
 (.ret))
 (.skip)))
 (.seq (.seq (.region [qo 75 (.fieldAddr 3) [.t 4], qo 76 (.load 1 false) [.t 75], qo 77 .len [.t 76], qo 78 .mv [qi 0]] [0, 4, 5, 77, 78])
 (.block 1 (.loop (.seq (.region [qo 79 (.bin .lss) [.t 78, .t 77]] [0, 4, 5, 77, 78, 79])
 (.seq (.cond (.t 79)
 (.skip)
 (.exit 1))
 (.seq (.block 2 (.seq (.region [qm 80 78, qm 7 80] [0, 4, 5, 7, 77, 78])
 (.seq (.region [qm 81 0, qo 82 (.fieldAddr 3) [.t 4], qo 83 (.load 1 false) [.t 82], qm 84 7, qo 85 (.indexAddr 4) [.t 83, .t 84], qo 86 (.load 4 true) [.t 85], qo 87 (.fieldAddr 3) [.t 5],
qo 88 (.load 1 false) [.t 87], qm 89 7, qo 90 (.indexAddr 4) [.t 88, .t 89], qo 91 (.load 4 true) [.t 90], qt 92 (.call .wr) [qf 30, .t 81, .t 86, .t 91] [86, 91], qm 8 92] [0, 4, 5, 8, 77, 78])
 (.seq (.region [qm 93 8, qo 94 (.bin .neq) [.t 93, qi 0]] [0, 4, 5, 8, 77, 78, 94])
 (.cond (.t 94)
 (.seq (.region [qm 95 8, qm 6 95] [6])
 (.ret))
 (.skip))))))
 (.region [qo 96 (.bin .add) [.t 78, qi 1], qm 78 96] [0, 4, 5, 77, 78])))))))
 (.seq (.region [qo 6 .mv [qi 0]] [6])
 (.ret))))), [.tmp 6]⟩
def v_unify_vars : VFunc := ⟨34, .seq (.region [qt 2 .box [.t 0] [0], qo 4 .mv [.c (.sl true 1 [])]] [1, 2])
 (.seq (.seq (.region [qo 7 (.fieldAddr 0) [.t 2], qo 8 (.load 1 false) [.t 7], qo 9 (.bin .eql) [.t 8, qi 1], qm 10 9, qv 11 1 10 true, qg 12 (.fieldAddr 1) [.t 2] [] 10 true,
qg 13 (.load 1 false) [.t 12] [] 10 true, qg 14 (.call .wr) [qf 42, .t 11, .t 13] [11] 10 true, qg 15 .not [.t 14] [] 10 true, qo 16 .pick [.t 10, .t 15, qb false]] [1, 2, 16])
 (.cond (.t 16)
 (.region [qt 17 .mv [.t 1] [1], qo 18 (.fieldAddr 1) [.t 2], qo 19 (.load 1 false) [.t 18], qo 20 (.buildSl 1) [.t 19], qt 21 (.append 1 8) [.t 17, .t 20] [17], qt 1 .mv [.t 21] [21]] [1, 2])
 (.skip)))
 (.seq (.seq (.region [qo 22 (.fieldAddr 3) [.t 2], qo 23 (.load 1 false) [.t 22], qo 24 .len [.t 23], qo 25 .mv [qi 0]] [1, 23, 24, 25])
 (.block 0 (.loop (.seq (.region [qo 26 (.bin .lss) [.t 25, .t 24]] [1, 23, 24, 25, 26])
 (.seq (.cond (.t 26)
 (.skip)
 (.exit 0))
 (.seq (.block 1 (.seq (.region [qo 27 (.indexAddr 4) [.t 23, .t 25], qo 28 (.load 4 true) [.t 27], qo 6 (.alloc [.int .i64 0, .int .i64 0, .str [], .sl true 4 []]) [], qn (.store 4) [.t 6, .t 28] [28]] [1, 6, 23, 24, 25])
 (.region [qo 29 (.loadT 4 true) [.t 6], qt 30 .mv [.t 1] [1], qt 31 (.call .wr) [qf 38, .t 29, .t 30] [29, 30], qt 1 .mv [.t 31] [31]] [1, 23, 24, 25])))
 (.region [qo 32 (.bin .add) [.t 25, qi 1], qm 25 32] [1, 23, 24, 25])))))))
 (.seq (.region [qt 33 .mv [.t 1] [1], qt 4 .mv [.t 33] [33]] [4])
 (.ret)))), [.tmp 4]⟩
def v_unify_subst : VFunc := ⟨67, .seq (.region [qt 3 .box [.t 0] [0], qo 6 (.alloc [.int .i64 0, .int .i64 0, .str [], .sl true 4 []]) []] [1, 2, 3, 6])
 (.seq (.seq (.region [qo 12 (.fieldAddr 0) [.t 3], qo 13 (.load 1 false) [.t 12], qo 14 (.bin .eql) [.t 13, qi 1]] [1, 2, 3, 6, 14])
 (.cond (.t 14)
 (.seq (.seq (.region [qt 15 .mv [.t 1] [1], qo 16 .len [.t 15], qo 17 .mv [qi 0]] [2, 3, 6, 15, 16, 17])
 (.block 0 (.loop (.seq (.region [qo 18 (.bin .lss) [.t 17, .t 16]] [2, 3, 6, 15, 16, 17, 18])
 (.seq (.cond (.t 18)
 (.skip)
 (.exit 0))
 (.seq (.block 1 (.seq (.region [qm 19 17, qo 20 (.indexAddr 1) [.t 15, .t 17], qo 21 (.load 1 false) [.t 20], qm 7 19, qm 8 21] [2, 3, 6, 7, 8, 15, 16, 17])
 (.seq (.seq (.region [qm 22 8, qo 23 (.fieldAddr 1) [.t 3], qo 24 (.load 1 false) [.t 23], qo 25 (.bin .eql) [.t 22, .t 24], qm 26 25, qv 27 7 26 true, qv 28 2 26 true, qg 29 .len [.t 28] [] 26 true,
qg 30 (.bin .lss) [.t 27, .t 29] [] 26 true, qo 31 .pick [.t 26, .t 30, qb false]] [2, 3, 6, 7, 8, 15, 16, 17, 31])
 (.cond (.t 31)
 (.seq (.region [qt 32 .mv [.t 2] [2], qm 33 7, qo 34 (.indexAddr 4) [.t 32, .t 33], qo 35 (.load 4 true) [.t 34], qt 36 (.call .wr) [qf 31, .t 35] [35], qn (.store 4) [.t 6, .t 36] [36]] [6])
 (.ret))
 (.skip)))
 (.seq (.region [qm 37 8, qo 38 (.fieldAddr 1) [.t 3], qo 39 (.load 1 false) [.t 38], qo 40 (.bin .eql) [.t 37, .t 39]] [2, 3, 6, 15, 16, 17, 40])
 (.cond (.t 40)
 (.seq (.region [qo 41 (.loadT 4 true) [.t 3], qn (.store 4) [.t 6, .t 41] [41]] [6])
 (.ret))
 (.skip))))))
 (.region [qo 42 (.bin .add) [.t 17, qi 1], qm 17 42] [2, 3, 6, 15, 16, 17])))))))
 (.seq (.region [qo 43 (.loadT 4 true) [.t 3], qn (.store 4) [.t 6, .t 43] [43]] [6])
 (.ret)))
 (.skip)))
 (.seq (.region [qo 44 (.fieldAddr 0) [.t 3], qo 45 (.load 1 false) [.t 44], qo 46 (.fieldAddr 2) [.t 3], qo 47 (.load 1 false) [.t 46],
qo 48 (.build [.int .i64 0, .int .i64 0, .str [], .sl true 4 []] [(0, 1), (2, 1)]) [.t 45, .t 47], qo 9 (.alloc [.int .i64 0, .int .i64 0, .str [], .sl true 4 []]) [],
qn (.store 4) [.t 9, .t 48] [48]] [1, 2, 3, 6, 9])
 (.seq (.seq (.region [qo 49 (.fieldAddr 3) [.t 3], qo 50 (.load 1 false) [.t 49], qo 51 .len [.t 50], qo 52 .mv [qi 0]] [1, 2, 6, 9, 50, 51, 52])
 (.block 2 (.loop (.seq (.region [qo 53 (.bin .lss) [.t 52, .t 51]] [1, 2, 6, 9, 50, 51, 52, 53])
 (.seq (.cond (.t 53)
 (.skip)
 (.exit 2))
 (.seq (.block 3 (.seq (.region [qo 54 (.indexAddr 4) [.t 50, .t 52], qo 55 (.load 4 true) [.t 54], qo 11 (.alloc [.int .i64 0, .int .i64 0, .str [], .sl true 4 []]) [], qn (.store 4) [.t 11, .t 55] [55]] [1, 2, 6, 9, 11, 50, 51, 52])
 (.region [qo 56 (.fieldAddr 3) [.t 9], qo 57 (.loadT 1 false) [.t 56], qo 58 (.load 4 true) [.t 11], qm 59 1, qm 60 2, qt 61 (.call .al) [qf 39, .t 58, .t 59, .t 60] [58, 59, 60],
qt 62 (.buildSl 4) [.t 61] [61], qt 63 (.append 4 56) [.t 57, .t 62] [57], qo 64 (.fieldAddr 3) [.t 9], qn (.store 1) [.t 64, .t 63] [63]] [1, 2, 6, 9, 50, 51, 52])))
 (.region [qo 65 (.bin .add) [.t 52, qi 1], qm 52 65] [1, 2, 6, 9, 50, 51, 52])))))))
 (.seq (.region [qo 66 (.loadT 4 true) [.t 9], qn (.store 4) [.t 6, .t 66] [66]] [6])
 (.ret))))), [.cell 6 4 true]⟩
def v_unify_Store_bind : VFunc := ⟨22, .seq (.region [qt 5 .box [.t 2] [2]] [0, 1, 5])
 (.seq (.region [qm 6 0, qo 7 .nilCheck [.t 6], qo 8 (.fieldAddr 0) [.t 7], qo 9 (.load 1 false) [.t 8], qm 10 1, qo 11 (.loadT 4 true) [.t 5], qn (.mapUpdate false [.i]) [.t 9, .t 10, .t 11] []] [0, 1])
 (.region [qm 12 0, qm 13 0, qo 14 .nilCheck [.t 13], qo 15 (.fieldAddr 2) [.t 14], qo 16 (.loadT 1 false) [.t 15], qm 17 1, qo 18 (.buildSl 1) [.t 17], qt 19 (.append 1 8) [.t 16, .t 18] [16],
qo 20 .nilCheck [.t 12], qo 21 (.fieldAddr 2) [.t 20], qn (.store 1) [.t 21, .t 19] [19]] [])), []⟩
def v_unify_Store_becomes : VFunc := ⟨16, .seq (.region [qt 5 .box [.t 2] [2], qo 6 .mv [qi 0]] [0, 1, 5])
 (.seq (.seq (.region [qm 7 0, qm 8 1, qo 9 (.load 4 true) [.t 5], qo 10 .makeMap [], qt 11 (.call .wr) [qf 43, .t 7, .t 8, .t 9, .t 10] [9]] [0, 1, 5, 11])
 (.cond (.t 11)
 (.seq (.region [qo 6 .mv [qi 101]] [6])
 (.ret))
 (.skip)))
 (.seq (.region [qm 12 0, qm 13 1, qo 14 (.loadT 4 true) [.t 5], qt 15 (.call .wr) [qf 40, .t 12, .t 13, .t 14] [14]] [])
 (.seq (.region [qo 6 .mv [qi 0]] [6])
 (.ret)))), [.tmp 6]⟩
def v_unify_has : VFunc := ⟨17, .seq (.region [qo 4 .mv [qb false]] [0, 1])
 (.seq (.seq (.region [qt 7 .mv [.t 0] [0], qo 8 .len [.t 7], qo 9 .mv [qi 0]] [1, 7, 8, 9])
 (.block 0 (.loop (.seq (.region [qo 10 (.bin .lss) [.t 9, .t 8]] [1, 7, 8, 9, 10])
 (.seq (.cond (.t 10)
 (.skip)
 (.exit 0))
 (.seq (.block 1 (.seq (.region [qo 11 (.indexAddr 1) [.t 7, .t 9], qo 12 (.load 1 false) [.t 11], qm 6 12] [1, 6, 7, 8, 9])
 (.seq (.region [qm 13 6, qm 14 1, qo 15 (.bin .eql) [.t 13, .t 14]] [1, 7, 8, 9, 15])
 (.cond (.t 15)
 (.seq (.region [qo 4 .mv [qb true]] [4])
 (.ret))
 (.skip)))))
 (.region [qo 16 (.bin .add) [.t 9, qi 1], qm 9 16] [1, 7, 8, 9])))))))
 (.seq (.region [qo 4 .mv [qb false]] [4])
 (.ret))), [.tmp 4]⟩
def v_unify_Store_occurs : VFunc := ⟨59, .seq (.region [qt 6 .box [.t 2] [2], qo 8 .mv [qb false]] [0, 1, 3, 6])
 (.seq (.seq (.region [qo 13 (.fieldAddr 0) [.t 6], qo 14 (.load 1 false) [.t 13], qo 15 (.bin .eql) [.t 14, qi 1]] [0, 1, 3, 6, 15])
 (.cond (.t 15)
 (.seq (.seq (.region [qo 16 (.fieldAddr 1) [.t 6], qo 17 (.load 1 false) [.t 16], qm 18 1, qo 19 (.bin .eql) [.t 17, .t 18]] [0, 1, 3, 6, 19])
 (.cond (.t 19)
 (.seq (.region [qo 8 .mv [qb true]] [8])
 (.ret))
 (.skip)))
 (.seq (.region [qm 21 0, qo 22 .nilCheck [.t 21], qo 23 (.fieldAddr 0) [.t 22], qo 24 (.load 1 false) [.t 23], qo 25 (.fieldAddr 1) [.t 6], qo 26 (.load 1 false) [.t 25],
qo 27 (.lookup false [.i] true [.int .i64 0, .int .i64 0, .str [], .sl false 4 []] true) [.t 24, .t 26], qm 20 27, qo 28 (.extract 0) [.t 20], qo 29 (.extract 1) [.t 20],
qo 9 (.alloc [.int .i64 0, .int .i64 0, .str [], .sl true 4 []]) [], qn (.store 4) [.t 9, .t 28] [], qm 10 29] [0, 1, 3, 6, 9, 10])
 (.seq (.seq (.region [qm 30 10, qo 31 .not [.t 30], qm 32 31, qv 33 3 32 false, qg 34 (.fieldAddr 1) [.t 6] [] 32 false, qg 35 (.load 1 false) [.t 34] [] 32 false,
qg 36 (.lookup false [.i] false [.bool false] false) [.t 33, .t 35] [] 32 false, qo 37 .pick [.t 32, qb true, .t 36]] [0, 1, 3, 6, 9, 37])
 (.cond (.t 37)
 (.seq (.region [qo 8 .mv [qb false]] [8])
 (.ret))
 (.skip)))
 (.seq (.region [qm 38 3, qo 39 (.fieldAddr 1) [.t 6], qo 40 (.load 1 false) [.t 39], qn (.mapUpdate false [.i]) [.t 38, .t 40, qb true] []] [0, 1, 3, 9])
 (.seq (.region [qm 41 0, qm 42 1, qo 43 (.loadT 4 true) [.t 9], qm 44 3, qt 45 (.call .wr) [qf 43, .t 41, .t 42, .t 43, .t 44] [43], qm 8 45] [8])
 (.ret))))))
 (.skip)))
 (.seq (.seq (.region [qo 46 (.fieldAddr 3) [.t 6], qo 47 (.load 1 false) [.t 46], qo 48 .len [.t 47], qo 49 .mv [qi 0]] [0, 1, 3, 47, 48, 49])
 (.block 0 (.loop (.seq (.region [qo 50 (.bin .lss) [.t 49, .t 48]] [0, 1, 3, 47, 48, 49, 50])
 (.seq (.cond (.t 50)
 (.skip)
 (.exit 0))
 (.seq (.block 1 (.seq (.region [qo 51 (.indexAddr 4) [.t 47, .t 49], qo 52 (.load 4 true) [.t 51], qo 12 (.alloc [.int .i64 0, .int .i64 0, .str [], .sl true 4 []]) [], qn (.store 4) [.t 12, .t 52] [52]] [0, 1, 3, 12, 47, 48, 49])
 (.seq (.region [qm 53 0, qm 54 1, qo 55 (.loadT 4 true) [.t 12], qm 56 3, qt 57 (.call .wr) [qf 43, .t 53, .t 54, .t 55, .t 56] [55]] [0, 1, 3, 47, 48, 49, 57])
 (.cond (.t 57)
 (.seq (.region [qo 8 .mv [qb true]] [8])
 (.ret))
 (.skip)))))
 (.region [qo 58 (.bin .add) [.t 49, qi 1], qm 49 58] [0, 1, 3, 47, 48, 49])))))))
 (.seq (.region [qo 8 .mv [qb false]] [8])
 (.ret)))), [.tmp 8]⟩

def tab : List Entry := [⟨3, v_l10_UnifySame, false⟩,
⟨4, v_l10_UnifyGeneral, false⟩,
⟨5, v_l10_UnifyBack, false⟩,
⟨6, v_l10_UnifyTurns, false⟩,
⟨7, v_l10_UnifyNil, false⟩,
⟨8, v_l10_UnifyRenames, false⟩,
⟨9, v_l10_joined, true⟩,
⟨10, v_l10_known, false⟩,
⟨11, v_unify_Store_Resolve, false⟩,
⟨12, v_r10_Same, false⟩,
⟨13, v_l10_few, false⟩,
⟨14, v_r10_Right, false⟩,
⟨15, v_r10_Size, false⟩,
⟨16, v_l10_right, false⟩,
⟨17, v_r10_Subst, false⟩,
⟨18, v_unify_Store_Unify, false⟩,
⟨19, v_unify_New, true⟩,
⟨20, v_unify_Store_Leaves, false⟩,
⟨21, v_unify_Store_Fresh, false⟩,
⟨22, v_r10_Var, false⟩,
⟨23, v_r10_Vars, false⟩,
⟨24, v_unify_Rename, false⟩,
⟨25, v_l10_to, false⟩,
⟨26, v_l10_named, false⟩,
⟨27, v_unify_Right, false⟩,
⟨28, v_unify_Store_sees, false⟩,
⟨29, v_unify_resolver_resolve, false⟩,
⟨30, v_unify_Store_same, false⟩,
⟨31, v_unify_copied, false⟩,
⟨32, v_unify_Store_leaves, false⟩,
⟨33, v_unify_variable, false⟩,
⟨34, v_unify_Vars, false⟩,
⟨35, v_unify_Subst, false⟩,
⟨36, v_unify_Store_head, false⟩,
⟨37, v_unify_Store_alike, false⟩,
⟨38, v_unify_vars, false⟩,
⟨39, v_unify_subst, false⟩,
⟨40, v_unify_Store_bind, false⟩,
⟨41, v_unify_Store_becomes, false⟩,
⟨42, v_unify_has, false⟩,
⟨43, v_unify_Store_occurs, false⟩]

theorem c_l10_UnifySame : chkFn Try.prog 3 v_l10_UnifySame = true := by kernel_rfl
theorem c_l10_UnifyGeneral : chkFn Try.prog 4 v_l10_UnifyGeneral = true := by kernel_rfl
theorem c_l10_UnifyBack : chkFn Try.prog 5 v_l10_UnifyBack = true := by kernel_rfl
theorem c_l10_UnifyTurns : chkFn Try.prog 6 v_l10_UnifyTurns = true := by kernel_rfl
theorem c_l10_UnifyNil : chkFn Try.prog 7 v_l10_UnifyNil = true := by kernel_rfl
theorem c_l10_UnifyRenames : chkFn Try.prog 8 v_l10_UnifyRenames = true := by kernel_rfl
theorem c_l10_joined : chkFn Try.prog 9 v_l10_joined = true := by kernel_rfl
theorem c_l10_known : chkFn Try.prog 10 v_l10_known = true := by kernel_rfl
theorem c_unify_Store_Resolve : chkFn Try.prog 11 v_unify_Store_Resolve = true := by kernel_rfl
theorem c_r10_Same : chkFn Try.prog 12 v_r10_Same = true := by kernel_rfl
theorem c_l10_few : chkFn Try.prog 13 v_l10_few = true := by kernel_rfl
theorem c_r10_Right : chkFn Try.prog 14 v_r10_Right = true := by kernel_rfl
theorem c_r10_Size : chkFn Try.prog 15 v_r10_Size = true := by kernel_rfl
theorem c_l10_right : chkFn Try.prog 16 v_l10_right = true := by kernel_rfl
theorem c_r10_Subst : chkFn Try.prog 17 v_r10_Subst = true := by kernel_rfl
theorem c_unify_Store_Unify : chkFn Try.prog 18 v_unify_Store_Unify = true := by kernel_rfl
theorem c_unify_New : chkFn Try.prog 19 v_unify_New = true := by kernel_rfl
theorem c_unify_Store_Leaves : chkFn Try.prog 20 v_unify_Store_Leaves = true := by kernel_rfl
theorem c_unify_Store_Fresh : chkFn Try.prog 21 v_unify_Store_Fresh = true := by kernel_rfl
theorem c_r10_Var : chkFn Try.prog 22 v_r10_Var = true := by kernel_rfl
theorem c_r10_Vars : chkFn Try.prog 23 v_r10_Vars = true := by kernel_rfl
theorem c_unify_Rename : chkFn Try.prog 24 v_unify_Rename = true := by kernel_rfl
theorem c_l10_to : chkFn Try.prog 25 v_l10_to = true := by kernel_rfl
theorem c_l10_named : chkFn Try.prog 26 v_l10_named = true := by kernel_rfl
theorem c_unify_Right : chkFn Try.prog 27 v_unify_Right = true := by kernel_rfl
theorem c_unify_Store_sees : chkFn Try.prog 28 v_unify_Store_sees = true := by kernel_rfl
theorem c_unify_resolver_resolve : chkFn Try.prog 29 v_unify_resolver_resolve = true := by kernel_rfl
theorem c_unify_Store_same : chkFn Try.prog 30 v_unify_Store_same = true := by kernel_rfl
theorem c_unify_copied : chkFn Try.prog 31 v_unify_copied = true := by kernel_rfl
theorem c_unify_Store_leaves : chkFn Try.prog 32 v_unify_Store_leaves = true := by kernel_rfl
theorem c_unify_variable : chkFn Try.prog 33 v_unify_variable = true := by kernel_rfl
theorem c_unify_Vars : chkFn Try.prog 34 v_unify_Vars = true := by kernel_rfl
theorem c_unify_Subst : chkFn Try.prog 35 v_unify_Subst = true := by kernel_rfl
theorem c_unify_Store_head : chkFn Try.prog 36 v_unify_Store_head = true := by kernel_rfl
theorem c_unify_Store_alike : chkFn Try.prog 37 v_unify_Store_alike = true := by kernel_rfl
theorem c_unify_vars : chkFn Try.prog 38 v_unify_vars = true := by kernel_rfl
theorem c_unify_subst : chkFn Try.prog 39 v_unify_subst = true := by kernel_rfl
theorem c_unify_Store_bind : chkFn Try.prog 40 v_unify_Store_bind = true := by kernel_rfl
theorem c_unify_Store_becomes : chkFn Try.prog 41 v_unify_Store_becomes = true := by kernel_rfl
theorem c_unify_has : chkFn Try.prog 42 v_unify_has = true := by kernel_rfl
theorem c_unify_Store_occurs : chkFn Try.prog 43 v_unify_Store_occurs = true := by kernel_rfl
theorem mix : Try.prog.follows .mixedOrders = true := by kernel_rfl
theorem tab_ok : tabOk Try.prog tab := by
  intro e h
  unfold tab at h
  rcases List.mem_cons.1 h with rfl | h; exact c_l10_UnifySame
  rcases List.mem_cons.1 h with rfl | h; exact c_l10_UnifyGeneral
  rcases List.mem_cons.1 h with rfl | h; exact c_l10_UnifyBack
  rcases List.mem_cons.1 h with rfl | h; exact c_l10_UnifyTurns
  rcases List.mem_cons.1 h with rfl | h; exact c_l10_UnifyNil
  rcases List.mem_cons.1 h with rfl | h; exact c_l10_UnifyRenames
  rcases List.mem_cons.1 h with rfl | h; exact c_l10_joined
  rcases List.mem_cons.1 h with rfl | h; exact c_l10_known
  rcases List.mem_cons.1 h with rfl | h; exact c_unify_Store_Resolve
  rcases List.mem_cons.1 h with rfl | h; exact c_r10_Same
  rcases List.mem_cons.1 h with rfl | h; exact c_l10_few
  rcases List.mem_cons.1 h with rfl | h; exact c_r10_Right
  rcases List.mem_cons.1 h with rfl | h; exact c_r10_Size
  rcases List.mem_cons.1 h with rfl | h; exact c_l10_right
  rcases List.mem_cons.1 h with rfl | h; exact c_r10_Subst
  rcases List.mem_cons.1 h with rfl | h; exact c_unify_Store_Unify
  rcases List.mem_cons.1 h with rfl | h; exact c_unify_New
  rcases List.mem_cons.1 h with rfl | h; exact c_unify_Store_Leaves
  rcases List.mem_cons.1 h with rfl | h; exact c_unify_Store_Fresh
  rcases List.mem_cons.1 h with rfl | h; exact c_r10_Var
  rcases List.mem_cons.1 h with rfl | h; exact c_r10_Vars
  rcases List.mem_cons.1 h with rfl | h; exact c_unify_Rename
  rcases List.mem_cons.1 h with rfl | h; exact c_l10_to
  rcases List.mem_cons.1 h with rfl | h; exact c_l10_named
  rcases List.mem_cons.1 h with rfl | h; exact c_unify_Right
  rcases List.mem_cons.1 h with rfl | h; exact c_unify_Store_sees
  rcases List.mem_cons.1 h with rfl | h; exact c_unify_resolver_resolve
  rcases List.mem_cons.1 h with rfl | h; exact c_unify_Store_same
  rcases List.mem_cons.1 h with rfl | h; exact c_unify_copied
  rcases List.mem_cons.1 h with rfl | h; exact c_unify_Store_leaves
  rcases List.mem_cons.1 h with rfl | h; exact c_unify_variable
  rcases List.mem_cons.1 h with rfl | h; exact c_unify_Vars
  rcases List.mem_cons.1 h with rfl | h; exact c_unify_Subst
  rcases List.mem_cons.1 h with rfl | h; exact c_unify_Store_head
  rcases List.mem_cons.1 h with rfl | h; exact c_unify_Store_alike
  rcases List.mem_cons.1 h with rfl | h; exact c_unify_vars
  rcases List.mem_cons.1 h with rfl | h; exact c_unify_subst
  rcases List.mem_cons.1 h with rfl | h; exact c_unify_Store_bind
  rcases List.mem_cons.1 h with rfl | h; exact c_unify_Store_becomes
  rcases List.mem_cons.1 h with rfl | h; exact c_unify_has
  rcases List.mem_cons.1 h with rfl | h; exact c_unify_Store_occurs
  cases h

end Go.Proofs.Ytneonbdlgmaofaa.Vm
namespace Go.Proofs.Ytneonbdlgmaofaa.Vm
open Go
theorem known_run : callN tab 100000 10 [] [] = some (.bool true, []) := by kernel_rfl
theorem known_T : T Try.prog 10 [] [] (.bool true) [] := callN_sound mix tab_ok _ known_run
theorem known_H (H : Heap) : T Try.prog 10 [] H (.bool true) H := known_T.frame rfl H
end Go.Proofs.Ytneonbdlgmaofaa.Vm
namespace Go.Proofs.Ytneonbdlgmaofaa.Vm
open Go
set_option linter.unusedSimpArgs false

/-- A function at the empty heap that answers something. -/
theorem T.of0x {P : Program} (hmix : P.follows .mixedOrders = true) {f : Nat} {vf : VFunc} (hc : chkFn P f vf = true) {args : List V} {R : V → Prop} (hl : Nat.ble args.length vf.n = true)
    (h : run P vf.body [] ⟨args.zipIdx.map fun p => (p.2, p.1), .tup []⟩ [] (end0 vf.results R)) : ∃ r, T P f args [] r [] ∧ R r := by
  obtain ⟨x, E1, H1, h1, h2, r0, h6, r, h7, h8⟩ := wp_sound h
  rw [env0_eq] at h1
  have := T_of (m := 0) hmix hc (Nat.le_of_ble_eq_true hl) h1 (by intro id e; subst e; exact h2) (Nat.le_refl _) (Nat.zero_le _) h6 h7 (fun i ob hi => absurd hi (Nat.not_lt_zero i))
  rw [List.take_zero] at this
  exact ⟨r, this, h8⟩

mutual
def tyC : Ty → List V
  | .mk k n s xs => [.int .i64 k, .int .i64 n, .str s, .sl false 4 (tysC xs)]
def tysC : List Ty → List (List V)
  | [] => []
  | a :: l => tyC a :: tysC l
end
theorem tysC_eq : ∀ l : List Ty, tysC l = l.map tyC
  | [] => rfl
  | a :: l => by rw [tysC, tysC_eq l]; rfl
def tyO (o : Bool) (t : Ty) : List V := [.int .i64 t.k, .int .i64 t.n, .str t.s, .sl o 4 (t.as.map tyC)]
def tyV (o : Bool) (t : Ty) : V := .agg (tyO o t)
theorem tyC_eq (t : Ty) : tyC t = tyO false t := by
  cases t with | mk k n s xs => simp only [tyC, tysC_eq]; rfl
theorem tyC_agg (t : Ty) : V.agg (tyC t) = tyV false t := by rw [tyC_eq]; rfl
@[go_sem] theorem gc_hit {v : Nat} {cs : List V} {H : Heap} : getCells (.cells v cs :: H) 0 v = some cs := by simp [getCells]
@[go_sem] theorem gc_next {o : Obj} {v i : Nat} {H : Heap} : getCells (o :: H) (i + 1) v = getCells H i v := by simp [getCells]

theorem inc64 {i : Nat} (h : i < 4611686018427387904) : IntKind.i64.wrap ((i : Int) + 1) = ((i + 1 : Nat) : Int) := by
  rw [wrap64 (by omega) (by omega)]; rfl
theorem dec64 {i : Nat} (h : i < 4611686018427387904) : IntKind.i64.wrap ((i : Int) - 1) = (i : Int) - 1 := wrap64 (by omega) (by omega)
@[go_sem] theorem tyC_len {a : Ty} : (tyC a).length = 4 := by rw [tyC_eq]; rfl
@[go_sem] theorem tyC_take {a : Ty} : List.take 4 (tyC a) = tyC a := List.take_of_length_le (by rw [tyC_len]; omega)
@[go_sem] theorem tyC_drop0 {a : Ty} : List.drop 0 (tyC a) = tyC a := rfl
@[go_sem] theorem tyC_strip {a : Ty} : List.map strip0 (tyC a) = tyC a := by rw [tyC_eq]; rfl
theorem ids_ty (o : Bool) (t : Ty) : idsL 0 [tyV o t] = true := rfl
theorem T.ty {P : Program} {f : Nat} {a : Ty} {r : V} (h : T P f [tyV false a] [] r []) (H : Heap) : T P f [.agg (tyC a)] H r H := by rw [tyC_agg]; exact h.frame rfl H
/-- No row of arguments is too long. -/
inductive Bd : Ty → Prop
  | mk {k n s xs} (hl : xs.length * 56 ≤ 140737488355328) (h : ∀ a ∈ xs, Bd a) : Bd (.mk k n s xs)
theorem Bd.len {k n : Int} {s : List UInt8} {xs : List Ty} (h : Bd (.mk k n s xs)) : xs.length * 56 ≤ 140737488355328 := by cases h; assumption
theorem Bd.arg {k n : Int} {s : List UInt8} {xs : List Ty} (h : Bd (.mk k n s xs)) : ∀ a ∈ xs, Bd a := by cases h; assumption
theorem rightL_drop {xs : List Ty} {i : Nat} {a : Ty} (h : xs[i]? = some a) : rightL (xs.drop i) = (rightB a && rightL (xs.drop (i + 1))) := by
  obtain ⟨h1, h2⟩ := List.getElem?_eq_some_iff.1 h
  rw [List.drop_eq_getElem_cons h1, h2]; rfl

theorem refRight_T (t : Ty) : Bd t → ∀ o : Bool, T Try.prog 14 [tyV o t] [] (.bool (rightB t)) [] := by
  induction t using Ty.ind with
  | h k n s xs ih =>
    intro hb o
    refine T.of0 mix c_r10_Right rfl ?_
    unfold v_r10_Right
    simp only [tyV, tyO, Ty.k, Ty.n, Ty.s, Ty.as, go_sem, ↓reduceIte]
    generalize hL : WP Try.prog (VCode.loop _) _ _ _ = L
    have hl : rightB (Ty.mk k n s xs) = rightL xs → L := by
      intro hR
      rw [← hL]
      have hlen := hb.len
      refine WP.loop' (fun n' E H' => ∃ (i : Nat) (ex : List (Nat × V)), i + n' = xs.length ∧ rightL xs = rightL (xs.drop i) ∧ H' = [Obj.cells 0 [.int .i64 k, .int .i64 n, .str s, .sl o 4 (xs.map tyC)]] ∧
        E = ⟨(1, .ptr 0 0 0) :: (3, .int .i64 i) :: ex, .u⟩) (n := xs.length) ⟨0, _, by omega, rfl, rfl, rfl⟩ ?_
      rintro n' E H' ⟨i, ex, hi, hr, rfl, rfl⟩
      have hw := inc64 (i := i) (by omega)
      simp only [go_sem, ↓reduceIte, ↓ex_map, ↓run_addW, hw, Int.toNat_natCast]
      refine ⟨fun hlt => ?_, fun hge => ?_⟩
      · have hix : i < xs.length := by omega
        have hg := List.getElem?_eq_getElem hix
        have hd := rightL_drop hg
        refine ⟨by omega, _, hg, _, _, (ih _ (List.getElem_mem hix) (hb.arg _ (List.getElem_mem hix)) false).ty _, ?_⟩
        simp only [go_sem, ↓reduceIte, ↓run_addW, hw]
        refine ⟨fun h => ?_, fun h => ⟨n' - 1, by omega, i + 1, _, by omega, ?_, rfl⟩⟩
        · rw [hR, hr, hd]; simp at h; rw [h]; rfl
        · rw [hr, hd]; simp at h; rw [h]; rfl
      · have : i = xs.length := by omega
        rw [hR, hr, this, List.drop_length]; rfl
    clear hL
    have hR : rightB (Ty.mk k n s xs) = if k = 1 then decide (0 ≤ n ∧ n ≤ 1073741824) && s.isEmpty && xs.isEmpty else if k = 2 then !s.isEmpty && decide (n = 0) && rightL xs
      else if k = 3 then s.isEmpty && decide (n = 0) && decide (xs.length = 2) && rightL xs else false := by rw [rightB]
    have e1 : ((xs.length : Int) == 0) = xs.isEmpty := by cases xs <;> simp <;> omega
    have e2 : ((xs.length : Int) != 2) = !decide (xs.length = 2) := by
      by_cases h : xs.length = 2 <;> simp [h]; omega
    have e3 : (s == []) = s.isEmpty := by cases s <;> rfl
    rw [e1, e2, e3]
    by_cases h1 : k = 1
    · subst h1
      rw [if_pos rfl] at hR
      rw [hR]
      by_cases a : 0 ≤ n <;> by_cases b : n ≤ 1073741824 <;> cases s.isEmpty <;> cases xs.isEmpty <;> simp [a, b]
    · rw [if_neg h1] at hR
      by_cases h2 : k = 2
      · subst h2
        rw [if_pos rfl] at hR
        by_cases a : n = 0
        · cases hs : s.isEmpty
          · rw [hs] at hR
            have := hl (by rw [hR]; simp [a])
            simp [a, this]
          · rw [hs] at hR
            rw [hR]; simp [a]
        · rw [hR]; simp [a]
      · rw [if_neg h2] at hR
        by_cases h3 : k = 3
        · subst h3
          rw [if_pos rfl] at hR
          by_cases a : n = 0
          · by_cases b : xs.length = 2
            · cases hs : s.isEmpty
              · rw [hs] at hR; rw [hR]; simp [a]
              · rw [hs] at hR
                have := hl (by rw [hR]; simp [a, b])
                simp [a, b, this]
            · rw [hR]; cases hs : s.isEmpty <;> simp [a, b]
          · rw [hR]; simp [a]
        · rw [if_neg h3] at hR
          rw [hR]; simp [h1, h2, h3]

@[go_sem] theorem set_new {H : Heap} {a b : Obj} : (H ++ [a]).set H.length b = H ++ [b] := by
  rw [List.set_append]; simp
attribute [go_sem] gc_new
theorem tyO_plain (o : Bool) (t : Ty) : (tyO o t).all plainC = true := by simp [tyO, plainC, scal0]
@[go_sem] theorem store_ty {P : Program} {K : KK} {s : List Fr} {E : En} {H : Heap} {tk : List Nat} {dst : Option Nat} {os : List VOp} {keep : List Nat} {id ver off : Nat} {t : Ty} :
    runAct P (.store 4) [.ptr id ver off, .agg (tyC t)] tk dst os keep s E H K = storeA P (getCells H id ver) id ver off (tyC t) tk dst os keep s E H K :=
  store_agg (by rw [tyC_eq]; exact tyO_plain _ _) tyC_len.symm
@[go_sem] theorem put_ty {a b c d : V} {t : Ty} : put [a, b, c, d] 0 (tyC t) = tyC t := by rw [tyC_eq]; rfl
@[go_sem] theorem put_tyty {u t : Ty} : put (tyC u) 0 (tyC t) = tyC t := by rw [tyC_eq, tyC_eq]; rfl
theorem right_T (t : Ty) : Bd t → ∀ o : Bool, T Try.prog 27 [tyV o t] [] (.bool (rightB t)) [] := by
  induction t using Ty.ind with
  | h k n s xs ih =>
    intro hb o
    refine T.of0 mix c_unify_Right rfl ?_
    unfold v_unify_Right
    simp only [tyV, tyO, Ty.k, Ty.n, Ty.s, Ty.as, go_sem, ↓reduceIte]
    generalize hL : WP Try.prog (VCode.loop _) _ _ _ = L
    have hl : rightB (Ty.mk k n s xs) = rightL xs → L := by
      intro hR
      rw [← hL]
      have hlen := hb.len
      refine WP.loop' (fun n' E H' => ∃ (i : Nat) (ex : List (Nat × V)), i + n' = xs.length ∧ rightL xs = rightL (xs.drop i) ∧
        E = ⟨(55, .sl false 4 (xs.map tyC)) :: (56, .int .i64 xs.length) :: (57, .int .i64 i) :: ex, .u⟩) (n := xs.length) ⟨0, _, by omega, rfl, rfl⟩ ?_
      rintro n' E H' ⟨i, ex, hi, hr, rfl⟩
      have hw := inc64 (i := i) (by omega)
      simp only [go_sem, ↓reduceIte, ↓ex_map, ↓run_addW, hw, Int.toNat_natCast]
      refine ⟨fun hlt => ?_, fun hge => ?_⟩
      · have hix : i < xs.length := by omega
        have hg := List.getElem?_eq_getElem hix
        have hd := rightL_drop hg
        refine ⟨by omega, _, hg, ?_⟩
        refine ⟨_, _, (ih _ (List.getElem_mem hix) (hb.arg _ (List.getElem_mem hix)) false).ty _, ?_⟩
        simp only [go_sem, ↓reduceIte, ↓run_addW, hw]
        refine ⟨fun h => ?_, fun h => ⟨n' - 1, by omega, i + 1, _, by omega, ?_, rfl⟩⟩
        · rw [hR, hr, hd]; simp at h; rw [h]; rfl
        · rw [hr, hd]; simp at h; rw [h]; rfl
      · have : i = xs.length := by omega
        rw [hR, hr, this, List.drop_length]; rfl
    clear hL
    have hR : rightB (Ty.mk k n s xs) = if k = 1 then decide (0 ≤ n ∧ n ≤ 1073741824) && s.isEmpty && xs.isEmpty else if k = 2 then !s.isEmpty && decide (n = 0) && rightL xs
      else if k = 3 then s.isEmpty && decide (n = 0) && decide (xs.length = 2) && rightL xs else false := by rw [rightB]
    have e1 : ((xs.length : Int) == 0) = xs.isEmpty := by cases xs <;> simp <;> omega
    have e2 : ((xs.length : Int) != 2) = !decide (xs.length = 2) := by
      by_cases h : xs.length = 2 <;> simp [h]; omega
    have e3 : (s == []) = s.isEmpty := by cases s <;> rfl
    rw [e1, e2, e3]
    by_cases h1 : k = 1
    · subst h1
      rw [if_pos rfl] at hR
      rw [hR]
      by_cases a : 0 ≤ n <;> by_cases b : n ≤ 1073741824 <;> cases s.isEmpty <;> cases xs.isEmpty <;> simp [a, b]
    · rw [if_neg h1] at hR
      by_cases h2 : k = 2
      · subst h2
        rw [if_pos rfl] at hR
        by_cases a : n = 0
        · cases hs : s.isEmpty
          · rw [hs] at hR
            have := hl (by rw [hR]; simp [a])
            simp [a, this]
          · rw [hs] at hR
            rw [hR]; simp [a]
        · rw [hR]; cases s.isEmpty <;> simp [a]
      · rw [if_neg h2] at hR
        by_cases h3 : k = 3
        · subst h3
          rw [if_pos rfl] at hR
          by_cases a : n = 0
          · by_cases b : xs.length = 2
            · cases hs : s.isEmpty
              · rw [hs] at hR; rw [hR]; simp [a]
              · rw [hs] at hR
                have := hl (by rw [hR]; simp [a, b])
                simp [a, b, this]
            · rw [hR]; cases hs : s.isEmpty <;> simp [a, b]
          · rw [hR]; cases s.isEmpty <;> simp [a]
        · rw [if_neg h3] at hR
          rw [hR]; simp [h1, h2, h3]
end Go.Proofs.Ytneonbdlgmaofaa.Vm
namespace Go.Proofs.Ytneonbdlgmaofaa.Vm
open Go
set_option linter.unusedSimpArgs false

theorem tysEq_len : ∀ {a b : List Ty}, tysEq a b = true → a.length = b.length
  | [], [], _ => rfl
  | [], _ :: _, h => by cases h
  | _ :: _, [], h => by cases h
  | _ :: a, _ :: b, h => by
    simp only [tysEq, Bool.and_eq_true] at h
    simp [tysEq_len h.2]
theorem tysEq_drop {xs ys : List Ty} {i : Nat} {a b : Ty} (h : xs[i]? = some a) (k : ys[i]? = some b) : tysEq (xs.drop i) (ys.drop i) = (tyEq a b && tysEq (xs.drop (i + 1)) (ys.drop (i + 1))) := by
  obtain ⟨h1, h2⟩ := List.getElem?_eq_some_iff.1 h
  obtain ⟨k1, k2⟩ := List.getElem?_eq_some_iff.1 k
  rw [List.drop_eq_getElem_cons h1, h2, List.drop_eq_getElem_cons k1, k2]; rfl
theorem T.ty2 {P : Program} {f : Nat} {a b : Ty} {r : V} (h : T P f [tyV false a, tyV false b] [] r []) (H : Heap) : T P f [.agg (tyC a), .agg (tyC b)] H r H := by rw [tyC_agg, tyC_agg]; exact h.frame rfl H

theorem refSame_T (t : Ty) : Bd t → ∀ (u : Ty), Bd u → ∀ (o o' : Bool), T Try.prog 12 [tyV o t, tyV o' u] [] (.bool (tyEq t u)) [] := by
  induction t using Ty.ind with
  | h k n s xs ih =>
    rintro hb ⟨k', n', s', ys⟩ hb' o o'
    refine T.of0 mix c_r10_Same rfl ?_
    unfold v_r10_Same
    simp only [tyV, tyO, Ty.k, Ty.n, Ty.s, Ty.as, go_sem, ↓reduceIte]
    generalize hL : WP Try.prog (VCode.loop _) _ _ _ = L
    have hl : xs.length = ys.length → tyEq (Ty.mk k n s xs) (Ty.mk k' n' s' ys) = tysEq xs ys → L := by
      intro hlen2 hR
      rw [← hL]
      have hlen := hb.len
      refine WP.loop' (fun m E H' => ∃ (i : Nat) (ex : List (Nat × V)), i + m = xs.length ∧ tysEq xs ys = tysEq (xs.drop i) (ys.drop i) ∧
        H' = [Obj.cells 0 [.int .i64 k, .int .i64 n, .str s, .sl o 4 (xs.map tyC)], Obj.cells 0 [.int .i64 k', .int .i64 n', .str s', .sl o' 4 (ys.map tyC)]] ∧
        E = ⟨(2, .ptr 0 0 0) :: (3, .ptr 1 0 0) :: (5, .int .i64 i) :: ex, .u⟩) (n := xs.length) ⟨0, _, by omega, rfl, rfl, rfl⟩ ?_
      rintro m E H' ⟨i, ex, hi, hr, rfl, rfl⟩
      have hw := inc64 (i := i) (by omega)
      simp only [go_sem, ↓reduceIte, ↓ex_map, ↓run_addW, hw, Int.toNat_natCast]
      refine ⟨fun hlt => ?_, fun hge => ?_⟩
      · have hix : i < xs.length := by omega
        have hiy : i < ys.length := by omega
        have hg := List.getElem?_eq_getElem hix
        have hg' := List.getElem?_eq_getElem hiy
        have hd := tysEq_drop hg hg'
        refine ⟨by omega, _, hg, by omega, _, hg', _, _, (ih _ (List.getElem_mem hix) (hb.arg _ (List.getElem_mem hix)) _ (hb'.arg _ (List.getElem_mem hiy)) false false).ty2 _, ?_⟩
        simp only [go_sem, ↓reduceIte, ↓run_addW, hw]
        refine ⟨fun h => ?_, fun h => ⟨m - 1, by omega, i + 1, _, by omega, ?_, rfl⟩⟩
        · rw [hR, hr, hd]; simp at h; rw [h]; rfl
        · rw [hr, hd]; simp at h; rw [h]; rfl
      · have : i = xs.length := by omega
        rw [hR, hr, this, List.drop_length, hlen2, List.drop_length]; rfl
    clear hL
    have hE : tyEq (Ty.mk k n s xs) (Ty.mk k' n' s' ys) = (k == k' && n == n' && s == s' && tysEq xs ys) := by rw [tyEq]
    by_cases h1 : k = k'
    · by_cases h2 : n = n'
      · by_cases h3 : s = s'
        · by_cases h4 : xs.length = ys.length
          · have := hl h4 (by rw [hE]; simp [h1, h2, h3])
            simp [h1, h2, h3, h4, this]
          · have h5 : tysEq xs ys = false := by
              cases h : tysEq xs ys with
              | false => rfl
              | true => exact absurd (tysEq_len h) h4
            have h6 : ¬ ((xs.length : Int) = ys.length) := by omega
            rw [hE]; simp [h1, h2, h3, h5, h6]
        · rw [hE]; simp [h1, h2, h3]
      · rw [hE]; simp [h1, h2]
    · rw [hE]; simp [h1]
end Go.Proofs.Ytneonbdlgmaofaa.Vm
namespace Go.Proofs.Ytneonbdlgmaofaa.Vm
open Go
set_option linter.unusedSimpArgs false

/-- A cell of the function's own is what it answers. -/
def cellG (x : Option (List V)) (off n : Nat) (R : V → Prop) (H : Heap) : Prop := ∃ cs, x = some cs ∧ off + n ≤ cs.length ∧ fin0 H (.agg ((cs.drop off).take n)) R
def cellE (v : V) (n : Nat) (R : V → Prop) (H : Heap) : Prop := match v with
  | .ptr id ver off => cellG (getCells H id ver) off n R H
  | _ => False
section
variable {R : V → Prop} {l : List (Nat × V)} {d : V} {H : Heap} {t u n : Nat}
@[go_sem] theorem cellG_some {cs : List V} {off : Nat} : cellG (some cs) off n R H = (off + n ≤ cs.length ∧ fin0 H (.agg ((cs.drop off).take n)) R) := by
  apply propext
  constructor
  · rintro ⟨v, h, k⟩; cases h; exact k
  · intro k; exact ⟨cs, rfl, k⟩
@[go_sem] theorem cellE_ptr {id ver off : Nat} : cellE (.ptr id ver off) n R H = cellG (getCells H id ver) off n R H := (rfl)
theorem cellG_iff {id ver off : Nat} : (∃ r0, ((getCells H id ver).bind fun cs => (cut cs off n).bind fun l => mk true (if 0 ≤ id then l else l.map strip0)) = some r0 ∧ ∃ r, fixV 0 H 8 r0 = some r ∧ R r) ↔ cellG (getCells H id ver) off n R H := by
  unfold cellG fin0
  constructor
  · rintro ⟨r0, h, r, h1, h2⟩
    obtain ⟨cs, h3, h⟩ := Option.bind_eq_some_iff.1 h
    obtain ⟨l, h4, h⟩ := Option.bind_eq_some_iff.1 h
    rw [if_pos (Nat.zero_le _)] at h
    cases h
    unfold cut at h4
    split at h4
    · cases h4
      exact ⟨cs, h3, by assumption, r, h1, h2⟩
    · cases h4
  · rintro ⟨cs, h3, hl, r, h1, h2⟩
    refine ⟨.agg ((cs.drop off).take n), ?_, r, h1, h2⟩
    rw [h3]
    simp [cut, hl, mk]
@[go_sem] theorem end0_cell : end0 [.cell t n true] R .ret ⟨l, d⟩ H = cellE (getE l d t) n R H := by
  have e : (En.f ⟨l, d⟩) t = getE l d t := rfl
  unfold end0 cellE resV
  simp only [e]
  generalize getE l d t = v
  cases v <;> first | (rename_i id ver off; simp only [true_and, cellG_iff]; done) | simp
@[go_sem] theorem end0_cellN : end0 [.cell t n true] R .normal ⟨l, d⟩ H = cellE (getE l d t) n R H := by
  have e : (En.f ⟨l, d⟩) t = getE l d t := rfl
  unfold end0 cellE resV
  simp only [e]
  generalize getE l d t = v
  cases v <;> first | (rename_i id ver off; simp only [true_and, cellG_iff]; done) | simp
@[go_sem] theorem fin0_ty {o : Bool} {t : Ty} : fin0 H (tyV o t) R = R (tyV o t) := by
  have : fixV 0 H 8 (tyV o t) = some (tyV o t) := by
    unfold tyV tyO
    simp [fixV]
  unfold fin0
  rw [this]
  simp
@[go_sem] theorem fin0_tyC {t : Ty} : fin0 H (.agg (tyC t)) R = R (tyV false t) := by rw [tyC_agg]; exact fin0_ty
@[go_sem] theorem fin0_lit {a b : Int} {s : List UInt8} {o : Bool} {xs : List Ty} : fin0 H (.agg [.int .i64 a, .int .i64 b, .str s, .sl o 4 (xs.map tyC)]) R = R (tyV o (.mk a b s xs)) := fin0_ty (t := .mk a b s xs)
@[go_sem] theorem fin0_lit0 {a b : Int} {s : List UInt8} {o : Bool} : fin0 H (.agg [.int .i64 a, .int .i64 b, .str s, .sl o 4 []]) R = R (tyV o (.mk a b s [])) := fin0_ty (t := .mk a b s [])
end
@[go_sem] theorem strip_ty {o : Bool} {t : Ty} : strip (tyV o t) = tyV false t := rfl
section
variable {P : Program} {K : KK} {s : List Fr} {E : En} {H : Heap} {tk : List Nat} {dst : Option Nat} {os : List VOp} {keep : List Nat}
@[go_sem] theorem run_buildTy {o : Bool} {t : Ty} : runAct P (.buildSl 4) [tyV o t] tk dst os keep s E H K = runOps P os keep s ((stripEn tk E).setO dst (.sl true 4 [tyC t])) H K := by
  have e : sBuildSl 4 [tyV o t] H = some (.sl true 4 [tyC t], H) := by
    rw [tyC_eq]
    simp [sBuildSl, elems, tyV, tyO, solid, V.cells, inl, plain1, plain0, inl0, strip0]
  show (∃ r H', sBuildSl 4 [tyV o t] H = some (r, H') ∧ _) = _
  rw [e]
  apply propext
  constructor
  · rintro ⟨r, H', h, k⟩; cases h; exact k
  · intro k; exact ⟨_, _, rfl, k⟩
end

/-- What stands in a variable's place. -/
def atV (vs : List Int) (ws : List Ty) (n : Int) : Option Ty := match vs with
  | [] => none
  | v :: vs => if v = n then ws.head? else atV vs ws.tail n
mutual
def subF (vs : List Int) (ws : List Ty) : Ty → Ty
  | .mk k n s xs => if k = 1 then (match atV vs ws n with | some w => w | none => .mk k n s xs) else .mk k 0 s (subL vs ws xs)
def subL (vs : List Int) (ws : List Ty) : List Ty → List Ty
  | [] => []
  | a :: l => subF vs ws a :: subL vs ws l
end
theorem subL_eq (vs : List Int) (ws : List Ty) : ∀ l : List Ty, subL vs ws l = l.map (subF vs ws)
  | [] => rfl
  | a :: l => by rw [subL, subL_eq vs ws l]; rfl
theorem atV_at : ∀ {vs : List Int} {ws : List Ty} {n : Int} {i : Nat}, (∀ j < i, vs[j]? ≠ some n) → vs[i]? = some n → atV vs ws n = ws[i]?
  | [], _, _, _, _, h => by simp at h
  | v :: vs, ws, n, 0, _, h => by
    simp at h; subst h
    rw [atV, if_pos rfl]; cases ws <;> rfl
  | v :: vs, ws, n, i + 1, h1, h => by
    rw [atV, if_neg (fun e => h1 0 (by omega) (by rw [e]; rfl)), atV_at (i := i) (fun j hj => by have := h1 (j + 1) (by omega); simpa using this) (by simpa using h)]
    cases ws <;> simp
theorem atV_none : ∀ {vs : List Int} {ws : List Ty} {n : Int}, (∀ j < vs.length, vs[j]? ≠ some n) → atV vs ws n = none
  | [], _, _, _ => rfl
  | v :: vs, ws, n, h => by
    rw [atV, if_neg (fun e => h 0 (by simp) (by rw [e]; rfl)), atV_none fun j hj => by have := h (j + 1) (by simpa using hj); simpa using this]
def intsV (o : Bool) (l : List Int) : V := .sl o 1 (l.map fun n => [V.int .i64 n])
def tysV (o : Bool) (l : List Ty) : V := .sl o 4 (l.map tyC)

theorem ty_push (f : Ty → Ty) {xs : List Ty} {i : Nat} {a : Ty} (h : xs[i]? = some a) : List.map tyC (List.map f (List.take i xs)) ++ [tyC (f a)] = List.map tyC (List.map f (List.take (i + 1) xs)) := by
  rw [List.take_add_one, h]; simp only [List.map_append]; rfl

theorem refSubst_T (vs : List Int) (ws : List Ty) (hv : vs.length ≤ 1000000000) (t : Ty) : Bd t → ∀ (o o1 o2 : Bool), ∃ o', T Try.prog 17 [tyV o t, intsV o1 vs, tysV o2 ws] [] (tyV o' (subF vs ws t)) [] := by
  induction t using Ty.ind with
  | h k n s xs ih =>
    intro hb o o1 o2
    have key : ∀ R : V → Prop, (∀ o', R (tyV o' (subF vs ws (Ty.mk k n s xs)))) → ∃ r, T Try.prog 17 [tyV o (Ty.mk k n s xs), intsV o1 vs, tysV o2 ws] [] r [] ∧ R r := by
      intro R hR
      refine T.of0x mix c_r10_Subst rfl ?_
      unfold v_r10_Subst
      simp only [tyV, tyO, Ty.k, Ty.n, Ty.s, Ty.as, intsV, tysV, go_sem, ↓reduceIte]
      by_cases hk : k = 1
      · subst hk
        refine ⟨fun _ => ?_, fun h => by simp at h⟩
        refine WP.loop' (fun m E H' => ∃ (i : Nat) (ex : List (Nat × V)), i + m = vs.length ∧ (∀ j < i, vs[j]? ≠ some n) ∧
          H' = [Obj.cells 0 [.int .i64 1, .int .i64 n, .str s, .sl o 4 (xs.map tyC)], Obj.cells 0 [.int .i64 0, .int .i64 0, .str [], .sl true 4 []]] ∧
          E = ⟨(1, intsV o1 vs) :: (2, tysV o2 ws) :: (3, .ptr 0 0 0) :: (6, .ptr 1 0 0) :: (7, .int .i64 i) :: ex, .u⟩) (n := vs.length) ⟨0, _, by omega, fun j hj => by omega, rfl, rfl⟩ ?_
        rintro m E H' ⟨i, ex, hi, hno, rfl, rfl⟩
        have hw := inc64 (i := i) (by omega)
        simp only [intsV, tysV, go_sem, ↓reduceIte, ↓ex_map, ↓run_addW, hw, Int.toNat_natCast]
        have hdone : (∀ j < vs.length, vs[j]? ≠ some n) → subF vs ws (Ty.mk 1 n s xs) = Ty.mk 1 n s xs := by
          intro h; rw [subF, if_pos rfl, atV_none h]
        refine ⟨fun hlt => ?_, fun hge => ?_⟩
        · have hix : i < vs.length := by omega
          refine ⟨by omega, _, List.getElem?_eq_getElem hix, fun he => ⟨fun hlw => ?_, fun hlw => ?_⟩, fun he => ⟨m - 1, by omega, i + 1, _, by omega, fun j hj => ?_, rfl⟩⟩
          · have hv' : vs[i]? = some n := by rw [List.getElem?_eq_getElem hix]; simp at he; rw [he]
            have hiw : i < ws.length := by omega
            refine ⟨by omega, _, List.getElem?_eq_getElem hiw, ?_⟩
            have := hR false
            rw [subF, if_pos rfl, atV_at hno hv', List.getElem?_eq_getElem hiw] at this
            exact this
          · have hv' : vs[i]? = some n := by rw [List.getElem?_eq_getElem hix]; simp at he; rw [he]
            have := hR o
            rw [subF, if_pos rfl, atV_at hno hv', List.getElem?_eq_none (by omega)] at this
            exact this
          · by_cases hj' : j < i
            · exact hno j hj'
            · have : j = i := by omega
              subst this
              rw [List.getElem?_eq_getElem hix]
              simp at he ⊢; exact he
        · have := hR o
          rw [hdone (fun j hj => hno j (by omega))] at this
          exact this
      · refine ⟨fun h => by simp at h; exact absurd h hk, fun _ => ?_⟩
        refine WP.loop' (fun m E H' => ∃ (i : Nat) (ex : List (Nat × V)), i + m = xs.length ∧
          H' = [Obj.cells 0 [.int .i64 k, .int .i64 n, .str s, .sl o 4 (xs.map tyC)], Obj.cells 0 [.int .i64 0, .int .i64 0, .str [], .sl true 4 []], Obj.cells 0 [.int .i64 k, .int .i64 0, .str s, .sl true 4 (((xs.take i).map (subF vs ws)).map tyC)]] ∧
          E = ⟨(1, intsV o1 vs) :: (2, tysV o2 ws) :: (3, .ptr 0 0 0) :: (6, .ptr 1 0 0) :: (8, .ptr 2 0 0) :: (9, .int .i64 i) :: ex, .u⟩) (n := xs.length) ⟨0, _, by omega, rfl, rfl⟩ ?_
        rintro m E H' ⟨i, ex, hi, rfl, rfl⟩
        have hw := inc64 (i := i) (by have := hb.len; omega)
        simp only [intsV, tysV, go_sem, ↓reduceIte, ↓ex_map, ↓run_addW, hw, Int.toNat_natCast]
        refine ⟨fun hlt => ?_, fun hge => ?_⟩
        · have hix : i < xs.length := by omega
          have hg := List.getElem?_eq_getElem hix
          obtain ⟨o', hT⟩ := ih _ (List.getElem_mem hix) (hb.arg _ (List.getElem_mem hix)) false false false
          rw [← tyC_agg] at hT
          refine ⟨by omega, _, hg, _, hT, by rw [tyC_agg]; rfl, ?_⟩
          have hlen : i + 1 ≤ xs.length := by omega
          have hfit : fits (i + 1) 56 := ⟨by have := hb.len; omega, by have := hb.len; omega⟩
          have hmin : min i xs.length = i := by omega
          have hpush := ty_push (subF vs ws) hg
          simp only [go_sem, ↓reduceIte, ↓run_addW, hw, List.length_take, hmin, hfit, hpush]
          exact ⟨m - 1, by omega, i + 1, _, by omega, rfl, rfl⟩
        · have := hR true
          rw [subF, if_neg hk, subL_eq] at this
          rw [List.take_of_length_le (by omega)]
          exact this
    obtain ⟨r, hT, o', rfl⟩ := key (fun r => ∃ o', r = tyV o' (subF vs ws (Ty.mk k n s xs))) fun o' => ⟨o', rfl⟩
    exact ⟨o', hT⟩
end Go.Proofs.Ytneonbdlgmaofaa.Vm
namespace Go.Proofs.Ytneonbdlgmaofaa.Vm
open Go
set_option linter.unusedSimpArgs false

theorem map_id' {α : Type} (l : List α) : l.map (fun a => a) = l := by simp
theorem copied_T (t : Ty) : Bd t → ∀ (o : Bool), ∃ o', T Try.prog 31 [tyV o t] [] (tyV o' t) [] := by
  induction t using Ty.ind with
  | h k n s xs ih =>
    intro hb o
    have key : ∀ R : V → Prop, (∀ o', R (tyV o' (Ty.mk k n s xs))) → ∃ r, T Try.prog 31 [tyV o (Ty.mk k n s xs)] [] r [] ∧ R r := by
      intro R hR
      refine T.of0x mix c_unify_copied rfl ?_
      unfold v_unify_copied
      simp only [tyV, tyO, Ty.k, Ty.n, Ty.s, Ty.as, go_sem, ↓reduceIte]
      refine WP.loop' (fun m E H' => ∃ (i : Nat) (rest : Heap) (ex : List (Nat × V)), i + m = xs.length ∧
        H' = Obj.cells 0 [.int .i64 k, .int .i64 n, .str s, .sl o 4 (xs.map tyC)] :: Obj.cells 0 [.int .i64 0, .int .i64 0, .str [], .sl true 4 []] :: rest ∧
        E = ⟨(1, .ptr 0 0 0) :: (2, .ptr 1 0 0) :: (3, .sl true 4 (List.map tyC (List.map (fun a => a) (xs.take i)))) :: (7, .sl false 4 (xs.map tyC)) :: (8, .int .i64 xs.length) :: (9, .int .i64 i) :: ex, .u⟩) (n := xs.length) ⟨0, [], _, by omega, rfl, rfl⟩ ?_
      rintro m E H' ⟨i, rest, ex, hi, rfl, rfl⟩
      have hw := inc64 (i := i) (by have := hb.len; omega)
      simp only [go_sem, ↓reduceIte, ↓ex_map, ↓run_addW, hw, Int.toNat_natCast]
      refine ⟨fun hlt => ?_, fun hge => ?_⟩
      · have hix : i < xs.length := by omega
        have hg := List.getElem?_eq_getElem hix
        obtain ⟨o', hT⟩ := ih _ (List.getElem_mem hix) (hb.arg _ (List.getElem_mem hix)) false
        refine ⟨by omega, _, hg, _, _, hT.ty _, ?_⟩
        have hfit : fits (i + 1) 56 := ⟨by have := hb.len; omega, by have := hb.len; omega⟩
        have hmin : min i xs.length = i := by omega
        have hpush := ty_push (fun a => a) hg
        simp only [go_sem, ↓reduceIte, ↓run_addW, hw, List.length_take, hmin, hfit, hpush]
        exact ⟨m - 1, by omega, i + 1, _, _, by omega, rfl, rfl⟩
      · rw [List.take_of_length_le (by omega), map_id']
        exact hR _
    obtain ⟨r, hT, o', rfl⟩ := key (fun r => ∃ o', r = tyV o' (Ty.mk k n s xs)) fun o' => ⟨o', rfl⟩
    exact ⟨o', hT⟩
end Go.Proofs.Ytneonbdlgmaofaa.Vm
namespace Go.Proofs.Ytneonbdlgmaofaa.Vm
open Go
set_option linter.unusedSimpArgs false

def szF (t : Ty) (m : Nat) : Nat := if tySize t ≤ m then tySize t else m + 1
theorem tysSize_app : ∀ {a b : List Ty}, tysSize (a ++ b) = tysSize a + tysSize b
  | [], b => by simp [tysSize]
  | x :: a, b => by rw [List.cons_append, tysSize, tysSize, tysSize_app]; omega
theorem tysSize_take (xs : List Ty) (i : Nat) : tysSize (xs.take i) ≤ tysSize xs := by
  conv => rhs; rw [← List.take_append_drop i xs]
  rw [tysSize_app]; omega
theorem tysSize_push {xs : List Ty} {i : Nat} {a : Ty} (h : xs[i]? = some a) : tysSize (xs.take (i + 1)) = tysSize (xs.take i) + tySize a := by
  rw [List.take_add_one, h, tysSize_app]; simp [tysSize]
theorem wrapn {n : Int} (h : -9223372036854775808 ≤ n) (h2 : n < 9223372036854775808) : IntKind.i64.wrap n = n := wrap64 h h2

theorem refSize_T (t : Ty) : Bd t → ∀ (o : Bool) (m : Nat), m ≤ 1000000000 → T Try.prog 15 [tyV o t, .int .i64 m] [] (.int .i64 (szF t m : Nat)) [] := by
  induction t using Ty.ind with
  | h k n s xs ih =>
    intro hb o M hM
    generalize hS : szF (Ty.mk k n s xs) M = S
    have hS' : S = if 1 + tysSize xs ≤ M then 1 + tysSize xs else M + 1 := by rw [← hS, szF, tySize]
    refine T.of0 mix c_r10_Size rfl ?_
    unfold v_r10_Size
    simp only [tyV, tyO, Ty.k, Ty.n, Ty.s, Ty.as, go_sem, ↓reduceIte]
    refine WP.loop' (fun m E H' => ∃ (i : Nat) (g : Nat) (ex : List (Nat × V)), i + m = xs.length ∧ ((g = 1 + tysSize (xs.take i) ∧ g ≤ M) ∨ (g = M + 1 ∧ M < 1 + tysSize (xs.take i))) ∧
      H' = [Obj.cells 0 [.int .i64 k, .int .i64 n, .str s, .sl o 4 (xs.map tyC)]] ∧
      E = ⟨(1, .int .i64 M) :: (2, .ptr 0 0 0) :: (5, .int .i64 g) :: (6, .int .i64 i) :: ex, .u⟩) (n := xs.length) ⟨0, 1, _, by omega, by simp [tysSize]; omega, rfl, rfl⟩ ?_
    rintro m E H' ⟨i, g, ex, hi, hg0, rfl, rfl⟩
    have hw := inc64 (i := i) (by have := hb.len; omega)
    have hwM := inc64 (i := M) (by omega)
    have htk := tysSize_take xs i
    simp only [go_sem, ↓reduceIte, ↓ex_map, ↓run_addW, ↓run_subW, hw, hwM, Int.toNat_natCast]
    have hgS : ((g : Int) > M → ((M + 1 : Nat) : Int) = S) := by
      intro h
      rw [hS', if_neg (by omega)]
    refine ⟨fun hlt => ⟨fun hgM => ?_, fun hgM => ⟨fun h => by rw [hgS h], fun h => by omega⟩⟩, fun hge => ⟨fun h => by rw [hgS h], fun h => ?_⟩⟩
    · have hix : i < xs.length := by omega
      have hg := List.getElem?_eq_getElem hix
      have hsub : IntKind.i64.wrap ((M : Int) - g) = ((M - g : Nat) : Int) := by rw [wrapn (by omega) (by omega)]; omega
      have hT := ih _ (List.getElem_mem hix) (hb.arg _ (List.getElem_mem hix)) false (M - g) (by omega)
      rw [← tyC_agg] at hT
      rw [hsub]
      refine ⟨by omega, _, hg, _, _, hT.frame (by rw [tyC_agg]; rfl) _, ?_⟩
      have hp := tysSize_push hg
      have hadd : IntKind.i64.wrap ((g : Int) + (szF xs[i] (M - g) : Nat)) = ((g + szF xs[i] (M - g) : Nat) : Int) := by
        rw [wrapn (by omega) (by unfold szF; split <;> omega)]; omega
      simp only [go_sem, ↓reduceIte, ↓run_addW, hw, hadd]
      refine ⟨m - 1, by omega, i + 1, _, _, by omega, ?_, rfl⟩
      rw [hp]
      unfold szF
      split <;> omega
    · congr 1
      rw [List.take_of_length_le (by omega)] at hg0
      rw [hS']
      split <;> omega
end Go.Proofs.Ytneonbdlgmaofaa.Vm
