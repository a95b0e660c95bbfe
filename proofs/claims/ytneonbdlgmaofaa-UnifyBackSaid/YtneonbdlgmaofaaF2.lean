/-
The value machine, part 25: what must hold ahead, so that this holds behind.
The value machine, part 26: code without loops, at one go.
The value machine, part 27: equations for what is done in the heap.
The value machine, part 28: functions that begin in an empty heap.
The value machine, part 29: functions that leave another heap behind.
The value machine, part 30: what is done without a heap is done beside every heap.
The value machine, part 24: a law's arguments stand for values; what a law answers.
The value machine, part 31: numbers and rows of numbers as a law is handed them.
The value machine, part 32: heaps that are not written out.
The value machine, part 33: a function whose answer takes what its cell owns.
The value machine, part 34: structs as a law is handed them.
The program's functions, as the value machine has them.
Unify: what must come of fixed calls.
Types that are made the same, part 4: types in memory; which may be, which are the same, their sizes.
-/
import Derived.Test.YtneonbdlgmaofaaF1
import Derived.ChangeOld
import Derived.Below
import Derived.RowKit
import Derived.ChangeBook
import Derived.ChangeStays
import Derived.ChangeShapes
import Derived.SizedLaws
import Derived.WideShapes
import Derived.Test.YtneonbdlgmaofaaF0
namespace Go.Proofs.Ytneonbdlgmaofaa.Vm
open Go

/-- What an operation on numbers answers. -/
def intW (op : BinOp) (k : IntKind) (a b : Int) (K : V → Prop) : Prop := match op with
  | .add => ∃ z, z = k.wrap (a + b) ∧ K (.int k z)
  | .sub => ∃ z, z = k.wrap (a - b) ∧ K (.int k z)
  | .mul => ∃ z, z = k.wrap (a * b) ∧ K (.int k z)
  | .quo => b ≠ 0 ∧ ∃ z, z = k.wrap (a.tdiv b) ∧ K (.int k z)
  | .rem => b ≠ 0 ∧ ∃ z, z = k.wrap (a.tmod b) ∧ z = a.tmod b ∧ K (.int k z)
  | .eql => K (.bool (a == b))
  | .neq => K (.bool (a != b))
  | .lss => K (.bool (a < b))
  | .leq => K (.bool (a ≤ b))
  | .gtr => K (.bool (a > b))
  | .geq => K (.bool (a ≥ b))
  | _ => False
theorem intW_sound {op : BinOp} {k : IntKind} {a b : Int} {K : V → Prop} (h : intW op k a b K) : ∃ v, binInt op k a b = some v ∧ K v := by
  unfold intW at h
  split at h
  · obtain ⟨z, rfl, h⟩ := h; exact ⟨_, rfl, h⟩
  · obtain ⟨z, rfl, h⟩ := h; exact ⟨_, rfl, h⟩
  · obtain ⟨z, rfl, h⟩ := h; exact ⟨_, rfl, h⟩
  · obtain ⟨h0, z, rfl, h⟩ := h; exact ⟨_, by unfold binInt; simp [h0], h⟩
  · obtain ⟨h0, z, _, rfl, h⟩ := h; exact ⟨_, by unfold binInt; simp [h0], h⟩
  · exact ⟨_, rfl, h⟩
  · exact ⟨_, rfl, h⟩
  · exact ⟨_, rfl, h⟩
  · exact ⟨_, rfl, h⟩
  · exact ⟨_, rfl, h⟩
  · exact ⟨_, rfl, h⟩
  · exact h.elim

def cellsW (H : Heap) (id ver off n : Nat) (K : List V → List V → Prop) : Prop := ∃ cs, getCells H id ver = some cs ∧ off + n ≤ cs.length ∧ K cs ((cs.drop off).take n)
theorem cellsW_sound {H : Heap} {id ver off n : Nat} {K : List V → List V → Prop} (h : cellsW H id ver off n K) : ∃ cs l, getCells H id ver = some cs ∧ cut cs off n = some l ∧ off + n ≤ cs.length ∧ K cs l := by
  obtain ⟨cs, h1, h2, h3⟩ := h
  exact ⟨cs, _, h1, by simp [cut, h2], h2, h3⟩

def mkW : Bool → List V → (V → Prop) → Prop
  | true, l, K => K (.agg l)
  | false, l, K => ∃ v, l = [v] ∧ K v
theorem mkW_sound {b : Bool} {l : List V} {K : V → Prop} (h : mkW b l K) : ∃ v, mk b l = some v ∧ K v := by
  cases b with
  | true => exact ⟨_, rfl, h⟩
  | false => obtain ⟨v, rfl, h⟩ := h; exact ⟨v, rfl, h⟩

def boundsW (lo hi : Bool) (n : Nat) (bs : List V) (K : Nat → Nat → Prop) : Prop := match lo, hi, bs with
  | false, false, [] => K 0 n
  | true, false, [.int _ x] => 0 ≤ x ∧ x ≤ n ∧ K x.toNat n
  | false, true, [.int _ x] => 0 ≤ x ∧ x ≤ n ∧ K 0 x.toNat
  | true, true, [.int _ l, .int _ h] => 0 ≤ l ∧ l ≤ h ∧ h ≤ n ∧ K l.toNat h.toNat
  | _, _, _ => False
theorem boundsW_sound {lo hi : Bool} {n : Nat} {bs : List V} {K : Nat → Nat → Prop} (h : boundsW lo hi n bs K) : ∃ p, bounds lo hi n bs = some p ∧ K p.1 p.2 := by
  unfold boundsW at h
  split at h
  · exact ⟨(0, n), rfl, h⟩
  · obtain ⟨h1, h2, h⟩ := h; exact ⟨_, by simp [bounds, h1, h2]; rfl, h⟩
  · obtain ⟨h1, h2, h⟩ := h; exact ⟨_, by simp [bounds, h1, h2]; rfl, h⟩
  · obtain ⟨h1, h2, h3, h⟩ := h; exact ⟨_, by simp [bounds, h1, h2, h3]; rfl, h⟩
  · exact h.elim

/-- Each act: what must hold, so that K holds of its answer. -/
def actW (a : Act) (vs : List V) (H : Heap) (K : V → Heap → Prop) : Prop := match a, vs with
  | .mv, [v] => K v H
  | .pick, [.bool c, x, y] => (c = true → K x H) ∧ (c = false → K y H)
  | .bin op, [.int j a, .int k b] => j = k ∧ intW op j a b fun v => K v H
  | .bin op, [.str a, .str b] => ∃ v, binStr op a b = some v ∧ K v H
  | .eqc ne agg ks, [x, y] => ∃ b, eqV ks agg x y = some b ∧ K (.bool (b != ne)) H
  | .isNil ne, [x, y] => ∃ b, nilOf x y = some b ∧ K (.bool (b != ne)) H
  | .not, [.bool b] => K (.bool !b) H
  | .neg, [.int k n] => ∃ z, z = k.wrap (0 - n) ∧ K (.int k z) H
  | .conv k, [.int _ n] => ∃ z, z = k.wrap n ∧ K (.int k z) H
  | .same, [.str s] => K (.str s) H
  | .alloc zs, [] => K (.ptr H.length 0 0) (H ++ [.cells 0 zs])
  | .load n agg, [.ptr id ver off] => cellsW H id ver off n fun _ l => mkW agg (l.map strip0) fun v => K v H
  | .load n agg, [.cptr cs] => n ≤ cs.length ∧ mkW agg (cs.take n) fun v => K v H
  | .loadT n agg, [.ptr id ver off] => cellsW H id ver off n fun cs l => mkW agg l fun v => K v (H.set id (.cells ver (put cs off (l.map strip0))))
  | .nilCheck, [.ptr id ver off] => K (.ptr id ver off) H
  | .nilCheck, [.cptr cs] => K (.cptr cs) H
  | .nilCheck, [.fn f cs] => K (.fn f cs) H
  | .fieldAddr off, [.ptr id ver o] => K (.ptr id ver (o + off)) H
  | .fieldAddr off, [.cptr cs] => K (.cptr (cs.drop off)) H
  | .field off n agg, [.agg cs] => off + n ≤ cs.length ∧ mkW agg ((cs.drop off).take n) fun v => K v H
  | .indexAddr sz, [.sl _ z xs, .int _ i] => z = sz ∧ 0 ≤ i ∧ ∃ x, xs[i.toNat]? = some x ∧ K (.cptr x) H
  | .indexAddr sz, [.hsl id ver off ln z, .int _ i] => z = sz ∧ 0 ≤ i ∧ i < ln ∧ K (.ptr id ver (off + i.toNat * sz)) H
  | .indexStr, [.str s, .int _ i] => 0 ≤ i ∧ ∃ b, s[i.toNat]? = some b ∧ K (.int .u8 b.toNat) H
  | .slice lo hi sz, .sl _ z xs :: bs => z = sz ∧ boundsW lo hi xs.length bs fun l h => K (.sl false z ((xs.take h).drop l)) H
  | .append sz bytes, [.sl true z xs, .sl _ z' ys] => z = sz ∧ z' = sz ∧ fits (xs.length + ys.length) bytes ∧ K (.sl true z (xs ++ ys)) H
  | .len, [.sl _ _ xs] => K (.int .i64 xs.length) H
  | .len, [.nilh _] => K (.int .i64 0) H
  | .len, [.hsl _ _ _ ln _] => K (.int .i64 ln) H
  | .lenStr, [.str s] => K (.int .i64 s.length) H
  | .extract i, [.tup vs] => ∃ v, vs[i]? = some v ∧ K v H
  | .min, [.int j a, .int k b] => j = k ∧ K (.int j (if b < a then b else a)) H
  | .max, [.int j a, .int k b] => j = k ∧ K (.int j (if b > a then b else a)) H
  | .mkfn f, vs => K (.fn f vs) H
  | a, vs => ∃ r H', a.sem vs H = some (r, H') ∧ K r H'

theorem actW_sound {a : Act} {vs : List V} {H : Heap} {K : V → Heap → Prop} (h : actW a vs H K) : ∃ r H', a.sem vs H = some (r, H') ∧ K r H' := by
  unfold actW at h
  split at h
  · exact ⟨_, _, rfl, h⟩
  · rename_i c x y
    cases c with
    | true => exact ⟨_, _, rfl, h.1 rfl⟩
    | false => exact ⟨_, _, rfl, h.2 rfl⟩
  · obtain ⟨rfl, h⟩ := h; obtain ⟨v, h1, h2⟩ := intW_sound h; exact ⟨v, H, by simp [Act.sem, sBin, h1], h2⟩
  · obtain ⟨v, h1, h2⟩ := h; exact ⟨v, H, by simp [Act.sem, sBin, h1], h2⟩
  · obtain ⟨v, h1, h2⟩ := h; exact ⟨_, H, by simp [Act.sem, sEqc, h1], h2⟩
  · obtain ⟨v, h1, h2⟩ := h; exact ⟨_, H, by simp [Act.sem, sIsNil, h1], h2⟩
  · exact ⟨_, _, rfl, h⟩
  · obtain ⟨z, rfl, h⟩ := h; exact ⟨_, _, rfl, h⟩
  · obtain ⟨z, rfl, h⟩ := h; exact ⟨_, _, rfl, h⟩
  · exact ⟨_, _, rfl, h⟩
  · exact ⟨_, _, rfl, h⟩
  · obtain ⟨cs, l, h1, h2, _, h⟩ := cellsW_sound h
    obtain ⟨v, h3, h⟩ := mkW_sound h
    exact ⟨v, H, by simp [Act.sem, sLoad, h1, h2, h3], h⟩
  · obtain ⟨h1, h⟩ := h
    obtain ⟨v, h3, h⟩ := mkW_sound h
    exact ⟨v, H, by simp [Act.sem, sLoad, cut, h1, h3], h⟩
  · obtain ⟨cs, l, h1, h2, _, h⟩ := cellsW_sound h
    obtain ⟨v, h3, h⟩ := mkW_sound h
    exact ⟨v, _, by simp [Act.sem, sLoadT, h1, h2, h3], h⟩
  · exact ⟨_, _, rfl, h⟩
  · exact ⟨_, _, rfl, h⟩
  · exact ⟨_, _, rfl, h⟩
  · exact ⟨_, _, rfl, h⟩
  · exact ⟨_, _, rfl, h⟩
  · obtain ⟨h1, h⟩ := h
    obtain ⟨v, h3, h⟩ := mkW_sound h
    exact ⟨v, H, by simp [Act.sem, sField, cut, h1, h3], h⟩
  · obtain ⟨rfl, h1, x, h2, h⟩ := h; exact ⟨_, H, by simp [Act.sem, sIndexAddr, h1, h2], h⟩
  · obtain ⟨rfl, h1, h2, h⟩ := h; exact ⟨_, H, by simp [Act.sem, sIndexAddr, h1, h2], h⟩
  · obtain ⟨h1, b, h2, h⟩ := h; exact ⟨_, H, by simp [Act.sem, sIndexStr, h1, h2], h⟩
  · obtain ⟨rfl, h⟩ := h
    obtain ⟨p, h1, h⟩ := boundsW_sound h
    exact ⟨_, H, by simp [Act.sem, sSlice, h1], h⟩
  · obtain ⟨rfl, rfl, h1, h⟩ := h; exact ⟨_, H, by simp [Act.sem, sAppend, h1], h⟩
  · exact ⟨_, _, rfl, h⟩
  · exact ⟨_, _, rfl, h⟩
  · exact ⟨_, _, rfl, h⟩
  · exact ⟨_, _, rfl, h⟩
  · obtain ⟨v, h1, h⟩ := h; exact ⟨v, H, by simp [Act.sem, sExtract, h1], h⟩
  · obtain ⟨rfl, h⟩ := h; exact ⟨_, H, by simp [Act.sem, sMin], h⟩
  · obtain ⟨rfl, h⟩ := h; exact ⟨_, H, by simp [Act.sem, sMax], h⟩
  · exact ⟨_, _, rfl, h⟩
  · exact h

/-- An environment that is a list. -/
def LE (l : List (Nat × V)) : En := ⟨l, .u⟩
def wantedW (g : Option (Nat × Bool)) (E : En) (K : Bool → Prop) : Prop := match g with
  | none => K true
  | some (g, b) => match getE E.l E.d g with
    | .bool c => (c = b → K true) ∧ (c ≠ b → K false)
    | .tup _ => K false
    | _ => False

def argsW (E : En) (tk : List Nat) : List Opnd → List V
  | [] => []
  | .c v :: l => v :: argsW E tk l
  | .t i :: l => (if tk.contains i then getE E.l E.d i else strip (getE E.l E.d i)) :: argsW E tk l
theorem argsW_eq (E : En) (tk : List Nat) : ∀ l, argsW E tk l = l.map (evalA E.f tk)
  | [] => rfl
  | .c v :: l => by rw [argsW, argsW_eq E tk l]; rfl
  | .t i :: l => by rw [argsW, argsW_eq E tk l]; simp [evalA, En.f]

def callW (P : Program) (m : CM) (f : Nat) (args : List V) (H : Heap) (K : V → Heap → Prop) : Prop := match m with
  | .wr => ∃ r H', T P f args H r H' ∧ K r H'
  | .rd => ∃ r, T P f args H r H ∧ K r H
  | .al => ∃ r, T P f args [] r [] ∧ idsL 0 args = true ∧ K r H
  | .gr => ∃ r L, T P f args H r (H ++ L) ∧ K r (H ++ L)
  | .fr _ => False
/-- A call that stays below an own object. -/
def callB (P : Program) (b : V) (f : Nat) (args : List V) (H : Heap) (K : V → Heap → Prop) : Prop := match b with
  | .ptr k _ _ => ∃ r A A' L, H = A ++ L ∧ A.length = k ∧ A'.length = k ∧ T P f args A r A' ∧ idsL k args = true ∧ A.all (idsO k) = true ∧ K r (A' ++ L)
  | _ => False
def callX (P : Program) (m : CM) (E : En) (f : Nat) (args : List V) (H : Heap) (K : V → Heap → Prop) : Prop := match m with
  | .fr s => callB P (getE E.l E.d s) f args H K
  | m => callW P m f args H K
def baseW (E : En) (o : Option Nat) (vs : List V) (K : Prop) : Prop := match o with
  | none => K
  | some s => farOk (getE E.l E.d s) vs = true ∧ K
def stepW (P : Program) (o : VOp) (E : En) (H : Heap) (K : En → Heap → Prop) : Prop :=
  wantedW o.guard E fun y => match y with
    | false => K (E.setO o.dst (.tup [])) H
    | true => match o.act with
      | .call b => (match argsW E o.take o.args with
        | .fn f caps :: rest => callX P b E f (rest ++ caps) H fun r H' => K ((stripEn o.take E).setO o.dst r) H'
        | _ => False)
      | a => baseW E a.base (argsW E o.take o.args) <| actW a (argsW E o.take o.args) H fun r H' => K ((stripEn o.take E).setO o.dst r) H'
def opsW (P : Program) : List VOp → En → Heap → (En → Heap → Prop) → Prop
  | [], E, H, K => K E H
  | o :: os, E, H, K => stepW P o E H fun E' H' => opsW P os E' H' K

theorem wantedW_sound {o : VOp} {E : En} {K : Bool → Prop} (h : wantedW o.guard E K) : ∃ y, o.wanted E.f = some y ∧ K y := by
  unfold wantedW at h
  unfold VOp.wanted
  split at h
  · rename_i hg; rw [hg]; exact ⟨_, rfl, h⟩
  · rename_i g b hg
    rw [hg]
    simp only [En.f]
    split at h
    · rename_i c hc
      rw [hc]
      simp only
      by_cases hcb : c = b
      · exact ⟨true, by simp [hcb], h.1 hcb⟩
      · exact ⟨false, by simp [hcb], h.2 hcb⟩
    · rename_i hc; rw [hc]; exact ⟨_, rfl, h⟩
    · exact h.elim

theorem stepW_sound {P : Program} {o : VOp} {E : En} {H : Heap} {K : En → Heap → Prop} (h : stepW P o E H K) : ∃ E' H', VStep P o E.f H E'.f H' ∧ K E' H' := by
  obtain ⟨y, hw, h⟩ := wantedW_sound h
  cases y with
  | false => exact ⟨_, _, ⟨none, .skip hw, by rw [En.setO_f]; rfl⟩, h⟩
  | true =>
    simp only at h
    split at h
    · rename_i b ha
      split at h
      · rename_i f caps rest hv
        rw [argsW_eq] at hv
        cases b with
        | wr =>
          obtain ⟨r, H', ht, hk⟩ := h
          exact ⟨_, _, ⟨some r, .call .wr f caps rest hw ha hv ht (fun e => by rcases e with e | e <;> cases e) (fun e => by cases e) (fun e => nomatch e) (fun s e => nomatch e), by rw [En.setO_f, stripEn_f]; rfl⟩, hk⟩
        | rd =>
          obtain ⟨r, ht, hk⟩ := h
          exact ⟨_, _, ⟨some r, .call .rd f caps rest hw ha hv ht (fun _ => rfl) (fun e => by cases e) (fun e => nomatch e) (fun s e => nomatch e), by rw [En.setO_f, stripEn_f]; rfl⟩, hk⟩
        | al =>
          obtain ⟨r, ht, hi, hk⟩ := h
          exact ⟨_, _, ⟨some r, .call .al f caps rest hw ha hv (ht.frame hi _) (fun _ => rfl) (fun _ => ⟨ht, hi⟩) (fun e => nomatch e) (fun s e => nomatch e), by rw [En.setO_f, stripEn_f]; rfl⟩, hk⟩
        | gr =>
          obtain ⟨r, L, ht, hk⟩ := h
          exact ⟨_, _, ⟨some r, .call .gr f caps rest hw ha hv ht (fun e => by rcases e with e | e <;> cases e) (fun e => by cases e) (fun _ => ⟨L, rfl⟩) (fun s e => nomatch e), by rw [En.setO_f, stripEn_f]; rfl⟩, hk⟩
        | fr s =>
          simp only [callX] at h
          unfold callB at h
          split at h
          · rename_i k ver off hs
            obtain ⟨r, A, A', L, rfl, e2, e3, ht, q2, q3, hk⟩ := h
            refine ⟨_, _, ⟨some r, .call (.fr s) f caps rest hw ha hv (ht.frameR (by omega) (by rw [e2]; exact q2) (by rw [e2]; exact q3) L) (fun e => by rcases e with e | e <;> cases e) (fun e => nomatch e) (fun e => nomatch e) (fun t e => ?_), by rw [En.setO_f, stripEn_f]; rfl⟩, hk⟩
            cases e
            exact ⟨k, ver, off, A, A', L, hs, e2, e3, rfl, rfl, ht, q2, q3⟩
          · exact h.elim
      · exact h.elim
    · have hb : ∀ s, o.act.base = some s → farOk (E.f s) (o.args.map (evalA E.f o.take)) = true := by
        intro s e
        unfold baseW at h
        rw [e] at h
        rw [← argsW_eq]; exact h.1
      have h : actW o.act (argsW E o.take o.args) H fun r H' => K ((stripEn o.take E).setO o.dst r) H' := by
        unfold baseW at h
        split at h
        · exact h
        · exact h.2
      obtain ⟨r, H', hs, h⟩ := actW_sound h
      rw [argsW_eq] at hs
      exact ⟨_, _, ⟨some r, .act hw hs hb, by rw [En.setO_f, stripEn_f]; rfl⟩, h⟩

theorem opsW_sound {P : Program} : ∀ {os : List VOp} {E : En} {H : Heap} {K : En → Heap → Prop}, opsW P os E H K → ∃ E' H', VRun P os E.f H E'.f H' ∧ K E' H'
  | [], E, H, _, h => ⟨E, H, .nil, h⟩
  | o :: os, E, H, K, h => by
    obtain ⟨E1, H1, h1, h2⟩ := stepW_sound h
    obtain ⟨E2, H2, h3, h4⟩ := opsW_sound h2
    exact ⟨E2, H2, .cons h1 h3, h4⟩

/-- The code runs, and K holds of where it ends. -/
def WP (P : Program) (vc : VCode) (E : En) (H : Heap) (K : X → En → Heap → Prop) : Prop := ∃ x E' H', VExec P vc E.f H x E'.f H' ∧ K x E' H'

def keepS (E : En) (ks : List Nat) : En := LE (ks.map fun i => (i, getE E.l E.d i))
theorem keepS_f (E : En) (ks : List Nat) : (keepS E ks).f = keepE ks E.f := by
  rw [← En.keep_f]
  funext j
  show getE _ _ j = getE _ _ j
  congr 1
  show ks.map _ = keepL E.l E.d ks
  induction ks with
  | nil => rfl
  | cons k ks ih => rw [List.map_cons, ih, keepL, forceV_eq]

section
variable {P : Program} {E : En} {H : Heap} {K : X → En → Heap → Prop}

theorem WP.region {ops : List VOp} {keep : List Nat} (h : opsW P ops E H fun E' H' => K .normal (keepS E' keep) H') : WP P (.region ops keep) E H K := by
  obtain ⟨E1, H1, h1, h2⟩ := opsW_sound h
  exact ⟨_, _, _, by rw [keepS_f]; exact .region h1, h2⟩
theorem WP.seq {a b : VCode} (h : WP P a E H fun x E' H' => match x with | .normal => WP P b E' H' K | x => K x E' H') : WP P (.seq a b) E H K := by
  obtain ⟨x, E1, H1, h1, h2⟩ := h
  cases x with
  | normal => obtain ⟨x, E2, H2, h3, h4⟩ := h2; exact ⟨x, E2, H2, .seq h1 h3, h4⟩
  | exit id => exact ⟨_, _, _, .seqX h1 (by simp), h2⟩
  | ret => exact ⟨_, _, _, .seqX h1 (by simp), h2⟩
theorem WP.cond {c : Opnd} {a b : VCode} (y : Bool) (hc : evalA E.f [] c = .bool y) (h1 : y = true → WP P a E H K) (h2 : y = false → WP P b E H K) : WP P (.cond c a b) E H K := by
  cases y with
  | true => obtain ⟨x, E1, H1, k1, k2⟩ := h1 rfl; exact ⟨x, E1, H1, .cond (y := true) hc k1, k2⟩
  | false => obtain ⟨x, E1, H1, k1, k2⟩ := h2 rfl; exact ⟨x, E1, H1, .cond (y := false) hc k1, k2⟩
theorem WP.skip (h : K .normal E H) : WP P .skip E H K := ⟨_, _, _, .skip, h⟩
theorem WP.label (h : K .normal E H) : WP P .label E H K := ⟨_, _, _, .label, h⟩
theorem WP.exit {id : Nat} (h : K (.exit id) E H) : WP P (.exit id) E H K := ⟨_, _, _, .exit id, h⟩
theorem WP.ret (h : K .ret E H) : WP P .ret E H K := ⟨_, _, _, .ret, h⟩
theorem WP.scope {a : VCode} (h : WP P a E H K) : WP P (.scope a) E H K := by
  obtain ⟨x, E1, H1, h1, h2⟩ := h; exact ⟨_, _, _, .scope h1, h2⟩
theorem WP.block {id : Nat} {a : VCode} (h : WP P a E H fun x E' H' => K (unblock id x) E' H') : WP P (.block id a) E H K := by
  obtain ⟨x, E1, H1, h1, h2⟩ := h; exact ⟨_, _, _, .block h1, h2⟩
/-- A loop: what holds at each round's start, and a number that falls. -/
theorem WP.loop {a : VCode} (I : Nat → En → Heap → Prop) (step : ∀ n E H, I n E H → WP P a E H fun x E' H' => match x with | .normal => ∃ m, m < n ∧ I m E' H' | x => K x E' H') {n : Nat} (h : I n E H) : WP P (.loop a) E H K := by
  induction n using Nat.strongRecOn generalizing E H with
  | ind n ih =>
    obtain ⟨x, E1, H1, h1, h2⟩ := step n E H h
    cases x with
    | normal =>
      obtain ⟨m, hm, hI⟩ := h2
      obtain ⟨x, E2, H2, h3, h4⟩ := ih m hm hI
      exact ⟨x, E2, H2, .loop h1 h3, h4⟩
    | exit id => exact ⟨_, _, _, .loopX h1 (by simp), h2⟩
    | ret => exact ⟨_, _, _, .loopX h1 (by simp), h2⟩
theorem WP.mono {vc : VCode} {K' : X → En → Heap → Prop} (h : WP P vc E H K) (hk : ∀ x E' H', K x E' H' → K' x E' H') : WP P vc E H K' := by
  obtain ⟨x, E1, H1, h1, h2⟩ := h; exact ⟨x, E1, H1, h1, hk _ _ _ h2⟩

/-- A function that leaves the heap as it was, and all that it made behind. -/
theorem T.of_wp (hmix : P.follows .mixedOrders = true) {f : Nat} {vf : VFunc} (hc : chkFn P f vf = true) {args : List V} (hl : args.length ≤ vf.n) {r : V}
    (h : WP P vf.body ⟨args.zipIdx.map fun p => (p.2, p.1), .tup []⟩ H fun x E' H' => (∀ id, x ≠ .exit id) ∧ H.length ≤ H'.length ∧ (∀ (i : Nat) (ob : Obj), i < H.length → H'[i]? = some ob → H[i]? = some ob) ∧ ∃ r0, resV H.length H' E'.f vf.results = some r0 ∧ fixV H.length H' 8 r0 = some r) : T P f args H r H := by
  obtain ⟨x, E1, H1, h1, h2, h3, h4, r0, h5, h6⟩ := h
  rw [env0_eq] at h1
  have := T_of hmix hc hl h1 h2 (m := H.length) (Nat.le_refl _) h3 h5 h6 (fun i ob hi hob => .inl (h4 i ob hi hob))
  have htake : H1.take H.length = H := by
    apply List.ext_getElem?
    intro i
    by_cases hi : i < H.length
    · rw [take_get hi]
      have hlt : i < H1.length := by omega
      rw [List.getElem?_eq_getElem hlt]
      exact (h4 i _ hi (List.getElem?_eq_getElem hlt)).symm
    · rw [List.getElem?_eq_none (by simp; omega), List.getElem?_eq_none (by omega)]
  rwa [htake] at this
/-- The same where nothing is made. -/
theorem T.of_pure (hmix : P.follows .mixedOrders = true) {f : Nat} {vf : VFunc} (hc : chkFn P f vf = true) {args : List V} (hl : args.length ≤ vf.n) {r : V}
    (h : WP P vf.body ⟨args.zipIdx.map fun p => (p.2, p.1), .tup []⟩ H fun x E' H' => (∀ id, x ≠ .exit id) ∧ H' = H ∧ ∃ r0, resV H.length H E'.f vf.results = some r0 ∧ fixV H.length H 8 r0 = some r) : T P f args H r H := by
  refine T.of_wp hmix hc hl (h.mono ?_)
  rintro x E' H' ⟨h1, rfl, r0, h2, h3⟩
  exact ⟨h1, Nat.le_refl _, fun _ _ _ h => h, r0, h2, h3⟩
end
end Go.Proofs.Ytneonbdlgmaofaa.Vm
namespace Go.Proofs.Ytneonbdlgmaofaa.Vm
open Go

@[go_sem] theorem getE_cons (j : Nat) (v : V) (l : List (Nat × V)) (d : V) (i : Nat) : getE ((j, v) :: l) d i = if j = i then v else getE l d i := by
  simp only [getE]
  by_cases h : j = i
  · subst h; simp
  · have h1 : Nat.beq j i = false := by cases hb : Nat.beq j i with
      | false => rfl
      | true => exact absurd (Nat.eq_of_beq_eq_true hb) h
    simp [h1, h]
@[go_sem] theorem getE_nil (d : V) (i : Nat) : getE [] d i = d := rfl

def condW (v : V) (A B : Prop) : Prop := match v with
  | .bool y => (y = true → A) ∧ (y = false → B)
  | _ => False
def valA (E : En) : Opnd → V
  | .t i => getE E.l E.d i
  | .c v => v
def guardW (v : V) (b : Bool) (A B : Prop) : Prop := match v with
  | .bool c => (c = b → A) ∧ (c ≠ b → B)
  | .tup _ => B
  | _ => False

abbrev KK := X → En → Heap → Prop
def seqW (K : KK) (N : En → Heap → Prop) : KK
  | .normal, E, H => N E H
  | .exit id, E, H => K (.exit id) E H
  | .ret, E, H => K .ret E H

/-- What must hold ahead of code; a loop is left as it is. -/
def wp (P : Program) : VCode → En → Heap → KK → Prop
  | .skip, E, H, K => K .normal E H
  | .label, E, H, K => K .normal E H
  | .exit id, E, H, K => K (.exit id) E H
  | .ret, E, H, K => K .ret E H
  | .region ops keep, E, H, K => opsW P ops E H fun E' H' => K .normal (keepS E' keep) H'
  | .seq a b, E, H, K => wp P a E H (seqW K fun E' H' => wp P b E' H' K)
  | .cond c a b, E, H, K => condW (valA E c) (wp P a E H K) (wp P b E H K)
  | .block id a, E, H, K => wp P a E H fun x E' H' => K (unblock id x) E' H'
  | .loop a, E, H, K => WP P (.loop a) E H K
  | .scope a, E, H, K => wp P a E H K

theorem condW_sound {P : Program} {a b : VCode} {E : En} {H : Heap} {K : KK} {c : Opnd} (h : condW (valA E c) (WP P a E H K) (WP P b E H K)) : WP P (.cond c a b) E H K := by
  unfold condW at h
  split at h
  · rename_i y hy
    refine .cond y ?_ h.1 h.2
    cases c with
    | c v => exact hy
    | t i => simp only [valA] at hy; simp [evalA, En.f, hy, strip, strip0]
  · exact h.elim
theorem condW_mono {v : V} {A B A' B' : Prop} (h : condW v A B) (ha : A → A') (hb : B → B') : condW v A' B' := by
  unfold condW at h ⊢
  split at h
  · exact ⟨fun e => ha (h.1 e), fun e => hb (h.2 e)⟩
  · exact h.elim

theorem wp_sound {P : Program} : ∀ {vc : VCode} {E : En} {H : Heap} {K : KK}, wp P vc E H K → WP P vc E H K
  | .skip, _, _, _, h => .skip h
  | .label, _, _, _, h => .label h
  | .exit _, _, _, _, h => .exit h
  | .ret, _, _, _, h => .ret h
  | .region _ _, _, _, _, h => .region h
  | .seq a b, E, H, K, h => by
    have h' : wp P a E H (seqW K fun E' H' => wp P b E' H' K) := h
    refine .seq ((wp_sound h').mono ?_)
    intro x E' H' k
    cases x with
    | normal => exact wp_sound k
    | exit id => exact k
    | ret => exact k
  | .cond c a b, E, H, K, h => condW_sound (condW_mono (show condW (valA E c) (wp P a E H K) (wp P b E H K) from h) (fun h => wp_sound h) (fun h => wp_sound h))
  | .block id a, E, H, K, h => by
    have h' : wp P a E H (fun x E' H' => K (unblock id x) E' H') := h
    exact .block (wp_sound h')
  | .loop a, _, _, _, h => h
  | .scope a, E, H, K, h => by
    have h' : wp P a E H K := h
    exact .scope (wp_sound h')

/-- What comes behind. -/
inductive Fr where
  | code (c : VCode)
  | blk (id : Nat)
def goes (P : Program) (K : KK) : List Fr → KK
  | [], x, E, H => K x E H
  | .code c :: s, .normal, E, H => wp P c E H (goes P K s)
  | .code _ :: s, .exit id, E, H => goes P K s (.exit id) E H
  | .code _ :: s, .ret, E, H => goes P K s .ret E H
  | .blk id :: s, x, E, H => goes P K s (unblock id x) E H
def run (P : Program) (c : VCode) (s : List Fr) (E : En) (H : Heap) (K : KK) : Prop := wp P c E H (goes P K s)
def runOps (P : Program) (os : List VOp) (keep : List Nat) (s : List Fr) (E : En) (H : Heap) (K : KK) : Prop := opsW P os E H fun E' H' => goes P K s .normal (keepS E' keep) H'
/-- One operation. -/
def runAct (P : Program) (a : Act) (vs : List V) (tk : List Nat) (dst : Option Nat) (os : List VOp) (keep : List Nat) (s : List Fr) (E : En) (H : Heap) (K : KK) : Prop := match a with
  | .call b => (match vs with
    | .fn f caps :: rest => callX P b E f (rest ++ caps) H fun r H' => runOps P os keep s ((stripEn tk E).setO dst r) H' K
    | _ => False)
  | a => baseW E a.base vs <| actW a vs H fun r H' => runOps P os keep s ((stripEn tk E).setO dst r) H' K
def runInt (P : Program) (op : BinOp) (k : IntKind) (a b : Int) (tk : List Nat) (dst : Option Nat) (os : List VOp) (keep : List Nat) (s : List Fr) (E : En) (H : Heap) (K : KK) : Prop :=
  intW op k a b fun v => runOps P os keep s ((stripEn tk E).setO dst v) H K

section
variable {P : Program} {K : KK} {s : List Fr} {E : En} {H : Heap} {tk : List Nat} {dst : Option Nat} {os : List VOp} {keep : List Nat}

theorem wp_run {c : VCode} : wp P c E H K = run P c [] E H K := rfl
@[go_sem] theorem goes_nil {x : X} : goes P K [] x E H = K x E H := (rfl)
@[go_sem] theorem goes_code {c : VCode} : goes P K (.code c :: s) .normal E H = run P c s E H K := (rfl)
@[go_sem] theorem goes_exit {c : VCode} {id : Nat} : goes P K (.code c :: s) (.exit id) E H = goes P K s (.exit id) E H := (rfl)
@[go_sem] theorem goes_ret {c : VCode} : goes P K (.code c :: s) .ret E H = goes P K s .ret E H := (rfl)
@[go_sem] theorem goes_blk {id : Nat} {x : X} : goes P K (.blk id :: s) x E H = goes P K s (unblock id x) E H := (rfl)
@[go_sem] theorem unblock_exit {id id' : Nat} : unblock id (.exit id') = if id' = id then .normal else .exit id' := rfl
@[go_sem] theorem unblock_ret {id : Nat} : unblock id .ret = .ret := rfl
@[go_sem] theorem unblock_normal {id : Nat} : unblock id .normal = .normal := rfl
@[go_sem] theorem run_skip : run P .skip s E H K = goes P K s .normal E H := (rfl)
@[go_sem] theorem run_label : run P .label s E H K = goes P K s .normal E H := (rfl)
@[go_sem] theorem run_exit {id : Nat} : run P (.exit id) s E H K = goes P K s (.exit id) E H := (rfl)
@[go_sem] theorem run_ret : run P .ret s E H K = goes P K s .ret E H := (rfl)
@[go_sem] theorem run_region {ops : List VOp} : run P (.region ops keep) s E H K = runOps P ops keep s E H K := (rfl)
@[go_sem] theorem run_seq {a b : VCode} : run P (.seq a b) s E H K = run P a (.code b :: s) E H K := by
  show wp P a E H _ = wp P a E H _
  congr 1
  funext x E H
  cases x <;> rfl
def condD (P : Program) (v : V) (a b : VCode) (s : List Fr) (E : En) (H : Heap) (K : KK) : Prop := condW v (run P a s E H K) (run P b s E H K)
@[go_sem] theorem run_cond {c : Opnd} {a b : VCode} : run P (.cond c a b) s E H K = condD P (valA E c) a b s E H K := (rfl)
@[go_sem] theorem run_block {id : Nat} {a : VCode} : run P (.block id a) s E H K = run P a (.blk id :: s) E H K := (rfl)
@[go_sem] theorem run_scope {a : VCode} : run P (.scope a) s E H K = run P a s E H K := (rfl)
@[go_sem] theorem run_loop {a : VCode} : run P (.loop a) s E H K = WP P (.loop a) E H (goes P K s) := (rfl)
@[go_sem] theorem valA_t {l : List (Nat × V)} {d : V} {i : Nat} : valA ⟨l, d⟩ (.t i) = getE l d i := rfl
@[go_sem] theorem valA_c {v : V} : valA E (.c v) = v := rfl
theorem iteP {c : Prop} [Decidable c] {A B : Prop} : (if c then A else B) = ((c → A) ∧ (¬c → B)) := by
  by_cases h : c <;> simp [h]
@[go_sem] theorem condD_bool {y : Bool} {a b : VCode} : condD P (.bool y) a b s E H K = if y = true then run P a s E H K else run P b s E H K := by
  unfold condD condW
  rw [iteP]
  cases y <;> simp

@[go_sem] theorem ops_nil {l : List (Nat × V)} {d : V} : runOps P [] keep s ⟨l, d⟩ H K = goes P K s .normal (keepS ⟨l, d⟩ keep) H := (rfl)
@[go_sem] theorem keepS_eq {l : List (Nat × V)} {d : V} {ks : List Nat} : keepS ⟨l, d⟩ ks = ⟨ks.map fun i => (i, getE l d i), .u⟩ := rfl
@[go_sem] theorem ops_cons {act : Act} {args : List Opnd} : runOps P (⟨dst, act, args, tk, none⟩ :: os) keep s E H K = runAct P act (argsW E tk args) tk dst os keep s E H K := by
  unfold runOps runAct; rw [opsW]; unfold stepW; simp only [wantedW]
  cases act <;> first | rfl | skip
theorem ops_guard0 {act : Act} {args : List Opnd} {g : Nat} {b : Bool} : runOps P (⟨dst, act, args, tk, some (g, b)⟩ :: os) keep s E H K =
    guardW (getE E.l E.d g) b (runAct P act (argsW E tk args) tk dst os keep s E H K) (runOps P os keep s (E.setO dst (.tup [])) H K) := by
  unfold runOps runAct; rw [opsW]; unfold stepW guardW; simp only [wantedW]
  cases getE E.l E.d g <;> cases act <;> first | rfl | skip
theorem args_congr {E2 : En} (h : E.f = E2.f) : ∀ l : List Opnd, argsW E tk l = argsW E2 tk l := by
  intro l; rw [argsW_eq, argsW_eq, h]
theorem set_congr {E2 : En} (h : E.f = E2.f) (o : Option Nat) (v : V) : (E.setO o v).f = (E2.setO o v).f := by rw [En.setO_f, En.setO_f, h]
theorem strip_congr {E2 : En} (h : E.f = E2.f) (tk : List Nat) : (stripEn tk E).f = (stripEn tk E2).f := by rw [stripEn_f, stripEn_f, h]
theorem callX_congr {E2 : En} (h : E.f = E2.f) (b : CM) (f : Nat) (args : List V) (H : Heap) (F : V → Heap → Prop) : callX P b E f args H F = callX P b E2 f args H F := by
  cases b <;> first | rfl | (unfold callX; simp only; rw [show getE E.l E.d _ = getE E2.l E2.d _ from congrFun h _])
theorem baseW_congr {E2 : En} (h : E.f = E2.f) (o : Option Nat) (vs : List V) (A : Prop) : baseW E o vs A = baseW E2 o vs A := by
  cases o with
  | none => rfl
  | some s => unfold baseW; simp only; rw [show getE E.l E.d s = getE E2.l E2.d s from congrFun h s]
theorem opsW_congr {K1 K2 : En → Heap → Prop} (hk : ∀ (E1 E2 : En) H, E1.f = E2.f → K1 E1 H = K2 E2 H) : ∀ (os : List VOp) (E1 E2 : En) (H : Heap), E1.f = E2.f → opsW P os E1 H K1 = opsW P os E2 H K2
  | [], E1, E2, H, h => hk E1 E2 H h
  | o :: os, E1, E2, H, h => by
    have ih := opsW_congr hk os
    have hg : ∀ i, getE E1.l E1.d i = getE E2.l E2.d i := fun i => congrFun h i
    show stepW P o E1 H _ = stepW P o E2 H _
    have hf : opsW P os (E1.setO o.dst (.tup [])) H K1 = opsW P os (E2.setO o.dst (.tup [])) H K2 := ih _ _ _ (set_congr h _ _)
    have hr : ∀ (r : V) (H' : Heap), opsW P os ((stripEn o.take E1).setO o.dst r) H' K1 = opsW P os ((stripEn o.take E2).setO o.dst r) H' K2 := fun r H' => ih _ _ _ (set_congr (strip_congr h _) _ _)
    unfold stepW wantedW
    simp only [hg, args_congr h, hf, hr, callX_congr h, baseW_congr h]
theorem runOps_congr {E2 : En} (h : E.f = E2.f) : runOps P os keep s E H K = runOps P os keep s E2 H K := by
  unfold runOps
  refine opsW_congr (fun E1 E2 H h => ?_) _ _ _ _ h
  have : keepS E1 keep = keepS E2 keep := by
    unfold keepS
    congr 1
    apply List.map_congr_left
    intro i _
    rw [show getE E1.l E1.d i = getE E2.l E2.d i from congrFun h i]
  rw [this]
theorem runAct_congr {a : Act} {vs : List V} {E2 : En} (h : E.f = E2.f) : runAct P a vs tk dst os keep s E H K = runAct P a vs tk dst os keep s E2 H K := by
  have hr : ∀ (r : V) (H' : Heap), runOps P os keep s ((stripEn tk E).setO dst r) H' K = runOps P os keep s ((stripEn tk E2).setO dst r) H' K := fun r H' => runOps_congr (set_congr (strip_congr h _) _ _)
  unfold runAct
  simp only [hr, callX_congr h, baseW_congr h]
def guardE (v : V) (b : Bool) (A B C : Prop) : Prop := match v with
  | .bool c => (c = b → A) ∧ (c = (!b) → B)
  | .tup _ => C
  | _ => False
theorem ops_guard1 {l : List (Nat × V)} {d : V} {act : Act} {args : List Opnd} {g : Nat} {b : Bool} : runOps P (⟨dst, act, args, tk, some (g, b)⟩ :: os) keep s ⟨l, d⟩ H K =
    guardE (getE l d g) b (runAct P act (argsW ⟨(g, .bool b) :: l, d⟩ tk args) tk dst os keep s ⟨(g, .bool b) :: l, d⟩ H K)
      (runOps P os keep s (En.setO ⟨(g, .bool !b) :: l, d⟩ dst (.tup [])) H K) (runOps P os keep s (En.setO ⟨l, d⟩ dst (.tup [])) H K) := by
  rw [ops_guard0]
  unfold guardW guardE
  cases hg : getE l d g with
  | bool c =>
    have hext : ∀ c', c = c' → (⟨(g, .bool c') :: l, d⟩ : En).f = (⟨l, d⟩ : En).f := by
      rintro c' rfl
      funext i
      show getE ((g, V.bool c) :: l) d i = getE l d i
      rw [getE_cons]
      split
      · rename_i h; subst h; exact hg.symm
      · rfl
    simp only [hg]
    have e1 : (c = b → runAct P act (argsW ⟨l, d⟩ tk args) tk dst os keep s ⟨l, d⟩ H K) = (c = b → runAct P act (argsW ⟨(g, .bool b) :: l, d⟩ tk args) tk dst os keep s ⟨(g, .bool b) :: l, d⟩ H K) := by
      apply propext
      refine forall_congr' fun h => ?_
      rw [args_congr (hext b h), runAct_congr (hext b h)]
    have e2 : (c ≠ b → runOps P os keep s (En.setO ⟨l, d⟩ dst (.tup [])) H K) = (c = (!b) → runOps P os keep s (En.setO ⟨(g, .bool !b) :: l, d⟩ dst (.tup [])) H K) := by
      have : (c ≠ b) = (c = (!b)) := by cases c <;> cases b <;> simp
      rw [this]
      apply propext
      refine forall_congr' fun h => ?_
      rw [runOps_congr (set_congr (hext _ h) _ _)]
    rw [e1, e2]
  | _ => simp only [hg]
def guardD (P : Program) (v : V) (g : Nat) (b : Bool) (act : Act) (args : List Opnd) (tk : List Nat) (dst : Option Nat) (os : List VOp) (keep : List Nat) (s : List Fr) (l : List (Nat × V)) (d : V) (H : Heap) (K : KK) : Prop :=
  guardE v b (runAct P act (argsW ⟨(g, .bool b) :: l, d⟩ tk args) tk dst os keep s ⟨(g, .bool b) :: l, d⟩ H K)
      (runOps P os keep s (En.setO ⟨(g, .bool !b) :: l, d⟩ dst (.tup [])) H K) (runOps P os keep s (En.setO ⟨l, d⟩ dst (.tup [])) H K)
@[go_sem] theorem ops_guard {l : List (Nat × V)} {d : V} {act : Act} {args : List Opnd} {g : Nat} {b : Bool} : runOps P (⟨dst, act, args, tk, some (g, b)⟩ :: os) keep s ⟨l, d⟩ H K =
    guardD P (getE l d g) g b act args tk dst os keep s l d H K := ops_guard1
@[go_sem] theorem guardD_bool {c : Bool} {l : List (Nat × V)} {d : V} {act : Act} {args : List Opnd} {g : Nat} {b : Bool} : guardD P (.bool c) g b act args tk dst os keep s l d H K =
    if c = b then runAct P act (argsW ⟨(g, .bool b) :: l, d⟩ tk args) tk dst os keep s ⟨(g, .bool b) :: l, d⟩ H K else runOps P os keep s (En.setO ⟨(g, .bool !b) :: l, d⟩ dst (.tup [])) H K := by
  rw [iteP]
  unfold guardD guardE
  cases c <;> cases b <;> simp
@[go_sem] theorem guardD_tup {w : List V} {l : List (Nat × V)} {d : V} {act : Act} {args : List Opnd} {g : Nat} {b : Bool} : guardD P (.tup w) g b act args tk dst os keep s l d H K =
    runOps P os keep s (En.setO ⟨l, d⟩ dst (.tup [])) H K := (rfl)
@[go_sem] theorem args_nil : argsW E tk [] = [] := rfl
@[go_sem] theorem args_c {v : V} {l : List Opnd} : argsW E tk (.c v :: l) = v :: argsW E tk l := rfl
@[go_sem] theorem args_t {l : List (Nat × V)} {d : V} {i : Nat} {av : List Opnd} : argsW ⟨l, d⟩ tk (.t i :: av) = (if tk.contains i then getE l d i else strip (getE l d i)) :: argsW ⟨l, d⟩ tk av := rfl
@[go_sem] theorem set_some {l : List (Nat × V)} {d : V} {i : Nat} {v : V} : En.setO ⟨l, d⟩ (some i) v = ⟨(i, v) :: l, d⟩ := rfl
@[go_sem] theorem set_none {v : V} : En.setO E none v = E := rfl
@[go_sem] theorem stripEn_nil : stripEn [] E = E := rfl
@[go_sem] theorem stripEn_cons {l : List (Nat × V)} {d : V} {i : Nat} {is : List Nat} : stripEn (i :: is) ⟨l, d⟩ = stripEn is ⟨(i, strip (getE l d i)) :: l, d⟩ := rfl
@[go_sem] theorem strip_int {k : IntKind} {n : Int} : strip (.int k n) = .int k n := rfl
@[go_sem] theorem strip_bool {b : Bool} : strip (.bool b) = .bool b := rfl
@[go_sem] theorem strip_str {b : List UInt8} : strip (.str b) = .str b := rfl
@[go_sem] theorem strip_sl {o : Bool} {z : Nat} {xs : List (List V)} : strip (.sl o z xs) = .sl false z xs := rfl
@[go_sem] theorem strip_ptr {a b c : Nat} : strip (.ptr a b c) = .ptr a b c := rfl
@[go_sem] theorem strip_cptr {cs : List V} : strip (.cptr cs) = .cptr cs := rfl
@[go_sem] theorem strip_hsl {a b c d e : Nat} : strip (.hsl a b c d e) = .hsl a b c d e := rfl
@[go_sem] theorem strip_nilh {z : Nat} : strip (.nilh z) = .nilh z := rfl
@[go_sem] theorem strip_nilp : strip .nilp = .nilp := rfl
@[go_sem] theorem strip_u : strip .u = .u := rfl
@[go_sem] theorem strip_fr {z : Nat} {xs : List (List V)} : strip (.fr z xs) = .u := rfl
@[go_sem] theorem strip_fn {f : Nat} {cs : List V} : strip (.fn f cs) = .fn f cs := rfl
@[go_sem] theorem strip_agg {cs : List V} : strip (.agg cs) = .agg (cs.map strip0) := rfl
@[go_sem] theorem strip_tup {cs : List V} : strip (.tup cs) = .tup (cs.map stripA) := rfl
@[go_sem] theorem stripA_agg {cs : List V} : stripA (.agg cs) = .agg (cs.map strip0) := rfl
@[go_sem] theorem stripA_int {k : IntKind} {n : Int} : stripA (.int k n) = .int k n := rfl
@[go_sem] theorem stripA_bool {b : Bool} : stripA (.bool b) = .bool b := rfl
@[go_sem] theorem stripA_str {b : List UInt8} : stripA (.str b) = .str b := rfl
@[go_sem] theorem stripA_sl {o : Bool} {z : Nat} {xs : List (List V)} : stripA (.sl o z xs) = .sl false z xs := rfl
@[go_sem] theorem strip0_int {k : IntKind} {n : Int} : strip0 (.int k n) = .int k n := rfl
@[go_sem] theorem strip0_bool {b : Bool} : strip0 (.bool b) = .bool b := rfl
@[go_sem] theorem strip0_str {b : List UInt8} : strip0 (.str b) = .str b := rfl
@[go_sem] theorem strip0_sl {o : Bool} {z : Nat} {xs : List (List V)} : strip0 (.sl o z xs) = .sl false z xs := rfl
@[go_sem] theorem strip0_hsl {a b c d e : Nat} : strip0 (.hsl a b c d e) = .hsl a b c d e := rfl
@[go_sem] theorem strip0_ptr {a b c : Nat} : strip0 (.ptr a b c) = .ptr a b c := rfl
@[go_sem] theorem strip0_nilh {z : Nat} : strip0 (.nilh z) = .nilh z := rfl
@[go_sem] theorem strip0_nilp : strip0 .nilp = .nilp := rfl

@[go_sem] theorem run_call {f : Nat} {caps rest : List V} : runAct P (.call .wr) (.fn f caps :: rest) tk dst os keep s E H K =
    ∃ r H', T P f (rest ++ caps) H r H' ∧ runOps P os keep s ((stripEn tk E).setO dst r) H' K := (rfl)
@[go_sem] theorem run_callR {f : Nat} {caps rest : List V} : runAct P (.call .rd) (.fn f caps :: rest) tk dst os keep s E H K =
    ∃ r, T P f (rest ++ caps) H r H ∧ runOps P os keep s ((stripEn tk E).setO dst r) H K := (rfl)
@[go_sem] theorem run_callP {f : Nat} {caps rest : List V} : runAct P (.call .al) (.fn f caps :: rest) tk dst os keep s E H K =
    ∃ r, T P f (rest ++ caps) [] r [] ∧ idsL 0 (rest ++ caps) = true ∧ runOps P os keep s ((stripEn tk E).setO dst r) H K := (rfl)
@[go_sem] theorem run_callG {f : Nat} {caps rest : List V} : runAct P (.call .gr) (.fn f caps :: rest) tk dst os keep s E H K =
    ∃ r L, T P f (rest ++ caps) H r (H ++ L) ∧ runOps P os keep s ((stripEn tk E).setO dst r) (H ++ L) K := (rfl)
/-- A call that stays below the object that a slot points to. -/
theorem run_callF {t f : Nat} {caps rest : List V} : runAct P (.call (.fr t)) (.fn f caps :: rest) tk dst os keep s E H K =
    callB P (getE E.l E.d t) f (rest ++ caps) H fun r H' => runOps P os keep s ((stripEn tk E).setO dst r) H' K := (rfl)
@[go_sem] theorem run_callF' {t f : Nat} {caps rest : List V} {l : List (Nat × V)} {d : V} : runAct P (.call (.fr t)) (.fn f caps :: rest) tk dst os keep s ⟨l, d⟩ H K =
    callB P (getE l d t) f (rest ++ caps) H fun r H' => runOps P os keep s ((stripEn tk ⟨l, d⟩).setO dst r) H' K := (rfl)
@[go_sem] theorem callB_ptr {k v o f : Nat} {args : List V} {F : V → Heap → Prop} : callB P (.ptr k v o) f args H F = ∃ r A A' L, H = A ++ L ∧ A.length = k ∧ A'.length = k ∧ T P f args A r A' ∧ idsL k args = true ∧ A.all (idsO k) = true ∧ F r (A' ++ L) := (rfl)
def runLoc (P : Program) (v : V) (a : Act) (vs : List V) (tk : List Nat) (dst : Option Nat) (os : List VOp) (keep : List Nat) (s : List Fr) (E : En) (H : Heap) (K : KK) : Prop := farOk v vs = true ∧ runAct P a vs tk dst os keep s E H K
@[go_sem] theorem runLoc_eq {v : V} {a : Act} {vs : List V} : runLoc P v a vs tk dst os keep s E H K = (farOk v vs = true ∧ runAct P a vs tk dst os keep s E H K) := (rfl)
theorem mkW_of {b : Bool} {l : List V} {K : V → Prop} {v : V} (h : mk b l = some v) (k : K v) : mkW b l K := by
  unfold mk at h
  split at h
  · cases h; exact k
  · cases h; exact ⟨_, rfl, k⟩
  · cases h
theorem cut_of {cs l : List V} {off n : Nat} (h : cut cs off n = some l) : off + n ≤ cs.length ∧ (cs.drop off).take n = l := by
  unfold cut at h
  split at h
  · rename_i hl; cases h; exact ⟨hl, rfl⟩
  · cases h
@[go_sem] theorem run_loadL {t n : Nat} {agg : Bool} {id ver off : Nat} {l : List (Nat × V)} {d : V} : runAct P (.loadL t n agg) [.ptr id ver off] tk dst os keep s ⟨l, d⟩ H K = runLoc P (getE l d t) (.load n agg) [.ptr id ver off] tk dst os keep s ⟨l, d⟩ H K := by
  unfold runLoc runAct baseW
  simp only [Act.base]
  congr 1
  apply propext
  constructor
  · rintro ⟨r, H', h, k⟩
    obtain ⟨cs, h1, h⟩ := Option.bind_eq_some_iff.1 (show (getCells H id ver).bind _ = _ from h)
    obtain ⟨c, h2, h⟩ := Option.bind_eq_some_iff.1 h
    obtain ⟨v, h3, h⟩ := Option.map_eq_some_iff.1 h
    cases h
    obtain ⟨q1, q2⟩ := cut_of h2
    exact ⟨cs, h1, q1, by rw [q2]; exact mkW_of h3 k⟩
  · intro h
    exact actW_sound (a := .load n agg) h
@[go_sem] theorem run_loadTL {t n : Nat} {agg : Bool} {id ver off : Nat} {l : List (Nat × V)} {d : V} : runAct P (.loadTL t n agg) [.ptr id ver off] tk dst os keep s ⟨l, d⟩ H K = runLoc P (getE l d t) (.loadT n agg) [.ptr id ver off] tk dst os keep s ⟨l, d⟩ H K := by
  unfold runLoc runAct baseW
  simp only [Act.base]
  congr 1
  apply propext
  constructor
  · rintro ⟨r, H', h, k⟩
    obtain ⟨cs, h1, h⟩ := Option.bind_eq_some_iff.1 (show (getCells H id ver).bind _ = _ from h)
    obtain ⟨c, h2, h⟩ := Option.bind_eq_some_iff.1 h
    obtain ⟨v, h3, h⟩ := Option.map_eq_some_iff.1 h
    cases h
    obtain ⟨q1, q2⟩ := cut_of h2
    exact ⟨cs, h1, q1, by rw [q2]; exact mkW_of h3 k⟩
  · intro h
    exact actW_sound (a := .loadT n agg) h
@[go_sem] theorem run_allocL {t : Nat} {zs : List V} {l : List (Nat × V)} {d : V} : runAct P (.allocL t zs) [] tk dst os keep s ⟨l, d⟩ H K = (farOk (getE l d t) [] = true ∧ runAct P (.alloc zs) [] tk dst os keep s ⟨l, d⟩ H K) := by
  unfold runAct baseW
  simp only [Act.base]
  congr 1
  apply propext
  constructor
  · rintro ⟨r, H', h, k⟩; cases h; exact k
  · intro k; exact ⟨_, _, rfl, k⟩
@[go_sem] theorem far_ptr {k v o id v' o' : Nat} {vs : List V} : (farOk (.ptr k v o) (.ptr id v' o' :: vs) = true) = (k ≤ id) := by simp [farOk]
@[go_sem] theorem far_nil {k v o : Nat} : (farOk (.ptr k v o) [] = true) = True := by simp [farOk]
@[go_sem] theorem run_mv {v : V} : runAct P .mv [v] tk dst os keep s E H K = runOps P os keep s ((stripEn tk E).setO dst v) H K := (rfl)
@[go_sem] theorem run_pick {c : Bool} {x y : V} : runAct P .pick [.bool c, x, y] tk dst os keep s E H K = if c = true then runOps P os keep s ((stripEn tk E).setO dst x) H K else runOps P os keep s ((stripEn tk E).setO dst y) H K := by
  rw [iteP]
  show ((c = true → _) ∧ (c = false → _)) = _
  cases c <;> simp
@[go_sem] theorem run_bin {op : BinOp} {j k : IntKind} {a b : Int} : runAct P (.bin op) [.int j a, .int k b] tk dst os keep s E H K = (j = k ∧ runInt P op j a b tk dst os keep s E H K) := (rfl)
@[go_sem] theorem run_add {k : IntKind} {a b : Int} : runInt P .add k a b tk dst os keep s E H K = ∃ z, z = k.wrap (a + b) ∧ runOps P os keep s ((stripEn tk E).setO dst (.int k z)) H K := (rfl)
@[go_sem] theorem run_sub {k : IntKind} {a b : Int} : runInt P .sub k a b tk dst os keep s E H K = ∃ z, z = k.wrap (a - b) ∧ runOps P os keep s ((stripEn tk E).setO dst (.int k z)) H K := (rfl)
@[go_sem] theorem run_mul {k : IntKind} {a b : Int} : runInt P .mul k a b tk dst os keep s E H K = ∃ z, z = k.wrap (a * b) ∧ runOps P os keep s ((stripEn tk E).setO dst (.int k z)) H K := (rfl)
@[go_sem] theorem run_quo {k : IntKind} {a b : Int} : runInt P .quo k a b tk dst os keep s E H K = (b ≠ 0 ∧ ∃ z, z = k.wrap (a.tdiv b) ∧ runOps P os keep s ((stripEn tk E).setO dst (.int k z)) H K) := (rfl)
@[go_sem] theorem run_rem {k : IntKind} {a b : Int} : runInt P .rem k a b tk dst os keep s E H K = (b ≠ 0 ∧ ∃ z, z = k.wrap (a.tmod b) ∧ z = a.tmod b ∧ runOps P os keep s ((stripEn tk E).setO dst (.int k z)) H K) := (rfl)
@[go_sem] theorem run_eql {k : IntKind} {a b : Int} : runInt P .eql k a b tk dst os keep s E H K = runOps P os keep s ((stripEn tk E).setO dst (.bool (a == b))) H K := (rfl)
@[go_sem] theorem run_neq {k : IntKind} {a b : Int} : runInt P .neq k a b tk dst os keep s E H K = runOps P os keep s ((stripEn tk E).setO dst (.bool (a != b))) H K := (rfl)
@[go_sem] theorem run_lss {k : IntKind} {a b : Int} : runInt P .lss k a b tk dst os keep s E H K = runOps P os keep s ((stripEn tk E).setO dst (.bool (decide (a < b)))) H K := (rfl)
@[go_sem] theorem run_leq {k : IntKind} {a b : Int} : runInt P .leq k a b tk dst os keep s E H K = runOps P os keep s ((stripEn tk E).setO dst (.bool (decide (a ≤ b)))) H K := (rfl)
@[go_sem] theorem run_gtr {k : IntKind} {a b : Int} : runInt P .gtr k a b tk dst os keep s E H K = runOps P os keep s ((stripEn tk E).setO dst (.bool (decide (a > b)))) H K := (rfl)
@[go_sem] theorem run_geq {k : IntKind} {a b : Int} : runInt P .geq k a b tk dst os keep s E H K = runOps P os keep s ((stripEn tk E).setO dst (.bool (decide (a ≥ b)))) H K := (rfl)
@[go_sem] theorem run_not {b : Bool} : runAct P .not [.bool b] tk dst os keep s E H K = runOps P os keep s ((stripEn tk E).setO dst (.bool !b)) H K := (rfl)
@[go_sem] theorem run_eqb {ne agg : Bool} {ks : List K3} {x y : V} : runAct P (.eqc ne agg ks) [x, y] tk dst os keep s E H K = ∃ b, eqV ks agg x y = some b ∧ runOps P os keep s ((stripEn tk E).setO dst (.bool (b != ne))) H K := (rfl)
@[go_sem] theorem eqV_b {x y : Bool} : eqV [.b] false (.bool x) (.bool y) = some ((x == y) && true) := rfl
theorem run_alloc {zs : List V} : runAct P (.alloc zs) [] tk dst os keep s E H K = runOps P os keep s ((stripEn tk E).setO dst (.ptr H.length 0 0)) (H ++ [.cells 0 zs]) K := (rfl)
theorem run_load {id ver off n : Nat} {agg : Bool} : runAct P (.load n agg) [.ptr id ver off] tk dst os keep s E H K =
    cellsW H id ver off n fun _ l => mkW agg (l.map strip0) fun v => runOps P os keep s ((stripEn tk E).setO dst v) H K := (rfl)
@[go_sem] theorem run_loadc1 {v : V} : runAct P (.load 1 false) [.cptr [v]] tk dst os keep s E H K = runOps P os keep s ((stripEn tk E).setO dst v) H K := by
  show (1 ≤ [v].length ∧ _) = _
  simp [mkW]
@[go_sem] theorem run_loadc {n : Nat} {cs : List V} : runAct P (.load n true) [.cptr cs] tk dst os keep s E H K = (n ≤ cs.length ∧ runOps P os keep s ((stripEn tk E).setO dst (.agg (cs.take n))) H K) := (rfl)
@[go_sem] theorem run_nilCheck {a b c : Nat} : runAct P .nilCheck [.ptr a b c] tk dst os keep s E H K = runOps P os keep s ((stripEn tk E).setO dst (.ptr a b c)) H K := (rfl)
@[go_sem] theorem run_fieldAddr {off a b c : Nat} : runAct P (.fieldAddr off) [.ptr a b c] tk dst os keep s E H K = runOps P os keep s ((stripEn tk E).setO dst (.ptr a b (c + off))) H K := (rfl)
@[go_sem] theorem run_fieldAddrc {off : Nat} {cs : List V} : runAct P (.fieldAddr off) [.cptr cs] tk dst os keep s E H K = runOps P os keep s ((stripEn tk E).setO dst (.cptr (cs.drop off))) H K := (rfl)
@[go_sem] theorem run_index {o : Bool} {z sz : Nat} {xs : List (List V)} {k : IntKind} {i : Int} : runAct P (.indexAddr sz) [.sl o z xs, .int k i] tk dst os keep s E H K =
    (z = sz ∧ 0 ≤ i ∧ ∃ x, xs[i.toNat]? = some x ∧ runOps P os keep s ((stripEn tk E).setO dst (.cptr x)) H K) := (rfl)
@[go_sem] theorem run_indexh {a b c ln z sz : Nat} {k : IntKind} {i : Int} : runAct P (.indexAddr sz) [.hsl a b c ln z, .int k i] tk dst os keep s E H K =
    (z = sz ∧ 0 ≤ i ∧ i < ln ∧ runOps P os keep s ((stripEn tk E).setO dst (.ptr a b (c + i.toNat * sz))) H K) := (rfl)
@[go_sem] theorem run_len {o : Bool} {z : Nat} {xs : List (List V)} : runAct P .len [.sl o z xs] tk dst os keep s E H K = runOps P os keep s ((stripEn tk E).setO dst (.int .i64 xs.length)) H K := (rfl)
@[go_sem] theorem run_lenh {a b c ln z : Nat} : runAct P .len [.hsl a b c ln z] tk dst os keep s E H K = runOps P os keep s ((stripEn tk E).setO dst (.int .i64 ln)) H K := (rfl)
@[go_sem] theorem run_lenn {z : Nat} : runAct P .len [.nilh z] tk dst os keep s E H K = runOps P os keep s ((stripEn tk E).setO dst (.int .i64 0)) H K := (rfl)
@[go_sem] theorem run_append {z z' sz bytes : Nat} {o : Bool} {xs ys : List (List V)} : runAct P (.append sz bytes) [.sl true z xs, .sl o z' ys] tk dst os keep s E H K =
    (z = sz ∧ z' = sz ∧ fits (xs.length + ys.length) bytes ∧ runOps P os keep s ((stripEn tk E).setO dst (.sl true z (xs ++ ys))) H K) := (rfl)
@[go_sem] theorem run_extract {i : Nat} {vs : List V} : runAct P (.extract i) [.tup vs] tk dst os keep s E H K = ∃ v, vs[i]? = some v ∧ runOps P os keep s ((stripEn tk E).setO dst v) H K := (rfl)
@[go_sem] theorem run_build1 {k : IntKind} {n : Int} : runAct P (.buildSl 1) [.int k n] tk dst os keep s E H K = runOps P os keep s ((stripEn tk E).setO dst (.sl true 1 [[.int k n]])) H K := by
  show (∃ r H', sBuildSl 1 [.int k n] H = some (r, H') ∧ _) = _
  simp only [sBuildSl, elems, solid, scal0, V.cells, inl, plain0, strip0, List.length_cons, List.length_nil, List.all_cons, List.all_nil, List.map_cons, List.map_nil, and_self, Bool.and_self, if_true, Option.map_some, Option.bind_some, Nat.zero_add, Option.some.injEq, Prod.mk.injEq]
  apply propext
  constructor
  · rintro ⟨r, H', ⟨rfl, rfl⟩, h⟩; exact h
  · intro h; exact ⟨_, _, ⟨rfl, rfl⟩, h⟩
end

theorem ex_map {α β : Type} {l : List α} {f : α → β} {i : Nat} {K : β → Prop} : (∃ x, (l.map f)[i]? = some x ∧ K x) = ∃ a, l[i]? = some a ∧ K (f a) := by
  simp only [List.getElem?_map, Option.map_eq_some_iff]
  apply propext
  constructor
  · rintro ⟨x, ⟨a, h1, rfl⟩, h2⟩; exact ⟨a, h1, h2⟩
  · rintro ⟨a, h1, h2⟩; exact ⟨_, ⟨a, h1, rfl⟩, h2⟩

/-- A loop, from what holds at each round's start. -/
theorem WP.loop' {P : Program} {a : VCode} {E : En} {H : Heap} {K : KK} (I : Nat → En → Heap → Prop) {n : Nat} (h : I n E H) (step : ∀ n E H, I n E H → run P a [] E H (seqW K fun E' H' => ∃ m, m < n ∧ I m E' H')) : WP P (.loop a) E H K := by
  refine WP.loop I (fun n E H hI => (wp_sound (step n E H hI)).mono ?_) h
  intro x E' H' k
  cases x with
  | normal => exact k
  | exit id => exact k
  | ret => exact k
@[go_sem] theorem seqW_normal {K : KK} {N : En → Heap → Prop} {E : En} {H : Heap} : seqW K N .normal E H = N E H := (rfl)
@[go_sem] theorem seqW_exit {K : KK} {N : En → Heap → Prop} {E : En} {H : Heap} {id : Nat} : seqW K N (.exit id) E H = K (.exit id) E H := (rfl)
@[go_sem] theorem seqW_ret {K : KK} {N : En → Heap → Prop} {E : En} {H : Heap} : seqW K N .ret E H = K .ret E H := (rfl)

/-- How a function ends: what it answers. -/
def endW (H0 : Heap) (rs : List VRes) (R : V → Prop) : KK := fun x E H => (match x with | .exit _ => False | _ => True) ∧ H = H0 ∧ ∃ r0, resV H0.length H0 E.f rs = some r0 ∧ ∃ r, fixV H0.length H0 8 r0 = some r ∧ R r
def endV (H0 : Heap) (E : En) (rs : List VRes) (R : V → Prop) : Prop := ∃ r0, resV H0.length H0 E.f rs = some r0 ∧ ∃ r, fixV H0.length H0 8 r0 = some r ∧ R r
@[go_sem] theorem endW_normal (H0 : Heap) (rs : List VRes) (R : V → Prop) (E : En) (H : Heap) : endW H0 rs R .normal E H = (H = H0 ∧ endV H0 E rs R) := by simp [endW, endV]
@[go_sem] theorem endW_ret (H0 : Heap) (rs : List VRes) (R : V → Prop) (E : En) (H : Heap) : endW H0 rs R .ret E H = (H = H0 ∧ endV H0 E rs R) := by simp [endW, endV]

theorem T.of {P : Program} (hmix : P.follows .mixedOrders = true) {f : Nat} {vf : VFunc} (hc : chkFn P f vf = true) {args : List V} {H : Heap} {r : V} (hl : Nat.ble args.length vf.n = true)
    (h : run P vf.body [] ⟨args.zipIdx.map fun p => (p.2, p.1), .tup []⟩ H (endW H vf.results fun r' => r' = r)) : T P f args H r H := by
  refine T.of_pure hmix hc (Nat.le_of_ble_eq_true hl) ((wp_sound h).mono ?_)
  rintro x E' H' ⟨h1, rfl, r0, h2, r', h3, rfl⟩
  refine ⟨?_, rfl, r0, h2, h3⟩
  intro id e; subst e; exact h1

@[go_sem] theorem endV_tmp (H0 : Heap) (l : List (Nat × V)) (d : V) (t : Nat) (R : V → Prop) : endV H0 ⟨l, d⟩ [.tmp t] R = ∃ r, fixV H0.length H0 8 (getE l d t) = some r ∧ R r := by
  simp [endV, resV, resL, res1, pack, En.f]
@[go_sem] theorem endV_two (H0 : Heap) (l : List (Nat × V)) (d : V) (t u : Nat) (R : V → Prop) : endV H0 ⟨l, d⟩ [.tmp t, .tmp u] R = ∃ r, fixV H0.length H0 8 (.tup [getE l d t, getE l d u]) = some r ∧ R r := by
  simp [endV, resV, resL, res1, pack, En.f]
@[go_sem] theorem endV_nil (H0 : Heap) (l : List (Nat × V)) (d : V) (R : V → Prop) : endV H0 ⟨l, d⟩ [] R = R (.tup []) := by
  simp [endV, resV, resL, pack, fixV]
@[go_sem] theorem fix_int (m : Nat) (H : Heap) (k : IntKind) (n : Int) : fixV m H 8 (.int k n) = some (.int k n) := rfl
@[go_sem] theorem fix_bool (m : Nat) (H : Heap) (b : Bool) : fixV m H 8 (.bool b) = some (.bool b) := rfl
@[go_sem] theorem fix_str (m : Nat) (H : Heap) (s : List UInt8) : fixV m H 8 (.str s) = some (.str s) := rfl
@[go_sem] theorem fix_sl (m : Nat) (H : Heap) (o : Bool) (z : Nat) (xs : List (List V)) : fixV m H 8 (.sl o z xs) = some (.sl o z xs) := rfl

theorem wrap64 {n : Int} (h1 : -9223372036854775808 ≤ n) (h2 : n < 9223372036854775808) : IntKind.i64.wrap n = n := by
  simp [IntKind.wrap, IntKind.bits, IntKind.signed]
  omega

attribute [go_sem] List.map_cons List.map_nil List.zipIdx_cons List.zipIdx_nil Nat.reduceAdd Nat.reduceEqDiff ite_true ite_false if_true if_false
  reduceCtorEq List.contains_nil Bool.false_eq_true true_and and_true List.contains_cons forall_const false_implies Option.some.injEq exists_eq_left' eq_self Nat.reduceBEq Bool.or_false Bool.or_true Bool.true_or Bool.false_or
  iteP decide_eq_true_eq Bool.not_eq_true decide_eq_false_iff_not ne_eq not_true_eq_false not_false_eq_true Bool.not_true Bool.not_false and_false false_and
end Go.Proofs.Ytneonbdlgmaofaa.Vm
namespace Go.Proofs.Ytneonbdlgmaofaa.Vm
open Go

section
variable {P : Program} {K : KK} {s : List Fr} {E : En} {H : Heap} {tk : List Nat} {dst : Option Nat} {os : List VOp} {keep : List Nat}

/-- Goes on with an answer. -/
def nextV (P : Program) (v : V) (tk : List Nat) (dst : Option Nat) (os : List VOp) (keep : List Nat) (s : List Fr) (E : En) (H : Heap) (K : KK) : Prop := runOps P os keep s ((stripEn tk E).setO dst v) H K
@[go_sem] theorem nextV_eq {v : V} : nextV P v tk dst os keep s E H K = runOps P os keep s ((stripEn tk E).setO dst v) H K := (rfl)

def loadO (P : Program) (x : Option V) (tk : List Nat) (dst : Option Nat) (os : List VOp) (keep : List Nat) (s : List Fr) (E : En) (H : Heap) (K : KK) : Prop := ∃ v, x = some v ∧ nextV P (strip0 v) tk dst os keep s E H K
@[go_sem] theorem loadO_some {v : V} : loadO P (some v) tk dst os keep s E H K = nextV P (strip0 v) tk dst os keep s E H K := by
  apply propext
  constructor
  · rintro ⟨v, h, k⟩; cases h; exact k
  · intro k; exact ⟨v, rfl, k⟩
@[go_sem] theorem loadO_map {α : Type} {l : List α} {f : α → V} {i : Nat} : loadO P (l.map f)[i]? tk dst os keep s E H K = ∃ a, l[i]? = some a ∧ nextV P (strip0 (f a)) tk dst os keep s E H K := ex_map
def loadG (P : Program) (x : Option (List V)) (off : Nat) (tk : List Nat) (dst : Option Nat) (os : List VOp) (keep : List Nat) (s : List Fr) (E : En) (H : Heap) (K : KK) : Prop :=
  ∃ cs, x = some cs ∧ loadO P cs[off]? tk dst os keep s E H K
@[go_sem] theorem loadG_some {cs : List V} {off : Nat} : loadG P (some cs) off tk dst os keep s E H K = loadO P cs[off]? tk dst os keep s E H K := by
  apply propext
  constructor
  · rintro ⟨v, h, k⟩; cases h; exact k
  · intro k; exact ⟨cs, rfl, k⟩
theorem cut_one {cs : List V} {off : Nat} {v : V} (h : cs[off]? = some v) : cut cs off 1 = some [v] := by
  have hl := (List.getElem?_eq_some_iff.1 h).1
  unfold cut
  rw [if_pos (by omega)]
  congr 1
  apply List.ext_getElem?
  intro i
  rw [List.getElem?_take]
  match i with
  | 0 => rw [if_pos (by omega), List.getElem?_drop, Nat.add_zero, h]; rfl
  | i + 1 => rw [if_neg (by omega)]; simp
theorem one_cut {cs : List V} {off : Nat} {l : List V} (h : cut cs off 1 = some l) : ∃ v, cs[off]? = some v ∧ l = [v] := by
  have hl : off + 1 ≤ cs.length := by
    unfold cut at h; split at h
    · assumption
    · cases h
  have h1 : cs[off]? = some cs[off] := List.getElem?_eq_getElem (by omega)
  rw [cut_one h1] at h
  cases h
  exact ⟨_, h1, rfl⟩
@[go_sem] theorem run_load1 {id ver off : Nat} : runAct P (.load 1 false) [.ptr id ver off] tk dst os keep s E H K = loadG P (getCells H id ver) off tk dst os keep s E H K := by
  apply propext
  constructor
  · rintro ⟨cs, h1, h2, v, h3, h4⟩
    have hc : cut cs off 1 = some ((cs.drop off).take 1) := by simp [cut, h2]
    obtain ⟨y, hu, he⟩ := one_cut hc
    rw [he] at h3
    cases h3
    exact ⟨cs, h1, y, hu, h4⟩
  · rintro ⟨cs, h1, y, hu, h4⟩
    have hl := (List.getElem?_eq_some_iff.1 hu).1
    have hc := cut_one hu
    unfold cut at hc
    rw [if_pos (by omega)] at hc
    have hc := Option.some.inj hc
    exact ⟨cs, h1, by omega, strip0 y, by rw [hc]; rfl, h4⟩


def loadA (P : Program) (n : Nat) (x : Option (List V)) (off : Nat) (tk : List Nat) (dst : Option Nat) (os : List VOp) (keep : List Nat) (s : List Fr) (E : En) (H : Heap) (K : KK) : Prop :=
  ∃ cs, x = some cs ∧ off + n ≤ cs.length ∧ nextV P (.agg (((cs.drop off).take n).map strip0)) tk dst os keep s E H K
@[go_sem] theorem loadA_some {n : Nat} {cs : List V} {off : Nat} : loadA P n (some cs) off tk dst os keep s E H K = (off + n ≤ cs.length ∧ nextV P (.agg (((cs.drop off).take n).map strip0)) tk dst os keep s E H K) := by
  apply propext
  constructor
  · rintro ⟨v, h, k⟩; cases h; exact k
  · intro k; exact ⟨cs, rfl, k⟩
@[go_sem] theorem run_loadA {id ver off n : Nat} : runAct P (.load n true) [.ptr id ver off] tk dst os keep s E H K = loadA P n (getCells H id ver) off tk dst os keep s E H K := (rfl)
@[go_sem] theorem run_alloc' {zs : List V} : runAct P (.alloc zs) [] tk dst os keep s E H K = nextV P (.ptr H.length 0 0) tk dst os keep s E (H ++ [.cells 0 zs]) K := (rfl)

/-- A load that takes what it finds along. -/
def loadT1 (P : Program) (x : Option V) (cs : List V) (id ver off : Nat) (tk : List Nat) (dst : Option Nat) (os : List VOp) (keep : List Nat) (s : List Fr) (E : En) (H : Heap) (K : KK) : Prop :=
  ∃ v, x = some v ∧ nextV P v tk dst os keep s E (H.set id (.cells ver (cs.set off (strip0 v)))) K
@[go_sem] theorem loadT1_some {v : V} {cs : List V} {id ver off : Nat} : loadT1 P (some v) cs id ver off tk dst os keep s E H K = nextV P v tk dst os keep s E (H.set id (.cells ver (cs.set off (strip0 v)))) K := by
  apply propext
  constructor
  · rintro ⟨v, h, k⟩; cases h; exact k
  · intro k; exact ⟨v, rfl, k⟩
@[go_sem] theorem loadT1_map {α : Type} {l : List α} {f : α → V} {i : Nat} {cs : List V} {id ver off : Nat} : loadT1 P (l.map f)[i]? cs id ver off tk dst os keep s E H K = ∃ a, l[i]? = some a ∧ nextV P (f a) tk dst os keep s E (H.set id (.cells ver (cs.set off (strip0 (f a))))) K := ex_map
def loadTG (P : Program) (x : Option (List V)) (id ver off : Nat) (tk : List Nat) (dst : Option Nat) (os : List VOp) (keep : List Nat) (s : List Fr) (E : En) (H : Heap) (K : KK) : Prop :=
  ∃ cs, x = some cs ∧ loadT1 P cs[off]? cs id ver off tk dst os keep s E H K
@[go_sem] theorem loadTG_some {cs : List V} {id ver off : Nat} : loadTG P (some cs) id ver off tk dst os keep s E H K = loadT1 P cs[off]? cs id ver off tk dst os keep s E H K := by
  apply propext
  constructor
  · rintro ⟨v, h, k⟩; cases h; exact k
  · intro k; exact ⟨cs, rfl, k⟩
theorem put_one {cs : List V} {off : Nat} {v : V} (h : off < cs.length) : put cs off [v] = cs.set off v := by
  unfold put
  rw [List.set_eq_take_append_cons_drop, if_pos h]
  simp
@[go_sem] theorem run_loadT1 {id ver off : Nat} : runAct P (.loadT 1 false) [.ptr id ver off] tk dst os keep s E H K = loadTG P (getCells H id ver) id ver off tk dst os keep s E H K := by
  apply propext
  constructor
  · rintro ⟨cs, h1, h2, v, h3, h4⟩
    have hc : cut cs off 1 = some ((cs.drop off).take 1) := by simp [cut, h2]
    obtain ⟨x, hx, he⟩ := one_cut hc
    have hl := (List.getElem?_eq_some_iff.1 hx).1
    rw [he] at h3 h4
    cases h3
    simp only [List.map_cons, List.map_nil] at h4
    rw [put_one hl] at h4
    exact ⟨cs, h1, _, hx, h4⟩
  · rintro ⟨cs, h1, x, hx, h4⟩
    have hl := (List.getElem?_eq_some_iff.1 hx).1
    have hc := cut_one hx
    unfold cut at hc
    rw [if_pos (by omega)] at hc
    have hc := Option.some.inj hc
    refine ⟨cs, h1, by omega, x, hc, ?_⟩
    rw [hc]
    simp only [List.map_cons, List.map_nil]
    rw [put_one hl]
    exact h4

/-- A store. -/
def storeG (P : Program) (x : Option (List V)) (id ver off : Nat) (v : V) (tk : List Nat) (dst : Option Nat) (os : List VOp) (keep : List Nat) (s : List Fr) (E : En) (H : Heap) (K : KK) : Prop :=
  ∃ cs, x = some cs ∧ off < cs.length ∧ nextV P (.tup []) tk dst os keep s E (H.set id (.cells ver (cs.set off v))) K
@[go_sem] theorem storeG_some {cs : List V} {id ver off : Nat} {v : V} : storeG P (some cs) id ver off v tk dst os keep s E H K = (off < cs.length ∧ nextV P (.tup []) tk dst os keep s E (H.set id (.cells ver (cs.set off v))) K) := by
  apply propext
  constructor
  · rintro ⟨v, h, k⟩; cases h; exact k
  · intro k; exact ⟨cs, rfl, k⟩
theorem store_plain {id ver off : Nat} {v : V} (hs : scal0 v = true) (hf : ∀ z xs, v ≠ .fr z xs) : runAct P (.store 1) [.ptr id ver off, v] tk dst os keep s E H K = storeG P (getCells H id ver) id ver off v tk dst os keep s E H K := by
  have hcells : v.cells = [v] := by cases v <;> first | rfl | cases hs
  have hth : thawL [v] H = ([v], H) := by cases v <;> first | rfl | exact absurd rfl (hf _ _)
  have hsol : solid v = true := by cases v <;> first | rfl | cases hs
  have e : sStore 1 [.ptr id ver off, v] H = (getCells H id ver).bind fun cs => if off + 1 ≤ cs.length then some (.tup [], H.set id (.cells ver (put cs off [v]))) else none := by
    simp [sStore, hcells, hth, hsol, hs]
  show (∃ r H', sStore 1 [.ptr id ver off, v] H = some (r, H') ∧ _) = _
  rw [e]
  apply propext
  constructor
  · rintro ⟨r, H', h, k⟩
    obtain ⟨cs, h1, h⟩ := Option.bind_eq_some_iff.1 h
    split at h
    · rename_i hl
      cases h
      rw [put_one (by omega)] at k
      exact ⟨cs, h1, by omega, k⟩
    · cases h
  · rintro ⟨cs, h1, hl, k⟩
    refine ⟨.tup [], _, ?_, k⟩
    rw [h1, Option.bind_some, if_pos (by omega), put_one hl]
@[go_sem] theorem store_int {id ver off : Nat} {k : IntKind} {n : Int} : runAct P (.store 1) [.ptr id ver off, .int k n] tk dst os keep s E H K = storeG P (getCells H id ver) id ver off (.int k n) tk dst os keep s E H K := store_plain rfl (by simp)
@[go_sem] theorem store_bool {id ver off : Nat} {b : Bool} : runAct P (.store 1) [.ptr id ver off, .bool b] tk dst os keep s E H K = storeG P (getCells H id ver) id ver off (.bool b) tk dst os keep s E H K := store_plain rfl (by simp)
@[go_sem] theorem store_str {id ver off : Nat} {b : List UInt8} : runAct P (.store 1) [.ptr id ver off, .str b] tk dst os keep s E H K = storeG P (getCells H id ver) id ver off (.str b) tk dst os keep s E H K := store_plain rfl (by simp)
@[go_sem] theorem store_sl {id ver off : Nat} {o : Bool} {z : Nat} {xs : List (List V)} : runAct P (.store 1) [.ptr id ver off, .sl o z xs] tk dst os keep s E H K = storeG P (getCells H id ver) id ver off (.sl o z xs) tk dst os keep s E H K := store_plain rfl (by simp)
@[go_sem] theorem store_hsl {id ver off a b c d e : Nat} : runAct P (.store 1) [.ptr id ver off, .hsl a b c d e] tk dst os keep s E H K = storeG P (getCells H id ver) id ver off (.hsl a b c d e) tk dst os keep s E H K := store_plain rfl (by simp)
@[go_sem] theorem store_ptr {id ver off a b c : Nat} : runAct P (.store 1) [.ptr id ver off, .ptr a b c] tk dst os keep s E H K = storeG P (getCells H id ver) id ver off (.ptr a b c) tk dst os keep s E H K := store_plain rfl (by simp)
@[go_sem] theorem store_nilp {id ver off : Nat} : runAct P (.store 1) [.ptr id ver off, .nilp] tk dst os keep s E H K = storeG P (getCells H id ver) id ver off .nilp tk dst os keep s E H K := store_plain rfl (by simp)
@[go_sem] theorem store_nilh {id ver off z : Nat} : runAct P (.store 1) [.ptr id ver off, .nilh z] tk dst os keep s E H K = storeG P (getCells H id ver) id ver off (.nilh z) tk dst os keep s E H K := store_plain rfl (by simp)

@[go_sem] theorem thaw_fr {z : Nat} {xs : List (List V)} : runAct P .thaw [.fr z xs] tk dst os keep s E H K = nextV P (.hsl H.length 0 0 xs.length z) tk dst os keep s E (H ++ [.cells 0 xs.flatten]) K := by
  show (∃ r H', sThaw [.fr z xs] H = some (r, H') ∧ _) = _
  apply propext
  constructor
  · rintro ⟨r, H', h, k⟩; cases h; exact k
  · intro k; exact ⟨_, _, rfl, k⟩
@[go_sem] theorem thaw_hsl {a b c d e : Nat} : runAct P .thaw [.hsl a b c d e] tk dst os keep s E H K = nextV P (.hsl a b c d e) tk dst os keep s E H K := by
  show (∃ r H', sThaw [.hsl a b c d e] H = some (r, H') ∧ _) = _
  apply propext
  constructor
  · rintro ⟨r, H', h, k⟩; cases h; exact k
  · intro k; exact ⟨_, _, rfl, k⟩
@[go_sem] theorem thaw_sl {o : Bool} {z : Nat} {xs : List (List V)} : runAct P .thaw [.sl o z xs] tk dst os keep s E H K = nextV P (.sl o z xs) tk dst os keep s E H K := by
  show (∃ r H', sThaw [.sl o z xs] H = some (r, H') ∧ _) = _
  apply propext
  constructor
  · rintro ⟨r, H', h, k⟩; cases h; exact k
  · intro k; exact ⟨_, _, rfl, k⟩
theorem ite_next {c : Prop} [Decidable c] {v : V} {H1 : Heap} {F : V → Heap → Prop} : (∃ r H', (if c then some (v, H1) else none) = some (r, H') ∧ F r H') = (c ∧ F v H1) := by
  apply propext
  constructor
  · rintro ⟨r, H', h, k⟩
    split at h
    · rename_i hc; cases h; exact ⟨hc, k⟩
    · cases h
  · rintro ⟨hc, k⟩; exact ⟨_, _, by rw [if_pos hc], k⟩
@[go_sem] theorem run_makeH {sz bytes : Nat} {zs : List V} {j k : IntKind} {n c : Int} : runAct P (.makeH sz bytes zs) [.int j n, .int k c] tk dst os keep s E H K =
    ((n = c ∧ 0 ≤ n ∧ bytes * n ≤ 281474976710656 ∧ n ≤ 9223372036854775807) ∧ nextV P (.hsl H.length 0 0 n.toNat sz) tk dst os keep s E (H ++ [.cells 0 (List.replicate n.toNat zs).flatten]) K) := ite_next
@[go_sem] theorem run_makeSl {sz bytes : Nat} {zs : List V} {j k : IntKind} {n c : Int} : runAct P (.makeSl sz bytes zs) [.int j n, .int k c] tk dst os keep s E H K =
    ((n = c ∧ 0 ≤ n ∧ bytes * n ≤ 281474976710656 ∧ n ≤ 9223372036854775807) ∧ nextV P (.fr sz (List.replicate n.toNat zs)) tk dst os keep s E H K) := ite_next
@[go_sem] theorem run_buildFr1 {k : IntKind} {n : Int} : runAct P (.buildFr 1) [.int k n] tk dst os keep s E H K = nextV P (.fr 1 [[.int k n]]) tk dst os keep s E H K := by
  show (∃ r H', sBuildFr 1 [.int k n] H = some (r, H') ∧ _) = _
  have : sBuildFr 1 [.int k n] H = some (.fr 1 [[.int k n]], H) := by simp [sBuildFr, elems, solid, scal0, V.cells, inl, plain0, strip0]
  rw [this]
  apply propext
  constructor
  · rintro ⟨r, H', h, k⟩; cases h; exact k
  · intro k; exact ⟨_, _, rfl, k⟩

def appG (P : Program) (x : Option (List V)) (id ver ln sz : Nat) (ys : List (List V)) (tk : List Nat) (dst : Option Nat) (os : List VOp) (keep : List Nat) (s : List Fr) (E : En) (H : Heap) (K : KK) : Prop :=
  ∃ cs, x = some cs ∧ ln * sz ≤ cs.length ∧ nextV P (.hsl id (ver + 1) 0 (ln + ys.length) sz) tk dst os keep s E (H.set id (.cells (ver + 1) (cs.take (ln * sz) ++ ys.flatten))) K
@[go_sem] theorem appG_some {cs : List V} {id ver ln sz : Nat} {ys : List (List V)} : appG P (some cs) id ver ln sz ys tk dst os keep s E H K =
    (ln * sz ≤ cs.length ∧ nextV P (.hsl id (ver + 1) 0 (ln + ys.length) sz) tk dst os keep s E (H.set id (.cells (ver + 1) (cs.take (ln * sz) ++ ys.flatten))) K) := by
  apply propext
  constructor
  · rintro ⟨v, h, k⟩; cases h; exact k
  · intro k; exact ⟨cs, rfl, k⟩
@[go_sem] theorem run_appendH {id ver ln z z' sz bytes : Nat} {o : Bool} {ys : List (List V)} : runAct P (.appendH sz bytes) [.hsl id ver 0 ln z, .sl o z' ys] tk dst os keep s E H K =
    (z = sz ∧ z' = sz ∧ fits (ln + ys.length) bytes ∧ appG P (getCells H id ver) id ver ln sz ys tk dst os keep s E H K) := by
  have e : sAppendH sz bytes [.hsl id ver 0 ln z, .sl o z' ys] H = if z = sz ∧ z' = sz ∧ fits (ln + ys.length) bytes then (getCells H id ver).bind fun cs => if ln * sz ≤ cs.length then
      some (.hsl id (ver + 1) 0 (ln + ys.length) sz, H.set id (.cells (ver + 1) (cs.take (ln * sz) ++ ys.flatten))) else none else none := by
    simp only [sAppendH, true_and]
    split
    · congr 1
      funext cs
      simp only [cut, Nat.zero_add, List.drop_zero]
      split <;> rfl
    · rfl
  show (∃ r H', sAppendH sz bytes [.hsl id ver 0 ln z, .sl o z' ys] H = some (r, H') ∧ _) = _
  rw [e]
  apply propext
  constructor
  · rintro ⟨r, H', h, k⟩
    split at h
    · rename_i hc
      obtain ⟨cs, h1, h⟩ := Option.bind_eq_some_iff.1 h
      split at h
      · rename_i hl
        cases h
        exact ⟨hc.1, hc.2.1, hc.2.2, cs, h1, hl, k⟩
      · cases h
    · cases h
  · rintro ⟨h1, h2, h3, cs, h4, h5, k⟩
    refine ⟨_, _, ?_, k⟩
    rw [if_pos ⟨h1, h2, h3⟩, h4, Option.bind_some, if_pos h5]
@[go_sem] theorem run_appendN {z z' sz bytes : Nat} {o : Bool} {ys : List (List V)} : runAct P (.appendH sz bytes) [.nilh z, .sl o z' ys] tk dst os keep s E H K =
    ((z = sz ∧ z' = sz ∧ 0 < ys.length ∧ fits ys.length bytes) ∧ nextV P (.fr sz ys) tk dst os keep s E H K) := ite_next
@[go_sem] theorem slice_ft {o : Bool} {z sz : Nat} {xs : List (List V)} {k : IntKind} {x : Int} : runAct P (.slice false true sz) [.sl o z xs, .int k x] tk dst os keep s E H K =
    (z = sz ∧ 0 ≤ x ∧ x ≤ xs.length ∧ nextV P (.sl false z ((xs.take x.toNat).drop 0)) tk dst os keep s E H K) := (rfl)
@[go_sem] theorem slice_tf {o : Bool} {z sz : Nat} {xs : List (List V)} {k : IntKind} {x : Int} : runAct P (.slice true false sz) [.sl o z xs, .int k x] tk dst os keep s E H K =
    (z = sz ∧ 0 ≤ x ∧ x ≤ xs.length ∧ nextV P (.sl false z ((xs.take xs.length).drop x.toNat)) tk dst os keep s E H K) := (rfl)
@[go_sem] theorem slice_tt {o : Bool} {z sz : Nat} {xs : List (List V)} {j k : IntKind} {l h : Int} : runAct P (.slice true true sz) [.sl o z xs, .int j l, .int k h] tk dst os keep s E H K =
    (z = sz ∧ 0 ≤ l ∧ l ≤ h ∧ h ≤ xs.length ∧ nextV P (.sl false z ((xs.take h.toNat).drop l.toNat)) tk dst os keep s E H K) := (rfl)
@[go_sem] theorem sliceh_ft {id ver off ln z sz : Nat} {k : IntKind} {x : Int} : runAct P (.slice false true sz) [.hsl id ver off ln z, .int k x] tk dst os keep s E H K =
    ((z = sz ∧ 0 ≤ x ∧ x ≤ ln) ∧ nextV P (.hsl id ver off x.toNat z) tk dst os keep s E H K) := by
  have e : sSlice false true sz [.hsl id ver off ln z, .int k x] H = if z = sz ∧ 0 ≤ x ∧ x ≤ ln then some (.hsl id ver off x.toNat z, H) else none := by
    simp only [sSlice, bounds]
    by_cases h1 : z = sz
    · by_cases h2 : 0 ≤ x ∧ x ≤ ln
      · simp [h1, h2]
        omega
      · simp [h1, h2]
    · simp [h1]
  show (∃ r H', sSlice false true sz [.hsl id ver off ln z, .int k x] H = some (r, H') ∧ _) = _
  rw [e]
  exact ite_next
end
end Go.Proofs.Ytneonbdlgmaofaa.Vm
namespace Go.Proofs.Ytneonbdlgmaofaa.Vm
open Go

@[go_sem] theorem fixd_int (m : Nat) (H : Heap) (d : Nat) (k : IntKind) (n : Int) : fixV m H (d + 1) (.int k n) = some (.int k n) := rfl
@[go_sem] theorem fixd_bool (m : Nat) (H : Heap) (d : Nat) (b : Bool) : fixV m H (d + 1) (.bool b) = some (.bool b) := rfl
@[go_sem] theorem fixd_str (m : Nat) (H : Heap) (d : Nat) (s : List UInt8) : fixV m H (d + 1) (.str s) = some (.str s) := rfl
@[go_sem] theorem fixd_sl (m : Nat) (H : Heap) (d : Nat) (o : Bool) (z : Nat) (xs : List (List V)) : fixV m H (d + 1) (.sl o z xs) = some (.sl o z xs) := rfl
@[go_sem] theorem fixd_tup0 (m : Nat) (H : Heap) (d : Nat) : fixV m H (d + 1) (.tup []) = some (.tup []) := by simp [fixV]
theorem fixd_tup2 (m : Nat) (H : Heap) (d : Nat) (a b : V) : fixV m H (d + 1) (.tup [a, b]) = (fixV m H d a).bind fun a' => (fixV m H d b).map fun b' => .tup [a', b'] := by
  simp only [fixV, List.mapM_cons, List.mapM_nil]
  cases fixV m H d a <;> simp
  cases fixV m H d b <;> simp

/-- How a function that began in an empty heap ends. -/
def end0 (rs : List VRes) (R : V → Prop) : KK := fun x E H => (match x with | .exit _ => False | _ => True) ∧ ∃ r0, resV 0 H E.f rs = some r0 ∧ ∃ r, fixV 0 H 8 r0 = some r ∧ R r
def fin0 (H : Heap) (v : V) (R : V → Prop) : Prop := ∃ r, fixV 0 H 8 v = some r ∧ R r
section
variable {R : V → Prop} {l : List (Nat × V)} {d : V} {H : Heap} {t u : Nat}
@[go_sem] theorem end0_tmp : end0 [.tmp t] R .ret ⟨l, d⟩ H = fin0 H (getE l d t) R := by simp [end0, fin0, resV, resL, res1, pack, En.f]
@[go_sem] theorem end0_tmpN : end0 [.tmp t] R .normal ⟨l, d⟩ H = fin0 H (getE l d t) R := by simp [end0, fin0, resV, resL, res1, pack, En.f]
@[go_sem] theorem end0_two : end0 [.tmp t, .tmp u] R .ret ⟨l, d⟩ H = fin0 H (.tup [getE l d t, getE l d u]) R := by simp [end0, fin0, resV, resL, res1, pack, En.f]
@[go_sem] theorem end0_twoN : end0 [.tmp t, .tmp u] R .normal ⟨l, d⟩ H = fin0 H (.tup [getE l d t, getE l d u]) R := by simp [end0, fin0, resV, resL, res1, pack, En.f]
@[go_sem] theorem fin0_int {k : IntKind} {n : Int} : fin0 H (.int k n) R = R (.int k n) := by simp [fin0, fixV]
@[go_sem] theorem fin0_bool {b : Bool} : fin0 H (.bool b) R = R (.bool b) := by simp [fin0, fixV]
@[go_sem] theorem fin0_sl {o : Bool} {z : Nat} {xs : List (List V)} : fin0 H (.sl o z xs) R = R (.sl o z xs) := by simp [fin0, fixV]
@[go_sem] theorem fin0_slint {o : Bool} {z : Nat} {xs : List (List V)} {k : IntKind} {n : Int} : fin0 H (.tup [.sl o z xs, .int k n]) R = R (.tup [.sl o z xs, .int k n]) := by
  simp [fin0, fixd_tup2, fixd_sl, fixd_int]
end

theorem T.of0 {P : Program} (hmix : P.follows .mixedOrders = true) {f : Nat} {vf : VFunc} (hc : chkFn P f vf = true) {args : List V} {r : V} (hl : Nat.ble args.length vf.n = true)
    (h : run P vf.body [] ⟨args.zipIdx.map fun p => (p.2, p.1), .tup []⟩ [] (end0 vf.results fun r' => r' = r)) : T P f args [] r [] := by
  refine T.of_wp hmix hc (Nat.le_of_ble_eq_true hl) ((wp_sound h).mono ?_)
  rintro x E' H' ⟨h1, r0, h2, r', h3, rfl⟩
  refine ⟨?_, Nat.zero_le _, fun i ob hi _ => absurd hi (Nat.not_lt_zero i), r0, h2, h3⟩
  intro id e; subst e; exact h1

attribute [go_sem] List.nil_append List.cons_append List.length_cons List.length_nil List.length_append List.getElem?_cons_zero List.getElem?_cons_succ List.set_cons_zero List.set_cons_succ List.append_nil Nat.zero_add Nat.add_zero List.length_map List.length_replicate
end Go.Proofs.Ytneonbdlgmaofaa.Vm
namespace Go.Proofs.Ytneonbdlgmaofaa.Vm
open Go

/-- How a function ends that may change the heap: up to m all is kept. -/
def endX (m : Nat) (H0 : Heap) (rs : List VRes) (R : V → Heap → Prop) : KK := fun x E H => (match x with | .exit _ => False | _ => True) ∧
  H0.length ≤ m ∧ m ≤ H.length ∧ (∀ (i : Nat) (ob : Obj), i < m → H[i]? = some ob → H0[i]? = some ob ∨ idsO m ob = true) ∧ ∃ r0, resV m H E.f rs = some r0 ∧ ∃ r, fixV m H 8 r0 = some r ∧ R r (H.take m)
theorem T.of_ex {P : Program} (hmix : P.follows .mixedOrders = true) {f : Nat} {vf : VFunc} (hc : chkFn P f vf = true) {args : List V} {H : Heap} {R : V → Heap → Prop} (m : Nat) (hl : Nat.ble args.length vf.n = true)
    (h : run P vf.body [] ⟨args.zipIdx.map fun p => (p.2, p.1), .tup []⟩ H (endX m H vf.results R)) : ∃ r H', T P f args H r H' ∧ R r H' := by
  obtain ⟨x, E1, H1, h1, h2, h3, h4, h5, r0, h6, r, h7, h8⟩ := wp_sound h
  rw [env0_eq] at h1
  refine ⟨r, H1.take m, T_of hmix hc (Nat.le_of_ble_eq_true hl) h1 ?_ h3 h4 h6 h7 h5, h8⟩
  intro id e; subst e; exact h2
theorem T.of_h {P : Program} (hmix : P.follows .mixedOrders = true) {f : Nat} {vf : VFunc} (hc : chkFn P f vf = true) {args : List V} {H H' : Heap} {r : V} (m : Nat) (hl : Nat.ble args.length vf.n = true)
    (h : run P vf.body [] ⟨args.zipIdx.map fun p => (p.2, p.1), .tup []⟩ H (endX m H vf.results fun r1 H1 => r1 = r ∧ H1 = H')) : T P f args H r H' := by
  obtain ⟨r, H', h1, rfl, rfl⟩ := T.of_ex hmix hc m hl h
  exact h1
/-- At the end all objects that stay name only such. -/
def allIds (m : Nat) (H : Heap) : Bool := H.all (idsO m)
theorem endX_of {m : Nat} {H0 : Heap} {rs : List VRes} {R : V → Heap → Prop} {x : X} {E : En} {H : Heap} (hx : (match x with | .exit _ => False | _ => True)) (h1 : H0.length ≤ m) (h2 : m ≤ H.length) (h3 : allIds m (H.take m) = true)
    {r0 r : V} (h4 : resV m H E.f rs = some r0) (h5 : fixV m H 8 r0 = some r) (h6 : R r (H.take m)) : endX m H0 rs R x E H := by
  refine ⟨hx, h1, h2, fun i ob hi hob => .inr ?_, r0, h4, r, h5, h6⟩
  refine List.all_eq_true.1 h3 ob ?_
  exact List.mem_of_getElem? (by rw [List.getElem?_take, if_pos hi]; exact hob)
theorem idsL_all {m : Nat} : ∀ {l : List V}, idsL m l = l.all (idsV m)
  | [] => rfl
  | v :: l => by rw [idsL, List.all_cons, idsL_all]

def plainC : V → Bool
  | .fr _ _ => false
  | v => scal0 v
section
variable {P : Program} {K : KK} {s : List Fr} {E : En} {H : Heap} {tk : List Nat} {dst : Option Nat} {os : List VOp} {keep : List Nat}
@[go_sem] theorem plainC_int {k : IntKind} {n : Int} : plainC (.int k n) = true := (rfl)
@[go_sem] theorem plainC_bool {b : Bool} : plainC (.bool b) = true := (rfl)
@[go_sem] theorem plainC_str {b : List UInt8} : plainC (.str b) = true := (rfl)
@[go_sem] theorem plainC_sl {o : Bool} {z : Nat} {xs : List (List V)} : plainC (.sl o z xs) = true := (rfl)
@[go_sem] theorem plainC_hsl {a b c d e : Nat} : plainC (.hsl a b c d e) = true := (rfl)
@[go_sem] theorem plainC_ptr {a b c : Nat} : plainC (.ptr a b c) = true := (rfl)
@[go_sem] theorem plainC_nilh {a : Nat} : plainC (.nilh a) = true := (rfl)
@[go_sem] theorem plainC_nilp : plainC .nilp = true := (rfl)
@[go_sem] theorem scal0_int {k : IntKind} {n : Int} : scal0 (.int k n) = true := (rfl)
@[go_sem] theorem scal0_bool {b : Bool} : scal0 (.bool b) = true := (rfl)
@[go_sem] theorem scal0_str {b : List UInt8} : scal0 (.str b) = true := (rfl)
@[go_sem] theorem scal0_sl {o : Bool} {z : Nat} {xs : List (List V)} : scal0 (.sl o z xs) = true := (rfl)
@[go_sem] theorem scal0_hsl {a b c d e : Nat} : scal0 (.hsl a b c d e) = true := (rfl)
@[go_sem] theorem scal0_fr {z : Nat} {xs : List (List V)} : scal0 (.fr z xs) = true := (rfl)
@[go_sem] theorem scal0_ptr {a b c : Nat} : scal0 (.ptr a b c) = true := (rfl)
@[go_sem] theorem scal0_nilh {a : Nat} : scal0 (.nilh a) = true := (rfl)
@[go_sem] theorem scal0_nilp : scal0 .nilp = true := (rfl)

@[go_sem] theorem fillV_nil {zs : List V} : fillV zs [] [] = some zs := rfl
@[go_sem] theorem fillV_one {zs vs : List V} {off : Nat} {ps : List (Nat × Nat)} {v : V} (h : scal0 v = true) : fillV zs ((off, 1) :: ps) (v :: vs) = if off < zs.length then fillV (zs.set off v) ps vs else none := by
  have hcells : v.cells = [v] := by cases v <;> first | rfl | cases h
  have hsol : solid v = true := by cases v <;> first | rfl | cases h
  rw [fillV, hcells]
  by_cases hl : off < zs.length
  · rw [if_pos ⟨hsol, rfl, by omega⟩, if_pos hl, put_one hl]
  · rw [if_neg (fun hh => hl (by have := hh.2.2; omega)), if_neg hl]
def exO (x : Option (List V)) (F : List V → Prop) : Prop := ∃ cs, x = some cs ∧ F cs
@[go_sem] theorem exO_some {cs : List V} {F : List V → Prop} : exO (some cs) F = F cs := by
  apply propext
  constructor
  · rintro ⟨_, h, k⟩; cases h; exact k
  · intro k; exact ⟨_, rfl, k⟩
@[go_sem] theorem run_build {zs : List V} {ps : List (Nat × Nat)} {vs : List V} : runAct P (.build zs ps) vs tk dst os keep s E H K = exO (fillV zs ps vs) fun cs => nextV P (.agg cs) tk dst os keep s E H K := by
  show (∃ r H', sBuild zs ps vs H = some (r, H') ∧ _) = _
  apply propext
  constructor
  · rintro ⟨r, H', h, k⟩
    obtain ⟨cs, h1, h2⟩ := Option.map_eq_some_iff.1 h
    cases h2; exact ⟨cs, h1, k⟩
  · rintro ⟨cs, h1, k⟩
    exact ⟨_, _, by unfold sBuild; rw [h1]; rfl, k⟩

@[go_sem] theorem thawL_nil : thawL [] H = ([], H) := rfl
@[go_sem] theorem thawL_fr {z : Nat} {xs : List (List V)} {vs : List V} : thawL (.fr z xs :: vs) H = (.hsl H.length 0 0 xs.length z :: (thawL vs (H ++ [.cells 0 xs.flatten])).1, (thawL vs (H ++ [.cells 0 xs.flatten])).2) := rfl
@[go_sem] theorem thawL_plain {v : V} {vs : List V} (h : plainC v = true) : thawL (v :: vs) H = (v :: (thawL vs H).1, (thawL vs H).2) := by
  cases v <;> first | rfl | cases h
theorem thawL_all {vs : List V} : vs.all plainC = true → thawL vs H = (vs, H) := by
  induction vs with
  | nil => intro _; rfl
  | cons v vs ih =>
    intro h
    rw [List.all_cons, Bool.and_eq_true] at h
    rw [thawL_plain h.1, ih h.2]
@[go_sem] theorem run_box {cs : List V} : runAct P .box [.agg cs] tk dst os keep s E H K = nextV P (.ptr (thawL cs H).2.length 0 0) tk dst os keep s E ((thawL cs H).2 ++ [.cells 0 (thawL cs H).1]) K := by
  show (∃ r H', sBox [.agg cs] H = some (r, H') ∧ _) = _
  have e : sBox [.agg cs] H = some (.ptr (thawL cs H).2.length 0 0, (thawL cs H).2 ++ [.cells 0 (thawL cs H).1]) := by simp [sBox, solid, V.cells]
  rw [e]
  apply propext
  constructor
  · rintro ⟨r, H', h, k⟩; cases h; exact k
  · intro k; exact ⟨_, _, rfl, k⟩

/-- A struct is written. -/
def storeA (P : Program) (x : Option (List V)) (id ver off : Nat) (cs : List V) (tk : List Nat) (dst : Option Nat) (os : List VOp) (keep : List Nat) (s : List Fr) (E : En) (H : Heap) (K : KK) : Prop :=
  exO x fun c => off + cs.length ≤ c.length ∧ nextV P (.tup []) tk dst os keep s E (H.set id (.cells ver (put c off cs))) K
@[go_sem] theorem storeA_some {c cs : List V} {id ver off : Nat} : storeA P (some c) id ver off cs tk dst os keep s E H K = (off + cs.length ≤ c.length ∧ nextV P (.tup []) tk dst os keep s E (H.set id (.cells ver (put c off cs))) K) := exO_some
@[go_sem] theorem store_agg {id ver off n : Nat} {cs : List V} (h : cs.all plainC = true) (hn : n = cs.length) : runAct P (.store n) [.ptr id ver off, .agg cs] tk dst os keep s E H K = storeA P (getCells H id ver) id ver off cs tk dst os keep s E H K := by
  subst hn
  have hsc : cs.all scal0 = true := by
    rw [List.all_eq_true] at h ⊢
    intro v hv
    have := h v hv
    cases v <;> first | rfl | cases this
  have e : sStore cs.length [.ptr id ver off, .agg cs] H = (getCells H id ver).bind fun c => if off + cs.length ≤ c.length then some (.tup [], H.set id (.cells ver (put c off cs))) else none := by
    simp only [sStore, solid, V.cells, thawL_all h, hsc, true_and]
  show (∃ r H', sStore cs.length [.ptr id ver off, .agg cs] H = some (r, H') ∧ _) = _
  rw [e]
  apply propext
  constructor
  · rintro ⟨r, H', h, k⟩
    obtain ⟨c, h1, h⟩ := Option.bind_eq_some_iff.1 h
    split at h
    · rename_i hl
      cases h
      exact ⟨c, h1, hl, k⟩
    · cases h
  · rintro ⟨c, h1, hl, k⟩
    refine ⟨.tup [], _, ?_, k⟩
    rw [h1, Option.bind_some, if_pos hl]
theorem store_fr {id ver off z : Nat} {xs : List (List V)} : runAct P (.store 1) [.ptr id ver off, .fr z xs] tk dst os keep s E H K =
    exO (getCells H id ver) fun c => off < c.length ∧ nextV P (.tup []) tk dst os keep s E ((H ++ [Obj.cells 0 xs.flatten]).set id (.cells ver (c.set off (.hsl H.length 0 0 xs.length z)))) K := by
  have e : sStore 1 [.ptr id ver off, .fr z xs] H = (getCells H id ver).bind fun c => if off + 1 ≤ c.length then some (.tup [], (H ++ [Obj.cells 0 xs.flatten]).set id (.cells ver (put c off [.hsl H.length 0 0 xs.length z]))) else none := by
    simp [sStore, solid, scal0, V.cells, thawL]
  show (∃ r H', sStore 1 [.ptr id ver off, .fr z xs] H = some (r, H') ∧ _) = _
  rw [e]
  apply propext
  constructor
  · rintro ⟨r, H', h, k⟩
    obtain ⟨c, h1, h⟩ := Option.bind_eq_some_iff.1 h
    split at h
    · rename_i hl
      cases h
      rw [put_one (by omega)] at k
      exact ⟨c, h1, by omega, k⟩
    · cases h
  · rintro ⟨c, h1, hl, k⟩
    refine ⟨.tup [], _, ?_, k⟩
    rw [h1, Option.bind_some, if_pos (by omega), put_one hl]
attribute [go_sem] store_fr

theorem run_addW {k : IntKind} {a b : Int} : runInt P .add k a b tk dst os keep s E H K = runOps P os keep s ((stripEn tk E).setO dst (.int k (k.wrap (a + b)))) H K := by
  unfold runInt intW
  apply propext
  constructor
  · rintro ⟨z, rfl, h⟩; exact h
  · intro h; exact ⟨_, rfl, h⟩
theorem run_subW {k : IntKind} {a b : Int} : runInt P .sub k a b tk dst os keep s E H K = runOps P os keep s ((stripEn tk E).setO dst (.int k (k.wrap (a - b)))) H K := by
  unfold runInt intW
  apply propext
  constructor
  · rintro ⟨z, rfl, h⟩; exact h
  · intro h; exact ⟨_, rfl, h⟩
end
attribute [go_sem] List.all_cons List.all_nil Bool.and_self Nat.reduceLT Nat.reduceLeDiff List.set_cons_zero List.set_cons_succ

end Go.Proofs.Ytneonbdlgmaofaa.Vm
namespace Go.Proofs.Ytneonbdlgmaofaa.Vm
open Go

end Go.Proofs.Ytneonbdlgmaofaa.Vm
namespace Go.Proofs.Ytneonbdlgmaofaa.Vm
open Go Go.RowKit

def immW (w : World) (b o : Nat) : Option Value := match w.heap[b]? with
  | some (.cells c _ _) => c[o]?
  | _ => none
def gh0 (w : World) : Gh := ⟨immW w, []⟩
def own0 (w : World) (b : Nat) : Option Place := if b < w.heap.size then some .frame else none

theorem ok0 (w : World) : Ok w (gh0 w) (own0 w) [] := by
  refine ⟨fun b o v h => ?_, fun b p h => ?_, rfl, fun i ob h => by simp at h⟩
  · simp only [gh0, immW] at h
    split at h
    · rename_i c e f hc; exact ⟨c, e, f, hc, h⟩
    · cases h
  · unfold own0 at h; split at h
    · assumption
    · cases h

section
variable {P : Program} {w : World}

/-- WHAT A LAW ANSWERS. -/
theorem T.below {f : Nat} {vs : List V} (h : T P f vs [] (.bool true) []) {cs : Array Value} (hr : RepI (immW w) vs cs.toList) : Calls P f cs w fun e w' => e = .returned (.bool true) ∧ Below w.heap.size w w' := by
  refine (h.2 w (gh0 w) (own0 w) cs [] (ok0 w) (RepI.toL hr) List.nodup_nil (fun _ h => by cases h)).mono ?_
  rintro e w' ⟨c, rfl, G', own', bl, _, h2, _, _, h5⟩
  obtain ⟨cs', hcs, _⟩ := h2.bool_inv
  obtain ⟨rfl, _⟩ := List.cons.inj hcs
  refine ⟨rfl, h5.os, h5.tape, h5.out, h5.size, fun k hk => ?_⟩
  exact (h5.fixed k (by simp only [own0, if_pos hk])).1

theorem Addr.add_add (a : Addr) (x y : Nat) : (a.add x).add y = a.add (x + y) := by
  unfold Addr.add
  by_cases hx : x = 0
  · subst hx; simp
  · by_cases hy : y = 0
    · subst hy; simp [hx]
    · simp [hx, hy, Nat.add_assoc]

theorem cell_imm {a : Addr} {v : Value} (h : w.cell? a = some v) : a.spot = none ∧ immW w a.block a.off = some v := by
  unfold World.cell? at h
  unfold immW
  split at h
  · rename_i c e f hc
    split at h
    · cases h
    · rename_i hs
      rw [hc]
      exact ⟨by cases hh : a.spot with
        | none => rfl
        | some _ => rw [hh] at hs; simp at hs, h⟩
  · cases h

theorem mapM_some {α β : Type} {f : α → Option β} : ∀ {l : List α} {ys : List β}, l.mapM f = some ys → ys.length = l.length ∧ ∀ (i : Nat) (x : α), l[i]? = some x → ∃ y, ys[i]? = some y ∧ f x = some y
  | [], ys, h => by
    cases h
    exact ⟨rfl, fun i x h => by simp at h⟩
  | a :: l, ys, h => by
    rw [List.mapM_cons] at h
    obtain ⟨y, h1, h⟩ := Option.bind_eq_some_iff.1 h
    obtain ⟨zs, h2, h⟩ := Option.bind_eq_some_iff.1 h
    cases h
    obtain ⟨k1, k2⟩ := mapM_some h2
    refine ⟨by simp [k1], fun i x hx => ?_⟩
    match i with
    | 0 => simp at hx; subst hx; exact ⟨y, rfl, h1⟩
    | i + 1 => exact k2 i x (by simpa using hx)

theorem cells_imm {a : Addr} {n : Nat} {cs : List Value} (h : w.cells? 0 a n = some cs) : cs.length = n ∧ ∀ j v, cs[j]? = some v → w.cell? (a.add j) = some v := by
  unfold World.cells? at h
  rw [if_pos (Nat.zero_le _)] at h
  obtain ⟨h1, h2⟩ := mapM_some h
  rw [List.length_range] at h1
  refine ⟨h1, fun j v hv => ?_⟩
  have hj : j < n := by rw [← h1]; exact (List.getElem?_eq_some_iff.1 hv).1
  obtain ⟨y, k1, k2⟩ := h2 j j (by simp [hj])
  rw [hv] at k1; cases k1; exact k2

theorem flat_imm {a : Addr} {k : Nat} : ∀ (csl : List (List Value)) (s : Nat), (∀ i c, csl[i]? = some c → c.length = k ∧ ∀ j v, c[j]? = some v → w.cell? (a.add ((s + i) * k + j)) = some v) →
    ∀ o v, csl.flatten[o]? = some v → w.cell? (a.add (s * k + o)) = some v
  | [], s, _, o, v, h => by simp at h
  | c :: csl, s, hc, o, v, h => by
    obtain ⟨h1, h2⟩ := hc 0 c rfl
    rw [List.flatten_cons] at h
    rcases Nat.lt_or_ge o c.length with ho | ho
    · rw [List.getElem?_append_left ho] at h
      simpa using h2 o v h
    · rw [List.getElem?_append_right ho] at h
      have := flat_imm csl (s + 1) (fun i c' hc' => by
        have := hc (i + 1) c' (by simpa using hc')
        rw [show s + (i + 1) = s + 1 + i by omega] at this; exact this) (o - c.length) v h
      rw [show s * k + o = (s + 1) * k + (o - c.length) by rw [Nat.add_mul]; omega]
      exact this

theorem flat_at {a : Addr} {k : Nat} {csl : List (List Value)} (h : ∀ i c, csl[i]? = some c → c.length = k ∧ ∀ j v, c[j]? = some v → w.cell? (a.add (i * k + j)) = some v) : ImmAt (immW w) a csl.flatten := by
  have hall := flat_imm (w := w) (a := a) (k := k) csl 0 (fun i c hc => by simpa using h i c hc)
  refine ⟨fun hne => ?_, fun i v hv => ?_⟩
  · obtain ⟨v, hv⟩ : ∃ v, csl.flatten[0]? = some v := by
      cases hf : csl.flatten with
      | nil => exact absurd hf hne
      | cons v l => exact ⟨v, rfl⟩
    have := (cell_imm (hall 0 v hv)).1
    simpa [Addr.add] using this
  · have := (cell_imm (hall i v hv)).2
    rw [(add_off a _).1, (add_off a _).2] at this
    simpa using this

variable {H : Type} {enc : TypeId × Value → H} {sp : Nat → Bool} {held : Bool}

abbrev Reads (P : Program) (enc : TypeId × Value → H) (sp : Nat → Bool) (held : Bool) (w : World) (t : TypeId) (Q : DataW H → List V → Prop) : Prop :=
  ∀ fuel cs d ps, DataW.trod enc P w 0 sp held fuel t cs = some (d, ps) → ∃ vs, RepI (immW w) vs cs ∧ Q d vs

theorem reads_int {t : TypeId} {k : IntKind} (hu : P.underlying t = some (.int k)) : Reads P enc sp held w t fun d vs => ∃ n : Int, d = .lit (.int k n) ∧ (Lit.int k n).wf = true ∧ vs = [.int k n] := by
  intro fuel cs d ps h
  cases fuel with
  | zero => cases h
  | succ fuel =>
    unfold DataW.trod at h
    rw [hu] at h
    split at h <;> try (rename_i he; cases he; done)
    all_goals first | (cases h; done) | skip
    rename_i he
    cases he
    split at h
    · rename_i hk
      obtain ⟨rfl, hk⟩ := hk
      cases h
      exact ⟨_, .int _ _ .nil, _, rfl, hk, rfl⟩
    · cases h

theorem reads_bool {t : TypeId} (hu : P.underlying t = some .bool) : Reads P enc sp held w t fun d vs => ∃ b : Bool, d = .lit (.bool b) ∧ vs = [.bool b] := by
  intro fuel cs d ps h
  cases fuel with
  | zero => cases h
  | succ fuel =>
    unfold DataW.trod at h
    rw [hu] at h
    split at h <;> try (rename_i he; cases he; done)
    all_goals first | (cases h; done) | skip
    all_goals cases h; exact ⟨_, .bool _ .nil, _, rfl, rfl⟩

theorem reads_str {t : TypeId} (hu : P.underlying t = some .string) : Reads P enc sp held w t fun d vs => ∃ l : List UInt8, d = .lit (.string l) ∧ vs = [.str l] := by
  intro fuel cs d ps h
  cases fuel with
  | zero => cases h
  | succ fuel =>
    unfold DataW.trod at h
    rw [hu] at h
    split at h <;> try (rename_i he; cases he; done)
    all_goals first | (cases h; done) | skip
    split at h
    · cases h; exact ⟨_, .str _ .nil, _, rfl, rfl⟩
    · cases h

theorem flatten_rep {imm : Nat → Nat → Option Value} : ∀ (xs : List (List V)) (csl : List (List Value)), xs.length = csl.length → (∀ (i : Nat) (x : List V) (c : List Value), xs[i]? = some x → csl[i]? = some c → RepI imm x c) → RepI imm xs.flatten csl.flatten
  | [], [], _, _ => .nil
  | [], _ :: _, h, _ => by cases h
  | _ :: _, [], h, _ => by cases h
  | x :: xs, c :: csl, h, hr => by
    rw [List.flatten_cons, List.flatten_cons]
    exact RepI.append (flatten_rep xs csl (by simpa using h) fun i x c h1 h2 => hr (i + 1) x c (by simpa using h1) (by simpa using h2)) (hr 0 x c rfl rfl)

abbrev ReadsF (P : Program) (enc : TypeId × Value → H) (sp : Nat → Bool) (held : Bool) (w : World) (fuel : Nat) (t : TypeId) (Q : DataW H → List V → Prop) : Prop :=
  ∀ cs d ps, DataW.trod enc P w 0 sp held fuel t cs = some (d, ps) → ∃ vs, RepI (immW w) vs cs ∧ Q d vs
theorem readsF_slice {t e : TypeId} {fuel : Nat} (hu : P.underlying t = some (.slice e)) {Q : DataW H → List V → Prop} (he : ReadsF P enc sp held w fuel e Q) :
    ReadsF P enc sp held w (fuel + 1) t fun d vs => ∃ xs, vs = [.sl false (P.cellsOf e) xs] ∧ ((d = .nil ∧ xs = []) ∨ ∃ elems spare, d = .slice elems spare ∧ xs.length = elems.length ∧ ∀ (i : Nat) (d : DataW H) (x : List V), elems[i]? = some d → xs[i]? = some x → Q d x) := by
  intro cs d ps h
  unfold DataW.trod at h
  rw [hu] at h
  split at h <;> try (rename_i he; cases he; done)
  all_goals first | (cases h; exact ⟨_, .slnil _ .nil, _, rfl, .inl ⟨rfl, rfl⟩⟩) | (cases h; done) | skip
  rename_i e' a len cap hue
  cases hue
  split at h
  · rename_i hb
    obtain ⟨elems, h1, h⟩ := Option.bind_eq_some_iff.1 h
    obtain ⟨rest, h2, h⟩ := Option.map_eq_some_iff.1 h
    obtain ⟨rfl, rfl⟩ := Prod.mk.inj h
    obtain ⟨k1, k2⟩ := mapM_some h1
    rw [List.length_range] at k1
    -- the elements' cells
    have hex : ∀ n, n ≤ len → ∃ (csl : List (List Value)) (xs : List (List V)), csl.length = n ∧ xs.length = n ∧ (∀ (i : Nat) c, csl[i]? = some c → w.cells? 0 (a.add (i * P.cellsOf e)) (P.cellsOf e) = some c) ∧
        (∀ (i : Nat) (x : List V) (c : List Value), xs[i]? = some x → csl[i]? = some c → RepI (immW w) x c) ∧ ∀ (i : Nat) (d : DataW H × List MemPlace) (x : List V), elems[i]? = some d → xs[i]? = some x → Q d.1 x := by
      intro n
      induction n with
      | zero => intro _; exact ⟨[], [], rfl, rfl, fun i c h => by simp at h, fun i x c h => by simp at h, fun i d x _ h => by simp at h⟩
      | succ n ih =>
        intro hn
        obtain ⟨csl, xs, j1, j2, j3, j4, j5⟩ := ih (by omega)
        obtain ⟨y, g1, g2⟩ := k2 n n (by rw [List.getElem?_range (by omega)])
        obtain ⟨c, g3, g4⟩ := Option.bind_eq_some_iff.1 g2
        obtain ⟨x, g5, g6⟩ := he c y.1 y.2 (by rw [g4])
        refine ⟨csl ++ [c], xs ++ [x], by simp [j1], by simp [j2], ?_, ?_, ?_⟩
        · intro i c' hc'
          rcases Nat.lt_or_ge i n with hi | hi
          · rw [List.getElem?_append_left (by omega)] at hc'; exact j3 i c' hc'
          · rw [List.getElem?_append_right (by omega), j1] at hc'
            have : i = n := by
              rcases Nat.lt_or_ge n i with h' | h'
              · rw [List.getElem?_eq_none (by simp; omega)] at hc'; cases hc'
              · omega
            subst this; simp at hc'; subst hc'; exact g3
        · intro i x' c' hx' hc'
          rcases Nat.lt_or_ge i n with hi | hi
          · rw [List.getElem?_append_left (by omega)] at hc' hx'; exact j4 i x' c' hx' hc'
          · rw [List.getElem?_append_right (by omega), j1] at hc'
            rw [List.getElem?_append_right (by omega), j2] at hx'
            have : i = n := by
              rcases Nat.lt_or_ge n i with h' | h'
              · rw [List.getElem?_eq_none (by simp; omega)] at hc'; cases hc'
              · omega
            subst this; simp at hc' hx'; subst hc' hx'; exact g5
        · intro i d' x' hd' hx'
          rcases Nat.lt_or_ge i n with hi | hi
          · rw [List.getElem?_append_left (by omega)] at hx'; exact j5 i d' x' hd' hx'
          · rw [List.getElem?_append_right (by omega), j2] at hx'
            have : i = n := by
              rcases Nat.lt_or_ge n i with h' | h'
              · rw [List.getElem?_eq_none (by simp; omega)] at hx'; cases hx'
              · omega
            subst this; simp at hx'; subst hx'
            rw [g1] at hd'; cases hd'; exact g6
    obtain ⟨csl, xs, j1, j2, j3, j4, j5⟩ := hex len (Nat.le_refl _)
    have himm : ImmAt (immW w) a csl.flatten := flat_at (k := P.cellsOf e) fun i c hc => by
      obtain ⟨g1, g2⟩ := cells_imm (j3 i c hc)
      exact ⟨g1, fun j v hv => by rw [← Addr.add_add]; exact g2 j v hv⟩
    have hrep := flatten_rep xs csl (by rw [j1, j2]) j4
    have hxl : ∀ x ∈ xs, x.length = P.cellsOf e := by
      intro x hx
      obtain ⟨i, hi⟩ := List.mem_iff_getElem?.1 hx
      have hil : i < csl.length := by rw [j1, ← j2]; exact (List.getElem?_eq_some_iff.1 hi).1
      have hc := List.getElem?_eq_getElem hil
      rw [(j4 i x _ hi hc).length]
      exact (cells_imm (j3 i _ hc)).1
    have := RepI.sl (P.cellsOf e) xs a cap hxl himm hrep (by rw [j2]; exact hb.2.1) .nil
    rw [j2] at this
    refine ⟨_, this, xs, rfl, .inr ⟨_, _, rfl, by rw [List.length_map, k1, j2], fun i d x hd hx => ?_⟩⟩
    rw [List.getElem?_map] at hd
    obtain ⟨y, g1, rfl⟩ := Option.map_eq_some_iff.1 hd
    exact j5 i y x g1 hx
  · cases h

theorem reads_slice {t e : TypeId} (hu : P.underlying t = some (.slice e)) {Q : DataW H → List V → Prop} (he : Reads P enc sp held w e Q) :
    Reads P enc sp held w t fun d vs => ∃ xs, vs = [.sl false (P.cellsOf e) xs] ∧ ((d = .nil ∧ xs = []) ∨ ∃ elems spare, d = .slice elems spare ∧ xs.length = elems.length ∧ ∀ (i : Nat) (d : DataW H) (x : List V), elems[i]? = some d → xs[i]? = some x → Q d x) := by
  intro fuel
  cases fuel with
  | zero => intro cs d ps h; cases h
  | succ fuel => exact readsF_slice hu (he fuel)

/-- What an argument read, it reads behind the call. -/
theorem stays (hl : laidOutB P = true) {w' : World} (hb : Below w.heap.size w w') {ts : List TypeId} (ht : ts.all (fun t => P.readableRec t && decide (t < P.types.size)) = true) :
    ∀ {vs : List Value} {ds : List (DataW H)} {ps : List MemPlace}, DataW.TrodAll enc P w 0 (fun _ => true) true ts vs ds ps → DataW.TrodAll enc P w' 0 (fun b => decide (b < w.heap.size)) true ts vs ds ps := by
  induction ts with
  | nil =>
    intro vs ds ps h
    match vs, ds, h with
    | [], [], h => exact h
  | cons t ts ih =>
    intro vs ds ps h
    match vs, ds, h with
    | v :: vs, d :: ds, h =>
      obtain ⟨p, q, ⟨fuel, h1⟩, h2, rfl⟩ := h
      simp only [List.all_cons, Bool.and_eq_true, decide_eq_true_eq] at ht
      have hlt := DataW.trod_lt fuel t _ _ h1
      exact ⟨p, q, ⟨fuel, DataW.trod_stays (kids_book hl ht.1.1) (book_sized ht.1.1) (fun h => by cases h) ⟨ht.1.2, book_self t⟩ h1 (fun x hx => hb.same (hlt x hx)) (fun x hx => by simpa using hlt x hx)⟩, ih ht.2 h2, rfl⟩
end
end Go.Proofs.Ytneonbdlgmaofaa.Vm
namespace Go.Proofs.Ytneonbdlgmaofaa.Vm
open Go Go.RowKit Go.WideShapes

/-- What one value's reading weighs. -/
def Light {H : Type} (P : Program) (t : TypeId) (d : DataW H) : Prop := (d.weights P t).all (· ≤ reachBytes) = true
theorem light_each {H : Type} {P : Program} : ∀ {ts : List TypeId} {ds : List (DataW H)}, (DataW.weightsEach P ts ds).all (· ≤ reachBytes) = true → ∀ {j : Nat} {t : TypeId} {d : DataW H}, ts[j]? = some t → ds[j]? = some d → Light P t d
  | [], _, _, j, t, d, ht, _ => by simp at ht
  | _ :: _, [], _, j, t, d, _, hd => by simp at hd
  | t0 :: ts, d0 :: ds, h, j, t, d, ht, hd => by
    unfold DataW.weightsEach at h
    rw [List.all_append, Bool.and_eq_true] at h
    match j with
    | 0 => simp at ht hd; subst ht hd; exact h.1
    | j + 1 => exact light_each h.2 (j := j) (by simpa using ht) (by simpa using hd)
theorem light_all {H : Type} {P : Program} {e : TypeId} : ∀ {ds : List (DataW H)}, (DataW.weightsAll P e ds).all (· ≤ reachBytes) = true → ∀ d ∈ ds, Light P e d
  | [], _, d, hd => by cases hd
  | d0 :: ds, h, d, hd => by
    unfold DataW.weightsAll at h
    rw [List.all_append, Bool.and_eq_true] at h
    rcases List.mem_cons.1 hd with rfl | hd
    · exact h.1
    · exact light_all h.2 d hd
theorem light_slice {H : Type} {P : Program} {t e : TypeId} {elems spare : List (DataW H)} (hu : P.underlying t = some (.slice e)) (h : Light P t (.slice elems spare)) : elems.length * P.bytesOf e ≤ reachBytes ∧ ∀ d ∈ elems, Light P e d := by
  unfold Light at h
  simp only [DataW.weights, hu, List.all_cons, Bool.and_eq_true, decide_eq_true_eq, List.all_append] at h
  refine ⟨Nat.le_trans (Nat.mul_le_mul_right _ (Nat.le_add_right _ _)) h.1, light_all h.2.1⟩

theorem ex_list {α β : Type} {f : α → β} {p : α → Prop} : ∀ {xs : List β}, (∀ x ∈ xs, ∃ a, x = f a ∧ p a) → ∃ l : List α, xs = l.map f ∧ ∀ a ∈ l, p a
  | [], _ => ⟨[], rfl, fun _ h => by cases h⟩
  | x :: xs, h => by
    obtain ⟨a, rfl, ha⟩ := h x (List.mem_cons_self ..)
    obtain ⟨l, rfl, hl⟩ := ex_list fun y hy => h y (List.mem_cons_of_mem _ hy)
    exact ⟨a :: l, rfl, fun b hb => by
      rcases List.mem_cons.1 hb with rfl | hb
      · exact ha
      · exact hl b hb⟩

section
variable {P : Program} {w : World} {H : Type} {enc : TypeId × Value → H} {sp : Nat → Bool} {held : Bool}
theorem reads_sl {t e : TypeId} (hu : P.underlying t = some (.slice e)) {α : Type} {f : α → List V} {p : α → Prop} (hb : 1 ≤ P.bytesOf e) (he : Reads P enc sp held w e fun d vs => Light P e d → ∃ a, vs = f a ∧ p a) :
    Reads P enc sp held w t fun d vs => Light P t d → ∃ l : List α, vs = [.sl false (P.cellsOf e) (l.map f)] ∧ l.length ≤ reachBytes ∧ ∀ a ∈ l, p a := by
  intro fuel cs d ps h
  obtain ⟨vs, h1, xs, rfl, h2⟩ := reads_slice hu he fuel cs d ps h
  refine ⟨_, h1, fun hl => ?_⟩
  rcases h2 with ⟨rfl, rfl⟩ | ⟨elems, spare, rfl, h3, h4⟩
  · exact ⟨[], rfl, Nat.zero_le _, fun _ h => by cases h⟩
  · obtain ⟨k1, k2⟩ := light_slice hu hl
    obtain ⟨l, rfl, hp⟩ := ex_list (f := f) (p := p) (xs := xs) fun x hx => by
      obtain ⟨i, hi⟩ := List.mem_iff_getElem?.1 hx
      have hil : i < elems.length := by rw [← h3]; exact (List.getElem?_eq_some_iff.1 hi).1
      have hd := List.getElem?_eq_getElem hil
      exact h4 i _ x hd hi (k2 _ (List.getElem_mem hil))
    refine ⟨l, rfl, ?_, hp⟩
    rw [List.length_map] at h3
    rw [h3]
    exact Nat.le_trans (Nat.le_mul_of_pos_right _ hb) k1
theorem open_slice {t e : TypeId} {r : Reach} {b0 : Nat} {v : Value} {d : DataW H} {ps : List MemPlace} (hu : P.underlying t = some (.slice e)) (hval : Value.okWide P w r b0 t v) {Q : DataW H → List V → Prop} (hr : Reads P enc sp held w t Q)
    (hd : DataW.Trod enc P w 0 sp held t v d ps) : ∃ vs, RepI (immW w) vs [v] ∧ Q d vs := by
  obtain ⟨a, len, cap, rfl⟩ := okWide_slice hu hval
  obtain ⟨fuel, h⟩ := hd
  exact hr fuel _ d ps h
theorem open_intV {t : TypeId} {k : IntKind} {r : Reach} {b0 : Nat} {v : Value} {d : DataW H} {ps : List MemPlace} (hu : P.underlying t = some (.int k)) (hval : Value.okWide P w r b0 t v)
    (hd : DataW.Trod enc P w 0 sp held t v d ps) : ∃ n : Int, RepI (immW w) [.int k n] [v] ∧ d = .lit (.int k n) ∧ (Lit.int k n).wf = true := by
  obtain ⟨n, rfl⟩ := okWide_int hu hval
  obtain ⟨fuel, h⟩ := hd
  obtain ⟨vs, h1, n', h2, h3, h4⟩ := reads_int (w := w) (enc := enc) (sp := sp) (held := held) hu fuel _ d ps h
  subst h4
  have : n' = n := by
    cases h1; rfl
  subst this
  exact ⟨n', h1, h2, h3⟩
theorem open_strV {t : TypeId} {r : Reach} {b0 : Nat} {v : Value} {d : DataW H} {ps : List MemPlace} (hu : P.underlying t = some .string) (hval : Value.okWide P w r b0 t v)
    (hd : DataW.Trod enc P w 0 sp held t v d ps) : ∃ l : List UInt8, RepI (immW w) [.str l] [v] ∧ d = .lit (.string l) := by
  obtain ⟨n, rfl⟩ := okWide_string hu hval
  obtain ⟨fuel, h⟩ := hd
  obtain ⟨vs, h1, l, h2, h4⟩ := reads_str (w := w) (enc := enc) (sp := sp) (held := held) hu fuel _ d ps h
  subst h4
  exact ⟨l, h1, h2⟩
end
end Go.Proofs.Ytneonbdlgmaofaa.Vm
namespace Go.Proofs.Ytneonbdlgmaofaa.Vm
open Go

section
variable {H : Heap} {i j v : Nat} {cs : List V} {o : Obj}
theorem gc_some : getCells H i v = some cs ↔ H[i]? = some (.cells v cs) := by
  constructor
  · exact getCells_some
  · intro h; unfold getCells; rw [h]; simp
theorem gc_lt (h : getCells H i v = some cs) : i < H.length := (List.getElem?_eq_some_iff.1 (gc_some.1 h)).1
theorem gc_same (h : i < H.length) : getCells (H.set i (.cells v cs)) i v = some cs := by
  rw [gc_some, List.getElem?_set, if_pos rfl, if_pos h]
theorem gc_ne (h : i ≠ j) : getCells (H.set i o) j v = getCells H j v := by
  unfold getCells; rw [List.getElem?_set, if_neg h]
theorem gc_app {l : Heap} (h : j < H.length) : getCells (H ++ l) j v = getCells H j v := by
  unfold getCells; rw [List.getElem?_append_left h]
theorem gc_new : getCells (H ++ [.cells v cs]) H.length v = some cs := by
  rw [gc_some, List.getElem?_append_right (Nat.le_refl _), Nat.sub_self]; rfl
end
/-- All objects that were turned, or are new, name only such as stay. -/
theorem endX_all {H0 : Heap} {rs : List VRes} {R : V → Heap → Prop} {x : X} {E : En} {H : Heap} {m : Nat} (hm : m = H.length) (hx : (match x with | .exit _ => False | _ => True)) (h1 : H0.length ≤ H.length)
    (h3 : ∀ (i : Nat) (ob : Obj), H[i]? = some ob → H0[i]? = some ob ∨ idsO H.length ob = true) {r0 r : V} (h4 : resV H.length H E.f rs = some r0) (h5 : fixV H.length H 8 r0 = some r) (h6 : R r H) : endX m H0 rs R x E H := by
  subst hm
  refine ⟨hx, h1, Nat.le_refl _, fun i ob _ hob => h3 i ob hob, r0, h4, r, h5, ?_⟩
  rw [List.take_of_length_le (Nat.le_refl _)]
  exact h6
/-- A function whose last heap is known only behind it. -/
def endY (H0 : Heap) (rs : List VRes) (R : V → Heap → Prop) : KK := fun x E H => (match x with | .exit _ => False | _ => True) ∧ H0.length ≤ H.length ∧ (∀ (i : Nat) (ob : Obj), H[i]? = some ob → H0[i]? = some ob ∨ idsO H.length ob = true) ∧
  ∃ r0, resV H.length H E.f rs = some r0 ∧ ∃ r, fixV H.length H 8 r0 = some r ∧ R r H
theorem T.of_all {P : Program} (hmix : P.follows .mixedOrders = true) {f : Nat} {vf : VFunc} (hc : chkFn P f vf = true) {args : List V} {H : Heap} {R : V → Heap → Prop} (hl : Nat.ble args.length vf.n = true)
    (h : run P vf.body [] ⟨args.zipIdx.map fun p => (p.2, p.1), .tup []⟩ H (endY H vf.results R)) : ∃ r H', T P f args H r H' ∧ R r H' := by
  obtain ⟨x, E1, H1, h1, h2, h3, h4, r0, h6, r, h7, h8⟩ := wp_sound h
  rw [env0_eq] at h1
  refine ⟨r, H1, ?_, h8⟩
  have := T_of hmix hc (Nat.le_of_ble_eq_true hl) h1 (by intro id e; subst e; exact h2) (m := H1.length) h3 (Nat.le_refl _) h6 h7 (fun i ob _ hob => h4 i ob hob)
  rwa [List.take_of_length_le (Nat.le_refl _)] at this
/-- The objects that stay as they were; the others are new or turned. -/
def Same (H0 H : Heap) : Prop := ∀ (i : Nat) (ob : Obj), H[i]? = some ob → H0[i]? = some ob ∨ idsO H.length ob = true

@[go_sem] theorem fillV_agg {zs vs cs : List V} {off n : Nat} {ps : List (Nat × Nat)} (h : n = cs.length) : fillV zs ((off, n) :: ps) (.agg cs :: vs) = if off + cs.length ≤ zs.length then fillV (put zs off cs) ps vs else none := by
  subst h
  rw [fillV]
  by_cases hl : off + cs.length ≤ zs.length
  · rw [if_pos ⟨rfl, rfl, hl⟩, if_pos hl]; rfl
  · rw [if_neg (fun hh => hl hh.2.2), if_neg hl]
@[go_sem] theorem plain0_int {k : IntKind} {n : Int} : plain0 (.int k n) = true := (rfl)
@[go_sem] theorem plain0_bool {b : Bool} : plain0 (.bool b) = true := (rfl)
@[go_sem] theorem plain0_str {b : List UInt8} : plain0 (.str b) = true := (rfl)
@[go_sem] theorem plain0_sl {o : Bool} {z : Nat} {xs : List (List V)} : plain0 (.sl o z xs) = true := (rfl)
theorem elems_agg {sz : Nat} {cs : List V} (h : cs.all plain0 = true) (hn : sz = cs.length) : elems sz [.agg cs] = some [cs.map strip0] := by
  subst hn
  simp [elems, solid, V.cells, inl, h]
theorem elems_nil {sz : Nat} : elems sz [] = some [] := rfl
attribute [go_sem] List.drop_succ_cons List.drop_zero List.take_succ_cons List.take_zero put List.drop_nil List.take_nil
section
variable {P : Program} {K : KK} {s : List Fr} {E : En} {H : Heap} {tk : List Nat} {dst : Option Nat} {os : List VOp} {keep : List Nat}
theorem run_str {op : BinOp} {a b : List UInt8} : runAct P (.bin op) [.str a, .str b] tk dst os keep s E H K = ∃ v, binStr op a b = some v ∧ runOps P os keep s ((stripEn tk E).setO dst v) H K := rfl
@[go_sem] theorem run_eqlS {a b : List UInt8} : runAct P (.bin .eql) [.str a, .str b] tk dst os keep s E H K = runOps P os keep s ((stripEn tk E).setO dst (.bool (a == b))) H K := by
  rw [run_str]; simp [binStr]
@[go_sem] theorem run_neqS {a b : List UInt8} : runAct P (.bin .neq) [.str a, .str b] tk dst os keep s E H K = runOps P os keep s ((stripEn tk E).setO dst (.bool (!(a == b)))) H K := by
  rw [run_str]; simp [binStr]
@[go_sem] theorem run_addS {a b : List UInt8} : runAct P (.bin .add) [.str a, .str b] tk dst os keep s E H K = (a.length + b.length ≤ 9223372036854775807 ∧ runOps P os keep s ((stripEn tk E).setO dst (.str (a ++ b))) H K) := by
  rw [run_str]
  apply propext
  constructor
  · rintro ⟨v, h1, h2⟩
    unfold binStr at h1
    simp only at h1
    split at h1
    · rename_i hl; cases h1; exact ⟨hl, h2⟩
    · cases h1
  · rintro ⟨h1, h2⟩
    exact ⟨_, by unfold binStr; simp only; rw [if_pos h1], h2⟩
end
theorem elems_int {k : IntKind} {n : Int} {vs : List V} : elems 1 (.int k n :: vs) = (elems 1 vs).map ([.int k n] :: ·) := by
  simp [elems, solid, scal0, V.cells, inl, plain0, strip0]
end Go.Proofs.Ytneonbdlgmaofaa.Vm
namespace Go.Proofs.Ytneonbdlgmaofaa.Vm
open Go

/-- A FUNCTION that answers one cell's value: the cell keeps a copy that owns nothing; all objects stay. -/
theorem T_ofT {P : Program} (hmix : P.follows .mixedOrders = true) {f : Nat} {vf : VFunc} (hc : chkFn P f vf = true) {args : List V} {H : Heap} (hl : args.length ≤ vf.n) {x : X} {σ' : Env} {H1 : Heap} (hx : VExec P vf.body (env0 args) H x σ' H1) (hnx : ∀ id, x ≠ .exit id)
    {t n : Nat} {agg : Bool} (hrs : vf.results = [.cell t n agg]) {id ver off : Nat} (hσ : σ' t = .ptr id ver off) {cs0 l : List V} (hg : getCells H1 id ver = some cs0) (hcut : cut cs0 off n = some l) {r : V} (hm : mk agg l = some r) :
    T P f args H r (H1.set id (.cells ver (put cs0 off (l.map strip0)))) := by
  unfold chkFn at hc
  split at hc
  · rename_i fn hfn
    simp only [Bool.and_eq_true, beq_iff_eq, decide_eq_true_eq, bne_iff_ne] at hc
    obtain ⟨⟨⟨⟨hbody, hnt⟩, hres⟩, hnd⟩, hname⟩ := hc
    cases hb : fn.body with
    | none => rw [hb] at hbody; cases hbody
    | some c =>
      rw [hb] at hbody
      refine ⟨⟨fn, hfn, by rw [hb]; rfl, by simpa using hname⟩, ?_⟩
      intro w G own cs bl hok hrep hnod harg
      obtain ⟨fo, fo1, fo2⟩ := hrep.parts hnod
      let own1 : Nat → Option Place := fun b => match fo b with
        | some j => some (.slot j)
        | none => match own b with
          | some .frame => some .frame
          | some (.obj i) => some (.obj i)
          | some (.cell i) => some (.cell i)
          | _ => none
      have hnone : ∀ b, own b ≠ some .arg → fo b = none := by
        intro b hb
        cases h : fo b with
        | none => rfl
        | some j => exact absurd (harg b (fo1 b j h)) hb
      have hok1 : Ok w G own1 H := by
        refine hok.relabel (fun b i hb => ?_) fun b p hp => ?_
        · have : fo b = none := hnone b (by rcases hb with hb | hb <;> rw [hb] <;> simp)
          simp only [own1, this]; rcases hb with hb | hb <;> rw [hb]
        · simp only [own1] at hp
          split at hp
          · rename_i j hj; exact ⟨_, harg b (fo1 b j hj)⟩
          · split at hp
            · exact ⟨_, by assumption⟩
            · exact ⟨_, by assumption⟩
            · exact ⟨_, by assumption⟩
            · cases hp
      have hlen : cs.size = args.length := by have := hrep.length; rw [this]; exact Array.length_toList.symm
      have hat : At w G own1 (env0 args) H vf.n { tmps := cs ++ Array.replicate (fn.ntmps - cs.size) undef, defers := [] } := by
        refine ⟨hok1, fun i => ?_, ?_, rfl⟩
        · cases hi : args[i]? with
          | none =>
            have hge : args.length ≤ i := by
              rcases Nat.lt_or_ge i args.length with h | h
              · rw [List.getElem?_eq_getElem h] at hi; cases hi
              · exact h
            refine ⟨[], ?_, List.nodup_nil, fun _ h => by cases h⟩
            have : (cs ++ Array.replicate (fn.ntmps - cs.size) undef).getD i undef = undef := by
              rw [Array.getD_eq_getD_getElem?, Array.getElem?_append_right (by omega), Array.getElem?_replicate]
              split <;> rfl
            simp only [env0, hi, Option.getD_none]
            rw [this]
            exact .tup .nil .nil
          | some v =>
            obtain ⟨c', b1, e1, e2, e3, e4⟩ := fo2 i v hi
            refine ⟨b1, ?_, e3, fun b hb => by simp only [own1, e4 b hb]⟩
            have hlt : i < cs.size := by
              rw [hlen]; exact (List.getElem?_eq_some_iff.1 hi).1
            have : (cs ++ Array.replicate (fn.ntmps - cs.size) undef).getD i undef = c' := by
              rw [Array.getD_eq_getD_getElem?, Array.getElem?_append_left hlt, ← Array.getElem?_toList, e1]; rfl
            simp only [env0, hi, Option.getD_some]
            rw [this]; exact e2
        · simp only [Array.size_append, Array.size_replicate]; omega
      refine calls_of_wp hfn hb (Code.wp_mono ?_ ((exec_sound hmix hx c hbody).1 w G own1 _ hat))
      rintro e a1 w1 ⟨rfl, G1, own2, hat1, hext⟩
      rw [hrs] at hres
      obtain ⟨cr, w2, q1, q2, G3, own3, br, k1, k2, k3, k4, k5⟩ : ∃ cr w2, (results fn a1.tmps).run P w1 = .ok cr w1 ∧ w2 = w1 ∧ ∃ G3 own3 br, Ok w1 G3 own3 (H1.set id (.cells ver (put cs0 off (l.map strip0)))) ∧ RepL w1 G3 [r] [cr] br ∧ br.Nodup ∧ (∀ b ∈ br, own3 b = some .res) ∧ Ext w1 G1 own2 w1 G3 own3 := by
        match hfr : fn.results.toList, hres with
        | [.cell x t'], hres =>
          simp only [chkRess, chkRes, Bool.and_eq_true, beq_iff_eq, Bool.and_true] at hres
          obtain ⟨rfl, hlo⟩ := hres
          obtain ⟨c', e1, _, _⟩ := res_cell (P := P) hat1 hlo hσ hg hcut
          obtain ⟨d, h1, h2, h3, h4⟩ := loadOk_eq hlo
          obtain ⟨bs, rs, _, _⟩ := hat1.slots x
          rw [hσ] at rs
          obtain ⟨b, ver', n', bb, cs', hcs, _⟩ := rs.ptr_inv
          have hc0 := (List.cons.inj hcs).1
          subst h3
          obtain ⟨c2, w2, e3, G3, own3, br, k⟩ := loadT_post (P := P) hat1.ok h1 h2 h4 rs hg hcut hm
          rw [hc0] at e1 e3
          have e1' : (loadVar t' ⟨bb, off, none⟩).run P w1 = .ok c' w1 := by simpa [asAddr] using e1
          have e3' : (loadVar t' ⟨bb, off, none⟩).run P w1 = .ok c2 w2 := by simpa [Instr.loadAt, Instr.sureAddr] using e3
          rw [e1'] at e3'
          cases e3'
          have hrun : (fn.results.toList.mapM (run1 a1)).run P w1 = .ok [c'] w1 := by
            rw [hfr]
            have : (run1 a1 (.cell x t')).run P w1 = .ok c' w1 := by
              show (do loadVar t' (← asAddr (a1.tmps.getD x undef)) : Sem Value).run P w1 = _
              rw [hc0]; simpa [asAddr] using e1'
            simp [List.mapM_cons, this]
          exact ⟨c', w1, results_run hrun, rfl, G3, own3, br, k⟩
        | [.tmp _], hres => simp [chkRess, chkRes] at hres
        | [], hres => cases hres
        | _ :: _ :: _, hres => simp [chkRess] at hres
      let own4 : Nat → Option Place := fun b => if b ∈ br then some .res else match own3 b with
        | some .frame => some .frame
        | some (.obj i) => some (.obj i)
        | some (.cell i) => some (.cell i)
        | _ => none
      have hok4 : Ok w1 G3 own4 (H1.set id (.cells ver (put cs0 off (l.map strip0)))) := by
        refine k1.relabel (fun b i hb => ?_) fun b p hp => ?_
        · have hnb : b ∉ br := by
            intro hb'
            rw [k4 b hb'] at hb; rcases hb with hb | hb <;> cases hb
          simp only [own4, if_neg hnb]
          rcases hb with hb | hb <;> rw [hb]
        · simp only [own4] at hp
          split at hp
          · rename_i hb'; exact ⟨_, k4 b hb'⟩
          · cases ho : own3 b with
            | none => rw [ho] at hp; cases hp
            | some q => exact ⟨q, rfl⟩
      have hext2 := hext.trans k5
      have hpost : Post w G own r (H1.set id (.cells ver (put cs0 off (l.map strip0)))) cr w1 := by
        refine ⟨G3, own4, br, hok4, k2, k3, fun b hb => by simp only [own4, if_pos hb], ⟨hext2.size, hext2.imm, hext2.loc, ?_, hext2.tape, hext2.os, hext2.out⟩⟩
        intro b hb
        have h1 : own1 b = some .frame := by
          have : fo b = none := hnone b (by rw [hb]; simp)
          simp only [own1, this, hb]
        obtain ⟨j1, j2, j3⟩ := hext2.fixed b h1
        refine ⟨j1, j2, ?_⟩
        have hnb : b ∉ br := by
          intro hb'
          rw [k4 b hb'] at j3; cases j3
        simp only [own4, if_neg hnb, j3]
      cases x with
      | normal => exact ⟨hat1.defers, cr, q1, cr, rfl, hpost⟩
      | ret => exact ⟨hat1.defers, cr, q1, cr, rfl, hpost⟩
      | exit id => exact absurd rfl (hnx id)
  · cases hc
/-- How such a function ends. -/
def endT (t n : Nat) (agg : Bool) (R : V → Heap → Prop) : KK := fun x E H => (match x with | .exit _ => False | _ => True) ∧
  ∃ id ver off cs l r, E.f t = .ptr id ver off ∧ getCells H id ver = some cs ∧ cut cs off n = some l ∧ mk agg l = some r ∧ R r (H.set id (.cells ver (put cs off (l.map strip0))))
theorem T.of_take {P : Program} (hmix : P.follows .mixedOrders = true) {f : Nat} {vf : VFunc} (hc : chkFn P f vf = true) {args : List V} {H : Heap} {R : V → Heap → Prop} (hl : Nat.ble args.length vf.n = true) {t n : Nat} {agg : Bool} (hrs : vf.results = [.cell t n agg])
    (h : run P vf.body [] ⟨args.zipIdx.map fun p => (p.2, p.1), .tup []⟩ H (endT t n agg R)) : ∃ r H', T P f args H r H' ∧ R r H' := by
  obtain ⟨x, E1, H1, h1, h2, id, ver, off, cs, l, r, h3, h4, h5, h6, h7⟩ := wp_sound h
  rw [env0_eq] at h1
  exact ⟨r, _, T_ofT hmix hc (Nat.le_of_ble_eq_true hl) h1 (by intro id e; subst e; exact h2) hrs h3 h4 h5 h6, h7⟩

section
variable {P : Program} {K : KK} {s : List Fr} {E : En} {H : Heap} {tk : List Nat} {dst : Option Nat} {os : List VOp} {keep : List Nat}
def loadTA (P : Program) (n : Nat) (x : Option (List V)) (id ver off : Nat) (tk : List Nat) (dst : Option Nat) (os : List VOp) (keep : List Nat) (s : List Fr) (E : En) (H : Heap) (K : KK) : Prop :=
  ∃ cs, x = some cs ∧ off + n ≤ cs.length ∧ nextV P (.agg ((cs.drop off).take n)) tk dst os keep s E (H.set id (.cells ver (put cs off (((cs.drop off).take n).map strip0)))) K
@[go_sem] theorem loadTA_some {n : Nat} {cs : List V} {id ver off : Nat} : loadTA P n (some cs) id ver off tk dst os keep s E H K = (off + n ≤ cs.length ∧ nextV P (.agg ((cs.drop off).take n)) tk dst os keep s E (H.set id (.cells ver (put cs off (((cs.drop off).take n).map strip0)))) K) := by
  apply propext
  constructor
  · rintro ⟨v, h, k⟩; cases h; exact k
  · intro k; exact ⟨cs, rfl, k⟩
@[go_sem] theorem run_loadTA {id ver off n : Nat} : runAct P (.loadT n true) [.ptr id ver off] tk dst os keep s E H K = loadTA P n (getCells H id ver) id ver off tk dst os keep s E H K := (rfl)
end
end Go.Proofs.Ytneonbdlgmaofaa.Vm
namespace Go.Proofs.Ytneonbdlgmaofaa.Vm
open Go Go.RowKit Go.WideShapes

section
variable {P : Program} {w : World} {H : Type} {enc : TypeId × Value → H} {sp : Nat → Bool} {held : Bool}
theorem readsF_of {t : TypeId} {Q : DataW H → List V → Prop} (h : Reads P enc sp held w t Q) (fuel : Nat) : ReadsF P enc sp held w fuel t Q := h fuel
/-- Fields that lie one behind the other: where they end. -/
def contig (P : Program) : Nat → List Field → Option Nat
  | o, [] => some o
  | o, f :: fs => if f.offset = o then contig P (o + P.cellsOf f.type) fs else none
theorem contig_le {P : Program} : ∀ {fs : List Field} {o e : Nat}, contig P o fs = some e → o ≤ e
  | [], o, e, h => by cases h; exact Nat.le_refl _
  | f :: fs, o, e, h => by
    unfold contig at h
    split at h
    · have := contig_le h; omega
    · cases h
inductive Fits3 (Qs : List (DataW H → List V → Prop)) : List (DataW H) → List (List V) → Prop
  | mk {ds vss} (hl : ds.length = Qs.length) (hv : vss.length = Qs.length) (h : ∀ (i : Nat) Q d v, Qs[i]? = some Q → ds[i]? = some d → vss[i]? = some v → Q d v) : Fits3 Qs ds vss
theorem drop_split {α : Type} (l : List α) (a b c : Nat) (hab : a ≤ b) (hbc : b ≤ c) : (l.drop a).take (c - a) = (l.drop a).take (b - a) ++ (l.drop b).take (c - b) := by
  rw [show c - a = (b - a) + (c - b) by omega, List.take_add, List.drop_drop, show a + (b - a) = b by omega]
theorem fields_read {fuel : Nat} {cs : List Value} : ∀ {fs : List Field} {Qs : List (DataW H → List V → Prop)} {o e : Nat} {xs : List (DataW H × List MemPlace)}, contig P o fs = some e → fs.length = Qs.length →
    (∀ (i : Nat) (f : Field) Q, fs[i]? = some f → Qs[i]? = some Q → ReadsF P enc sp held w fuel f.type Q) →
    (fs.mapM fun f => DataW.trod enc P w 0 sp held fuel f.type ((cs.drop f.offset).take (P.cellsOf f.type))) = some xs →
    ∃ vss : List (List V), RepI (immW w) vss.flatten ((cs.drop o).take (e - o)) ∧ Fits3 Qs (xs.map (·.1)) vss
  | [], [], o, e, xs, hc, _, _, h => by
    cases hc; cases h
    exact ⟨[], by simp; exact .nil, .mk rfl rfl fun i Q d v hQ => by simp at hQ⟩
  | [], _ :: _, _, _, _, _, hl, _, _ => by cases hl
  | _ :: _, [], _, _, _, _, hl, _, _ => by cases hl
  | f :: fs, Q :: Qs, o, e, xs, hc, hl, hq, h => by
    unfold contig at hc
    split at hc
    · rename_i ho
      rw [List.mapM_cons] at h
      obtain ⟨y, h1, h⟩ := Option.bind_eq_some_iff.1 h
      obtain ⟨ys, h2, h⟩ := Option.bind_eq_some_iff.1 h
      cases h
      obtain ⟨vs, k1, k2⟩ := hq 0 f Q rfl rfl _ y.1 y.2 h1
      obtain ⟨vss, k3, k4, k5, k6⟩ := fields_read hc (by simpa using hl) (fun i f' Q' hf hQ => hq (i + 1) f' Q' (by simpa using hf) (by simpa using hQ)) h2
      refine ⟨vs :: vss, ?_, .mk (by simpa using k4) (by simpa using k5) fun i Q' d v hQ hd hv => ?_⟩
      · rw [List.flatten_cons, drop_split cs o (o + P.cellsOf f.type) e (by omega) (contig_le hc), Nat.add_sub_cancel_left, ← ho]
        exact RepI.append (by rw [ho]; exact k3) k1
      · match i with
        | 0 => simp at hQ hd hv; subst hQ hd hv; exact k2
        | i + 1 => exact k6 i Q' d v (by simpa using hQ) (by simpa using hd) (by simpa using hv)
    · cases hc
theorem readsF_struct {t : TypeId} {fs : Array Field} {fuel : Nat} (hu : P.underlying t = some (.struct fs)) (hc : contig P 0 fs.toList = some (P.cellsOf t)) {Qs : List (DataW H → List V → Prop)} (hl : fs.toList.length = Qs.length)
    (hq : ∀ (i : Nat) (f : Field) Q, fs.toList[i]? = some f → Qs[i]? = some Q → ReadsF P enc sp held w fuel f.type Q) :
    ReadsF P enc sp held w (fuel + 1) t fun d vs => ∃ ds vss, d = .agg ds ∧ vs = vss.flatten ∧ Fits3 Qs ds vss := by
  intro cs d ps h
  unfold DataW.trod at h
  rw [hu] at h
  split at h <;> try (rename_i he; cases he; done)
  all_goals first | (cases h; done) | skip
  all_goals first | (rename_i he; exact (he fs rfl).elim) | skip
  all_goals first | (exact (‹∀ (fs_1 : Array Field), some (TypeDesc.struct fs) = some (TypeDesc.struct fs_1) → False› fs rfl).elim) | skip
  all_goals
    rename_i he
    cases he
    split at h
    · rename_i hlen
      obtain ⟨xs, h1, h⟩ := Option.map_eq_some_iff.1 h
      cases h
      obtain ⟨vss, k1, k2⟩ := fields_read hc hl hq h1
      rw [Nat.sub_zero, List.drop_zero, ← hlen, List.take_of_length_le (Nat.le_refl _)] at k1
      exact ⟨_, k1, _, vss, rfl, rfl, k2⟩
    · cases h
theorem readsF_mono {t : TypeId} {fuel : Nat} {Q Q' : DataW H → List V → Prop} (h : ReadsF P enc sp held w fuel t Q) (hq : ∀ d vs, Q d vs → Q' d vs) : ReadsF P enc sp held w fuel t Q' := by
  intro cs d ps hd
  obtain ⟨vs, h1, h2⟩ := h cs d ps hd
  exact ⟨vs, h1, hq _ _ h2⟩
theorem reads_of {t : TypeId} {Q : DataW H → List V → Prop} (h : ∀ fuel, ReadsF P enc sp held w (fuel + 1) t Q) : Reads P enc sp held w t Q := by
  intro fuel
  cases fuel with
  | zero => intro cs d ps h; cases h
  | succ fuel => exact h fuel
theorem light_part {t : TypeId} {fs : Array Field} {ds : List (DataW H)} (hu : P.underlying t = some (.struct fs)) (h : Light P t (.agg ds)) {j : Nat} {f : Field} {d : DataW H} (hf : fs.toList[j]? = some f) (hd : ds[j]? = some d) : Light P f.type d := by
  unfold Light at h
  simp only [DataW.weights, hu] at h
  exact light_each h (j := j) (by rw [List.getElem?_map, hf]; rfl) hd
end
theorem list1 {α : Type} {l : List α} (h : l.length = 1) : ∃ a, l = [a] := by
  match l, h with
  | [a], _ => exact ⟨a, rfl⟩
theorem list2 {α : Type} {l : List α} (h : l.length = 2) : ∃ a b, l = [a, b] := by
  match l, h with
  | [a, b], _ => exact ⟨a, b, rfl⟩
theorem list5 {α : Type} {l : List α} (h : l.length = 5) : ∃ a b c d e, l = [a, b, c, d, e] := by
  match l, h with
  | [a, b, c, d, e], _ => exact ⟨a, b, c, d, e, rfl⟩
end Go.Proofs.Ytneonbdlgmaofaa.Vm
namespace Go.Proofs.Ytneonbdlgmaofaa.Vm
open Go

/-- changeling/changelinglaw10.UnifySame -/
def v3 : VFunc := ⟨70,
  .seq (.region [
    ⟨(some 2), .mv, [.c (.bool false)], [], none⟩] [0])
  (.seq (.region [
    ⟨(some 11), .mv, [.t 0], [], none⟩,
    ⟨(some 12), (.call .wr), [.c (.fn 9 []), .t 11], [11], none⟩,
    ⟨(some 10), .mv, [.t 12], [], none⟩,
    ⟨(some 13), (.extract 0), [.t 10], [], none⟩,
    ⟨(some 14), (.extract 1), [.t 10], [], none⟩,
    ⟨(some 3), .mv, [.t 13], [], none⟩,
    ⟨(some 4), .mv, [.t 14], [], none⟩] [0, 3, 4])
  (.seq (.seq (.region [
     ⟨(some 15), .mv, [.t 3], [], none⟩,
     ⟨(some 16), (.isNil false), [.t 15, .c (.nilp)], [], none⟩,
     ⟨(some 17), .mv, [.t 16], [], none⟩,
     ⟨(some 18), .mv, [.t 4], [], some (17, false)⟩,
     ⟨(some 19), .not, [.t 18], [], some (17, false)⟩,
     ⟨(some 20), .pick, [.t 17, .c (.bool true), .t 19], [], none⟩] [0, 3, 20])
   (.cond (.t 20)
    (.seq (.region [
      ⟨(some 21), .mv, [.t 3], [], none⟩,
      ⟨(some 22), (.isNil true), [.t 21, .c (.nilp)], [], none⟩,
      ⟨(some 23), .mv, [.t 22], [], none⟩,
      ⟨(some 24), (.call .wr), [.c (.fn 10 [])], [], some (23, true)⟩,
      ⟨(some 25), .pick, [.t 23, .t 24, .c (.bool false)], [], none⟩,
      ⟨(some 2), .mv, [.t 25], [], none⟩] [2])
    (.ret))
    (.skip)))
  (.seq (.seq (.region [
     ⟨(some 5), .mv, [.c (.int .i64 0)], [], none⟩] [0, 3, 5])
   (.block 0 (.loop (.seq (.seq (.region [
        ⟨(some 26), .mv, [.t 5], [], none⟩,
        ⟨(some 27), .mv, [.t 0], [], none⟩,
        ⟨(some 28), .len, [.t 27], [], none⟩,
        ⟨(some 29), (.bin .lss), [.t 26, .t 28], [], none⟩] [0, 3, 5, 29])
      (.cond (.t 29)
       (.skip)
       (.exit 0)))
     (.seq (.block 1 (.seq (.region [
         ⟨(some 33), .mv, [.t 3], [], none⟩,
         ⟨(some 34), .mv, [.t 0], [], none⟩,
         ⟨(some 35), .mv, [.t 5], [], none⟩,
         ⟨(some 36), (.indexAddr 8), [.t 34, .t 35], [], none⟩,
         ⟨(some 37), (.fieldAddr 0), [.t 36], [], none⟩,
         ⟨(some 38), (.load 4 true), [.t 37], [], none⟩,
         ⟨(some 39), (.call .wr), [.c (.fn 11 []), .t 33, .t 38], [38], none⟩,
         ⟨(some 32), .mv, [.t 39], [39], none⟩,
         ⟨(some 40), (.extract 0), [.t 32], [], none⟩,
         ⟨(some 41), (.extract 1), [.t 32], [32], none⟩,
         ⟨(some 6), (.alloc [.int .i64 0, .int .i64 0, .str [], .sl true 4 []]), [], [], none⟩,
         ⟨none, (.store 4), [.t 6, .t 40], [40], none⟩,
         ⟨(some 7), .mv, [.t 41], [], none⟩] [0, 3, 5, 6, 7])
       (.seq (.region [
         ⟨(some 43), .mv, [.t 3], [], none⟩,
         ⟨(some 44), .mv, [.t 0], [], none⟩,
         ⟨(some 45), .mv, [.t 5], [], none⟩,
         ⟨(some 46), (.indexAddr 8), [.t 44, .t 45], [], none⟩,
         ⟨(some 47), (.fieldAddr 4), [.t 46], [], none⟩,
         ⟨(some 48), (.load 4 true), [.t 47], [], none⟩,
         ⟨(some 49), (.call .wr), [.c (.fn 11 []), .t 43, .t 48], [48], none⟩,
         ⟨(some 42), .mv, [.t 49], [49], none⟩,
         ⟨(some 50), (.extract 0), [.t 42], [], none⟩,
         ⟨(some 51), (.extract 1), [.t 42], [42], none⟩,
         ⟨(some 8), (.alloc [.int .i64 0, .int .i64 0, .str [], .sl true 4 []]), [], [], none⟩,
         ⟨none, (.store 4), [.t 8, .t 50], [50], none⟩,
         ⟨(some 9), .mv, [.t 51], [], none⟩] [0, 3, 5, 6, 7, 8, 9])
       (.seq (.region [
         ⟨(some 52), .mv, [.t 7], [], none⟩,
         ⟨(some 53), .mv, [.t 9], [], none⟩,
         ⟨(some 54), (.bin .neq), [.t 52, .t 53], [], none⟩,
         ⟨(some 55), .mv, [.t 54], [], none⟩,
         ⟨(some 56), (.loadT 4 true), [.t 6], [], some (55, false)⟩,
         ⟨(some 57), (.loadT 4 true), [.t 8], [], some (55, false)⟩,
         ⟨(some 58), (.call .wr), [.c (.fn 12 []), .t 56, .t 57], [56, 57], some (55, false)⟩,
         ⟨(some 59), .not, [.t 58], [], some (55, false)⟩,
         ⟨(some 60), .pick, [.t 55, .c (.bool true), .t 59], [], none⟩,
         ⟨(some 61), .mv, [.t 60], [], none⟩,
         ⟨(some 62), .mv, [.t 7], [], some (61, false)⟩,
         ⟨(some 63), (.bin .neq), [.t 62, .c (.int .i64 0)], [], some (61, false)⟩,
         ⟨(some 64), .mv, [.t 63], [], some (61, false)⟩,
         ⟨(some 65), .mv, [.t 7], [], some (64, true)⟩,
         ⟨(some 66), (.bin .neq), [.t 65, .c (.int .i64 102)], [], some (64, true)⟩,
         ⟨(some 67), .pick, [.t 64, .t 66, .c (.bool false)], [], some (61, false)⟩,
         ⟨(some 68), .pick, [.t 61, .c (.bool true), .t 67], [], none⟩] [0, 3, 5, 68])
       (.cond (.t 68)
        (.seq (.region [
          ⟨(some 2), .mv, [.c (.bool false)], [], none⟩] [2])
        (.ret))
        (.skip))))))
     (.region [
      ⟨(some 30), .mv, [.t 5], [], none⟩,
      ⟨(some 31), (.bin .add), [.t 30, .c (.int .i64 1)], [], none⟩,
      ⟨(some 5), .mv, [.t 31], [], none⟩] [0, 3, 5]))))))
  (.seq (.region [
    ⟨(some 69), (.call .wr), [.c (.fn 10 [])], [], none⟩,
    ⟨(some 2), .mv, [.t 69], [], none⟩] [2])
  (.ret))))),
  [.tmp 2]⟩
/-- changeling/changelinglaw10.UnifyGeneral -/
def v4 : VFunc := ⟨126,
  .seq (.region [
    ⟨(some 4), .mv, [.c (.bool false)], [], none⟩] [0, 1])
  (.seq (.seq (.region [
     ⟨(some 13), .mv, [.t 0], [], none⟩,
     ⟨(some 14), (.call .wr), [.c (.fn 13 []), .t 13], [13], none⟩,
     ⟨(some 15), .not, [.t 14], [], none⟩,
     ⟨(some 16), .mv, [.t 15], [], none⟩,
     ⟨(some 17), .mv, [.t 1], [], some (16, false)⟩,
     ⟨(some 18), .len, [.t 17], [], some (16, false)⟩,
     ⟨(some 19), (.bin .gtr), [.t 18, .c (.int .i64 12)], [], some (16, false)⟩,
     ⟨(some 20), .pick, [.t 16, .c (.bool true), .t 19], [], none⟩] [0, 1, 20])
   (.cond (.t 20)
    (.seq (.region [
      ⟨(some 21), (.call .wr), [.c (.fn 10 [])], [], none⟩,
      ⟨(some 4), .mv, [.t 21], [], none⟩] [4])
    (.ret))
    (.skip)))
  (.seq (.region [
    ⟨(some 5), .mv, [.c (.sl true 1 [])], [], none⟩] [0, 1, 5])
  (.seq (.seq (.region [
     ⟨(some 6), .mv, [.c (.int .i64 0)], [], none⟩] [0, 1, 5, 6])
   (.block 0 (.loop (.seq (.seq (.region [
        ⟨(some 22), .mv, [.t 6], [], none⟩,
        ⟨(some 23), .mv, [.t 1], [], none⟩,
        ⟨(some 24), .len, [.t 23], [], none⟩,
        ⟨(some 25), (.bin .lss), [.t 22, .t 24], [], none⟩] [0, 1, 5, 6, 25])
      (.cond (.t 25)
       (.skip)
       (.exit 0)))
     (.seq (.block 1 (.seq (.region [
         ⟨(some 28), .mv, [.t 5], [5], none⟩,
         ⟨(some 29), .mv, [.t 6], [], none⟩,
         ⟨(some 30), (.buildSl 1), [.t 29], [], none⟩,
         ⟨(some 31), (.append 1 8), [.t 28, .t 30], [28], none⟩,
         ⟨(some 5), .mv, [.t 31], [31], none⟩] [0, 1, 5, 6])
       (.seq (.region [
         ⟨(some 32), .mv, [.t 1], [], none⟩,
         ⟨(some 33), .mv, [.t 6], [], none⟩,
         ⟨(some 34), (.indexAddr 4), [.t 32, .t 33], [], none⟩,
         ⟨(some 35), (.load 4 true), [.t 34], [], none⟩,
         ⟨(some 36), (.call .wr), [.c (.fn 14 []), .t 35], [35], none⟩,
         ⟨(some 37), .not, [.t 36], [], none⟩,
         ⟨(some 38), .mv, [.t 37], [], none⟩,
         ⟨(some 39), .mv, [.t 1], [], some (38, false)⟩,
         ⟨(some 40), .mv, [.t 6], [], some (38, false)⟩,
         ⟨(some 41), (.indexAddr 4), [.t 39, .t 40], [], some (38, false)⟩,
         ⟨(some 42), (.load 4 true), [.t 41], [], some (38, false)⟩,
         ⟨(some 43), (.call .wr), [.c (.fn 15 []), .t 42, .c (.int .i64 10)], [42], some (38, false)⟩,
         ⟨(some 44), (.bin .gtr), [.t 43, .c (.int .i64 10)], [], some (38, false)⟩,
         ⟨(some 45), .pick, [.t 38, .c (.bool true), .t 44], [], none⟩] [0, 1, 5, 6, 45])
       (.cond (.t 45)
        (.seq (.region [
          ⟨(some 46), (.call .wr), [.c (.fn 10 [])], [], none⟩,
          ⟨(some 4), .mv, [.t 46], [], none⟩] [4])
        (.ret))
        (.skip)))))
     (.region [
      ⟨(some 26), .mv, [.t 6], [], none⟩,
      ⟨(some 27), (.bin .add), [.t 26, .c (.int .i64 1)], [], none⟩,
      ⟨(some 6), .mv, [.t 27], [], none⟩] [0, 1, 5, 6]))))))
  (.seq (.seq (.region [
     ⟨(some 7), .mv, [.c (.int .i64 0)], [], none⟩] [0, 1, 5, 7])
   (.block 2 (.loop (.seq (.seq (.region [
        ⟨(some 47), .mv, [.t 7], [], none⟩,
        ⟨(some 48), .mv, [.t 0], [], none⟩,
        ⟨(some 49), .len, [.t 48], [], none⟩,
        ⟨(some 50), (.bin .lss), [.t 47, .t 49], [], none⟩] [0, 1, 5, 7, 50])
      (.cond (.t 50)
       (.skip)
       (.exit 2)))
     (.seq (.block 3 (.seq (.region [
         ⟨(some 53), .mv, [.t 0], [], none⟩,
         ⟨(some 54), .mv, [.t 7], [], none⟩,
         ⟨(some 55), (.indexAddr 8), [.t 53, .t 54], [], none⟩,
         ⟨(some 56), (.load 8 true), [.t 55], [], none⟩,
         ⟨(some 57), (.call .al), [.c (.fn 16 []), .t 56], [56], none⟩,
         ⟨(some 58), .not, [.t 57], [], none⟩,
         ⟨(some 59), .mv, [.t 58], [], none⟩,
         ⟨(some 60), .mv, [.t 0], [], some (59, false)⟩,
         ⟨(some 61), .mv, [.t 7], [], some (59, false)⟩,
         ⟨(some 62), (.indexAddr 8), [.t 60, .t 61], [], some (59, false)⟩,
         ⟨(some 63), (.fieldAddr 0), [.t 62], [], some (59, false)⟩,
         ⟨(some 64), (.load 4 true), [.t 63], [], some (59, false)⟩,
         ⟨(some 65), .mv, [.t 5], [], some (59, false)⟩,
         ⟨(some 66), .mv, [.t 1], [], some (59, false)⟩,
         ⟨(some 67), (.call .al), [.c (.fn 17 []), .t 64, .t 65, .t 66], [64, 65, 66], some (59, false)⟩,
         ⟨(some 68), .mv, [.t 0], [], some (59, false)⟩,
         ⟨(some 69), .mv, [.t 7], [], some (59, false)⟩,
         ⟨(some 70), (.indexAddr 8), [.t 68, .t 69], [], some (59, false)⟩,
         ⟨(some 71), (.fieldAddr 4), [.t 70], [], some (59, false)⟩,
         ⟨(some 72), (.load 4 true), [.t 71], [], some (59, false)⟩,
         ⟨(some 73), .mv, [.t 5], [], some (59, false)⟩,
         ⟨(some 74), .mv, [.t 1], [], some (59, false)⟩,
         ⟨(some 75), (.call .al), [.c (.fn 17 []), .t 72, .t 73, .t 74], [72, 73, 74], some (59, false)⟩,
         ⟨(some 76), (.call .al), [.c (.fn 12 []), .t 67, .t 75], [67, 75], some (59, false)⟩,
         ⟨(some 77), .not, [.t 76], [], some (59, false)⟩,
         ⟨(some 78), .pick, [.t 59, .c (.bool true), .t 77], [], none⟩] [0, 1, 5, 7, 78])
       (.cond (.t 78)
        (.seq (.region [
          ⟨(some 79), (.call .wr), [.c (.fn 10 [])], [], none⟩,
          ⟨(some 4), .mv, [.t 79], [], none⟩] [4])
        (.ret))
        (.skip))))
     (.region [
      ⟨(some 51), .mv, [.t 7], [], none⟩,
      ⟨(some 52), (.bin .add), [.t 51, .c (.int .i64 1)], [], none⟩,
      ⟨(some 7), .mv, [.t 52], [], none⟩] [0, 1, 5, 7]))))))
  (.seq (.region [
    ⟨(some 81), .mv, [.t 0], [], none⟩,
    ⟨(some 82), (.call .wr), [.c (.fn 9 []), .t 81], [81], none⟩,
    ⟨(some 80), .mv, [.t 82], [], none⟩,
    ⟨(some 83), (.extract 0), [.t 80], [], none⟩,
    ⟨(some 84), (.extract 1), [.t 80], [], none⟩,
    ⟨(some 8), .mv, [.t 83], [], none⟩,
    ⟨(some 9), .mv, [.t 84], [], none⟩] [0, 1, 5, 8, 9])
  (.seq (.seq (.region [
     ⟨(some 85), .mv, [.t 8], [], none⟩,
     ⟨(some 86), (.isNil false), [.t 85, .c (.nilp)], [], none⟩,
     ⟨(some 87), .mv, [.t 86], [], none⟩,
     ⟨(some 88), .mv, [.t 9], [], some (87, false)⟩,
     ⟨(some 89), .not, [.t 88], [], some (87, false)⟩,
     ⟨(some 90), .pick, [.t 87, .c (.bool true), .t 89], [], none⟩] [0, 1, 5, 8, 90])
   (.cond (.t 90)
    (.seq (.region [
      ⟨(some 4), .mv, [.c (.bool false)], [], none⟩] [4])
    (.ret))
    (.skip)))
  (.seq (.seq (.region [
     ⟨(some 10), .mv, [.c (.int .i64 0)], [], none⟩] [0, 1, 5, 8, 10])
   (.block 4 (.loop (.seq (.seq (.region [
        ⟨(some 91), .mv, [.t 10], [], none⟩,
        ⟨(some 92), .mv, [.t 0], [], none⟩,
        ⟨(some 93), .len, [.t 92], [], none⟩,
        ⟨(some 94), (.bin .lss), [.t 91, .t 93], [], none⟩] [0, 1, 5, 8, 10, 94])
      (.cond (.t 94)
       (.skip)
       (.exit 4)))
     (.seq (.block 5 (.seq (.region [
         ⟨(some 98), .mv, [.t 8], [], none⟩,
         ⟨(some 99), .mv, [.t 0], [], none⟩,
         ⟨(some 100), .mv, [.t 10], [], none⟩,
         ⟨(some 101), (.indexAddr 8), [.t 99, .t 100], [], none⟩,
         ⟨(some 102), (.fieldAddr 0), [.t 101], [], none⟩,
         ⟨(some 103), (.load 4 true), [.t 102], [], none⟩,
         ⟨(some 104), (.call .wr), [.c (.fn 11 []), .t 98, .t 103], [103], none⟩,
         ⟨(some 97), .mv, [.t 104], [104], none⟩,
         ⟨(some 105), (.extract 0), [.t 97], [], none⟩,
         ⟨(some 106), (.extract 1), [.t 97], [97], none⟩,
         ⟨(some 11), (.alloc [.int .i64 0, .int .i64 0, .str [], .sl true 4 []]), [], [], none⟩,
         ⟨none, (.store 4), [.t 11, .t 105], [105], none⟩,
         ⟨(some 12), .mv, [.t 106], [], none⟩] [0, 1, 5, 8, 10, 11, 12])
       (.seq (.region [
         ⟨(some 107), .mv, [.t 12], [], none⟩,
         ⟨(some 108), (.bin .eql), [.t 107, .c (.int .i64 0)], [], none⟩,
         ⟨(some 109), .mv, [.t 108], [], none⟩,
         ⟨(some 110), (.loadT 4 true), [.t 11], [], some (109, true)⟩,
         ⟨(some 111), .mv, [.t 5], [], some (109, true)⟩,
         ⟨(some 112), .mv, [.t 1], [], some (109, true)⟩,
         ⟨(some 113), (.call .al), [.c (.fn 17 []), .t 110, .t 111, .t 112], [110, 111, 112], some (109, true)⟩,
         ⟨(some 114), .mv, [.t 0], [], some (109, true)⟩,
         ⟨(some 115), .mv, [.t 10], [], some (109, true)⟩,
         ⟨(some 116), (.indexAddr 8), [.t 114, .t 115], [], some (109, true)⟩,
         ⟨(some 117), (.fieldAddr 0), [.t 116], [], some (109, true)⟩,
         ⟨(some 118), (.load 4 true), [.t 117], [], some (109, true)⟩,
         ⟨(some 119), .mv, [.t 5], [], some (109, true)⟩,
         ⟨(some 120), .mv, [.t 1], [], some (109, true)⟩,
         ⟨(some 121), (.call .al), [.c (.fn 17 []), .t 118, .t 119, .t 120], [118, 119, 120], some (109, true)⟩,
         ⟨(some 122), (.call .al), [.c (.fn 12 []), .t 113, .t 121], [113, 121], some (109, true)⟩,
         ⟨(some 123), .not, [.t 122], [], some (109, true)⟩,
         ⟨(some 124), .pick, [.t 109, .t 123, .c (.bool false)], [], none⟩] [0, 1, 5, 8, 10, 124])
       (.cond (.t 124)
        (.seq (.region [
          ⟨(some 4), .mv, [.c (.bool false)], [], none⟩] [4])
        (.ret))
        (.skip)))))
     (.region [
      ⟨(some 95), .mv, [.t 10], [], none⟩,
      ⟨(some 96), (.bin .add), [.t 95, .c (.int .i64 1)], [], none⟩,
      ⟨(some 10), .mv, [.t 96], [], none⟩] [0, 1, 5, 8, 10]))))))
  (.seq (.region [
    ⟨(some 125), (.call .wr), [.c (.fn 10 [])], [], none⟩,
    ⟨(some 4), .mv, [.t 125], [], none⟩] [4])
  (.ret))))))))),
  [.tmp 4]⟩
/-- changeling/changelinglaw10.UnifyBack -/
def v5 : VFunc := ⟨139,
  .seq (.region [
    ⟨(some 3), .box, [.t 1], [1], none⟩,
    ⟨(some 4), .mv, [.c (.bool false)], [], none⟩] [0, 3])
  (.seq (.region [
    ⟨(some 23), .mv, [.t 0], [], none⟩,
    ⟨(some 24), (.call .wr), [.c (.fn 9 []), .t 23], [23], none⟩,
    ⟨(some 22), .mv, [.t 24], [], none⟩,
    ⟨(some 25), (.extract 0), [.t 22], [], none⟩,
    ⟨(some 26), (.extract 1), [.t 22], [], none⟩,
    ⟨(some 5), .mv, [.t 25], [], none⟩,
    ⟨(some 6), .mv, [.t 26], [], none⟩] [0, 3, 5, 6])
  (.seq (.seq (.region [
     ⟨(some 27), .mv, [.t 5], [], none⟩,
     ⟨(some 28), (.isNil false), [.t 27, .c (.nilp)], [], none⟩,
     ⟨(some 29), .mv, [.t 28], [], none⟩,
     ⟨(some 30), .mv, [.t 6], [], some (29, false)⟩,
     ⟨(some 31), .not, [.t 30], [], some (29, false)⟩,
     ⟨(some 32), .pick, [.t 29, .c (.bool true), .t 31], [], none⟩,
     ⟨(some 33), .mv, [.t 32], [], none⟩,
     ⟨(some 34), (.load 8 true), [.t 3], [], some (33, false)⟩,
     ⟨(some 35), (.buildSl 8), [.t 34], [34], some (33, false)⟩,
     ⟨(some 36), (.call .wr), [.c (.fn 13 []), .t 35], [35], some (33, false)⟩,
     ⟨(some 37), .not, [.t 36], [], some (33, false)⟩,
     ⟨(some 38), .pick, [.t 33, .c (.bool true), .t 37], [], none⟩,
     ⟨(some 39), .mv, [.t 38], [], none⟩,
     ⟨(some 40), (.load 8 true), [.t 3], [], some (39, false)⟩,
     ⟨(some 41), (.call .wr), [.c (.fn 16 []), .t 40], [40], some (39, false)⟩,
     ⟨(some 42), .not, [.t 41], [], some (39, false)⟩,
     ⟨(some 43), .pick, [.t 39, .c (.bool true), .t 42], [], none⟩] [0, 3, 5, 43])
   (.cond (.t 43)
    (.seq (.region [
      ⟨(some 44), .mv, [.t 5], [], none⟩,
      ⟨(some 45), (.isNil true), [.t 44, .c (.nilp)], [], none⟩,
      ⟨(some 46), .mv, [.t 45], [], none⟩,
      ⟨(some 47), (.call .wr), [.c (.fn 10 [])], [], some (46, true)⟩,
      ⟨(some 48), .pick, [.t 46, .t 47, .c (.bool false)], [], none⟩,
      ⟨(some 4), .mv, [.t 48], [], none⟩] [4])
    (.ret))
    (.skip)))
  (.seq (.region [
    ⟨(some 7), .mv, [.c (.sl true 4 [])], [], none⟩] [0, 3, 5, 7])
  (.seq (.seq (.region [
     ⟨(some 8), .mv, [.c (.int .i64 0)], [], none⟩] [0, 3, 5, 7, 8])
   (.block 0 (.loop (.seq (.seq (.region [
        ⟨(some 49), .mv, [.t 8], [], none⟩,
        ⟨(some 50), .mv, [.t 0], [], none⟩,
        ⟨(some 51), .len, [.t 50], [], none⟩,
        ⟨(some 52), (.bin .lss), [.t 49, .t 51], [], none⟩] [0, 3, 5, 7, 8, 52])
      (.cond (.t 52)
       (.skip)
       (.exit 0)))
     (.seq (.block 1 (.seq (.region [
         ⟨(some 56), .mv, [.t 5], [], none⟩,
         ⟨(some 57), .mv, [.t 0], [], none⟩,
         ⟨(some 58), .mv, [.t 8], [], none⟩,
         ⟨(some 59), (.indexAddr 8), [.t 57, .t 58], [], none⟩,
         ⟨(some 60), (.fieldAddr 0), [.t 59], [], none⟩,
         ⟨(some 61), (.load 4 true), [.t 60], [], none⟩,
         ⟨(some 62), (.call .wr), [.c (.fn 11 []), .t 56, .t 61], [61], none⟩,
         ⟨(some 55), .mv, [.t 62], [62], none⟩,
         ⟨(some 63), (.extract 0), [.t 55], [], none⟩,
         ⟨(some 64), (.extract 1), [.t 55], [55], none⟩,
         ⟨(some 9), (.alloc [.int .i64 0, .int .i64 0, .str [], .sl true 4 []]), [], [], none⟩,
         ⟨none, (.store 4), [.t 9, .t 63], [63], none⟩,
         ⟨(some 10), .mv, [.t 64], [], none⟩] [0, 3, 5, 7, 8, 9])
       (.region [
        ⟨(some 65), .mv, [.t 7], [7], none⟩,
        ⟨(some 66), (.loadT 4 true), [.t 9], [], none⟩,
        ⟨(some 67), (.buildSl 4), [.t 66], [66], none⟩,
        ⟨(some 68), (.append 4 56), [.t 65, .t 67], [65], none⟩,
        ⟨(some 7), .mv, [.t 68], [68], none⟩] [0, 3, 5, 7, 8])))
     (.region [
      ⟨(some 53), .mv, [.t 8], [], none⟩,
      ⟨(some 54), (.bin .add), [.t 53, .c (.int .i64 1)], [], none⟩,
      ⟨(some 8), .mv, [.t 54], [], none⟩] [0, 3, 5, 7, 8]))))))
  (.seq (.region [
    ⟨(some 70), .mv, [.t 5], [], none⟩,
    ⟨(some 71), (.fieldAddr 0), [.t 3], [], none⟩,
    ⟨(some 72), (.load 4 true), [.t 71], [], none⟩,
    ⟨(some 73), (.call .wr), [.c (.fn 11 []), .t 70, .t 72], [72], none⟩,
    ⟨(some 69), .mv, [.t 73], [73], none⟩,
    ⟨(some 74), (.extract 0), [.t 69], [], none⟩,
    ⟨(some 75), (.extract 1), [.t 69], [69], none⟩,
    ⟨(some 11), (.alloc [.int .i64 0, .int .i64 0, .str [], .sl true 4 []]), [], [], none⟩,
    ⟨none, (.store 4), [.t 11, .t 74], [74], none⟩,
    ⟨(some 12), .mv, [.t 75], [], none⟩] [0, 3, 5, 7, 11])
  (.seq (.region [
    ⟨(some 77), .mv, [.t 5], [], none⟩,
    ⟨(some 78), (.fieldAddr 4), [.t 3], [], none⟩,
    ⟨(some 79), (.load 4 true), [.t 78], [], none⟩,
    ⟨(some 80), (.call .wr), [.c (.fn 11 []), .t 77, .t 79], [79], none⟩,
    ⟨(some 76), .mv, [.t 80], [80], none⟩,
    ⟨(some 81), (.extract 0), [.t 76], [], none⟩,
    ⟨(some 82), (.extract 1), [.t 76], [76], none⟩,
    ⟨(some 13), (.alloc [.int .i64 0, .int .i64 0, .str [], .sl true 4 []]), [], [], none⟩,
    ⟨none, (.store 4), [.t 13, .t 81], [81], none⟩,
    ⟨(some 14), .mv, [.t 82], [], none⟩] [0, 3, 5, 7, 11, 13])
  (.seq (.seq (.region [
     ⟨(some 83), .mv, [.t 5], [], none⟩,
     ⟨(some 84), (.fieldAddr 0), [.t 3], [], none⟩,
     ⟨(some 85), (.load 4 true), [.t 84], [], none⟩,
     ⟨(some 86), (.fieldAddr 4), [.t 3], [], none⟩,
     ⟨(some 87), (.load 4 true), [.t 86], [], none⟩,
     ⟨(some 88), (.call .wr), [.c (.fn 18 []), .t 83, .t 85, .t 87], [85, 87], none⟩,
     ⟨(some 89), (.bin .eql), [.t 88, .c (.int .i64 0)], [], none⟩] [0, 3, 5, 7, 11, 13, 89])
   (.cond (.t 89)
    (.seq (.region [
      ⟨(some 90), (.call .wr), [.c (.fn 10 [])], [], none⟩,
      ⟨(some 4), .mv, [.t 90], [], none⟩] [4])
    (.ret))
    (.skip)))
  (.seq (.seq (.region [
     ⟨(some 15), .mv, [.c (.int .i64 0)], [], none⟩] [0, 3, 5, 7, 11, 13, 15])
   (.block 2 (.loop (.seq (.seq (.region [
        ⟨(some 91), .mv, [.t 15], [], none⟩,
        ⟨(some 92), .mv, [.t 0], [], none⟩,
        ⟨(some 93), .len, [.t 92], [], none⟩,
        ⟨(some 94), (.bin .lss), [.t 91, .t 93], [], none⟩] [0, 3, 5, 7, 11, 13, 15, 94])
      (.cond (.t 94)
       (.skip)
       (.exit 2)))
     (.seq (.block 3 (.seq (.region [
         ⟨(some 98), .mv, [.t 5], [], none⟩,
         ⟨(some 99), .mv, [.t 0], [], none⟩,
         ⟨(some 100), .mv, [.t 15], [], none⟩,
         ⟨(some 101), (.indexAddr 8), [.t 99, .t 100], [], none⟩,
         ⟨(some 102), (.fieldAddr 0), [.t 101], [], none⟩,
         ⟨(some 103), (.load 4 true), [.t 102], [], none⟩,
         ⟨(some 104), (.call .wr), [.c (.fn 11 []), .t 98, .t 103], [103], none⟩,
         ⟨(some 97), .mv, [.t 104], [104], none⟩,
         ⟨(some 105), (.extract 0), [.t 97], [], none⟩,
         ⟨(some 106), (.extract 1), [.t 97], [97], none⟩,
         ⟨(some 16), (.alloc [.int .i64 0, .int .i64 0, .str [], .sl true 4 []]), [], [], none⟩,
         ⟨none, (.store 4), [.t 16, .t 105], [105], none⟩,
         ⟨(some 17), .mv, [.t 106], [], none⟩] [0, 3, 5, 7, 11, 13, 15, 16])
       (.seq (.region [
         ⟨(some 107), (.loadT 4 true), [.t 16], [], none⟩,
         ⟨(some 108), .mv, [.t 7], [], none⟩,
         ⟨(some 109), .mv, [.t 15], [], none⟩,
         ⟨(some 110), (.indexAddr 4), [.t 108, .t 109], [], none⟩,
         ⟨(some 111), (.load 4 true), [.t 110], [], none⟩,
         ⟨(some 112), (.call .wr), [.c (.fn 12 []), .t 107, .t 111], [107, 111], none⟩,
         ⟨(some 113), .not, [.t 112], [], none⟩] [0, 3, 5, 7, 11, 13, 15, 113])
       (.cond (.t 113)
        (.seq (.region [
          ⟨(some 4), .mv, [.c (.bool false)], [], none⟩] [4])
        (.ret))
        (.skip)))))
     (.region [
      ⟨(some 95), .mv, [.t 15], [], none⟩,
      ⟨(some 96), (.bin .add), [.t 95, .c (.int .i64 1)], [], none⟩,
      ⟨(some 15), .mv, [.t 96], [], none⟩] [0, 3, 5, 7, 11, 13, 15]))))))
  (.seq (.region [
    ⟨(some 115), .mv, [.t 5], [], none⟩,
    ⟨(some 116), (.fieldAddr 0), [.t 3], [], none⟩,
    ⟨(some 117), (.load 4 true), [.t 116], [], none⟩,
    ⟨(some 118), (.call .wr), [.c (.fn 11 []), .t 115, .t 117], [117], none⟩,
    ⟨(some 114), .mv, [.t 118], [118], none⟩,
    ⟨(some 119), (.extract 0), [.t 114], [], none⟩,
    ⟨(some 120), (.extract 1), [.t 114], [114], none⟩,
    ⟨(some 18), (.alloc [.int .i64 0, .int .i64 0, .str [], .sl true 4 []]), [], [], none⟩,
    ⟨none, (.store 4), [.t 18, .t 119], [119], none⟩,
    ⟨(some 19), .mv, [.t 120], [], none⟩] [3, 5, 11, 13, 18])
  (.seq (.region [
    ⟨(some 122), .mv, [.t 5], [], none⟩,
    ⟨(some 123), (.fieldAddr 4), [.t 3], [], none⟩,
    ⟨(some 124), (.load 4 true), [.t 123], [], none⟩,
    ⟨(some 125), (.call .wr), [.c (.fn 11 []), .t 122, .t 124], [124], none⟩,
    ⟨(some 121), .mv, [.t 125], [125], none⟩,
    ⟨(some 126), (.extract 0), [.t 121], [], none⟩,
    ⟨(some 127), (.extract 1), [.t 121], [121], none⟩,
    ⟨(some 20), (.alloc [.int .i64 0, .int .i64 0, .str [], .sl true 4 []]), [], [], none⟩,
    ⟨none, (.store 4), [.t 20, .t 126], [126], none⟩,
    ⟨(some 21), .mv, [.t 127], [], none⟩] [11, 13, 18, 20])
  (.seq (.region [
    ⟨(some 128), (.loadT 4 true), [.t 11], [], none⟩,
    ⟨(some 129), (.loadT 4 true), [.t 18], [], none⟩,
    ⟨(some 130), (.call .wr), [.c (.fn 12 []), .t 128, .t 129], [128, 129], none⟩,
    ⟨(some 131), .mv, [.t 130], [], none⟩,
    ⟨(some 132), (.loadT 4 true), [.t 13], [], some (131, true)⟩,
    ⟨(some 133), (.loadT 4 true), [.t 20], [], some (131, true)⟩,
    ⟨(some 134), (.call .wr), [.c (.fn 12 []), .t 132, .t 133], [132, 133], some (131, true)⟩,
    ⟨(some 135), .pick, [.t 131, .t 134, .c (.bool false)], [], none⟩,
    ⟨(some 136), .mv, [.t 135], [], none⟩,
    ⟨(some 137), (.call .wr), [.c (.fn 10 [])], [], some (136, true)⟩,
    ⟨(some 138), .pick, [.t 136, .t 137, .c (.bool false)], [], none⟩,
    ⟨(some 4), .mv, [.t 138], [], none⟩] [4])
  (.ret)))))))))))),
  [.tmp 4]⟩
/-- changeling/changelinglaw10.UnifyNil -/
def v7 : VFunc := ⟨101,
  .seq (.region [
    ⟨(some 2), .box, [.t 0], [0], none⟩,
    ⟨(some 3), .box, [.t 1], [1], none⟩,
    ⟨(some 4), .mv, [.c (.bool false)], [], none⟩] [2, 3])
  (.seq (.region [
    ⟨(some 5), .mv, [.c (.nilp)], [], none⟩] [2, 3, 5])
  (.seq (.region [
    ⟨(some 17), .mv, [.t 5], [], none⟩,
    ⟨(some 18), (.load 4 true), [.t 2], [], none⟩,
    ⟨(some 19), (.call .wr), [.c (.fn 11 []), .t 17, .t 18], [18], none⟩,
    ⟨(some 16), .mv, [.t 19], [19], none⟩,
    ⟨(some 20), (.extract 0), [.t 16], [], none⟩,
    ⟨(some 21), (.extract 1), [.t 16], [16], none⟩,
    ⟨(some 6), (.alloc [.int .i64 0, .int .i64 0, .str [], .sl true 4 []]), [], [], none⟩,
    ⟨none, (.store 4), [.t 6, .t 20], [20], none⟩,
    ⟨(some 7), .mv, [.t 21], [], none⟩] [2, 3, 5, 6, 7])
  (.seq (.region [
    ⟨(some 23), .mv, [.t 5], [], none⟩,
    ⟨(some 24), (.load 4 true), [.t 2], [], none⟩,
    ⟨(some 25), (.call .wr), [.c (.fn 20 []), .t 23, .t 24], [24], none⟩,
    ⟨(some 22), .mv, [.t 25], [25], none⟩,
    ⟨(some 26), (.extract 0), [.t 22], [], none⟩,
    ⟨(some 27), (.extract 1), [.t 22], [22], none⟩,
    ⟨(some 8), .mv, [.t 26], [26], none⟩,
    ⟨(some 9), .mv, [.t 27], [], none⟩] [2, 3, 5, 6, 7, 9])
  (.seq (.region [
    ⟨(some 28), (.call .wr), [.c (.fn 19 [])], [], none⟩,
    ⟨(some 10), .mv, [.t 28], [], none⟩] [2, 3, 5, 6, 7, 9, 10])
  (.seq (.seq (.region [
     ⟨(some 29), .mv, [.t 10], [], none⟩,
     ⟨(some 30), (.isNil false), [.t 29, .c (.nilp)], [], none⟩] [2, 3, 5, 6, 7, 9, 10, 30])
   (.cond (.t 30)
    (.seq (.region [
      ⟨(some 4), .mv, [.c (.bool false)], [], none⟩] [4])
    (.ret))
    (.skip)))
  (.seq (.region [
    ⟨(some 32), .mv, [.t 10], [], none⟩,
    ⟨(some 33), (.load 4 true), [.t 2], [], none⟩,
    ⟨(some 34), (.call .wr), [.c (.fn 11 []), .t 32, .t 33], [33], none⟩,
    ⟨(some 31), .mv, [.t 34], [34], none⟩,
    ⟨(some 35), (.extract 0), [.t 31], [], none⟩,
    ⟨(some 36), (.extract 1), [.t 31], [31], none⟩,
    ⟨(some 11), (.alloc [.int .i64 0, .int .i64 0, .str [], .sl true 4 []]), [], [], none⟩,
    ⟨none, (.store 4), [.t 11, .t 35], [35], none⟩,
    ⟨(some 12), .mv, [.t 36], [], none⟩] [2, 3, 5, 6, 7, 9, 10, 11, 12])
  (.seq (.region [
    ⟨(some 37), (.load 4 true), [.t 2], [], none⟩,
    ⟨(some 38), (.call .wr), [.c (.fn 14 []), .t 37], [37], none⟩,
    ⟨(some 13), .mv, [.t 38], [], none⟩] [2, 3, 5, 6, 7, 9, 10, 11, 12, 13])
  (.seq (.region [
    ⟨(some 40), .mv, [.t 10], [], none⟩,
    ⟨(some 41), (.load 4 true), [.t 2], [], none⟩,
    ⟨(some 42), (.call .wr), [.c (.fn 20 []), .t 40, .t 41], [41], none⟩,
    ⟨(some 39), .mv, [.t 42], [42], none⟩,
    ⟨(some 43), (.extract 0), [.t 39], [], none⟩,
    ⟨(some 44), (.extract 1), [.t 39], [39], none⟩,
    ⟨(some 14), .mv, [.t 43], [43], none⟩,
    ⟨(some 15), .mv, [.t 44], [], none⟩] [2, 3, 5, 6, 7, 9, 11, 12, 13, 14, 15])
  (.seq (.seq (.region [
     ⟨(some 45), .mv, [.t 9], [], none⟩,
     ⟨(some 46), (.bin .neq), [.t 45, .c (.int .i64 3)], [], none⟩,
     ⟨(some 47), .mv, [.t 46], [], none⟩,
     ⟨(some 48), .mv, [.t 15], [], some (47, false)⟩,
     ⟨(some 49), (.bin .eql), [.t 48, .c (.int .i64 1)], [], some (47, false)⟩,
     ⟨(some 50), .mv, [.t 13], [], some (47, false)⟩,
     ⟨(some 51), (.eqc false false [.b]), [.t 49, .t 50], [], some (47, false)⟩,
     ⟨(some 52), .pick, [.t 47, .c (.bool true), .t 51], [], none⟩,
     ⟨(some 53), .mv, [.t 52], [], none⟩,
     ⟨(some 54), .mv, [.t 15], [], some (53, false)⟩,
     ⟨(some 55), (.bin .neq), [.t 54, .c (.int .i64 0)], [], some (53, false)⟩,
     ⟨(some 56), .mv, [.t 55], [], some (53, false)⟩,
     ⟨(some 57), .mv, [.t 14], [14], some (56, true)⟩,
     ⟨(some 58), .len, [.t 57], [], some (56, true)⟩,
     ⟨(some 59), (.bin .neq), [.t 58, .c (.int .i64 0)], [], some (56, true)⟩,
     ⟨(some 60), .pick, [.t 56, .t 59, .c (.bool false)], [], some (53, false)⟩,
     ⟨(some 61), .pick, [.t 53, .c (.bool true), .t 60], [], none⟩] [2, 3, 5, 6, 7, 11, 12, 13, 61])
   (.cond (.t 61)
    (.seq (.region [
      ⟨(some 4), .mv, [.c (.bool false)], [], none⟩] [4])
    (.ret))
    (.skip)))
  (.seq (.region [
    ⟨(some 62), .mv, [.t 5], [], none⟩,
    ⟨(some 63), (.loadT 4 true), [.t 2], [], none⟩,
    ⟨(some 64), (.loadT 4 true), [.t 3], [], none⟩,
    ⟨(some 65), (.call .wr), [.c (.fn 18 []), .t 62, .t 63, .t 64], [63, 64], none⟩,
    ⟨(some 66), (.bin .eql), [.t 65, .c (.int .i64 3)], [], none⟩,
    ⟨(some 67), .mv, [.t 66], [], none⟩,
    ⟨(some 68), .mv, [.t 7], [], some (67, true)⟩,
    ⟨(some 69), (.bin .eql), [.t 68, .c (.int .i64 3)], [], some (67, true)⟩,
    ⟨(some 70), .pick, [.t 67, .t 69, .c (.bool false)], [], none⟩,
    ⟨(some 71), .mv, [.t 70], [], none⟩,
    ⟨(some 72), (.loadT 4 true), [.t 6], [], some (71, true)⟩,
    ⟨(some 73), (.build [.int .i64 0, .int .i64 0, .str [], .sl true 4 []] []), [], [], some (71, true)⟩,
    ⟨(some 74), (.call .wr), [.c (.fn 12 []), .t 72, .t 73], [72, 73], some (71, true)⟩,
    ⟨(some 75), .pick, [.t 71, .t 74, .c (.bool false)], [], none⟩,
    ⟨(some 76), .mv, [.t 75], [], none⟩,
    ⟨(some 77), .mv, [.t 5], [], some (76, true)⟩,
    ⟨(some 78), (.call .wr), [.c (.fn 21 []), .t 77], [], some (76, true)⟩,
    ⟨(some 79), (.call .wr), [.c (.fn 22 []), .c (.int .i64 0)], [], some (76, true)⟩,
    ⟨(some 80), (.call .wr), [.c (.fn 12 []), .t 78, .t 79], [78, 79], some (76, true)⟩,
    ⟨(some 81), .pick, [.t 76, .t 80, .c (.bool false)], [], none⟩,
    ⟨(some 82), .mv, [.t 81], [], none⟩,
    ⟨(some 83), .mv, [.t 12], [], some (82, true)⟩,
    ⟨(some 84), (.bin .eql), [.t 83, .c (.int .i64 1)], [], some (82, true)⟩,
    ⟨(some 85), .mv, [.t 13], [], some (82, true)⟩,
    ⟨(some 86), .not, [.t 85], [], some (82, true)⟩,
    ⟨(some 87), (.eqc false false [.b]), [.t 84, .t 86], [], some (82, true)⟩,
    ⟨(some 88), .pick, [.t 82, .t 87, .c (.bool false)], [], none⟩,
    ⟨(some 89), .mv, [.t 88], [], none⟩,
    ⟨(some 90), .mv, [.t 12], [], some (89, true)⟩,
    ⟨(some 91), (.bin .eql), [.t 90, .c (.int .i64 0)], [], some (89, true)⟩,
    ⟨(some 92), .mv, [.t 91], [], some (89, true)⟩,
    ⟨(some 93), (.loadT 4 true), [.t 11], [], some (92, false)⟩,
    ⟨(some 94), (.build [.int .i64 0, .int .i64 0, .str [], .sl true 4 []] []), [], [], some (92, false)⟩,
    ⟨(some 95), (.call .wr), [.c (.fn 12 []), .t 93, .t 94], [93, 94], some (92, false)⟩,
    ⟨(some 96), .pick, [.t 92, .c (.bool true), .t 95], [], some (89, true)⟩,
    ⟨(some 97), .pick, [.t 89, .t 96, .c (.bool false)], [], none⟩,
    ⟨(some 98), .mv, [.t 97], [], none⟩,
    ⟨(some 99), (.call .wr), [.c (.fn 10 [])], [], some (98, true)⟩,
    ⟨(some 100), .pick, [.t 98, .t 99, .c (.bool false)], [], none⟩,
    ⟨(some 4), .mv, [.t 100], [], none⟩] [4])
  (.ret))))))))))),
  [.tmp 4]⟩
/-- changeling/changelinglaw10.UnifyRenames -/
def v8 : VFunc := ⟨63,
  .seq (.region [
    ⟨(some 2), .box, [.t 0], [0], none⟩,
    ⟨(some 4), .mv, [.c (.bool false)], [], none⟩] [1, 2])
  (.seq (.seq (.region [
     ⟨(some 9), (.load 4 true), [.t 2], [], none⟩,
     ⟨(some 10), (.call .wr), [.c (.fn 14 []), .t 9], [9], none⟩,
     ⟨(some 11), .not, [.t 10], [], none⟩,
     ⟨(some 12), .mv, [.t 11], [], none⟩,
     ⟨(some 13), (.load 4 true), [.t 2], [], some (12, false)⟩,
     ⟨(some 14), (.call .wr), [.c (.fn 15 []), .t 13, .c (.int .i64 300)], [13], some (12, false)⟩,
     ⟨(some 15), (.bin .gtr), [.t 14, .c (.int .i64 300)], [], some (12, false)⟩,
     ⟨(some 16), .pick, [.t 12, .c (.bool true), .t 15], [], none⟩,
     ⟨(some 17), .mv, [.t 16], [], none⟩,
     ⟨(some 18), .mv, [.t 1], [], some (17, false)⟩,
     ⟨(some 19), (.bin .lss), [.t 18, .c (.int .i64 0)], [], some (17, false)⟩,
     ⟨(some 20), .pick, [.t 17, .c (.bool true), .t 19], [], none⟩,
     ⟨(some 21), .mv, [.t 20], [], none⟩,
     ⟨(some 22), .mv, [.t 1], [], some (21, false)⟩,
     ⟨(some 23), (.bin .gtr), [.t 22, .c (.int .i64 1000)], [], some (21, false)⟩,
     ⟨(some 24), .pick, [.t 21, .c (.bool true), .t 23], [], none⟩] [1, 2, 24])
   (.cond (.t 24)
    (.seq (.region [
      ⟨(some 25), (.call .wr), [.c (.fn 10 [])], [], none⟩,
      ⟨(some 4), .mv, [.t 25], [], none⟩] [4])
    (.ret))
    (.skip)))
  (.seq (.region [
    ⟨(some 26), (.load 4 true), [.t 2], [], none⟩,
    ⟨(some 27), (.buildSl 1), [], [], none⟩,
    ⟨(some 28), (.call .wr), [.c (.fn 23 []), .t 26, .t 27], [26, 27], none⟩,
    ⟨(some 5), .mv, [.t 28], [28], none⟩] [1, 2, 5])
  (.seq (.region [
    ⟨(some 6), .mv, [.c (.sl true 4 [])], [], none⟩] [1, 2, 5, 6])
  (.seq (.seq (.region [
     ⟨(some 7), .mv, [.c (.int .i64 0)], [], none⟩] [1, 2, 5, 6, 7])
   (.block 0 (.loop (.seq (.seq (.region [
        ⟨(some 29), .mv, [.t 7], [], none⟩,
        ⟨(some 30), .mv, [.t 5], [], none⟩,
        ⟨(some 31), .len, [.t 30], [], none⟩,
        ⟨(some 32), (.bin .lss), [.t 29, .t 31], [], none⟩] [1, 2, 5, 6, 7, 32])
      (.cond (.t 32)
       (.skip)
       (.exit 0)))
     (.seq (.block 1 (.region [
        ⟨(some 35), .mv, [.t 6], [6], none⟩,
        ⟨(some 36), .mv, [.t 1], [], none⟩,
        ⟨(some 37), .mv, [.t 5], [], none⟩,
        ⟨(some 38), .len, [.t 37], [], none⟩,
        ⟨(some 39), (.bin .add), [.t 36, .t 38], [], none⟩,
        ⟨(some 40), .mv, [.t 7], [], none⟩,
        ⟨(some 41), (.bin .sub), [.t 39, .t 40], [], none⟩,
        ⟨(some 42), (.call .wr), [.c (.fn 22 []), .t 41], [], none⟩,
        ⟨(some 43), (.buildSl 4), [.t 42], [42], none⟩,
        ⟨(some 44), (.append 4 56), [.t 35, .t 43], [35], none⟩,
        ⟨(some 6), .mv, [.t 44], [44], none⟩] [1, 2, 5, 6, 7]))
     (.region [
      ⟨(some 33), .mv, [.t 7], [], none⟩,
      ⟨(some 34), (.bin .add), [.t 33, .c (.int .i64 1)], [], none⟩,
      ⟨(some 7), .mv, [.t 34], [], none⟩] [1, 2, 5, 6, 7]))))))
  (.seq (.region [
    ⟨(some 45), (.load 4 true), [.t 2], [], none⟩,
    ⟨(some 46), (.call .wr), [.c (.fn 24 []), .t 45], [45], none⟩,
    ⟨(some 8), (.alloc [.int .i64 0, .int .i64 0, .str [], .sl true 4 []]), [], [], none⟩,
    ⟨none, (.store 4), [.t 8, .t 46], [46], none⟩] [2, 5, 6, 8])
  (.seq (.region [
    ⟨(some 47), (.load 4 true), [.t 8], [], none⟩,
    ⟨(some 48), (.loadT 4 true), [.t 2], [], none⟩,
    ⟨(some 49), .mv, [.t 5], [5], none⟩,
    ⟨(some 50), .mv, [.t 6], [6], none⟩,
    ⟨(some 51), (.call .al), [.c (.fn 17 []), .t 48, .t 49, .t 50], [48, 49, 50], none⟩,
    ⟨(some 52), (.call .al), [.c (.fn 24 []), .t 51], [51], none⟩,
    ⟨(some 53), (.call .al), [.c (.fn 12 []), .t 47, .t 52], [47, 52], none⟩,
    ⟨(some 54), .mv, [.t 53], [], none⟩,
    ⟨(some 55), (.load 4 true), [.t 8], [], some (54, true)⟩,
    ⟨(some 56), (.loadT 4 true), [.t 8], [], some (54, true)⟩,
    ⟨(some 57), (.call .al), [.c (.fn 24 []), .t 56], [56], some (54, true)⟩,
    ⟨(some 58), (.call .al), [.c (.fn 12 []), .t 55, .t 57], [55, 57], some (54, true)⟩,
    ⟨(some 59), .pick, [.t 54, .t 58, .c (.bool false)], [], none⟩,
    ⟨(some 60), .mv, [.t 59], [], none⟩,
    ⟨(some 61), (.call .al), [.c (.fn 10 [])], [], some (60, true)⟩,
    ⟨(some 62), .pick, [.t 60, .t 61, .c (.bool false)], [], none⟩,
    ⟨(some 4), .mv, [.t 62], [], none⟩] [4])
  (.ret))))))),
  [.tmp 4]⟩
/-- changeling/changelinglaw10.joined -/
def v9 : VFunc := ⟨36,
  .seq (.region [
    ⟨(some 2), .mv, [.c (.nilp)], [], none⟩,
    ⟨(some 3), .mv, [.c (.bool false)], [], none⟩] [0])
  (.seq (.region [
    ⟨(some 6), (.call .wr), [.c (.fn 19 [])], [], none⟩,
    ⟨(some 4), .mv, [.t 6], [], none⟩] [0, 4])
  (.seq (.seq (.region [
     ⟨(some 7), .mv, [.t 4], [], none⟩,
     ⟨(some 8), (.isNil false), [.t 7, .c (.nilp)], [], none⟩,
     ⟨(some 9), .mv, [.t 8], [], none⟩,
     ⟨(some 10), .mv, [.t 0], [], some (9, false)⟩,
     ⟨(some 11), (.call .wr), [.c (.fn 13 []), .t 10], [10], some (9, false)⟩,
     ⟨(some 12), .not, [.t 11], [], some (9, false)⟩,
     ⟨(some 13), .pick, [.t 9, .c (.bool true), .t 12], [], none⟩] [0, 4, 13])
   (.cond (.t 13)
    (.seq (.region [
      ⟨(some 14), .mv, [.t 4], [], none⟩,
      ⟨(some 2), .mv, [.t 14], [], none⟩,
      ⟨(some 3), .mv, [.c (.bool false)], [], none⟩] [2, 3])
    (.ret))
    (.skip)))
  (.seq (.seq (.region [
     ⟨(some 5), .mv, [.c (.int .i64 0)], [], none⟩] [0, 4, 5])
   (.block 0 (.loop (.seq (.seq (.region [
        ⟨(some 15), .mv, [.t 5], [], none⟩,
        ⟨(some 16), .mv, [.t 0], [], none⟩,
        ⟨(some 17), .len, [.t 16], [], none⟩,
        ⟨(some 18), (.bin .lss), [.t 15, .t 17], [], none⟩] [0, 4, 5, 18])
      (.cond (.t 18)
       (.skip)
       (.exit 0)))
     (.seq (.block 1 (.seq (.region [
         ⟨(some 21), .mv, [.t 4], [], none⟩,
         ⟨(some 22), .mv, [.t 0], [], none⟩,
         ⟨(some 23), .mv, [.t 5], [], none⟩,
         ⟨(some 24), (.indexAddr 8), [.t 22, .t 23], [], none⟩,
         ⟨(some 25), (.fieldAddr 0), [.t 24], [], none⟩,
         ⟨(some 26), (.load 4 true), [.t 25], [], none⟩,
         ⟨(some 27), .mv, [.t 0], [], none⟩,
         ⟨(some 28), .mv, [.t 5], [], none⟩,
         ⟨(some 29), (.indexAddr 8), [.t 27, .t 28], [], none⟩,
         ⟨(some 30), (.fieldAddr 4), [.t 29], [], none⟩,
         ⟨(some 31), (.load 4 true), [.t 30], [], none⟩,
         ⟨(some 32), (.call .wr), [.c (.fn 18 []), .t 21, .t 26, .t 31], [26, 31], none⟩,
         ⟨(some 33), (.bin .neq), [.t 32, .c (.int .i64 0)], [], none⟩] [0, 4, 5, 33])
       (.cond (.t 33)
        (.seq (.region [
          ⟨(some 34), .mv, [.t 4], [], none⟩,
          ⟨(some 2), .mv, [.t 34], [], none⟩,
          ⟨(some 3), .mv, [.c (.bool false)], [], none⟩] [2, 3])
        (.ret))
        (.skip))))
     (.region [
      ⟨(some 19), .mv, [.t 5], [], none⟩,
      ⟨(some 20), (.bin .add), [.t 19, .c (.int .i64 1)], [], none⟩,
      ⟨(some 5), .mv, [.t 20], [], none⟩] [0, 4, 5]))))))
  (.seq (.region [
    ⟨(some 35), .mv, [.t 4], [], none⟩,
    ⟨(some 2), .mv, [.t 35], [], none⟩,
    ⟨(some 3), .mv, [.c (.bool true)], [], none⟩] [2, 3])
  (.ret))))),
  [.tmp 2, .tmp 3]⟩
/-- changeling/changelinglaw10.known -/
def v10 : VFunc := ⟨61,
  .seq (.region [
    ⟨(some 0), .mv, [.c (.bool false)], [], none⟩] [])
  (.seq (.region [
    ⟨(some 7), (.call .wr), [.c (.fn 19 [])], [], none⟩,
    ⟨(some 1), .mv, [.t 7], [], none⟩] [1])
  (.seq (.seq (.region [
     ⟨(some 8), .mv, [.t 1], [], none⟩,
     ⟨(some 9), (.isNil false), [.t 8, .c (.nilp)], [], none⟩] [1, 9])
   (.cond (.t 9)
    (.seq (.region [
      ⟨(some 0), .mv, [.c (.bool false)], [], none⟩] [0])
    (.ret))
    (.skip)))
  (.seq (.region [
    ⟨(some 10), .mv, [.t 1], [], none⟩,
    ⟨(some 11), (.call .wr), [.c (.fn 22 []), .c (.int .i64 0)], [], none⟩,
    ⟨(some 12), (.call .wr), [.c (.fn 26 []), .c (.str [73, 110, 116])], [], none⟩,
    ⟨(some 13), (.call .wr), [.c (.fn 22 []), .c (.int .i64 1)], [], none⟩,
    ⟨(some 14), (.call .wr), [.c (.fn 25 []), .t 12, .t 13], [12, 13], none⟩,
    ⟨(some 15), (.call .wr), [.c (.fn 18 []), .t 10, .t 11, .t 14], [11, 14], none⟩,
    ⟨(some 2), .mv, [.t 15], [], none⟩] [1, 2])
  (.seq (.region [
    ⟨(some 16), .mv, [.t 1], [], none⟩,
    ⟨(some 17), (.call .wr), [.c (.fn 22 []), .c (.int .i64 0)], [], none⟩,
    ⟨(some 18), (.call .wr), [.c (.fn 22 []), .c (.int .i64 2)], [], none⟩,
    ⟨(some 19), (.call .wr), [.c (.fn 26 []), .c (.str [66, 111, 111, 108])], [], none⟩,
    ⟨(some 20), (.call .wr), [.c (.fn 25 []), .t 18, .t 19], [18, 19], none⟩,
    ⟨(some 21), (.call .wr), [.c (.fn 18 []), .t 16, .t 17, .t 20], [17, 20], none⟩,
    ⟨(some 3), .mv, [.t 21], [], none⟩] [1, 2, 3])
  (.seq (.region [
    ⟨(some 23), .mv, [.t 1], [], none⟩,
    ⟨(some 24), (.call .wr), [.c (.fn 22 []), .c (.int .i64 0)], [], none⟩,
    ⟨(some 25), (.call .wr), [.c (.fn 11 []), .t 23, .t 24], [24], none⟩,
    ⟨(some 22), .mv, [.t 25], [25], none⟩,
    ⟨(some 26), (.extract 0), [.t 22], [], none⟩,
    ⟨(some 27), (.extract 1), [.t 22], [22], none⟩,
    ⟨(some 4), (.alloc [.int .i64 0, .int .i64 0, .str [], .sl true 4 []]), [], [], none⟩,
    ⟨none, (.store 4), [.t 4, .t 26], [26], none⟩,
    ⟨(some 5), .mv, [.t 27], [], none⟩] [1, 2, 3, 4, 5])
  (.seq (.region [
    ⟨(some 28), (.call .wr), [.c (.fn 19 [])], [], none⟩,
    ⟨(some 29), (.call .wr), [.c (.fn 22 []), .c (.int .i64 0)], [], none⟩,
    ⟨(some 30), (.call .wr), [.c (.fn 22 []), .c (.int .i64 0)], [], none⟩,
    ⟨(some 31), (.call .wr), [.c (.fn 26 []), .c (.str [73, 110, 116])], [], none⟩,
    ⟨(some 32), (.call .wr), [.c (.fn 25 []), .t 30, .t 31], [30, 31], none⟩,
    ⟨(some 33), (.call .wr), [.c (.fn 18 []), .t 28, .t 29, .t 32], [29, 32], none⟩,
    ⟨(some 6), .mv, [.t 33], [], none⟩] [1, 2, 3, 4, 5, 6])
  (.seq (.region [
    ⟨(some 34), .mv, [.t 2], [], none⟩,
    ⟨(some 35), (.bin .eql), [.t 34, .c (.int .i64 0)], [], none⟩,
    ⟨(some 36), .mv, [.t 35], [], none⟩,
    ⟨(some 37), .mv, [.t 3], [], some (36, true)⟩,
    ⟨(some 38), (.bin .eql), [.t 37, .c (.int .i64 0)], [], some (36, true)⟩,
    ⟨(some 39), .pick, [.t 36, .t 38, .c (.bool false)], [], none⟩,
    ⟨(some 40), .mv, [.t 39], [], none⟩,
    ⟨(some 41), .mv, [.t 5], [], some (40, true)⟩,
    ⟨(some 42), (.bin .eql), [.t 41, .c (.int .i64 0)], [], some (40, true)⟩,
    ⟨(some 43), .pick, [.t 40, .t 42, .c (.bool false)], [], none⟩,
    ⟨(some 44), .mv, [.t 43], [], none⟩,
    ⟨(some 45), (.loadT 4 true), [.t 4], [], some (44, true)⟩,
    ⟨(some 46), (.call .al), [.c (.fn 26 []), .c (.str [73, 110, 116])], [], some (44, true)⟩,
    ⟨(some 47), (.call .al), [.c (.fn 26 []), .c (.str [66, 111, 111, 108])], [], some (44, true)⟩,
    ⟨(some 48), (.call .al), [.c (.fn 25 []), .t 46, .t 47], [46, 47], some (44, true)⟩,
    ⟨(some 49), (.call .al), [.c (.fn 12 []), .t 45, .t 48], [45, 48], some (44, true)⟩,
    ⟨(some 50), .pick, [.t 44, .t 49, .c (.bool false)], [], none⟩,
    ⟨(some 51), .mv, [.t 50], [], none⟩,
    ⟨(some 52), .mv, [.t 6], [], some (51, true)⟩,
    ⟨(some 53), (.bin .eql), [.t 52, .c (.int .i64 101)], [], some (51, true)⟩,
    ⟨(some 54), .pick, [.t 51, .t 53, .c (.bool false)], [], none⟩,
    ⟨(some 55), .mv, [.t 54], [], none⟩,
    ⟨(some 56), .mv, [.t 1], [], some (55, true)⟩,
    ⟨(some 57), (.call .wr), [.c (.fn 21 []), .t 56], [], some (55, true)⟩,
    ⟨(some 58), (.call .al), [.c (.fn 22 []), .c (.int .i64 3)], [], some (55, true)⟩,
    ⟨(some 59), (.call .al), [.c (.fn 12 []), .t 57, .t 58], [57, 58], some (55, true)⟩,
    ⟨(some 60), .pick, [.t 55, .t 59, .c (.bool false)], [], none⟩,
    ⟨(some 0), .mv, [.t 60], [], none⟩] [0])
  (.ret)))))))),
  [.tmp 0]⟩
/-- (*changeling/unify.Store).Resolve -/
def v11 : VFunc := ⟨40,
  .seq (.region [
    ⟨(some 3), .box, [.t 1], [1], none⟩,
    ⟨(some 4), (.alloc [.int .i64 0, .int .i64 0, .str [], .sl true 4 []]), [], [], none⟩,
    ⟨(some 5), .mv, [.c (.int .i64 0)], [], none⟩] [0, 3, 4])
  (.seq (.block 0 (.seq (.region [
      ⟨(some 9), .mv, [.t 0], [], none⟩,
      ⟨(some 10), (.isNil false), [.t 9, .c (.nilp)], [], none⟩,
      ⟨(some 11), .mv, [.t 10], [], none⟩,
      ⟨(some 12), .mv, [.t 0], [], some (11, false)⟩,
      ⟨(some 13), .nilCheck, [.t 12], [], some (11, false)⟩,
      ⟨(some 14), (.fieldAddr 0), [.t 13], [], some (11, false)⟩,
      ⟨(some 15), (.load 1 false), [.t 14], [], some (11, false)⟩,
      ⟨(some 16), (.isNil false), [.t 15, .c (.nilmap)], [], some (11, false)⟩,
      ⟨(some 17), .pick, [.t 11, .c (.bool true), .t 16], [], none⟩,
      ⟨(some 8), .mv, [.t 17], [], none⟩] [0, 3, 4, 8])
    (.cond (.t 8)
     (.seq (.region [
       ⟨(some 18), (.build [.int .i64 0, .int .i64 0, .str [], .sl true 4 []] []), [], [], none⟩,
       ⟨none, (.store 4), [.t 4, .t 18], [18], none⟩,
       ⟨(some 5), .mv, [.c (.int .i64 3)], [], none⟩] [4, 5])
     (.ret))
     (.seq (.region [
       ⟨(some 20), (.load 4 true), [.t 3], [], none⟩,
       ⟨(some 21), (.call .wr), [.c (.fn 27 []), .t 20], [20], none⟩,
       ⟨(some 22), .not, [.t 21], [], none⟩,
       ⟨(some 19), .mv, [.t 22], [], none⟩] [0, 3, 4, 19])
     (.cond (.t 19)
      (.seq (.region [
        ⟨(some 23), (.build [.int .i64 0, .int .i64 0, .str [], .sl true 4 []] []), [], [], none⟩,
        ⟨none, (.store 4), [.t 4, .t 23], [23], none⟩,
        ⟨(some 5), .mv, [.c (.int .i64 1)], [], none⟩] [4, 5])
      (.ret))
      (.skip))))))
  (.seq (.region [
    ⟨(some 24), .mv, [.t 0], [], none⟩,
    ⟨(some 25), (.load 4 true), [.t 3], [], none⟩,
    ⟨(some 26), (.call .wr), [.c (.fn 28 []), .t 24, .t 25], [25], none⟩] [0, 3, 4])
  (.seq (.region [
    ⟨(some 27), .mv, [.t 0], [], none⟩,
    ⟨(some 28), (.build [.nilp, .int .i64 0] [(0, 1)]), [.t 27], [], none⟩,
    ⟨(some 29), .box, [.t 28], [], none⟩,
    ⟨(some 6), .mv, [.t 29], [], none⟩] [3, 4, 6])
  (.seq (.region [
    ⟨(some 30), .mv, [.t 6], [], none⟩,
    ⟨(some 31), (.loadT 4 true), [.t 3], [], none⟩,
    ⟨(some 32), (.call .wr), [.c (.fn 29 []), .t 30, .t 31], [31], none⟩,
    ⟨(some 7), (.alloc [.int .i64 0, .int .i64 0, .str [], .sl true 4 []]), [], [], none⟩,
    ⟨none, (.store 4), [.t 7, .t 32], [32], none⟩] [4, 6, 7])
  (.seq (.seq (.region [
     ⟨(some 33), .mv, [.t 6], [], none⟩,
     ⟨(some 34), .nilCheck, [.t 33], [], none⟩,
     ⟨(some 35), (.fieldAddr 1), [.t 34], [], none⟩,
     ⟨(some 36), (.load 1 false), [.t 35], [], none⟩,
     ⟨(some 37), (.bin .gtr), [.t 36, .c (.int .i64 256)], [], none⟩] [4, 7, 37])
   (.cond (.t 37)
    (.seq (.region [
      ⟨(some 38), (.build [.int .i64 0, .int .i64 0, .str [], .sl true 4 []] []), [], [], none⟩,
      ⟨none, (.store 4), [.t 4, .t 38], [38], none⟩,
      ⟨(some 5), .mv, [.c (.int .i64 102)], [], none⟩] [4, 5])
    (.ret))
    (.skip)))
  (.seq (.region [
    ⟨(some 39), (.loadT 4 true), [.t 7], [], none⟩,
    ⟨none, (.store 4), [.t 4, .t 39], [39], none⟩,
    ⟨(some 5), .mv, [.c (.int .i64 0)], [], none⟩] [4, 5])
  (.ret))))))),
  [.cell 4 4 true, .tmp 5]⟩
/-- changeling/changelingref10.Same -/
def v12 : VFunc := ⟨53,
  .seq (.region [
    ⟨(some 2), .box, [.t 0], [0], none⟩,
    ⟨(some 3), .box, [.t 1], [1], none⟩,
    ⟨(some 4), .mv, [.c (.bool false)], [], none⟩] [2, 3])
  (.seq (.seq (.region [
     ⟨(some 6), (.fieldAddr 0), [.t 2], [], none⟩,
     ⟨(some 7), (.load 1 false), [.t 6], [], none⟩,
     ⟨(some 8), (.fieldAddr 0), [.t 3], [], none⟩,
     ⟨(some 9), (.load 1 false), [.t 8], [], none⟩,
     ⟨(some 10), (.bin .neq), [.t 7, .t 9], [], none⟩,
     ⟨(some 11), .mv, [.t 10], [], none⟩,
     ⟨(some 12), (.fieldAddr 1), [.t 2], [], some (11, false)⟩,
     ⟨(some 13), (.load 1 false), [.t 12], [], some (11, false)⟩,
     ⟨(some 14), (.fieldAddr 1), [.t 3], [], some (11, false)⟩,
     ⟨(some 15), (.load 1 false), [.t 14], [], some (11, false)⟩,
     ⟨(some 16), (.bin .neq), [.t 13, .t 15], [], some (11, false)⟩,
     ⟨(some 17), .pick, [.t 11, .c (.bool true), .t 16], [], none⟩,
     ⟨(some 18), .mv, [.t 17], [], none⟩,
     ⟨(some 19), (.fieldAddr 2), [.t 2], [], some (18, false)⟩,
     ⟨(some 20), (.load 1 false), [.t 19], [], some (18, false)⟩,
     ⟨(some 21), (.fieldAddr 2), [.t 3], [], some (18, false)⟩,
     ⟨(some 22), (.load 1 false), [.t 21], [], some (18, false)⟩,
     ⟨(some 23), (.bin .neq), [.t 20, .t 22], [], some (18, false)⟩,
     ⟨(some 24), .pick, [.t 18, .c (.bool true), .t 23], [], none⟩,
     ⟨(some 25), .mv, [.t 24], [], none⟩,
     ⟨(some 26), (.fieldAddr 3), [.t 2], [], some (25, false)⟩,
     ⟨(some 27), (.load 1 false), [.t 26], [], some (25, false)⟩,
     ⟨(some 28), .len, [.t 27], [], some (25, false)⟩,
     ⟨(some 29), (.fieldAddr 3), [.t 3], [], some (25, false)⟩,
     ⟨(some 30), (.load 1 false), [.t 29], [], some (25, false)⟩,
     ⟨(some 31), .len, [.t 30], [], some (25, false)⟩,
     ⟨(some 32), (.bin .neq), [.t 28, .t 31], [], some (25, false)⟩,
     ⟨(some 33), .pick, [.t 25, .c (.bool true), .t 32], [], none⟩] [2, 3, 33])
   (.cond (.t 33)
    (.seq (.region [
      ⟨(some 4), .mv, [.c (.bool false)], [], none⟩] [4])
    (.ret))
    (.skip)))
  (.seq (.seq (.region [
     ⟨(some 5), .mv, [.c (.int .i64 0)], [], none⟩] [2, 3, 5])
   (.block 0 (.loop (.seq (.seq (.region [
        ⟨(some 34), .mv, [.t 5], [], none⟩,
        ⟨(some 35), (.fieldAddr 3), [.t 2], [], none⟩,
        ⟨(some 36), (.load 1 false), [.t 35], [], none⟩,
        ⟨(some 37), .len, [.t 36], [], none⟩,
        ⟨(some 38), (.bin .lss), [.t 34, .t 37], [], none⟩] [2, 3, 5, 38])
      (.cond (.t 38)
       (.skip)
       (.exit 0)))
     (.seq (.block 1 (.seq (.region [
         ⟨(some 41), (.fieldAddr 3), [.t 2], [], none⟩,
         ⟨(some 42), (.load 1 false), [.t 41], [], none⟩,
         ⟨(some 43), .mv, [.t 5], [], none⟩,
         ⟨(some 44), (.indexAddr 4), [.t 42, .t 43], [], none⟩,
         ⟨(some 45), (.load 4 true), [.t 44], [], none⟩,
         ⟨(some 46), (.fieldAddr 3), [.t 3], [], none⟩,
         ⟨(some 47), (.load 1 false), [.t 46], [], none⟩,
         ⟨(some 48), .mv, [.t 5], [], none⟩,
         ⟨(some 49), (.indexAddr 4), [.t 47, .t 48], [], none⟩,
         ⟨(some 50), (.load 4 true), [.t 49], [], none⟩,
         ⟨(some 51), (.call .wr), [.c (.fn 12 []), .t 45, .t 50], [45, 50], none⟩,
         ⟨(some 52), .not, [.t 51], [], none⟩] [2, 3, 5, 52])
       (.cond (.t 52)
        (.seq (.region [
          ⟨(some 4), .mv, [.c (.bool false)], [], none⟩] [4])
        (.ret))
        (.skip))))
     (.region [
      ⟨(some 39), .mv, [.t 5], [], none⟩,
      ⟨(some 40), (.bin .add), [.t 39, .c (.int .i64 1)], [], none⟩,
      ⟨(some 5), .mv, [.t 40], [], none⟩] [2, 3, 5]))))))
  (.seq (.region [
    ⟨(some 4), .mv, [.c (.bool true)], [], none⟩] [4])
  (.ret)))),
  [.tmp 4]⟩
/-- changeling/changelinglaw10.few -/
def v13 : VFunc := ⟨29,
  .seq (.region [
    ⟨(some 2), .mv, [.c (.bool false)], [], none⟩] [0])
  (.seq (.seq (.region [
     ⟨(some 4), .mv, [.t 0], [], none⟩,
     ⟨(some 5), .len, [.t 4], [], none⟩,
     ⟨(some 6), (.bin .gtr), [.t 5, .c (.int .i64 40)], [], none⟩] [0, 6])
   (.cond (.t 6)
    (.seq (.region [
      ⟨(some 2), .mv, [.c (.bool false)], [], none⟩] [2])
    (.ret))
    (.skip)))
  (.seq (.seq (.region [
     ⟨(some 3), .mv, [.c (.int .i64 0)], [], none⟩] [0, 3])
   (.block 0 (.loop (.seq (.seq (.region [
        ⟨(some 7), .mv, [.t 3], [], none⟩,
        ⟨(some 8), .mv, [.t 0], [], none⟩,
        ⟨(some 9), .len, [.t 8], [], none⟩,
        ⟨(some 10), (.bin .lss), [.t 7, .t 9], [], none⟩] [0, 3, 10])
      (.cond (.t 10)
       (.skip)
       (.exit 0)))
     (.seq (.block 1 (.seq (.region [
         ⟨(some 13), .mv, [.t 0], [], none⟩,
         ⟨(some 14), .mv, [.t 3], [], none⟩,
         ⟨(some 15), (.indexAddr 8), [.t 13, .t 14], [], none⟩,
         ⟨(some 16), (.fieldAddr 0), [.t 15], [], none⟩,
         ⟨(some 17), (.load 4 true), [.t 16], [], none⟩,
         ⟨(some 18), (.call .wr), [.c (.fn 15 []), .t 17, .c (.int .i64 60)], [17], none⟩,
         ⟨(some 19), (.bin .gtr), [.t 18, .c (.int .i64 60)], [], none⟩,
         ⟨(some 20), .mv, [.t 19], [], none⟩,
         ⟨(some 21), .mv, [.t 0], [], some (20, false)⟩,
         ⟨(some 22), .mv, [.t 3], [], some (20, false)⟩,
         ⟨(some 23), (.indexAddr 8), [.t 21, .t 22], [], some (20, false)⟩,
         ⟨(some 24), (.fieldAddr 4), [.t 23], [], some (20, false)⟩,
         ⟨(some 25), (.load 4 true), [.t 24], [], some (20, false)⟩,
         ⟨(some 26), (.call .wr), [.c (.fn 15 []), .t 25, .c (.int .i64 60)], [25], some (20, false)⟩,
         ⟨(some 27), (.bin .gtr), [.t 26, .c (.int .i64 60)], [], some (20, false)⟩,
         ⟨(some 28), .pick, [.t 20, .c (.bool true), .t 27], [], none⟩] [0, 3, 28])
       (.cond (.t 28)
        (.seq (.region [
          ⟨(some 2), .mv, [.c (.bool false)], [], none⟩] [2])
        (.ret))
        (.skip))))
     (.region [
      ⟨(some 11), .mv, [.t 3], [], none⟩,
      ⟨(some 12), (.bin .add), [.t 11, .c (.int .i64 1)], [], none⟩,
      ⟨(some 3), .mv, [.t 12], [], none⟩] [0, 3]))))))
  (.seq (.region [
    ⟨(some 2), .mv, [.c (.bool true)], [], none⟩] [2])
  (.ret)))),
  [.tmp 2]⟩
/-- changeling/changelingref10.Right -/
def v14 : VFunc := ⟨73,
  .seq (.region [
    ⟨(some 1), .box, [.t 0], [0], none⟩,
    ⟨(some 2), .mv, [.c (.bool false)], [], none⟩] [1])
  (.seq (.seq (.region [
     ⟨(some 4), (.fieldAddr 0), [.t 1], [], none⟩,
     ⟨(some 5), (.load 1 false), [.t 4], [], none⟩,
     ⟨(some 6), (.bin .eql), [.t 5, .c (.int .i64 1)], [], none⟩] [1, 6])
   (.cond (.t 6)
    (.seq (.region [
      ⟨(some 7), (.fieldAddr 1), [.t 1], [], none⟩,
      ⟨(some 8), (.load 1 false), [.t 7], [], none⟩,
      ⟨(some 9), (.bin .geq), [.t 8, .c (.int .i64 0)], [], none⟩,
      ⟨(some 10), .mv, [.t 9], [], none⟩,
      ⟨(some 11), (.fieldAddr 1), [.t 1], [], some (10, true)⟩,
      ⟨(some 12), (.load 1 false), [.t 11], [], some (10, true)⟩,
      ⟨(some 13), (.bin .leq), [.t 12, .c (.int .i64 1073741824)], [], some (10, true)⟩,
      ⟨(some 14), .pick, [.t 10, .t 13, .c (.bool false)], [], none⟩,
      ⟨(some 15), .mv, [.t 14], [], none⟩,
      ⟨(some 16), (.fieldAddr 2), [.t 1], [], some (15, true)⟩,
      ⟨(some 17), (.load 1 false), [.t 16], [], some (15, true)⟩,
      ⟨(some 18), (.bin .eql), [.t 17, .c (.str [])], [], some (15, true)⟩,
      ⟨(some 19), .pick, [.t 15, .t 18, .c (.bool false)], [], none⟩,
      ⟨(some 20), .mv, [.t 19], [], none⟩,
      ⟨(some 21), (.fieldAddr 3), [.t 1], [], some (20, true)⟩,
      ⟨(some 22), (.load 1 false), [.t 21], [], some (20, true)⟩,
      ⟨(some 23), .len, [.t 22], [], some (20, true)⟩,
      ⟨(some 24), (.bin .eql), [.t 23, .c (.int .i64 0)], [], some (20, true)⟩,
      ⟨(some 25), .pick, [.t 20, .t 24, .c (.bool false)], [], none⟩,
      ⟨(some 2), .mv, [.t 25], [], none⟩] [2])
    (.ret))
    (.skip)))
  (.seq (.seq (.region [
     ⟨(some 26), (.fieldAddr 1), [.t 1], [], none⟩,
     ⟨(some 27), (.load 1 false), [.t 26], [], none⟩,
     ⟨(some 28), (.bin .neq), [.t 27, .c (.int .i64 0)], [], none⟩,
     ⟨(some 29), .mv, [.t 28], [], none⟩,
     ⟨(some 30), (.fieldAddr 0), [.t 1], [], some (29, false)⟩,
     ⟨(some 31), (.load 1 false), [.t 30], [], some (29, false)⟩,
     ⟨(some 32), (.bin .neq), [.t 31, .c (.int .i64 2)], [], some (29, false)⟩,
     ⟨(some 33), .mv, [.t 32], [], some (29, false)⟩,
     ⟨(some 34), (.fieldAddr 0), [.t 1], [], some (33, true)⟩,
     ⟨(some 35), (.load 1 false), [.t 34], [], some (33, true)⟩,
     ⟨(some 36), (.bin .neq), [.t 35, .c (.int .i64 3)], [], some (33, true)⟩,
     ⟨(some 37), .pick, [.t 33, .t 36, .c (.bool false)], [], some (29, false)⟩,
     ⟨(some 38), .pick, [.t 29, .c (.bool true), .t 37], [], none⟩,
     ⟨(some 39), .mv, [.t 38], [], none⟩,
     ⟨(some 40), (.fieldAddr 0), [.t 1], [], some (39, false)⟩,
     ⟨(some 41), (.load 1 false), [.t 40], [], some (39, false)⟩,
     ⟨(some 42), (.bin .eql), [.t 41, .c (.int .i64 2)], [], some (39, false)⟩,
     ⟨(some 43), (.fieldAddr 2), [.t 1], [], some (39, false)⟩,
     ⟨(some 44), (.load 1 false), [.t 43], [], some (39, false)⟩,
     ⟨(some 45), (.bin .neq), [.t 44, .c (.str [])], [], some (39, false)⟩,
     ⟨(some 46), (.eqc true false [.b]), [.t 42, .t 45], [], some (39, false)⟩,
     ⟨(some 47), .pick, [.t 39, .c (.bool true), .t 46], [], none⟩,
     ⟨(some 48), .mv, [.t 47], [], none⟩,
     ⟨(some 49), (.fieldAddr 0), [.t 1], [], some (48, false)⟩,
     ⟨(some 50), (.load 1 false), [.t 49], [], some (48, false)⟩,
     ⟨(some 51), (.bin .eql), [.t 50, .c (.int .i64 3)], [], some (48, false)⟩,
     ⟨(some 52), .mv, [.t 51], [], some (48, false)⟩,
     ⟨(some 53), (.fieldAddr 3), [.t 1], [], some (52, true)⟩,
     ⟨(some 54), (.load 1 false), [.t 53], [], some (52, true)⟩,
     ⟨(some 55), .len, [.t 54], [], some (52, true)⟩,
     ⟨(some 56), (.bin .neq), [.t 55, .c (.int .i64 2)], [], some (52, true)⟩,
     ⟨(some 57), .pick, [.t 52, .t 56, .c (.bool false)], [], some (48, false)⟩,
     ⟨(some 58), .pick, [.t 48, .c (.bool true), .t 57], [], none⟩] [1, 58])
   (.cond (.t 58)
    (.seq (.region [
      ⟨(some 2), .mv, [.c (.bool false)], [], none⟩] [2])
    (.ret))
    (.skip)))
  (.seq (.seq (.region [
     ⟨(some 3), .mv, [.c (.int .i64 0)], [], none⟩] [1, 3])
   (.block 0 (.loop (.seq (.seq (.region [
        ⟨(some 59), .mv, [.t 3], [], none⟩,
        ⟨(some 60), (.fieldAddr 3), [.t 1], [], none⟩,
        ⟨(some 61), (.load 1 false), [.t 60], [], none⟩,
        ⟨(some 62), .len, [.t 61], [], none⟩,
        ⟨(some 63), (.bin .lss), [.t 59, .t 62], [], none⟩] [1, 3, 63])
      (.cond (.t 63)
       (.skip)
       (.exit 0)))
     (.seq (.block 1 (.seq (.region [
         ⟨(some 66), (.fieldAddr 3), [.t 1], [], none⟩,
         ⟨(some 67), (.load 1 false), [.t 66], [], none⟩,
         ⟨(some 68), .mv, [.t 3], [], none⟩,
         ⟨(some 69), (.indexAddr 4), [.t 67, .t 68], [], none⟩,
         ⟨(some 70), (.load 4 true), [.t 69], [], none⟩,
         ⟨(some 71), (.call .wr), [.c (.fn 14 []), .t 70], [70], none⟩,
         ⟨(some 72), .not, [.t 71], [], none⟩] [1, 3, 72])
       (.cond (.t 72)
        (.seq (.region [
          ⟨(some 2), .mv, [.c (.bool false)], [], none⟩] [2])
        (.ret))
        (.skip))))
     (.region [
      ⟨(some 64), .mv, [.t 3], [], none⟩,
      ⟨(some 65), (.bin .add), [.t 64, .c (.int .i64 1)], [], none⟩,
      ⟨(some 3), .mv, [.t 65], [], none⟩] [1, 3]))))))
  (.seq (.region [
    ⟨(some 2), .mv, [.c (.bool true)], [], none⟩] [2])
  (.ret))))),
  [.tmp 2]⟩
/-- changeling/changelingref10.Size -/
def v15 : VFunc := ⟨36,
  .seq (.region [
    ⟨(some 2), .box, [.t 0], [0], none⟩,
    ⟨(some 4), .mv, [.c (.int .i64 0)], [], none⟩] [1, 2])
  (.seq (.region [
    ⟨(some 5), .mv, [.c (.int .i64 1)], [], none⟩] [1, 2, 5])
  (.seq (.seq (.region [
     ⟨(some 6), .mv, [.c (.int .i64 0)], [], none⟩] [1, 2, 5, 6])
   (.block 0 (.loop (.seq (.seq (.region [
        ⟨(some 7), .mv, [.t 6], [], none⟩,
        ⟨(some 8), (.fieldAddr 3), [.t 2], [], none⟩,
        ⟨(some 9), (.load 1 false), [.t 8], [], none⟩,
        ⟨(some 10), .len, [.t 9], [], none⟩,
        ⟨(some 11), (.bin .lss), [.t 7, .t 10], [], none⟩,
        ⟨(some 12), .mv, [.t 11], [], none⟩,
        ⟨(some 13), .mv, [.t 5], [], some (12, true)⟩,
        ⟨(some 14), .mv, [.t 1], [], some (12, true)⟩,
        ⟨(some 15), (.bin .leq), [.t 13, .t 14], [], some (12, true)⟩,
        ⟨(some 16), .pick, [.t 12, .t 15, .c (.bool false)], [], none⟩] [1, 2, 5, 6, 16])
      (.cond (.t 16)
       (.skip)
       (.exit 0)))
     (.seq (.block 1 (.region [
        ⟨(some 19), .mv, [.t 5], [], none⟩,
        ⟨(some 20), (.fieldAddr 3), [.t 2], [], none⟩,
        ⟨(some 21), (.load 1 false), [.t 20], [], none⟩,
        ⟨(some 22), .mv, [.t 6], [], none⟩,
        ⟨(some 23), (.indexAddr 4), [.t 21, .t 22], [], none⟩,
        ⟨(some 24), (.load 4 true), [.t 23], [], none⟩,
        ⟨(some 25), .mv, [.t 1], [], none⟩,
        ⟨(some 26), .mv, [.t 5], [], none⟩,
        ⟨(some 27), (.bin .sub), [.t 25, .t 26], [], none⟩,
        ⟨(some 28), (.call .wr), [.c (.fn 15 []), .t 24, .t 27], [24], none⟩,
        ⟨(some 29), (.bin .add), [.t 19, .t 28], [], none⟩,
        ⟨(some 5), .mv, [.t 29], [], none⟩] [1, 2, 5, 6]))
     (.region [
      ⟨(some 17), .mv, [.t 6], [], none⟩,
      ⟨(some 18), (.bin .add), [.t 17, .c (.int .i64 1)], [], none⟩,
      ⟨(some 6), .mv, [.t 18], [], none⟩] [1, 2, 5, 6]))))))
  (.seq (.seq (.region [
     ⟨(some 30), .mv, [.t 5], [], none⟩,
     ⟨(some 31), .mv, [.t 1], [], none⟩,
     ⟨(some 32), (.bin .gtr), [.t 30, .t 31], [], none⟩] [1, 5, 32])
   (.cond (.t 32)
    (.seq (.region [
      ⟨(some 33), .mv, [.t 1], [], none⟩,
      ⟨(some 34), (.bin .add), [.t 33, .c (.int .i64 1)], [], none⟩,
      ⟨(some 4), .mv, [.t 34], [], none⟩] [4])
    (.ret))
    (.skip)))
  (.seq (.region [
    ⟨(some 35), .mv, [.t 5], [], none⟩,
    ⟨(some 4), .mv, [.t 35], [], none⟩] [4])
  (.ret))))),
  [.tmp 4]⟩
/-- changeling/changelinglaw10.right -/
def v16 : VFunc := ⟨11,
  .seq (.region [
    ⟨(some 1), .box, [.t 0], [0], none⟩,
    ⟨(some 2), .mv, [.c (.bool false)], [], none⟩] [1])
  (.seq (.region [
    ⟨(some 3), (.fieldAddr 0), [.t 1], [], none⟩,
    ⟨(some 4), (.load 4 true), [.t 3], [], none⟩,
    ⟨(some 5), (.call .wr), [.c (.fn 14 []), .t 4], [4], none⟩,
    ⟨(some 6), .mv, [.t 5], [], none⟩,
    ⟨(some 7), (.fieldAddr 4), [.t 1], [], some (6, true)⟩,
    ⟨(some 8), (.load 4 true), [.t 7], [], some (6, true)⟩,
    ⟨(some 9), (.call .wr), [.c (.fn 14 []), .t 8], [8], some (6, true)⟩,
    ⟨(some 10), .pick, [.t 6, .t 9, .c (.bool false)], [], none⟩,
    ⟨(some 2), .mv, [.t 10], [], none⟩] [2])
  (.ret)),
  [.tmp 2]⟩
/-- changeling/changelingref10.Subst -/
def v17 : VFunc := ⟨62,
  .seq (.region [
    ⟨(some 3), .box, [.t 0], [0], none⟩,
    ⟨(some 6), (.alloc [.int .i64 0, .int .i64 0, .str [], .sl true 4 []]), [], [], none⟩] [1, 2, 3, 6])
  (.seq (.seq (.region [
     ⟨(some 10), (.fieldAddr 0), [.t 3], [], none⟩,
     ⟨(some 11), (.load 1 false), [.t 10], [], none⟩,
     ⟨(some 12), (.bin .eql), [.t 11, .c (.int .i64 1)], [], none⟩] [1, 2, 3, 6, 12])
   (.cond (.t 12)
    (.seq (.seq (.region [
       ⟨(some 7), .mv, [.c (.int .i64 0)], [], none⟩] [1, 2, 3, 6, 7])
     (.block 0 (.loop (.seq (.seq (.region [
          ⟨(some 13), .mv, [.t 7], [], none⟩,
          ⟨(some 14), .mv, [.t 1], [], none⟩,
          ⟨(some 15), .len, [.t 14], [], none⟩,
          ⟨(some 16), (.bin .lss), [.t 13, .t 15], [], none⟩] [1, 2, 3, 6, 7, 16])
        (.cond (.t 16)
         (.skip)
         (.exit 0)))
       (.seq (.block 1 (.seq (.region [
           ⟨(some 19), .mv, [.t 1], [], none⟩,
           ⟨(some 20), .mv, [.t 7], [], none⟩,
           ⟨(some 21), (.indexAddr 1), [.t 19, .t 20], [], none⟩,
           ⟨(some 22), (.load 1 false), [.t 21], [], none⟩,
           ⟨(some 23), (.fieldAddr 1), [.t 3], [], none⟩,
           ⟨(some 24), (.load 1 false), [.t 23], [], none⟩,
           ⟨(some 25), (.bin .eql), [.t 22, .t 24], [], none⟩] [1, 2, 3, 6, 7, 25])
         (.cond (.t 25)
          (.seq (.seq (.region [
             ⟨(some 26), .mv, [.t 7], [], none⟩,
             ⟨(some 27), .mv, [.t 2], [], none⟩,
             ⟨(some 28), .len, [.t 27], [], none⟩,
             ⟨(some 29), (.bin .lss), [.t 26, .t 28], [], none⟩] [2, 3, 6, 7, 29])
           (.cond (.t 29)
            (.seq (.region [
              ⟨(some 30), .mv, [.t 2], [2], none⟩,
              ⟨(some 31), .mv, [.t 7], [], none⟩,
              ⟨(some 32), (.indexAddr 4), [.t 30, .t 31], [], none⟩,
              ⟨(some 33), (.load 4 true), [.t 32], [], none⟩,
              ⟨none, (.store 4), [.t 6, .t 33], [33], none⟩] [6])
            (.ret))
            (.skip)))
          (.seq (.region [
            ⟨(some 34), (.loadT 4 true), [.t 3], [], none⟩,
            ⟨none, (.store 4), [.t 6, .t 34], [34], none⟩] [6])
          (.ret)))
          (.skip))))
       (.region [
        ⟨(some 17), .mv, [.t 7], [], none⟩,
        ⟨(some 18), (.bin .add), [.t 17, .c (.int .i64 1)], [], none⟩,
        ⟨(some 7), .mv, [.t 18], [], none⟩] [1, 2, 3, 6, 7]))))))
    (.seq (.region [
      ⟨(some 35), (.loadT 4 true), [.t 3], [], none⟩,
      ⟨none, (.store 4), [.t 6, .t 35], [35], none⟩] [6])
    (.ret)))
    (.skip)))
  (.seq (.region [
    ⟨(some 36), (.fieldAddr 0), [.t 3], [], none⟩,
    ⟨(some 37), (.load 1 false), [.t 36], [], none⟩,
    ⟨(some 38), (.fieldAddr 2), [.t 3], [], none⟩,
    ⟨(some 39), (.load 1 false), [.t 38], [], none⟩,
    ⟨(some 40), (.build [.int .i64 0, .int .i64 0, .str [], .sl true 4 []] [(0, 1), (2, 1)]), [.t 37, .t 39], [], none⟩,
    ⟨(some 8), (.alloc [.int .i64 0, .int .i64 0, .str [], .sl true 4 []]), [], [], none⟩,
    ⟨none, (.store 4), [.t 8, .t 40], [40], none⟩] [1, 2, 3, 6, 8])
  (.seq (.seq (.region [
     ⟨(some 9), .mv, [.c (.int .i64 0)], [], none⟩] [1, 2, 3, 6, 8, 9])
   (.block 2 (.loop (.seq (.seq (.region [
        ⟨(some 41), .mv, [.t 9], [], none⟩,
        ⟨(some 42), (.fieldAddr 3), [.t 3], [], none⟩,
        ⟨(some 43), (.load 1 false), [.t 42], [], none⟩,
        ⟨(some 44), .len, [.t 43], [], none⟩,
        ⟨(some 45), (.bin .lss), [.t 41, .t 44], [], none⟩] [1, 2, 3, 6, 8, 9, 45])
      (.cond (.t 45)
       (.skip)
       (.exit 2)))
     (.seq (.block 3 (.region [
        ⟨(some 48), (.fieldAddr 3), [.t 8], [], none⟩,
        ⟨(some 49), (.loadT 1 false), [.t 48], [], none⟩,
        ⟨(some 50), (.fieldAddr 3), [.t 3], [], none⟩,
        ⟨(some 51), (.load 1 false), [.t 50], [], none⟩,
        ⟨(some 52), .mv, [.t 9], [], none⟩,
        ⟨(some 53), (.indexAddr 4), [.t 51, .t 52], [], none⟩,
        ⟨(some 54), (.load 4 true), [.t 53], [], none⟩,
        ⟨(some 55), .mv, [.t 1], [], none⟩,
        ⟨(some 56), .mv, [.t 2], [], none⟩,
        ⟨(some 57), (.call .al), [.c (.fn 17 []), .t 54, .t 55, .t 56], [54, 55, 56], none⟩,
        ⟨(some 58), (.buildSl 4), [.t 57], [57], none⟩,
        ⟨(some 59), (.append 4 56), [.t 49, .t 58], [49], none⟩,
        ⟨(some 60), (.fieldAddr 3), [.t 8], [], none⟩,
        ⟨none, (.store 1), [.t 60, .t 59], [59], none⟩] [1, 2, 3, 6, 8, 9]))
     (.region [
      ⟨(some 46), .mv, [.t 9], [], none⟩,
      ⟨(some 47), (.bin .add), [.t 46, .c (.int .i64 1)], [], none⟩,
      ⟨(some 9), .mv, [.t 47], [], none⟩] [1, 2, 3, 6, 8, 9]))))))
  (.seq (.region [
    ⟨(some 61), (.loadT 4 true), [.t 8], [], none⟩,
    ⟨none, (.store 4), [.t 6, .t 61], [61], none⟩] [6])
  (.ret))))),
  [.cell 6 4 true]⟩
/-- (*changeling/unify.Store).Unify -/
def v18 : VFunc := ⟨66,
  .seq (.region [
    ⟨(some 4), .box, [.t 1], [1], none⟩,
    ⟨(some 5), .box, [.t 2], [2], none⟩,
    ⟨(some 6), .mv, [.c (.int .i64 0)], [], none⟩] [0, 4, 5])
  (.seq (.block 0 (.seq (.region [
      ⟨(some 11), .mv, [.t 0], [], none⟩,
      ⟨(some 12), (.isNil false), [.t 11, .c (.nilp)], [], none⟩,
      ⟨(some 13), .mv, [.t 12], [], none⟩,
      ⟨(some 14), .mv, [.t 0], [], some (13, false)⟩,
      ⟨(some 15), .nilCheck, [.t 14], [], some (13, false)⟩,
      ⟨(some 16), (.fieldAddr 0), [.t 15], [], some (13, false)⟩,
      ⟨(some 17), (.load 1 false), [.t 16], [], some (13, false)⟩,
      ⟨(some 18), (.isNil false), [.t 17, .c (.nilmap)], [], some (13, false)⟩,
      ⟨(some 19), .pick, [.t 13, .c (.bool true), .t 18], [], none⟩,
      ⟨(some 10), .mv, [.t 19], [], none⟩] [0, 4, 5, 10])
    (.cond (.t 10)
     (.seq (.region [
       ⟨(some 6), .mv, [.c (.int .i64 3)], [], none⟩] [6])
     (.ret))
     (.seq (.region [
       ⟨(some 21), (.load 4 true), [.t 4], [], none⟩,
       ⟨(some 22), (.call .wr), [.c (.fn 27 []), .t 21], [21], none⟩,
       ⟨(some 23), .not, [.t 22], [], none⟩,
       ⟨(some 24), .mv, [.t 23], [], none⟩,
       ⟨(some 25), (.load 4 true), [.t 5], [], some (24, false)⟩,
       ⟨(some 26), (.call .wr), [.c (.fn 27 []), .t 25], [25], some (24, false)⟩,
       ⟨(some 27), .not, [.t 26], [], some (24, false)⟩,
       ⟨(some 28), .pick, [.t 24, .c (.bool true), .t 27], [], none⟩,
       ⟨(some 20), .mv, [.t 28], [], none⟩] [0, 4, 5, 20])
     (.cond (.t 20)
      (.seq (.region [
        ⟨(some 6), .mv, [.c (.int .i64 1)], [], none⟩] [6])
      (.ret))
      (.skip))))))
  (.seq (.region [
    ⟨(some 29), .mv, [.t 0], [], none⟩,
    ⟨(some 30), (.load 4 true), [.t 4], [], none⟩,
    ⟨(some 31), (.call .wr), [.c (.fn 28 []), .t 29, .t 30], [30], none⟩] [0, 4, 5])
  (.seq (.region [
    ⟨(some 32), .mv, [.t 0], [], none⟩,
    ⟨(some 33), (.load 4 true), [.t 5], [], none⟩,
    ⟨(some 34), (.call .wr), [.c (.fn 28 []), .t 32, .t 33], [33], none⟩] [0, 4, 5])
  (.seq (.region [
    ⟨(some 35), .mv, [.t 0], [], none⟩,
    ⟨(some 36), .nilCheck, [.t 35], [], none⟩,
    ⟨(some 37), (.fieldAddr 2), [.t 36], [], none⟩,
    ⟨none, (.store 1), [.t 37, .c (.sl true 1 [])], [], none⟩] [0, 4, 5])
  (.seq (.region [
    ⟨(some 38), .mv, [.t 0], [], none⟩,
    ⟨(some 39), .makeMap, [], [], none⟩,
    ⟨(some 40), .nilCheck, [.t 38], [], none⟩,
    ⟨(some 41), (.fieldAddr 3), [.t 40], [], none⟩,
    ⟨none, (.store 1), [.t 41, .t 39], [], none⟩] [0, 4, 5])
  (.seq (.region [
    ⟨(some 42), .mv, [.t 0], [], none⟩,
    ⟨(some 43), (.load 4 true), [.t 4], [], none⟩,
    ⟨(some 44), (.call .al), [.c (.fn 31 []), .t 43], [43], none⟩,
    ⟨(some 45), (.load 4 true), [.t 5], [], none⟩,
    ⟨(some 46), (.call .al), [.c (.fn 31 []), .t 45], [45], none⟩,
    ⟨(some 47), (.call .wr), [.c (.fn 30 []), .t 42, .t 44, .t 46], [44, 46], none⟩,
    ⟨(some 7), .mv, [.t 47], [], none⟩] [0, 7])
  (.seq (.seq (.region [
     ⟨(some 48), .mv, [.t 7], [], none⟩,
     ⟨(some 49), (.bin .neq), [.t 48, .c (.int .i64 0)], [], none⟩] [0, 7, 49])
   (.cond (.t 49)
    (.seq (.region [
      ⟨(some 50), .mv, [.t 0], [], none⟩,
      ⟨(some 51), .nilCheck, [.t 50], [], none⟩,
      ⟨(some 52), (.fieldAddr 2), [.t 51], [], none⟩,
      ⟨(some 53), (.load 1 false), [.t 52], [], none⟩,
      ⟨(some 54), .len, [.t 53], [], none⟩,
      ⟨(some 55), .mv, [.c (.int .i64 0)], [], none⟩] [0, 7, 53, 54, 55])
    (.block 1 (.loop (.seq (.region [
        ⟨(some 56), (.bin .lss), [.t 55, .t 54], [], none⟩] [0, 7, 53, 54, 55, 56])
      (.seq (.cond (.t 56)
        (.skip)
        (.exit 1))
      (.seq (.block 2 (.seq (.region [
          ⟨(some 57), (.indexAddr 1), [.t 53, .t 55], [], none⟩,
          ⟨(some 58), (.load 1 false), [.t 57], [], none⟩,
          ⟨(some 9), .mv, [.t 58], [], none⟩] [0, 7, 9, 53, 54, 55])
        (.region [
         ⟨(some 59), .mv, [.t 0], [], none⟩,
         ⟨(some 60), .nilCheck, [.t 59], [], none⟩,
         ⟨(some 61), (.fieldAddr 0), [.t 60], [], none⟩,
         ⟨(some 62), (.load 1 false), [.t 61], [], none⟩,
         ⟨(some 63), .mv, [.t 9], [], none⟩,
         ⟨none, (.delete false [.i]), [.t 62, .t 63], [], none⟩] [0, 7, 53, 54, 55])))
      (.region [
       ⟨(some 64), (.bin .add), [.t 55, .c (.int .i64 1)], [], none⟩,
       ⟨(some 55), .mv, [.t 64], [], none⟩] [0, 7, 53, 54, 55])))))))
    (.skip)))
  (.seq (.region [
    ⟨(some 65), .mv, [.t 7], [], none⟩,
    ⟨(some 6), .mv, [.t 65], [], none⟩] [6])
  (.ret))))))))),
  [.tmp 6]⟩
/-- changeling/unify.New -/
def v19 : VFunc := ⟨4,
  .seq (.region [
    ⟨(some 0), .mv, [.c (.nilp)], [], none⟩] [])
  (.seq (.region [
    ⟨(some 1), .makeMap, [], [], none⟩,
    ⟨(some 2), (.build [.nilmap, .int .i64 0, .sl true 1 [], .nilmap] [(0, 1)]), [.t 1], [], none⟩,
    ⟨(some 3), .box, [.t 2], [2], none⟩,
    ⟨(some 0), .mv, [.t 3], [], none⟩] [0])
  (.ret)),
  [.tmp 0]⟩
/-- (*changeling/unify.Store).Leaves -/
def v20 : VFunc := ⟨27,
  .seq (.region [
    ⟨(some 3), .box, [.t 1], [1], none⟩,
    ⟨(some 4), .mv, [.c (.sl true 1 [])], [], none⟩,
    ⟨(some 5), .mv, [.c (.int .i64 0)], [], none⟩] [0, 3])
  (.seq (.block 0 (.seq (.region [
      ⟨(some 7), .mv, [.t 0], [], none⟩,
      ⟨(some 8), (.isNil false), [.t 7, .c (.nilp)], [], none⟩,
      ⟨(some 9), .mv, [.t 8], [], none⟩,
      ⟨(some 10), .mv, [.t 0], [], some (9, false)⟩,
      ⟨(some 11), .nilCheck, [.t 10], [], some (9, false)⟩,
      ⟨(some 12), (.fieldAddr 0), [.t 11], [], some (9, false)⟩,
      ⟨(some 13), (.load 1 false), [.t 12], [], some (9, false)⟩,
      ⟨(some 14), (.isNil false), [.t 13, .c (.nilmap)], [], some (9, false)⟩,
      ⟨(some 15), .pick, [.t 9, .c (.bool true), .t 14], [], none⟩,
      ⟨(some 6), .mv, [.t 15], [], none⟩] [0, 3, 6])
    (.cond (.t 6)
     (.seq (.region [
       ⟨(some 4), .mv, [.c (.sl true 1 [])], [], none⟩,
       ⟨(some 5), .mv, [.c (.int .i64 3)], [], none⟩] [4, 5])
     (.ret))
     (.seq (.region [
       ⟨(some 17), (.load 4 true), [.t 3], [], none⟩,
       ⟨(some 18), (.call .wr), [.c (.fn 27 []), .t 17], [17], none⟩,
       ⟨(some 19), .not, [.t 18], [], none⟩,
       ⟨(some 16), .mv, [.t 19], [], none⟩] [0, 3, 16])
     (.cond (.t 16)
      (.seq (.region [
        ⟨(some 4), .mv, [.c (.sl true 1 [])], [], none⟩,
        ⟨(some 5), .mv, [.c (.int .i64 1)], [], none⟩] [4, 5])
      (.ret))
      (.skip))))))
  (.seq (.region [
    ⟨(some 20), .mv, [.t 0], [], none⟩,
    ⟨(some 21), (.load 4 true), [.t 3], [], none⟩,
    ⟨(some 22), (.call .wr), [.c (.fn 28 []), .t 20, .t 21], [21], none⟩] [0, 3])
  (.seq (.region [
    ⟨(some 23), .mv, [.t 0], [], none⟩,
    ⟨(some 24), (.loadT 4 true), [.t 3], [], none⟩,
    ⟨(some 25), .makeMap, [], [], none⟩,
    ⟨(some 26), (.call .wr), [.c (.fn 32 []), .t 23, .t 24, .c (.sl true 1 []), .t 25], [24], none⟩,
    ⟨(some 4), .mv, [.t 26], [26], none⟩,
    ⟨(some 5), .mv, [.c (.int .i64 0)], [], none⟩] [4, 5])
  (.ret)))),
  [.tmp 4, .tmp 5]⟩
/-- (*changeling/unify.Store).Fresh -/
def v21 : VFunc := ⟨20,
  .seq (.region [
    ⟨(some 2), (.alloc [.int .i64 0, .int .i64 0, .str [], .sl true 4 []]), [], [], none⟩] [0, 2])
  (.seq (.seq (.region [
     ⟨(some 4), .mv, [.t 0], [], none⟩,
     ⟨(some 5), (.isNil false), [.t 4, .c (.nilp)], [], none⟩] [0, 2, 5])
   (.cond (.t 5)
    (.seq (.region [
      ⟨(some 6), (.call .wr), [.c (.fn 33 []), .c (.int .i64 0)], [], none⟩,
      ⟨none, (.store 4), [.t 2, .t 6], [6], none⟩] [2])
    (.ret))
    (.skip)))
  (.seq (.region [
    ⟨(some 7), .mv, [.t 0], [], none⟩,
    ⟨(some 8), .nilCheck, [.t 7], [], none⟩,
    ⟨(some 9), (.fieldAddr 1), [.t 8], [], none⟩,
    ⟨(some 10), (.load 1 false), [.t 9], [], none⟩,
    ⟨(some 3), .mv, [.t 10], [], none⟩] [0, 2, 3])
  (.seq (.region [
    ⟨(some 11), .mv, [.t 0], [], none⟩,
    ⟨(some 12), .nilCheck, [.t 11], [], none⟩,
    ⟨(some 13), (.fieldAddr 1), [.t 12], [], none⟩,
    ⟨(some 14), (.load 1 false), [.t 13], [], none⟩,
    ⟨(some 15), (.bin .add), [.t 14, .c (.int .i64 1)], [], none⟩,
    ⟨(some 16), .nilCheck, [.t 11], [], none⟩,
    ⟨(some 17), (.fieldAddr 1), [.t 16], [], none⟩,
    ⟨none, (.store 1), [.t 17, .t 15], [], none⟩] [2, 3])
  (.seq (.region [
    ⟨(some 18), .mv, [.t 3], [], none⟩,
    ⟨(some 19), (.call .wr), [.c (.fn 33 []), .t 18], [], none⟩,
    ⟨none, (.store 4), [.t 2, .t 19], [19], none⟩] [2])
  (.ret))))),
  [.cell 2 4 true]⟩
/-- changeling/changelingref10.Var -/
def v22 : VFunc := ⟨5,
  .seq (.region [
    ⟨(some 2), (.alloc [.int .i64 0, .int .i64 0, .str [], .sl true 4 []]), [], [], none⟩] [0, 2])
  (.seq (.region [
    ⟨(some 3), .mv, [.t 0], [], none⟩,
    ⟨(some 4), (.build [.int .i64 0, .int .i64 0, .str [], .sl true 4 []] [(0, 1), (1, 1)]), [.c (.int .i64 1), .t 3], [], none⟩,
    ⟨none, (.store 4), [.t 2, .t 4], [4], none⟩] [2])
  (.ret)),
  [.cell 2 4 true]⟩
/-- changeling/changelingref10.Vars -/
def v23 : VFunc := ⟨59,
  .seq (.region [
    ⟨(some 2), .box, [.t 0], [0], none⟩,
    ⟨(some 4), .mv, [.c (.sl true 1 [])], [], none⟩] [1, 2])
  (.seq (.seq (.region [
     ⟨(some 9), (.fieldAddr 0), [.t 2], [], none⟩,
     ⟨(some 10), (.load 1 false), [.t 9], [], none⟩,
     ⟨(some 11), (.bin .eql), [.t 10, .c (.int .i64 1)], [], none⟩] [1, 2, 11])
   (.cond (.t 11)
    (.seq (.seq (.region [
       ⟨(some 5), .mv, [.c (.int .i64 0)], [], none⟩] [1, 2, 5])
     (.block 0 (.loop (.seq (.seq (.region [
          ⟨(some 12), .mv, [.t 5], [], none⟩,
          ⟨(some 13), .mv, [.t 1], [], none⟩,
          ⟨(some 14), .len, [.t 13], [], none⟩,
          ⟨(some 15), (.bin .lss), [.t 12, .t 14], [], none⟩] [1, 2, 5, 15])
        (.cond (.t 15)
         (.skip)
         (.exit 0)))
       (.seq (.block 1 (.seq (.region [
           ⟨(some 18), .mv, [.t 1], [], none⟩,
           ⟨(some 19), .mv, [.t 5], [], none⟩,
           ⟨(some 20), (.indexAddr 1), [.t 18, .t 19], [], none⟩,
           ⟨(some 21), (.load 1 false), [.t 20], [], none⟩,
           ⟨(some 22), (.fieldAddr 1), [.t 2], [], none⟩,
           ⟨(some 23), (.load 1 false), [.t 22], [], none⟩,
           ⟨(some 24), (.bin .eql), [.t 21, .t 23], [], none⟩] [1, 2, 5, 24])
         (.cond (.t 24)
          (.seq (.region [
            ⟨(some 25), .mv, [.t 1], [1], none⟩,
            ⟨(some 4), .mv, [.t 25], [25], none⟩] [4])
          (.ret))
          (.skip))))
       (.region [
        ⟨(some 16), .mv, [.t 5], [], none⟩,
        ⟨(some 17), (.bin .add), [.t 16, .c (.int .i64 1)], [], none⟩,
        ⟨(some 5), .mv, [.t 17], [], none⟩] [1, 2, 5]))))))
    (.seq (.region [
      ⟨(some 6), .mv, [.c (.sl true 1 [])], [], none⟩] [1, 2, 6])
    (.seq (.seq (.region [
       ⟨(some 7), .mv, [.c (.int .i64 0)], [], none⟩] [1, 2, 6, 7])
     (.block 2 (.loop (.seq (.seq (.region [
          ⟨(some 26), .mv, [.t 7], [], none⟩,
          ⟨(some 27), .mv, [.t 1], [], none⟩,
          ⟨(some 28), .len, [.t 27], [], none⟩,
          ⟨(some 29), (.bin .lss), [.t 26, .t 28], [], none⟩] [1, 2, 6, 7, 29])
        (.cond (.t 29)
         (.skip)
         (.exit 2)))
       (.seq (.block 3 (.region [
          ⟨(some 32), .mv, [.t 6], [6], none⟩,
          ⟨(some 33), .mv, [.t 1], [], none⟩,
          ⟨(some 34), .mv, [.t 7], [], none⟩,
          ⟨(some 35), (.indexAddr 1), [.t 33, .t 34], [], none⟩,
          ⟨(some 36), (.load 1 false), [.t 35], [], none⟩,
          ⟨(some 37), (.buildSl 1), [.t 36], [], none⟩,
          ⟨(some 38), (.append 1 8), [.t 32, .t 37], [32], none⟩,
          ⟨(some 6), .mv, [.t 38], [38], none⟩] [1, 2, 6, 7]))
       (.region [
        ⟨(some 30), .mv, [.t 7], [], none⟩,
        ⟨(some 31), (.bin .add), [.t 30, .c (.int .i64 1)], [], none⟩,
        ⟨(some 7), .mv, [.t 31], [], none⟩] [1, 2, 6, 7]))))))
    (.seq (.region [
      ⟨(some 39), .mv, [.t 6], [6], none⟩,
      ⟨(some 40), (.fieldAddr 1), [.t 2], [], none⟩,
      ⟨(some 41), (.load 1 false), [.t 40], [], none⟩,
      ⟨(some 42), (.buildSl 1), [.t 41], [], none⟩,
      ⟨(some 43), (.append 1 8), [.t 39, .t 42], [39], none⟩,
      ⟨(some 4), .mv, [.t 43], [43], none⟩] [4])
    (.ret)))))
    (.skip)))
  (.seq (.seq (.region [
     ⟨(some 8), .mv, [.c (.int .i64 0)], [], none⟩] [1, 2, 8])
   (.block 4 (.loop (.seq (.seq (.region [
        ⟨(some 44), .mv, [.t 8], [], none⟩,
        ⟨(some 45), (.fieldAddr 3), [.t 2], [], none⟩,
        ⟨(some 46), (.load 1 false), [.t 45], [], none⟩,
        ⟨(some 47), .len, [.t 46], [], none⟩,
        ⟨(some 48), (.bin .lss), [.t 44, .t 47], [], none⟩] [1, 2, 8, 48])
      (.cond (.t 48)
       (.skip)
       (.exit 4)))
     (.seq (.block 5 (.region [
        ⟨(some 51), (.fieldAddr 3), [.t 2], [], none⟩,
        ⟨(some 52), (.load 1 false), [.t 51], [], none⟩,
        ⟨(some 53), .mv, [.t 8], [], none⟩,
        ⟨(some 54), (.indexAddr 4), [.t 52, .t 53], [], none⟩,
        ⟨(some 55), (.load 4 true), [.t 54], [], none⟩,
        ⟨(some 56), .mv, [.t 1], [1], none⟩,
        ⟨(some 57), (.call .wr), [.c (.fn 23 []), .t 55, .t 56], [55, 56], none⟩,
        ⟨(some 1), .mv, [.t 57], [57], none⟩] [1, 2, 8]))
     (.region [
      ⟨(some 49), .mv, [.t 8], [], none⟩,
      ⟨(some 50), (.bin .add), [.t 49, .c (.int .i64 1)], [], none⟩,
      ⟨(some 8), .mv, [.t 50], [], none⟩] [1, 2, 8]))))))
  (.seq (.region [
    ⟨(some 58), .mv, [.t 1], [1], none⟩,
    ⟨(some 4), .mv, [.t 58], [58], none⟩] [4])
  (.ret)))),
  [.tmp 4]⟩
/-- changeling/unify.Rename -/
def v24 : VFunc := ⟨23,
  .seq (.region [
    ⟨(some 1), .box, [.t 0], [0], none⟩,
    ⟨(some 2), (.alloc [.int .i64 0, .int .i64 0, .str [], .sl true 4 []]), [], [], none⟩] [1, 2])
  (.seq (.region [
    ⟨(some 6), (.load 4 true), [.t 1], [], none⟩,
    ⟨(some 7), (.call .wr), [.c (.fn 34 []), .t 6], [6], none⟩,
    ⟨(some 3), .mv, [.t 7], [7], none⟩] [1, 2, 3])
  (.seq (.region [
    ⟨(some 4), .mv, [.c (.sl true 4 [])], [], none⟩] [1, 2, 3, 4])
  (.seq (.seq (.region [
     ⟨(some 8), .mv, [.t 3], [], none⟩,
     ⟨(some 9), .len, [.t 8], [], none⟩,
     ⟨(some 10), .mv, [.c (.int .i64 0)], [], none⟩] [1, 2, 3, 4, 9, 10])
   (.block 0 (.loop (.seq (.region [
       ⟨(some 11), (.bin .lss), [.t 10, .t 9], [], none⟩] [1, 2, 3, 4, 9, 10, 11])
     (.seq (.cond (.t 11)
       (.skip)
       (.exit 0))
     (.seq (.block 1 (.seq (.region [
         ⟨(some 12), .mv, [.t 10], [], none⟩,
         ⟨(some 5), .mv, [.t 12], [], none⟩] [1, 2, 3, 4, 5, 9, 10])
       (.region [
        ⟨(some 13), .mv, [.t 4], [4], none⟩,
        ⟨(some 14), .mv, [.t 5], [], none⟩,
        ⟨(some 15), (.call .wr), [.c (.fn 33 []), .t 14], [], none⟩,
        ⟨(some 16), (.buildSl 4), [.t 15], [15], none⟩,
        ⟨(some 17), (.append 4 56), [.t 13, .t 16], [13], none⟩,
        ⟨(some 4), .mv, [.t 17], [17], none⟩] [1, 2, 3, 4, 9, 10])))
     (.region [
      ⟨(some 18), (.bin .add), [.t 10, .c (.int .i64 1)], [], none⟩,
      ⟨(some 10), .mv, [.t 18], [], none⟩] [1, 2, 3, 4, 9, 10])))))))
  (.seq (.region [
    ⟨(some 19), (.loadT 4 true), [.t 1], [], none⟩,
    ⟨(some 20), .mv, [.t 3], [3], none⟩,
    ⟨(some 21), .mv, [.t 4], [4], none⟩,
    ⟨(some 22), (.call .wr), [.c (.fn 35 []), .t 19, .t 20, .t 21], [19, 20, 21], none⟩,
    ⟨none, (.store 4), [.t 2, .t 22], [22], none⟩] [2])
  (.ret))))),
  [.cell 2 4 true]⟩
/-- changeling/changelinglaw10.to -/
def v25 : VFunc := ⟨9,
  .seq (.region [
    ⟨(some 2), .box, [.t 0], [0], none⟩,
    ⟨(some 3), .box, [.t 1], [1], none⟩,
    ⟨(some 4), (.alloc [.int .i64 0, .int .i64 0, .str [], .sl true 4 []]), [], [], none⟩] [2, 3, 4])
  (.seq (.region [
    ⟨(some 5), (.loadT 4 true), [.t 2], [], none⟩,
    ⟨(some 6), (.loadT 4 true), [.t 3], [], none⟩,
    ⟨(some 7), (.buildSl 4), [.t 5, .t 6], [5, 6], none⟩,
    ⟨(some 8), (.build [.int .i64 0, .int .i64 0, .str [], .sl true 4 []] [(0, 1), (3, 1)]), [.c (.int .i64 3), .t 7], [7], none⟩,
    ⟨none, (.store 4), [.t 4, .t 8], [8], none⟩] [4])
  (.ret)),
  [.cell 4 4 true]⟩
/-- changeling/changelinglaw10.named -/
def v26 : VFunc := ⟨5,
  .seq (.region [
    ⟨(some 2), (.alloc [.int .i64 0, .int .i64 0, .str [], .sl true 4 []]), [], [], none⟩] [0, 2])
  (.seq (.region [
    ⟨(some 3), .mv, [.t 0], [], none⟩,
    ⟨(some 4), (.build [.int .i64 0, .int .i64 0, .str [], .sl true 4 []] [(0, 1), (2, 1)]), [.c (.int .i64 2), .t 3], [], none⟩,
    ⟨none, (.store 4), [.t 2, .t 4], [4], none⟩] [2])
  (.ret)),
  [.cell 2 4 true]⟩
/-- changeling/unify.Right -/
def v27 : VFunc := ⟨65,
  .seq (.region [
    ⟨(some 1), .box, [.t 0], [0], none⟩,
    ⟨(some 2), .mv, [.c (.bool false)], [], none⟩] [1])
  (.seq (.seq (.region [
     ⟨(some 5), (.fieldAddr 0), [.t 1], [], none⟩,
     ⟨(some 6), (.load 1 false), [.t 5], [], none⟩] [1, 6])
   (.block 0 (.seq (.region [
      ⟨(some 8), (.bin .eql), [.t 6, .c (.int .i64 1)], [], none⟩,
      ⟨(some 7), .mv, [.t 8], [], none⟩] [1, 6, 7])
    (.cond (.t 7)
     (.seq (.region [
       ⟨(some 9), (.fieldAddr 1), [.t 1], [], none⟩,
       ⟨(some 10), (.load 1 false), [.t 9], [], none⟩,
       ⟨(some 11), (.bin .geq), [.t 10, .c (.int .i64 0)], [], none⟩,
       ⟨(some 12), .mv, [.t 11], [], none⟩,
       ⟨(some 13), (.fieldAddr 1), [.t 1], [], some (12, true)⟩,
       ⟨(some 14), (.load 1 false), [.t 13], [], some (12, true)⟩,
       ⟨(some 15), (.bin .leq), [.t 14, .c (.int .i64 1073741824)], [], some (12, true)⟩,
       ⟨(some 16), .pick, [.t 12, .t 15, .c (.bool false)], [], none⟩,
       ⟨(some 17), .mv, [.t 16], [], none⟩,
       ⟨(some 18), (.fieldAddr 2), [.t 1], [], some (17, true)⟩,
       ⟨(some 19), (.load 1 false), [.t 18], [], some (17, true)⟩,
       ⟨(some 20), (.bin .eql), [.t 19, .c (.str [])], [], some (17, true)⟩,
       ⟨(some 21), .pick, [.t 17, .t 20, .c (.bool false)], [], none⟩,
       ⟨(some 22), .mv, [.t 21], [], none⟩,
       ⟨(some 23), (.fieldAddr 3), [.t 1], [], some (22, true)⟩,
       ⟨(some 24), (.load 1 false), [.t 23], [], some (22, true)⟩,
       ⟨(some 25), .len, [.t 24], [], some (22, true)⟩,
       ⟨(some 26), (.bin .eql), [.t 25, .c (.int .i64 0)], [], some (22, true)⟩,
       ⟨(some 27), .pick, [.t 22, .t 26, .c (.bool false)], [], none⟩,
       ⟨(some 2), .mv, [.t 27], [], none⟩] [2])
     (.ret))
     (.seq (.region [
       ⟨(some 29), (.bin .eql), [.t 6, .c (.int .i64 2)], [], none⟩,
       ⟨(some 28), .mv, [.t 29], [], none⟩] [1, 6, 28])
     (.cond (.t 28)
      (.seq (.region [
        ⟨(some 30), (.fieldAddr 2), [.t 1], [], none⟩,
        ⟨(some 31), (.load 1 false), [.t 30], [], none⟩,
        ⟨(some 32), (.bin .eql), [.t 31, .c (.str [])], [], none⟩,
        ⟨(some 33), .mv, [.t 32], [], none⟩,
        ⟨(some 34), (.fieldAddr 1), [.t 1], [], some (33, false)⟩,
        ⟨(some 35), (.load 1 false), [.t 34], [], some (33, false)⟩,
        ⟨(some 36), (.bin .neq), [.t 35, .c (.int .i64 0)], [], some (33, false)⟩,
        ⟨(some 37), .pick, [.t 33, .c (.bool true), .t 36], [], none⟩] [1, 37])
      (.cond (.t 37)
       (.seq (.region [
         ⟨(some 2), .mv, [.c (.bool false)], [], none⟩] [2])
       (.ret))
       (.skip)))
      (.seq (.region [
        ⟨(some 39), (.bin .eql), [.t 6, .c (.int .i64 3)], [], none⟩,
        ⟨(some 38), .mv, [.t 39], [], none⟩] [1, 38])
      (.cond (.t 38)
       (.seq (.region [
         ⟨(some 40), (.fieldAddr 2), [.t 1], [], none⟩,
         ⟨(some 41), (.load 1 false), [.t 40], [], none⟩,
         ⟨(some 42), (.bin .neq), [.t 41, .c (.str [])], [], none⟩,
         ⟨(some 43), .mv, [.t 42], [], none⟩,
         ⟨(some 44), (.fieldAddr 1), [.t 1], [], some (43, false)⟩,
         ⟨(some 45), (.load 1 false), [.t 44], [], some (43, false)⟩,
         ⟨(some 46), (.bin .neq), [.t 45, .c (.int .i64 0)], [], some (43, false)⟩,
         ⟨(some 47), .pick, [.t 43, .c (.bool true), .t 46], [], none⟩,
         ⟨(some 48), .mv, [.t 47], [], none⟩,
         ⟨(some 49), (.fieldAddr 3), [.t 1], [], some (48, false)⟩,
         ⟨(some 50), (.load 1 false), [.t 49], [], some (48, false)⟩,
         ⟨(some 51), .len, [.t 50], [], some (48, false)⟩,
         ⟨(some 52), (.bin .neq), [.t 51, .c (.int .i64 2)], [], some (48, false)⟩,
         ⟨(some 53), .pick, [.t 48, .c (.bool true), .t 52], [], none⟩] [1, 53])
       (.cond (.t 53)
        (.seq (.region [
          ⟨(some 2), .mv, [.c (.bool false)], [], none⟩] [2])
        (.ret))
        (.skip)))
       (.seq (.region [
         ⟨(some 2), .mv, [.c (.bool false)], [], none⟩] [2])
       (.ret))))))))))
  (.seq (.seq (.region [
     ⟨(some 54), (.fieldAddr 3), [.t 1], [], none⟩,
     ⟨(some 55), (.load 1 false), [.t 54], [], none⟩,
     ⟨(some 56), .len, [.t 55], [], none⟩,
     ⟨(some 57), .mv, [.c (.int .i64 0)], [], none⟩] [55, 56, 57])
   (.block 1 (.loop (.seq (.region [
       ⟨(some 58), (.bin .lss), [.t 57, .t 56], [], none⟩] [55, 56, 57, 58])
     (.seq (.cond (.t 58)
       (.skip)
       (.exit 1))
     (.seq (.block 2 (.seq (.region [
         ⟨(some 59), (.indexAddr 4), [.t 55, .t 57], [], none⟩,
         ⟨(some 60), (.load 4 true), [.t 59], [], none⟩,
         ⟨(some 4), (.alloc [.int .i64 0, .int .i64 0, .str [], .sl true 4 []]), [], [], none⟩,
         ⟨none, (.store 4), [.t 4, .t 60], [60], none⟩] [4, 55, 56, 57])
       (.seq (.region [
         ⟨(some 61), (.loadT 4 true), [.t 4], [], none⟩,
         ⟨(some 62), (.call .wr), [.c (.fn 27 []), .t 61], [61], none⟩,
         ⟨(some 63), .not, [.t 62], [], none⟩] [55, 56, 57, 63])
       (.cond (.t 63)
        (.seq (.region [
          ⟨(some 2), .mv, [.c (.bool false)], [], none⟩] [2])
        (.ret))
        (.skip)))))
     (.region [
      ⟨(some 64), (.bin .add), [.t 57, .c (.int .i64 1)], [], none⟩,
      ⟨(some 57), .mv, [.t 64], [], none⟩] [55, 56, 57])))))))
  (.seq (.region [
    ⟨(some 2), .mv, [.c (.bool true)], [], none⟩] [2])
  (.ret)))),
  [.tmp 2]⟩
/-- (*changeling/unify.Store).sees -/
def v28 : VFunc := ⟨31,
  .seq (.region [
    ⟨(some 3), .box, [.t 1], [1], none⟩] [0, 3])
  (.seq (.seq (.region [
     ⟨(some 6), (.fieldAddr 0), [.t 3], [], none⟩,
     ⟨(some 7), (.load 1 false), [.t 6], [], none⟩,
     ⟨(some 8), (.bin .eql), [.t 7, .c (.int .i64 1)], [], none⟩] [0, 3, 8])
   (.cond (.t 8)
    (.region [
     ⟨(some 9), .mv, [.t 0], [], none⟩,
     ⟨(some 10), .mv, [.t 0], [], none⟩,
     ⟨(some 11), .nilCheck, [.t 10], [], none⟩,
     ⟨(some 12), (.fieldAddr 1), [.t 11], [], none⟩,
     ⟨(some 13), (.load 1 false), [.t 12], [], none⟩,
     ⟨(some 14), (.fieldAddr 1), [.t 3], [], none⟩,
     ⟨(some 15), (.load 1 false), [.t 14], [], none⟩,
     ⟨(some 16), (.bin .add), [.t 15, .c (.int .i64 1)], [], none⟩,
     ⟨(some 17), .max, [.t 13, .t 16], [], none⟩,
     ⟨(some 18), .nilCheck, [.t 9], [], none⟩,
     ⟨(some 19), (.fieldAddr 1), [.t 18], [], none⟩,
     ⟨none, (.store 1), [.t 19, .t 17], [], none⟩] [0, 3])
    (.skip)))
  (.seq (.region [
    ⟨(some 20), (.fieldAddr 3), [.t 3], [], none⟩,
    ⟨(some 21), (.load 1 false), [.t 20], [], none⟩,
    ⟨(some 22), .len, [.t 21], [], none⟩,
    ⟨(some 23), .mv, [.c (.int .i64 0)], [], none⟩] [0, 21, 22, 23])
  (.block 0 (.loop (.seq (.region [
      ⟨(some 24), (.bin .lss), [.t 23, .t 22], [], none⟩] [0, 21, 22, 23, 24])
    (.seq (.cond (.t 24)
      (.skip)
      (.exit 0))
    (.seq (.block 1 (.seq (.region [
        ⟨(some 25), (.indexAddr 4), [.t 21, .t 23], [], none⟩,
        ⟨(some 26), (.load 4 true), [.t 25], [], none⟩,
        ⟨(some 5), (.alloc [.int .i64 0, .int .i64 0, .str [], .sl true 4 []]), [], [], none⟩,
        ⟨none, (.store 4), [.t 5, .t 26], [26], none⟩] [0, 5, 21, 22, 23])
      (.region [
       ⟨(some 27), .mv, [.t 0], [], none⟩,
       ⟨(some 28), (.loadT 4 true), [.t 5], [], none⟩,
       ⟨(some 29), (.call .wr), [.c (.fn 28 []), .t 27, .t 28], [28], none⟩] [0, 21, 22, 23])))
    (.region [
     ⟨(some 30), (.bin .add), [.t 23, .c (.int .i64 1)], [], none⟩,
     ⟨(some 23), .mv, [.t 30], [], none⟩] [0, 21, 22, 23])))))))),
  []⟩
/-- (*changeling/unify.resolver).resolve -/
def v29 : VFunc := ⟨51,
  .seq (.region [
    ⟨(some 3), .box, [.t 1], [1], none⟩,
    ⟨(some 4), (.alloc [.int .i64 0, .int .i64 0, .str [], .sl true 4 []]), [], [], none⟩] [0, 3, 4])
  (.seq (.region [
    ⟨(some 8), .mv, [.t 0], [], none⟩,
    ⟨(some 9), .nilCheck, [.t 8], [], none⟩,
    ⟨(some 10), (.fieldAddr 0), [.t 9], [], none⟩,
    ⟨(some 11), (.load 1 false), [.t 10], [], none⟩,
    ⟨(some 12), (.loadT 4 true), [.t 3], [], none⟩,
    ⟨(some 13), (.call .wr), [.c (.fn 36 []), .t 11, .t 12], [12], none⟩,
    ⟨none, (.store 4), [.t 3, .t 13], [13], none⟩] [0, 3, 4])
  (.seq (.region [
    ⟨(some 14), .mv, [.t 0], [], none⟩,
    ⟨(some 15), .nilCheck, [.t 14], [], none⟩,
    ⟨(some 16), (.fieldAddr 1), [.t 15], [], none⟩,
    ⟨(some 17), (.load 1 false), [.t 16], [], none⟩,
    ⟨(some 18), (.bin .add), [.t 17, .c (.int .i64 1)], [], none⟩,
    ⟨(some 19), .nilCheck, [.t 14], [], none⟩,
    ⟨(some 20), (.fieldAddr 1), [.t 19], [], none⟩,
    ⟨none, (.store 1), [.t 20, .t 18], [], none⟩] [0, 3, 4])
  (.seq (.region [
    ⟨(some 21), (.fieldAddr 0), [.t 3], [], none⟩,
    ⟨(some 22), (.load 1 false), [.t 21], [], none⟩,
    ⟨(some 23), (.fieldAddr 1), [.t 3], [], none⟩,
    ⟨(some 24), (.load 1 false), [.t 23], [], none⟩,
    ⟨(some 25), (.fieldAddr 2), [.t 3], [], none⟩,
    ⟨(some 26), (.load 1 false), [.t 25], [], none⟩,
    ⟨(some 27), (.build [.int .i64 0, .int .i64 0, .str [], .sl true 4 []] [(0, 1), (1, 1), (2, 1)]), [.t 22, .t 24, .t 26], [], none⟩,
    ⟨(some 5), (.alloc [.int .i64 0, .int .i64 0, .str [], .sl true 4 []]), [], [], none⟩,
    ⟨none, (.store 4), [.t 5, .t 27], [27], none⟩] [0, 3, 4, 5])
  (.seq (.seq (.region [
     ⟨(some 28), (.fieldAddr 3), [.t 3], [], none⟩,
     ⟨(some 29), (.load 1 false), [.t 28], [], none⟩,
     ⟨(some 30), .len, [.t 29], [], none⟩,
     ⟨(some 31), .mv, [.c (.int .i64 0)], [], none⟩] [0, 3, 4, 5, 29, 30, 31])
   (.block 0 (.loop (.seq (.region [
       ⟨(some 32), (.bin .lss), [.t 31, .t 30], [], none⟩] [0, 3, 4, 5, 29, 30, 31, 32])
     (.seq (.cond (.t 32)
       (.skip)
       (.exit 0))
     (.seq (.block 1 (.seq (.region [
         ⟨(some 33), (.indexAddr 4), [.t 29, .t 31], [], none⟩,
         ⟨(some 34), (.load 4 true), [.t 33], [], none⟩,
         ⟨(some 7), (.alloc [.int .i64 0, .int .i64 0, .str [], .sl true 4 []]), [], [], none⟩,
         ⟨none, (.store 4), [.t 7, .t 34], [34], none⟩] [0, 3, 4, 5, 7, 29, 30, 31])
       (.seq (.seq (.region [
          ⟨(some 35), .mv, [.t 0], [], none⟩,
          ⟨(some 36), .nilCheck, [.t 35], [], none⟩,
          ⟨(some 37), (.fieldAddr 1), [.t 36], [], none⟩,
          ⟨(some 38), (.load 1 false), [.t 37], [], none⟩,
          ⟨(some 39), (.bin .gtr), [.t 38, .c (.int .i64 256)], [], none⟩] [0, 3, 4, 5, 7, 29, 30, 31, 39])
        (.cond (.t 39)
         (.seq (.region [
           ⟨(some 40), (.build [.int .i64 0, .int .i64 0, .str [], .sl true 4 []] []), [], [], none⟩,
           ⟨none, (.store 4), [.t 4, .t 40], [40], none⟩] [3, 4])
         (.ret))
         (.skip)))
       (.region [
        ⟨(some 41), (.fieldAddr 3), [.t 5], [], none⟩,
        ⟨(some 42), (.loadTL 3 1 false), [.t 41], [], none⟩,
        ⟨(some 43), .mv, [.t 0], [], none⟩,
        ⟨(some 44), (.loadL 3 4 true), [.t 7], [], none⟩,
        ⟨(some 45), (.call (.fr 3)), [.c (.fn 29 []), .t 43, .t 44], [44], none⟩,
        ⟨(some 46), (.buildSl 4), [.t 45], [45], none⟩,
        ⟨(some 47), (.append 4 56), [.t 42, .t 46], [42], none⟩,
        ⟨(some 48), (.fieldAddr 3), [.t 5], [], none⟩,
        ⟨none, (.store 1), [.t 48, .t 47], [47], none⟩] [0, 3, 4, 5, 29, 30, 31]))))
     (.region [
      ⟨(some 49), (.bin .add), [.t 31, .c (.int .i64 1)], [], none⟩,
      ⟨(some 31), .mv, [.t 49], [], none⟩] [0, 3, 4, 5, 29, 30, 31])))))))
  (.seq (.region [
    ⟨(some 50), (.loadT 4 true), [.t 5], [], none⟩,
    ⟨none, (.store 4), [.t 4, .t 50], [50], none⟩] [3, 4])
  (.ret)))))),
  [.cell 4 4 true]⟩
/-- (*changeling/unify.Store).same -/
def v30 : VFunc := ⟨59,
  .seq (.region [
    ⟨(some 4), .box, [.t 1], [1], none⟩,
    ⟨(some 5), .box, [.t 2], [2], none⟩,
    ⟨(some 6), .mv, [.c (.int .i64 0)], [], none⟩] [0, 4, 5])
  (.seq (.seq (.region [
     ⟨(some 9), (.fieldAddr 0), [.t 4], [], none⟩,
     ⟨(some 10), (.load 1 false), [.t 9], [], none⟩,
     ⟨(some 11), (.bin .neq), [.t 10, .c (.int .i64 1)], [], none⟩,
     ⟨(some 12), .mv, [.t 11], [], none⟩,
     ⟨(some 13), (.fieldAddr 0), [.t 5], [], some (12, false)⟩,
     ⟨(some 14), (.load 1 false), [.t 13], [], some (12, false)⟩,
     ⟨(some 15), (.bin .neq), [.t 14, .c (.int .i64 1)], [], some (12, false)⟩,
     ⟨(some 16), .pick, [.t 12, .c (.bool true), .t 15], [], none⟩] [0, 4, 5, 16])
   (.cond (.t 16)
    (.seq (.region [
      ⟨(some 17), .mv, [.t 0], [], none⟩,
      ⟨(some 18), .mv, [.t 0], [], none⟩,
      ⟨(some 19), (.load 4 true), [.t 4], [], none⟩,
      ⟨(some 20), (.call .rd), [.c (.fn 36 []), .t 18, .t 19], [19], none⟩,
      ⟨(some 21), .mv, [.t 0], [], none⟩,
      ⟨(some 22), (.load 4 true), [.t 5], [], none⟩,
      ⟨(some 23), (.call .rd), [.c (.fn 36 []), .t 21, .t 22], [22], none⟩,
      ⟨(some 24), (.call .wr), [.c (.fn 37 []), .t 17, .t 20, .t 23], [20, 23], none⟩,
      ⟨(some 6), .mv, [.t 24], [], none⟩] [6])
    (.ret))
    (.skip)))
  (.seq (.region [
    ⟨(some 25), (.fieldAddr 1), [.t 4], [], none⟩,
    ⟨(some 26), (.load 1 false), [.t 25], [], none⟩,
    ⟨(some 27), (.fieldAddr 1), [.t 5], [], none⟩,
    ⟨(some 28), (.load 1 false), [.t 27], [], none⟩,
    ⟨(some 29), (.build [.int .i64 0, .int .i64 0] [(0, 1), (1, 1)]), [.t 26, .t 28], [], none⟩,
    ⟨(some 7), (.alloc [.int .i64 0, .int .i64 0]), [], [], none⟩,
    ⟨none, (.store 2), [.t 7, .t 29], [], none⟩] [0, 4, 5, 7])
  (.seq (.seq (.region [
     ⟨(some 30), (.fieldAddr 1), [.t 4], [], none⟩,
     ⟨(some 31), (.load 1 false), [.t 30], [], none⟩,
     ⟨(some 32), (.fieldAddr 1), [.t 5], [], none⟩,
     ⟨(some 33), (.load 1 false), [.t 32], [], none⟩,
     ⟨(some 34), (.bin .eql), [.t 31, .t 33], [], none⟩,
     ⟨(some 35), .mv, [.t 34], [], none⟩,
     ⟨(some 36), .mv, [.t 0], [], some (35, false)⟩,
     ⟨(some 37), .nilCheck, [.t 36], [], some (35, false)⟩,
     ⟨(some 38), (.fieldAddr 3), [.t 37], [], some (35, false)⟩,
     ⟨(some 39), (.load 1 false), [.t 38], [], some (35, false)⟩,
     ⟨(some 40), (.load 2 true), [.t 7], [], some (35, false)⟩,
     ⟨(some 41), (.lookup true [.i, .i] false [.bool false] false), [.t 39, .t 40], [], some (35, false)⟩,
     ⟨(some 42), .pick, [.t 35, .c (.bool true), .t 41], [], none⟩] [0, 4, 5, 7, 42])
   (.cond (.t 42)
    (.seq (.region [
      ⟨(some 6), .mv, [.c (.int .i64 0)], [], none⟩] [6])
    (.ret))
    (.skip)))
  (.seq (.region [
    ⟨(some 43), .mv, [.t 0], [], none⟩,
    ⟨(some 44), .mv, [.t 0], [], none⟩,
    ⟨(some 45), (.load 4 true), [.t 4], [], none⟩,
    ⟨(some 46), (.call .rd), [.c (.fn 36 []), .t 44, .t 45], [45], none⟩,
    ⟨(some 47), .mv, [.t 0], [], none⟩,
    ⟨(some 48), (.load 4 true), [.t 5], [], none⟩,
    ⟨(some 49), (.call .rd), [.c (.fn 36 []), .t 47, .t 48], [48], none⟩,
    ⟨(some 50), (.call .wr), [.c (.fn 37 []), .t 43, .t 46, .t 49], [46, 49], none⟩,
    ⟨(some 8), .mv, [.t 50], [], none⟩] [0, 7, 8])
  (.seq (.seq (.region [
     ⟨(some 51), .mv, [.t 8], [], none⟩,
     ⟨(some 52), (.bin .eql), [.t 51, .c (.int .i64 0)], [], none⟩] [0, 7, 8, 52])
   (.cond (.t 52)
    (.region [
     ⟨(some 53), .mv, [.t 0], [], none⟩,
     ⟨(some 54), .nilCheck, [.t 53], [], none⟩,
     ⟨(some 55), (.fieldAddr 3), [.t 54], [], none⟩,
     ⟨(some 56), (.load 1 false), [.t 55], [], none⟩,
     ⟨(some 57), (.load 2 true), [.t 7], [], none⟩,
     ⟨none, (.mapUpdate true [.i, .i]), [.t 56, .t 57, .c (.bool true)], [], none⟩] [8])
    (.skip)))
  (.seq (.region [
    ⟨(some 58), .mv, [.t 8], [], none⟩,
    ⟨(some 6), .mv, [.t 58], [], none⟩] [6])
  (.ret))))))),
  [.tmp 6]⟩
/-- changeling/unify.copied -/
def v31 : VFunc := ⟨22,
  .seq (.region [
    ⟨(some 1), .box, [.t 0], [0], none⟩,
    ⟨(some 2), (.alloc [.int .i64 0, .int .i64 0, .str [], .sl true 4 []]), [], [], none⟩] [1, 2])
  (.seq (.region [
    ⟨(some 3), .mv, [.c (.sl true 4 [])], [], none⟩] [1, 2, 3])
  (.seq (.seq (.region [
     ⟨(some 6), (.fieldAddr 3), [.t 1], [], none⟩,
     ⟨(some 7), (.load 1 false), [.t 6], [], none⟩,
     ⟨(some 8), .len, [.t 7], [], none⟩,
     ⟨(some 9), .mv, [.c (.int .i64 0)], [], none⟩] [1, 2, 3, 7, 8, 9])
   (.block 0 (.loop (.seq (.region [
       ⟨(some 10), (.bin .lss), [.t 9, .t 8], [], none⟩] [1, 2, 3, 7, 8, 9, 10])
     (.seq (.cond (.t 10)
       (.skip)
       (.exit 0))
     (.seq (.block 1 (.seq (.region [
         ⟨(some 11), (.indexAddr 4), [.t 7, .t 9], [], none⟩,
         ⟨(some 12), (.load 4 true), [.t 11], [], none⟩,
         ⟨(some 5), (.alloc [.int .i64 0, .int .i64 0, .str [], .sl true 4 []]), [], [], none⟩,
         ⟨none, (.store 4), [.t 5, .t 12], [12], none⟩] [1, 2, 3, 5, 7, 8, 9])
       (.region [
        ⟨(some 13), .mv, [.t 3], [3], none⟩,
        ⟨(some 14), (.loadT 4 true), [.t 5], [], none⟩,
        ⟨(some 15), (.call .wr), [.c (.fn 31 []), .t 14], [14], none⟩,
        ⟨(some 16), (.buildSl 4), [.t 15], [15], none⟩,
        ⟨(some 17), (.append 4 56), [.t 13, .t 16], [13], none⟩,
        ⟨(some 3), .mv, [.t 17], [17], none⟩] [1, 2, 3, 7, 8, 9])))
     (.region [
      ⟨(some 18), (.bin .add), [.t 9, .c (.int .i64 1)], [], none⟩,
      ⟨(some 9), .mv, [.t 18], [], none⟩] [1, 2, 3, 7, 8, 9])))))))
  (.seq (.region [
    ⟨(some 19), .mv, [.t 3], [3], none⟩,
    ⟨(some 20), (.fieldAddr 3), [.t 1], [], none⟩,
    ⟨none, (.store 1), [.t 20, .t 19], [19], none⟩] [1, 2])
  (.seq (.region [
    ⟨(some 21), (.loadT 4 true), [.t 1], [], none⟩,
    ⟨none, (.store 4), [.t 2, .t 21], [21], none⟩] [2])
  (.ret))))),
  [.cell 2 4 true]⟩
/-- (*changeling/unify.Store).leaves -/
def v32 : VFunc := ⟨60,
  .seq (.region [
    ⟨(some 5), .box, [.t 1], [1], none⟩,
    ⟨(some 8), .mv, [.c (.sl true 1 [])], [], none⟩] [0, 2, 3, 5])
  (.seq (.seq (.region [
     ⟨(some 13), (.fieldAddr 0), [.t 5], [], none⟩,
     ⟨(some 14), (.load 1 false), [.t 13], [], none⟩,
     ⟨(some 15), (.bin .eql), [.t 14, .c (.int .i64 1)], [], none⟩] [0, 2, 3, 5, 15])
   (.cond (.t 15)
    (.seq (.seq (.region [
       ⟨(some 16), .mv, [.t 3], [], none⟩,
       ⟨(some 17), (.fieldAddr 1), [.t 5], [], none⟩,
       ⟨(some 18), (.load 1 false), [.t 17], [], none⟩,
       ⟨(some 19), (.lookup false [.i] false [.bool false] false), [.t 16, .t 18], [], none⟩] [0, 2, 3, 5, 19])
     (.cond (.t 19)
      (.seq (.region [
        ⟨(some 20), .mv, [.t 2], [2], none⟩,
        ⟨(some 8), .mv, [.t 20], [20], none⟩] [8])
      (.ret))
      (.skip)))
    (.seq (.region [
      ⟨(some 21), .mv, [.t 3], [], none⟩,
      ⟨(some 22), (.fieldAddr 1), [.t 5], [], none⟩,
      ⟨(some 23), (.load 1 false), [.t 22], [], none⟩,
      ⟨none, (.mapUpdate false [.i]), [.t 21, .t 23, .c (.bool true)], [], none⟩] [0, 2, 3, 5])
    (.seq (.region [
      ⟨(some 25), .mv, [.t 0], [], none⟩,
      ⟨(some 26), .nilCheck, [.t 25], [], none⟩,
      ⟨(some 27), (.fieldAddr 0), [.t 26], [], none⟩,
      ⟨(some 28), (.load 1 false), [.t 27], [], none⟩,
      ⟨(some 29), (.fieldAddr 1), [.t 5], [], none⟩,
      ⟨(some 30), (.load 1 false), [.t 29], [], none⟩,
      ⟨(some 31), (.lookup false [.i] true [.int .i64 0, .int .i64 0, .str [], .sl false 4 []] true), [.t 28, .t 30], [], none⟩,
      ⟨(some 24), .mv, [.t 31], [], none⟩,
      ⟨(some 32), (.extract 0), [.t 24], [], none⟩,
      ⟨(some 33), (.extract 1), [.t 24], [], none⟩,
      ⟨(some 9), (.alloc [.int .i64 0, .int .i64 0, .str [], .sl true 4 []]), [], [], none⟩,
      ⟨none, (.store 4), [.t 9, .t 32], [], none⟩,
      ⟨(some 10), .mv, [.t 33], [], none⟩] [0, 2, 3, 5, 9, 10])
    (.seq (.seq (.region [
       ⟨(some 34), .mv, [.t 10], [], none⟩,
       ⟨(some 35), .not, [.t 34], [], none⟩] [0, 2, 3, 5, 9, 35])
     (.cond (.t 35)
      (.seq (.region [
        ⟨(some 36), .mv, [.t 2], [2], none⟩,
        ⟨(some 37), (.fieldAddr 1), [.t 5], [], none⟩,
        ⟨(some 38), (.load 1 false), [.t 37], [], none⟩,
        ⟨(some 39), (.buildSl 1), [.t 38], [], none⟩,
        ⟨(some 40), (.append 1 8), [.t 36, .t 39], [36], none⟩,
        ⟨(some 8), .mv, [.t 40], [40], none⟩] [8])
      (.ret))
      (.skip)))
    (.seq (.region [
      ⟨(some 41), .mv, [.t 0], [], none⟩,
      ⟨(some 42), (.loadT 4 true), [.t 9], [], none⟩,
      ⟨(some 43), .mv, [.t 2], [2], none⟩,
      ⟨(some 44), .mv, [.t 3], [], none⟩,
      ⟨(some 45), (.call .wr), [.c (.fn 32 []), .t 41, .t 42, .t 43, .t 44], [42, 43], none⟩,
      ⟨(some 8), .mv, [.t 45], [45], none⟩] [8])
    (.ret))))))
    (.skip)))
  (.seq (.seq (.region [
     ⟨(some 46), (.fieldAddr 3), [.t 5], [], none⟩,
     ⟨(some 47), (.load 1 false), [.t 46], [], none⟩,
     ⟨(some 48), .len, [.t 47], [], none⟩,
     ⟨(some 49), .mv, [.c (.int .i64 0)], [], none⟩] [0, 2, 3, 47, 48, 49])
   (.block 0 (.loop (.seq (.region [
       ⟨(some 50), (.bin .lss), [.t 49, .t 48], [], none⟩] [0, 2, 3, 47, 48, 49, 50])
     (.seq (.cond (.t 50)
       (.skip)
       (.exit 0))
     (.seq (.block 1 (.seq (.region [
         ⟨(some 51), (.indexAddr 4), [.t 47, .t 49], [], none⟩,
         ⟨(some 52), (.load 4 true), [.t 51], [], none⟩,
         ⟨(some 12), (.alloc [.int .i64 0, .int .i64 0, .str [], .sl true 4 []]), [], [], none⟩,
         ⟨none, (.store 4), [.t 12, .t 52], [52], none⟩] [0, 2, 3, 12, 47, 48, 49])
       (.region [
        ⟨(some 53), .mv, [.t 0], [], none⟩,
        ⟨(some 54), (.loadT 4 true), [.t 12], [], none⟩,
        ⟨(some 55), .mv, [.t 2], [2], none⟩,
        ⟨(some 56), .mv, [.t 3], [], none⟩,
        ⟨(some 57), (.call .wr), [.c (.fn 32 []), .t 53, .t 54, .t 55, .t 56], [54, 55], none⟩,
        ⟨(some 2), .mv, [.t 57], [57], none⟩] [0, 2, 3, 47, 48, 49])))
     (.region [
      ⟨(some 58), (.bin .add), [.t 49, .c (.int .i64 1)], [], none⟩,
      ⟨(some 49), .mv, [.t 58], [], none⟩] [0, 2, 3, 47, 48, 49])))))))
  (.seq (.region [
    ⟨(some 59), .mv, [.t 2], [2], none⟩,
    ⟨(some 8), .mv, [.t 59], [59], none⟩] [8])
  (.ret)))),
  [.tmp 8]⟩
/-- changeling/unify.variable -/
def v33 : VFunc := ⟨5,
  .seq (.region [
    ⟨(some 2), (.alloc [.int .i64 0, .int .i64 0, .str [], .sl true 4 []]), [], [], none⟩] [0, 2])
  (.seq (.region [
    ⟨(some 3), .mv, [.t 0], [], none⟩,
    ⟨(some 4), (.build [.int .i64 0, .int .i64 0, .str [], .sl true 4 []] [(0, 1), (1, 1)]), [.c (.int .i64 1), .t 3], [], none⟩,
    ⟨none, (.store 4), [.t 2, .t 4], [4], none⟩] [2])
  (.ret)),
  [.cell 2 4 true]⟩
/-- changeling/unify.Vars -/
def v34 : VFunc := ⟨8,
  .seq (.region [
    ⟨(some 1), .box, [.t 0], [0], none⟩,
    ⟨(some 2), .mv, [.c (.sl true 1 [])], [], none⟩] [1])
  (.seq (.seq (.region [
     ⟨(some 3), (.load 4 true), [.t 1], [], none⟩,
     ⟨(some 4), (.call .wr), [.c (.fn 27 []), .t 3], [3], none⟩,
     ⟨(some 5), .not, [.t 4], [], none⟩] [1, 5])
   (.cond (.t 5)
    (.seq (.region [
      ⟨(some 2), .mv, [.c (.sl true 1 [])], [], none⟩] [2])
    (.ret))
    (.skip)))
  (.seq (.region [
    ⟨(some 6), (.loadT 4 true), [.t 1], [], none⟩,
    ⟨(some 7), (.call .wr), [.c (.fn 38 []), .t 6, .c (.sl true 1 [])], [6], none⟩,
    ⟨(some 2), .mv, [.t 7], [7], none⟩] [2])
  (.ret))),
  [.tmp 2]⟩
/-- changeling/unify.Subst -/
def v35 : VFunc := ⟨15,
  .seq (.region [
    ⟨(some 3), .box, [.t 0], [0], none⟩,
    ⟨(some 6), (.alloc [.int .i64 0, .int .i64 0, .str [], .sl true 4 []]), [], [], none⟩] [1, 2, 3, 6])
  (.seq (.seq (.region [
     ⟨(some 7), (.load 4 true), [.t 3], [], none⟩,
     ⟨(some 8), (.call .wr), [.c (.fn 27 []), .t 7], [7], none⟩,
     ⟨(some 9), .not, [.t 8], [], none⟩] [1, 2, 3, 6, 9])
   (.cond (.t 9)
    (.seq (.region [
      ⟨(some 10), (.build [.int .i64 0, .int .i64 0, .str [], .sl true 4 []] []), [], [], none⟩,
      ⟨none, (.store 4), [.t 6, .t 10], [10], none⟩] [6])
    (.ret))
    (.skip)))
  (.seq (.region [
    ⟨(some 11), (.loadT 4 true), [.t 3], [], none⟩,
    ⟨(some 12), .mv, [.t 1], [1], none⟩,
    ⟨(some 13), .mv, [.t 2], [2], none⟩,
    ⟨(some 14), (.call .wr), [.c (.fn 39 []), .t 11, .t 12, .t 13], [11, 12, 13], none⟩,
    ⟨none, (.store 4), [.t 6, .t 14], [14], none⟩] [6])
  (.ret))),
  [.cell 6 4 true]⟩
/-- (*changeling/unify.Store).head -/
def v36 : VFunc := ⟨25,
  .seq (.region [
    ⟨(some 3), .box, [.t 1], [1], none⟩,
    ⟨(some 4), (.alloc [.int .i64 0, .int .i64 0, .str [], .sl true 4 []]), [], [], none⟩] [0, 3, 4])
  (.seq (.block 0 (.loop (.seq (.seq (.region [
        ⟨(some 7), (.fieldAddr 0), [.t 3], [], none⟩,
        ⟨(some 8), (.load 1 false), [.t 7], [], none⟩,
        ⟨(some 9), (.bin .eql), [.t 8, .c (.int .i64 1)], [], none⟩] [0, 3, 4, 9])
      (.cond (.t 9)
       (.skip)
       (.exit 0)))
     (.block 1 (.seq (.region [
        ⟨(some 11), .mv, [.t 0], [], none⟩,
        ⟨(some 12), .nilCheck, [.t 11], [], none⟩,
        ⟨(some 13), (.fieldAddr 0), [.t 12], [], none⟩,
        ⟨(some 14), (.load 1 false), [.t 13], [], none⟩,
        ⟨(some 15), (.fieldAddr 1), [.t 3], [], none⟩,
        ⟨(some 16), (.load 1 false), [.t 15], [], none⟩,
        ⟨(some 17), (.lookup false [.i] true [.int .i64 0, .int .i64 0, .str [], .sl false 4 []] true), [.t 14, .t 16], [], none⟩,
        ⟨(some 10), .mv, [.t 17], [], none⟩,
        ⟨(some 18), (.extract 0), [.t 10], [], none⟩,
        ⟨(some 19), (.extract 1), [.t 10], [], none⟩,
        ⟨(some 5), (.alloc [.int .i64 0, .int .i64 0, .str [], .sl true 4 []]), [], [], none⟩,
        ⟨none, (.store 4), [.t 5, .t 18], [], none⟩,
        ⟨(some 6), .mv, [.t 19], [], none⟩] [0, 3, 4, 5, 6])
      (.seq (.seq (.region [
         ⟨(some 20), .mv, [.t 6], [], none⟩,
         ⟨(some 21), .not, [.t 20], [], none⟩] [0, 3, 4, 5, 21])
       (.cond (.t 21)
        (.seq (.region [
          ⟨(some 22), (.loadT 4 true), [.t 3], [], none⟩,
          ⟨none, (.store 4), [.t 4, .t 22], [22], none⟩] [4])
        (.ret))
        (.skip)))
      (.region [
       ⟨(some 23), (.loadT 4 true), [.t 5], [], none⟩,
       ⟨none, (.store 4), [.t 3, .t 23], [23], none⟩] [0, 3, 4])))))))
  (.seq (.region [
    ⟨(some 24), (.loadT 4 true), [.t 3], [], none⟩,
    ⟨none, (.store 4), [.t 4, .t 24], [24], none⟩] [4])
  (.ret))),
  [.cell 4 4 true]⟩
/-- (*changeling/unify.Store).alike -/
def v37 : VFunc := ⟨97,
  .seq (.region [
    ⟨(some 4), .box, [.t 1], [1], none⟩,
    ⟨(some 5), .box, [.t 2], [2], none⟩,
    ⟨(some 6), .mv, [.c (.int .i64 0)], [], none⟩] [0, 4, 5])
  (.seq (.block 0 (.seq (.region [
      ⟨(some 10), (.fieldAddr 0), [.t 4], [], none⟩,
      ⟨(some 11), (.load 1 false), [.t 10], [], none⟩,
      ⟨(some 12), (.bin .eql), [.t 11, .c (.int .i64 1)], [], none⟩,
      ⟨(some 13), .mv, [.t 12], [], none⟩,
      ⟨(some 14), (.fieldAddr 0), [.t 5], [], some (13, true)⟩,
      ⟨(some 15), (.load 1 false), [.t 14], [], some (13, true)⟩,
      ⟨(some 16), (.bin .eql), [.t 15, .c (.int .i64 1)], [], some (13, true)⟩,
      ⟨(some 17), .pick, [.t 13, .t 16, .c (.bool false)], [], none⟩,
      ⟨(some 9), .mv, [.t 17], [], none⟩] [0, 4, 5, 9])
    (.cond (.t 9)
     (.seq (.seq (.region [
        ⟨(some 18), (.fieldAddr 1), [.t 4], [], none⟩,
        ⟨(some 19), (.load 1 false), [.t 18], [], none⟩,
        ⟨(some 20), (.fieldAddr 1), [.t 5], [], none⟩,
        ⟨(some 21), (.load 1 false), [.t 20], [], none⟩,
        ⟨(some 22), (.bin .neq), [.t 19, .t 21], [], none⟩] [0, 4, 5, 22])
      (.cond (.t 22)
       (.region [
        ⟨(some 23), .mv, [.t 0], [], none⟩,
        ⟨(some 24), (.fieldAddr 1), [.t 4], [], none⟩,
        ⟨(some 25), (.load 1 false), [.t 24], [], none⟩,
        ⟨(some 26), (.fieldAddr 1), [.t 5], [], none⟩,
        ⟨(some 27), (.load 1 false), [.t 26], [], none⟩,
        ⟨(some 28), .max, [.t 25, .t 27], [], none⟩,
        ⟨(some 29), (.fieldAddr 1), [.t 4], [], none⟩,
        ⟨(some 30), (.load 1 false), [.t 29], [], none⟩,
        ⟨(some 31), (.fieldAddr 1), [.t 5], [], none⟩,
        ⟨(some 32), (.load 1 false), [.t 31], [], none⟩,
        ⟨(some 33), .min, [.t 30, .t 32], [], none⟩,
        ⟨(some 34), (.call .al), [.c (.fn 33 []), .t 33], [], none⟩,
        ⟨(some 35), (.call .wr), [.c (.fn 40 []), .t 23, .t 28, .t 34], [34], none⟩] [])
       (.skip)))
     (.seq (.region [
       ⟨(some 6), .mv, [.c (.int .i64 0)], [], none⟩] [6])
     (.ret)))
     (.seq (.region [
       ⟨(some 37), (.fieldAddr 0), [.t 4], [], none⟩,
       ⟨(some 38), (.load 1 false), [.t 37], [], none⟩,
       ⟨(some 39), (.bin .eql), [.t 38, .c (.int .i64 1)], [], none⟩,
       ⟨(some 36), .mv, [.t 39], [], none⟩] [0, 4, 5, 36])
     (.cond (.t 36)
      (.seq (.region [
        ⟨(some 40), .mv, [.t 0], [], none⟩,
        ⟨(some 41), (.fieldAddr 1), [.t 4], [], none⟩,
        ⟨(some 42), (.load 1 false), [.t 41], [], none⟩,
        ⟨(some 43), (.loadT 4 true), [.t 5], [], none⟩,
        ⟨(some 44), (.call .wr), [.c (.fn 41 []), .t 40, .t 42, .t 43], [43], none⟩,
        ⟨(some 6), .mv, [.t 44], [], none⟩] [6])
      (.ret))
      (.seq (.region [
        ⟨(some 46), (.fieldAddr 0), [.t 5], [], none⟩,
        ⟨(some 47), (.load 1 false), [.t 46], [], none⟩,
        ⟨(some 48), (.bin .eql), [.t 47, .c (.int .i64 1)], [], none⟩,
        ⟨(some 45), .mv, [.t 48], [], none⟩] [0, 4, 5, 45])
      (.cond (.t 45)
       (.seq (.region [
         ⟨(some 49), .mv, [.t 0], [], none⟩,
         ⟨(some 50), (.fieldAddr 1), [.t 5], [], none⟩,
         ⟨(some 51), (.load 1 false), [.t 50], [], none⟩,
         ⟨(some 52), (.loadT 4 true), [.t 4], [], none⟩,
         ⟨(some 53), (.call .wr), [.c (.fn 41 []), .t 49, .t 51, .t 52], [52], none⟩,
         ⟨(some 6), .mv, [.t 53], [], none⟩] [6])
       (.ret))
       (.skip))))))))
  (.seq (.seq (.region [
     ⟨(some 54), (.fieldAddr 0), [.t 4], [], none⟩,
     ⟨(some 55), (.load 1 false), [.t 54], [], none⟩,
     ⟨(some 56), (.fieldAddr 0), [.t 5], [], none⟩,
     ⟨(some 57), (.load 1 false), [.t 56], [], none⟩,
     ⟨(some 58), (.bin .neq), [.t 55, .t 57], [], none⟩,
     ⟨(some 59), .mv, [.t 58], [], none⟩,
     ⟨(some 60), (.fieldAddr 2), [.t 4], [], some (59, false)⟩,
     ⟨(some 61), (.load 1 false), [.t 60], [], some (59, false)⟩,
     ⟨(some 62), (.fieldAddr 2), [.t 5], [], some (59, false)⟩,
     ⟨(some 63), (.load 1 false), [.t 62], [], some (59, false)⟩,
     ⟨(some 64), (.bin .neq), [.t 61, .t 63], [], some (59, false)⟩,
     ⟨(some 65), .pick, [.t 59, .c (.bool true), .t 64], [], none⟩,
     ⟨(some 66), .mv, [.t 65], [], none⟩,
     ⟨(some 67), (.fieldAddr 3), [.t 4], [], some (66, false)⟩,
     ⟨(some 68), (.load 1 false), [.t 67], [], some (66, false)⟩,
     ⟨(some 69), .len, [.t 68], [], some (66, false)⟩,
     ⟨(some 70), (.fieldAddr 3), [.t 5], [], some (66, false)⟩,
     ⟨(some 71), (.load 1 false), [.t 70], [], some (66, false)⟩,
     ⟨(some 72), .len, [.t 71], [], some (66, false)⟩,
     ⟨(some 73), (.bin .neq), [.t 69, .t 72], [], some (66, false)⟩,
     ⟨(some 74), .pick, [.t 66, .c (.bool true), .t 73], [], none⟩] [0, 4, 5, 74])
   (.cond (.t 74)
    (.seq (.region [
      ⟨(some 6), .mv, [.c (.int .i64 100)], [], none⟩] [6])
    (.ret))
    (.skip)))
  (.seq (.seq (.region [
     ⟨(some 75), (.fieldAddr 3), [.t 4], [], none⟩,
     ⟨(some 76), (.load 1 false), [.t 75], [], none⟩,
     ⟨(some 77), .len, [.t 76], [], none⟩,
     ⟨(some 78), .mv, [.c (.int .i64 0)], [], none⟩] [0, 4, 5, 77, 78])
   (.block 1 (.loop (.seq (.region [
       ⟨(some 79), (.bin .lss), [.t 78, .t 77], [], none⟩] [0, 4, 5, 77, 78, 79])
     (.seq (.cond (.t 79)
       (.skip)
       (.exit 1))
     (.seq (.block 2 (.seq (.region [
         ⟨(some 80), .mv, [.t 78], [], none⟩,
         ⟨(some 7), .mv, [.t 80], [], none⟩] [0, 4, 5, 7, 77, 78])
       (.seq (.region [
         ⟨(some 81), .mv, [.t 0], [], none⟩,
         ⟨(some 82), (.fieldAddr 3), [.t 4], [], none⟩,
         ⟨(some 83), (.load 1 false), [.t 82], [], none⟩,
         ⟨(some 84), .mv, [.t 7], [], none⟩,
         ⟨(some 85), (.indexAddr 4), [.t 83, .t 84], [], none⟩,
         ⟨(some 86), (.load 4 true), [.t 85], [], none⟩,
         ⟨(some 87), (.fieldAddr 3), [.t 5], [], none⟩,
         ⟨(some 88), (.load 1 false), [.t 87], [], none⟩,
         ⟨(some 89), .mv, [.t 7], [], none⟩,
         ⟨(some 90), (.indexAddr 4), [.t 88, .t 89], [], none⟩,
         ⟨(some 91), (.load 4 true), [.t 90], [], none⟩,
         ⟨(some 92), (.call .wr), [.c (.fn 30 []), .t 81, .t 86, .t 91], [86, 91], none⟩,
         ⟨(some 8), .mv, [.t 92], [], none⟩] [0, 4, 5, 8, 77, 78])
       (.seq (.region [
         ⟨(some 93), .mv, [.t 8], [], none⟩,
         ⟨(some 94), (.bin .neq), [.t 93, .c (.int .i64 0)], [], none⟩] [0, 4, 5, 8, 77, 78, 94])
       (.cond (.t 94)
        (.seq (.region [
          ⟨(some 95), .mv, [.t 8], [], none⟩,
          ⟨(some 6), .mv, [.t 95], [], none⟩] [6])
        (.ret))
        (.skip))))))
     (.region [
      ⟨(some 96), (.bin .add), [.t 78, .c (.int .i64 1)], [], none⟩,
      ⟨(some 78), .mv, [.t 96], [], none⟩] [0, 4, 5, 77, 78])))))))
  (.seq (.region [
    ⟨(some 6), .mv, [.c (.int .i64 0)], [], none⟩] [6])
  (.ret))))),
  [.tmp 6]⟩
/-- changeling/unify.vars -/
def v38 : VFunc := ⟨34,
  .seq (.region [
    ⟨(some 2), .box, [.t 0], [0], none⟩,
    ⟨(some 4), .mv, [.c (.sl true 1 [])], [], none⟩] [1, 2])
  (.seq (.seq (.region [
     ⟨(some 7), (.fieldAddr 0), [.t 2], [], none⟩,
     ⟨(some 8), (.load 1 false), [.t 7], [], none⟩,
     ⟨(some 9), (.bin .eql), [.t 8, .c (.int .i64 1)], [], none⟩,
     ⟨(some 10), .mv, [.t 9], [], none⟩,
     ⟨(some 11), .mv, [.t 1], [], some (10, true)⟩,
     ⟨(some 12), (.fieldAddr 1), [.t 2], [], some (10, true)⟩,
     ⟨(some 13), (.load 1 false), [.t 12], [], some (10, true)⟩,
     ⟨(some 14), (.call .wr), [.c (.fn 42 []), .t 11, .t 13], [11], some (10, true)⟩,
     ⟨(some 15), .not, [.t 14], [], some (10, true)⟩,
     ⟨(some 16), .pick, [.t 10, .t 15, .c (.bool false)], [], none⟩] [1, 2, 16])
   (.cond (.t 16)
    (.region [
     ⟨(some 17), .mv, [.t 1], [1], none⟩,
     ⟨(some 18), (.fieldAddr 1), [.t 2], [], none⟩,
     ⟨(some 19), (.load 1 false), [.t 18], [], none⟩,
     ⟨(some 20), (.buildSl 1), [.t 19], [], none⟩,
     ⟨(some 21), (.append 1 8), [.t 17, .t 20], [17], none⟩,
     ⟨(some 1), .mv, [.t 21], [21], none⟩] [1, 2])
    (.skip)))
  (.seq (.seq (.region [
     ⟨(some 22), (.fieldAddr 3), [.t 2], [], none⟩,
     ⟨(some 23), (.load 1 false), [.t 22], [], none⟩,
     ⟨(some 24), .len, [.t 23], [], none⟩,
     ⟨(some 25), .mv, [.c (.int .i64 0)], [], none⟩] [1, 23, 24, 25])
   (.block 0 (.loop (.seq (.region [
       ⟨(some 26), (.bin .lss), [.t 25, .t 24], [], none⟩] [1, 23, 24, 25, 26])
     (.seq (.cond (.t 26)
       (.skip)
       (.exit 0))
     (.seq (.block 1 (.seq (.region [
         ⟨(some 27), (.indexAddr 4), [.t 23, .t 25], [], none⟩,
         ⟨(some 28), (.load 4 true), [.t 27], [], none⟩,
         ⟨(some 6), (.alloc [.int .i64 0, .int .i64 0, .str [], .sl true 4 []]), [], [], none⟩,
         ⟨none, (.store 4), [.t 6, .t 28], [28], none⟩] [1, 6, 23, 24, 25])
       (.region [
        ⟨(some 29), (.loadT 4 true), [.t 6], [], none⟩,
        ⟨(some 30), .mv, [.t 1], [1], none⟩,
        ⟨(some 31), (.call .wr), [.c (.fn 38 []), .t 29, .t 30], [29, 30], none⟩,
        ⟨(some 1), .mv, [.t 31], [31], none⟩] [1, 23, 24, 25])))
     (.region [
      ⟨(some 32), (.bin .add), [.t 25, .c (.int .i64 1)], [], none⟩,
      ⟨(some 25), .mv, [.t 32], [], none⟩] [1, 23, 24, 25])))))))
  (.seq (.region [
    ⟨(some 33), .mv, [.t 1], [1], none⟩,
    ⟨(some 4), .mv, [.t 33], [33], none⟩] [4])
  (.ret)))),
  [.tmp 4]⟩
/-- changeling/unify.subst -/
def v39 : VFunc := ⟨67,
  .seq (.region [
    ⟨(some 3), .box, [.t 0], [0], none⟩,
    ⟨(some 6), (.alloc [.int .i64 0, .int .i64 0, .str [], .sl true 4 []]), [], [], none⟩] [1, 2, 3, 6])
  (.seq (.seq (.region [
     ⟨(some 12), (.fieldAddr 0), [.t 3], [], none⟩,
     ⟨(some 13), (.load 1 false), [.t 12], [], none⟩,
     ⟨(some 14), (.bin .eql), [.t 13, .c (.int .i64 1)], [], none⟩] [1, 2, 3, 6, 14])
   (.cond (.t 14)
    (.seq (.seq (.region [
       ⟨(some 15), .mv, [.t 1], [1], none⟩,
       ⟨(some 16), .len, [.t 15], [], none⟩,
       ⟨(some 17), .mv, [.c (.int .i64 0)], [], none⟩] [2, 3, 6, 15, 16, 17])
     (.block 0 (.loop (.seq (.region [
         ⟨(some 18), (.bin .lss), [.t 17, .t 16], [], none⟩] [2, 3, 6, 15, 16, 17, 18])
       (.seq (.cond (.t 18)
         (.skip)
         (.exit 0))
       (.seq (.block 1 (.seq (.region [
           ⟨(some 19), .mv, [.t 17], [], none⟩,
           ⟨(some 20), (.indexAddr 1), [.t 15, .t 17], [], none⟩,
           ⟨(some 21), (.load 1 false), [.t 20], [], none⟩,
           ⟨(some 7), .mv, [.t 19], [], none⟩,
           ⟨(some 8), .mv, [.t 21], [], none⟩] [2, 3, 6, 7, 8, 15, 16, 17])
         (.seq (.seq (.region [
            ⟨(some 22), .mv, [.t 8], [], none⟩,
            ⟨(some 23), (.fieldAddr 1), [.t 3], [], none⟩,
            ⟨(some 24), (.load 1 false), [.t 23], [], none⟩,
            ⟨(some 25), (.bin .eql), [.t 22, .t 24], [], none⟩,
            ⟨(some 26), .mv, [.t 25], [], none⟩,
            ⟨(some 27), .mv, [.t 7], [], some (26, true)⟩,
            ⟨(some 28), .mv, [.t 2], [], some (26, true)⟩,
            ⟨(some 29), .len, [.t 28], [], some (26, true)⟩,
            ⟨(some 30), (.bin .lss), [.t 27, .t 29], [], some (26, true)⟩,
            ⟨(some 31), .pick, [.t 26, .t 30, .c (.bool false)], [], none⟩] [2, 3, 6, 7, 8, 15, 16, 17, 31])
          (.cond (.t 31)
           (.seq (.region [
             ⟨(some 32), .mv, [.t 2], [2], none⟩,
             ⟨(some 33), .mv, [.t 7], [], none⟩,
             ⟨(some 34), (.indexAddr 4), [.t 32, .t 33], [], none⟩,
             ⟨(some 35), (.load 4 true), [.t 34], [], none⟩,
             ⟨(some 36), (.call .wr), [.c (.fn 31 []), .t 35], [35], none⟩,
             ⟨none, (.store 4), [.t 6, .t 36], [36], none⟩] [6])
           (.ret))
           (.skip)))
         (.seq (.region [
           ⟨(some 37), .mv, [.t 8], [], none⟩,
           ⟨(some 38), (.fieldAddr 1), [.t 3], [], none⟩,
           ⟨(some 39), (.load 1 false), [.t 38], [], none⟩,
           ⟨(some 40), (.bin .eql), [.t 37, .t 39], [], none⟩] [2, 3, 6, 15, 16, 17, 40])
         (.cond (.t 40)
          (.seq (.region [
            ⟨(some 41), (.loadT 4 true), [.t 3], [], none⟩,
            ⟨none, (.store 4), [.t 6, .t 41], [41], none⟩] [6])
          (.ret))
          (.skip))))))
       (.region [
        ⟨(some 42), (.bin .add), [.t 17, .c (.int .i64 1)], [], none⟩,
        ⟨(some 17), .mv, [.t 42], [], none⟩] [2, 3, 6, 15, 16, 17])))))))
    (.seq (.region [
      ⟨(some 43), (.loadT 4 true), [.t 3], [], none⟩,
      ⟨none, (.store 4), [.t 6, .t 43], [43], none⟩] [6])
    (.ret)))
    (.skip)))
  (.seq (.region [
    ⟨(some 44), (.fieldAddr 0), [.t 3], [], none⟩,
    ⟨(some 45), (.load 1 false), [.t 44], [], none⟩,
    ⟨(some 46), (.fieldAddr 2), [.t 3], [], none⟩,
    ⟨(some 47), (.load 1 false), [.t 46], [], none⟩,
    ⟨(some 48), (.build [.int .i64 0, .int .i64 0, .str [], .sl true 4 []] [(0, 1), (2, 1)]), [.t 45, .t 47], [], none⟩,
    ⟨(some 9), (.alloc [.int .i64 0, .int .i64 0, .str [], .sl true 4 []]), [], [], none⟩,
    ⟨none, (.store 4), [.t 9, .t 48], [48], none⟩] [1, 2, 3, 6, 9])
  (.seq (.seq (.region [
     ⟨(some 49), (.fieldAddr 3), [.t 3], [], none⟩,
     ⟨(some 50), (.load 1 false), [.t 49], [], none⟩,
     ⟨(some 51), .len, [.t 50], [], none⟩,
     ⟨(some 52), .mv, [.c (.int .i64 0)], [], none⟩] [1, 2, 6, 9, 50, 51, 52])
   (.block 2 (.loop (.seq (.region [
       ⟨(some 53), (.bin .lss), [.t 52, .t 51], [], none⟩] [1, 2, 6, 9, 50, 51, 52, 53])
     (.seq (.cond (.t 53)
       (.skip)
       (.exit 2))
     (.seq (.block 3 (.seq (.region [
         ⟨(some 54), (.indexAddr 4), [.t 50, .t 52], [], none⟩,
         ⟨(some 55), (.load 4 true), [.t 54], [], none⟩,
         ⟨(some 11), (.alloc [.int .i64 0, .int .i64 0, .str [], .sl true 4 []]), [], [], none⟩,
         ⟨none, (.store 4), [.t 11, .t 55], [55], none⟩] [1, 2, 6, 9, 11, 50, 51, 52])
       (.region [
        ⟨(some 56), (.fieldAddr 3), [.t 9], [], none⟩,
        ⟨(some 57), (.loadT 1 false), [.t 56], [], none⟩,
        ⟨(some 58), (.load 4 true), [.t 11], [], none⟩,
        ⟨(some 59), .mv, [.t 1], [], none⟩,
        ⟨(some 60), .mv, [.t 2], [], none⟩,
        ⟨(some 61), (.call .al), [.c (.fn 39 []), .t 58, .t 59, .t 60], [58, 59, 60], none⟩,
        ⟨(some 62), (.buildSl 4), [.t 61], [61], none⟩,
        ⟨(some 63), (.append 4 56), [.t 57, .t 62], [57], none⟩,
        ⟨(some 64), (.fieldAddr 3), [.t 9], [], none⟩,
        ⟨none, (.store 1), [.t 64, .t 63], [63], none⟩] [1, 2, 6, 9, 50, 51, 52])))
     (.region [
      ⟨(some 65), (.bin .add), [.t 52, .c (.int .i64 1)], [], none⟩,
      ⟨(some 52), .mv, [.t 65], [], none⟩] [1, 2, 6, 9, 50, 51, 52])))))))
  (.seq (.region [
    ⟨(some 66), (.loadT 4 true), [.t 9], [], none⟩,
    ⟨none, (.store 4), [.t 6, .t 66], [66], none⟩] [6])
  (.ret))))),
  [.cell 6 4 true]⟩
/-- (*changeling/unify.Store).bind -/
def v40 : VFunc := ⟨22,
  .seq (.region [
    ⟨(some 5), .box, [.t 2], [2], none⟩] [0, 1, 5])
  (.seq (.region [
    ⟨(some 6), .mv, [.t 0], [], none⟩,
    ⟨(some 7), .nilCheck, [.t 6], [], none⟩,
    ⟨(some 8), (.fieldAddr 0), [.t 7], [], none⟩,
    ⟨(some 9), (.load 1 false), [.t 8], [], none⟩,
    ⟨(some 10), .mv, [.t 1], [], none⟩,
    ⟨(some 11), (.loadT 4 true), [.t 5], [], none⟩,
    ⟨none, (.mapUpdate false [.i]), [.t 9, .t 10, .t 11], [], none⟩] [0, 1])
  (.region [
   ⟨(some 12), .mv, [.t 0], [], none⟩,
   ⟨(some 13), .mv, [.t 0], [], none⟩,
   ⟨(some 14), .nilCheck, [.t 13], [], none⟩,
   ⟨(some 15), (.fieldAddr 2), [.t 14], [], none⟩,
   ⟨(some 16), (.loadT 1 false), [.t 15], [], none⟩,
   ⟨(some 17), .mv, [.t 1], [], none⟩,
   ⟨(some 18), (.buildSl 1), [.t 17], [], none⟩,
   ⟨(some 19), (.append 1 8), [.t 16, .t 18], [16], none⟩,
   ⟨(some 20), .nilCheck, [.t 12], [], none⟩,
   ⟨(some 21), (.fieldAddr 2), [.t 20], [], none⟩,
   ⟨none, (.store 1), [.t 21, .t 19], [19], none⟩] [])),
  []⟩
/-- (*changeling/unify.Store).becomes -/
def v41 : VFunc := ⟨16,
  .seq (.region [
    ⟨(some 5), .box, [.t 2], [2], none⟩,
    ⟨(some 6), .mv, [.c (.int .i64 0)], [], none⟩] [0, 1, 5])
  (.seq (.seq (.region [
     ⟨(some 7), .mv, [.t 0], [], none⟩,
     ⟨(some 8), .mv, [.t 1], [], none⟩,
     ⟨(some 9), (.load 4 true), [.t 5], [], none⟩,
     ⟨(some 10), .makeMap, [], [], none⟩,
     ⟨(some 11), (.call .wr), [.c (.fn 43 []), .t 7, .t 8, .t 9, .t 10], [9], none⟩] [0, 1, 5, 11])
   (.cond (.t 11)
    (.seq (.region [
      ⟨(some 6), .mv, [.c (.int .i64 101)], [], none⟩] [6])
    (.ret))
    (.skip)))
  (.seq (.region [
    ⟨(some 12), .mv, [.t 0], [], none⟩,
    ⟨(some 13), .mv, [.t 1], [], none⟩,
    ⟨(some 14), (.loadT 4 true), [.t 5], [], none⟩,
    ⟨(some 15), (.call .wr), [.c (.fn 40 []), .t 12, .t 13, .t 14], [14], none⟩] [])
  (.seq (.region [
    ⟨(some 6), .mv, [.c (.int .i64 0)], [], none⟩] [6])
  (.ret)))),
  [.tmp 6]⟩
/-- changeling/unify.has -/
def v42 : VFunc := ⟨17,
  .seq (.region [
    ⟨(some 4), .mv, [.c (.bool false)], [], none⟩] [0, 1])
  (.seq (.seq (.region [
     ⟨(some 7), .mv, [.t 0], [0], none⟩,
     ⟨(some 8), .len, [.t 7], [], none⟩,
     ⟨(some 9), .mv, [.c (.int .i64 0)], [], none⟩] [1, 7, 8, 9])
   (.block 0 (.loop (.seq (.region [
       ⟨(some 10), (.bin .lss), [.t 9, .t 8], [], none⟩] [1, 7, 8, 9, 10])
     (.seq (.cond (.t 10)
       (.skip)
       (.exit 0))
     (.seq (.block 1 (.seq (.region [
         ⟨(some 11), (.indexAddr 1), [.t 7, .t 9], [], none⟩,
         ⟨(some 12), (.load 1 false), [.t 11], [], none⟩,
         ⟨(some 6), .mv, [.t 12], [], none⟩] [1, 6, 7, 8, 9])
       (.seq (.region [
         ⟨(some 13), .mv, [.t 6], [], none⟩,
         ⟨(some 14), .mv, [.t 1], [], none⟩,
         ⟨(some 15), (.bin .eql), [.t 13, .t 14], [], none⟩] [1, 7, 8, 9, 15])
       (.cond (.t 15)
        (.seq (.region [
          ⟨(some 4), .mv, [.c (.bool true)], [], none⟩] [4])
        (.ret))
        (.skip)))))
     (.region [
      ⟨(some 16), (.bin .add), [.t 9, .c (.int .i64 1)], [], none⟩,
      ⟨(some 9), .mv, [.t 16], [], none⟩] [1, 7, 8, 9])))))))
  (.seq (.region [
    ⟨(some 4), .mv, [.c (.bool false)], [], none⟩] [4])
  (.ret))),
  [.tmp 4]⟩
/-- (*changeling/unify.Store).occurs -/
def v43 : VFunc := ⟨59,
  .seq (.region [
    ⟨(some 6), .box, [.t 2], [2], none⟩,
    ⟨(some 8), .mv, [.c (.bool false)], [], none⟩] [0, 1, 3, 6])
  (.seq (.seq (.region [
     ⟨(some 13), (.fieldAddr 0), [.t 6], [], none⟩,
     ⟨(some 14), (.load 1 false), [.t 13], [], none⟩,
     ⟨(some 15), (.bin .eql), [.t 14, .c (.int .i64 1)], [], none⟩] [0, 1, 3, 6, 15])
   (.cond (.t 15)
    (.seq (.seq (.region [
       ⟨(some 16), (.fieldAddr 1), [.t 6], [], none⟩,
       ⟨(some 17), (.load 1 false), [.t 16], [], none⟩,
       ⟨(some 18), .mv, [.t 1], [], none⟩,
       ⟨(some 19), (.bin .eql), [.t 17, .t 18], [], none⟩] [0, 1, 3, 6, 19])
     (.cond (.t 19)
      (.seq (.region [
        ⟨(some 8), .mv, [.c (.bool true)], [], none⟩] [8])
      (.ret))
      (.skip)))
    (.seq (.region [
      ⟨(some 21), .mv, [.t 0], [], none⟩,
      ⟨(some 22), .nilCheck, [.t 21], [], none⟩,
      ⟨(some 23), (.fieldAddr 0), [.t 22], [], none⟩,
      ⟨(some 24), (.load 1 false), [.t 23], [], none⟩,
      ⟨(some 25), (.fieldAddr 1), [.t 6], [], none⟩,
      ⟨(some 26), (.load 1 false), [.t 25], [], none⟩,
      ⟨(some 27), (.lookup false [.i] true [.int .i64 0, .int .i64 0, .str [], .sl false 4 []] true), [.t 24, .t 26], [], none⟩,
      ⟨(some 20), .mv, [.t 27], [], none⟩,
      ⟨(some 28), (.extract 0), [.t 20], [], none⟩,
      ⟨(some 29), (.extract 1), [.t 20], [], none⟩,
      ⟨(some 9), (.alloc [.int .i64 0, .int .i64 0, .str [], .sl true 4 []]), [], [], none⟩,
      ⟨none, (.store 4), [.t 9, .t 28], [], none⟩,
      ⟨(some 10), .mv, [.t 29], [], none⟩] [0, 1, 3, 6, 9, 10])
    (.seq (.seq (.region [
       ⟨(some 30), .mv, [.t 10], [], none⟩,
       ⟨(some 31), .not, [.t 30], [], none⟩,
       ⟨(some 32), .mv, [.t 31], [], none⟩,
       ⟨(some 33), .mv, [.t 3], [], some (32, false)⟩,
       ⟨(some 34), (.fieldAddr 1), [.t 6], [], some (32, false)⟩,
       ⟨(some 35), (.load 1 false), [.t 34], [], some (32, false)⟩,
       ⟨(some 36), (.lookup false [.i] false [.bool false] false), [.t 33, .t 35], [], some (32, false)⟩,
       ⟨(some 37), .pick, [.t 32, .c (.bool true), .t 36], [], none⟩] [0, 1, 3, 6, 9, 37])
     (.cond (.t 37)
      (.seq (.region [
        ⟨(some 8), .mv, [.c (.bool false)], [], none⟩] [8])
      (.ret))
      (.skip)))
    (.seq (.region [
      ⟨(some 38), .mv, [.t 3], [], none⟩,
      ⟨(some 39), (.fieldAddr 1), [.t 6], [], none⟩,
      ⟨(some 40), (.load 1 false), [.t 39], [], none⟩,
      ⟨none, (.mapUpdate false [.i]), [.t 38, .t 40, .c (.bool true)], [], none⟩] [0, 1, 3, 9])
    (.seq (.region [
      ⟨(some 41), .mv, [.t 0], [], none⟩,
      ⟨(some 42), .mv, [.t 1], [], none⟩,
      ⟨(some 43), (.loadT 4 true), [.t 9], [], none⟩,
      ⟨(some 44), .mv, [.t 3], [], none⟩,
      ⟨(some 45), (.call .wr), [.c (.fn 43 []), .t 41, .t 42, .t 43, .t 44], [43], none⟩,
      ⟨(some 8), .mv, [.t 45], [], none⟩] [8])
    (.ret))))))
    (.skip)))
  (.seq (.seq (.region [
     ⟨(some 46), (.fieldAddr 3), [.t 6], [], none⟩,
     ⟨(some 47), (.load 1 false), [.t 46], [], none⟩,
     ⟨(some 48), .len, [.t 47], [], none⟩,
     ⟨(some 49), .mv, [.c (.int .i64 0)], [], none⟩] [0, 1, 3, 47, 48, 49])
   (.block 0 (.loop (.seq (.region [
       ⟨(some 50), (.bin .lss), [.t 49, .t 48], [], none⟩] [0, 1, 3, 47, 48, 49, 50])
     (.seq (.cond (.t 50)
       (.skip)
       (.exit 0))
     (.seq (.block 1 (.seq (.region [
         ⟨(some 51), (.indexAddr 4), [.t 47, .t 49], [], none⟩,
         ⟨(some 52), (.load 4 true), [.t 51], [], none⟩,
         ⟨(some 12), (.alloc [.int .i64 0, .int .i64 0, .str [], .sl true 4 []]), [], [], none⟩,
         ⟨none, (.store 4), [.t 12, .t 52], [52], none⟩] [0, 1, 3, 12, 47, 48, 49])
       (.seq (.region [
         ⟨(some 53), .mv, [.t 0], [], none⟩,
         ⟨(some 54), .mv, [.t 1], [], none⟩,
         ⟨(some 55), (.loadT 4 true), [.t 12], [], none⟩,
         ⟨(some 56), .mv, [.t 3], [], none⟩,
         ⟨(some 57), (.call .wr), [.c (.fn 43 []), .t 53, .t 54, .t 55, .t 56], [55], none⟩] [0, 1, 3, 47, 48, 49, 57])
       (.cond (.t 57)
        (.seq (.region [
          ⟨(some 8), .mv, [.c (.bool true)], [], none⟩] [8])
        (.ret))
        (.skip)))))
     (.region [
      ⟨(some 58), (.bin .add), [.t 49, .c (.int .i64 1)], [], none⟩,
      ⟨(some 49), .mv, [.t 58], [], none⟩] [0, 1, 3, 47, 48, 49])))))))
  (.seq (.region [
    ⟨(some 8), .mv, [.c (.bool false)], [], none⟩] [8])
  (.ret)))),
  [.tmp 8]⟩

def tab : List Entry := [⟨3, v3, false⟩, ⟨4, v4, false⟩, ⟨5, v5, false⟩, ⟨7, v7, false⟩, ⟨8, v8, false⟩, ⟨9, v9, true⟩, ⟨10, v10, false⟩, ⟨11, v11, false⟩, ⟨12, v12, false⟩, ⟨13, v13, false⟩, ⟨14, v14, false⟩, ⟨15, v15, false⟩, ⟨16, v16, false⟩, ⟨17, v17, false⟩, ⟨18, v18, false⟩, ⟨19, v19, true⟩, ⟨20, v20, false⟩, ⟨21, v21, false⟩, ⟨22, v22, false⟩, ⟨23, v23, false⟩, ⟨24, v24, false⟩, ⟨25, v25, false⟩, ⟨26, v26, false⟩, ⟨27, v27, false⟩, ⟨28, v28, false⟩, ⟨29, v29, false⟩, ⟨30, v30, false⟩, ⟨31, v31, false⟩, ⟨32, v32, false⟩, ⟨33, v33, false⟩, ⟨34, v34, false⟩, ⟨35, v35, false⟩, ⟨36, v36, false⟩, ⟨37, v37, false⟩, ⟨38, v38, false⟩, ⟨39, v39, false⟩, ⟨40, v40, false⟩, ⟨41, v41, false⟩, ⟨42, v42, false⟩, ⟨43, v43, false⟩]

theorem c3 : chkFn Try.prog 3 v3 = true := by kernel_rfl
theorem c4 : chkFn Try.prog 4 v4 = true := by kernel_rfl
theorem c5 : chkFn Try.prog 5 v5 = true := by kernel_rfl
theorem c7 : chkFn Try.prog 7 v7 = true := by kernel_rfl
theorem c8 : chkFn Try.prog 8 v8 = true := by kernel_rfl
theorem c9 : chkFn Try.prog 9 v9 = true := by kernel_rfl
theorem c10 : chkFn Try.prog 10 v10 = true := by kernel_rfl
theorem c11 : chkFn Try.prog 11 v11 = true := by kernel_rfl
theorem c12 : chkFn Try.prog 12 v12 = true := by kernel_rfl
theorem c13 : chkFn Try.prog 13 v13 = true := by kernel_rfl
theorem c14 : chkFn Try.prog 14 v14 = true := by kernel_rfl
theorem c15 : chkFn Try.prog 15 v15 = true := by kernel_rfl
theorem c16 : chkFn Try.prog 16 v16 = true := by kernel_rfl
theorem c17 : chkFn Try.prog 17 v17 = true := by kernel_rfl
theorem c18 : chkFn Try.prog 18 v18 = true := by kernel_rfl
theorem c19 : chkFn Try.prog 19 v19 = true := by kernel_rfl
theorem c20 : chkFn Try.prog 20 v20 = true := by kernel_rfl
theorem c21 : chkFn Try.prog 21 v21 = true := by kernel_rfl
theorem c22 : chkFn Try.prog 22 v22 = true := by kernel_rfl
theorem c23 : chkFn Try.prog 23 v23 = true := by kernel_rfl
theorem c24 : chkFn Try.prog 24 v24 = true := by kernel_rfl
theorem c25 : chkFn Try.prog 25 v25 = true := by kernel_rfl
theorem c26 : chkFn Try.prog 26 v26 = true := by kernel_rfl
theorem c27 : chkFn Try.prog 27 v27 = true := by kernel_rfl
theorem c28 : chkFn Try.prog 28 v28 = true := by kernel_rfl
theorem c29 : chkFn Try.prog 29 v29 = true := by kernel_rfl
theorem c30 : chkFn Try.prog 30 v30 = true := by kernel_rfl
theorem c31 : chkFn Try.prog 31 v31 = true := by kernel_rfl
theorem c32 : chkFn Try.prog 32 v32 = true := by kernel_rfl
theorem c33 : chkFn Try.prog 33 v33 = true := by kernel_rfl
theorem c34 : chkFn Try.prog 34 v34 = true := by kernel_rfl
theorem c35 : chkFn Try.prog 35 v35 = true := by kernel_rfl
theorem c36 : chkFn Try.prog 36 v36 = true := by kernel_rfl
theorem c37 : chkFn Try.prog 37 v37 = true := by kernel_rfl
theorem c38 : chkFn Try.prog 38 v38 = true := by kernel_rfl
theorem c39 : chkFn Try.prog 39 v39 = true := by kernel_rfl
theorem c40 : chkFn Try.prog 40 v40 = true := by kernel_rfl
theorem c41 : chkFn Try.prog 41 v41 = true := by kernel_rfl
theorem c42 : chkFn Try.prog 42 v42 = true := by kernel_rfl
theorem c43 : chkFn Try.prog 43 v43 = true := by kernel_rfl
theorem mix : Try.prog.follows .mixedOrders = true := by kernel_rfl
theorem tab_ok : tabOk Try.prog tab := by
  intro e h
  simp only [tab, List.mem_cons, List.not_mem_nil, or_false] at h
  rcases h with rfl | rfl | rfl | rfl | rfl | rfl | rfl | rfl | rfl | rfl | rfl | rfl | rfl | rfl | rfl | rfl | rfl | rfl | rfl | rfl | rfl | rfl | rfl | rfl | rfl | rfl | rfl | rfl | rfl | rfl | rfl | rfl | rfl | rfl | rfl | rfl | rfl | rfl | rfl | rfl
  · exact c3
  · exact c4
  · exact c5
  · exact c7
  · exact c8
  · exact c9
  · exact c10
  · exact c11
  · exact c12
  · exact c13
  · exact c14
  · exact c15
  · exact c16
  · exact c17
  · exact c18
  · exact c19
  · exact c20
  · exact c21
  · exact c22
  · exact c23
  · exact c24
  · exact c25
  · exact c26
  · exact c27
  · exact c28
  · exact c29
  · exact c30
  · exact c31
  · exact c32
  · exact c33
  · exact c34
  · exact c35
  · exact c36
  · exact c37
  · exact c38
  · exact c39
  · exact c40
  · exact c41
  · exact c42
  · exact c43

end Go.Proofs.Ytneonbdlgmaofaa.Vm
namespace Go.Proofs.Ytneonbdlgmaofaa.Vm
open Go
theorem known_run : callN tab 100000 10 [] [] = some (.bool true, []) := by kernel_rfl
theorem known_T : T Try.prog 10 [] [] (.bool true) [] := callN_sound mix tab_ok _ known_run
theorem known_H (H : Heap) : T Try.prog 10 [] H (.bool true) H := known_T.frame rfl H
end Go.Proofs.Ytneonbdlgmaofaa.Vm
namespace Go.Proofs.Ytneonbdlgmaofaa.Vm
open Go
set_option linter.unusedSimpArgs false

/-- A function at the empty heap that answers something. -/
theorem T.of0x {P : Program} (hmix : P.follows .mixedOrders = true) {f : Nat} {vf : VFunc} (hc : chkFn P f vf = true) {args : List V} {R : V → Prop} (hl : Nat.ble args.length vf.n = true)
    (h : run P vf.body [] ⟨args.zipIdx.map fun p => (p.2, p.1), .tup []⟩ [] (end0 vf.results R)) : ∃ r, T P f args [] r [] ∧ R r := by
  obtain ⟨x, E1, H1, h1, h2, r0, h6, r, h7, h8⟩ := wp_sound h
  rw [env0_eq] at h1
  have := T_of (m := 0) hmix hc (Nat.le_of_ble_eq_true hl) h1 (by intro id e; subst e; exact h2) (Nat.le_refl _) (Nat.zero_le _) h6 h7 (fun i ob hi => absurd hi (Nat.not_lt_zero i))
  rw [List.take_zero] at this
  exact ⟨r, this, h8⟩

mutual
def tyC : Ty → List V
  | .mk k n s xs => [.int .i64 k, .int .i64 n, .str s, .sl false 4 (tysC xs)]
def tysC : List Ty → List (List V)
  | [] => []
  | a :: l => tyC a :: tysC l
end
theorem tysC_eq : ∀ l : List Ty, tysC l = l.map tyC
  | [] => rfl
  | a :: l => by rw [tysC, tysC_eq l]; rfl
def tyO (o : Bool) (t : Ty) : List V := [.int .i64 t.k, .int .i64 t.n, .str t.s, .sl o 4 (t.as.map tyC)]
def tyV (o : Bool) (t : Ty) : V := .agg (tyO o t)
theorem tyC_eq (t : Ty) : tyC t = tyO false t := by
  cases t with | mk k n s xs => simp only [tyC, tysC_eq]; rfl
theorem tyC_agg (t : Ty) : V.agg (tyC t) = tyV false t := by rw [tyC_eq]; rfl
@[go_sem] theorem gc_hit {v : Nat} {cs : List V} {H : Heap} : getCells (.cells v cs :: H) 0 v = some cs := by simp [getCells]
@[go_sem] theorem gc_next {o : Obj} {v i : Nat} {H : Heap} : getCells (o :: H) (i + 1) v = getCells H i v := by simp [getCells]

theorem inc64 {i : Nat} (h : i < 4611686018427387904) : IntKind.i64.wrap ((i : Int) + 1) = ((i + 1 : Nat) : Int) := by
  rw [wrap64 (by omega) (by omega)]; rfl
theorem dec64 {i : Nat} (h : i < 4611686018427387904) : IntKind.i64.wrap ((i : Int) - 1) = (i : Int) - 1 := wrap64 (by omega) (by omega)
@[go_sem] theorem tyC_len {a : Ty} : (tyC a).length = 4 := by rw [tyC_eq]; rfl
@[go_sem] theorem tyC_take {a : Ty} : List.take 4 (tyC a) = tyC a := List.take_of_length_le (by rw [tyC_len]; omega)
@[go_sem] theorem tyC_drop0 {a : Ty} : List.drop 0 (tyC a) = tyC a := rfl
@[go_sem] theorem tyC_strip {a : Ty} : List.map strip0 (tyC a) = tyC a := by rw [tyC_eq]; rfl
theorem ids_ty (o : Bool) (t : Ty) : idsL 0 [tyV o t] = true := rfl
theorem T.ty {P : Program} {f : Nat} {a : Ty} {r : V} (h : T P f [tyV false a] [] r []) (H : Heap) : T P f [.agg (tyC a)] H r H := by rw [tyC_agg]; exact h.frame rfl H
/-- No row of arguments is too long. -/
inductive Bd : Ty → Prop
  | mk {k n s xs} (hl : xs.length * 56 ≤ 140737488355328) (h : ∀ a ∈ xs, Bd a) : Bd (.mk k n s xs)
theorem Bd.len {k n : Int} {s : List UInt8} {xs : List Ty} (h : Bd (.mk k n s xs)) : xs.length * 56 ≤ 140737488355328 := by cases h; assumption
theorem Bd.arg {k n : Int} {s : List UInt8} {xs : List Ty} (h : Bd (.mk k n s xs)) : ∀ a ∈ xs, Bd a := by cases h; assumption
theorem rightL_drop {xs : List Ty} {i : Nat} {a : Ty} (h : xs[i]? = some a) : rightL (xs.drop i) = (rightB a && rightL (xs.drop (i + 1))) := by
  obtain ⟨h1, h2⟩ := List.getElem?_eq_some_iff.1 h
  rw [List.drop_eq_getElem_cons h1, h2]; rfl

theorem refRight_T (t : Ty) : Bd t → ∀ o : Bool, T Try.prog 14 [tyV o t] [] (.bool (rightB t)) [] := by
  induction t using Ty.ind with
  | h k n s xs ih =>
    intro hb o
    refine T.of0 mix c14 rfl ?_
    unfold v14
    simp only [tyV, tyO, Ty.k, Ty.n, Ty.s, Ty.as, go_sem, ↓reduceIte]
    generalize hL : WP Try.prog (VCode.loop _) _ _ _ = L
    have hl : rightB (Ty.mk k n s xs) = rightL xs → L := by
      intro hR
      rw [← hL]
      have hlen := hb.len
      refine WP.loop' (fun n' E H' => ∃ (i : Nat) (ex : List (Nat × V)), i + n' = xs.length ∧ rightL xs = rightL (xs.drop i) ∧ H' = [Obj.cells 0 [.int .i64 k, .int .i64 n, .str s, .sl o 4 (xs.map tyC)]] ∧
        E = ⟨(1, .ptr 0 0 0) :: (3, .int .i64 i) :: ex, .u⟩) (n := xs.length) ⟨0, _, by omega, rfl, rfl, rfl⟩ ?_
      rintro n' E H' ⟨i, ex, hi, hr, rfl, rfl⟩
      have hw := inc64 (i := i) (by omega)
      simp only [go_sem, ↓reduceIte, ↓ex_map, ↓run_addW, hw, Int.toNat_natCast]
      refine ⟨fun hlt => ?_, fun hge => ?_⟩
      · have hix : i < xs.length := by omega
        have hg := List.getElem?_eq_getElem hix
        have hd := rightL_drop hg
        refine ⟨by omega, _, hg, _, _, (ih _ (List.getElem_mem hix) (hb.arg _ (List.getElem_mem hix)) false).ty _, ?_⟩
        simp only [go_sem, ↓reduceIte, ↓run_addW, hw]
        refine ⟨fun h => ?_, fun h => ⟨n' - 1, by omega, i + 1, _, by omega, ?_, rfl⟩⟩
        · rw [hR, hr, hd]; simp at h; rw [h]; rfl
        · rw [hr, hd]; simp at h; rw [h]; rfl
      · have : i = xs.length := by omega
        rw [hR, hr, this, List.drop_length]; rfl
    clear hL
    have hR : rightB (Ty.mk k n s xs) = if k = 1 then decide (0 ≤ n ∧ n ≤ 1073741824) && s.isEmpty && xs.isEmpty else if k = 2 then !s.isEmpty && decide (n = 0) && rightL xs
      else if k = 3 then s.isEmpty && decide (n = 0) && decide (xs.length = 2) && rightL xs else false := by rw [rightB]
    have e1 : ((xs.length : Int) == 0) = xs.isEmpty := by cases xs <;> simp <;> omega
    have e2 : ((xs.length : Int) != 2) = !decide (xs.length = 2) := by
      by_cases h : xs.length = 2 <;> simp [h]; omega
    have e3 : (s == []) = s.isEmpty := by cases s <;> rfl
    rw [e1, e2, e3]
    by_cases h1 : k = 1
    · subst h1
      rw [if_pos rfl] at hR
      rw [hR]
      by_cases a : 0 ≤ n <;> by_cases b : n ≤ 1073741824 <;> cases s.isEmpty <;> cases xs.isEmpty <;> simp [a, b]
    · rw [if_neg h1] at hR
      by_cases h2 : k = 2
      · subst h2
        rw [if_pos rfl] at hR
        by_cases a : n = 0
        · cases hs : s.isEmpty
          · rw [hs] at hR
            have := hl (by rw [hR]; simp [a])
            simp [a, this]
          · rw [hs] at hR
            rw [hR]; simp [a]
        · rw [hR]; simp [a]
      · rw [if_neg h2] at hR
        by_cases h3 : k = 3
        · subst h3
          rw [if_pos rfl] at hR
          by_cases a : n = 0
          · by_cases b : xs.length = 2
            · cases hs : s.isEmpty
              · rw [hs] at hR; rw [hR]; simp [a]
              · rw [hs] at hR
                have := hl (by rw [hR]; simp [a, b])
                simp [a, b, this]
            · rw [hR]; cases hs : s.isEmpty <;> simp [a, b]
          · rw [hR]; simp [a]
        · rw [if_neg h3] at hR
          rw [hR]; simp [h1, h2, h3]

@[go_sem] theorem set_new {H : Heap} {a b : Obj} : (H ++ [a]).set H.length b = H ++ [b] := by
  rw [List.set_append]; simp
attribute [go_sem] gc_new
theorem tyO_plain (o : Bool) (t : Ty) : (tyO o t).all plainC = true := by simp [tyO, plainC, scal0]
@[go_sem] theorem store_ty {P : Program} {K : KK} {s : List Fr} {E : En} {H : Heap} {tk : List Nat} {dst : Option Nat} {os : List VOp} {keep : List Nat} {id ver off : Nat} {t : Ty} :
    runAct P (.store 4) [.ptr id ver off, .agg (tyC t)] tk dst os keep s E H K = storeA P (getCells H id ver) id ver off (tyC t) tk dst os keep s E H K :=
  store_agg (by rw [tyC_eq]; exact tyO_plain _ _) tyC_len.symm
@[go_sem] theorem put_ty {a b c d : V} {t : Ty} : put [a, b, c, d] 0 (tyC t) = tyC t := by rw [tyC_eq]; rfl
@[go_sem] theorem put_tyty {u t : Ty} : put (tyC u) 0 (tyC t) = tyC t := by rw [tyC_eq, tyC_eq]; rfl
theorem right_T (t : Ty) : Bd t → ∀ o : Bool, T Try.prog 27 [tyV o t] [] (.bool (rightB t)) [] := by
  induction t using Ty.ind with
  | h k n s xs ih =>
    intro hb o
    refine T.of0 mix c27 rfl ?_
    unfold v27
    simp only [tyV, tyO, Ty.k, Ty.n, Ty.s, Ty.as, go_sem, ↓reduceIte]
    generalize hL : WP Try.prog (VCode.loop _) _ _ _ = L
    have hl : rightB (Ty.mk k n s xs) = rightL xs → L := by
      intro hR
      rw [← hL]
      have hlen := hb.len
      refine WP.loop' (fun n' E H' => ∃ (i : Nat) (ex : List (Nat × V)), i + n' = xs.length ∧ rightL xs = rightL (xs.drop i) ∧
        E = ⟨(55, .sl false 4 (xs.map tyC)) :: (56, .int .i64 xs.length) :: (57, .int .i64 i) :: ex, .u⟩) (n := xs.length) ⟨0, _, by omega, rfl, rfl⟩ ?_
      rintro n' E H' ⟨i, ex, hi, hr, rfl⟩
      have hw := inc64 (i := i) (by omega)
      simp only [go_sem, ↓reduceIte, ↓ex_map, ↓run_addW, hw, Int.toNat_natCast]
      refine ⟨fun hlt => ?_, fun hge => ?_⟩
      · have hix : i < xs.length := by omega
        have hg := List.getElem?_eq_getElem hix
        have hd := rightL_drop hg
        refine ⟨by omega, _, hg, ?_⟩
        refine ⟨_, _, (ih _ (List.getElem_mem hix) (hb.arg _ (List.getElem_mem hix)) false).ty _, ?_⟩
        simp only [go_sem, ↓reduceIte, ↓run_addW, hw]
        refine ⟨fun h => ?_, fun h => ⟨n' - 1, by omega, i + 1, _, by omega, ?_, rfl⟩⟩
        · rw [hR, hr, hd]; simp at h; rw [h]; rfl
        · rw [hr, hd]; simp at h; rw [h]; rfl
      · have : i = xs.length := by omega
        rw [hR, hr, this, List.drop_length]; rfl
    clear hL
    have hR : rightB (Ty.mk k n s xs) = if k = 1 then decide (0 ≤ n ∧ n ≤ 1073741824) && s.isEmpty && xs.isEmpty else if k = 2 then !s.isEmpty && decide (n = 0) && rightL xs
      else if k = 3 then s.isEmpty && decide (n = 0) && decide (xs.length = 2) && rightL xs else false := by rw [rightB]
    have e1 : ((xs.length : Int) == 0) = xs.isEmpty := by cases xs <;> simp <;> omega
    have e2 : ((xs.length : Int) != 2) = !decide (xs.length = 2) := by
      by_cases h : xs.length = 2 <;> simp [h]; omega
    have e3 : (s == []) = s.isEmpty := by cases s <;> rfl
    rw [e1, e2, e3]
    by_cases h1 : k = 1
    · subst h1
      rw [if_pos rfl] at hR
      rw [hR]
      by_cases a : 0 ≤ n <;> by_cases b : n ≤ 1073741824 <;> cases s.isEmpty <;> cases xs.isEmpty <;> simp [a, b]
    · rw [if_neg h1] at hR
      by_cases h2 : k = 2
      · subst h2
        rw [if_pos rfl] at hR
        by_cases a : n = 0
        · cases hs : s.isEmpty
          · rw [hs] at hR
            have := hl (by rw [hR]; simp [a])
            simp [a, this]
          · rw [hs] at hR
            rw [hR]; simp [a]
        · rw [hR]; cases s.isEmpty <;> simp [a]
      · rw [if_neg h2] at hR
        by_cases h3 : k = 3
        · subst h3
          rw [if_pos rfl] at hR
          by_cases a : n = 0
          · by_cases b : xs.length = 2
            · cases hs : s.isEmpty
              · rw [hs] at hR; rw [hR]; simp [a]
              · rw [hs] at hR
                have := hl (by rw [hR]; simp [a, b])
                simp [a, b, this]
            · rw [hR]; cases hs : s.isEmpty <;> simp [a, b]
          · rw [hR]; cases s.isEmpty <;> simp [a]
        · rw [if_neg h3] at hR
          rw [hR]; simp [h1, h2, h3]
end Go.Proofs.Ytneonbdlgmaofaa.Vm
