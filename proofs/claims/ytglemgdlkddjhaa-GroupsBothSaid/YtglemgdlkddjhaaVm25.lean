/-
The value machine, part 25: what must hold ahead, so that this holds behind.
-/
import Derived.Test.YtglemgdlkddjhaaVm23
namespace Go.Proofs.Ytglemgdlkddjhaa.Vm
open Go

/-- What an operation on numbers answers. -/
def intW (op : BinOp) (k : IntKind) (a b : Int) (K : V → Prop) : Prop := match op with
  | .add => ∃ z, z = k.wrap (a + b) ∧ K (.int k z)
  | .sub => ∃ z, z = k.wrap (a - b) ∧ K (.int k z)
  | .mul => ∃ z, z = k.wrap (a * b) ∧ K (.int k z)
  | .quo => b ≠ 0 ∧ ∃ z, z = k.wrap (a.tdiv b) ∧ K (.int k z)
  | .rem => b ≠ 0 ∧ ∃ z, z = k.wrap (a.tmod b) ∧ z = a.tmod b ∧ K (.int k z)
  | .eql => K (.bool (a == b))
  | .neq => K (.bool (a != b))
  | .lss => K (.bool (a < b))
  | .leq => K (.bool (a ≤ b))
  | .gtr => K (.bool (a > b))
  | .geq => K (.bool (a ≥ b))
  | _ => False
theorem intW_sound {op : BinOp} {k : IntKind} {a b : Int} {K : V → Prop} (h : intW op k a b K) : ∃ v, binInt op k a b = some v ∧ K v := by
  unfold intW at h
  split at h
  · obtain ⟨z, rfl, h⟩ := h; exact ⟨_, rfl, h⟩
  · obtain ⟨z, rfl, h⟩ := h; exact ⟨_, rfl, h⟩
  · obtain ⟨z, rfl, h⟩ := h; exact ⟨_, rfl, h⟩
  · obtain ⟨h0, z, rfl, h⟩ := h; exact ⟨_, by unfold binInt; simp [h0], h⟩
  · obtain ⟨h0, z, _, rfl, h⟩ := h; exact ⟨_, by unfold binInt; simp [h0], h⟩
  · exact ⟨_, rfl, h⟩
  · exact ⟨_, rfl, h⟩
  · exact ⟨_, rfl, h⟩
  · exact ⟨_, rfl, h⟩
  · exact ⟨_, rfl, h⟩
  · exact ⟨_, rfl, h⟩
  · exact h.elim

def cellsW (H : Heap) (id ver off n : Nat) (K : List V → List V → Prop) : Prop := ∃ cs, getCells H id ver = some cs ∧ off + n ≤ cs.length ∧ K cs ((cs.drop off).take n)
theorem cellsW_sound {H : Heap} {id ver off n : Nat} {K : List V → List V → Prop} (h : cellsW H id ver off n K) : ∃ cs l, getCells H id ver = some cs ∧ cut cs off n = some l ∧ off + n ≤ cs.length ∧ K cs l := by
  obtain ⟨cs, h1, h2, h3⟩ := h
  exact ⟨cs, _, h1, by simp [cut, h2], h2, h3⟩

def mkW : Bool → List V → (V → Prop) → Prop
  | true, l, K => K (.agg l)
  | false, l, K => ∃ v, l = [v] ∧ K v
theorem mkW_sound {b : Bool} {l : List V} {K : V → Prop} (h : mkW b l K) : ∃ v, mk b l = some v ∧ K v := by
  cases b with
  | true => exact ⟨_, rfl, h⟩
  | false => obtain ⟨v, rfl, h⟩ := h; exact ⟨v, rfl, h⟩

def boundsW (lo hi : Bool) (n : Nat) (bs : List V) (K : Nat → Nat → Prop) : Prop := match lo, hi, bs with
  | false, false, [] => K 0 n
  | true, false, [.int _ x] => 0 ≤ x ∧ x ≤ n ∧ K x.toNat n
  | false, true, [.int _ x] => 0 ≤ x ∧ x ≤ n ∧ K 0 x.toNat
  | true, true, [.int _ l, .int _ h] => 0 ≤ l ∧ l ≤ h ∧ h ≤ n ∧ K l.toNat h.toNat
  | _, _, _ => False
theorem boundsW_sound {lo hi : Bool} {n : Nat} {bs : List V} {K : Nat → Nat → Prop} (h : boundsW lo hi n bs K) : ∃ p, bounds lo hi n bs = some p ∧ K p.1 p.2 := by
  unfold boundsW at h
  split at h
  · exact ⟨(0, n), rfl, h⟩
  · obtain ⟨h1, h2, h⟩ := h; exact ⟨_, by simp [bounds, h1, h2]; rfl, h⟩
  · obtain ⟨h1, h2, h⟩ := h; exact ⟨_, by simp [bounds, h1, h2]; rfl, h⟩
  · obtain ⟨h1, h2, h3, h⟩ := h; exact ⟨_, by simp [bounds, h1, h2, h3]; rfl, h⟩
  · exact h.elim

/-- Each act: what must hold, so that K holds of its answer. -/
def actW (a : Act) (vs : List V) (H : Heap) (K : V → Heap → Prop) : Prop := match a, vs with
  | .mv, [v] => K v H
  | .pick, [.bool c, x, y] => (c = true → K x H) ∧ (c = false → K y H)
  | .bin op, [.int j a, .int k b] => j = k ∧ intW op j a b fun v => K v H
  | .bin op, [.str a, .str b] => ∃ v, binStr op a b = some v ∧ K v H
  | .eqc ne agg ks, [x, y] => ∃ b, eqV ks agg x y = some b ∧ K (.bool (b != ne)) H
  | .isNil ne, [x, y] => ∃ b, nilOf x y = some b ∧ K (.bool (b != ne)) H
  | .not, [.bool b] => K (.bool !b) H
  | .neg, [.int k n] => ∃ z, z = k.wrap (0 - n) ∧ K (.int k z) H
  | .conv k, [.int _ n] => ∃ z, z = k.wrap n ∧ K (.int k z) H
  | .same, [.str s] => K (.str s) H
  | .alloc zs, [] => K (.ptr H.length 0 0) (H ++ [.cells 0 zs])
  | .load n agg, [.ptr id ver off] => cellsW H id ver off n fun _ l => mkW agg (l.map strip0) fun v => K v H
  | .load n agg, [.cptr cs] => n ≤ cs.length ∧ mkW agg (cs.take n) fun v => K v H
  | .loadT n agg, [.ptr id ver off] => cellsW H id ver off n fun cs l => mkW agg l fun v => K v (H.set id (.cells ver (put cs off (l.map strip0))))
  | .nilCheck, [.ptr id ver off] => K (.ptr id ver off) H
  | .nilCheck, [.cptr cs] => K (.cptr cs) H
  | .nilCheck, [.fn f cs] => K (.fn f cs) H
  | .fieldAddr off, [.ptr id ver o] => K (.ptr id ver (o + off)) H
  | .fieldAddr off, [.cptr cs] => K (.cptr (cs.drop off)) H
  | .field off n agg, [.agg cs] => off + n ≤ cs.length ∧ mkW agg ((cs.drop off).take n) fun v => K v H
  | .indexAddr sz, [.sl _ z xs, .int _ i] => z = sz ∧ 0 ≤ i ∧ ∃ x, xs[i.toNat]? = some x ∧ K (.cptr x) H
  | .indexAddr sz, [.hsl id ver off ln z, .int _ i] => z = sz ∧ 0 ≤ i ∧ i < ln ∧ K (.ptr id ver (off + i.toNat * sz)) H
  | .indexStr, [.str s, .int _ i] => 0 ≤ i ∧ ∃ b, s[i.toNat]? = some b ∧ K (.int .u8 b.toNat) H
  | .slice lo hi sz, .sl _ z xs :: bs => z = sz ∧ boundsW lo hi xs.length bs fun l h => K (.sl false z ((xs.take h).drop l)) H
  | .append sz bytes, [.sl true z xs, .sl _ z' ys] => z = sz ∧ z' = sz ∧ fits (xs.length + ys.length) bytes ∧ K (.sl true z (xs ++ ys)) H
  | .len, [.sl _ _ xs] => K (.int .i64 xs.length) H
  | .len, [.nilh _] => K (.int .i64 0) H
  | .len, [.hsl _ _ _ ln _] => K (.int .i64 ln) H
  | .lenStr, [.str s] => K (.int .i64 s.length) H
  | .extract i, [.tup vs] => ∃ v, vs[i]? = some v ∧ K v H
  | .min, [.int j a, .int k b] => j = k ∧ K (.int j (if b < a then b else a)) H
  | .max, [.int j a, .int k b] => j = k ∧ K (.int j (if b > a then b else a)) H
  | .mkfn f, vs => K (.fn f vs) H
  | a, vs => ∃ r H', a.sem vs H = some (r, H') ∧ K r H'

theorem actW_sound {a : Act} {vs : List V} {H : Heap} {K : V → Heap → Prop} (h : actW a vs H K) : ∃ r H', a.sem vs H = some (r, H') ∧ K r H' := by
  unfold actW at h
  split at h
  · exact ⟨_, _, rfl, h⟩
  · rename_i c x y
    cases c with
    | true => exact ⟨_, _, rfl, h.1 rfl⟩
    | false => exact ⟨_, _, rfl, h.2 rfl⟩
  · obtain ⟨rfl, h⟩ := h; obtain ⟨v, h1, h2⟩ := intW_sound h; exact ⟨v, H, by simp [Act.sem, sBin, h1], h2⟩
  · obtain ⟨v, h1, h2⟩ := h; exact ⟨v, H, by simp [Act.sem, sBin, h1], h2⟩
  · obtain ⟨v, h1, h2⟩ := h; exact ⟨_, H, by simp [Act.sem, sEqc, h1], h2⟩
  · obtain ⟨v, h1, h2⟩ := h; exact ⟨_, H, by simp [Act.sem, sIsNil, h1], h2⟩
  · exact ⟨_, _, rfl, h⟩
  · obtain ⟨z, rfl, h⟩ := h; exact ⟨_, _, rfl, h⟩
  · obtain ⟨z, rfl, h⟩ := h; exact ⟨_, _, rfl, h⟩
  · exact ⟨_, _, rfl, h⟩
  · exact ⟨_, _, rfl, h⟩
  · obtain ⟨cs, l, h1, h2, _, h⟩ := cellsW_sound h
    obtain ⟨v, h3, h⟩ := mkW_sound h
    exact ⟨v, H, by simp [Act.sem, sLoad, h1, h2, h3], h⟩
  · obtain ⟨h1, h⟩ := h
    obtain ⟨v, h3, h⟩ := mkW_sound h
    exact ⟨v, H, by simp [Act.sem, sLoad, cut, h1, h3], h⟩
  · obtain ⟨cs, l, h1, h2, _, h⟩ := cellsW_sound h
    obtain ⟨v, h3, h⟩ := mkW_sound h
    exact ⟨v, _, by simp [Act.sem, sLoadT, h1, h2, h3], h⟩
  · exact ⟨_, _, rfl, h⟩
  · exact ⟨_, _, rfl, h⟩
  · exact ⟨_, _, rfl, h⟩
  · exact ⟨_, _, rfl, h⟩
  · exact ⟨_, _, rfl, h⟩
  · obtain ⟨h1, h⟩ := h
    obtain ⟨v, h3, h⟩ := mkW_sound h
    exact ⟨v, H, by simp [Act.sem, sField, cut, h1, h3], h⟩
  · obtain ⟨rfl, h1, x, h2, h⟩ := h; exact ⟨_, H, by simp [Act.sem, sIndexAddr, h1, h2], h⟩
  · obtain ⟨rfl, h1, h2, h⟩ := h; exact ⟨_, H, by simp [Act.sem, sIndexAddr, h1, h2], h⟩
  · obtain ⟨h1, b, h2, h⟩ := h; exact ⟨_, H, by simp [Act.sem, sIndexStr, h1, h2], h⟩
  · obtain ⟨rfl, h⟩ := h
    obtain ⟨p, h1, h⟩ := boundsW_sound h
    exact ⟨_, H, by simp [Act.sem, sSlice, h1], h⟩
  · obtain ⟨rfl, rfl, h1, h⟩ := h; exact ⟨_, H, by simp [Act.sem, sAppend, h1], h⟩
  · exact ⟨_, _, rfl, h⟩
  · exact ⟨_, _, rfl, h⟩
  · exact ⟨_, _, rfl, h⟩
  · exact ⟨_, _, rfl, h⟩
  · obtain ⟨v, h1, h⟩ := h; exact ⟨v, H, by simp [Act.sem, sExtract, h1], h⟩
  · obtain ⟨rfl, h⟩ := h; exact ⟨_, H, by simp [Act.sem, sMin], h⟩
  · obtain ⟨rfl, h⟩ := h; exact ⟨_, H, by simp [Act.sem, sMax], h⟩
  · exact ⟨_, _, rfl, h⟩
  · exact h

/-- An environment that is a list. -/
def LE (l : List (Nat × V)) : En := ⟨l, .u⟩
def wantedW (g : Option (Nat × Bool)) (E : En) (K : Bool → Prop) : Prop := match g with
  | none => K true
  | some (g, b) => match getE E.l E.d g with
    | .bool c => (c = b → K true) ∧ (c ≠ b → K false)
    | .tup _ => K false
    | _ => False

def argsW (E : En) (tk : List Nat) : List Opnd → List V
  | [] => []
  | .c v :: l => v :: argsW E tk l
  | .t i :: l => (if tk.contains i then getE E.l E.d i else strip (getE E.l E.d i)) :: argsW E tk l
theorem argsW_eq (E : En) (tk : List Nat) : ∀ l, argsW E tk l = l.map (evalA E.f tk)
  | [] => rfl
  | .c v :: l => by rw [argsW, argsW_eq E tk l]; rfl
  | .t i :: l => by rw [argsW, argsW_eq E tk l]; simp [evalA, En.f]

def stepW (P : Program) (o : VOp) (E : En) (H : Heap) (K : En → Heap → Prop) : Prop :=
  wantedW o.guard E fun y => match y with
    | false => K (E.setO o.dst (.tup [])) H
    | true => match o.act with
      | .call b => (match argsW E o.take o.args with
        | .fn f caps :: rest => ∃ r H', T P f (rest ++ caps) H r H' ∧ (b = true → H' = H) ∧ K ((stripEn o.take E).setO o.dst r) H'
        | _ => False)
      | a => actW a (argsW E o.take o.args) H fun r H' => K ((stripEn o.take E).setO o.dst r) H'
def opsW (P : Program) : List VOp → En → Heap → (En → Heap → Prop) → Prop
  | [], E, H, K => K E H
  | o :: os, E, H, K => stepW P o E H fun E' H' => opsW P os E' H' K

theorem wantedW_sound {o : VOp} {E : En} {K : Bool → Prop} (h : wantedW o.guard E K) : ∃ y, o.wanted E.f = some y ∧ K y := by
  unfold wantedW at h
  unfold VOp.wanted
  split at h
  · rename_i hg; rw [hg]; exact ⟨_, rfl, h⟩
  · rename_i g b hg
    rw [hg]
    simp only [En.f]
    split at h
    · rename_i c hc
      rw [hc]
      simp only
      by_cases hcb : c = b
      · exact ⟨true, by simp [hcb], h.1 hcb⟩
      · exact ⟨false, by simp [hcb], h.2 hcb⟩
    · rename_i hc; rw [hc]; exact ⟨_, rfl, h⟩
    · exact h.elim

theorem stepW_sound {P : Program} {o : VOp} {E : En} {H : Heap} {K : En → Heap → Prop} (h : stepW P o E H K) : ∃ E' H', VStep P o E.f H E'.f H' ∧ K E' H' := by
  obtain ⟨y, hw, h⟩ := wantedW_sound h
  cases y with
  | false => exact ⟨_, _, ⟨none, .skip hw, by rw [En.setO_f]; rfl⟩, h⟩
  | true =>
    simp only at h
    split at h
    · rename_i b ha
      split at h
      · rename_i f caps rest hv
        obtain ⟨r, H', ht, hp, h⟩ := h
        rw [argsW_eq] at hv
        exact ⟨_, _, ⟨some r, .call b f caps rest hw ha hv ht hp, by rw [En.setO_f, stripEn_f]; rfl⟩, h⟩
      · exact h.elim
    · obtain ⟨r, H', hs, h⟩ := actW_sound h
      rw [argsW_eq] at hs
      exact ⟨_, _, ⟨some r, .act hw hs, by rw [En.setO_f, stripEn_f]; rfl⟩, h⟩

theorem opsW_sound {P : Program} : ∀ {os : List VOp} {E : En} {H : Heap} {K : En → Heap → Prop}, opsW P os E H K → ∃ E' H', VRun P os E.f H E'.f H' ∧ K E' H'
  | [], E, H, _, h => ⟨E, H, .nil, h⟩
  | o :: os, E, H, K, h => by
    obtain ⟨E1, H1, h1, h2⟩ := stepW_sound h
    obtain ⟨E2, H2, h3, h4⟩ := opsW_sound h2
    exact ⟨E2, H2, .cons h1 h3, h4⟩

/-- The code runs, and K holds of where it ends. -/
def WP (P : Program) (vc : VCode) (E : En) (H : Heap) (K : X → En → Heap → Prop) : Prop := ∃ x E' H', VExec P vc E.f H x E'.f H' ∧ K x E' H'

def keepS (E : En) (ks : List Nat) : En := LE (ks.map fun i => (i, getE E.l E.d i))
theorem keepS_f (E : En) (ks : List Nat) : (keepS E ks).f = keepE ks E.f := by
  rw [← En.keep_f]
  funext j
  show getE _ _ j = getE _ _ j
  congr 1
  show ks.map _ = keepL E.l E.d ks
  induction ks with
  | nil => rfl
  | cons k ks ih => rw [List.map_cons, ih, keepL, forceV_eq]

section
variable {P : Program} {E : En} {H : Heap} {K : X → En → Heap → Prop}

theorem WP.region {ops : List VOp} {keep : List Nat} (h : opsW P ops E H fun E' H' => K .normal (keepS E' keep) H') : WP P (.region ops keep) E H K := by
  obtain ⟨E1, H1, h1, h2⟩ := opsW_sound h
  exact ⟨_, _, _, by rw [keepS_f]; exact .region h1, h2⟩
theorem WP.seq {a b : VCode} (h : WP P a E H fun x E' H' => match x with | .normal => WP P b E' H' K | x => K x E' H') : WP P (.seq a b) E H K := by
  obtain ⟨x, E1, H1, h1, h2⟩ := h
  cases x with
  | normal => obtain ⟨x, E2, H2, h3, h4⟩ := h2; exact ⟨x, E2, H2, .seq h1 h3, h4⟩
  | exit id => exact ⟨_, _, _, .seqX h1 (by simp), h2⟩
  | ret => exact ⟨_, _, _, .seqX h1 (by simp), h2⟩
theorem WP.cond {c : Opnd} {a b : VCode} (y : Bool) (hc : evalA E.f [] c = .bool y) (h1 : y = true → WP P a E H K) (h2 : y = false → WP P b E H K) : WP P (.cond c a b) E H K := by
  cases y with
  | true => obtain ⟨x, E1, H1, k1, k2⟩ := h1 rfl; exact ⟨x, E1, H1, .cond (y := true) hc k1, k2⟩
  | false => obtain ⟨x, E1, H1, k1, k2⟩ := h2 rfl; exact ⟨x, E1, H1, .cond (y := false) hc k1, k2⟩
theorem WP.skip (h : K .normal E H) : WP P .skip E H K := ⟨_, _, _, .skip, h⟩
theorem WP.label (h : K .normal E H) : WP P .label E H K := ⟨_, _, _, .label, h⟩
theorem WP.exit {id : Nat} (h : K (.exit id) E H) : WP P (.exit id) E H K := ⟨_, _, _, .exit id, h⟩
theorem WP.ret (h : K .ret E H) : WP P .ret E H K := ⟨_, _, _, .ret, h⟩
theorem WP.scope {a : VCode} (h : WP P a E H K) : WP P (.scope a) E H K := by
  obtain ⟨x, E1, H1, h1, h2⟩ := h; exact ⟨_, _, _, .scope h1, h2⟩
theorem WP.block {id : Nat} {a : VCode} (h : WP P a E H fun x E' H' => K (unblock id x) E' H') : WP P (.block id a) E H K := by
  obtain ⟨x, E1, H1, h1, h2⟩ := h; exact ⟨_, _, _, .block h1, h2⟩
/-- A loop: what holds at each round's start, and a number that falls. -/
theorem WP.loop {a : VCode} (I : Nat → En → Heap → Prop) (step : ∀ n E H, I n E H → WP P a E H fun x E' H' => match x with | .normal => ∃ m, m < n ∧ I m E' H' | x => K x E' H') {n : Nat} (h : I n E H) : WP P (.loop a) E H K := by
  induction n using Nat.strongRecOn generalizing E H with
  | ind n ih =>
    obtain ⟨x, E1, H1, h1, h2⟩ := step n E H h
    cases x with
    | normal =>
      obtain ⟨m, hm, hI⟩ := h2
      obtain ⟨x, E2, H2, h3, h4⟩ := ih m hm hI
      exact ⟨x, E2, H2, .loop h1 h3, h4⟩
    | exit id => exact ⟨_, _, _, .loopX h1 (by simp), h2⟩
    | ret => exact ⟨_, _, _, .loopX h1 (by simp), h2⟩
theorem WP.mono {vc : VCode} {K' : X → En → Heap → Prop} (h : WP P vc E H K) (hk : ∀ x E' H', K x E' H' → K' x E' H') : WP P vc E H K' := by
  obtain ⟨x, E1, H1, h1, h2⟩ := h; exact ⟨x, E1, H1, h1, hk _ _ _ h2⟩

/-- A function that leaves the heap as it was, and all that it made behind. -/
theorem T.of_wp (hmix : P.follows .mixedOrders = true) {f : Nat} {vf : VFunc} (hc : chkFn P f vf = true) {args : List V} (hl : args.length ≤ vf.n) {r : V}
    (h : WP P vf.body ⟨args.zipIdx.map fun p => (p.2, p.1), .tup []⟩ H fun x E' H' => (∀ id, x ≠ .exit id) ∧ H.length ≤ H'.length ∧ (∀ (i : Nat) (ob : Obj), i < H.length → H'[i]? = some ob → H[i]? = some ob) ∧ ∃ r0, resV H.length H' E'.f vf.results = some r0 ∧ fixV H.length H' 8 r0 = some r) : T P f args H r H := by
  obtain ⟨x, E1, H1, h1, h2, h3, h4, r0, h5, h6⟩ := h
  rw [env0_eq] at h1
  have := T_of hmix hc hl h1 h2 (m := H.length) (Nat.le_refl _) h3 h5 h6 (fun i ob hi hob => .inl (h4 i ob hi hob))
  have htake : H1.take H.length = H := by
    apply List.ext_getElem?
    intro i
    by_cases hi : i < H.length
    · rw [take_get hi]
      have hlt : i < H1.length := by omega
      rw [List.getElem?_eq_getElem hlt]
      exact (h4 i _ hi (List.getElem?_eq_getElem hlt)).symm
    · rw [List.getElem?_eq_none (by simp; omega), List.getElem?_eq_none (by omega)]
  rwa [htake] at this
/-- The same where nothing is made. -/
theorem T.of_pure (hmix : P.follows .mixedOrders = true) {f : Nat} {vf : VFunc} (hc : chkFn P f vf = true) {args : List V} (hl : args.length ≤ vf.n) {r : V}
    (h : WP P vf.body ⟨args.zipIdx.map fun p => (p.2, p.1), .tup []⟩ H fun x E' H' => (∀ id, x ≠ .exit id) ∧ H' = H ∧ ∃ r0, resV H.length H E'.f vf.results = some r0 ∧ fixV H.length H 8 r0 = some r) : T P f args H r H := by
  refine T.of_wp hmix hc hl (h.mono ?_)
  rintro x E' H' ⟨h1, rfl, r0, h2, h3⟩
  exact ⟨h1, Nat.le_refl _, fun _ _ _ h => h, r0, h2, h3⟩
end
end Go.Proofs.Ytglemgdlkddjhaa.Vm
